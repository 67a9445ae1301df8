/-
  Layer 29, the laws: the chapter's rows.
-/
import Derived.Test.YtpmmbjcgabnloaaZ4
import Derived.Deep.Strs
import Derived.Deep.Slices
import Derived.WalkKit
import Derived.ProofKit
import Derived.OpenShut
import Derived.JoinedCond
import Derived.Carry
set_option linter.unusedSimpArgs false
set_option linter.unusedVariables false
namespace Go.Proofs.Ytpmmbjcgabnloaa
set_option linter.unusedSimpArgs false
set_option linter.unusedVariables false
open Go.Sx
set_option maxHeartbeats 8000000
set_option maxRecDepth 20000
def prV (a b : Int) : VT := .mk 3 0 [.mk 2 a [], .mk 2 b []]
def opW (k a r fr to : Int) : Op := ⟨0, k, .mk 2 a [], .mk 2 r [], fr, to, true⟩
def i64B (n : Int) : Bool := decide (-9223372036854775808 ≤ n) && decide (n ≤ 9223372036854775807)
theorem opl_rep (th kd ak an rk rn fr to : Int) (dn : Bool) (G : Hp) (h : (i64B th && i64B kd && i64B ak && i64B an && i64B rk && i64B rn && i64B fr && i64B to) = true) : (⟨th, kd, .mk ak an [], .mk rk rn [], fr, to, dn⟩ : Op).rep G (.slice none 0 0) (.slice none 0 0) := by
  simp only [i64B, Bool.and_eq_true, decide_eq_true_eq] at h
  obtain ⟨⟨⟨⟨⟨⟨⟨h1, h2⟩, h3⟩, h4⟩, h5⟩, h6⟩, h7⟩, h8⟩ := h
  exact ⟨⟨h1, h2, h7, h8, by simp [tsz, tszL], by simp [tsz, tszL]⟩, rep_leaf _ _ _ h3 h4, rep_leaf _ _ _ h5 h6⟩
theorem wdo_ok (G : Hp) : PureV Try.prog 17 [.int .i64 2, .agg #[.slice none 0 0, .slice none 0 0], .agg #[.int .i64 0, .int .i64 1, .int .i64 2, .int .i64 0, .slice none 0 0, .int .i64 2, .int .i64 1, .slice none 0 0, .int .i64 2, .int .i64 3, .bool true]] G (doRet (⟨[], []⟩, noneV, false, 0)) := by
  rw [← show doR 2 ⟨[], []⟩ (opW 1 0 1 2 3) = (⟨[], []⟩, noneV, false, 0) by kernel_rfl]
  exact hDo_ok 2 ⟨[], []⟩ (.slice none 0 0) (.slice none 0 0) (opW 1 0 1 2 3) (.slice none 0 0) (.slice none 0 0) G ⟨Rp.S_nil _ _, Rp.S_nil _ _⟩ (opl_rep _ _ _ _ _ _ _ _ _ _ (by decide)) (by simp) (by simp)
theorem works29_ok (G : Hp) : Pure Try.prog 9 [] G (fun v _ => v = .bool true) := by
  refine enterX ty tyok Try.func9 rfl Try.ntmps9 [] (by simp) ?_
  intro C hP hQ hnt hty hmb hmh hro; have hQp := qp_body hQ; refine st_ ?_
  refine rn_ ?_; intros
  refine go_call (by rw [hnt]; rfl) (by rw [hP]; kernel_rfl) rfl (hP ▸ pair_ok 0 5 _ (by simp [isI64]) (by simp [isI64])) ?_
  rintro v G1 (hle1 : Le G G1) ⟨s1, rfl, hr1⟩
  obtain ⟨s1a, s1c, rfl⟩ := VT.rep_slice hr1
  simp only [lEq, List.length_cons, List.length_nil, Nat.reduceAdd] at hr1 ⊢
  refine rn_ ?_; intros
  refine go_call (by rw [hnt]; rfl) (by rw [hP]; kernel_rfl) rfl (hP ▸ pair_ok 1 1 _ (by simp [isI64]) (by simp [isI64])) ?_
  rintro v G2 (hle2 : Le G1 G2) ⟨s2, rfl, hr2⟩
  obtain ⟨s2a, s2c, rfl⟩ := VT.rep_slice hr2
  simp only [lEq, List.length_cons, List.length_nil, Nat.reduceAdd] at hr2 ⊢
  refine rn_ ?_; intros
  rename_i bx
  refine go_pub 0 rfl (by omega) ?_
  intro G3 (hle3 : Le G2 G3) hG
  have hat := at_block hG
  simp only [dens, SV.den] at hat
  refine go_slot 33 (.v (.slice (some ⟨bx, 0, none⟩) 2 2)) rfl (by simp [SV.den]) ?_
  refine st_ ?_
  have hM1 : rMk.S G3 [⟨1, 0, prV 0 5⟩, ⟨4, 0, prV 1 1⟩] (.slice (some ⟨bx, 0, none⟩) 2 2) := ⟨by simp, _, _, rfl, .inr ⟨_, _, _, rfl, hat, [_, _, _, _, _], [_, _, _, _, _], rfl, ⟨_, rfl, VT.rep_mono (hle2.trans hle3) hr1, by decide, by simp [isI64], by simp [isI64]⟩, [_, _, _, _, _], [], rfl, ⟨_, rfl, VT.rep_mono hle3 hr2, by decide, by simp [isI64], by simp [isI64]⟩, rfl⟩⟩
  refine go_call (by rw [hnt]; rfl) (by rw [hP]; kernel_rfl) rfl (hP ▸ hOf_ok _ _ G3 hM1 (by simp)) ?_
  rintro v G4 (hle4 : Le G3 G4) hv
  rw [show ofP [⟨1, 0, prV 0 5⟩, ⟨4, 0, prV 1 1⟩] 0 [] = some [opW 0 5 1 1 4] by kernel_rfl] at hv
  obtain ⟨slo, rfl, hSo⟩ := hv
  obtain ⟨ao, co, e0⟩ := Rp.S_slice hSo
  subst e0
  clear hM1 hat
  refine rn_ ?_; intros
  refine go_keep [0, 1, 2] [] ?_
  refine st_ ?_
  refine go_call (by rw [hnt]; rfl) (by rw [hP]; kernel_rfl) rfl (hP ▸ pair_ok 1 5 _ (by simp [isI64]) (by simp [isI64])) ?_
  rintro v G5 (hle5 : Le G4 G5) ⟨s3, rfl, hr3⟩
  obtain ⟨s3a, s3c, rfl⟩ := VT.rep_slice hr3
  simp only [lEq, List.length_cons, List.length_nil, Nat.reduceAdd] at hr3 ⊢
  refine rn_ ?_; intros
  rename_i bx
  refine go_pub 0 rfl (by omega) ?_
  intro G6 (hle6 : Le G5 G6) hG
  have hat := at_block hG
  simp only [dens, SV.den] at hat
  refine go_slot 40 (.v (.slice (some ⟨bx, 0, none⟩) 1 1)) rfl (by simp [SV.den]) ?_
  refine st_ ?_
  have hM1 : rMk.S G6 [⟨1, 0, prV 1 5⟩] (.slice (some ⟨bx, 0, none⟩) 1 1) := ⟨by simp, _, _, rfl, .inr ⟨_, _, _, rfl, hat, [_, _, _, _, _], [], rfl, ⟨_, rfl, VT.rep_mono hle6 hr3, by decide, by simp [isI64], by simp [isI64]⟩, rfl⟩⟩
  refine go_call (by rw [hnt]; rfl) (by rw [hP]; kernel_rfl) rfl (hP ▸ hOf_ok _ _ G6 hM1 (by simp)) ?_
  rintro v G7 (hle7 : Le G6 G7) hv
  rw [show ofP [⟨1, 0, prV 1 5⟩] 0 [] = none by kernel_rfl] at hv
  subst hv
  clear hM1 hat
  refine rn_ ?_; intros
  refine go_keep [0, 1, 2, 3, 4] [] ?_
  refine st_ ?_
  refine go_call (by rw [hnt]; rfl) (by rw [hP]; kernel_rfl) rfl (hP ▸ pair_ok 0 5 _ (by simp [isI64]) (by simp [isI64])) ?_
  rintro v G8 (hle8 : Le G7 G8) ⟨s4, rfl, hr4⟩
  obtain ⟨s4a, s4c, rfl⟩ := VT.rep_slice hr4
  simp only [lEq, List.length_cons, List.length_nil, Nat.reduceAdd] at hr4 ⊢
  refine rn_ ?_; intros
  rename_i bx
  refine go_pub 0 rfl (by omega) ?_
  intro G9 (hle9 : Le G8 G9) hG
  have hat := at_block hG
  simp only [dens, SV.den] at hat
  refine go_slot 49 (.v (.slice (some ⟨bx, 0, none⟩) 2 2)) rfl (by simp [SV.den]) ?_
  refine st_ ?_
  have hM1 : rMk.S G9 [⟨1, 0, prV 0 5⟩, ⟨0, 0, unitV⟩] (.slice (some ⟨bx, 0, none⟩) 2 2) := ⟨by simp, _, _, rfl, .inr ⟨_, _, _, rfl, hat, [_, _, _, _, _], [_, _, _, _, _], rfl, ⟨_, rfl, VT.rep_mono hle9 hr4, by decide, by simp [isI64], by simp [isI64]⟩, [_, _, _, _, _], [], rfl, ⟨_, rfl, rep_leaf _ 1 0 (by simp [isI64]) (by simp [isI64]), by decide, by simp [isI64], by simp [isI64]⟩, rfl⟩⟩
  refine go_call (by rw [hnt]; rfl) (by rw [hP]; kernel_rfl) rfl (hP ▸ hOf_ok _ _ G9 hM1 (by simp)) ?_
  rintro v G10 (hle10 : Le G9 G10) hv
  rw [show ofP [⟨1, 0, prV 0 5⟩, ⟨0, 0, unitV⟩] 0 [] = none by kernel_rfl] at hv
  subst hv
  clear hM1 hat
  refine rn_ ?_; intros
  refine go_keep [0, 1, 2, 3, 4, 5, 6] [] ?_
  refine st_ ?_
  have hle410 : Le G4 G10 := hle5.trans (hle6.trans (hle7.trans (hle8.trans (hle9.trans hle10))))
  have hSo2 := Rp.S_mono hle410 hSo
  refine rn_ ?_; intros
  refine x_draw rfl (by rw [hP]; kernel_rfl) rfl (by kernel_rfl) ?_
  refine runq 400 hty hnt ?_; refine st_ ?_
  refine q_callf (by rw [hnt]; rfl) (by rw [hP]; kernel_rfl) rfl (hP ▸ num_ok 0 _) ?_; refine runq 400 hty hnt ?_; refine st_ ?_
  (refine go_qsplit rfl rfl (fun hc => absurd hc (by decide)) (fun _ => ?_); refine st_ ?_; (try (refine runq 400 hty hnt ?_; refine st_ ?_)))
  (refine go_qsplit rfl rfl (fun hc => absurd hc (by decide)) (fun _ => ?_); refine st_ ?_; (try (refine runq 400 hty hnt ?_; refine st_ ?_)))
  obtain ⟨bo, oo, sa, sr, hao, hato, hor⟩ := rO_at hSo2 (i := 0) (by simp)
  subst hao
  obtain ⟨asa, csa, rfl⟩ := VT.rep_slice hor.a
  obtain ⟨asr, csr, rfl⟩ := VT.rep_slice hor.r
  refine q_q (v := .pointer (some ⟨bo, oo, none⟩)) (by rw [hnt]; rfl) ((quiet_index (k := .i64) (n := 0) (by rw [hty]; rfl) (by rw [hty]; rfl) rfl rfl rfl (by omega) (by simp)).cast (by simp)) ?_
  refine runq 400 hty hnt ?_; refine st_ ?_
  refine q_q (v := .agg (opL (opW 0 5 1 1 4) (.slice asa 0 csa) (.slice asr 0 csr)).toArray) (by rw [hnt]; rfl) ((quiet_load (by rw [hty]; rfl) rfl (fun q => by cases q) (by simpa using hato) rfl).cast (by simp only [ldV]; rfl)) ?_
  simp only [opL, opW, kEq, nEq]
  refine runq 400 hty hnt ?_; refine st_ ?_
  refine q_callf (by rw [hnt]; rfl) (by rw [hP]; kernel_rfl) rfl (hP ▸ of_ok 0 5 1 1 4 _) ?_; refine runq 400 hty hnt ?_; refine st_ ?_
  simp only [opL, kEq, nEq]
  refine runq 400 hty hnt ?_; refine st_ ?_
  refine q_callf (by rw [hnt]; rfl) (by rw [hP]; kernel_rfl) rfl (hP ▸ rsame_ok (opW 0 5 1 1 4) (opW 0 5 1 1 4) _ _ _ _ G10 hor (opl_rep _ _ _ _ _ _ _ _ _ _ (by decide))) ?_; refine runq 400 hty hnt ?_; refine st_ ?_
  rw [show opEq (opW 0 5 1 1 4) (opW 0 5 1 1 4) = true by kernel_rfl]
  (refine go_qsplit rfl rfl (fun hc => absurd hc (by decide)) (fun _ => ?_); refine st_ ?_; (try (refine runq 400 hty hnt ?_; refine st_ ?_)))
  refine q_callf (by rw [hnt]; rfl) (by rw [hP]; kernel_rfl) rfl (hP ▸ num_ok 290 _) ?_; refine runq 400 hty hnt ?_; refine st_ ?_
  (refine go_qsplit rfl rfl (fun hc => absurd hc (by decide)) (fun _ => ?_); refine st_ ?_; (try (refine runq 400 hty hnt ?_; refine st_ ?_)))
  refine q_callf (by rw [hnt]; rfl) (by rw [hP]; kernel_rfl) rfl (hP ▸ num_ok 290 _) ?_; refine runq 400 hty hnt ?_; refine st_ ?_
  refine q_end ?_; refine rn_ ?_; intros
  (refine x_split rfl rfl rfl (fun hc => absurd hc (by first | decide +kernel | (simp; first | done | fail))) (fun _ => ?_); refine st_ ?_; (refine ru_ ?_; intros))
  refine rn_ ?_; intros
  refine go_keep [0, 7] [0] ?_
  refine st_ ?_
  rename_i b7
  refine go_callf (by rw [hnt]; rfl) (by rw [hP]; kernel_rfl) rfl (hP ▸ of_ok 0 1 0 1 9 _) ?_
  simp only [opL, kEq, nEq, List.map_cons, List.map_nil]
  refine st_ ?_
  refine rn_ ?_; intros
  refine go_callf (by rw [hnt]; rfl) (by rw [hP]; kernel_rfl) rfl (hP ▸ of_ok 0 2 0 2 3 _) ?_
  simp only [opL, kEq, nEq, List.map_cons, List.map_nil]
  refine st_ ?_
  refine rn_ ?_; intros
  rename_i b8 b9
  refine x_held [(0, b7, .c 28 [.v (.int .i64 1), .v (.int .i64 0), .v (.slice none 0 0)])] rfl (by rw [hP]; kernel_rfl) rfl rfl rfl ?_; refine st_ ?_
  refine h_take 0 rfl (by kernel_rfl) (by kernel_rfl) (by kernel_rfl) hQp (by rw [hnt]; rfl) (allIn (by repeat (first | exact trivial | refine ⟨rfl, ?_⟩))) (by first | exact Le.refl _ | assumption) (quiet_op (by rw [hty]; first | rfl | (refine st_ ?_; rfl))) ?_; refine st_ ?_
  refine h_take 1 rfl (by kernel_rfl) (by kernel_rfl) (by kernel_rfl) hQp (by rw [hnt]; rfl) (allIn (by repeat (first | exact trivial | refine ⟨rfl, ?_⟩))) (by first | exact Le.refl _ | assumption) (quiet_op (by rw [hty]; first | rfl | (refine st_ ?_; rfl))) ?_; refine st_ ?_
  refine h_take 2 rfl (by kernel_rfl) (by kernel_rfl) (by kernel_rfl) hQp (by rw [hnt]; rfl) (allIn (by repeat (first | exact trivial | refine ⟨rfl, ?_⟩))) (by first | exact Le.refl _ | assumption) (quiet_op (by rw [hty]; first | rfl | (refine st_ ?_; rfl))) ?_; refine st_ ?_
  refine h_one 3 rfl (by kernel_rfl) ?_
  refine rn_ ?_; intros
  refine h_hs (allIn (by repeat (first | exact trivial | refine ⟨rfl, ?_⟩))) (by first | exact Le.refl _ | assumption) ?_
  refine h_take 4 rfl (by kernel_rfl) (by kernel_rfl) (by kernel_rfl) hQp (by rw [hnt]; rfl) (allIn (by repeat (first | exact trivial | refine ⟨rfl, ?_⟩))) (by first | exact Le.refl _ | assumption) (quiet_op (by rw [hty]; first | rfl | (refine st_ ?_; rfl))) ?_; refine st_ ?_
  refine h_one 5 rfl (by kernel_rfl) ?_
  refine rn_ ?_; intros
  refine h_hs (allIn (by repeat (first | exact trivial | refine ⟨rfl, ?_⟩))) (by first | exact Le.refl _ | assumption) ?_
  refine h_end (by kernel_rfl) ?_
  refine rn_ ?_; intros
  refine go_callf (by rw [hnt]; rfl) (by rw [hP]; kernel_rfl) rfl (hP ▸ of_ok 1 0 2 4 5 _) ?_
  simp only [opL, kEq, nEq, List.map_cons, List.map_nil]
  refine st_ ?_
  refine rn_ ?_; intros
  refine go_callf (by rw [hnt]; rfl) (by rw [hP]; kernel_rfl) rfl (hP ▸ of_ok 1 0 1 6 7 _) ?_
  simp only [opL, kEq, nEq, List.map_cons, List.map_nil]
  refine st_ ?_
  refine rn_ ?_; intros
  refine go_keep [0, 8, 9, 10, 11] [1, 2, 3, 4] ?_
  refine st_ ?_
  refine go_callf (by rw [hnt]; rfl) (by rw [hP]; kernel_rfl) rfl (hP ▸ of_ok 0 5 1 1 4 _) ?_
  simp only [opL, kEq, nEq, List.map_cons, List.map_nil]
  refine st_ ?_
  refine rn_ ?_; intros
  refine go_callf (by rw [hnt]; rfl) (by rw [hP]; kernel_rfl) rfl (hP ▸ of_ok 1 0 5 2 3 _) ?_
  simp only [opL, kEq, nEq, List.map_cons, List.map_nil]
  refine st_ ?_
  refine rn_ ?_; intros
  rename_i bx
  refine go_pub 5 rfl (by omega) ?_
  intro G11 (hleG11 : Le G10 G11) hG
  have hat := at_block hG
  simp only [dens, SV.den] at hat
  refine go_slot 91 (.v (.slice (some ⟨bx, 0, none⟩) 2 2)) rfl (by simp [SV.den]) ?_
  refine st_ ?_
  have hM1 : rO.S G11 [⟨0, 0, .mk 2 (5) [], .mk 2 (1) [], 1, 4, true⟩, ⟨0, 1, .mk 2 (0) [], .mk 2 (5) [], 2, 3, true⟩] (.slice (some ⟨bx, 0, none⟩) 2 2) := ⟨by simp, _, _, rfl, .inr ⟨_, _, _, rfl, hat, [_, _, _, _, _, _, _, _, _, _, _], _, rfl, ⟨_, _, rfl, opl_rep _ _ _ _ _ _ _ _ _ _ (by decide)⟩, [_, _, _, _, _, _, _, _, _, _, _], [], rfl, ⟨_, _, rfl, opl_rep _ _ _ _ _ _ _ _ _ _ (by decide)⟩, rfl⟩⟩
  refine go_call (by rw [hnt]; rfl) (by rw [hP]; kernel_rfl) rfl (hP ▸ hLine_ok 1 _ _ G11 hM1) ?_
  rintro v G12 (hleG12 : Le G11 G12) hv
  rw [show lnR 1 [⟨0, 0, .mk 2 (5) [], .mk 2 (1) [], 1, 4, true⟩, ⟨0, 1, .mk 2 (0) [], .mk 2 (5) [], 2, 3, true⟩] = ([0, 1], true, 0) by kernel_rfl] at hv
  obtain ⟨slo, rfl, hSo1⟩ := hv
  obtain ⟨ao1, co1, e0⟩ := Rp.S_slice hSo1
  subst e0
  clear hM1 hat
  simp only [List.map_cons, List.map_nil, List.length_cons, List.length_nil, Nat.reduceAdd] at hSo1 ⊢
  refine rn_ ?_; intros
  refine go_keep [0, 8, 9, 10, 11, 12, 13, 14] [1, 2, 3, 4] ?_
  refine st_ ?_
  refine go_callf (by rw [hnt]; rfl) (by rw [hP]; kernel_rfl) rfl (hP ▸ of_ok 0 5 1 3 4 _) ?_
  simp only [opL, kEq, nEq, List.map_cons, List.map_nil]
  refine st_ ?_
  refine rn_ ?_; intros
  refine go_callf (by rw [hnt]; rfl) (by rw [hP]; kernel_rfl) rfl (hP ▸ of_ok 1 0 5 1 2 _) ?_
  simp only [opL, kEq, nEq, List.map_cons, List.map_nil]
  refine st_ ?_
  refine rn_ ?_; intros
  rename_i bx
  refine go_pub 5 rfl (by omega) ?_
  intro G13 (hleG13 : Le G12 G13) hG
  have hat := at_block hG
  simp only [dens, SV.den] at hat
  refine go_slot 99 (.v (.slice (some ⟨bx, 0, none⟩) 2 2)) rfl (by simp [SV.den]) ?_
  refine st_ ?_
  have hM1 : rO.S G13 [⟨0, 0, .mk 2 (5) [], .mk 2 (1) [], 3, 4, true⟩, ⟨0, 1, .mk 2 (0) [], .mk 2 (5) [], 1, 2, true⟩] (.slice (some ⟨bx, 0, none⟩) 2 2) := ⟨by simp, _, _, rfl, .inr ⟨_, _, _, rfl, hat, [_, _, _, _, _, _, _, _, _, _, _], _, rfl, ⟨_, _, rfl, opl_rep _ _ _ _ _ _ _ _ _ _ (by decide)⟩, [_, _, _, _, _, _, _, _, _, _, _], [], rfl, ⟨_, _, rfl, opl_rep _ _ _ _ _ _ _ _ _ _ (by decide)⟩, rfl⟩⟩
  refine go_call (by rw [hnt]; rfl) (by rw [hP]; kernel_rfl) rfl (hP ▸ hLine_ok 1 _ _ G13 hM1) ?_
  rintro v G14 (hleG14 : Le G13 G14) hv
  rw [show lnR 1 [⟨0, 0, .mk 2 (5) [], .mk 2 (1) [], 3, 4, true⟩, ⟨0, 1, .mk 2 (0) [], .mk 2 (5) [], 1, 2, true⟩] = ([], false, 0) by kernel_rfl] at hv
  obtain ⟨slo, rfl, hSo2⟩ := hv
  obtain ⟨ao2, co2, e0⟩ := Rp.S_slice hSo2
  subst e0
  clear hM1 hat
  simp only [List.map_cons, List.map_nil, List.length_cons, List.length_nil, Nat.reduceAdd] at hSo2 ⊢
  refine rn_ ?_; intros
  refine go_keep [0, 12, 13, 14, 16, 17, 109] [5] ?_
  refine st_ ?_
  rename_i bx
  refine go_pub 5 rfl (by omega) ?_
  intro G15 (hleG15 : Le G14 G15) hG
  have hat := at_block hG
  simp only [dens, SV.den] at hat
  refine go_slot 109 (.v (.slice (some ⟨bx, 0, none⟩) 4 4)) rfl (by simp [SV.den]) ?_
  refine st_ ?_
  have hM1 : rO.S G15 [⟨0, 0, .mk 2 1 [], .mk 1 0 [], 1, 9, true⟩, ⟨0, 0, .mk 2 2 [], .mk 1 0 [], 2, 3, true⟩, ⟨0, 1, .mk 2 (0) [], .mk 2 (2) [], 4, 5, true⟩, ⟨0, 1, .mk 2 (0) [], .mk 2 (1) [], 6, 7, true⟩] (.slice (some ⟨bx, 0, none⟩) 4 4) := ⟨by simp, _, _, rfl, .inr ⟨_, _, _, rfl, hat, [_, _, _, _, _, _, _, _, _, _, _], _, rfl, ⟨_, _, rfl, opl_rep _ _ _ _ _ _ _ _ _ _ (by decide)⟩, [_, _, _, _, _, _, _, _, _, _, _], _, rfl, ⟨_, _, rfl, opl_rep _ _ _ _ _ _ _ _ _ _ (by decide)⟩, [_, _, _, _, _, _, _, _, _, _, _], _, rfl, ⟨_, _, rfl, opl_rep _ _ _ _ _ _ _ _ _ _ (by decide)⟩, [_, _, _, _, _, _, _, _, _, _, _], [], rfl, ⟨_, _, rfl, opl_rep _ _ _ _ _ _ _ _ _ _ (by decide)⟩, rfl⟩⟩
  refine go_call (by rw [hnt]; rfl) (by rw [hP]; kernel_rfl) rfl (hP ▸ hLine_ok 3 _ _ G15 hM1) ?_
  rintro v G16 (hleG16 : Le G15 G16) hv
  rw [show lnR 3 [⟨0, 0, .mk 2 1 [], .mk 1 0 [], 1, 9, true⟩, ⟨0, 0, .mk 2 2 [], .mk 1 0 [], 2, 3, true⟩, ⟨0, 1, .mk 2 (0) [], .mk 2 (2) [], 4, 5, true⟩, ⟨0, 1, .mk 2 (0) [], .mk 2 (1) [], 6, 7, true⟩] = ([1, 0, 2, 3], true, 0) by kernel_rfl] at hv
  obtain ⟨slo, rfl, hSo3⟩ := hv
  obtain ⟨ao3, co3, e0⟩ := Rp.S_slice hSo3
  subst e0
  clear hM1 hat
  simp only [List.map_cons, List.map_nil, List.length_cons, List.length_nil, Nat.reduceAdd] at hSo3 ⊢
  refine rn_ ?_; intros
  refine go_keep [0, 12, 13, 14, 16, 17, 18, 19, 20] [] ?_
  refine st_ ?_
  refine go_callf (by rw [hnt]; rfl) (by rw [hP]; kernel_rfl) rfl (hP ▸ refint_ok 1 _) ?_; refine rn_ ?_; intros
  refine go_callf (by rw [hnt]; rfl) (by rw [hP]; kernel_rfl) rfl (hP ▸ of_ok 1 0 1 2 3 _) ?_
  simp only [opL, kEq, nEq, List.map_cons, List.map_nil]
  refine st_ ?_
  refine rn_ ?_; intros
  rename_i bx
  refine go_pub 0 rfl (by omega) ?_
  intro G17 (hleG17 : Le G16 G17) hG
  have hat := at_block hG
  simp only [dens, SV.den] at hat
  refine go_slot 118 (.v (.slice (some ⟨bx, 0, none⟩) 2 2)) rfl (by simp [SV.den]) ?_
  refine st_ ?_
  have hM1 : rO.S G17 [⟨0, 0, .mk 2 1 [], .mk 0 0 [], 1, 0, false⟩, ⟨0, 1, .mk 2 (0) [], .mk 2 (1) [], 2, 3, true⟩] (.slice (some ⟨bx, 0, none⟩) 2 2) := ⟨by simp, _, _, rfl, .inr ⟨_, _, _, rfl, hat, [_, _, _, _, _, _, _, _, _, _, _], _, rfl, ⟨_, _, rfl, opl_rep _ _ _ _ _ _ _ _ _ _ (by decide)⟩, [_, _, _, _, _, _, _, _, _, _, _], [], rfl, ⟨_, _, rfl, opl_rep _ _ _ _ _ _ _ _ _ _ (by decide)⟩, rfl⟩⟩
  refine go_call (by rw [hnt]; rfl) (by rw [hP]; kernel_rfl) rfl (hP ▸ hLine_ok 2 _ _ G17 hM1) ?_
  rintro v G18 (hleG18 : Le G17 G18) hv
  rw [show lnR 2 [⟨0, 0, .mk 2 1 [], .mk 0 0 [], 1, 0, false⟩, ⟨0, 1, .mk 2 (0) [], .mk 2 (1) [], 2, 3, true⟩] = ([0, 1], true, 0) by kernel_rfl] at hv
  obtain ⟨slo, rfl, hSo4⟩ := hv
  obtain ⟨ao4, co4, e0⟩ := Rp.S_slice hSo4
  subst e0
  clear hM1 hat
  simp only [List.map_cons, List.map_nil, List.length_cons, List.length_nil, Nat.reduceAdd] at hSo4 ⊢
  refine rn_ ?_; intros
  refine go_keep [0, 12, 13, 14, 16, 17, 18, 19, 20, 21, 22, 23, 124] [] ?_
  refine st_ ?_
  refine go_callf (by rw [hnt]; rfl) (by rw [hP]; kernel_rfl) rfl (hP ▸ of_ok 1 0 1 2 3 _) ?_
  simp only [opL, kEq, nEq, List.map_cons, List.map_nil]
  refine st_ ?_
  refine rn_ ?_; intros
  refine go_callV 60 (by rw [hnt]; rfl) (by rw [hP]; kernel_rfl) rfl rfl (by omega) (hP ▸ wdo_ok G18) ?_
  rintro v G19 rs Z (hle19 : Le G18 G19) hv
  obtain ⟨v1, v2, slv, xs, ys, rfl, rfl, _, _, hrv, _⟩ := hv
  obtain ⟨av, cvv, rfl⟩ := VT.rep_slice hrv
  refine go_ztake 60 61 0 rfl rfl rfl (by omega) (by omega) ?_
  intro Z1
  refine go_ztake 60 62 1 rfl rfl rfl (by omega) (by omega) ?_
  intro Z2
  refine go_drop 60 ?_
  simp only [stRows]
  refine st_ ?_
  refine go_rowS 61 rfl ?_
  rintro a1 c1 rfl
  refine go_rowS 62 rfl ?_
  rintro a2 c2 rfl
  simp only [noneV, kEq, nEq, lEq]
  refine rn_ ?_; intros
  refine go_keep [0, 12, 13, 14, 16, 17, 18, 19, 20, 21, 22, 23, 26, 27, 131] [] ?_
  refine st_ ?_
  refine go_callf (by rw [hnt]; rfl) (by rw [hP]; kernel_rfl) rfl (hP ▸ num_ok 0 _) ?_; refine rn_ ?_; intros
  refine go_callf (by rw [hnt]; rfl) (by rw [hP]; kernel_rfl) rfl (hP ▸ num_ok 0 _) ?_; refine rn_ ?_; intros
  refine go_callf (by rw [hnt]; rfl) (by rw [hP]; kernel_rfl) rfl (hP ▸ num_ok 0 _) ?_; refine rn_ ?_; intros
  refine go_callf (by rw [hnt]; rfl) (by rw [hP]; kernel_rfl) rfl (hP ▸ num_ok 0 _) ?_; refine rn_ ?_; intros
  refine go_callf (by rw [hnt]; rfl) (by rw [hP]; kernel_rfl) rfl (hP ▸ num_ok 0 _) ?_; refine rn_ ?_; intros
  (refine go_gsplit rfl rfl (fun _ => ?_) (fun hc => absurd hc (by decide)); refine st_ ?_; (refine rn_ ?_; intros))
  (refine go_gsplit rfl rfl (fun _ => ?_) (fun hc => absurd hc (by decide)); refine st_ ?_; (refine rn_ ?_; intros))
  have hs1 := Rp.S_mono (hleG13.trans (hleG14.trans (hleG15.trans (hleG16.trans (hleG17.trans (hleG18.trans hle19)))))) hSo1
  have hs3 := Rp.S_mono (hleG17.trans (hleG18.trans hle19)) hSo3
  have hs4 := Rp.S_mono hle19 hSo4
  rename_i bx
  refine go_pub 0 rfl (by omega) ?_
  intro G20 (hle20 : Le G19 G20) hG
  have hat := at_block hG
  simp only [dens, SV.den] at hat
  refine go_slot 151 (.v (.slice (some ⟨bx, 0, none⟩) 2 2)) rfl (by simp [SV.den]) ?_
  refine st_ ?_
  have hI : rI.S G20 [0, 1] (.slice (some ⟨bx, 0, none⟩) 2 2) := ⟨by simp, _, _, rfl, .inr ⟨_, _, _, rfl, hat, [_], [_], rfl, ⟨rfl, by simp [isI64]⟩, [_], [], rfl, ⟨rfl, by simp [isI64]⟩, rfl⟩⟩
  refine go_callf (by rw [hnt]; rfl) (by rw [hP]; kernel_rfl) rfl (hP ▸ ints_ok [0, 1] [0, 1] _ _ G20 (Rp.S_mono hle20 hs1) hI) ?_; refine rn_ ?_; intros
  clear hI hat
  refine go_slot 152 (.v (.bool true)) rfl rfl ?_
  refine st_ ?_
  refine rn_ ?_; intros
  (refine go_gsplit rfl rfl (fun _ => ?_) (fun hc => absurd hc (by decide)); refine st_ ?_; (refine rn_ ?_; intros))
  (refine go_gsplit rfl rfl (fun _ => ?_) (fun hc => absurd hc (by decide)); refine st_ ?_; (refine rn_ ?_; intros))
  (refine go_gsplit rfl rfl (fun _ => ?_) (fun hc => absurd hc (by decide)); refine st_ ?_; (refine rn_ ?_; intros))
  rename_i bx
  refine go_pub 0 rfl (by omega) ?_
  intro G21 (hle21 : Le G20 G21) hG
  have hat := at_block hG
  simp only [dens, SV.den] at hat
  refine go_slot 163 (.v (.slice (some ⟨bx, 0, none⟩) 4 4)) rfl (by simp [SV.den]) ?_
  refine st_ ?_
  have hI : rI.S G21 [1, 0, 2, 3] (.slice (some ⟨bx, 0, none⟩) 4 4) := ⟨by simp, _, _, rfl, .inr ⟨_, _, _, rfl, hat, [_], [_, _, _], rfl, ⟨rfl, by simp [isI64]⟩, [_], [_, _], rfl, ⟨rfl, by simp [isI64]⟩, [_], [_], rfl, ⟨rfl, by simp [isI64]⟩, [_], [], rfl, ⟨rfl, by simp [isI64]⟩, rfl⟩⟩
  refine go_callf (by rw [hnt]; rfl) (by rw [hP]; kernel_rfl) rfl (hP ▸ ints_ok [1, 0, 2, 3] [1, 0, 2, 3] _ _ G21 (Rp.S_mono (hle20.trans hle21) hs3) hI) ?_; refine rn_ ?_; intros
  clear hI hat
  refine go_slot 164 (.v (.bool true)) rfl rfl ?_
  refine st_ ?_
  refine rn_ ?_; intros
  (refine go_gsplit rfl rfl (fun _ => ?_) (fun hc => absurd hc (by decide)); refine st_ ?_; (refine rn_ ?_; intros))
  (refine go_gsplit rfl rfl (fun _ => ?_) (fun hc => absurd hc (by decide)); refine st_ ?_; (refine rn_ ?_; intros))
  rename_i bx
  refine go_pub 0 rfl (by omega) ?_
  intro G22 (hle22 : Le G21 G22) hG
  have hat := at_block hG
  simp only [dens, SV.den] at hat
  refine go_slot 171 (.v (.slice (some ⟨bx, 0, none⟩) 2 2)) rfl (by simp [SV.den]) ?_
  refine st_ ?_
  have hI : rI.S G22 [0, 1] (.slice (some ⟨bx, 0, none⟩) 2 2) := ⟨by simp, _, _, rfl, .inr ⟨_, _, _, rfl, hat, [_], [_], rfl, ⟨rfl, by simp [isI64]⟩, [_], [], rfl, ⟨rfl, by simp [isI64]⟩, rfl⟩⟩
  refine go_callf (by rw [hnt]; rfl) (by rw [hP]; kernel_rfl) rfl (hP ▸ ints_ok [0, 1] [0, 1] _ _ G22 (Rp.S_mono (hle20.trans (hle21.trans hle22)) hs4) hI) ?_; refine rn_ ?_; intros
  clear hI hat
  refine go_slot 172 (.v (.bool true)) rfl rfl ?_
  refine st_ ?_
  refine rn_ ?_; intros
  (refine go_gsplit rfl rfl (fun _ => ?_) (fun hc => absurd hc (by decide)); refine st_ ?_; (refine rn_ ?_; intros))
  refine x_retc rfl hQ hmb rfl (by rw [hty]; simp only [so, sq, zy, zz, tyE, SO', SQ', opQ, opStore, opAlloc, ev, putS, dOk, cv, SV.cs, SV.one, SV.bool?, eqB, Value.oneCell', ldOwn, binInt, binConst, binBool, binStr, isC, TK.agg, rv, rv1, ldV, resOne, resV, Nat.reduceAdd, Nat.reduceMul, Nat.reduceSub, Nat.reduceLT, Nat.reduceLeDiff, Nat.reduceEqDiff, Nat.reduceBEq, reduceIte, reduceCtorEq, eq_self]; try rfl) rfl ?_; simp only [SV.den, resV, dens]
  rfl
end Go.Proofs.Ytpmmbjcgabnloaa
namespace Go.Proofs.Ytpmmbjcgabnloaa
set_option linter.unusedSimpArgs false
set_option linter.unusedVariables false
open Go.Sx

def hp (w : World) : Hp := fun b => w.heap[b]?
theorem has_hp (w : World) : Has w (hp w) := fun _ _ h => h

section
variable {H : Type}
set_option maxRecDepth 20000
theorem gather {w : World} {b : Nat} : ∀ (ds : List (DataW H)) (off : Nat),
    (∀ i (h : i < ds.length), ∃ t sl, w.cell? ⟨b, off + i * 3, none⟩ = some (.int .i64 (VT.k t)) ∧ w.cell? ⟨b, off + i * 3 + 1, none⟩ = some (.int .i64 t.n) ∧ w.cell? ⟨b, off + i * 3 + 2, none⟩ = some sl ∧ t.rep (hp w) sl ∧ tsz t ≤ Rows.uptoBulk ds[i]) →
    ∃ (l : List VT) (cs : List Value), l.length = ds.length ∧ repV (hp w) l cs ∧ (∀ i, i < cs.length → w.cell? ⟨b, off + i, none⟩ = cs[i]?) ∧ tszL l ≤ Rows.uptoBulkAll ds
  | [], _, _ => ⟨[], [], rfl, by simp [repV], by simp, by simp [tszL, Rows.uptoBulkAll]⟩
  | d :: ds, off, h => by
    obtain ⟨t, sl, h0, h1, h2, hr, hb⟩ := h 0 (by simp)
    obtain ⟨l, cs, hl, hrV, hcs, hbs⟩ := gather ds (off + 3) (fun i hi => by
      obtain ⟨t, sl, h0, h1, h2, hr, hb⟩ := h (i + 1) (by simpa using hi)
      have e : off + (i + 1) * 3 = off + 3 + i * 3 := by omega
      rw [e] at h0 h1 h2
      exact ⟨t, sl, h0, h1, h2, hr, by simpa using hb⟩)
    refine ⟨t :: l, .int .i64 t.k :: .int .i64 t.n :: sl :: cs, by simp [hl], ?_, ?_, ?_⟩
    · simp only [repV]
      exact ⟨sl, cs, rfl, hr, hrV⟩
    · intro i hi
      match i, hi with
      | 0, _ => simpa using h0
      | 1, _ => simpa using h1
      | 2, _ => simpa using h2
      | i + 3, hi =>
        have := hcs i (by simpa using hi)
        rw [show off + (i + 3) = off + 3 + i by omega, this]
        simp
    · simp only [tszL, Rows.uptoBulkAll]
      simp only [List.getElem_cons_zero] at hb
      omega

theorem at_of_cells {w : World} {b off : Nat} {cs : List Value} (h0 : 0 < cs.length) (h : ∀ i, i < cs.length → w.cell? ⟨b, off + i, none⟩ = cs[i]?) : At (hp w) b off cs := by
  have h1 := h 0 h0
  rw [List.getElem?_eq_getElem h0] at h1
  unfold World.cell? at h1 h
  cases hb : w.heap[b]? with
  | none => simp [hb] at h1
  | some o =>
    cases o with
    | cells arr e fz =>
      simp only [hb, Option.isSome_none, Bool.false_eq_true, if_false] at h
      refine ⟨arr, e, fz, hb, ?_, fun i hi => h i hi⟩
      have := h (cs.length - 1) (by omega)
      rw [List.getElem?_eq_getElem (show cs.length - 1 < cs.length by omega)] at this
      obtain ⟨hlt, _⟩ := Array.getElem?_eq_some_iff.1 this
      omega
    | _ => simp [hb] at h1

variable {enc : TypeId × Value → H}
theorem cells3 : Try.prog.cellsOf 28 = 3 := by kernel_rfl
theorem wf_i64 {n : Int} (h : (Lit.int .i64 n).wf = true) : isI64 n := by
  simpa [Lit.wf, IntKind.min, IntKind.max, IntKind.signed, IntKind.bits, isI64] using h

set_option maxHeartbeats 1000000 in
theorem open_val {w : World} : ∀ (N n : Nat) (d : DataW H) (ps : List MemPlace) (cs : List Value), Rows.uptoBulk d ≤ N → DataW.trod enc Try.prog w 0 (fun _ => true) true n 28 cs = some (d, ps) →
    ∃ (t : VT) (sl : Value), cs = [.int .i64 t.k, .int .i64 t.n, sl] ∧ t.rep (hp w) sl ∧ tsz t ≤ Rows.uptoBulk d := by
  intro N
  induction N with
  | zero =>
    intro n d ps cs hb h
    obtain ⟨y0, y1, y2, m, hx, _⟩ := Deep.trod_struct3 Try.underlying28 h
    cases hx
    simp [Rows.uptoBulk] at hb
  | succ N ih =>
    intro n d ps cs hb h
    obtain ⟨y0, y1, y2, m, hx, hlen, h0, h1, h2⟩ := Deep.trod_struct3 Try.underlying28 h
    cases hx
    rw [cells3] at hlen
    match cs, hlen with
    | [c0, c1, c2], _ =>
    have e1 : Try.prog.cellsOf 25 = 1 := by kernel_rfl
    have e2 : Try.prog.cellsOf 2 = 1 := by kernel_rfl
    have e3 : Try.prog.cellsOf 26 = 1 := by kernel_rfl
    simp only [e1, e2, e3, List.drop_zero, List.drop_succ_cons, List.take_succ_cons, List.take_zero] at h0 h1 h2
    obtain ⟨k, hk, hy0, hwk⟩ := DataW.trod_int Try.underlying25 h0
    obtain ⟨nn, hn, hy1, hwn⟩ := DataW.trod_int Try.underlying2 h1
    cases hk
    cases hn
    subst hy0 hy1
    have hs := Deep.open_slice Try.underlying26 h2
    rcases hs with ⟨hc, hy⟩ | ⟨a, len, cap, mm, n', D, Pl, hc, _, hle, hcap, hmm, hy, hel⟩
    · cases hc
      subst hy
      exact ⟨.mk k nn [], _, rfl, rep_leaf _ k nn (wf_i64 hwk) (wf_i64 hwn), by simp [tsz, tszL, Rows.uptoBulk, Rows.uptoBulkAll]⟩
    · cases hc
      subst hy
      simp only [if_true] at hmm
      subst hmm
      simp only [Rows.uptoBulk, Rows.uptoBulkAll] at hb ⊢
      have hml : len ≤ 9223372036854775807 := Nat.le_trans (Nat.le_trans hle hcap) (by decide)
      by_cases hz : len = 0
      · subst hz
        refine ⟨.mk k nn [], _, rfl, ?_, by simp only [tsz, tszL]; omega⟩
        rw [rep_iff]
        exact ⟨wf_i64 hwk, wf_i64 hwn, by simp, _, _, rfl, .inl rfl⟩
      · have hel0 := hel 0 (by omega)
        obtain ⟨b, off, spot⟩ := a
        have hspot : spot = none := by
          obtain ⟨cs', q1, _⟩ := hel0
          rw [cells3] at q1
          obtain ⟨_, q2, q3⟩ := World.cells?_some q1
          have q4 := q3 0 (by omega)
          rw [List.getElem?_eq_getElem (by omega)] at q4
          simpa [Addr.add] using World.cell?_spot q4
        subst hspot
        have key := gather (w := w) (b := b) ((List.range len).map D) off (fun i hi => by
          have hi' : i < len := by simpa using hi
          obtain ⟨cs', q1, q2⟩ := hel i (by omega)
          rw [cells3] at q1
          have hmem : D i ∈ (List.range len).map D := List.mem_map.2 ⟨i, by simpa using hi', rfl⟩
          have hbi : Rows.uptoBulk (D i) ≤ Rows.uptoBulkAll ((List.range len).map D) := by
            clear hb ih hel
            generalize (List.range len).map D = L at hmem
            induction L with
            | nil => simp at hmem
            | cons x r ihr =>
              simp only [Rows.uptoBulkAll]
              rcases List.mem_cons.1 hmem with rfl | hm
              · omega
              · have := ihr hm; omega
          obtain ⟨t, sl, rfl, hr, hbt⟩ := ih n' (D i) (Pl i) cs' (by omega) q2
          obtain ⟨_, _, q3⟩ := World.cells?_some q1
          have a0 := q3 0 (by omega)
          have a1 := q3 1 (by omega)
          have a2 := q3 2 (by omega)
          rw [Deep.add_add] at a0 a1 a2
          have ea : ∀ j, (Addr.mk b off none).add j = ⟨b, off + j, none⟩ := by
            intro j
            unfold Addr.add
            split
            · subst_vars; rfl
            · rfl
          rw [ea] at a0 a1 a2
          refine ⟨t, sl, by simpa using a0, by simpa [Nat.add_assoc] using a1, by simpa [Nat.add_assoc] using a2, hr, by simpa using hbt⟩)
        obtain ⟨l, cs, hl, hrV, hcs, hbs⟩ := key
        have hll : l.length = len := by simpa using hl
        have hcl := repV_len hrV
        refine ⟨.mk k nn l, .slice (some ⟨b, off, none⟩) len _, rfl, ?_, ?_⟩
        · rw [rep_iff]
          exact ⟨wf_i64 hwk, wf_i64 hwn, by omega, _, _, by rw [hll], .inr ⟨_, _, _, rfl, at_of_cells (by omega) hcs, hrV⟩⟩
        · simp only [tsz]
          omega

end
end Go.Proofs.Ytpmmbjcgabnloaa
namespace Go.Sx
set_option linter.unusedSimpArgs false
set_option linter.unusedVariables false
open Go.RowKit

def hp (w : World) : Hp := fun b => w.heap[b]?
theorem has_hp (w : World) : Has w (hp w) := fun _ _ h => h
theorem at_of_cells {w : World} {b off : Nat} {cs : List Value} (h0 : 0 < cs.length) (h : ∀ i, i < cs.length → w.cell? ⟨b, off + i, none⟩ = cs[i]?) : At (hp w) b off cs := by
  have h1 := h 0 h0
  rw [List.getElem?_eq_getElem h0] at h1
  unfold World.cell? at h1 h
  cases hb : w.heap[b]? with
  | none => simp [hb] at h1
  | some o =>
    cases o with
    | cells arr e fz =>
      simp only [hb, Option.isSome_none, Bool.false_eq_true, if_false] at h
      refine ⟨arr, e, fz, hb, ?_, fun i hi => h i hi⟩
      have := h (cs.length - 1) (by omega)
      rw [List.getElem?_eq_getElem (show cs.length - 1 < cs.length by omega)] at this
      obtain ⟨hlt, _⟩ := Array.getElem?_eq_some_iff.1 this
      omega
    | _ => simp [hb] at h1
theorem wf_i64 {n : Int} (h : (Lit.int .i64 n).wf = true) : isI64 n := by
  simpa [Lit.wf, IntKind.min, IntKind.max, IntKind.signed, IntKind.bits, isI64] using h
theorem gatherL {α : Type} {r : Rp α} {w : World} {b : Nat} : ∀ (n off : Nat),
    (∀ i, i < n → ∃ x cs', r.e (hp w) x cs' ∧ ∀ j, j < r.size → w.cell? ⟨b, off + i * r.size + j, none⟩ = cs'[j]?) →
    ∃ (l : List α) (cs : List Value), l.length = n ∧ r.L (hp w) l cs ∧ ∀ i, i < cs.length → w.cell? ⟨b, off + i, none⟩ = cs[i]?
  | 0, off, _ => ⟨[], [], rfl, rfl, by simp⟩
  | n + 1, off, h => by
    obtain ⟨x, c0, hx, h0⟩ := h 0 (by omega)
    obtain ⟨l, cs, hl, hL, hcs⟩ := gatherL (r := r) (w := w) (b := b) n (off + r.size) (fun i hi => by
      obtain ⟨x, c, hx, hc⟩ := h (i + 1) (by omega)
      refine ⟨x, c, hx, fun j hj => ?_⟩
      rw [← hc j hj]
      congr 2
      rw [Nat.succ_mul]; omega)
    have hlen := r.len hx
    refine ⟨x :: l, c0 ++ cs, by simp [hl], ⟨c0, cs, rfl, hx, hL⟩, fun i hi => ?_⟩
    rcases Nat.lt_or_ge i r.size with q | q
    · rw [List.getElem?_append_left (by omega)]
      have := h0 i q
      simpa using this
    · rw [List.getElem?_append_right (by omega), ← hcs (i - c0.length) (by simp at hi; omega)]
      congr 2; omega
section
variable {H : Type} {enc : TypeId × Value → H} {P : Program} {w : World}
theorem add_eq (b off j : Nat) : (Addr.mk b off none).add j = ⟨b, off + j, none⟩ := by
  unfold Addr.add
  split
  · subst_vars; rfl
  · rfl
theorem open_int1 {T : TypeId} (hT : P.underlying T = some (.int .i64)) (hc : P.cellsOf T = 1) {n : Nat} {x : DataW H × List MemPlace} {cs : List Value} (h : DataW.trod enc P w 0 (fun _ => true) true n T cs = some x) : ∃ k, cs = [.int .i64 k] ∧ isI64 k := by
  obtain ⟨k, hk, _, hw⟩ := DataW.trod_int hT h
  exact ⟨k, hk, wf_i64 hw⟩
end
end Go.Sx
namespace Go.Proofs.Ytpmmbjcgabnloaa
set_option linter.unusedSimpArgs false
set_option linter.unusedVariables false
open Go.Sx
set_option maxRecDepth 20000
set_option maxHeartbeats 4000000
section
variable {H : Type} {enc : TypeId × Value → H} {w : World}
theorem bulk_mem {d : DataW H} : ∀ {L : List (DataW H)}, d ∈ L → Rows.uptoBulk d ≤ Rows.uptoBulkAll L
  | x :: r, h => by
    simp only [Rows.uptoBulkAll]
    rcases List.mem_cons.1 h with rfl | h
    · omega
    · have := bulk_mem h; omega
theorem open_listB {α : Type} (r : Rp α) {t e : TypeId} {B : Nat} (ht : Try.prog.underlying t = some (.slice e)) (hsz : Try.prog.cellsOf e = r.size) (hpos : 0 < r.size)
    (hel : ∀ n d ps cs, DataW.trod enc Try.prog w 0 (fun _ => true) true n e cs = some (d, ps) → cs.length = r.size → Rows.uptoBulk d ≤ B → ∃ x, r.e (Go.Sx.hp w) x cs)
    {n : Nat} {d : DataW H} {ps : List MemPlace} {cs : List Value} (hB : Rows.uptoBulk d ≤ B) (h : DataW.trod enc Try.prog w 0 (fun _ => true) true n t cs = some (d, ps)) : ∃ (sl : Value) (l : List α), cs = [sl] ∧ r.S (Go.Sx.hp w) l sl := by
  have hs := Deep.open_slice ht h
  rcases hs with ⟨hc, hy⟩ | ⟨a, len, cap, mm, n', D, Pl, hc, _, hle, hcap, hmm, hy, hel2⟩
  · exact ⟨_, [], hc, Rp.S_nil _ _⟩
  · simp only [if_true] at hmm
    subst hmm
    obtain ⟨rfl, _⟩ := Prod.mk.inj hy
    have hml : len ≤ 9223372036854775807 := Nat.le_trans (Nat.le_trans hle hcap) (by decide)
    by_cases hz : len = 0
    · subst hz
      exact ⟨_, [], hc, Rp.S_nil _ _⟩
    · obtain ⟨b, off, spot⟩ := a
      rw [hsz] at hel2
      have hspot : spot = none := by
        obtain ⟨cs', q1, _⟩ := hel2 0 (by omega)
        obtain ⟨_, q2, q3⟩ := World.cells?_some q1
        have q4 := q3 0 (by omega)
        rw [List.getElem?_eq_getElem (by omega)] at q4
        simpa [Addr.add] using World.cell?_spot q4
      subst hspot
      obtain ⟨l, cs2, hl, hL, hcs⟩ := gatherL (r := r) (w := w) (b := b) len off (fun i hi => by
        obtain ⟨cs', q1, q2⟩ := hel2 i (by omega)
        obtain ⟨_, q3, q4⟩ := World.cells?_some q1
        have hmem : D i ∈ (List.range len).map D := List.mem_map.2 ⟨i, by simpa using hi, rfl⟩
        have hbi := bulk_mem hmem
        simp only [Rows.uptoBulk] at hB
        obtain ⟨x, hx⟩ := hel _ _ _ _ q2 (by omega) (by omega)
        refine ⟨x, cs', hx, fun j hj => ?_⟩
        have := q4 j (by omega)
        rw [Deep.add_add, add_eq] at this
        rw [← this, Nat.add_assoc])
      have hlen := Rp.L_len hL
      have hcl : 0 < cs2.length := by rw [hlen, hl]; exact Nat.mul_pos (by omega) hpos
      exact ⟨_, l, hc, by rw [hl]; exact hml, _, _, by rw [hl], .inr ⟨_, _, _, rfl, Go.Sx.at_of_cells hcl hcs, hL⟩⟩
theorem open_op {n : Nat} {d : DataW H} {ps : List MemPlace} {cs : List Value} (hB : Rows.uptoBulk d ≤ 1048576) (h : DataW.trod enc Try.prog w 0 (fun _ => true) true n 40 cs = some (d, ps)) : ∃ (x : Op) (sa sr : Value), cs = opL x sa sr ∧ x.rep (Go.Sx.hp w) sa sr := by
  obtain ⟨xs, n, _, hx, hlen, hl, hf⟩ := DataW.trod_struct Try.underlying40 h
  rw [show Try.prog.cellsOf 40 = 11 by kernel_rfl] at hlen
  match xs, hl with
  | [y0, y1, y2, y3, y4, y5, y6], _ =>
  cases hx
  match cs, hlen with
  | [c0, c1, c2, c3, c4, c5, c6, c7, c8, c9, c10], _ =>
  have h0 := hf 0 _ rfl
  have h1 := hf 1 _ rfl
  have h2 := hf 2 _ rfl
  have h3 := hf 3 _ rfl
  have h4 := hf 4 _ rfl
  have h5 := hf 5 _ rfl
  have h6 := hf 6 _ rfl
  clear hf
  have e1 : Try.prog.cellsOf 3 = 1 := by kernel_rfl
  have e2 : Try.prog.cellsOf 4 = 1 := by kernel_rfl
  simp only [e1, e2, cells3, List.drop_zero, List.drop_succ_cons, List.take_succ_cons, List.take_zero, List.getElem?_cons_zero, List.getElem?_cons_succ] at h0 h1 h2 h3 h4 h5 h6
  simp only [List.map_cons, List.map_nil, Rows.uptoBulk, Rows.uptoBulkAll] at hB
  obtain ⟨th, q0, w0⟩ := open_int1 Try.underlying3 e1 h0
  obtain ⟨kd, q1, w1⟩ := open_int1 Try.underlying3 e1 h1
  obtain ⟨ta, sa, q2, ra, ba⟩ := open_val _ _ _ _ _ (Nat.le_refl _) h2
  obtain ⟨tr, sr, q3, rr, br⟩ := open_val _ _ _ _ _ (Nat.le_refl _) h3
  obtain ⟨fr, q4, w4⟩ := open_int1 Try.underlying3 e1 h4
  obtain ⟨to, q5, w5⟩ := open_int1 Try.underlying3 e1 h5
  obtain ⟨dn, q6, _⟩ := DataW.trod_bool Try.underlying4 h6
  cases q0; cases q1; cases q2; cases q3; cases q4; cases q5; cases q6
  exact ⟨⟨th, kd, ta, tr, fr, to, dn⟩, _, _, rfl, ⟨w0, w1, w4, w5, by show tsz ta ≤ _; omega, by show tsz tr ≤ _; omega⟩, ra, rr⟩
theorem open_ops {n : Nat} {d : DataW H} {ps : List MemPlace} {cs : List Value} (hB : Rows.uptoBulk d ≤ 1048576) (h : DataW.trod enc Try.prog w 0 (fun _ => true) true n 31 cs = some (d, ps)) : ∃ (sl : Value) (l : List Op), cs = [sl] ∧ rO.S (Go.Sx.hp w) l sl :=
  open_listB rO Try.underlying31 (by kernel_rfl) (by decide) (fun n d ps cs h _ hb => open_op hb h) hB h
end
end Go.Proofs.Ytpmmbjcgabnloaa
namespace Go.Proofs.Ytpmmbjcgabnloaa
set_option linter.unusedSimpArgs false
set_option linter.unusedVariables false
open Go.ChangeShapes Go.WideShapes Go.ChangeAt Go.RowKit

theorem own : ownKnob Try.prog.godebug = none := by kernel_rfl
theorem laidOut : laidOutB Try.prog = true := by kernel_rfl

theorem post_below {H : Type} {enc : TypeId × Value → H} {P : Program} {f : Func} {s : ChangeSpec} {fresh handsOn again : Bool} {W W' : World} {args : Array Value} {v : Value} {ds : List (DataW H)} {pa : List MemPlace}
    (hvs : s.vars = []) (hfn : (s.fn H (ds ++ [])).vars = []) (hW : DataW.Whole enc P f.params.toList s.vars false W args.toList ds [] pa)
    (hres : ∀ (b : Nat) (sp : Nat → Bool) (hd : Bool), DataW.TrodAll enc P W' b sp hd f.resultTypes.toList (v.resultList f.resultTypes.size) (s.fn H (ds ++ [])).results [])
    (hargs : ∀ sp : Nat → Bool, (∀ p ∈ pa, sp p.block = true) → DataW.TrodAll enc P W' 0 sp true f.params.toList args.toList (s.fn H (ds ++ [])).args pa)
    (hb : Below W.heap.size W W')
    (hok : ∀ (j : Nat) (t : TypeId) (r : Value), f.resultTypes[j]? = some t → (v.resultList f.resultTypes.size)[j]? = some r → Value.okWide P W' .any 0 t r) :
    s.post enc P f false fresh handsOn again W args v W' := by
  have hlt := hW.lt
  have hvars : ∀ sp : Nat → Bool, DataW.TrodVars enc P W' sp s.vars (s.fn H (ds ++ [])).vars [] := fun sp => by rw [hvs, hfn]; rfl
  have hz := hW
  obtain ⟨_, _, _, _, _, hfrozen, _⟩ := hz
  refine ⟨ds, [], pa, [], pa, [], hW, hres _ _ _, hargs _ (fun p hp => by simpa using hlt p hp), hvars _, World.keptBut_mono (fun p hp => ⟨hp, Or.inr (by simpa using hp)⟩) (hb.frame (· ∈ pa)), fun _ => ?_⟩
  refine ⟨hok, _, _, ([] ++ pa) ++ [], ⟨[] ++ pa, [], trodAll_append (hargs _ (fun _ _ => rfl)) (hres _ _ _), hvars _, rfl, fun b off hp => ?_, by simp⟩, fun p hp _ => by simpa using hp⟩
  · have hp' : MemPlace.cell b off ∈ pa := by simpa using hp
    rw [hb.frozen (hlt _ hp')]
    exact hfrozen b off hp'
end Go.Proofs.Ytpmmbjcgabnloaa
