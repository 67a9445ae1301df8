/-
  Rows.ForceAllUptoCardSaid is proved here: for arguments of bulk at most 1048576; the package variable force.bounds is tied to the program's text.
-/
import Derived.Test.YthocgjchmpkhoaaDoorZ4
import Derived.Deep.Strs
import Derived.Deep.Slices
import Derived.WalkKit
import Derived.ProofKit
import Derived.OpenShut
import Derived.JoinedCond
import Derived.Carry
import Derived.Test.YthocgjchmpkhoaaDoorCards
import Derived.Test.YthocgjchmpkhoaaDoorTie
import Derived.Deep.DeepHandedRow
import Derived.Lib.LaidTab
set_option linter.unusedSimpArgs false
set_option linter.unusedVariables false
namespace Go.Proofs.YthocgjchmpkhoaaDoor
set_option linter.unusedSimpArgs false
set_option linter.unusedVariables false
open Go.Sx
set_option maxHeartbeats 16000000
set_option maxRecDepth 20000
theorem w4 {C : Ctx} (hP : C.P = Tryd.prog) (hQ : C.Q = bodyPost C.P Tryd.f6 (Ret [] C.w0 C.G0 (fun v _ => v = .bool true))) (hnt : C.nt = 242) (hty : C.ty = ty) (hmb : C.mb = []) (hmh : C.mh = 0) (hro : C.ro = none) (b3 b5 : Nat) (ss sw : Value) (G : Hp) (hB : At G 0 0 bdsL) (hs : sT.repC G ss) (hsw : ∃ ad n c, sw = .slice ad n c) : SGo C [.code (c2 (c2 (c2 (c2 (c2 (c2 (c2 (c2 (c2 (c2 (Tryd.f6.body.getD .skip)))))))))))] ⟨[(0, .b false), (3, .p 3 b3 0), (5, .p 5 b5 0)], [(3, b3, .c 25 [.v (.int .i64 5), .v (.int .i64 0), .v ss]), (5, b5, .c 56 [.v (.int .i64 5), .v (.int .i64 1), .v (.int .i64 2), .v (.int .i64 5), .v (.slice none 0 0), .v sw, .v (.slice none 0 0)])], G, []⟩ := by
  have hQp := qp_body hQ
  obtain ⟨ax, cx, rfl⟩ := VT.repC_slice hs
  obtain ⟨aw, nw, cw, rfl⟩ := hsw
  refine rn_ ?_; intros
  refine go_callf (by rw [hnt]; rfl) (by rw [hP]; kernel_rfl) rfl (hP ▸ lval_ok 2 9 _ _ _ _) ?_
  refine rn_ ?_; intros
  refine go_callf (by rw [hnt]; rfl) (by rw [hP]; kernel_rfl) rfl (hP ▸ lval_ok 12 2 _ _ _ _) ?_
  refine rn_ ?_; intros
  rename_i b6
  refine go_pub 6 rfl (by omega) ?_
  intro G1 (hle1 : Le G G1) hb6
  have hl9 : v9.repC G1 (.slice none 0 0) := repC_leaf _ 2 9 (by simp [isI64]) (by simp [isI64])
  have hrow6 : rV.S G1 [v9] (.slice (some ⟨b6, 0, none⟩) 1 1) := rV_row (at_cellsG hb6) (rV1 hl9 (by decide)) rfl (by omega)
  refine go_keep [0, 3, 5, 108] [3, 5] ?_
  refine st_ ?_
  refine go_callr 40 (by rw [hnt]; rfl) (by rw [hP]; kernel_rfl) rfl rfl (by omega) (hP ▸ fnew_ok e3T _ G1 (repC_S (by simp [isI64]) (by simp [isI64]) hrow6 (by omega)) (by decide)) ?_
  rintro u G2 r e size n xs (hle2 : Le G1 G2) (⟨_, g, sl, rfl, rfl, rfl, rfl, rfl, rfl, hcl, hS1⟩ | ⟨hev, _⟩)
  rotate_left
  · exact absurd hev (by decide)
  have hle02 := hle1.trans hle2
  obtain ⟨sb, hsb⟩ : ∃ sb, sb = Value.slice none 0 0 := ⟨_, rfl⟩
  obtain ⟨sc, hsc⟩ : ∃ sc, sc = Value.slice none 0 0 := ⟨_, rfl⟩
  have hz0 : FzS G2 g0F sl sb sc := by rw [hsb, hsc]; exact ⟨hcl, capNil, capNil, hS1, Rp.S_nil _ _, Rp.S_nil _ _⟩
  refine go_unrow 40 (cells := [.v (.int .i64 1), .v sl, .v sb, .v sc]) (by rw [hsb, hsc]; rfl) ?_
  clear hsb hsc hS1 hcl
  refine rn_ ?_; intros
  obtain ⟨ge1, ge2, ge3, ge4, ge5⟩ := g_e
  obtain ⟨gs0, gs1, gs2, gs3, gs4, gs5⟩ := g_s
  refine go_callW [40] (ow := fzO g 1 sl sb sc) (by rw [hnt]; rfl) (by rw [hP]; kernel_rfl) rfl rfl rfl (.inl (by intro k hk; omega)) (hP ▸ wstep ge1 gs0 gs1 g0_g (by omega) (hB.mono hle02) hz0) ?_
  clear hz0
  rintro v G3 ow (hle3 : Le G2 G3) ⟨rfl, sl, sb, sc, hz1, rfl⟩
  have hle03 := hle02.trans hle3
  simp only [setO, fzO]
  refine st_ ?_
  refine rn_ ?_; intros
  refine go_callW [40] (ow := fzO g 3 sl sb sc) (by rw [hnt]; rfl) (by rw [hP]; kernel_rfl) rfl rfl rfl (.inl (by intro k hk; omega)) (hP ▸ fstate_ok g 3 sl sb sc G3 (by omega)) ?_
  rintro v G4 ow (hle4 : Le G3 G4) ⟨rfl, rfl⟩
  have hle04 := hle03.trans hle4
  simp only [setO, fzO]
  refine st_ ?_
  refine rn_ ?_; intros
  refine go_callW [40] (ow := fzO g 3 sl sb sc) (by rw [hnt]; rfl) (by rw [hP]; kernel_rfl) rfl rfl rfl (.inl (by intro k hk; omega)) (hP ▸ wcond ge2 gs1 gs2 g1_g (by omega) (hB.mono hle04) (hz1.mono hle4) (by simp [isI64])) ?_
  rintro v G5 ow (hle5 : Le G4 G5) ⟨rfl, sl, sb, sc, hz2, rfl⟩
  have hle05 := hle04.trans hle5
  simp only [setO, fzO]
  refine st_ ?_
  refine rn_ ?_; intros
  refine go_callW [40] (ow := fzO g 2 sl sb sc) (by rw [hnt]; rfl) (by rw [hP]; kernel_rfl) rfl rfl rfl (.inl (by intro k hk; omega)) (hP ▸ wcall g_c.1 gs2 g2_g (by omega) (hB.mono hle05) hz2) ?_
  rintro v G6 ow (hle6 : Le G5 G6) ⟨⟨s1, rfl, hs1⟩, rfl⟩
  obtain ⟨y1, z1, rfl⟩ := Rp.S_slice hs1
  have hle06 := hle05.trans hle6
  simp only [setO, fzO]
  refine st_ ?_
  refine rn_ ?_; intros
  refine go_callf (by rw [hnt]; rfl) (by rw [hP]; kernel_rfl) rfl (hP ▸ lval_ok 9 0 _ _ _ _) ?_
  refine rn_ ?_; intros
  rename_i b16 br
  refine go_pub 42 rfl (by omega) ?_
  intro G7 (hle7 : Le G6 G7) hbr
  have hle07 := hle06.trans hle7
  have hrowr : rV.S G7 [sT] (.slice (some ⟨br, 0, none⟩) 1 1) := rV_row (at_cellsG hbr) (rV1 (VT.repC_mono hle07 hs) (by decide)) rfl (by omega)
  refine go_keep [0, 3, 5, 11, 12, 13, 14, 15, 16, 17, 123, 126] [3, 5, 40, 41] ?_
  refine st_ ?_
  refine go_callW [40] (ow := fzO g 2 sl sb sc) (by rw [hnt]; rfl) (by rw [hP]; kernel_rfl) rfl rfl rfl (.inl (by intro k hk; omega)) (hP ▸ wgive (v := e3B) ge3 gs2 gs3 g2_g (by omega) (hB.mono hle07) (hz2.mono (hle6.trans hle7)) (repC_S (by simp [isI64]) (by simp [isI64]) hrowr (by omega)) (by decide)) ?_
  rintro v G8 ow (hle8 : Le G7 G8) ⟨rfl, sl, sb, sc, hz3, rfl⟩
  have hle08 := hle07.trans hle8
  simp only [setO, fzO]
  refine st_ ?_
  refine rn_ ?_; intros
  refine go_callW [40] (ow := fzO g 1 sl sb sc) (by rw [hnt]; rfl) (by rw [hP]; kernel_rfl) rfl rfl rfl (.inl (by intro k hk; omega)) (hP ▸ wstep ge4 gs3 gs4 g3_g (by omega) (hB.mono hle08) hz3) ?_
  rintro v G9 ow (hle9 : Le G8 G9) ⟨rfl, sl, sb, sc, hz4, rfl⟩
  have hle09 := hle08.trans hle9
  simp only [setO, fzO]
  refine st_ ?_
  refine rn_ ?_; intros
  refine go_callW [40] (ow := fzO g 1 sl sb sc) (by rw [hnt]; rfl) (by rw [hP]; kernel_rfl) rfl rfl rfl (.inl (by intro k hk; omega)) (hP ▸ wstep ge5 gs4 gs5 g4_g (by omega) (hB.mono hle09) hz4) ?_
  rintro v G10 ow (hle10 : Le G9 G10) ⟨rfl, sl, sb, sc, hz5, rfl⟩
  have hle10' := hle09.trans hle10
  simp only [setO, fzO]
  refine st_ ?_
  refine rn_ ?_; intros
  rename_i bi
  refine go_see 5 [.v (.int .i64 5), .v (.int .i64 1), .v (.int .i64 2), .v (.int .i64 5), .v (.slice none 0 0), .v (.slice none 0 0), .v (.slice (some ⟨bi, 0, none⟩) 1 1)] rfl rfl ?_
  refine go_pub 42 rfl (by omega) ?_
  intro G11 (hle11 : Le G10 G11) hbi
  have hrowi : rI.S G11 [6] (.slice (some ⟨bi, 0, none⟩) 1 1) := rI_row (at_cellsG hbi) (Rp.L_single ⟨rfl, by simp [isI64]⟩) rfl (by omega)
  have hle011 := hle10'.trans hle11
  have hs11 := Rp.S_mono ((((hle7.trans hle8).trans hle9).trans hle10).trans hle11) hs1
  have hz6 := hz5.mono hle11
  clear hz1 hz2 hz3 hz4 hz5
  refine go_keep [0, 5, 11, 12, 13, 14, 15, 16, 17, 18, 19, 20] [5, 40, 41] ?_
  refine st_ ?_
  refine x_held [(5, b5, .c 56 [.v (.int .i64 5), .v (.int .i64 1), .v (.int .i64 2), .v (.int .i64 5), .v (.slice none 0 0), .v (.slice none 0 0), .v (.slice (some ⟨bi, 0, none⟩) 1 1)]), (41, b16, .c 43 [.v (.int .i64 2), .v (.slice y1 2 z1)])] rfl (by rw [hP]; kernel_rfl) rfl rfl rfl ?_; refine st_ ?_
  refine h_take 0 rfl (by kernel_rfl) (by kernel_rfl) (by kernel_rfl) hQp (by rw [hnt]; rfl) (allIn (by repeat (first | exact trivial | refine ⟨rfl, ?_⟩))) (by first | exact Le.refl _ | assumption) (quiet_op (by rw [hty]; first | rfl | (refine st_ ?_; rfl))) ?_; refine st_ ?_
  refine h_take 2 rfl (by kernel_rfl) (by kernel_rfl) (by kernel_rfl) hQp (by rw [hnt]; rfl) (allIn (by repeat (first | exact trivial | refine ⟨rfl, ?_⟩))) (by first | exact Le.refl _ | assumption) (quiet_op (by rw [hty]; first | rfl | (refine st_ ?_; rfl))) ?_; refine st_ ?_
  refine h_take 5 rfl (by kernel_rfl) (by kernel_rfl) (by kernel_rfl) hQp (by rw [hnt]; rfl) (allIn (by repeat (first | exact trivial | refine ⟨rfl, ?_⟩))) (by first | exact Le.refl _ | assumption) (quiet_op (by rw [hty]; first | rfl | (refine st_ ?_; rfl))) ?_; refine st_ ?_
  refine h_take 8 rfl (by kernel_rfl) (by kernel_rfl) (by kernel_rfl) hQp (by rw [hnt]; rfl) (allIn (by repeat (first | exact trivial | refine ⟨rfl, ?_⟩))) (by first | exact Le.refl _ | assumption) (quiet_op (by rw [hty]; first | rfl | (refine st_ ?_; rfl))) ?_; refine st_ ?_
  refine h_take 11 rfl (by kernel_rfl) (by kernel_rfl) (by kernel_rfl) hQp (by rw [hnt]; rfl) (allIn (by repeat (first | exact trivial | refine ⟨rfl, ?_⟩))) (by first | exact Le.refl _ | assumption) (quiet_op (by rw [hty]; first | rfl | (refine st_ ?_; rfl))) ?_; refine st_ ?_
  refine h_take 14 rfl (by kernel_rfl) (by kernel_rfl) (by kernel_rfl) hQp (by rw [hnt]; rfl) (allIn (by repeat (first | exact trivial | refine ⟨rfl, ?_⟩))) (by first | exact Le.refl _ | assumption) (quiet_op (by rw [hty]; first | rfl | (refine st_ ?_; rfl))) ?_; refine st_ ?_
  refine h_one 1 rfl (by kernel_rfl) ?_
  refine go_callf (by rw [hnt]; rfl) (by rw [hP]; kernel_rfl) rfl (hP ▸ num_ok _ _) ?_
  refine rn_ ?_; intros
  refine h_hs (allIn (by repeat (first | exact trivial | refine ⟨rfl, ?_⟩))) (by first | exact Le.refl _ | assumption) ?_
  refine h_one 3 rfl (by kernel_rfl) ?_
  refine go_callf (by rw [hnt]; rfl) (by rw [hP]; kernel_rfl) rfl (hP ▸ num_ok _ _) ?_
  refine rn_ ?_; intros
  refine h_hs (allIn (by repeat (first | exact trivial | refine ⟨rfl, ?_⟩))) (by first | exact Le.refl _ | assumption) ?_
  refine h_take 4 rfl (by kernel_rfl) (by kernel_rfl) (by kernel_rfl) hQp (by rw [hnt]; rfl) (allIn (by repeat (first | exact trivial | refine ⟨rfl, ?_⟩))) (by first | exact Le.refl _ | assumption) (quiet_op (by rw [hty]; first | rfl | (refine st_ ?_; rfl))) ?_; refine st_ ?_
  refine h_one 6 rfl (by kernel_rfl) ?_
  refine go_callf (by rw [hnt]; rfl) (by rw [hP]; kernel_rfl) rfl (hP ▸ num_ok _ _) ?_
  refine rn_ ?_; intros
  refine h_hs (allIn (by repeat (first | exact trivial | refine ⟨rfl, ?_⟩))) (by first | exact Le.refl _ | assumption) ?_
  refine h_take 7 rfl (by kernel_rfl) (by kernel_rfl) (by kernel_rfl) hQp (by rw [hnt]; rfl) (allIn (by repeat (first | exact trivial | refine ⟨rfl, ?_⟩))) (by first | exact Le.refl _ | assumption) (quiet_op (by rw [hty]; first | rfl | (refine st_ ?_; rfl))) ?_; refine st_ ?_
  refine h_one 9 rfl (by kernel_rfl) ?_
  refine go_callf (by rw [hnt]; rfl) (by rw [hP]; kernel_rfl) rfl (hP ▸ num_ok _ _) ?_
  refine rn_ ?_; intros
  refine h_hs (allIn (by repeat (first | exact trivial | refine ⟨rfl, ?_⟩))) (by first | exact Le.refl _ | assumption) ?_
  refine h_take 10 rfl (by kernel_rfl) (by kernel_rfl) (by kernel_rfl) hQp (by rw [hnt]; rfl) (allIn (by repeat (first | exact trivial | refine ⟨rfl, ?_⟩))) (by first | exact Le.refl _ | assumption) (quiet_op (by rw [hty]; first | rfl | (refine st_ ?_; rfl))) ?_; refine st_ ?_
  refine h_one 12 rfl (by kernel_rfl) ?_
  refine go_callf (by rw [hnt]; rfl) (by rw [hP]; kernel_rfl) rfl (hP ▸ num_ok _ _) ?_
  refine rn_ ?_; intros
  refine h_hs (allIn (by repeat (first | exact trivial | refine ⟨rfl, ?_⟩))) (by first | exact Le.refl _ | assumption) ?_
  refine h_take 13 rfl (by kernel_rfl) (by kernel_rfl) (by kernel_rfl) hQp (by rw [hnt]; rfl) (allIn (by repeat (first | exact trivial | refine ⟨rfl, ?_⟩))) (by first | exact Le.refl _ | assumption) (quiet_op (by rw [hty]; first | rfl | (refine st_ ?_; rfl))) ?_; refine st_ ?_
  refine h_one 15 rfl (by kernel_rfl) ?_
  refine go_callf (by rw [hnt]; rfl) (by rw [hP]; kernel_rfl) rfl (hP ▸ num_ok _ _) ?_
  refine rn_ ?_; intros
  refine h_hs (allIn (by repeat (first | exact trivial | refine ⟨rfl, ?_⟩))) (by first | exact Le.refl _ | assumption) ?_
  refine h_take 16 rfl (by kernel_rfl) (by kernel_rfl) (by kernel_rfl) hQp (by rw [hnt]; rfl) (allIn (by repeat (first | exact trivial | refine ⟨rfl, ?_⟩))) (by first | exact Le.refl _ | assumption) (quiet_op (by rw [hty]; first | rfl | (refine st_ ?_; rfl))) ?_; refine st_ ?_
  refine h_take 17 rfl (by kernel_rfl) (by kernel_rfl) (by kernel_rfl) hQp (by rw [hnt]; rfl) (allIn (by repeat (first | exact trivial | refine ⟨rfl, ?_⟩))) (by first | exact Le.refl _ | assumption) (quiet_op (by rw [hty]; first | rfl | (refine st_ ?_; rfl))) ?_; refine st_ ?_
  refine h_one 18 rfl (by kernel_rfl) ?_
  refine rn_ ?_; intros
  refine h_hs (allIn (by repeat (first | exact trivial | refine ⟨rfl, ?_⟩))) (by first | exact Le.refl _ | assumption) ?_
  refine go_slot 153 (.b false) rfl (by simp [SV.den] <;> decide) ?_
  refine st_ ?_
  refine h_takeG 19 rfl rfl rfl (by kernel_rfl) (by kernel_rfl) (by kernel_rfl) hQp (by rw [hnt]; rfl) (allIn (by repeat (first | exact trivial | refine ⟨rfl, ?_⟩))) (by first | exact Le.refl _ | assumption) (quiet_op (by rw [hty]; first | rfl | (refine st_ ?_; rfl))) ?_; refine st_ ?_
  refine h_takeG 20 rfl rfl rfl (by kernel_rfl) (by kernel_rfl) (by kernel_rfl) hQp (by rw [hnt]; rfl) (allIn (by repeat (first | exact trivial | refine ⟨rfl, ?_⟩))) (by first | exact Le.refl _ | assumption) (quiet_op (by rw [hty]; first | rfl | (refine st_ ?_; rfl))) ?_; refine st_ ?_
  refine h_take 21 rfl (by kernel_rfl) (by kernel_rfl) (by kernel_rfl) hQp (by rw [hnt]; rfl) (allIn (by repeat (first | exact trivial | refine ⟨rfl, ?_⟩))) (by first | exact Le.refl _ | assumption) (quiet_op (by rw [hty]; first | rfl | (refine st_ ?_; rfl))) ?_; refine st_ ?_
  refine h_one 22 rfl (by kernel_rfl) ?_
  refine rn_ ?_; intros
  refine h_hs (allIn (by repeat (first | exact trivial | refine ⟨rfl, ?_⟩))) (by first | exact Le.refl _ | assumption) ?_
  refine go_slot 157 (.b false) rfl (by simp [SV.den] <;> decide) ?_
  refine st_ ?_
  refine h_takeG 23 rfl rfl rfl (by kernel_rfl) (by kernel_rfl) (by kernel_rfl) hQp (by rw [hnt]; rfl) (allIn (by repeat (first | exact trivial | refine ⟨rfl, ?_⟩))) (by first | exact Le.refl _ | assumption) (quiet_op (by rw [hty]; first | rfl | (refine st_ ?_; rfl))) ?_; refine st_ ?_
  refine h_takeG 24 rfl rfl rfl (by kernel_rfl) (by kernel_rfl) (by kernel_rfl) hQp (by rw [hnt]; rfl) (allIn (by repeat (first | exact trivial | refine ⟨rfl, ?_⟩))) (by first | exact Le.refl _ | assumption) (quiet_op (by rw [hty]; first | rfl | (refine st_ ?_; rfl))) ?_; refine st_ ?_
  refine h_take 25 rfl (by kernel_rfl) (by kernel_rfl) (by kernel_rfl) hQp (by rw [hnt]; rfl) (allIn (by repeat (first | exact trivial | refine ⟨rfl, ?_⟩))) (by first | exact Le.refl _ | assumption) (quiet_op (by rw [hty]; first | rfl | (refine st_ ?_; rfl))) ?_; refine st_ ?_
  refine h_one 26 rfl (by kernel_rfl) ?_
  refine rn_ ?_; intros
  refine h_hs (allIn (by repeat (first | exact trivial | refine ⟨rfl, ?_⟩))) (by first | exact Le.refl _ | assumption) ?_
  refine go_slot 161 (.b false) rfl (by simp [SV.den] <;> decide) ?_
  refine st_ ?_
  refine go_keep [0, 5, 11, 16, 17, 161] [5, 40, 41] ?_
  refine st_ ?_
  refine h_takeG 27 rfl rfl rfl (by kernel_rfl) (by kernel_rfl) (by kernel_rfl) hQp (by rw [hnt]; rfl) (allIn (by repeat (first | exact trivial | refine ⟨rfl, ?_⟩))) (by first | exact Le.refl _ | assumption) (quiet_op (by rw [hty]; first | rfl | (refine st_ ?_; rfl))) ?_; refine st_ ?_
  refine h_one 28 rfl (by kernel_rfl) ?_
  refine rn_ ?_; intros
  refine go_callf (by rw [hnt]; rfl) (by rw [hP]; kernel_rfl) rfl (hP ▸ lval_ok 2 9 _ _ _ _) ?_
  refine rn_ ?_; intros
  refine h_hs (allIn (by repeat (first | exact trivial | refine ⟨rfl, ?_⟩))) (by first | exact Le.refl _ | assumption) ?_
  refine h_one 29 rfl (by kernel_rfl) ?_
  refine rn_ ?_; intros
  refine go_callf (by rw [hnt]; rfl) (by rw [hP]; kernel_rfl) rfl (hP ▸ lval_ok 13 6 _ _ _ _) ?_
  refine rn_ ?_; intros
  refine h_hs (allIn (by repeat (first | exact trivial | refine ⟨rfl, ?_⟩))) (by first | exact Le.refl _ | assumption) ?_
  refine h_one 30 rfl (by kernel_rfl) ?_
  refine rn_ ?_; intros
  rename_i b2
  refine go_pub 42 rfl (by omega) ?_
  intro G12 (hle12 : Le G11 G12) hb2
  have hrow2 : rV.S G12 [v9, .mk 13 6 []] (.slice (some ⟨b2, 0, none⟩) 2 2) := rV_row (at_cellsG hb2) (rV2 (repC_leaf _ 2 9 (by simp [isI64]) (by simp [isI64])) (by decide) (repC_leaf _ 13 6 (by simp [isI64]) (by simp [isI64])) (by decide)) rfl (by omega)
  refine st_ ?_
  refine rn_ ?_; intros
  refine h_hs (allIn (by repeat (first | exact trivial | refine ⟨rfl, ?_⟩))) (by first | exact Le.refl _ | assumption) ?_
  refine h_takeG 31 rfl rfl rfl (by kernel_rfl) (by kernel_rfl) (by kernel_rfl) hQp (by rw [hnt]; rfl) (allIn (by repeat (first | exact trivial | refine ⟨rfl, ?_⟩))) (by first | exact Le.refl _ | assumption) (quiet_op (by rw [hty]; first | rfl | (refine st_ ?_; rfl))) ?_; refine st_ ?_
  refine h_one 32 rfl (by kernel_rfl) ?_
  refine rn_ ?_; intros
  refine go_callf (by rw [hnt]; rfl) (by rw [hP]; kernel_rfl) rfl (hP ▸ sameCall_ok ⟨2, [v9, .mk 13 6 []]⟩ ⟨2, [v9, .mk 13 6 []]⟩ _ _ G12 (Rp.S_mono hle12 hs11) hrow2) ?_
  rw [show clE ⟨2, [v9, .mk 13 6 []]⟩ ⟨2, [v9, .mk 13 6 []]⟩ = true from rfl]
  refine rn_ ?_; intros
  refine h_hs (allIn (by repeat (first | exact trivial | refine ⟨rfl, ?_⟩))) (by first | exact Le.refl _ | assumption) ?_
  refine h_takeG 33 rfl rfl rfl (by kernel_rfl) (by kernel_rfl) (by kernel_rfl) hQp (by rw [hnt]; rfl) (allIn (by repeat (first | exact trivial | refine ⟨rfl, ?_⟩))) (by first | exact Le.refl _ | assumption) (quiet_op (by rw [hty]; first | rfl | (refine st_ ?_; rfl))) ?_; refine st_ ?_
  refine h_take 34 rfl (by kernel_rfl) (by kernel_rfl) (by kernel_rfl) hQp (by rw [hnt]; rfl) (allIn (by repeat (first | exact trivial | refine ⟨rfl, ?_⟩))) (by first | exact Le.refl _ | assumption) (quiet_op (by rw [hty]; first | rfl | (refine st_ ?_; rfl))) ?_; refine st_ ?_
  refine h_one 35 rfl (by kernel_rfl) ?_
  refine rn_ ?_; intros
  refine h_hs (allIn (by repeat (first | exact trivial | refine ⟨rfl, ?_⟩))) (by first | exact Le.refl _ | assumption) ?_
  refine go_slot 170 (.b false) rfl (by simp [SV.den] <;> decide) ?_
  refine st_ ?_
  refine h_takeG 36 rfl rfl rfl (by kernel_rfl) (by kernel_rfl) (by kernel_rfl) hQp (by rw [hnt]; rfl) (allIn (by repeat (first | exact trivial | refine ⟨rfl, ?_⟩))) (by first | exact Le.refl _ | assumption) (quiet_op (by rw [hty]; first | rfl | (refine st_ ?_; rfl))) ?_; refine st_ ?_
  refine h_takeG 38 rfl rfl rfl (by kernel_rfl) (by kernel_rfl) (by kernel_rfl) hQp (by rw [hnt]; rfl) (allIn (by repeat (first | exact trivial | refine ⟨rfl, ?_⟩))) (by first | exact Le.refl _ | assumption) (quiet_op (by rw [hty]; first | rfl | (refine st_ ?_; rfl))) ?_; refine st_ ?_
  refine go_keep [0, 11, 170, 171, 173] [5, 40, 41] ?_
  refine st_ ?_
  refine h_ind (fun q l s => (q = 17 ∧ l = #[true, true, true, true, true, true, true, true, true, true, true, true, true, true, true, true, true, true, true, true, true, true, true, true, true, true, true, true, true, true, true, true, true, true, true, true, true, false, true, false, false, false, false, false, false, false, false, false, false, false, false, false, false, false, false] ∧ s = ⟨[(0, .b false), (11, .v (.pointer (some ⟨g, 0, none⟩))), (170, .b false), (171, .v (.pointer (some ⟨g, 0, none⟩))), (173, .a [.v (.int .i64 5), .v (.int .i64 1), .v (.int .i64 2), .v (.int .i64 5), .v (.slice none 0 0), .v (.slice none 0 0), .v (.slice (some ⟨bi, 0, none⟩) 1 1)])], [(5, b5, .c 56 [.v (.int .i64 5), .v (.int .i64 1), .v (.int .i64 2), .v (.int .i64 5), .v (.slice none 0 0), .v (.slice none 0 0), .v (.slice (some ⟨bi, 0, none⟩) 1 1)]), (40, g, .c 74 [.v (.int .i64 4), .v sl, .v sb, .v sc]), (41, b16, .c 43 [.v (.int .i64 2), .v (.slice y1 2 z1)])], G12, []⟩) ∨
    (∃ (bb : Nat) (G' : Hp) (ad : Option Addr) (cap : Nat), q = 15 ∧ l = #[true, true, true, true, true, true, true, true, true, true, true, true, true, true, true, true, true, true, true, true, true, true, true, true, true, true, true, true, true, true, true, true, true, true, true, true, true, true, true, true, false, false, false, false, false, false, false, false, false, false, false, false, false, false, false] ∧ Le G12 G' ∧ rB.S G' [sendB [] [6]] (.slice ad 1 cap) ∧ s = ⟨[(0, .b false), (11, .v (.pointer (some ⟨g, 0, none⟩))), (170, .b false), (171, .v (.pointer (some ⟨g, 0, none⟩))), (172, .v (.slice ad 1 cap)), (174, .s 42 bb 0 1 1)], [(5, b5, .c 56 [.v (.int .i64 5), .v (.int .i64 1), .v (.int .i64 2), .v (.int .i64 5), .v (.slice none 0 0), .v (.slice none 0 0), .v (.slice (some ⟨bi, 0, none⟩) 1 1)]), (40, g, .c 74 [.v (.int .i64 4), .v sl, .v sb, .v sc]), (41, b16, .c 43 [.v (.int .i64 2), .v (.slice y1 2 z1)]), (42, bb, .c 56 [.v (.int .i64 5), .v (.int .i64 1), .v (.int .i64 2), .v (.int .i64 5), .v (.slice none 0 0), .v (.slice none 0 0), .v (.slice (some ⟨bi, 0, none⟩) 1 1)])], G', []⟩))
    (.inl ⟨rfl, (by kernel_rfl), rfl⟩) ?_
  rintro q l s (⟨rfl, rfl, rfl⟩ | ⟨bb, G13, ad, cap, rfl, rfl, hle13, hS13, rfl⟩) ih
  · refine h_two 37 39 rfl rfl (by kernel_rfl) ?_ ?_
    · refine rn_ ?_; intros
      refine go_callW [40] (ow := fzO g 4 sl sb sc) (by rw [hnt]; rfl) (by rw [hP]; kernel_rfl) rfl rfl rfl (.inl (by intro k hk; omega)) (hP ▸ fbases_ok g 4 [sendB [] [6]] sl sb sc G12 (by omega) (by rw [← g_c.2.1]; exact (hz6.mono hle12).b) (by simp) (by intro x hx; rw [← g_c.2.1] at hx; exact g5_g.b x hx)) ?_
      rintro v G13 ow (hle13 : Le G12 G13) ⟨⟨ad, cap, rfl, _, hS13⟩, rfl⟩
      have hle113 := hle12.trans hle13
      simp only [setO, fzO]
      refine st_ ?_
      refine rn_ ?_; intros
      refine h_hs (allIn (by repeat (first | exact trivial | refine ⟨rfl, ?_⟩))) (by first | exact Le.refl _ | assumption) ?_
      refine h_one 39 rfl (by kernel_rfl) ?_
      refine rn_ ?_; intros
      rename_i bb
      refine h_hs (allIn (by repeat (first | exact trivial | refine ⟨rfl, ?_⟩))) (by first | exact Le.refl _ | assumption) ?_
      refine go_keep [0, 11, 170, 171, 172, 174] [5, 40, 41, 42] ?_
      refine st_ ?_
      exact ih 15 _ _ (by omega) (.inr ⟨bb, G13, ad, cap, rfl, (by kernel_rfl), hle13, hS13, rfl⟩)
    · refine rn_ ?_; intros
      rename_i bb
      refine h_hs (allIn (by repeat (first | exact trivial | refine ⟨rfl, ?_⟩))) (by first | exact Le.refl _ | assumption) ?_
      refine h_one 37 rfl (by kernel_rfl) ?_
      refine rn_ ?_; intros
      refine go_callW [40] (ow := fzO g 4 sl sb sc) (by rw [hnt]; rfl) (by rw [hP]; kernel_rfl) rfl rfl rfl (.inl (by intro k hk; omega)) (hP ▸ fbases_ok g 4 [sendB [] [6]] sl sb sc G12 (by omega) (by rw [← g_c.2.1]; exact (hz6.mono hle12).b) (by simp) (by intro x hx; rw [← g_c.2.1] at hx; exact g5_g.b x hx)) ?_
      rintro v G13 ow (hle13 : Le G12 G13) ⟨⟨ad, cap, rfl, _, hS13⟩, rfl⟩
      have hle113 := hle12.trans hle13
      simp only [setO, fzO]
      refine st_ ?_
      refine rn_ ?_; intros
      refine h_hs (allIn (by repeat (first | exact trivial | refine ⟨rfl, ?_⟩))) (by first | exact Le.refl _ | assumption) ?_
      refine go_keep [0, 11, 170, 171, 172, 174] [5, 40, 41, 42] ?_
      refine st_ ?_
      exact ih 15 _ _ (by omega) (.inr ⟨bb, G13, ad, cap, rfl, (by kernel_rfl), hle13, hS13, rfl⟩)
  have hle113 := hle12.trans hle13
  clear ih
  refine go_pub 42 rfl (by omega) ?_
  intro G14 (hle14 : Le G13 G14) hbb
  have hle114 := hle113.trans hle14
  have hsend : (sendB [] [6]).rep G14 (.slice none 0 0) (.slice none 0 0) (.slice (some ⟨bi, 0, none⟩) 1 1) := ⟨by simp [isI64, sendB], by simp [isI64, sendB], repC_leaf _ 2 5 (by simp [isI64]) (by simp [isI64]), by decide, Rp.S_nil _ _, Rp.S_mono hle114 hrowi⟩
  have hrowb : rB.S G14 [sendB [] [6]] (.slice (some ⟨bb, 0, none⟩) 1 1) := rB_row (at_cellsG hbb) (Rp.L_single ⟨_, _, _, rfl, hsend⟩) rfl (by omega)
  refine st_ ?_
  refine h_one 40 rfl (by kernel_rfl) ?_
  refine rn_ ?_; intros
  refine go_callf (by rw [hnt]; rfl) (by rw [hP]; kernel_rfl) rfl (hP ▸ same_ok [sendB [] [6]] [sendB [] [6]] _ _ G14 (Rp.S_mono hle14 hS13) hrowb (by simp) (by simp)) ?_
  rw [show eqL bsE [sendB [] [6]] [sendB [] [6]] = true from rfl]
  refine rn_ ?_; intros
  refine h_hs (allIn (by repeat (first | exact trivial | refine ⟨rfl, ?_⟩))) (by first | exact Le.refl _ | assumption) ?_
  refine h_takeG 41 rfl rfl rfl (by kernel_rfl) (by kernel_rfl) (by kernel_rfl) hQp (by rw [hnt]; rfl) (allIn (by repeat (first | exact trivial | refine ⟨rfl, ?_⟩))) (by first | exact Le.refl _ | assumption) (quiet_op (by rw [hty]; first | rfl | (refine st_ ?_; rfl))) ?_; refine st_ ?_
  refine h_take 42 rfl (by kernel_rfl) (by kernel_rfl) (by kernel_rfl) hQp (by rw [hnt]; rfl) (allIn (by repeat (first | exact trivial | refine ⟨rfl, ?_⟩))) (by first | exact Le.refl _ | assumption) (quiet_op (by rw [hty]; first | rfl | (refine st_ ?_; rfl))) ?_; refine st_ ?_
  refine h_one 43 rfl (by kernel_rfl) ?_
  refine rn_ ?_; intros
  refine h_hs (allIn (by repeat (first | exact trivial | refine ⟨rfl, ?_⟩))) (by first | exact Le.refl _ | assumption) ?_
  refine go_slot 178 (.b false) rfl (by simp [SV.den] <;> decide) ?_
  refine st_ ?_
  refine h_takeG 44 rfl rfl rfl (by kernel_rfl) (by kernel_rfl) (by kernel_rfl) hQp (by rw [hnt]; rfl) (allIn (by repeat (first | exact trivial | refine ⟨rfl, ?_⟩))) (by first | exact Le.refl _ | assumption) (quiet_op (by rw [hty]; first | rfl | (refine st_ ?_; rfl))) ?_; refine st_ ?_
  refine h_one 45 rfl (by kernel_rfl) ?_
  refine rn_ ?_; intros
  refine go_callW [40] (ow := fzO g 4 sl sb sc) (by rw [hnt]; rfl) (by rw [hP]; kernel_rfl) rfl rfl rfl (.inl (by intro k hk; omega)) (hP ▸ fstate_ok g 4 sl sb sc G14 (by omega)) ?_
  rintro v G15 ow (hle15 : Le G14 G15) ⟨rfl, rfl⟩
  have hle115 := hle114.trans hle15
  simp only [setO, fzO]
  refine st_ ?_
  refine rn_ ?_; intros
  refine h_hs (allIn (by repeat (first | exact trivial | refine ⟨rfl, ?_⟩))) (by first | exact Le.refl _ | assumption) ?_
  refine h_takeG 46 rfl rfl rfl (by kernel_rfl) (by kernel_rfl) (by kernel_rfl) hQp (by rw [hnt]; rfl) (allIn (by repeat (first | exact trivial | refine ⟨rfl, ?_⟩))) (by first | exact Le.refl _ | assumption) (quiet_op (by rw [hty]; first | rfl | (refine st_ ?_; rfl))) ?_; refine st_ ?_
  refine h_take 47 rfl (by kernel_rfl) (by kernel_rfl) (by kernel_rfl) hQp (by rw [hnt]; rfl) (allIn (by repeat (first | exact trivial | refine ⟨rfl, ?_⟩))) (by first | exact Le.refl _ | assumption) (quiet_op (by rw [hty]; first | rfl | (refine st_ ?_; rfl))) ?_; refine st_ ?_
  refine h_one 48 rfl (by kernel_rfl) ?_
  refine rn_ ?_; intros
  refine h_hs (allIn (by repeat (first | exact trivial | refine ⟨rfl, ?_⟩))) (by first | exact Le.refl _ | assumption) ?_
  refine go_slot 183 (.b false) rfl (by simp [SV.den] <;> decide) ?_
  refine st_ ?_
  refine h_takeG 49 rfl rfl rfl (by kernel_rfl) (by kernel_rfl) (by kernel_rfl) hQp (by rw [hnt]; rfl) (allIn (by repeat (first | exact trivial | refine ⟨rfl, ?_⟩))) (by first | exact Le.refl _ | assumption) (quiet_op (by rw [hty]; first | rfl | (refine st_ ?_; rfl))) ?_; refine st_ ?_
  refine go_keep [0, 183, 184] [5, 40, 41] ?_
  refine st_ ?_
  have hz7 := hz6.mono hle115
  refine h_two 50 51 rfl rfl (by kernel_rfl) ?_ ?_
  · refine rn_ ?_; intros
    refine go_callW [40] (ow := fzO g 4 sl sb sc) (by rw [hnt]; rfl) (by rw [hP]; kernel_rfl) rfl rfl rfl (.inl (by intro k hk; omega)) (hP ▸ fconds_ok g 4 [6] sl sb sc G15 (by omega) (by rw [← g_c.2.2]; exact hz7.c) (by simp)) ?_
    rintro v G16 ow (hle16 : Le G15 G16) ⟨⟨ad, cap, rfl, _, hS16⟩, rfl⟩
    have hle116 := hle115.trans hle16
    simp only [setO, fzO]
    refine st_ ?_
    refine rn_ ?_; intros
    refine h_hs (allIn (by repeat (first | exact trivial | refine ⟨rfl, ?_⟩))) (by first | exact Le.refl _ | assumption) ?_
    refine h_one 51 rfl (by kernel_rfl) ?_
    refine rn_ ?_; intros
    rename_i b9
    refine go_pub 42 rfl (by omega) ?_
    intro G17 (hle17 : Le G16 G17) hb9
    have hle117 := hle116.trans hle17
    have hS17 := Rp.S_mono hle17 hS16
    have hrow9 : rI.S G17 [6] (.slice (some ⟨b9, 0, none⟩) 1 1) := rI_row (at_cellsG hb9) (Rp.L_single ⟨rfl, by simp [isI64]⟩) rfl (by omega)
    refine st_ ?_
    refine rn_ ?_; intros
    refine h_hs (allIn (by repeat (first | exact trivial | refine ⟨rfl, ?_⟩))) (by first | exact Le.refl _ | assumption) ?_
    refine h_one 52 rfl (by kernel_rfl) ?_
    refine rn_ ?_; intros
    refine go_callf (by rw [hnt]; rfl) (by rw [hP]; kernel_rfl) rfl (hP ▸ rints_ok [6] [6] _ _ G17 hS17 hrow9) ?_
    rw [show eqL (fun x1 x2 : Int => x1 == x2) [6] [6] = true from rfl]
    refine rn_ ?_; intros
    refine h_hs (allIn (by repeat (first | exact trivial | refine ⟨rfl, ?_⟩))) (by first | exact Le.refl _ | assumption) ?_
    refine h_takeG 53 rfl rfl rfl (by kernel_rfl) (by kernel_rfl) (by kernel_rfl) hQp (by rw [hnt]; rfl) (allIn (by repeat (first | exact trivial | refine ⟨rfl, ?_⟩))) (by first | exact Le.refl _ | assumption) (quiet_op (by rw [hty]; first | rfl | (refine st_ ?_; rfl))) ?_; refine st_ ?_
    refine h_take 54 rfl (by kernel_rfl) (by kernel_rfl) (by kernel_rfl) hQp (by rw [hnt]; rfl) (allIn (by repeat (first | exact trivial | refine ⟨rfl, ?_⟩))) (by first | exact Le.refl _ | assumption) (quiet_op (by rw [hty]; first | rfl | (refine st_ ?_; rfl))) ?_; refine st_ ?_
    refine h_end (by kernel_rfl) ?_
    refine go_keep [0, 189] [] ?_
    refine st_ ?_
    refine cut_tailK 1 (fun s' => s' = ⟨[(0, .b false)], [], G17, []⟩) ?_ ?_
    · rintro s' rfl
      exact w5 hP hQ hnt hty hmb hmh hro G17 (hB.mono (hle011.trans hle117))
    intro Kr key
    simp only [List.take_succ_cons, List.take_zero, List.cons_append, List.nil_append]
    refine go_slot 189 (.b false) rfl (by simp [SV.den] <;> decide) ?_
    refine st_ ?_
    refine rn_ ?_; intros
    refine go_keep [0] [] ?_
    refine st_ ?_
    exact key _ rfl
  · refine rn_ ?_; intros
    rename_i b9
    refine go_pub 42 rfl (by omega) ?_
    intro G16 (hle16 : Le G15 G16) hb9
    have hle116 := hle115.trans hle16
    refine st_ ?_
    refine rn_ ?_; intros
    refine h_hs (allIn (by repeat (first | exact trivial | refine ⟨rfl, ?_⟩))) (by first | exact Le.refl _ | assumption) ?_
    refine h_one 50 rfl (by kernel_rfl) ?_
    refine rn_ ?_; intros
    refine go_callW [40] (ow := fzO g 4 sl sb sc) (by rw [hnt]; rfl) (by rw [hP]; kernel_rfl) rfl rfl rfl (.inl (by intro k hk; omega)) (hP ▸ fconds_ok g 4 [6] sl sb sc G16 (by omega) (by rw [← g_c.2.2]; exact (hz7.mono hle16).c) (by simp)) ?_
    rintro v G17 ow (hle17 : Le G16 G17) ⟨⟨ad, cap, rfl, _, hS17⟩, rfl⟩
    have hle117 := hle116.trans hle17
    simp only [setO, fzO]
    have hrow9 : rI.S G17 [6] (.slice (some ⟨b9, 0, none⟩) 1 1) := Rp.S_mono hle17 (rI_row (at_cellsG hb9) (Rp.L_single ⟨rfl, by simp [isI64]⟩) rfl (by omega))
    refine st_ ?_
    refine rn_ ?_; intros
    refine h_hs (allIn (by repeat (first | exact trivial | refine ⟨rfl, ?_⟩))) (by first | exact Le.refl _ | assumption) ?_
    refine h_one 52 rfl (by kernel_rfl) ?_
    refine rn_ ?_; intros
    refine go_callf (by rw [hnt]; rfl) (by rw [hP]; kernel_rfl) rfl (hP ▸ rints_ok [6] [6] _ _ G17 hS17 hrow9) ?_
    rw [show eqL (fun x1 x2 : Int => x1 == x2) [6] [6] = true from rfl]
    refine rn_ ?_; intros
    refine h_hs (allIn (by repeat (first | exact trivial | refine ⟨rfl, ?_⟩))) (by first | exact Le.refl _ | assumption) ?_
    refine h_takeG 53 rfl rfl rfl (by kernel_rfl) (by kernel_rfl) (by kernel_rfl) hQp (by rw [hnt]; rfl) (allIn (by repeat (first | exact trivial | refine ⟨rfl, ?_⟩))) (by first | exact Le.refl _ | assumption) (quiet_op (by rw [hty]; first | rfl | (refine st_ ?_; rfl))) ?_; refine st_ ?_
    refine h_take 54 rfl (by kernel_rfl) (by kernel_rfl) (by kernel_rfl) hQp (by rw [hnt]; rfl) (allIn (by repeat (first | exact trivial | refine ⟨rfl, ?_⟩))) (by first | exact Le.refl _ | assumption) (quiet_op (by rw [hty]; first | rfl | (refine st_ ?_; rfl))) ?_; refine st_ ?_
    refine h_end (by kernel_rfl) ?_
    refine go_keep [0, 189] [] ?_
    refine st_ ?_
    refine cut_tailK 1 (fun s' => s' = ⟨[(0, .b false)], [], G17, []⟩) ?_ ?_
    · rintro s' rfl
      exact w5 hP hQ hnt hty hmb hmh hro G17 (hB.mono (hle011.trans hle117))
    intro Kr key
    simp only [List.take_succ_cons, List.take_zero, List.cons_append, List.nil_append]
    refine go_slot 189 (.b false) rfl (by simp [SV.den] <;> decide) ?_
    refine st_ ?_
    refine rn_ ?_; intros
    refine go_keep [0] [] ?_
    refine st_ ?_
    exact key _ rfl
end Go.Proofs.YthocgjchmpkhoaaDoor
namespace Go.Proofs.YthocgjchmpkhoaaDoor
set_option linter.unusedSimpArgs false
set_option linter.unusedVariables false
open Go.Sx
set_option maxHeartbeats 16000000
set_option maxRecDepth 20000
theorem rC2 {G : Hp} {x y : Cl} {s1 s2 : Value} (h1 : rV.S G x.a s1) (i1 : isI64 x.f) (h2 : rV.S G y.a s2) (i2 : isI64 y.f) : rC.L G [x, y] [.int .i64 x.f, s1, .int .i64 y.f, s2] :=
  Rp.L_append (r := rC) (l := [x]) (l' := [y]) (cs := [.int .i64 x.f, s1]) (Rp.L_single ⟨_, rfl, i1, h1⟩) (Rp.L_single ⟨_, rfl, i2, h2⟩)
theorem w3 {C : Ctx} (hP : C.P = Tryd.prog) (hQ : C.Q = bodyPost C.P Tryd.f6 (Ret [] C.w0 C.G0 (fun v _ => v = .bool true))) (hnt : C.nt = 242) (hty : C.ty = ty) (hmb : C.mb = []) (hmh : C.mh = 0) (hro : C.ro = none) (b3 b5 : Nat) (ss : Value) (G : Hp) (hB : At G 0 0 bdsL) (hs : sT.repC G ss) : SGo C [.code (c2 (c2 (c2 (c2 (c2 (c2 (c2 (Tryd.f6.body.getD .skip))))))))] ⟨[(0, .b false), (3, .p 3 b3 0), (5, .p 5 b5 0)], [(3, b3, .c 25 [.v (.int .i64 5), .v (.int .i64 0), .v ss]), (5, b5, .c 56 [.v (.int .i64 5), .v (.int .i64 1), .v (.int .i64 2), .v (.int .i64 5), .v (.slice none 0 0), .v (.slice none 0 0), .v (.slice none 0 0)])], G, []⟩ := by
  have hQp := qp_body hQ
  obtain ⟨ax, cx, rfl⟩ := VT.repC_slice hs
  refine rn_ ?_; intros
  refine x_held [(3, b3, .c 25 [.v (.int .i64 5), .v (.int .i64 0), .v (.slice ax sT.l.length cx)])] rfl (by rw [hP]; kernel_rfl) rfl rfl rfl ?_; refine st_ ?_
  refine h_take 0 rfl (by kernel_rfl) (by kernel_rfl) (by kernel_rfl) hQp (by rw [hnt]; rfl) (allIn (by repeat (first | exact trivial | refine ⟨rfl, ?_⟩))) (by first | exact Le.refl _ | assumption) (quiet_op (by rw [hty]; first | rfl | (refine st_ ?_; rfl))) ?_; refine st_ ?_
  refine h_one 1 rfl (by kernel_rfl) ?_
  refine rn_ ?_; intros
  refine go_callf (by rw [hnt]; rfl) (by rw [hP]; kernel_rfl) rfl (hP ▸ lval_ok 2 7 _ _ _ _) ?_
  refine rn_ ?_; intros
  refine h_hs (allIn (by repeat (first | exact trivial | refine ⟨rfl, ?_⟩))) (by first | exact Le.refl _ | assumption) ?_
  refine h_one 2 rfl (by kernel_rfl) ?_
  refine rn_ ?_; intros
  rename_i b6
  refine go_pub 6 rfl (by omega) ?_
  intro G1 (hle1 : Le G G1) hb6
  have hl7 : ∀ G', v7.repC G' (.slice none 0 0) := fun G' => repC_leaf _ 2 7 (by simp [isI64]) (by simp [isI64])
  have hrow6 : rV.S G1 [sT, v7] (.slice (some ⟨b6, 0, none⟩) 2 2) := rV_row (at_cellsG hb6) (rV2 (VT.repC_mono hle1 hs) (by decide) (hl7 _) (by decide)) rfl (by omega)
  refine st_ ?_
  refine rn_ ?_; intros
  refine h_hs (allIn (by repeat (first | exact trivial | refine ⟨rfl, ?_⟩))) (by first | exact Le.refl _ | assumption) ?_
  refine h_one 3 rfl (by kernel_rfl) ?_
  refine rn_ ?_; intros
  refine go_callf (by rw [hnt]; rfl) (by rw [hP]; kernel_rfl) rfl (hP ▸ lval_ok 10 4 _ _ _ _) ?_
  refine rn_ ?_; intros
  refine h_hs (allIn (by repeat (first | exact trivial | refine ⟨rfl, ?_⟩))) (by first | exact Le.refl _ | assumption) ?_
  refine h_one 4 rfl (by kernel_rfl) ?_
  refine rn_ ?_; intros
  rename_i b7
  refine go_pub 6 rfl (by omega) ?_
  intro G2 (hle2 : Le G1 G2) hb7
  have hle02 := hle1.trans hle2
  have hrow7 : rV.S G2 [.mk 10 4 [sT, v7]] (.slice (some ⟨b7, 0, none⟩) 1 1) := rV_row (at_cellsG hb7) (rV1 (repC_S (by simp [isI64]) (by simp [isI64]) (Rp.S_mono hle2 hrow6) (by omega)) (by decide)) rfl (by omega)
  refine st_ ?_
  refine rn_ ?_; intros
  refine h_hs (allIn (by repeat (first | exact trivial | refine ⟨rfl, ?_⟩))) (by first | exact Le.refl _ | assumption) ?_
  refine h_one 5 rfl (by kernel_rfl) ?_
  refine rn_ ?_; intros
  refine go_callf (by rw [hnt]; rfl) (by rw [hP]; kernel_rfl) rfl (hP ▸ lval_ok 10 3 _ _ _ _) ?_
  refine rn_ ?_; intros
  refine h_hs (allIn (by repeat (first | exact trivial | refine ⟨rfl, ?_⟩))) (by first | exact Le.refl _ | assumption) ?_
  refine h_one 6 rfl (by kernel_rfl) ?_
  refine rn_ ?_; intros
  refine go_call (by rw [hnt]; rfl) (by rw [hP]; kernel_rfl) rfl (hP ▸ fplain_ok e2T _ G2 (hB.mono hle02) (repC_S (by simp [isI64]) (by simp [isI64]) hrow7 (by omega)) (by decide)) ?_
  rintro v G3 (hle3 : Le G2 G3) ⟨sl, rfl, hS3⟩
  rw [e2_p] at hS3 ⊢
  obtain ⟨y3, z3, rfl⟩ := Rp.S_slice hS3
  have hle03 := hle02.trans hle3
  refine rn_ ?_; intros
  refine h_hs (allIn (by repeat (first | exact trivial | refine ⟨rfl, ?_⟩))) (by first | exact Le.refl _ | assumption) ?_
  refine h_take 7 rfl (by kernel_rfl) (by kernel_rfl) (by kernel_rfl) hQp (by rw [hnt]; rfl) (allIn (by repeat (first | exact trivial | refine ⟨rfl, ?_⟩))) (by first | exact Le.refl _ | assumption) (quiet_op (by rw [hty]; first | rfl | (refine st_ ?_; rfl))) ?_; refine st_ ?_
  refine h_take 8 rfl (by kernel_rfl) (by kernel_rfl) (by kernel_rfl) hQp (by rw [hnt]; rfl) (allIn (by repeat (first | exact trivial | refine ⟨rfl, ?_⟩))) (by first | exact Le.refl _ | assumption) (quiet_op (by rw [hty]; first | rfl | (refine st_ ?_; rfl))) ?_; refine st_ ?_
  refine h_take 9 rfl (by kernel_rfl) (by kernel_rfl) (by kernel_rfl) hQp (by rw [hnt]; rfl) (allIn (by repeat (first | exact trivial | refine ⟨rfl, ?_⟩))) (by first | exact Le.refl _ | assumption) (quiet_op (by rw [hty]; first | rfl | (refine st_ ?_; rfl))) ?_; refine st_ ?_
  refine h_one 10 rfl (by kernel_rfl) ?_
  refine rn_ ?_; intros
  refine h_hs (allIn (by repeat (first | exact trivial | refine ⟨rfl, ?_⟩))) (by first | exact Le.refl _ | assumption) ?_
  refine h_one 11 rfl (by kernel_rfl) ?_
  refine rn_ ?_; intros
  refine h_hs (allIn (by repeat (first | exact trivial | refine ⟨rfl, ?_⟩))) (by first | exact Le.refl _ | assumption) ?_
  refine h_end (by kernel_rfl) ?_
  refine go_keep [0, 3, 5, 9, 10] [3, 5] ?_
  refine st_ ?_
  refine rn_ ?_; intros
  refine go_callf (by rw [hnt]; rfl) (by rw [hP]; kernel_rfl) rfl (hP ▸ lval_ok 2 7 _ _ _ _) ?_
  refine rn_ ?_; intros
  rename_i b8 b9
  refine go_see 5 [.v (.int .i64 5), .v (.int .i64 1), .v (.int .i64 2), .v (.int .i64 5), .v (.slice none 0 0), .v (.slice (some ⟨b9, 0, none⟩) 2 2), .v (.slice none 0 0)] rfl rfl ?_
  refine go_pub 6 rfl (by omega) ?_
  intro G4 (hle4 : Le G3 G4) hb8
  refine go_pub 7 rfl (by omega) ?_
  intro G5 (hle5 : Le G4 G5) hb9
  have hle05 := (hle03.trans hle4).trans hle5
  have hrow8 : rV.S G4 [v7] (.slice (some ⟨b8, 0, none⟩) 1 1) := rV_row (at_cellsG hb8) (rV1 (hl7 _) (by decide)) rfl (by omega)
  have hrow9 : rC.S G5 [⟨4, [v7]⟩, ⟨3, []⟩] (.slice (some ⟨b9, 0, none⟩) 2 2) := rC_row (at_cellsG hb9) (rC2 (Rp.S_mono hle5 hrow8) (by simp [isI64]) (Rp.S_nil _ _) (by simp [isI64])) rfl (by omega)
  refine go_keep [0, 3, 5, 9, 10, 98] [3, 5] ?_
  refine st_ ?_
  refine go_slot 98 (.b false) rfl (by simp [SV.den] <;> decide) ?_
  refine st_ ?_
  refine rn_ ?_; intros
  rename_i ba
  refine go_pub 6 rfl (by omega) ?_
  intro G6 (hle6 : Le G5 G6) hba
  have hle06 := hle05.trans hle6
  have hsend : (sendB [⟨4, [v7]⟩, ⟨3, []⟩] []).rep G6 (.slice none 0 0) (.slice (some ⟨b9, 0, none⟩) 2 2) (.slice none 0 0) := ⟨by simp [isI64, sendB], by simp [isI64, sendB], repC_leaf _ 2 5 (by simp [isI64]) (by simp [isI64]), by decide, Rp.S_mono hle6 hrow9, Rp.S_nil _ _⟩
  have hrowb : rB.S G6 [sendB [⟨4, [v7]⟩, ⟨3, []⟩] []] (.slice (some ⟨ba, 0, none⟩) 1 1) := rB_row (at_cellsG hba) (Rp.L_single ⟨_, _, _, rfl, hsend⟩) rfl (by omega)
  refine go_callf (by rw [hnt]; rfl) (by rw [hP]; kernel_rfl) rfl (hP ▸ same_ok [sendB [⟨4, [v7]⟩, ⟨3, []⟩] []] [sendB [⟨4, [v7]⟩, ⟨3, []⟩] []] _ _ G6 (Rp.S_mono ((hle4.trans hle5).trans hle6) hS3) hrowb (by simp) (by simp)) ?_
  rw [show eqL bsE [sendB [⟨4, [v7]⟩, ⟨3, []⟩] []] [sendB [⟨4, [v7]⟩, ⟨3, []⟩] []] = true from rfl]
  refine rn_ ?_; intros
  refine go_keep [0, 3, 5, 104] [3, 5] ?_
  refine st_ ?_
  refine cut_tailK 1 (fun s' => s' = ⟨[(0, .b false), (3, .p 3 b3 0), (5, .p 5 b5 0)], [(3, b3, .c 25 [.v (.int .i64 5), .v (.int .i64 0), .v (.slice ax sT.l.length cx)]), (5, b5, .c 56 [.v (.int .i64 5), .v (.int .i64 1), .v (.int .i64 2), .v (.int .i64 5), .v (.slice none 0 0), .v (.slice (some ⟨b9, 0, none⟩) 2 2), .v (.slice none 0 0)])], G6, []⟩) ?_ ?_
  · rintro s' rfl
    exact w4 hP hQ hnt hty hmb hmh hro b3 b5 _ _ G6 (hB.mono hle06) (VT.repC_mono hle06 hs) ⟨_, _, _, rfl⟩
  intro Kr key
  simp only [List.take_succ_cons, List.take_zero, List.cons_append, List.nil_append]
  refine go_slot 104 (.b false) rfl (by simp [SV.den] <;> decide) ?_
  refine st_ ?_
  refine rn_ ?_; intros
  refine go_keep [0, 3, 5] [3, 5] ?_
  refine st_ ?_
  exact key _ rfl
end Go.Proofs.YthocgjchmpkhoaaDoor
namespace Go.Proofs.YthocgjchmpkhoaaDoor
set_option linter.unusedSimpArgs false
set_option linter.unusedVariables false
open Go.Sx
set_option maxHeartbeats 16000000
set_option maxRecDepth 20000
theorem f1B_L (G : Hp) {b : Nat} (h : rC.S G [⟨3, []⟩] (.slice (some ⟨b, 0, none⟩) 1 1)) : rB.L G f1B [.int .i64 5, .int .i64 1, .int .i64 2, .int .i64 5, .slice none 0 0, .slice none 0 0, .slice none 0 0, .int .i64 6, .int .i64 1, .int .i64 0, .int .i64 0, .slice none 0 0, .slice (some ⟨b, 0, none⟩) 1 1, .slice none 0 0, .int .i64 8, .int .i64 0, .int .i64 0, .int .i64 0, .slice none 0 0, .slice none 0 0, .slice none 0 0] := by
  have h1 : (sendB [] []).rep G (.slice none 0 0) (.slice none 0 0) (.slice none 0 0) := ⟨by simp [isI64, sendB], by simp [isI64, sendB], repC_leaf _ 2 5 (by simp [isI64]) (by simp [isI64]), by decide, Rp.S_nil _ _, Rp.S_nil _ _⟩
  have h2 : (⟨6, 1, zV, [⟨3, []⟩], []⟩ : Bs).rep G (.slice none 0 0) (.slice (some ⟨b, 0, none⟩) 1 1) (.slice none 0 0) := ⟨by simp [isI64], by simp [isI64], zV_rep G, by decide, h, Rp.S_nil _ _⟩
  have h3 : (⟨8, 0, zV, [], []⟩ : Bs).rep G (.slice none 0 0) (.slice none 0 0) (.slice none 0 0) := ⟨by simp [isI64], by simp [isI64], zV_rep G, by decide, Rp.S_nil _ _, Rp.S_nil _ _⟩
  exact Rp.L_append (r := rB) (l := [_]) (l' := [_, _]) (cs := [_, _, _, _, _, _, _]) (Rp.L_single ⟨_, _, _, rfl, h1⟩) (Rp.L_append (r := rB) (l := [_]) (l' := [_]) (cs := [_, _, _, _, _, _, _]) (Rp.L_single ⟨_, _, _, rfl, h2⟩) (Rp.L_single ⟨_, _, _, rfl, h3⟩))
theorem w2 {C : Ctx} (hP : C.P = Tryd.prog) (hQ : C.Q = bodyPost C.P Tryd.f6 (Ret [] C.w0 C.G0 (fun v _ => v = .bool true))) (hnt : C.nt = 242) (hty : C.ty = ty) (hmb : C.mb = []) (hmh : C.mh = 0) (hro : C.ro = none) (b3 b5 g : Nat) (ss sl sb sc : Value) (G : Hp) (hB : At G 0 0 bdsL) (hs : sT.repC G ss) (hz0 : FzS G (f1s 0) sl sb sc) : SGo C [.code (c2 (c2 (c2 (c2 (c2 (Tryd.f6.body.getD .skip))))))] ⟨[(0, .b false), (3, .p 3 b3 0), (5, .p 5 b5 0), (6, .v (.pointer (some ⟨g, 0, none⟩))), (7, .v (.int .i64 0))], [(3, b3, .c 25 [.v (.int .i64 5), .v (.int .i64 0), .v ss]), (5, b5, .c 56 [.v (.int .i64 5), .v (.int .i64 1), .v (.int .i64 2), .v (.int .i64 5), .v (.slice none 0 0), .v (.slice none 0 0), .v (.slice none 0 0)]), (40, g, .c 74 [.v (.int .i64 1), .v sl, .v sb, .v sc])], G, []⟩ := by
  have hQp := qp_body hQ
  obtain ⟨ax, cx, rfl⟩ := VT.repC_slice hs
  refine rn_ ?_; intros
  refine go_keep [0, 3, 5, 6, 7, 8] [3, 5, 40] ?_
  refine st_ ?_
  refine x_loop rfl (fun q st => ∃ (k : Nat) (G' : Hp) (sl sb sc : Value), k ≤ 5 ∧ q = 5 - k ∧ Le G G' ∧ FzS G' (f1s k) sl sb sc ∧
    st = ⟨[(0, .b false), (3, .p 3 b3 0), (5, .p 5 b5 0), (6, .v (.pointer (some ⟨g, 0, none⟩))), (7, .v (.int .i64 0)), (8, .v (.int .i64 k))], [(3, b3, .c 25 [.v (.int .i64 5), .v (.int .i64 0), .v (.slice ax sT.l.length cx)]), (5, b5, .c 56 [.v (.int .i64 5), .v (.int .i64 1), .v (.int .i64 2), .v (.int .i64 5), .v (.slice none 0 0), .v (.slice none 0 0), .v (.slice none 0 0)]), (40, g, .c 74 [.v (.int .i64 (f1s k).st), .v sl, .v sb, .v sc])], G', []⟩) ⟨0, G, sl, sb, sc, by omega, rfl, Le.refl _, hz0, rfl⟩ ?_
  clear hz0
  rintro q st ⟨k, G1, sl, sb, sc, hk, hq, hle1, hz, rfl⟩ ih
  refine rn_ ?_; intros
  refine x_if rfl rfl rfl rfl (fun hk5 => ?_) (fun hk5 => ?_)
  · have hlt : k < 5 := by simp at hk5; omega
    obtain ⟨he, hst⟩ := f1s_e k hlt
    refine rn_ ?_; intros
    refine go_callW [40] (ow := fzO g (f1s k).st sl sb sc) (by rw [hnt]; rfl) (by rw [hP]; kernel_rfl) rfl rfl rfl (.inl (by intro k hk; omega)) (hP ▸ wstep he rfl rfl (f1s_g k) (by omega) (hB.mono hle1) hz) ?_
    rintro v G2 ow (hle2 : Le G1 G2) ⟨rfl, sl, sb, sc, hz2, rfl⟩
    simp only [setO, fzO]
    refine st_ ?_
    refine rn_ ?_; intros
    refine go_callf (by rw [hnt]; rfl) (by rw [hP]; kernel_rfl) rfl (hP ▸ num_ok _ _) ?_
    refine rn_ ?_; intros
    (refine x_split rfl rfl rfl (fun hc => absurd hc (by first | decide +kernel | (simp; first | done | fail))) (fun _ => ?_); refine st_ ?_; (refine ru_ ?_; intros))
    refine rn_ ?_; intros
    rw [wr (n := (k : Int) + 1) (by omega) (by omega)]
    refine go_keep [0, 3, 5, 6, 7, 8] [3, 5, 40] ?_
    refine st_ ?_
    exact ih (5 - (k + 1)) _ (by omega) ⟨k + 1, G2, sl, sb, sc, by omega, rfl, hle1.trans hle2, hz2, rfl⟩
  have hke : k = 5 := by simp at hk5; omega
  subst hke
  clear ih hk5 hq hk
  rw [f1s_5.1]
  refine go_keep [0, 3, 5, 6, 7] [3, 5, 40] ?_
  refine st_ ?_
  refine rn_ ?_; intros
  refine x_held [(5, b5, .c 56 [.v (.int .i64 5), .v (.int .i64 1), .v (.int .i64 2), .v (.int .i64 5), .v (.slice none 0 0), .v (.slice none 0 0), .v (.slice none 0 0)])] rfl (by rw [hP]; kernel_rfl) rfl rfl rfl ?_; refine st_ ?_
  refine h_take 0 rfl (by kernel_rfl) (by kernel_rfl) (by kernel_rfl) hQp (by rw [hnt]; rfl) (allIn (by repeat (first | exact trivial | refine ⟨rfl, ?_⟩))) (by first | exact Le.refl _ | assumption) (quiet_op (by rw [hty]; first | rfl | (refine st_ ?_; rfl))) ?_; refine st_ ?_
  refine h_one 1 rfl (by kernel_rfl) ?_
  refine go_callf (by rw [hnt]; rfl) (by rw [hP]; kernel_rfl) rfl (hP ▸ num_ok _ _) ?_
  refine rn_ ?_; intros
  refine h_hs (allIn (by repeat (first | exact trivial | refine ⟨rfl, ?_⟩))) (by first | exact Le.refl _ | assumption) ?_
  refine h_take 2 rfl (by kernel_rfl) (by kernel_rfl) (by kernel_rfl) hQp (by rw [hnt]; rfl) (allIn (by repeat (first | exact trivial | refine ⟨rfl, ?_⟩))) (by first | exact Le.refl _ | assumption) (quiet_op (by rw [hty]; first | rfl | (refine st_ ?_; rfl))) ?_; refine st_ ?_
  refine h_one 3 rfl (by kernel_rfl) ?_
  refine rn_ ?_; intros
  refine h_hs (allIn (by repeat (first | exact trivial | refine ⟨rfl, ?_⟩))) (by first | exact Le.refl _ | assumption) ?_
  refine go_slot 63 (.b false) rfl (by simp [SV.den] <;> decide) ?_
  refine st_ ?_
  refine h_takeG 4 rfl rfl rfl (by kernel_rfl) (by kernel_rfl) (by kernel_rfl) hQp (by rw [hnt]; rfl) (allIn (by repeat (first | exact trivial | refine ⟨rfl, ?_⟩))) (by first | exact Le.refl _ | assumption) (quiet_op (by rw [hty]; first | rfl | (refine st_ ?_; rfl))) ?_; refine st_ ?_
  refine h_one 5 rfl (by kernel_rfl) ?_
  refine rn_ ?_; intros
  refine go_callW [40] (ow := fzO g 4 sl sb sc) (by rw [hnt]; rfl) (by rw [hP]; kernel_rfl) rfl rfl rfl (.inl (by intro k hk; omega)) (hP ▸ fstate_ok g 4 sl sb sc G1 (by omega)) ?_
  rintro v G5 ow (hle5 : Le G1 G5) ⟨rfl, rfl⟩
  have hle05 := hle1.trans hle5
  have hle15 := hle5
  simp only [setO, fzO]
  refine st_ ?_
  refine rn_ ?_; intros
  refine h_hs (allIn (by repeat (first | exact trivial | refine ⟨rfl, ?_⟩))) (by first | exact Le.refl _ | assumption) ?_
  refine h_takeG 6 rfl rfl rfl (by kernel_rfl) (by kernel_rfl) (by kernel_rfl) hQp (by rw [hnt]; rfl) (allIn (by repeat (first | exact trivial | refine ⟨rfl, ?_⟩))) (by first | exact Le.refl _ | assumption) (quiet_op (by rw [hty]; first | rfl | (refine st_ ?_; rfl))) ?_; refine st_ ?_
  refine h_take 7 rfl (by kernel_rfl) (by kernel_rfl) (by kernel_rfl) hQp (by rw [hnt]; rfl) (allIn (by repeat (first | exact trivial | refine ⟨rfl, ?_⟩))) (by first | exact Le.refl _ | assumption) (quiet_op (by rw [hty]; first | rfl | (refine st_ ?_; rfl))) ?_; refine st_ ?_
  refine h_one 8 rfl (by kernel_rfl) ?_
  refine rn_ ?_; intros
  refine h_hs (allIn (by repeat (first | exact trivial | refine ⟨rfl, ?_⟩))) (by first | exact Le.refl _ | assumption) ?_
  refine go_slot 68 (.b false) rfl (by simp [SV.den] <;> decide) ?_
  refine st_ ?_
  refine h_takeG 9 rfl rfl rfl (by kernel_rfl) (by kernel_rfl) (by kernel_rfl) hQp (by rw [hnt]; rfl) (allIn (by repeat (first | exact trivial | refine ⟨rfl, ?_⟩))) (by first | exact Le.refl _ | assumption) (quiet_op (by rw [hty]; first | rfl | (refine st_ ?_; rfl))) ?_; refine st_ ?_
  refine h_takeG 11 rfl rfl rfl (by kernel_rfl) (by kernel_rfl) (by kernel_rfl) hQp (by rw [hnt]; rfl) (allIn (by repeat (first | exact trivial | refine ⟨rfl, ?_⟩))) (by first | exact Le.refl _ | assumption) (quiet_op (by rw [hty]; first | rfl | (refine st_ ?_; rfl))) ?_; refine st_ ?_
  refine h_takeG 12 rfl rfl rfl (by kernel_rfl) (by kernel_rfl) (by kernel_rfl) hQp (by rw [hnt]; rfl) (allIn (by repeat (first | exact trivial | refine ⟨rfl, ?_⟩))) (by first | exact Le.refl _ | assumption) (quiet_op (by rw [hty]; first | rfl | (refine st_ ?_; rfl))) ?_; refine st_ ?_
  refine h_takeG 15 rfl rfl rfl (by kernel_rfl) (by kernel_rfl) (by kernel_rfl) hQp (by rw [hnt]; rfl) (allIn (by repeat (first | exact trivial | refine ⟨rfl, ?_⟩))) (by first | exact Le.refl _ | assumption) (quiet_op (by rw [hty]; first | rfl | (refine st_ ?_; rfl))) ?_; refine st_ ?_
  refine go_keep [0, 3, 5, 68, 69, 71, 72, 75] [3, 5, 40] ?_
  refine st_ ?_
  refine h_two 10 13 rfl rfl (by kernel_rfl) ?_ ?_
  · refine rn_ ?_; intros
    refine go_callW [40] (ow := fzO g 4 sl sb sc) (by rw [hnt]; rfl) (by rw [hP]; kernel_rfl) rfl rfl rfl (.inl (by intro k hk; omega)) (hP ▸ fbases_ok g 4 f1B sl sb sc G5 (by omega) (by rw [← f1s_5.2]; exact (hz.mono hle5).b) (by simp [f1B]) (by intro x hx; rw [← f1s_5.2] at hx; exact (f1s_g 5).b x hx)) ?_
    rintro v G7 ow (hle9 : Le G5 G7) ⟨⟨ad, cap, rfl, _, hS9⟩, rfl⟩
    simp only [setO, fzO]
    refine st_ ?_
    have hle17 := hle5.trans hle9
    have hle05 := hle05.trans hle9
    refine rn_ ?_; intros
    refine h_hs (allIn (by repeat (first | exact trivial | refine ⟨rfl, ?_⟩))) (by first | exact Le.refl _ | assumption) ?_
    refine h_one 13 rfl (by kernel_rfl) ?_
    refine rn_ ?_; intros
    rename_i bc
    refine h_hs (allIn (by repeat (first | exact trivial | refine ⟨rfl, ?_⟩))) (by first | exact Le.refl _ | assumption) ?_
    refine h_takeG 14 rfl rfl rfl (by kernel_rfl) (by kernel_rfl) (by kernel_rfl) hQp (by rw [hnt]; rfl) (allIn (by repeat (first | exact trivial | refine ⟨rfl, ?_⟩))) (by first | exact Le.refl _ | assumption) (quiet_op (by rw [hty]; first | rfl | (refine st_ ?_; rfl))) ?_; refine st_ ?_
    refine h_one 16 rfl (by kernel_rfl) ?_
    refine rn_ ?_; intros
    rename_i br
    refine h_hs (allIn (by repeat (first | exact trivial | refine ⟨rfl, ?_⟩))) (by first | exact Le.refl _ | assumption) ?_
    refine go_see 42 [.v (.int .i64 5), .v (.int .i64 1), .v (.int .i64 2), .v (.int .i64 5), .v (.slice none 0 0), .v (.slice none 0 0), .v (.slice none 0 0), .v (.int .i64 6), .v (.int .i64 1), .v (.int .i64 0), .v (.int .i64 0), .v (.slice none 0 0), .v (.slice (some ⟨bc, 0, none⟩) 1 1), .v (.slice none 0 0), .v (.int .i64 8), .v (.int .i64 0), .v (.int .i64 0), .v (.int .i64 0), .v (.slice none 0 0), .v (.slice none 0 0), .v (.slice none 0 0)] rfl rfl ?_
    refine go_pub 41 rfl (by omega) ?_
    intro G8 (hle8 : Le G7 G8) hbc
    have hrowc : rC.S G8 [⟨3, []⟩] (.slice (some ⟨bc, 0, none⟩) 1 1) := rC_row (at_cellsG hbc) (Rp.L_single ⟨_, rfl, by simp [isI64], Rp.S_nil _ _⟩) rfl (by omega)
    refine go_pub 42 rfl (by omega) ?_
    intro G9 (hle9' : Le G8 G9) hbr
    have hle089 := hle8.trans hle9'
    have hle19 := hle17.trans hle089
    have hle06 := hle05.trans hle089
    have hrowb : rB.S G9 f1B (.slice (some ⟨br, 0, none⟩) 3 3) := rB_row (at_cellsG hbr) (f1B_L G9 (Rp.S_mono hle9' hrowc)) rfl (by omega)
    have hS10 := Rp.S_mono hle089 hS9
    refine st_ ?_
    refine h_one 17 rfl (by kernel_rfl) ?_
    refine rn_ ?_; intros
    refine go_callf (by rw [hnt]; rfl) (by rw [hP]; kernel_rfl) rfl (hP ▸ same_ok f1B f1B _ _ G9 hS10 hrowb (by simp [f1B]) (by simp [f1B])) ?_
    rw [show eqL bsE f1B f1B = true from rfl]
    refine rn_ ?_; intros
    refine h_hs (allIn (by repeat (first | exact trivial | refine ⟨rfl, ?_⟩))) (by first | exact Le.refl _ | assumption) ?_
    refine h_takeG 18 rfl rfl rfl (by kernel_rfl) (by kernel_rfl) (by kernel_rfl) hQp (by rw [hnt]; rfl) (allIn (by repeat (first | exact trivial | refine ⟨rfl, ?_⟩))) (by first | exact Le.refl _ | assumption) (quiet_op (by rw [hty]; first | rfl | (refine st_ ?_; rfl))) ?_; refine st_ ?_
    refine h_take 19 rfl (by kernel_rfl) (by kernel_rfl) (by kernel_rfl) hQp (by rw [hnt]; rfl) (allIn (by repeat (first | exact trivial | refine ⟨rfl, ?_⟩))) (by first | exact Le.refl _ | assumption) (quiet_op (by rw [hty]; first | rfl | (refine st_ ?_; rfl))) ?_; refine st_ ?_
    refine h_end (by kernel_rfl) ?_
    refine go_keep [0, 3, 5, 79] [3, 5] ?_
    refine st_ ?_
    refine cut_tailK 1 (fun s' => s' = ⟨[(0, .b false), (3, .p 3 b3 0), (5, .p 5 b5 0)], [(3, b3, .c 25 [.v (.int .i64 5), .v (.int .i64 0), .v (.slice ax sT.l.length cx)]), (5, b5, .c 56 [.v (.int .i64 5), .v (.int .i64 1), .v (.int .i64 2), .v (.int .i64 5), .v (.slice none 0 0), .v (.slice none 0 0), .v (.slice none 0 0)])], G9, []⟩) ?_ ?_
    · rintro s' rfl
      exact w3 hP hQ hnt hty hmb hmh hro b3 b5 _ G9 (hB.mono hle06) (VT.repC_mono hle06 hs)
    intro Kr key
    simp only [List.take_succ_cons, List.take_zero, List.cons_append, List.nil_append]
    refine go_slot 79 (.b false) rfl (by simp [SV.den] <;> decide) ?_
    refine st_ ?_
    refine rn_ ?_; intros
    refine go_keep [0, 3, 5] [3, 5] ?_
    refine st_ ?_
    exact key _ rfl
  · refine rn_ ?_; intros
    rename_i bc
    refine h_hs (allIn (by repeat (first | exact trivial | refine ⟨rfl, ?_⟩))) (by first | exact Le.refl _ | assumption) ?_
    refine h_takeG 14 rfl rfl rfl (by kernel_rfl) (by kernel_rfl) (by kernel_rfl) hQp (by rw [hnt]; rfl) (allIn (by repeat (first | exact trivial | refine ⟨rfl, ?_⟩))) (by first | exact Le.refl _ | assumption) (quiet_op (by rw [hty]; first | rfl | (refine st_ ?_; rfl))) ?_; refine st_ ?_
    refine h_two 10 16 rfl rfl (by kernel_rfl) ?_ ?_
    · refine rn_ ?_; intros
      refine go_callW [40] (ow := fzO g 4 sl sb sc) (by rw [hnt]; rfl) (by rw [hP]; kernel_rfl) rfl rfl rfl (.inl (by intro k hk; omega)) (hP ▸ fbases_ok g 4 f1B sl sb sc G5 (by omega) (by rw [← f1s_5.2]; exact (hz.mono hle5).b) (by simp [f1B]) (by intro x hx; rw [← f1s_5.2] at hx; exact (f1s_g 5).b x hx)) ?_
      rintro v G7 ow (hle9 : Le G5 G7) ⟨⟨ad, cap, rfl, _, hS9⟩, rfl⟩
      simp only [setO, fzO]
      refine st_ ?_
      have hle17 := hle5.trans hle9
      have hle05 := hle05.trans hle9
      refine rn_ ?_; intros
      refine h_hs (allIn (by repeat (first | exact trivial | refine ⟨rfl, ?_⟩))) (by first | exact Le.refl _ | assumption) ?_
      refine h_one 16 rfl (by kernel_rfl) ?_
      refine rn_ ?_; intros
      rename_i br
      refine h_hs (allIn (by repeat (first | exact trivial | refine ⟨rfl, ?_⟩))) (by first | exact Le.refl _ | assumption) ?_
      refine go_see 42 [.v (.int .i64 5), .v (.int .i64 1), .v (.int .i64 2), .v (.int .i64 5), .v (.slice none 0 0), .v (.slice none 0 0), .v (.slice none 0 0), .v (.int .i64 6), .v (.int .i64 1), .v (.int .i64 0), .v (.int .i64 0), .v (.slice none 0 0), .v (.slice (some ⟨bc, 0, none⟩) 1 1), .v (.slice none 0 0), .v (.int .i64 8), .v (.int .i64 0), .v (.int .i64 0), .v (.int .i64 0), .v (.slice none 0 0), .v (.slice none 0 0), .v (.slice none 0 0)] rfl rfl ?_
      refine go_pub 41 rfl (by omega) ?_
      intro G8 (hle8 : Le G7 G8) hbc
      have hrowc : rC.S G8 [⟨3, []⟩] (.slice (some ⟨bc, 0, none⟩) 1 1) := rC_row (at_cellsG hbc) (Rp.L_single ⟨_, rfl, by simp [isI64], Rp.S_nil _ _⟩) rfl (by omega)
      refine go_pub 42 rfl (by omega) ?_
      intro G9 (hle9' : Le G8 G9) hbr
      have hle089 := hle8.trans hle9'
      have hle19 := hle17.trans hle089
      have hle06 := hle05.trans hle089
      have hrowb : rB.S G9 f1B (.slice (some ⟨br, 0, none⟩) 3 3) := rB_row (at_cellsG hbr) (f1B_L G9 (Rp.S_mono hle9' hrowc)) rfl (by omega)
      have hS10 := Rp.S_mono hle089 hS9
      refine st_ ?_
      refine h_one 17 rfl (by kernel_rfl) ?_
      refine rn_ ?_; intros
      refine go_callf (by rw [hnt]; rfl) (by rw [hP]; kernel_rfl) rfl (hP ▸ same_ok f1B f1B _ _ G9 hS10 hrowb (by simp [f1B]) (by simp [f1B])) ?_
      rw [show eqL bsE f1B f1B = true from rfl]
      refine rn_ ?_; intros
      refine h_hs (allIn (by repeat (first | exact trivial | refine ⟨rfl, ?_⟩))) (by first | exact Le.refl _ | assumption) ?_
      refine h_takeG 18 rfl rfl rfl (by kernel_rfl) (by kernel_rfl) (by kernel_rfl) hQp (by rw [hnt]; rfl) (allIn (by repeat (first | exact trivial | refine ⟨rfl, ?_⟩))) (by first | exact Le.refl _ | assumption) (quiet_op (by rw [hty]; first | rfl | (refine st_ ?_; rfl))) ?_; refine st_ ?_
      refine h_take 19 rfl (by kernel_rfl) (by kernel_rfl) (by kernel_rfl) hQp (by rw [hnt]; rfl) (allIn (by repeat (first | exact trivial | refine ⟨rfl, ?_⟩))) (by first | exact Le.refl _ | assumption) (quiet_op (by rw [hty]; first | rfl | (refine st_ ?_; rfl))) ?_; refine st_ ?_
      refine h_end (by kernel_rfl) ?_
      refine go_keep [0, 3, 5, 79] [3, 5] ?_
      refine st_ ?_
      refine cut_tailK 1 (fun s' => s' = ⟨[(0, .b false), (3, .p 3 b3 0), (5, .p 5 b5 0)], [(3, b3, .c 25 [.v (.int .i64 5), .v (.int .i64 0), .v (.slice ax sT.l.length cx)]), (5, b5, .c 56 [.v (.int .i64 5), .v (.int .i64 1), .v (.int .i64 2), .v (.int .i64 5), .v (.slice none 0 0), .v (.slice none 0 0), .v (.slice none 0 0)])], G9, []⟩) ?_ ?_
      · rintro s' rfl
        exact w3 hP hQ hnt hty hmb hmh hro b3 b5 _ G9 (hB.mono hle06) (VT.repC_mono hle06 hs)
      intro Kr key
      simp only [List.take_succ_cons, List.take_zero, List.cons_append, List.nil_append]
      refine go_slot 79 (.b false) rfl (by simp [SV.den] <;> decide) ?_
      refine st_ ?_
      refine rn_ ?_; intros
      refine go_keep [0, 3, 5] [3, 5] ?_
      refine st_ ?_
      exact key _ rfl
    · refine rn_ ?_; intros
      rename_i br
      refine h_hs (allIn (by repeat (first | exact trivial | refine ⟨rfl, ?_⟩))) (by first | exact Le.refl _ | assumption) ?_
      refine h_one 10 rfl (by kernel_rfl) ?_
      refine rn_ ?_; intros
      refine go_callW [40] (ow := fzO g 4 sl sb sc) (by rw [hnt]; rfl) (by rw [hP]; kernel_rfl) rfl rfl rfl (.inl (by intro k hk; omega)) (hP ▸ fbases_ok g 4 f1B sl sb sc G5 (by omega) (by rw [← f1s_5.2]; exact (hz.mono hle5).b) (by simp [f1B]) (by intro x hx; rw [← f1s_5.2] at hx; exact (f1s_g 5).b x hx)) ?_
      rintro v G7 ow (hle9 : Le G5 G7) ⟨⟨ad, cap, rfl, _, hS9⟩, rfl⟩
      simp only [setO, fzO]
      refine st_ ?_
      have hle17 := hle5.trans hle9
      have hle05 := hle05.trans hle9
      refine rn_ ?_; intros
      refine h_hs (allIn (by repeat (first | exact trivial | refine ⟨rfl, ?_⟩))) (by first | exact Le.refl _ | assumption) ?_
      refine go_see 42 [.v (.int .i64 5), .v (.int .i64 1), .v (.int .i64 2), .v (.int .i64 5), .v (.slice none 0 0), .v (.slice none 0 0), .v (.slice none 0 0), .v (.int .i64 6), .v (.int .i64 1), .v (.int .i64 0), .v (.int .i64 0), .v (.slice none 0 0), .v (.slice (some ⟨bc, 0, none⟩) 1 1), .v (.slice none 0 0), .v (.int .i64 8), .v (.int .i64 0), .v (.int .i64 0), .v (.int .i64 0), .v (.slice none 0 0), .v (.slice none 0 0), .v (.slice none 0 0)] rfl rfl ?_
      refine go_pub 41 rfl (by omega) ?_
      intro G8 (hle8 : Le G7 G8) hbc
      have hrowc : rC.S G8 [⟨3, []⟩] (.slice (some ⟨bc, 0, none⟩) 1 1) := rC_row (at_cellsG hbc) (Rp.L_single ⟨_, rfl, by simp [isI64], Rp.S_nil _ _⟩) rfl (by omega)
      refine go_pub 42 rfl (by omega) ?_
      intro G9 (hle9' : Le G8 G9) hbr
      have hle089 := hle8.trans hle9'
      have hle19 := hle17.trans hle089
      have hle06 := hle05.trans hle089
      have hrowb : rB.S G9 f1B (.slice (some ⟨br, 0, none⟩) 3 3) := rB_row (at_cellsG hbr) (f1B_L G9 (Rp.S_mono hle9' hrowc)) rfl (by omega)
      have hS10 := Rp.S_mono hle089 hS9
      refine st_ ?_
      refine h_one 17 rfl (by kernel_rfl) ?_
      refine rn_ ?_; intros
      refine go_callf (by rw [hnt]; rfl) (by rw [hP]; kernel_rfl) rfl (hP ▸ same_ok f1B f1B _ _ G9 hS10 hrowb (by simp [f1B]) (by simp [f1B])) ?_
      rw [show eqL bsE f1B f1B = true from rfl]
      refine rn_ ?_; intros
      refine h_hs (allIn (by repeat (first | exact trivial | refine ⟨rfl, ?_⟩))) (by first | exact Le.refl _ | assumption) ?_
      refine h_takeG 18 rfl rfl rfl (by kernel_rfl) (by kernel_rfl) (by kernel_rfl) hQp (by rw [hnt]; rfl) (allIn (by repeat (first | exact trivial | refine ⟨rfl, ?_⟩))) (by first | exact Le.refl _ | assumption) (quiet_op (by rw [hty]; first | rfl | (refine st_ ?_; rfl))) ?_; refine st_ ?_
      refine h_take 19 rfl (by kernel_rfl) (by kernel_rfl) (by kernel_rfl) hQp (by rw [hnt]; rfl) (allIn (by repeat (first | exact trivial | refine ⟨rfl, ?_⟩))) (by first | exact Le.refl _ | assumption) (quiet_op (by rw [hty]; first | rfl | (refine st_ ?_; rfl))) ?_; refine st_ ?_
      refine h_end (by kernel_rfl) ?_
      refine go_keep [0, 3, 5, 79] [3, 5] ?_
      refine st_ ?_
      refine cut_tailK 1 (fun s' => s' = ⟨[(0, .b false), (3, .p 3 b3 0), (5, .p 5 b5 0)], [(3, b3, .c 25 [.v (.int .i64 5), .v (.int .i64 0), .v (.slice ax sT.l.length cx)]), (5, b5, .c 56 [.v (.int .i64 5), .v (.int .i64 1), .v (.int .i64 2), .v (.int .i64 5), .v (.slice none 0 0), .v (.slice none 0 0), .v (.slice none 0 0)])], G9, []⟩) ?_ ?_
      · rintro s' rfl
        exact w3 hP hQ hnt hty hmb hmh hro b3 b5 _ G9 (hB.mono hle06) (VT.repC_mono hle06 hs)
      intro Kr key
      simp only [List.take_succ_cons, List.take_zero, List.cons_append, List.nil_append]
      refine go_slot 79 (.b false) rfl (by simp [SV.den] <;> decide) ?_
      refine st_ ?_
      refine rn_ ?_; intros
      refine go_keep [0, 3, 5] [3, 5] ?_
      refine st_ ?_
      exact key _ rfl
end Go.Proofs.YthocgjchmpkhoaaDoor
namespace Go.Proofs.YthocgjchmpkhoaaDoor
set_option linter.unusedSimpArgs false
set_option linter.unusedVariables false
open Go.Sx
set_option maxHeartbeats 16000000
set_option maxRecDepth 20000
theorem works_ok (G : Hp) (hB : At G 0 0 bdsL) : Pure Tryd.prog 6 [] G (fun v _ => v = .bool true) := by
  refine enterX ty tyok Tryd.func6 rfl Tryd.ntmps6 [] (by simp) ?_
  intro C hP hQ hnt hty hmb hmh hro; have hQp := qp_body hQ; refine st_ ?_
  refine rn_ ?_; intros
  refine go_callf (by rw [hnt]; rfl) (by rw [hP]; kernel_rfl) rfl (hP ▸ lval_ok 4 1 _ _ _ _) ?_
  refine rn_ ?_; intros
  refine go_callf (by rw [hnt]; rfl) (by rw [hP]; kernel_rfl) rfl (hP ▸ lval_ok 2 5 _ _ _ _) ?_
  refine rn_ ?_; intros
  rename_i b1 b2
  refine go_keep [0, 1, 2] [0, 1] ?_
  refine st_ ?_
  refine cut_tailK 1 (fun s' => ∃ x2 x5 x7 x8 : Nat, s' = ⟨[(0, .b false), (1, .p 0 b1 0), (2, .p 1 b2 0), (3, .p 3 x7 0), (4, .p 4 x8 0)], [(0, b1, .c 25 [.v (.int .i64 4), .v (.int .i64 1), .v (.slice none 0 0)]), (1, b2, .c 25 [.v (.int .i64 2), .v (.int .i64 5), .v (.slice none 0 0)]), (3, x7, .c 25 [.v (.int .i64 5), .v (.int .i64 0), .v (.slice (some ⟨x2, 0, none⟩) 2 2)]), (4, x8, .c 25 [.v (.int .i64 6), .v (.int .i64 0), .v (.slice (some ⟨x5, 0, none⟩) 1 1)]), (10, x2, .c 25 [.v (.int .i64 4), .v (.int .i64 1), .v (.slice none 0 0), .v (.int .i64 2), .v (.int .i64 5), .v (.slice none 0 0)]), (11, x5, .c 25 [.v (.int .i64 4), .v (.int .i64 1), .v (.slice none 0 0)])], G, []⟩) ?_ ?_
  rotate_left
  · intro Kr key
    simp only [List.take_succ_cons, List.take_zero, List.cons_append, List.nil_append]
    refine x_held [(0, b1, .c 25 [.v (.int .i64 4), .v (.int .i64 1), .v (.slice none 0 0)]), (1, b2, .c 25 [.v (.int .i64 2), .v (.int .i64 5), .v (.slice none 0 0)])] rfl (by rw [hP]; kernel_rfl) rfl rfl rfl ?_; refine st_ ?_
    refine h_take 0 rfl (by kernel_rfl) (by kernel_rfl) (by kernel_rfl) hQp (by rw [hnt]; rfl) (allIn (by repeat (first | exact trivial | refine ⟨rfl, ?_⟩))) (by first | exact Le.refl _ | assumption) (quiet_op (by rw [hty]; first | rfl | (refine st_ ?_; rfl))) ?_; refine st_ ?_
    refine h_take 1 rfl (by kernel_rfl) (by kernel_rfl) (by kernel_rfl) hQp (by rw [hnt]; rfl) (allIn (by repeat (first | exact trivial | refine ⟨rfl, ?_⟩))) (by first | exact Le.refl _ | assumption) (quiet_op (by rw [hty]; first | rfl | (refine st_ ?_; rfl))) ?_; refine st_ ?_
    refine h_take 4 rfl (by kernel_rfl) (by kernel_rfl) (by kernel_rfl) hQp (by rw [hnt]; rfl) (allIn (by repeat (first | exact trivial | refine ⟨rfl, ?_⟩))) (by first | exact Le.refl _ | assumption) (quiet_op (by rw [hty]; first | rfl | (refine st_ ?_; rfl))) ?_; refine st_ ?_
    refine go_keep [0, 1, 2, 32, 33, 36] [0, 1] ?_
    refine st_ ?_
    refine h_ind (fun q l s => (q = 8 ∧ l = #[true, true, false, false, true, false, false, false, false, false, false] ∧ s = ⟨[(0, .b false), (1, .p 0 b1 0), (2, .p 1 b2 0), (32, .a [.v (.int .i64 4), .v (.int .i64 1), .v (.slice none 0 0)]), (33, .a [.v (.int .i64 2), .v (.int .i64 5), .v (.slice none 0 0)]), (36, .a [.v (.int .i64 4), .v (.int .i64 1), .v (.slice none 0 0)])], [(0, b1, .c 25 [.v (.int .i64 4), .v (.int .i64 1), .v (.slice none 0 0)]), (1, b2, .c 25 [.v (.int .i64 2), .v (.int .i64 5), .v (.slice none 0 0)])], G, []⟩) ∨ (∃ x2 : Nat, q = 7 ∧ l = #[true, true, true, false, true, false, false, false, false, false, false] ∧ s = ⟨[(0, .b false), (1, .p 0 b1 0), (2, .p 1 b2 0), (32, .a [.v (.int .i64 4), .v (.int .i64 1), .v (.slice none 0 0)]), (33, .a [.v (.int .i64 2), .v (.int .i64 5), .v (.slice none 0 0)]), (36, .a [.v (.int .i64 4), .v (.int .i64 1), .v (.slice none 0 0)]), (34, .s 10 x2 0 2 2)], [(0, b1, .c 25 [.v (.int .i64 4), .v (.int .i64 1), .v (.slice none 0 0)]), (1, b2, .c 25 [.v (.int .i64 2), .v (.int .i64 5), .v (.slice none 0 0)]), (10, x2, .c 25 [.v (.int .i64 4), .v (.int .i64 1), .v (.slice none 0 0), .v (.int .i64 2), .v (.int .i64 5), .v (.slice none 0 0)])], G, []⟩) ∨ (∃ x5 : Nat, q = 7 ∧ l = #[true, true, false, false, true, true, false, false, false, false, false] ∧ s = ⟨[(0, .b false), (1, .p 0 b1 0), (2, .p 1 b2 0), (32, .a [.v (.int .i64 4), .v (.int .i64 1), .v (.slice none 0 0)]), (33, .a [.v (.int .i64 2), .v (.int .i64 5), .v (.slice none 0 0)]), (36, .a [.v (.int .i64 4), .v (.int .i64 1), .v (.slice none 0 0)]), (37, .s 11 x5 0 1 1)], [(0, b1, .c 25 [.v (.int .i64 4), .v (.int .i64 1), .v (.slice none 0 0)]), (1, b2, .c 25 [.v (.int .i64 2), .v (.int .i64 5), .v (.slice none 0 0)]), (11, x5, .c 25 [.v (.int .i64 4), .v (.int .i64 1), .v (.slice none 0 0)])], G, []⟩) ∨ (∃ x7 : Nat, q = 7 ∧ l = #[true, true, false, false, true, false, false, true, false, false, false] ∧ s = ⟨[(0, .b false), (1, .p 0 b1 0), (2, .p 1 b2 0), (32, .a [.v (.int .i64 4), .v (.int .i64 1), .v (.slice none 0 0)]), (33, .a [.v (.int .i64 2), .v (.int .i64 5), .v (.slice none 0 0)]), (36, .a [.v (.int .i64 4), .v (.int .i64 1), .v (.slice none 0 0)]), (3, .p 3 x7 0)], [(0, b1, .c 25 [.v (.int .i64 4), .v (.int .i64 1), .v (.slice none 0 0)]), (1, b2, .c 25 [.v (.int .i64 2), .v (.int .i64 5), .v (.slice none 0 0)]), (3, x7, .c 25 [.v (.int .i64 0), .v (.int .i64 0), .v (.slice none 0 0)])], G, []⟩) ∨ (∃ x8 : Nat, q = 7 ∧ l = #[true, true, false, false, true, false, false, false, true, false, false] ∧ s = ⟨[(0, .b false), (1, .p 0 b1 0), (2, .p 1 b2 0), (32, .a [.v (.int .i64 4), .v (.int .i64 1), .v (.slice none 0 0)]), (33, .a [.v (.int .i64 2), .v (.int .i64 5), .v (.slice none 0 0)]), (36, .a [.v (.int .i64 4), .v (.int .i64 1), .v (.slice none 0 0)]), (4, .p 4 x8 0)], [(0, b1, .c 25 [.v (.int .i64 4), .v (.int .i64 1), .v (.slice none 0 0)]), (1, b2, .c 25 [.v (.int .i64 2), .v (.int .i64 5), .v (.slice none 0 0)]), (4, x8, .c 25 [.v (.int .i64 0), .v (.int .i64 0), .v (.slice none 0 0)])], G, []⟩) ∨ (∃ x2 : Nat, q = 6 ∧ l = #[true, true, true, true, true, false, false, false, false, false, false] ∧ s = ⟨[(0, .b false), (1, .p 0 b1 0), (2, .p 1 b2 0), (32, .a [.v (.int .i64 4), .v (.int .i64 1), .v (.slice none 0 0)]), (33, .a [.v (.int .i64 2), .v (.int .i64 5), .v (.slice none 0 0)]), (36, .a [.v (.int .i64 4), .v (.int .i64 1), .v (.slice none 0 0)]), (34, .s 10 x2 0 2 2), (35, .a [.v (.int .i64 5), .v (.int .i64 0), .v (.slice (some ⟨x2, 0, none⟩) 2 2)])], [(0, b1, .c 25 [.v (.int .i64 4), .v (.int .i64 1), .v (.slice none 0 0)]), (1, b2, .c 25 [.v (.int .i64 2), .v (.int .i64 5), .v (.slice none 0 0)]), (10, x2, .c 25 [.v (.int .i64 4), .v (.int .i64 1), .v (.slice none 0 0), .v (.int .i64 2), .v (.int .i64 5), .v (.slice none 0 0)])], G, []⟩) ∨ (∃ x2 x5 : Nat, q = 6 ∧ l = #[true, true, true, false, true, true, false, false, false, false, false] ∧ s = ⟨[(0, .b false), (1, .p 0 b1 0), (2, .p 1 b2 0), (32, .a [.v (.int .i64 4), .v (.int .i64 1), .v (.slice none 0 0)]), (33, .a [.v (.int .i64 2), .v (.int .i64 5), .v (.slice none 0 0)]), (36, .a [.v (.int .i64 4), .v (.int .i64 1), .v (.slice none 0 0)]), (34, .s 10 x2 0 2 2), (37, .s 11 x5 0 1 1)], [(0, b1, .c 25 [.v (.int .i64 4), .v (.int .i64 1), .v (.slice none 0 0)]), (1, b2, .c 25 [.v (.int .i64 2), .v (.int .i64 5), .v (.slice none 0 0)]), (10, x2, .c 25 [.v (.int .i64 4), .v (.int .i64 1), .v (.slice none 0 0), .v (.int .i64 2), .v (.int .i64 5), .v (.slice none 0 0)]), (11, x5, .c 25 [.v (.int .i64 4), .v (.int .i64 1), .v (.slice none 0 0)])], G, []⟩) ∨ (∃ x2 x7 : Nat, q = 6 ∧ l = #[true, true, true, false, true, false, false, true, false, false, false] ∧ s = ⟨[(0, .b false), (1, .p 0 b1 0), (2, .p 1 b2 0), (32, .a [.v (.int .i64 4), .v (.int .i64 1), .v (.slice none 0 0)]), (33, .a [.v (.int .i64 2), .v (.int .i64 5), .v (.slice none 0 0)]), (36, .a [.v (.int .i64 4), .v (.int .i64 1), .v (.slice none 0 0)]), (34, .s 10 x2 0 2 2), (3, .p 3 x7 0)], [(0, b1, .c 25 [.v (.int .i64 4), .v (.int .i64 1), .v (.slice none 0 0)]), (1, b2, .c 25 [.v (.int .i64 2), .v (.int .i64 5), .v (.slice none 0 0)]), (10, x2, .c 25 [.v (.int .i64 4), .v (.int .i64 1), .v (.slice none 0 0), .v (.int .i64 2), .v (.int .i64 5), .v (.slice none 0 0)]), (3, x7, .c 25 [.v (.int .i64 0), .v (.int .i64 0), .v (.slice none 0 0)])], G, []⟩) ∨ (∃ x2 x8 : Nat, q = 6 ∧ l = #[true, true, true, false, true, false, false, false, true, false, false] ∧ s = ⟨[(0, .b false), (1, .p 0 b1 0), (2, .p 1 b2 0), (32, .a [.v (.int .i64 4), .v (.int .i64 1), .v (.slice none 0 0)]), (33, .a [.v (.int .i64 2), .v (.int .i64 5), .v (.slice none 0 0)]), (36, .a [.v (.int .i64 4), .v (.int .i64 1), .v (.slice none 0 0)]), (34, .s 10 x2 0 2 2), (4, .p 4 x8 0)], [(0, b1, .c 25 [.v (.int .i64 4), .v (.int .i64 1), .v (.slice none 0 0)]), (1, b2, .c 25 [.v (.int .i64 2), .v (.int .i64 5), .v (.slice none 0 0)]), (10, x2, .c 25 [.v (.int .i64 4), .v (.int .i64 1), .v (.slice none 0 0), .v (.int .i64 2), .v (.int .i64 5), .v (.slice none 0 0)]), (4, x8, .c 25 [.v (.int .i64 0), .v (.int .i64 0), .v (.slice none 0 0)])], G, []⟩) ∨ (∃ x5 x7 : Nat, q = 6 ∧ l = #[true, true, false, false, true, true, false, true, false, false, false] ∧ s = ⟨[(0, .b false), (1, .p 0 b1 0), (2, .p 1 b2 0), (32, .a [.v (.int .i64 4), .v (.int .i64 1), .v (.slice none 0 0)]), (33, .a [.v (.int .i64 2), .v (.int .i64 5), .v (.slice none 0 0)]), (36, .a [.v (.int .i64 4), .v (.int .i64 1), .v (.slice none 0 0)]), (37, .s 11 x5 0 1 1), (3, .p 3 x7 0)], [(0, b1, .c 25 [.v (.int .i64 4), .v (.int .i64 1), .v (.slice none 0 0)]), (1, b2, .c 25 [.v (.int .i64 2), .v (.int .i64 5), .v (.slice none 0 0)]), (11, x5, .c 25 [.v (.int .i64 4), .v (.int .i64 1), .v (.slice none 0 0)]), (3, x7, .c 25 [.v (.int .i64 0), .v (.int .i64 0), .v (.slice none 0 0)])], G, []⟩) ∨ (∃ x5 x8 : Nat, q = 6 ∧ l = #[true, true, false, false, true, true, false, false, true, false, false] ∧ s = ⟨[(0, .b false), (1, .p 0 b1 0), (2, .p 1 b2 0), (32, .a [.v (.int .i64 4), .v (.int .i64 1), .v (.slice none 0 0)]), (33, .a [.v (.int .i64 2), .v (.int .i64 5), .v (.slice none 0 0)]), (36, .a [.v (.int .i64 4), .v (.int .i64 1), .v (.slice none 0 0)]), (37, .s 11 x5 0 1 1), (4, .p 4 x8 0)], [(0, b1, .c 25 [.v (.int .i64 4), .v (.int .i64 1), .v (.slice none 0 0)]), (1, b2, .c 25 [.v (.int .i64 2), .v (.int .i64 5), .v (.slice none 0 0)]), (11, x5, .c 25 [.v (.int .i64 4), .v (.int .i64 1), .v (.slice none 0 0)]), (4, x8, .c 25 [.v (.int .i64 0), .v (.int .i64 0), .v (.slice none 0 0)])], G, []⟩) ∨ (∃ x7 x8 : Nat, q = 6 ∧ l = #[true, true, false, false, true, false, false, true, true, false, false] ∧ s = ⟨[(0, .b false), (1, .p 0 b1 0), (2, .p 1 b2 0), (32, .a [.v (.int .i64 4), .v (.int .i64 1), .v (.slice none 0 0)]), (33, .a [.v (.int .i64 2), .v (.int .i64 5), .v (.slice none 0 0)]), (36, .a [.v (.int .i64 4), .v (.int .i64 1), .v (.slice none 0 0)]), (3, .p 3 x7 0), (4, .p 4 x8 0)], [(0, b1, .c 25 [.v (.int .i64 4), .v (.int .i64 1), .v (.slice none 0 0)]), (1, b2, .c 25 [.v (.int .i64 2), .v (.int .i64 5), .v (.slice none 0 0)]), (3, x7, .c 25 [.v (.int .i64 0), .v (.int .i64 0), .v (.slice none 0 0)]), (4, x8, .c 25 [.v (.int .i64 0), .v (.int .i64 0), .v (.slice none 0 0)])], G, []⟩) ∨ (∃ x2 x5 : Nat, q = 5 ∧ l = #[true, true, true, true, true, true, false, false, false, false, false] ∧ s = ⟨[(0, .b false), (1, .p 0 b1 0), (2, .p 1 b2 0), (32, .a [.v (.int .i64 4), .v (.int .i64 1), .v (.slice none 0 0)]), (33, .a [.v (.int .i64 2), .v (.int .i64 5), .v (.slice none 0 0)]), (36, .a [.v (.int .i64 4), .v (.int .i64 1), .v (.slice none 0 0)]), (34, .s 10 x2 0 2 2), (35, .a [.v (.int .i64 5), .v (.int .i64 0), .v (.slice (some ⟨x2, 0, none⟩) 2 2)]), (37, .s 11 x5 0 1 1)], [(0, b1, .c 25 [.v (.int .i64 4), .v (.int .i64 1), .v (.slice none 0 0)]), (1, b2, .c 25 [.v (.int .i64 2), .v (.int .i64 5), .v (.slice none 0 0)]), (10, x2, .c 25 [.v (.int .i64 4), .v (.int .i64 1), .v (.slice none 0 0), .v (.int .i64 2), .v (.int .i64 5), .v (.slice none 0 0)]), (11, x5, .c 25 [.v (.int .i64 4), .v (.int .i64 1), .v (.slice none 0 0)])], G, []⟩) ∨ (∃ x2 x7 : Nat, q = 5 ∧ l = #[true, true, true, true, true, false, false, true, false, false, false] ∧ s = ⟨[(0, .b false), (1, .p 0 b1 0), (2, .p 1 b2 0), (32, .a [.v (.int .i64 4), .v (.int .i64 1), .v (.slice none 0 0)]), (33, .a [.v (.int .i64 2), .v (.int .i64 5), .v (.slice none 0 0)]), (36, .a [.v (.int .i64 4), .v (.int .i64 1), .v (.slice none 0 0)]), (34, .s 10 x2 0 2 2), (35, .a [.v (.int .i64 5), .v (.int .i64 0), .v (.slice (some ⟨x2, 0, none⟩) 2 2)]), (3, .p 3 x7 0)], [(0, b1, .c 25 [.v (.int .i64 4), .v (.int .i64 1), .v (.slice none 0 0)]), (1, b2, .c 25 [.v (.int .i64 2), .v (.int .i64 5), .v (.slice none 0 0)]), (10, x2, .c 25 [.v (.int .i64 4), .v (.int .i64 1), .v (.slice none 0 0), .v (.int .i64 2), .v (.int .i64 5), .v (.slice none 0 0)]), (3, x7, .c 25 [.v (.int .i64 0), .v (.int .i64 0), .v (.slice none 0 0)])], G, []⟩) ∨ (∃ x2 x8 : Nat, q = 5 ∧ l = #[true, true, true, true, true, false, false, false, true, false, false] ∧ s = ⟨[(0, .b false), (1, .p 0 b1 0), (2, .p 1 b2 0), (32, .a [.v (.int .i64 4), .v (.int .i64 1), .v (.slice none 0 0)]), (33, .a [.v (.int .i64 2), .v (.int .i64 5), .v (.slice none 0 0)]), (36, .a [.v (.int .i64 4), .v (.int .i64 1), .v (.slice none 0 0)]), (34, .s 10 x2 0 2 2), (35, .a [.v (.int .i64 5), .v (.int .i64 0), .v (.slice (some ⟨x2, 0, none⟩) 2 2)]), (4, .p 4 x8 0)], [(0, b1, .c 25 [.v (.int .i64 4), .v (.int .i64 1), .v (.slice none 0 0)]), (1, b2, .c 25 [.v (.int .i64 2), .v (.int .i64 5), .v (.slice none 0 0)]), (10, x2, .c 25 [.v (.int .i64 4), .v (.int .i64 1), .v (.slice none 0 0), .v (.int .i64 2), .v (.int .i64 5), .v (.slice none 0 0)]), (4, x8, .c 25 [.v (.int .i64 0), .v (.int .i64 0), .v (.slice none 0 0)])], G, []⟩) ∨ (∃ x2 x5 x7 : Nat, q = 5 ∧ l = #[true, true, true, false, true, true, false, true, false, false, false] ∧ s = ⟨[(0, .b false), (1, .p 0 b1 0), (2, .p 1 b2 0), (32, .a [.v (.int .i64 4), .v (.int .i64 1), .v (.slice none 0 0)]), (33, .a [.v (.int .i64 2), .v (.int .i64 5), .v (.slice none 0 0)]), (36, .a [.v (.int .i64 4), .v (.int .i64 1), .v (.slice none 0 0)]), (34, .s 10 x2 0 2 2), (37, .s 11 x5 0 1 1), (3, .p 3 x7 0)], [(0, b1, .c 25 [.v (.int .i64 4), .v (.int .i64 1), .v (.slice none 0 0)]), (1, b2, .c 25 [.v (.int .i64 2), .v (.int .i64 5), .v (.slice none 0 0)]), (10, x2, .c 25 [.v (.int .i64 4), .v (.int .i64 1), .v (.slice none 0 0), .v (.int .i64 2), .v (.int .i64 5), .v (.slice none 0 0)]), (11, x5, .c 25 [.v (.int .i64 4), .v (.int .i64 1), .v (.slice none 0 0)]), (3, x7, .c 25 [.v (.int .i64 0), .v (.int .i64 0), .v (.slice none 0 0)])], G, []⟩) ∨ (∃ x2 x5 x8 : Nat, q = 5 ∧ l = #[true, true, true, false, true, true, false, false, true, false, false] ∧ s = ⟨[(0, .b false), (1, .p 0 b1 0), (2, .p 1 b2 0), (32, .a [.v (.int .i64 4), .v (.int .i64 1), .v (.slice none 0 0)]), (33, .a [.v (.int .i64 2), .v (.int .i64 5), .v (.slice none 0 0)]), (36, .a [.v (.int .i64 4), .v (.int .i64 1), .v (.slice none 0 0)]), (34, .s 10 x2 0 2 2), (37, .s 11 x5 0 1 1), (4, .p 4 x8 0)], [(0, b1, .c 25 [.v (.int .i64 4), .v (.int .i64 1), .v (.slice none 0 0)]), (1, b2, .c 25 [.v (.int .i64 2), .v (.int .i64 5), .v (.slice none 0 0)]), (10, x2, .c 25 [.v (.int .i64 4), .v (.int .i64 1), .v (.slice none 0 0), .v (.int .i64 2), .v (.int .i64 5), .v (.slice none 0 0)]), (11, x5, .c 25 [.v (.int .i64 4), .v (.int .i64 1), .v (.slice none 0 0)]), (4, x8, .c 25 [.v (.int .i64 0), .v (.int .i64 0), .v (.slice none 0 0)])], G, []⟩) ∨ (∃ x2 x7 x8 : Nat, q = 5 ∧ l = #[true, true, true, false, true, false, false, true, true, false, false] ∧ s = ⟨[(0, .b false), (1, .p 0 b1 0), (2, .p 1 b2 0), (32, .a [.v (.int .i64 4), .v (.int .i64 1), .v (.slice none 0 0)]), (33, .a [.v (.int .i64 2), .v (.int .i64 5), .v (.slice none 0 0)]), (36, .a [.v (.int .i64 4), .v (.int .i64 1), .v (.slice none 0 0)]), (34, .s 10 x2 0 2 2), (3, .p 3 x7 0), (4, .p 4 x8 0)], [(0, b1, .c 25 [.v (.int .i64 4), .v (.int .i64 1), .v (.slice none 0 0)]), (1, b2, .c 25 [.v (.int .i64 2), .v (.int .i64 5), .v (.slice none 0 0)]), (10, x2, .c 25 [.v (.int .i64 4), .v (.int .i64 1), .v (.slice none 0 0), .v (.int .i64 2), .v (.int .i64 5), .v (.slice none 0 0)]), (3, x7, .c 25 [.v (.int .i64 0), .v (.int .i64 0), .v (.slice none 0 0)]), (4, x8, .c 25 [.v (.int .i64 0), .v (.int .i64 0), .v (.slice none 0 0)])], G, []⟩) ∨ (∃ x5 x7 x8 : Nat, q = 5 ∧ l = #[true, true, false, false, true, true, false, true, true, false, false] ∧ s = ⟨[(0, .b false), (1, .p 0 b1 0), (2, .p 1 b2 0), (32, .a [.v (.int .i64 4), .v (.int .i64 1), .v (.slice none 0 0)]), (33, .a [.v (.int .i64 2), .v (.int .i64 5), .v (.slice none 0 0)]), (36, .a [.v (.int .i64 4), .v (.int .i64 1), .v (.slice none 0 0)]), (37, .s 11 x5 0 1 1), (3, .p 3 x7 0), (4, .p 4 x8 0)], [(0, b1, .c 25 [.v (.int .i64 4), .v (.int .i64 1), .v (.slice none 0 0)]), (1, b2, .c 25 [.v (.int .i64 2), .v (.int .i64 5), .v (.slice none 0 0)]), (11, x5, .c 25 [.v (.int .i64 4), .v (.int .i64 1), .v (.slice none 0 0)]), (3, x7, .c 25 [.v (.int .i64 0), .v (.int .i64 0), .v (.slice none 0 0)]), (4, x8, .c 25 [.v (.int .i64 0), .v (.int .i64 0), .v (.slice none 0 0)])], G, []⟩) ∨ (∃ x2 x5 : Nat, q = 4 ∧ l = #[true, true, true, true, true, true, true, false, false, false, false] ∧ s = ⟨[(0, .b false), (1, .p 0 b1 0), (2, .p 1 b2 0), (32, .a [.v (.int .i64 4), .v (.int .i64 1), .v (.slice none 0 0)]), (33, .a [.v (.int .i64 2), .v (.int .i64 5), .v (.slice none 0 0)]), (36, .a [.v (.int .i64 4), .v (.int .i64 1), .v (.slice none 0 0)]), (34, .s 10 x2 0 2 2), (35, .a [.v (.int .i64 5), .v (.int .i64 0), .v (.slice (some ⟨x2, 0, none⟩) 2 2)]), (37, .s 11 x5 0 1 1), (38, .a [.v (.int .i64 6), .v (.int .i64 0), .v (.slice (some ⟨x5, 0, none⟩) 1 1)])], [(0, b1, .c 25 [.v (.int .i64 4), .v (.int .i64 1), .v (.slice none 0 0)]), (1, b2, .c 25 [.v (.int .i64 2), .v (.int .i64 5), .v (.slice none 0 0)]), (10, x2, .c 25 [.v (.int .i64 4), .v (.int .i64 1), .v (.slice none 0 0), .v (.int .i64 2), .v (.int .i64 5), .v (.slice none 0 0)]), (11, x5, .c 25 [.v (.int .i64 4), .v (.int .i64 1), .v (.slice none 0 0)])], G, []⟩) ∨ (∃ x2 x5 x7 : Nat, q = 4 ∧ l = #[true, true, true, true, true, true, false, true, false, false, false] ∧ s = ⟨[(0, .b false), (1, .p 0 b1 0), (2, .p 1 b2 0), (32, .a [.v (.int .i64 4), .v (.int .i64 1), .v (.slice none 0 0)]), (33, .a [.v (.int .i64 2), .v (.int .i64 5), .v (.slice none 0 0)]), (36, .a [.v (.int .i64 4), .v (.int .i64 1), .v (.slice none 0 0)]), (34, .s 10 x2 0 2 2), (35, .a [.v (.int .i64 5), .v (.int .i64 0), .v (.slice (some ⟨x2, 0, none⟩) 2 2)]), (37, .s 11 x5 0 1 1), (3, .p 3 x7 0)], [(0, b1, .c 25 [.v (.int .i64 4), .v (.int .i64 1), .v (.slice none 0 0)]), (1, b2, .c 25 [.v (.int .i64 2), .v (.int .i64 5), .v (.slice none 0 0)]), (10, x2, .c 25 [.v (.int .i64 4), .v (.int .i64 1), .v (.slice none 0 0), .v (.int .i64 2), .v (.int .i64 5), .v (.slice none 0 0)]), (11, x5, .c 25 [.v (.int .i64 4), .v (.int .i64 1), .v (.slice none 0 0)]), (3, x7, .c 25 [.v (.int .i64 0), .v (.int .i64 0), .v (.slice none 0 0)])], G, []⟩) ∨ (∃ x2 x5 x8 : Nat, q = 4 ∧ l = #[true, true, true, true, true, true, false, false, true, false, false] ∧ s = ⟨[(0, .b false), (1, .p 0 b1 0), (2, .p 1 b2 0), (32, .a [.v (.int .i64 4), .v (.int .i64 1), .v (.slice none 0 0)]), (33, .a [.v (.int .i64 2), .v (.int .i64 5), .v (.slice none 0 0)]), (36, .a [.v (.int .i64 4), .v (.int .i64 1), .v (.slice none 0 0)]), (34, .s 10 x2 0 2 2), (35, .a [.v (.int .i64 5), .v (.int .i64 0), .v (.slice (some ⟨x2, 0, none⟩) 2 2)]), (37, .s 11 x5 0 1 1), (4, .p 4 x8 0)], [(0, b1, .c 25 [.v (.int .i64 4), .v (.int .i64 1), .v (.slice none 0 0)]), (1, b2, .c 25 [.v (.int .i64 2), .v (.int .i64 5), .v (.slice none 0 0)]), (10, x2, .c 25 [.v (.int .i64 4), .v (.int .i64 1), .v (.slice none 0 0), .v (.int .i64 2), .v (.int .i64 5), .v (.slice none 0 0)]), (11, x5, .c 25 [.v (.int .i64 4), .v (.int .i64 1), .v (.slice none 0 0)]), (4, x8, .c 25 [.v (.int .i64 0), .v (.int .i64 0), .v (.slice none 0 0)])], G, []⟩) ∨ (∃ x2 x7 x8 : Nat, q = 4 ∧ l = #[true, true, true, true, true, false, false, true, true, false, false] ∧ s = ⟨[(0, .b false), (1, .p 0 b1 0), (2, .p 1 b2 0), (32, .a [.v (.int .i64 4), .v (.int .i64 1), .v (.slice none 0 0)]), (33, .a [.v (.int .i64 2), .v (.int .i64 5), .v (.slice none 0 0)]), (36, .a [.v (.int .i64 4), .v (.int .i64 1), .v (.slice none 0 0)]), (34, .s 10 x2 0 2 2), (35, .a [.v (.int .i64 5), .v (.int .i64 0), .v (.slice (some ⟨x2, 0, none⟩) 2 2)]), (3, .p 3 x7 0), (4, .p 4 x8 0)], [(0, b1, .c 25 [.v (.int .i64 4), .v (.int .i64 1), .v (.slice none 0 0)]), (1, b2, .c 25 [.v (.int .i64 2), .v (.int .i64 5), .v (.slice none 0 0)]), (10, x2, .c 25 [.v (.int .i64 4), .v (.int .i64 1), .v (.slice none 0 0), .v (.int .i64 2), .v (.int .i64 5), .v (.slice none 0 0)]), (3, x7, .c 25 [.v (.int .i64 0), .v (.int .i64 0), .v (.slice none 0 0)]), (4, x8, .c 25 [.v (.int .i64 0), .v (.int .i64 0), .v (.slice none 0 0)])], G, []⟩) ∨ (∃ x2 x5 x7 x8 : Nat, q = 4 ∧ l = #[true, true, true, false, true, true, false, true, true, false, false] ∧ s = ⟨[(0, .b false), (1, .p 0 b1 0), (2, .p 1 b2 0), (32, .a [.v (.int .i64 4), .v (.int .i64 1), .v (.slice none 0 0)]), (33, .a [.v (.int .i64 2), .v (.int .i64 5), .v (.slice none 0 0)]), (36, .a [.v (.int .i64 4), .v (.int .i64 1), .v (.slice none 0 0)]), (34, .s 10 x2 0 2 2), (37, .s 11 x5 0 1 1), (3, .p 3 x7 0), (4, .p 4 x8 0)], [(0, b1, .c 25 [.v (.int .i64 4), .v (.int .i64 1), .v (.slice none 0 0)]), (1, b2, .c 25 [.v (.int .i64 2), .v (.int .i64 5), .v (.slice none 0 0)]), (10, x2, .c 25 [.v (.int .i64 4), .v (.int .i64 1), .v (.slice none 0 0), .v (.int .i64 2), .v (.int .i64 5), .v (.slice none 0 0)]), (11, x5, .c 25 [.v (.int .i64 4), .v (.int .i64 1), .v (.slice none 0 0)]), (3, x7, .c 25 [.v (.int .i64 0), .v (.int .i64 0), .v (.slice none 0 0)]), (4, x8, .c 25 [.v (.int .i64 0), .v (.int .i64 0), .v (.slice none 0 0)])], G, []⟩) ∨ (∃ x2 x5 x7 : Nat, q = 3 ∧ l = #[true, true, true, true, true, true, true, true, false, false, false] ∧ s = ⟨[(0, .b false), (1, .p 0 b1 0), (2, .p 1 b2 0), (32, .a [.v (.int .i64 4), .v (.int .i64 1), .v (.slice none 0 0)]), (33, .a [.v (.int .i64 2), .v (.int .i64 5), .v (.slice none 0 0)]), (36, .a [.v (.int .i64 4), .v (.int .i64 1), .v (.slice none 0 0)]), (34, .s 10 x2 0 2 2), (35, .a [.v (.int .i64 5), .v (.int .i64 0), .v (.slice (some ⟨x2, 0, none⟩) 2 2)]), (37, .s 11 x5 0 1 1), (38, .a [.v (.int .i64 6), .v (.int .i64 0), .v (.slice (some ⟨x5, 0, none⟩) 1 1)]), (3, .p 3 x7 0)], [(0, b1, .c 25 [.v (.int .i64 4), .v (.int .i64 1), .v (.slice none 0 0)]), (1, b2, .c 25 [.v (.int .i64 2), .v (.int .i64 5), .v (.slice none 0 0)]), (10, x2, .c 25 [.v (.int .i64 4), .v (.int .i64 1), .v (.slice none 0 0), .v (.int .i64 2), .v (.int .i64 5), .v (.slice none 0 0)]), (11, x5, .c 25 [.v (.int .i64 4), .v (.int .i64 1), .v (.slice none 0 0)]), (3, x7, .c 25 [.v (.int .i64 0), .v (.int .i64 0), .v (.slice none 0 0)])], G, []⟩) ∨ (∃ x2 x5 x8 : Nat, q = 3 ∧ l = #[true, true, true, true, true, true, true, false, true, false, false] ∧ s = ⟨[(0, .b false), (1, .p 0 b1 0), (2, .p 1 b2 0), (32, .a [.v (.int .i64 4), .v (.int .i64 1), .v (.slice none 0 0)]), (33, .a [.v (.int .i64 2), .v (.int .i64 5), .v (.slice none 0 0)]), (36, .a [.v (.int .i64 4), .v (.int .i64 1), .v (.slice none 0 0)]), (34, .s 10 x2 0 2 2), (35, .a [.v (.int .i64 5), .v (.int .i64 0), .v (.slice (some ⟨x2, 0, none⟩) 2 2)]), (37, .s 11 x5 0 1 1), (38, .a [.v (.int .i64 6), .v (.int .i64 0), .v (.slice (some ⟨x5, 0, none⟩) 1 1)]), (4, .p 4 x8 0)], [(0, b1, .c 25 [.v (.int .i64 4), .v (.int .i64 1), .v (.slice none 0 0)]), (1, b2, .c 25 [.v (.int .i64 2), .v (.int .i64 5), .v (.slice none 0 0)]), (10, x2, .c 25 [.v (.int .i64 4), .v (.int .i64 1), .v (.slice none 0 0), .v (.int .i64 2), .v (.int .i64 5), .v (.slice none 0 0)]), (11, x5, .c 25 [.v (.int .i64 4), .v (.int .i64 1), .v (.slice none 0 0)]), (4, x8, .c 25 [.v (.int .i64 0), .v (.int .i64 0), .v (.slice none 0 0)])], G, []⟩) ∨ (∃ x2 x5 x7 x8 : Nat, q = 3 ∧ l = #[true, true, true, true, true, true, false, true, true, false, false] ∧ s = ⟨[(0, .b false), (1, .p 0 b1 0), (2, .p 1 b2 0), (32, .a [.v (.int .i64 4), .v (.int .i64 1), .v (.slice none 0 0)]), (33, .a [.v (.int .i64 2), .v (.int .i64 5), .v (.slice none 0 0)]), (36, .a [.v (.int .i64 4), .v (.int .i64 1), .v (.slice none 0 0)]), (34, .s 10 x2 0 2 2), (35, .a [.v (.int .i64 5), .v (.int .i64 0), .v (.slice (some ⟨x2, 0, none⟩) 2 2)]), (37, .s 11 x5 0 1 1), (3, .p 3 x7 0), (4, .p 4 x8 0)], [(0, b1, .c 25 [.v (.int .i64 4), .v (.int .i64 1), .v (.slice none 0 0)]), (1, b2, .c 25 [.v (.int .i64 2), .v (.int .i64 5), .v (.slice none 0 0)]), (10, x2, .c 25 [.v (.int .i64 4), .v (.int .i64 1), .v (.slice none 0 0), .v (.int .i64 2), .v (.int .i64 5), .v (.slice none 0 0)]), (11, x5, .c 25 [.v (.int .i64 4), .v (.int .i64 1), .v (.slice none 0 0)]), (3, x7, .c 25 [.v (.int .i64 0), .v (.int .i64 0), .v (.slice none 0 0)]), (4, x8, .c 25 [.v (.int .i64 0), .v (.int .i64 0), .v (.slice none 0 0)])], G, []⟩) ∨ (∃ x2 x5 x7 x8 : Nat, q = 2 ∧ l = #[true, true, true, true, true, true, true, true, true, false, false] ∧ s = ⟨[(0, .b false), (1, .p 0 b1 0), (2, .p 1 b2 0), (32, .a [.v (.int .i64 4), .v (.int .i64 1), .v (.slice none 0 0)]), (33, .a [.v (.int .i64 2), .v (.int .i64 5), .v (.slice none 0 0)]), (36, .a [.v (.int .i64 4), .v (.int .i64 1), .v (.slice none 0 0)]), (34, .s 10 x2 0 2 2), (35, .a [.v (.int .i64 5), .v (.int .i64 0), .v (.slice (some ⟨x2, 0, none⟩) 2 2)]), (37, .s 11 x5 0 1 1), (38, .a [.v (.int .i64 6), .v (.int .i64 0), .v (.slice (some ⟨x5, 0, none⟩) 1 1)]), (3, .p 3 x7 0), (4, .p 4 x8 0)], [(0, b1, .c 25 [.v (.int .i64 4), .v (.int .i64 1), .v (.slice none 0 0)]), (1, b2, .c 25 [.v (.int .i64 2), .v (.int .i64 5), .v (.slice none 0 0)]), (10, x2, .c 25 [.v (.int .i64 4), .v (.int .i64 1), .v (.slice none 0 0), .v (.int .i64 2), .v (.int .i64 5), .v (.slice none 0 0)]), (11, x5, .c 25 [.v (.int .i64 4), .v (.int .i64 1), .v (.slice none 0 0)]), (3, x7, .c 25 [.v (.int .i64 0), .v (.int .i64 0), .v (.slice none 0 0)]), (4, x8, .c 25 [.v (.int .i64 0), .v (.int .i64 0), .v (.slice none 0 0)])], G, []⟩)) (.inl ⟨rfl, (by kernel_rfl), rfl⟩) ?_
    rintro q l s (⟨rfl, rfl, rfl⟩ | ⟨x2, rfl, rfl, rfl⟩ | ⟨x5, rfl, rfl, rfl⟩ | ⟨x7, rfl, rfl, rfl⟩ | ⟨x8, rfl, rfl, rfl⟩ | ⟨x2, rfl, rfl, rfl⟩ | ⟨x2, x5, rfl, rfl, rfl⟩ | ⟨x2, x7, rfl, rfl, rfl⟩ | ⟨x2, x8, rfl, rfl, rfl⟩ | ⟨x5, x7, rfl, rfl, rfl⟩ | ⟨x5, x8, rfl, rfl, rfl⟩ | ⟨x7, x8, rfl, rfl, rfl⟩ | ⟨x2, x5, rfl, rfl, rfl⟩ | ⟨x2, x7, rfl, rfl, rfl⟩ | ⟨x2, x8, rfl, rfl, rfl⟩ | ⟨x2, x5, x7, rfl, rfl, rfl⟩ | ⟨x2, x5, x8, rfl, rfl, rfl⟩ | ⟨x2, x7, x8, rfl, rfl, rfl⟩ | ⟨x5, x7, x8, rfl, rfl, rfl⟩ | ⟨x2, x5, rfl, rfl, rfl⟩ | ⟨x2, x5, x7, rfl, rfl, rfl⟩ | ⟨x2, x5, x8, rfl, rfl, rfl⟩ | ⟨x2, x7, x8, rfl, rfl, rfl⟩ | ⟨x2, x5, x7, x8, rfl, rfl, rfl⟩ | ⟨x2, x5, x7, rfl, rfl, rfl⟩ | ⟨x2, x5, x8, rfl, rfl, rfl⟩ | ⟨x2, x5, x7, x8, rfl, rfl, rfl⟩ | ⟨x2, x5, x7, x8, rfl, rfl, rfl⟩) ih
    · refine h_four 2 5 7 8 rfl rfl rfl rfl (by kernel_rfl) ?_ ?_ ?_ ?_
      · refine go_newAt 10 (by rw [hnt]; rfl) (by rw [hty]; rfl) rfl (by omega) ?_
        intro x2
        refine rn_ ?_; intros
        refine h_hs (allIn (by repeat (first | exact trivial | refine ⟨rfl, ?_⟩))) (by first | exact Le.refl _ | assumption) ?_
        refine go_keep [0, 1, 2, 32, 33, 36, 34] [0, 1, 10] ?_
        refine st_ ?_
        exact ih 7 _ _ (by omega) (.inr (.inl ⟨x2, rfl, (by kernel_rfl), rfl⟩))
      · refine go_newAt 11 (by rw [hnt]; rfl) (by rw [hty]; rfl) rfl (by omega) ?_
        intro x5
        refine rn_ ?_; intros
        refine h_hs (allIn (by repeat (first | exact trivial | refine ⟨rfl, ?_⟩))) (by first | exact Le.refl _ | assumption) ?_
        refine go_keep [0, 1, 2, 32, 33, 36, 37] [0, 1, 11] ?_
        refine st_ ?_
        exact ih 7 _ _ (by omega) (.inr (.inr (.inl ⟨x5, rfl, (by kernel_rfl), rfl⟩)))
      · refine go_newAt 3 (by rw [hnt]; rfl) (by rw [hty]; rfl) rfl (by omega) ?_
        intro x7
        refine rn_ ?_; intros
        refine h_hs (allIn (by repeat (first | exact trivial | refine ⟨rfl, ?_⟩))) (by first | exact Le.refl _ | assumption) ?_
        refine go_keep [0, 1, 2, 32, 33, 36, 3] [0, 1, 3] ?_
        refine st_ ?_
        exact ih 7 _ _ (by omega) (.inr (.inr (.inr (.inl ⟨x7, rfl, (by kernel_rfl), rfl⟩))))
      · refine go_newAt 4 (by rw [hnt]; rfl) (by rw [hty]; rfl) rfl (by omega) ?_
        intro x8
        refine rn_ ?_; intros
        refine h_hs (allIn (by repeat (first | exact trivial | refine ⟨rfl, ?_⟩))) (by first | exact Le.refl _ | assumption) ?_
        refine go_keep [0, 1, 2, 32, 33, 36, 4] [0, 1, 4] ?_
        refine st_ ?_
        exact ih 7 _ _ (by omega) (.inr (.inr (.inr (.inr (.inl ⟨x8, rfl, (by kernel_rfl), rfl⟩)))))
    · refine h_four 3 5 7 8 rfl rfl rfl rfl (by kernel_rfl) ?_ ?_ ?_ ?_
      · refine go_callf (by rw [hnt]; rfl) (by rw [hP]; kernel_rfl) rfl (hP ▸ lval_ok 5 0 _ _ _ _) ?_
        refine rn_ ?_; intros
        refine h_hs (allIn (by repeat (first | exact trivial | refine ⟨rfl, ?_⟩))) (by first | exact Le.refl _ | assumption) ?_
        refine go_keep [0, 1, 2, 32, 33, 36, 34, 35] [0, 1, 10] ?_
        refine st_ ?_
        exact ih 6 _ _ (by omega) (.inr (.inr (.inr (.inr (.inr (.inl ⟨x2, rfl, (by kernel_rfl), rfl⟩))))))
      · refine go_newAt 11 (by rw [hnt]; rfl) (by rw [hty]; rfl) rfl (by omega) ?_
        intro x5
        refine rn_ ?_; intros
        refine h_hs (allIn (by repeat (first | exact trivial | refine ⟨rfl, ?_⟩))) (by first | exact Le.refl _ | assumption) ?_
        refine go_keep [0, 1, 2, 32, 33, 36, 34, 37] [0, 1, 10, 11] ?_
        refine st_ ?_
        exact ih 6 _ _ (by omega) (.inr (.inr (.inr (.inr (.inr (.inr (.inl ⟨x2, x5, rfl, (by kernel_rfl), rfl⟩)))))))
      · refine go_newAt 3 (by rw [hnt]; rfl) (by rw [hty]; rfl) rfl (by omega) ?_
        intro x7
        refine rn_ ?_; intros
        refine h_hs (allIn (by repeat (first | exact trivial | refine ⟨rfl, ?_⟩))) (by first | exact Le.refl _ | assumption) ?_
        refine go_keep [0, 1, 2, 32, 33, 36, 34, 3] [0, 1, 10, 3] ?_
        refine st_ ?_
        exact ih 6 _ _ (by omega) (.inr (.inr (.inr (.inr (.inr (.inr (.inr (.inl ⟨x2, x7, rfl, (by kernel_rfl), rfl⟩))))))))
      · refine go_newAt 4 (by rw [hnt]; rfl) (by rw [hty]; rfl) rfl (by omega) ?_
        intro x8
        refine rn_ ?_; intros
        refine h_hs (allIn (by repeat (first | exact trivial | refine ⟨rfl, ?_⟩))) (by first | exact Le.refl _ | assumption) ?_
        refine go_keep [0, 1, 2, 32, 33, 36, 34, 4] [0, 1, 10, 4] ?_
        refine st_ ?_
        exact ih 6 _ _ (by omega) (.inr (.inr (.inr (.inr (.inr (.inr (.inr (.inr (.inl ⟨x2, x8, rfl, (by kernel_rfl), rfl⟩)))))))))
    · refine h_three 2 7 8 rfl rfl rfl (by kernel_rfl) ?_ ?_ ?_
      · refine go_newAt 10 (by rw [hnt]; rfl) (by rw [hty]; rfl) rfl (by omega) ?_
        intro x2
        refine rn_ ?_; intros
        refine h_hs (allIn (by repeat (first | exact trivial | refine ⟨rfl, ?_⟩))) (by first | exact Le.refl _ | assumption) ?_
        refine go_keep [0, 1, 2, 32, 33, 36, 34, 37] [0, 1, 10, 11] ?_
        refine st_ ?_
        exact ih 6 _ _ (by omega) (.inr (.inr (.inr (.inr (.inr (.inr (.inl ⟨x2, x5, rfl, (by kernel_rfl), rfl⟩)))))))
      · refine go_newAt 3 (by rw [hnt]; rfl) (by rw [hty]; rfl) rfl (by omega) ?_
        intro x7
        refine rn_ ?_; intros
        refine h_hs (allIn (by repeat (first | exact trivial | refine ⟨rfl, ?_⟩))) (by first | exact Le.refl _ | assumption) ?_
        refine go_keep [0, 1, 2, 32, 33, 36, 37, 3] [0, 1, 11, 3] ?_
        refine st_ ?_
        exact ih 6 _ _ (by omega) (.inr (.inr (.inr (.inr (.inr (.inr (.inr (.inr (.inr (.inl ⟨x5, x7, rfl, (by kernel_rfl), rfl⟩))))))))))
      · refine go_newAt 4 (by rw [hnt]; rfl) (by rw [hty]; rfl) rfl (by omega) ?_
        intro x8
        refine rn_ ?_; intros
        refine h_hs (allIn (by repeat (first | exact trivial | refine ⟨rfl, ?_⟩))) (by first | exact Le.refl _ | assumption) ?_
        refine go_keep [0, 1, 2, 32, 33, 36, 37, 4] [0, 1, 11, 4] ?_
        refine st_ ?_
        exact ih 6 _ _ (by omega) (.inr (.inr (.inr (.inr (.inr (.inr (.inr (.inr (.inr (.inr (.inl ⟨x5, x8, rfl, (by kernel_rfl), rfl⟩)))))))))))
    · refine h_three 2 5 8 rfl rfl rfl (by kernel_rfl) ?_ ?_ ?_
      · refine go_newAt 10 (by rw [hnt]; rfl) (by rw [hty]; rfl) rfl (by omega) ?_
        intro x2
        refine rn_ ?_; intros
        refine h_hs (allIn (by repeat (first | exact trivial | refine ⟨rfl, ?_⟩))) (by first | exact Le.refl _ | assumption) ?_
        refine go_keep [0, 1, 2, 32, 33, 36, 34, 3] [0, 1, 10, 3] ?_
        refine st_ ?_
        exact ih 6 _ _ (by omega) (.inr (.inr (.inr (.inr (.inr (.inr (.inr (.inl ⟨x2, x7, rfl, (by kernel_rfl), rfl⟩))))))))
      · refine go_newAt 11 (by rw [hnt]; rfl) (by rw [hty]; rfl) rfl (by omega) ?_
        intro x5
        refine rn_ ?_; intros
        refine h_hs (allIn (by repeat (first | exact trivial | refine ⟨rfl, ?_⟩))) (by first | exact Le.refl _ | assumption) ?_
        refine go_keep [0, 1, 2, 32, 33, 36, 37, 3] [0, 1, 11, 3] ?_
        refine st_ ?_
        exact ih 6 _ _ (by omega) (.inr (.inr (.inr (.inr (.inr (.inr (.inr (.inr (.inr (.inl ⟨x5, x7, rfl, (by kernel_rfl), rfl⟩))))))))))
      · refine go_newAt 4 (by rw [hnt]; rfl) (by rw [hty]; rfl) rfl (by omega) ?_
        intro x8
        refine rn_ ?_; intros
        refine h_hs (allIn (by repeat (first | exact trivial | refine ⟨rfl, ?_⟩))) (by first | exact Le.refl _ | assumption) ?_
        refine go_keep [0, 1, 2, 32, 33, 36, 3, 4] [0, 1, 3, 4] ?_
        refine st_ ?_
        exact ih 6 _ _ (by omega) (.inr (.inr (.inr (.inr (.inr (.inr (.inr (.inr (.inr (.inr (.inr (.inl ⟨x7, x8, rfl, (by kernel_rfl), rfl⟩))))))))))))
    · refine h_three 2 5 7 rfl rfl rfl (by kernel_rfl) ?_ ?_ ?_
      · refine go_newAt 10 (by rw [hnt]; rfl) (by rw [hty]; rfl) rfl (by omega) ?_
        intro x2
        refine rn_ ?_; intros
        refine h_hs (allIn (by repeat (first | exact trivial | refine ⟨rfl, ?_⟩))) (by first | exact Le.refl _ | assumption) ?_
        refine go_keep [0, 1, 2, 32, 33, 36, 34, 4] [0, 1, 10, 4] ?_
        refine st_ ?_
        exact ih 6 _ _ (by omega) (.inr (.inr (.inr (.inr (.inr (.inr (.inr (.inr (.inl ⟨x2, x8, rfl, (by kernel_rfl), rfl⟩)))))))))
      · refine go_newAt 11 (by rw [hnt]; rfl) (by rw [hty]; rfl) rfl (by omega) ?_
        intro x5
        refine rn_ ?_; intros
        refine h_hs (allIn (by repeat (first | exact trivial | refine ⟨rfl, ?_⟩))) (by first | exact Le.refl _ | assumption) ?_
        refine go_keep [0, 1, 2, 32, 33, 36, 37, 4] [0, 1, 11, 4] ?_
        refine st_ ?_
        exact ih 6 _ _ (by omega) (.inr (.inr (.inr (.inr (.inr (.inr (.inr (.inr (.inr (.inr (.inl ⟨x5, x8, rfl, (by kernel_rfl), rfl⟩)))))))))))
      · refine go_newAt 3 (by rw [hnt]; rfl) (by rw [hty]; rfl) rfl (by omega) ?_
        intro x7
        refine rn_ ?_; intros
        refine h_hs (allIn (by repeat (first | exact trivial | refine ⟨rfl, ?_⟩))) (by first | exact Le.refl _ | assumption) ?_
        refine go_keep [0, 1, 2, 32, 33, 36, 3, 4] [0, 1, 3, 4] ?_
        refine st_ ?_
        exact ih 6 _ _ (by omega) (.inr (.inr (.inr (.inr (.inr (.inr (.inr (.inr (.inr (.inr (.inr (.inl ⟨x7, x8, rfl, (by kernel_rfl), rfl⟩))))))))))))
    · refine h_three 5 7 8 rfl rfl rfl (by kernel_rfl) ?_ ?_ ?_
      · refine go_newAt 11 (by rw [hnt]; rfl) (by rw [hty]; rfl) rfl (by omega) ?_
        intro x5
        refine rn_ ?_; intros
        refine h_hs (allIn (by repeat (first | exact trivial | refine ⟨rfl, ?_⟩))) (by first | exact Le.refl _ | assumption) ?_
        refine go_keep [0, 1, 2, 32, 33, 36, 34, 35, 37] [0, 1, 10, 11] ?_
        refine st_ ?_
        exact ih 5 _ _ (by omega) (.inr (.inr (.inr (.inr (.inr (.inr (.inr (.inr (.inr (.inr (.inr (.inr (.inl ⟨x2, x5, rfl, (by kernel_rfl), rfl⟩)))))))))))))
      · refine go_newAt 3 (by rw [hnt]; rfl) (by rw [hty]; rfl) rfl (by omega) ?_
        intro x7
        refine rn_ ?_; intros
        refine h_hs (allIn (by repeat (first | exact trivial | refine ⟨rfl, ?_⟩))) (by first | exact Le.refl _ | assumption) ?_
        refine go_keep [0, 1, 2, 32, 33, 36, 34, 35, 3] [0, 1, 10, 3] ?_
        refine st_ ?_
        exact ih 5 _ _ (by omega) (.inr (.inr (.inr (.inr (.inr (.inr (.inr (.inr (.inr (.inr (.inr (.inr (.inr (.inl ⟨x2, x7, rfl, (by kernel_rfl), rfl⟩))))))))))))))
      · refine go_newAt 4 (by rw [hnt]; rfl) (by rw [hty]; rfl) rfl (by omega) ?_
        intro x8
        refine rn_ ?_; intros
        refine h_hs (allIn (by repeat (first | exact trivial | refine ⟨rfl, ?_⟩))) (by first | exact Le.refl _ | assumption) ?_
        refine go_keep [0, 1, 2, 32, 33, 36, 34, 35, 4] [0, 1, 10, 4] ?_
        refine st_ ?_
        exact ih 5 _ _ (by omega) (.inr (.inr (.inr (.inr (.inr (.inr (.inr (.inr (.inr (.inr (.inr (.inr (.inr (.inr (.inl ⟨x2, x8, rfl, (by kernel_rfl), rfl⟩)))))))))))))))
    · refine h_three 3 7 8 rfl rfl rfl (by kernel_rfl) ?_ ?_ ?_
      · refine go_callf (by rw [hnt]; rfl) (by rw [hP]; kernel_rfl) rfl (hP ▸ lval_ok 5 0 _ _ _ _) ?_
        refine rn_ ?_; intros
        refine h_hs (allIn (by repeat (first | exact trivial | refine ⟨rfl, ?_⟩))) (by first | exact Le.refl _ | assumption) ?_
        refine go_keep [0, 1, 2, 32, 33, 36, 34, 35, 37] [0, 1, 10, 11] ?_
        refine st_ ?_
        exact ih 5 _ _ (by omega) (.inr (.inr (.inr (.inr (.inr (.inr (.inr (.inr (.inr (.inr (.inr (.inr (.inl ⟨x2, x5, rfl, (by kernel_rfl), rfl⟩)))))))))))))
      · refine go_newAt 3 (by rw [hnt]; rfl) (by rw [hty]; rfl) rfl (by omega) ?_
        intro x7
        refine rn_ ?_; intros
        refine h_hs (allIn (by repeat (first | exact trivial | refine ⟨rfl, ?_⟩))) (by first | exact Le.refl _ | assumption) ?_
        refine go_keep [0, 1, 2, 32, 33, 36, 34, 37, 3] [0, 1, 10, 11, 3] ?_
        refine st_ ?_
        exact ih 5 _ _ (by omega) (.inr (.inr (.inr (.inr (.inr (.inr (.inr (.inr (.inr (.inr (.inr (.inr (.inr (.inr (.inr (.inl ⟨x2, x5, x7, rfl, (by kernel_rfl), rfl⟩))))))))))))))))
      · refine go_newAt 4 (by rw [hnt]; rfl) (by rw [hty]; rfl) rfl (by omega) ?_
        intro x8
        refine rn_ ?_; intros
        refine h_hs (allIn (by repeat (first | exact trivial | refine ⟨rfl, ?_⟩))) (by first | exact Le.refl _ | assumption) ?_
        refine go_keep [0, 1, 2, 32, 33, 36, 34, 37, 4] [0, 1, 10, 11, 4] ?_
        refine st_ ?_
        exact ih 5 _ _ (by omega) (.inr (.inr (.inr (.inr (.inr (.inr (.inr (.inr (.inr (.inr (.inr (.inr (.inr (.inr (.inr (.inr (.inl ⟨x2, x5, x8, rfl, (by kernel_rfl), rfl⟩)))))))))))))))))
    · refine h_three 3 5 8 rfl rfl rfl (by kernel_rfl) ?_ ?_ ?_
      · refine go_callf (by rw [hnt]; rfl) (by rw [hP]; kernel_rfl) rfl (hP ▸ lval_ok 5 0 _ _ _ _) ?_
        refine rn_ ?_; intros
        refine h_hs (allIn (by repeat (first | exact trivial | refine ⟨rfl, ?_⟩))) (by first | exact Le.refl _ | assumption) ?_
        refine go_keep [0, 1, 2, 32, 33, 36, 34, 35, 3] [0, 1, 10, 3] ?_
        refine st_ ?_
        exact ih 5 _ _ (by omega) (.inr (.inr (.inr (.inr (.inr (.inr (.inr (.inr (.inr (.inr (.inr (.inr (.inr (.inl ⟨x2, x7, rfl, (by kernel_rfl), rfl⟩))))))))))))))
      · refine go_newAt 11 (by rw [hnt]; rfl) (by rw [hty]; rfl) rfl (by omega) ?_
        intro x5
        refine rn_ ?_; intros
        refine h_hs (allIn (by repeat (first | exact trivial | refine ⟨rfl, ?_⟩))) (by first | exact Le.refl _ | assumption) ?_
        refine go_keep [0, 1, 2, 32, 33, 36, 34, 37, 3] [0, 1, 10, 11, 3] ?_
        refine st_ ?_
        exact ih 5 _ _ (by omega) (.inr (.inr (.inr (.inr (.inr (.inr (.inr (.inr (.inr (.inr (.inr (.inr (.inr (.inr (.inr (.inl ⟨x2, x5, x7, rfl, (by kernel_rfl), rfl⟩))))))))))))))))
      · refine go_newAt 4 (by rw [hnt]; rfl) (by rw [hty]; rfl) rfl (by omega) ?_
        intro x8
        refine rn_ ?_; intros
        refine h_hs (allIn (by repeat (first | exact trivial | refine ⟨rfl, ?_⟩))) (by first | exact Le.refl _ | assumption) ?_
        refine go_keep [0, 1, 2, 32, 33, 36, 34, 3, 4] [0, 1, 10, 3, 4] ?_
        refine st_ ?_
        exact ih 5 _ _ (by omega) (.inr (.inr (.inr (.inr (.inr (.inr (.inr (.inr (.inr (.inr (.inr (.inr (.inr (.inr (.inr (.inr (.inr (.inl ⟨x2, x7, x8, rfl, (by kernel_rfl), rfl⟩))))))))))))))))))
    · refine h_three 3 5 7 rfl rfl rfl (by kernel_rfl) ?_ ?_ ?_
      · refine go_callf (by rw [hnt]; rfl) (by rw [hP]; kernel_rfl) rfl (hP ▸ lval_ok 5 0 _ _ _ _) ?_
        refine rn_ ?_; intros
        refine h_hs (allIn (by repeat (first | exact trivial | refine ⟨rfl, ?_⟩))) (by first | exact Le.refl _ | assumption) ?_
        refine go_keep [0, 1, 2, 32, 33, 36, 34, 35, 4] [0, 1, 10, 4] ?_
        refine st_ ?_
        exact ih 5 _ _ (by omega) (.inr (.inr (.inr (.inr (.inr (.inr (.inr (.inr (.inr (.inr (.inr (.inr (.inr (.inr (.inl ⟨x2, x8, rfl, (by kernel_rfl), rfl⟩)))))))))))))))
      · refine go_newAt 11 (by rw [hnt]; rfl) (by rw [hty]; rfl) rfl (by omega) ?_
        intro x5
        refine rn_ ?_; intros
        refine h_hs (allIn (by repeat (first | exact trivial | refine ⟨rfl, ?_⟩))) (by first | exact Le.refl _ | assumption) ?_
        refine go_keep [0, 1, 2, 32, 33, 36, 34, 37, 4] [0, 1, 10, 11, 4] ?_
        refine st_ ?_
        exact ih 5 _ _ (by omega) (.inr (.inr (.inr (.inr (.inr (.inr (.inr (.inr (.inr (.inr (.inr (.inr (.inr (.inr (.inr (.inr (.inl ⟨x2, x5, x8, rfl, (by kernel_rfl), rfl⟩)))))))))))))))))
      · refine go_newAt 3 (by rw [hnt]; rfl) (by rw [hty]; rfl) rfl (by omega) ?_
        intro x7
        refine rn_ ?_; intros
        refine h_hs (allIn (by repeat (first | exact trivial | refine ⟨rfl, ?_⟩))) (by first | exact Le.refl _ | assumption) ?_
        refine go_keep [0, 1, 2, 32, 33, 36, 34, 3, 4] [0, 1, 10, 3, 4] ?_
        refine st_ ?_
        exact ih 5 _ _ (by omega) (.inr (.inr (.inr (.inr (.inr (.inr (.inr (.inr (.inr (.inr (.inr (.inr (.inr (.inr (.inr (.inr (.inr (.inl ⟨x2, x7, x8, rfl, (by kernel_rfl), rfl⟩))))))))))))))))))
    · refine h_two 2 8 rfl rfl (by kernel_rfl) ?_ ?_
      · refine go_newAt 10 (by rw [hnt]; rfl) (by rw [hty]; rfl) rfl (by omega) ?_
        intro x2
        refine rn_ ?_; intros
        refine h_hs (allIn (by repeat (first | exact trivial | refine ⟨rfl, ?_⟩))) (by first | exact Le.refl _ | assumption) ?_
        refine go_keep [0, 1, 2, 32, 33, 36, 34, 37, 3] [0, 1, 10, 11, 3] ?_
        refine st_ ?_
        exact ih 5 _ _ (by omega) (.inr (.inr (.inr (.inr (.inr (.inr (.inr (.inr (.inr (.inr (.inr (.inr (.inr (.inr (.inr (.inl ⟨x2, x5, x7, rfl, (by kernel_rfl), rfl⟩))))))))))))))))
      · refine go_newAt 4 (by rw [hnt]; rfl) (by rw [hty]; rfl) rfl (by omega) ?_
        intro x8
        refine rn_ ?_; intros
        refine h_hs (allIn (by repeat (first | exact trivial | refine ⟨rfl, ?_⟩))) (by first | exact Le.refl _ | assumption) ?_
        refine go_keep [0, 1, 2, 32, 33, 36, 37, 3, 4] [0, 1, 11, 3, 4] ?_
        refine st_ ?_
        exact ih 5 _ _ (by omega) (.inr (.inr (.inr (.inr (.inr (.inr (.inr (.inr (.inr (.inr (.inr (.inr (.inr (.inr (.inr (.inr (.inr (.inr (.inl ⟨x5, x7, x8, rfl, (by kernel_rfl), rfl⟩)))))))))))))))))))
    · refine h_two 2 7 rfl rfl (by kernel_rfl) ?_ ?_
      · refine go_newAt 10 (by rw [hnt]; rfl) (by rw [hty]; rfl) rfl (by omega) ?_
        intro x2
        refine rn_ ?_; intros
        refine h_hs (allIn (by repeat (first | exact trivial | refine ⟨rfl, ?_⟩))) (by first | exact Le.refl _ | assumption) ?_
        refine go_keep [0, 1, 2, 32, 33, 36, 34, 37, 4] [0, 1, 10, 11, 4] ?_
        refine st_ ?_
        exact ih 5 _ _ (by omega) (.inr (.inr (.inr (.inr (.inr (.inr (.inr (.inr (.inr (.inr (.inr (.inr (.inr (.inr (.inr (.inr (.inl ⟨x2, x5, x8, rfl, (by kernel_rfl), rfl⟩)))))))))))))))))
      · refine go_newAt 3 (by rw [hnt]; rfl) (by rw [hty]; rfl) rfl (by omega) ?_
        intro x7
        refine rn_ ?_; intros
        refine h_hs (allIn (by repeat (first | exact trivial | refine ⟨rfl, ?_⟩))) (by first | exact Le.refl _ | assumption) ?_
        refine go_keep [0, 1, 2, 32, 33, 36, 37, 3, 4] [0, 1, 11, 3, 4] ?_
        refine st_ ?_
        exact ih 5 _ _ (by omega) (.inr (.inr (.inr (.inr (.inr (.inr (.inr (.inr (.inr (.inr (.inr (.inr (.inr (.inr (.inr (.inr (.inr (.inr (.inl ⟨x5, x7, x8, rfl, (by kernel_rfl), rfl⟩)))))))))))))))))))
    · refine h_two 2 5 rfl rfl (by kernel_rfl) ?_ ?_
      · refine go_newAt 10 (by rw [hnt]; rfl) (by rw [hty]; rfl) rfl (by omega) ?_
        intro x2
        refine rn_ ?_; intros
        refine h_hs (allIn (by repeat (first | exact trivial | refine ⟨rfl, ?_⟩))) (by first | exact Le.refl _ | assumption) ?_
        refine go_keep [0, 1, 2, 32, 33, 36, 34, 3, 4] [0, 1, 10, 3, 4] ?_
        refine st_ ?_
        exact ih 5 _ _ (by omega) (.inr (.inr (.inr (.inr (.inr (.inr (.inr (.inr (.inr (.inr (.inr (.inr (.inr (.inr (.inr (.inr (.inr (.inl ⟨x2, x7, x8, rfl, (by kernel_rfl), rfl⟩))))))))))))))))))
      · refine go_newAt 11 (by rw [hnt]; rfl) (by rw [hty]; rfl) rfl (by omega) ?_
        intro x5
        refine rn_ ?_; intros
        refine h_hs (allIn (by repeat (first | exact trivial | refine ⟨rfl, ?_⟩))) (by first | exact Le.refl _ | assumption) ?_
        refine go_keep [0, 1, 2, 32, 33, 36, 37, 3, 4] [0, 1, 11, 3, 4] ?_
        refine st_ ?_
        exact ih 5 _ _ (by omega) (.inr (.inr (.inr (.inr (.inr (.inr (.inr (.inr (.inr (.inr (.inr (.inr (.inr (.inr (.inr (.inr (.inr (.inr (.inl ⟨x5, x7, x8, rfl, (by kernel_rfl), rfl⟩)))))))))))))))))))
    · refine h_three 6 7 8 rfl rfl rfl (by kernel_rfl) ?_ ?_ ?_
      · refine go_callf (by rw [hnt]; rfl) (by rw [hP]; kernel_rfl) rfl (hP ▸ lval_ok 6 0 _ _ _ _) ?_
        refine rn_ ?_; intros
        refine h_hs (allIn (by repeat (first | exact trivial | refine ⟨rfl, ?_⟩))) (by first | exact Le.refl _ | assumption) ?_
        refine go_keep [0, 1, 2, 32, 33, 36, 34, 35, 37, 38] [0, 1, 10, 11] ?_
        refine st_ ?_
        exact ih 4 _ _ (by omega) (.inr (.inr (.inr (.inr (.inr (.inr (.inr (.inr (.inr (.inr (.inr (.inr (.inr (.inr (.inr (.inr (.inr (.inr (.inr (.inl ⟨x2, x5, rfl, (by kernel_rfl), rfl⟩))))))))))))))))))))
      · refine go_newAt 3 (by rw [hnt]; rfl) (by rw [hty]; rfl) rfl (by omega) ?_
        intro x7
        refine rn_ ?_; intros
        refine h_hs (allIn (by repeat (first | exact trivial | refine ⟨rfl, ?_⟩))) (by first | exact Le.refl _ | assumption) ?_
        refine go_keep [0, 1, 2, 32, 33, 36, 34, 35, 37, 3] [0, 1, 10, 11, 3] ?_
        refine st_ ?_
        exact ih 4 _ _ (by omega) (.inr (.inr (.inr (.inr (.inr (.inr (.inr (.inr (.inr (.inr (.inr (.inr (.inr (.inr (.inr (.inr (.inr (.inr (.inr (.inr (.inl ⟨x2, x5, x7, rfl, (by kernel_rfl), rfl⟩)))))))))))))))))))))
      · refine go_newAt 4 (by rw [hnt]; rfl) (by rw [hty]; rfl) rfl (by omega) ?_
        intro x8
        refine rn_ ?_; intros
        refine h_hs (allIn (by repeat (first | exact trivial | refine ⟨rfl, ?_⟩))) (by first | exact Le.refl _ | assumption) ?_
        refine go_keep [0, 1, 2, 32, 33, 36, 34, 35, 37, 4] [0, 1, 10, 11, 4] ?_
        refine st_ ?_
        exact ih 4 _ _ (by omega) (.inr (.inr (.inr (.inr (.inr (.inr (.inr (.inr (.inr (.inr (.inr (.inr (.inr (.inr (.inr (.inr (.inr (.inr (.inr (.inr (.inr (.inl ⟨x2, x5, x8, rfl, (by kernel_rfl), rfl⟩))))))))))))))))))))))
    · refine h_two 5 8 rfl rfl (by kernel_rfl) ?_ ?_
      · refine go_newAt 11 (by rw [hnt]; rfl) (by rw [hty]; rfl) rfl (by omega) ?_
        intro x5
        refine rn_ ?_; intros
        refine h_hs (allIn (by repeat (first | exact trivial | refine ⟨rfl, ?_⟩))) (by first | exact Le.refl _ | assumption) ?_
        refine go_keep [0, 1, 2, 32, 33, 36, 34, 35, 37, 3] [0, 1, 10, 11, 3] ?_
        refine st_ ?_
        exact ih 4 _ _ (by omega) (.inr (.inr (.inr (.inr (.inr (.inr (.inr (.inr (.inr (.inr (.inr (.inr (.inr (.inr (.inr (.inr (.inr (.inr (.inr (.inr (.inl ⟨x2, x5, x7, rfl, (by kernel_rfl), rfl⟩)))))))))))))))))))))
      · refine go_newAt 4 (by rw [hnt]; rfl) (by rw [hty]; rfl) rfl (by omega) ?_
        intro x8
        refine rn_ ?_; intros
        refine h_hs (allIn (by repeat (first | exact trivial | refine ⟨rfl, ?_⟩))) (by first | exact Le.refl _ | assumption) ?_
        refine go_keep [0, 1, 2, 32, 33, 36, 34, 35, 3, 4] [0, 1, 10, 3, 4] ?_
        refine st_ ?_
        exact ih 4 _ _ (by omega) (.inr (.inr (.inr (.inr (.inr (.inr (.inr (.inr (.inr (.inr (.inr (.inr (.inr (.inr (.inr (.inr (.inr (.inr (.inr (.inr (.inr (.inr (.inl ⟨x2, x7, x8, rfl, (by kernel_rfl), rfl⟩)))))))))))))))))))))))
    · refine h_two 5 7 rfl rfl (by kernel_rfl) ?_ ?_
      · refine go_newAt 11 (by rw [hnt]; rfl) (by rw [hty]; rfl) rfl (by omega) ?_
        intro x5
        refine rn_ ?_; intros
        refine h_hs (allIn (by repeat (first | exact trivial | refine ⟨rfl, ?_⟩))) (by first | exact Le.refl _ | assumption) ?_
        refine go_keep [0, 1, 2, 32, 33, 36, 34, 35, 37, 4] [0, 1, 10, 11, 4] ?_
        refine st_ ?_
        exact ih 4 _ _ (by omega) (.inr (.inr (.inr (.inr (.inr (.inr (.inr (.inr (.inr (.inr (.inr (.inr (.inr (.inr (.inr (.inr (.inr (.inr (.inr (.inr (.inr (.inl ⟨x2, x5, x8, rfl, (by kernel_rfl), rfl⟩))))))))))))))))))))))
      · refine go_newAt 3 (by rw [hnt]; rfl) (by rw [hty]; rfl) rfl (by omega) ?_
        intro x7
        refine rn_ ?_; intros
        refine h_hs (allIn (by repeat (first | exact trivial | refine ⟨rfl, ?_⟩))) (by first | exact Le.refl _ | assumption) ?_
        refine go_keep [0, 1, 2, 32, 33, 36, 34, 35, 3, 4] [0, 1, 10, 3, 4] ?_
        refine st_ ?_
        exact ih 4 _ _ (by omega) (.inr (.inr (.inr (.inr (.inr (.inr (.inr (.inr (.inr (.inr (.inr (.inr (.inr (.inr (.inr (.inr (.inr (.inr (.inr (.inr (.inr (.inr (.inl ⟨x2, x7, x8, rfl, (by kernel_rfl), rfl⟩)))))))))))))))))))))))
    · refine h_two 3 8 rfl rfl (by kernel_rfl) ?_ ?_
      · refine go_callf (by rw [hnt]; rfl) (by rw [hP]; kernel_rfl) rfl (hP ▸ lval_ok 5 0 _ _ _ _) ?_
        refine rn_ ?_; intros
        refine h_hs (allIn (by repeat (first | exact trivial | refine ⟨rfl, ?_⟩))) (by first | exact Le.refl _ | assumption) ?_
        refine go_keep [0, 1, 2, 32, 33, 36, 34, 35, 37, 3] [0, 1, 10, 11, 3] ?_
        refine st_ ?_
        exact ih 4 _ _ (by omega) (.inr (.inr (.inr (.inr (.inr (.inr (.inr (.inr (.inr (.inr (.inr (.inr (.inr (.inr (.inr (.inr (.inr (.inr (.inr (.inr (.inl ⟨x2, x5, x7, rfl, (by kernel_rfl), rfl⟩)))))))))))))))))))))
      · refine go_newAt 4 (by rw [hnt]; rfl) (by rw [hty]; rfl) rfl (by omega) ?_
        intro x8
        refine rn_ ?_; intros
        refine h_hs (allIn (by repeat (first | exact trivial | refine ⟨rfl, ?_⟩))) (by first | exact Le.refl _ | assumption) ?_
        refine go_keep [0, 1, 2, 32, 33, 36, 34, 37, 3, 4] [0, 1, 10, 11, 3, 4] ?_
        refine st_ ?_
        exact ih 4 _ _ (by omega) (.inr (.inr (.inr (.inr (.inr (.inr (.inr (.inr (.inr (.inr (.inr (.inr (.inr (.inr (.inr (.inr (.inr (.inr (.inr (.inr (.inr (.inr (.inr (.inl ⟨x2, x5, x7, x8, rfl, (by kernel_rfl), rfl⟩))))))))))))))))))))))))
    · refine h_two 3 7 rfl rfl (by kernel_rfl) ?_ ?_
      · refine go_callf (by rw [hnt]; rfl) (by rw [hP]; kernel_rfl) rfl (hP ▸ lval_ok 5 0 _ _ _ _) ?_
        refine rn_ ?_; intros
        refine h_hs (allIn (by repeat (first | exact trivial | refine ⟨rfl, ?_⟩))) (by first | exact Le.refl _ | assumption) ?_
        refine go_keep [0, 1, 2, 32, 33, 36, 34, 35, 37, 4] [0, 1, 10, 11, 4] ?_
        refine st_ ?_
        exact ih 4 _ _ (by omega) (.inr (.inr (.inr (.inr (.inr (.inr (.inr (.inr (.inr (.inr (.inr (.inr (.inr (.inr (.inr (.inr (.inr (.inr (.inr (.inr (.inr (.inl ⟨x2, x5, x8, rfl, (by kernel_rfl), rfl⟩))))))))))))))))))))))
      · refine go_newAt 3 (by rw [hnt]; rfl) (by rw [hty]; rfl) rfl (by omega) ?_
        intro x7
        refine rn_ ?_; intros
        refine h_hs (allIn (by repeat (first | exact trivial | refine ⟨rfl, ?_⟩))) (by first | exact Le.refl _ | assumption) ?_
        refine go_keep [0, 1, 2, 32, 33, 36, 34, 37, 3, 4] [0, 1, 10, 11, 3, 4] ?_
        refine st_ ?_
        exact ih 4 _ _ (by omega) (.inr (.inr (.inr (.inr (.inr (.inr (.inr (.inr (.inr (.inr (.inr (.inr (.inr (.inr (.inr (.inr (.inr (.inr (.inr (.inr (.inr (.inr (.inr (.inl ⟨x2, x5, x7, x8, rfl, (by kernel_rfl), rfl⟩))))))))))))))))))))))))
    · refine h_two 3 5 rfl rfl (by kernel_rfl) ?_ ?_
      · refine go_callf (by rw [hnt]; rfl) (by rw [hP]; kernel_rfl) rfl (hP ▸ lval_ok 5 0 _ _ _ _) ?_
        refine rn_ ?_; intros
        refine h_hs (allIn (by repeat (first | exact trivial | refine ⟨rfl, ?_⟩))) (by first | exact Le.refl _ | assumption) ?_
        refine go_keep [0, 1, 2, 32, 33, 36, 34, 35, 3, 4] [0, 1, 10, 3, 4] ?_
        refine st_ ?_
        exact ih 4 _ _ (by omega) (.inr (.inr (.inr (.inr (.inr (.inr (.inr (.inr (.inr (.inr (.inr (.inr (.inr (.inr (.inr (.inr (.inr (.inr (.inr (.inr (.inr (.inr (.inl ⟨x2, x7, x8, rfl, (by kernel_rfl), rfl⟩)))))))))))))))))))))))
      · refine go_newAt 11 (by rw [hnt]; rfl) (by rw [hty]; rfl) rfl (by omega) ?_
        intro x5
        refine rn_ ?_; intros
        refine h_hs (allIn (by repeat (first | exact trivial | refine ⟨rfl, ?_⟩))) (by first | exact Le.refl _ | assumption) ?_
        refine go_keep [0, 1, 2, 32, 33, 36, 34, 37, 3, 4] [0, 1, 10, 11, 3, 4] ?_
        refine st_ ?_
        exact ih 4 _ _ (by omega) (.inr (.inr (.inr (.inr (.inr (.inr (.inr (.inr (.inr (.inr (.inr (.inr (.inr (.inr (.inr (.inr (.inr (.inr (.inr (.inr (.inr (.inr (.inr (.inl ⟨x2, x5, x7, x8, rfl, (by kernel_rfl), rfl⟩))))))))))))))))))))))))
    · refine h_one 2 rfl (by kernel_rfl) ?_
      refine go_newAt 10 (by rw [hnt]; rfl) (by rw [hty]; rfl) rfl (by omega) ?_
      intro x2
      refine rn_ ?_; intros
      refine h_hs (allIn (by repeat (first | exact trivial | refine ⟨rfl, ?_⟩))) (by first | exact Le.refl _ | assumption) ?_
      refine go_keep [0, 1, 2, 32, 33, 36, 34, 37, 3, 4] [0, 1, 10, 11, 3, 4] ?_
      refine st_ ?_
      exact ih 4 _ _ (by omega) (.inr (.inr (.inr (.inr (.inr (.inr (.inr (.inr (.inr (.inr (.inr (.inr (.inr (.inr (.inr (.inr (.inr (.inr (.inr (.inr (.inr (.inr (.inr (.inl ⟨x2, x5, x7, x8, rfl, (by kernel_rfl), rfl⟩))))))))))))))))))))))))
    · refine h_two 7 8 rfl rfl (by kernel_rfl) ?_ ?_
      · refine go_newAt 3 (by rw [hnt]; rfl) (by rw [hty]; rfl) rfl (by omega) ?_
        intro x7
        refine rn_ ?_; intros
        refine h_hs (allIn (by repeat (first | exact trivial | refine ⟨rfl, ?_⟩))) (by first | exact Le.refl _ | assumption) ?_
        refine go_keep [0, 1, 2, 32, 33, 36, 34, 35, 37, 38, 3] [0, 1, 10, 11, 3] ?_
        refine st_ ?_
        exact ih 3 _ _ (by omega) (.inr (.inr (.inr (.inr (.inr (.inr (.inr (.inr (.inr (.inr (.inr (.inr (.inr (.inr (.inr (.inr (.inr (.inr (.inr (.inr (.inr (.inr (.inr (.inr (.inl ⟨x2, x5, x7, rfl, (by kernel_rfl), rfl⟩)))))))))))))))))))))))))
      · refine go_newAt 4 (by rw [hnt]; rfl) (by rw [hty]; rfl) rfl (by omega) ?_
        intro x8
        refine rn_ ?_; intros
        refine h_hs (allIn (by repeat (first | exact trivial | refine ⟨rfl, ?_⟩))) (by first | exact Le.refl _ | assumption) ?_
        refine go_keep [0, 1, 2, 32, 33, 36, 34, 35, 37, 38, 4] [0, 1, 10, 11, 4] ?_
        refine st_ ?_
        exact ih 3 _ _ (by omega) (.inr (.inr (.inr (.inr (.inr (.inr (.inr (.inr (.inr (.inr (.inr (.inr (.inr (.inr (.inr (.inr (.inr (.inr (.inr (.inr (.inr (.inr (.inr (.inr (.inr (.inl ⟨x2, x5, x8, rfl, (by kernel_rfl), rfl⟩))))))))))))))))))))))))))
    · refine h_two 6 8 rfl rfl (by kernel_rfl) ?_ ?_
      · refine go_callf (by rw [hnt]; rfl) (by rw [hP]; kernel_rfl) rfl (hP ▸ lval_ok 6 0 _ _ _ _) ?_
        refine rn_ ?_; intros
        refine h_hs (allIn (by repeat (first | exact trivial | refine ⟨rfl, ?_⟩))) (by first | exact Le.refl _ | assumption) ?_
        refine go_keep [0, 1, 2, 32, 33, 36, 34, 35, 37, 38, 3] [0, 1, 10, 11, 3] ?_
        refine st_ ?_
        exact ih 3 _ _ (by omega) (.inr (.inr (.inr (.inr (.inr (.inr (.inr (.inr (.inr (.inr (.inr (.inr (.inr (.inr (.inr (.inr (.inr (.inr (.inr (.inr (.inr (.inr (.inr (.inr (.inl ⟨x2, x5, x7, rfl, (by kernel_rfl), rfl⟩)))))))))))))))))))))))))
      · refine go_newAt 4 (by rw [hnt]; rfl) (by rw [hty]; rfl) rfl (by omega) ?_
        intro x8
        refine rn_ ?_; intros
        refine h_hs (allIn (by repeat (first | exact trivial | refine ⟨rfl, ?_⟩))) (by first | exact Le.refl _ | assumption) ?_
        refine go_keep [0, 1, 2, 32, 33, 36, 34, 35, 37, 3, 4] [0, 1, 10, 11, 3, 4] ?_
        refine st_ ?_
        exact ih 3 _ _ (by omega) (.inr (.inr (.inr (.inr (.inr (.inr (.inr (.inr (.inr (.inr (.inr (.inr (.inr (.inr (.inr (.inr (.inr (.inr (.inr (.inr (.inr (.inr (.inr (.inr (.inr (.inr (.inl ⟨x2, x5, x7, x8, rfl, (by kernel_rfl), rfl⟩)))))))))))))))))))))))))))
    · refine h_two 6 7 rfl rfl (by kernel_rfl) ?_ ?_
      · refine go_callf (by rw [hnt]; rfl) (by rw [hP]; kernel_rfl) rfl (hP ▸ lval_ok 6 0 _ _ _ _) ?_
        refine rn_ ?_; intros
        refine h_hs (allIn (by repeat (first | exact trivial | refine ⟨rfl, ?_⟩))) (by first | exact Le.refl _ | assumption) ?_
        refine go_keep [0, 1, 2, 32, 33, 36, 34, 35, 37, 38, 4] [0, 1, 10, 11, 4] ?_
        refine st_ ?_
        exact ih 3 _ _ (by omega) (.inr (.inr (.inr (.inr (.inr (.inr (.inr (.inr (.inr (.inr (.inr (.inr (.inr (.inr (.inr (.inr (.inr (.inr (.inr (.inr (.inr (.inr (.inr (.inr (.inr (.inl ⟨x2, x5, x8, rfl, (by kernel_rfl), rfl⟩))))))))))))))))))))))))))
      · refine go_newAt 3 (by rw [hnt]; rfl) (by rw [hty]; rfl) rfl (by omega) ?_
        intro x7
        refine rn_ ?_; intros
        refine h_hs (allIn (by repeat (first | exact trivial | refine ⟨rfl, ?_⟩))) (by first | exact Le.refl _ | assumption) ?_
        refine go_keep [0, 1, 2, 32, 33, 36, 34, 35, 37, 3, 4] [0, 1, 10, 11, 3, 4] ?_
        refine st_ ?_
        exact ih 3 _ _ (by omega) (.inr (.inr (.inr (.inr (.inr (.inr (.inr (.inr (.inr (.inr (.inr (.inr (.inr (.inr (.inr (.inr (.inr (.inr (.inr (.inr (.inr (.inr (.inr (.inr (.inr (.inr (.inl ⟨x2, x5, x7, x8, rfl, (by kernel_rfl), rfl⟩)))))))))))))))))))))))))))
    · refine h_one 5 rfl (by kernel_rfl) ?_
      refine go_newAt 11 (by rw [hnt]; rfl) (by rw [hty]; rfl) rfl (by omega) ?_
      intro x5
      refine rn_ ?_; intros
      refine h_hs (allIn (by repeat (first | exact trivial | refine ⟨rfl, ?_⟩))) (by first | exact Le.refl _ | assumption) ?_
      refine go_keep [0, 1, 2, 32, 33, 36, 34, 35, 37, 3, 4] [0, 1, 10, 11, 3, 4] ?_
      refine st_ ?_
      exact ih 3 _ _ (by omega) (.inr (.inr (.inr (.inr (.inr (.inr (.inr (.inr (.inr (.inr (.inr (.inr (.inr (.inr (.inr (.inr (.inr (.inr (.inr (.inr (.inr (.inr (.inr (.inr (.inr (.inr (.inl ⟨x2, x5, x7, x8, rfl, (by kernel_rfl), rfl⟩)))))))))))))))))))))))))))
    · refine h_one 3 rfl (by kernel_rfl) ?_
      refine go_callf (by rw [hnt]; rfl) (by rw [hP]; kernel_rfl) rfl (hP ▸ lval_ok 5 0 _ _ _ _) ?_
      refine rn_ ?_; intros
      refine h_hs (allIn (by repeat (first | exact trivial | refine ⟨rfl, ?_⟩))) (by first | exact Le.refl _ | assumption) ?_
      refine go_keep [0, 1, 2, 32, 33, 36, 34, 35, 37, 3, 4] [0, 1, 10, 11, 3, 4] ?_
      refine st_ ?_
      exact ih 3 _ _ (by omega) (.inr (.inr (.inr (.inr (.inr (.inr (.inr (.inr (.inr (.inr (.inr (.inr (.inr (.inr (.inr (.inr (.inr (.inr (.inr (.inr (.inr (.inr (.inr (.inr (.inr (.inr (.inl ⟨x2, x5, x7, x8, rfl, (by kernel_rfl), rfl⟩)))))))))))))))))))))))))))
    · refine h_one 8 rfl (by kernel_rfl) ?_
      refine go_newAt 4 (by rw [hnt]; rfl) (by rw [hty]; rfl) rfl (by omega) ?_
      intro x8
      refine rn_ ?_; intros
      refine h_hs (allIn (by repeat (first | exact trivial | refine ⟨rfl, ?_⟩))) (by first | exact Le.refl _ | assumption) ?_
      refine go_keep [0, 1, 2, 32, 33, 36, 34, 35, 37, 38, 3, 4] [0, 1, 10, 11, 3, 4] ?_
      refine st_ ?_
      exact ih 2 _ _ (by omega) (.inr (.inr (.inr (.inr (.inr (.inr (.inr (.inr (.inr (.inr (.inr (.inr (.inr (.inr (.inr (.inr (.inr (.inr (.inr (.inr (.inr (.inr (.inr (.inr (.inr (.inr (.inr (⟨x2, x5, x7, x8, rfl, (by kernel_rfl), rfl⟩))))))))))))))))))))))))))))
    · refine h_one 7 rfl (by kernel_rfl) ?_
      refine go_newAt 3 (by rw [hnt]; rfl) (by rw [hty]; rfl) rfl (by omega) ?_
      intro x7
      refine rn_ ?_; intros
      refine h_hs (allIn (by repeat (first | exact trivial | refine ⟨rfl, ?_⟩))) (by first | exact Le.refl _ | assumption) ?_
      refine go_keep [0, 1, 2, 32, 33, 36, 34, 35, 37, 38, 3, 4] [0, 1, 10, 11, 3, 4] ?_
      refine st_ ?_
      exact ih 2 _ _ (by omega) (.inr (.inr (.inr (.inr (.inr (.inr (.inr (.inr (.inr (.inr (.inr (.inr (.inr (.inr (.inr (.inr (.inr (.inr (.inr (.inr (.inr (.inr (.inr (.inr (.inr (.inr (.inr (⟨x2, x5, x7, x8, rfl, (by kernel_rfl), rfl⟩))))))))))))))))))))))))))))
    · refine h_one 6 rfl (by kernel_rfl) ?_
      refine go_callf (by rw [hnt]; rfl) (by rw [hP]; kernel_rfl) rfl (hP ▸ lval_ok 6 0 _ _ _ _) ?_
      refine rn_ ?_; intros
      refine h_hs (allIn (by repeat (first | exact trivial | refine ⟨rfl, ?_⟩))) (by first | exact Le.refl _ | assumption) ?_
      refine go_keep [0, 1, 2, 32, 33, 36, 34, 35, 37, 38, 3, 4] [0, 1, 10, 11, 3, 4] ?_
      refine st_ ?_
      exact ih 2 _ _ (by omega) (.inr (.inr (.inr (.inr (.inr (.inr (.inr (.inr (.inr (.inr (.inr (.inr (.inr (.inr (.inr (.inr (.inr (.inr (.inr (.inr (.inr (.inr (.inr (.inr (.inr (.inr (.inr (⟨x2, x5, x7, x8, rfl, (by kernel_rfl), rfl⟩))))))))))))))))))))))))))))
    · refine h_one 9 rfl (by kernel_rfl) ?_
      refine rn_ ?_; intros
      refine h_hs (allIn (by repeat (first | exact trivial | refine ⟨rfl, ?_⟩))) (by first | exact Le.refl _ | assumption) ?_
      refine h_one 10 rfl (by kernel_rfl) ?_
      refine rn_ ?_; intros
      refine h_hs (allIn (by repeat (first | exact trivial | refine ⟨rfl, ?_⟩))) (by first | exact Le.refl _ | assumption) ?_
      refine h_end (by kernel_rfl) ?_
      clear ih
      refine go_keep [0, 1, 2, 3, 4] [0, 1, 3, 4, 10, 11] ?_
      refine st_ ?_
      exact key _ ⟨x2, x5, x7, x8, rfl⟩
  rintro s' ⟨x2, x5, x7, x8, rfl⟩
  simp only [List.drop_succ_cons, List.drop_zero]
  have hcT : ∀ G', cT.repC G' (.slice none 0 0) := fun G' => repC_leaf _ 4 1 (by simp [isI64]) (by simp [isI64])
  have hv5 : ∀ G', v5.repC G' (.slice none 0 0) := fun G' => repC_leaf _ 2 5 (by simp [isI64]) (by simp [isI64])
  refine go_pub 10 rfl (by omega) ?_
  intro G1 (hle1 : Le G G1) hx2
  refine go_pub 11 rfl (by omega) ?_
  intro G2 (hle2 : Le G1 G2) hx5
  have hrow2 : rV.S G2 [cT, v5] (.slice (some ⟨x2, 0, none⟩) 2 2) := Rp.S_mono hle2 (rV_row (at_cellsG hx2) (rV2 (hcT _) (by decide) (hv5 _) (by decide)) rfl (by omega))
  have hrow5 : rV.S G2 [cT] (.slice (some ⟨x5, 0, none⟩) 1 1) := rV_row (at_cellsG hx5) (rV1 (hcT _) (by decide)) rfl (by omega)
  have hsT : sT.repC G2 (.slice (some ⟨x2, 0, none⟩) 2 2) := repC_S (by simp [isI64]) (by simp [isI64]) hrow2 (by omega)
  have hrcT : rcT.repC G2 (.slice (some ⟨x5, 0, none⟩) 1 1) := repC_S (by simp [isI64]) (by simp [isI64]) hrow5 (by omega)
  refine st_ ?_
  refine rn_ ?_; intros
  rename_i b5
  refine x_held [(3, x7, .c 25 [.v (.int .i64 5), .v (.int .i64 0), .v (.slice (some ⟨x2, 0, none⟩) 2 2)]), (4, x8, .c 25 [.v (.int .i64 6), .v (.int .i64 0), .v (.slice (some ⟨x5, 0, none⟩) 1 1)])] rfl (by rw [hP]; kernel_rfl) rfl rfl rfl ?_; refine st_ ?_
  refine h_take 0 rfl (by kernel_rfl) (by kernel_rfl) (by kernel_rfl) hQp (by rw [hnt]; rfl) (allIn (by repeat (first | exact trivial | refine ⟨rfl, ?_⟩))) (by first | exact Le.refl _ | assumption) (quiet_op (by rw [hty]; first | rfl | (refine st_ ?_; rfl))) ?_; refine st_ ?_
  refine h_take 1 rfl (by kernel_rfl) (by kernel_rfl) (by kernel_rfl) hQp (by rw [hnt]; rfl) (allIn (by repeat (first | exact trivial | refine ⟨rfl, ?_⟩))) (by first | exact Le.refl _ | assumption) (quiet_op (by rw [hty]; first | rfl | (refine st_ ?_; rfl))) ?_; refine st_ ?_
  refine h_one 2 rfl (by kernel_rfl) ?_
  refine rn_ ?_; intros
  rename_i b6
  refine go_pub 6 rfl (by omega) ?_
  intro G3 (hle3 : Le G2 G3) hb6
  have hrow6 : rV.S G3 [rcT] (.slice (some ⟨b6, 0, none⟩) 1 1) := rV_row (at_cellsG hb6) (rV1 (VT.repC_mono hle3 hrcT) (by decide)) rfl (by omega)
  refine st_ ?_
  refine rn_ ?_; intros
  refine h_hs (allIn (by repeat (first | exact trivial | refine ⟨rfl, ?_⟩))) (by first | exact Le.refl _ | assumption) ?_
  refine h_one 3 rfl (by kernel_rfl) ?_
  refine rn_ ?_; intros
  refine go_callf (by rw [hnt]; rfl) (by rw [hP]; kernel_rfl) rfl (hP ▸ lval_ok 10 3 _ _ _ _) ?_
  refine rn_ ?_; intros
  refine h_hs (allIn (by repeat (first | exact trivial | refine ⟨rfl, ?_⟩))) (by first | exact Le.refl _ | assumption) ?_
  refine h_one 4 rfl (by kernel_rfl) ?_
  refine rn_ ?_; intros
  refine go_callf (by rw [hnt]; rfl) (by rw [hP]; kernel_rfl) rfl (hP ▸ lval_ok 8 0 _ _ _ _) ?_
  refine rn_ ?_; intros
  refine h_hs (allIn (by repeat (first | exact trivial | refine ⟨rfl, ?_⟩))) (by first | exact Le.refl _ | assumption) ?_
  refine h_one 5 rfl (by kernel_rfl) ?_
  refine rn_ ?_; intros
  rename_i b7
  refine go_pub 6 rfl (by omega) ?_
  intro G4 (hle4 : Le G3 G4) hb7
  have hle24 := hle3.trans hle4
  have hle04 := (hle1.trans hle2).trans hle24
  have hrow7 : rV.S G4 [sT, .mk 10 3 [rcT], nvT] (.slice (some ⟨b7, 0, none⟩) 3 3) := rV_row (at_cellsG hb7) (Rp.L_append (r := rV) (l := [sT]) (l' := [.mk 10 3 [rcT], nvT]) (cs := [_, _, _]) (rV1 (VT.repC_mono hle24 hsT) (by decide)) (rV2 (repC_S (by simp [isI64]) (by simp [isI64]) (Rp.S_mono hle4 hrow6) (by omega)) (by decide) (repC_leaf _ 8 0 (by simp [isI64]) (by simp [isI64])) (by decide))) rfl (by omega)
  refine st_ ?_
  refine rn_ ?_; intros
  refine h_hs (allIn (by repeat (first | exact trivial | refine ⟨rfl, ?_⟩))) (by first | exact Le.refl _ | assumption) ?_
  refine h_one 6 rfl (by kernel_rfl) ?_
  refine rn_ ?_; intros
  refine go_callf (by rw [hnt]; rfl) (by rw [hP]; kernel_rfl) rfl (hP ▸ lval_ok 9 0 _ _ _ _) ?_
  refine rn_ ?_; intros
  refine h_hs (allIn (by repeat (first | exact trivial | refine ⟨rfl, ?_⟩))) (by first | exact Le.refl _ | assumption) ?_
  refine h_one 7 rfl (by kernel_rfl) ?_
  refine rn_ ?_; intros
  refine go_callr 40 (by rw [hnt]; rfl) (by rw [hP]; kernel_rfl) rfl rfl (by omega) (hP ▸ fnew_ok e1T _ G4 (repC_S (by simp [isI64]) (by simp [isI64]) hrow7 (by omega)) (by decide)) ?_
  rintro u G5 r e size n xs (hle5 : Le G4 G5) (⟨_, g, sl, rfl, rfl, rfl, rfl, rfl, rfl, hcl, hS1⟩ | ⟨hev, _⟩)
  rotate_left
  · exact absurd hev (by decide)
  have hle25 := hle24.trans hle5
  have hle05 := hle04.trans hle5
  obtain ⟨sb, hsb⟩ : ∃ sb, sb = Value.slice none 0 0 := ⟨_, rfl⟩
  obtain ⟨sc, hsc⟩ : ∃ sc, sc = Value.slice none 0 0 := ⟨_, rfl⟩
  have hz0 : FzS G5 (f1s 0) sl sb sc := by rw [hsb, hsc]; exact ⟨hcl, capNil, capNil, hS1, Rp.S_nil _ _, Rp.S_nil _ _⟩
  refine go_unrow 40 (cells := [.v (.int .i64 1), .v sl, .v sb, .v sc]) (by rw [hsb, hsc]; rfl) ?_
  clear hsb hsc hS1 hcl
  refine rn_ ?_; intros
  refine h_hs (allIn (by repeat (first | exact trivial | refine ⟨rfl, ?_⟩))) (by first | exact Le.refl _ | assumption) ?_
  refine h_take 8 rfl (by kernel_rfl) (by kernel_rfl) (by kernel_rfl) hQp (by rw [hnt]; rfl) (allIn (by repeat (first | exact trivial | refine ⟨rfl, ?_⟩))) (by first | exact Le.refl _ | assumption) (quiet_op (by rw [hty]; first | rfl | (refine st_ ?_; rfl))) ?_; refine st_ ?_
  refine h_take 9 rfl (by kernel_rfl) (by kernel_rfl) (by kernel_rfl) hQp (by rw [hnt]; rfl) (allIn (by repeat (first | exact trivial | refine ⟨rfl, ?_⟩))) (by first | exact Le.refl _ | assumption) (quiet_op (by rw [hty]; first | rfl | (refine st_ ?_; rfl))) ?_; refine st_ ?_
  refine h_take 10 rfl (by kernel_rfl) (by kernel_rfl) (by kernel_rfl) hQp (by rw [hnt]; rfl) (allIn (by repeat (first | exact trivial | refine ⟨rfl, ?_⟩))) (by first | exact Le.refl _ | assumption) (quiet_op (by rw [hty]; first | rfl | (refine st_ ?_; rfl))) ?_; refine st_ ?_
  refine h_one 11 rfl (by kernel_rfl) ?_
  refine rn_ ?_; intros
  refine h_hs (allIn (by repeat (first | exact trivial | refine ⟨rfl, ?_⟩))) (by first | exact Le.refl _ | assumption) ?_
  refine h_one 12 rfl (by kernel_rfl) ?_
  refine rn_ ?_; intros
  refine h_hs (allIn (by repeat (first | exact trivial | refine ⟨rfl, ?_⟩))) (by first | exact Le.refl _ | assumption) ?_
  refine h_end (by kernel_rfl) ?_
  refine go_keep [0, 3, 5, 6, 7] [3, 5, 40] ?_
  refine st_ ?_
  exact w2 hP hQ hnt hty hmb hmh hro x7 b5 g _ sl sb sc G5 (hB.mono hle05) (VT.repC_mono hle25 hsT) hz0
end Go.Proofs.YthocgjchmpkhoaaDoor
namespace Go.Proofs.YthocgjchmpkhoaaDoor
set_option linter.unusedSimpArgs false
set_option linter.unusedVariables false
open Go.Sx
set_option maxHeartbeats 16000000
set_option maxRecDepth 20000
mutual
theorem veq_refl3 : ∀ (x : VT), veq x x = true
  | .mk k n l => by simp [veq, veqL_refl3 l]
theorem veqL_refl3 : ∀ (l : List VT), veqL l l = true
  | [] => by simp [veqL]
  | x :: l => by simp [veqL, veq_refl3 x, veqL_refl3 l]
end
theorem bsE_refl {x : Bs} (h : BsOk x) : bsE x x = true := by
  obtain ⟨h1, _, _, h4⟩ := h
  have hc : eqL clE x.w x.w = true := eqL_refl fun c hc => by
    simp only [clE, beq_self_eq_true, Bool.true_and]
    exact eqL_refl fun y hy => by simp only [vsm, (h4 c hc).2 y hy, veq_refl3, Bool.and_self]
  have hn : eqL (fun a b : Int => a == b) x.c x.c = true := eqL_refl fun y _ => by simp
  simp only [bsE, beq_self_eq_true, Bool.true_and, vsm, h1, veq_refl3, Bool.and_self, hc, hn]
theorem few1 {l : List Ac} {m : Int} (h : fewF l m = true) : (l.length : Int) ≤ m ∧ ∀ x ∈ l, tsz x.v ≤ 40 := by
  simp only [fewF, Bool.and_eq_true, decide_eq_true_eq, List.all_eq_true, fewA] at h
  exact h
theorem forceAll_ok (v : VT) (l : List Ac) (many : Int) (x : Ac) (sv sl sx : Value) (G : Hp) (hB : At G 0 0 bdsL) (hv : v.repC G sv) (hvt : tsz v ≤ 1048576) (hl : rA.S G l sl) (hln : l.length ≤ 2000000) (hx : x.rep G sx) (hm : isI64 many) :
    Pure Tryd.prog 3 [.agg #[.int .i64 v.k, .int .i64 v.n, sv], sl, .int .i64 many, .agg (acL x sx).toArray] G (fun r _ => r = .bool true) := by
  obtain ⟨av, qv, rfl⟩ := VT.repC_slice hv
  obtain ⟨al, cl, rfl⟩ := Rp.S_slice hl
  obtain ⟨ax, qx, rfl⟩ := VT.repC_slice hx.v
  refine enterM ty tyok Tryd.func3 rfl Tryd.ntmps3 [.a [.v (.int .i64 v.k), .v (.int .i64 v.n), .v (.slice av v.l.length qv)], .v (.slice al l.length cl), .v (.int .i64 many), .a [.v (.int .i64 x.w), .v (.int .i64 x.n), .v (.int .i64 x.v.k), .v (.int .i64 x.v.n), .v (.slice ax x.v.l.length qx)]] (by simp) ?_
  intro C hP hQ hnt hty hmb hmh hro; have hQp := qp_bodyM hQ; refine st_ ?_
  refine rn_ ?_; intros
  rename_i bv bm bx br
  refine go_marks 5 rfl (by omega) ?_
  refine go_keep [1, 4, 6, 7, 8, 23] [0, 1, 2, 3, 5] ?_
  refine st_ ?_
  refine cut_tailK 1 (fun s' => ∃ (u : Bool) (G' : Hp), Le G G' ∧ (u = false → tsz v ≤ 60 ∧ fewF l 40 = true ∧ fewF [x] 1 = true) ∧ s' = ⟨[(1, .v (.slice al l.length cl)), (4, .p 0 bv 0), (6, .p 1 bm 0), (7, .p 2 bx 0), (8, .p 3 br 0), (36, .b u)],
    [(0, bv, .c 25 [.v (.int .i64 v.k), .v (.int .i64 v.n), .v (.slice av v.l.length qv)]), (1, bm, .c 3 [.v (.int .i64 many)]), (2, bx, .c 28 [.v (.int .i64 x.w), .v (.int .i64 x.n), .v (.int .i64 x.v.k), .v (.int .i64 x.v.n), .v (.slice ax x.v.l.length qx)]), (3, br, .c 4 [.v (.bool false)]), (5, 0, dzO [])], G', []⟩) ?_ ?_
  rotate_left
  · intro Kr key
    simp only [List.take_succ_cons, List.take_zero, List.cons_append, List.nil_append]
    refine rn_ ?_; intros
    refine go_callf (by rw [hnt]; rfl) (by rw [hP]; kernel_rfl) rfl (hP ▸ refsize_ok v _ G (VT.repC_rep hv) (by omega)) ?_
    rw [cnt_eq v 0 (by omega)]
    refine rn_ ?_; intros
    by_cases h60 : tsz v ≤ 60
    rotate_left
    · refine go_slot 26 (.b true) rfl (by simp only [SV.den]; congr 1; symm; rw [decide_eq_true_eq]; omega) ?_
      refine rn_ ?_; intros
      refine go_keep [1, 4, 6, 7, 8, 36] [0, 1, 2, 3, 5] ?_
      refine st_ ?_
      exact key _ ⟨true, G, Le.refl _, (fun h => by cases h), rfl⟩
    refine go_slot 26 (.b false) rfl (by simp only [SV.den]; congr 1; symm; rw [decide_eq_false_iff_not]; omega) ?_
    refine rn_ ?_; intros
    refine go_callf (by rw [hnt]; rfl) (by rw [hP]; kernel_rfl) rfl (hP ▸ few_ok l _ 40 G hl hln) ?_
    refine rn_ ?_; intros
    cases hf : fewF l 40
    · refine go_slot 31 (.b true) rfl (by simp [SV.den]) ?_
      refine rn_ ?_; intros
      refine go_keep [1, 4, 6, 7, 8, 36] [0, 1, 2, 3, 5] ?_
      refine st_ ?_
      exact key _ ⟨true, G, Le.refl _, (fun h => by cases h), rfl⟩
    refine go_slot 31 (.b false) rfl (by simp [SV.den]) ?_
    refine rn_ ?_; intros
    rename_i b9
    refine go_pub 6 rfl (by omega) ?_
    intro G1 (hle1 : Le G G1) hb9
    have hrow : rA.S G1 [x] (.slice (some ⟨b9, 0, none⟩) 1 1) := ⟨by simp, _, _, rfl, .inr ⟨b9, 0, _, rfl, at_cellsG hb9, Rp.L_single ⟨_, rfl, hx.mono hle1⟩⟩⟩
    refine st_ ?_
    refine go_callf (by rw [hnt]; rfl) (by rw [hP]; kernel_rfl) rfl (hP ▸ few_ok [x] _ 1 G1 hrow (by simp)) ?_
    refine rn_ ?_; intros
    cases hfx : fewF [x] 1
    · refine go_slot 36 (.b true) rfl (by simp [SV.den]) ?_
      refine go_keep [1, 4, 6, 7, 8, 36] [0, 1, 2, 3, 5] ?_
      refine st_ ?_
      exact key _ ⟨true, G1, hle1, (fun h => by cases h), rfl⟩
    · refine go_slot 36 (.b false) rfl (by simp [SV.den]) ?_
      refine go_keep [1, 4, 6, 7, 8, 36] [0, 1, 2, 3, 5] ?_
      refine st_ ?_
      exact key _ ⟨false, G1, hle1, fun _ => ⟨h60, hf, hfx⟩, rfl⟩
  rintro s' ⟨u, G1, hle1, hu, rfl⟩
  simp only [List.drop_succ_cons, List.drop_zero]
  cases u
  rotate_left
  · refine rn_ ?_; intros
    refine go_callf (by rw [hnt]; rfl) (by rw [hP]; kernel_rfl) rfl (hP ▸ works_ok G1 (hB.mono hle1)) ?_; refine rn_ ?_; intros
    refine x_retM 5 rfl hQ hmb rfl rfl rfl (by rw [hty]; simp only [so, sq, zy, zz, tyE, SO', SQ', opQ, opStore, opAlloc, ev, putS, dOk, cv, SV.cs, SV.one, SV.bool?, eqB, Value.oneCell', ldOwn, binInt, binConst, binBool, binStr, isC, TK.agg, rv, rv1, ldV, resOne, resV, Nat.reduceAdd, Nat.reduceMul, Nat.reduceSub, Nat.reduceLT, Nat.reduceLeDiff, Nat.reduceEqDiff, Nat.reduceBEq, reduceIte, reduceCtorEq, eq_self]; try rfl) ?_; simp only [SV.den, resV, dens]
  obtain ⟨h60, hf, hfx⟩ := hu rfl
  obtain ⟨hl40, hlv⟩ := few1 hf
  clear hu
  refine rn_ ?_; intros
  have hvm := VT.repC_mono hle1 hv
  refine go_call (by rw [hnt]; rfl) (by rw [hP]; kernel_rfl) rfl (hP ▸ fplain_ok v _ G1 (hB.mono hle1) hvm hvt) ?_
  rintro u G2 (hle2 : Le G1 G2) ⟨sp, rfl, hp⟩
  obtain ⟨a1, q1, rfl⟩ := Rp.S_slice hp
  have hle02 := hle1.trans hle2
  refine rn_ ?_; intros
  refine go_call (by rw [hnt]; rfl) (by rw [hP]; kernel_rfl) rfl (hP ▸ rplain_ok v _ G2 (VT.repC_mono hle02 hv) hvt) ?_
  rintro u G3 (hle3 : Le G2 G3) ⟨sq, rfl, hq⟩
  obtain ⟨a2, q2, rfl⟩ := Rp.S_slice hq
  have hle03 := hle02.trans hle3
  refine rn_ ?_; intros
  refine go_slot 51 (.b false) rfl (by simp [SV.den]) ?_
  refine rn_ ?_; intros
  refine go_callf (by rw [hnt]; rfl) (by rw [hP]; kernel_rfl) rfl (hP ▸ bases_ok (plainF v).1 (plainF v).1 _ _ G3 (Rp.S_mono hle3 hp) hq) ?_
  rw [eqL_refl fun b hb => bsE_refl (plain_bs v b hb)]
  refine rn_ ?_; intros
  refine go_slot 56 (.b false) rfl rfl ?_
  refine rn_ ?_; intros
  refine go_keep [1, 4, 6, 7, 8, 58] [0, 1, 2, 3, 5] ?_
  refine st_ ?_
  refine go_callr 40 (by rw [hnt]; rfl) (by rw [hP]; kernel_rfl) rfl rfl (by omega) (hP ▸ fnew_ok v _ G3 (VT.repC_mono hle03 hv) hvt) ?_
  rintro u G4 r e size n xs (hle4 : Le G3 G4) (⟨hev, b, sl, rfl, rfl, rfl, rfl, rfl, rfl, hcl, hS1⟩ | ⟨hev, rfl⟩)
  rotate_left
  · have hn0 : newF v = (noF, 2) := by rw [newF, if_neg (by simp [hev])]
    have hle04 := hle03.trans hle4
    refine rn_ ?_; intros
    refine go_call (by rw [hnt]; rfl) (by rw [hP]; kernel_rfl) rfl (hP ▸ rnew_ok v _ G4 (VT.repC_mono hle04 hv) hvt) ?_
    rw [hn0]
    rintro u G5 (hle5 : Le G4 G5) ⟨t1, t2, t3, t4, rfl, hr⟩
    obtain ⟨y1, z1, rfl⟩ := Rp.S_slice hr.l
    obtain ⟨y2, z2, rfl⟩ := Rp.S_slice hr.b
    obtain ⟨y3, z3, rfl⟩ := Rp.S_slice hr.c
    obtain ⟨y4, z4, rfl⟩ := Rp.S_slice hr.a
    simp only [fcL]
    refine rn_ ?_; intros
    repeat (first | (refine go_gsplit rfl rfl (fun hc => absurd hc (by first | decide +kernel | (simp; first | done | fail))) (fun _ => ?_); refine st_ ?_; (refine rn_ ?_; intros)) | (refine go_gsplit rfl rfl (fun _ => ?_) (fun hc => absurd hc (by first | decide +kernel | (simp; first | done | fail))); refine st_ ?_; (refine rn_ ?_; intros)) | (refine x_split rfl rfl rfl (fun hc => absurd hc (by first | decide +kernel | (simp; first | done | fail))) (fun _ => ?_); refine st_ ?_; (refine ru_ ?_; intros)) | (refine x_split rfl rfl rfl (fun _ => ?_) (fun hc => absurd hc (by first | decide +kernel | (simp; first | done | fail))); refine st_ ?_; (refine ru_ ?_; intros)))
    refine rn_ ?_; intros
    refine go_callf (by rw [hnt]; rfl) (by rw [hP]; kernel_rfl) rfl (hP ▸ num_ok _ _) ?_
    refine rn_ ?_; intros
    refine go_slot 73 (.b true) rfl (by simp [SV.den]) ?_
    refine rn_ ?_; intros
    refine go_callf (by rw [hnt]; rfl) (by rw [hP]; kernel_rfl) rfl (hP ▸ works_ok G5 (hB.mono (hle04.trans hle5))) ?_
    refine rn_ ?_; intros
    refine x_retM 5 rfl hQ hmb rfl rfl rfl (by rw [hty]; simp only [so, sq, zy, zz, tyE, SO', SQ', opQ, opStore, opAlloc, ev, putS, dOk, cv, SV.cs, SV.one, SV.bool?, eqB, Value.oneCell', ldOwn, binInt, binConst, binBool, binStr, isC, TK.agg, rv, rv1, ldV, resOne, resV, Nat.reduceAdd, Nat.reduceMul, Nat.reduceSub, Nat.reduceLT, Nat.reduceLeDiff, Nat.reduceEqDiff, Nat.reduceBEq, reduceIte, reduceCtorEq, eq_self]; try rfl) ?_; simp only [SV.den, resV, dens]
  have hn0 : newF v = (⟨1, [⟨v, [], []⟩], [], [], ⟨0, []⟩⟩, 0) := by rw [newF, if_pos hev]
  have hle04 := hle03.trans hle4
  have hg0 := new_g hev 0
  have hr0 := rel_new v
  rw [hn0] at hg0 hr0
  simp only at hg0 hr0
  obtain ⟨sb, hsb⟩ : ∃ sb, sb = Value.slice none 0 0 := ⟨_, rfl⟩
  obtain ⟨sc, hsc⟩ : ∃ sc, sc = Value.slice none 0 0 := ⟨_, rfl⟩
  have hz0 : FzS G4 ⟨1, [⟨v, [], []⟩], [], [], ⟨0, []⟩⟩ sl sb sc := by rw [hsb, hsc]; exact ⟨hcl, capNil, capNil, hS1, Rp.S_nil _ _, Rp.S_nil _ _⟩
  refine go_unrow 40 (cells := [.v (.int .i64 1), .v sl, .v sb, .v sc]) (by rw [hsb, hsc]; rfl) ?_
  clear hsb hsc hS1 hcl
  refine rn_ ?_; intros
  refine go_call (by rw [hnt]; rfl) (by rw [hP]; kernel_rfl) rfl (hP ▸ rnew_ok v _ G4 (VT.repC_mono hle04 hv) hvt) ?_
  rw [hn0]
  obtain ⟨F0, hF0⟩ : ∃ F0 : Fc, F0 = ⟨1, [⟨v, [], []⟩], [], [], ⟨0, []⟩⟩ := ⟨_, rfl⟩
  rw [← hF0] at hg0 hr0 hz0 ⊢
  rintro u G5 (hle5 : Le G4 G5) ⟨t1, t2, t3, t4, rfl, hr⟩
  have hz5 := hz0.mono hle5
  have hle05 := hle04.trans hle5
  have hst0 : F0.st = 1 := by rw [hF0]
  clear hz0 hF0
  obtain ⟨t1, w1, rfl⟩ := Rp.S_slice hr.l
  obtain ⟨t2, w2, rfl⟩ := Rp.S_slice hr.b
  obtain ⟨t3, w3, rfl⟩ := Rp.S_slice hr.c
  obtain ⟨t4, w4, rfl⟩ := Rp.S_slice hr.a
  simp only [fcL]
  refine rn_ ?_; intros
  rename_i bw
  repeat (first | (refine go_gsplit rfl rfl (fun hc => absurd hc (by first | decide +kernel | (simp; first | done | fail))) (fun _ => ?_); refine st_ ?_; (refine rn_ ?_; intros)) | (refine go_gsplit rfl rfl (fun _ => ?_) (fun hc => absurd hc (by first | decide +kernel | (simp; first | done | fail))); refine st_ ?_; (refine rn_ ?_; intros)) | (refine x_split rfl rfl rfl (fun hc => absurd hc (by first | decide +kernel | (simp; first | done | fail))) (fun _ => ?_); refine st_ ?_; (refine ru_ ?_; intros)) | (refine x_split rfl rfl rfl (fun _ => ?_) (fun hc => absurd hc (by first | decide +kernel | (simp; first | done | fail))); refine st_ ?_; (refine ru_ ?_; intros)))
  refine rn_ ?_; intros
  refine go_keep [1, 6, 7, 8, 13, 15, 17] [1, 2, 3, 5, 40, 41] ?_
  refine st_ ?_
  refine x_loop rfl (fun q st => ∃ (k : Nat) (g F : Fc) (b : Nat) (sl sb sc : Value) (t1 t2 t3 t4 : Option Addr) (w1 w2 w3 w4 : Nat) (G' : Hp), k ≤ l.length ∧ q = l.length - k ∧ Le G5 G' ∧ GOk g k ∧ RelF g F ∧ FzS G' g sl sb sc ∧ F.rep G' (.slice t1 F.l.length w1) (.slice t2 F.b.length w2) (.slice t3 F.c.length w3) (.slice t4 F.cl.a.length w4) ∧
    st = ⟨[(1, .v (.slice al l.length cl)), (6, .p 1 bm 0), (7, .p 2 bx 0), (8, .p 3 br 0), (13, .v (.pointer (some ⟨b, 0, none⟩))), (15, .p 41 bw 0), (17, .v (.int .i64 k))],
      [(1, bm, .c 3 [.v (.int .i64 many)]), (2, bx, .c 28 [.v (.int .i64 x.w), .v (.int .i64 x.n), .v (.int .i64 x.v.k), .v (.int .i64 x.v.n), .v (.slice ax x.v.l.length qx)]), (3, br, .c 4 [.v (.bool false)]), (5, 0, dzO []), (40, b, .c 74 [.v (.int .i64 g.st), .v sl, .v sb, .v sc]), (41, bw, .c 45 [.v (.int .i64 F.st), .v (.slice t1 F.l.length w1), .v (.slice t2 F.b.length w2), .v (.slice t3 F.c.length w3), .v (.int .i64 F.cl.f), .v (.slice t4 F.cl.a.length w4)])], G', []⟩)
    ⟨0, F0, F0, b, sl, sb, sc, t1, t2, t3, t4, w1, w2, w3, w4, G5, by omega, rfl, Le.refl _, hg0, hr0, hz5, hr, by rw [hst0]; rfl⟩ ?_
  clear hz5 hr hg0 hr0 hst0
  rintro q st ⟨k, g, F, b, sl, sb, sc, t1, t2, t3, t4, w1, w2, w3, w4, G6, hk, hq, hle6, hg, hrel, hz, hF, rfl⟩ ih
  have hle06 := hle05.trans hle6
  refine rn_ ?_; intros
  refine x_if rfl rfl rfl rfl (fun hkl => ?_) (fun hkl => ?_)
  · have hlt : k < l.length := by simp at hkl; omega
    obtain ⟨c7, o7, s7, rfl, hat7, hr7⟩ := rA_at hl hlt
    obtain ⟨a7, q7, rfl⟩ := VT.repC_slice hr7.v
    simp only [acL] at hat7
    refine rn_ ?_; intros
    refine x_held [] rfl (by rw [hP]; kernel_rfl) rfl rfl rfl ?_
    refine st_ ?_
    refine h_take 0 rfl (by kernel_rfl) (by kernel_rfl) (by kernel_rfl) hQp (by rw [hnt]; rfl) (allIn (by repeat (first | exact trivial | refine ⟨rfl, ?_⟩))) (by first | exact Le.refl _ | assumption) (quiet_op (by rw [hty]; first | rfl | (refine st_ ?_; rfl))) ?_; refine st_ ?_
    refine h_take 2 rfl (by kernel_rfl) (by kernel_rfl) (by kernel_rfl) hQp (by rw [hnt]; rfl) (allIn (by repeat (first | exact trivial | refine ⟨rfl, ?_⟩))) (by first | exact Le.refl _ | assumption) (quiet_op (by rw [hty]; first | rfl | (refine st_ ?_; rfl))) ?_; refine st_ ?_
    refine h_take 3 rfl (by kernel_rfl) (by kernel_rfl) (by kernel_rfl) hQp (by rw [hnt]; rfl) (allIn (by repeat (first | exact trivial | refine ⟨rfl, ?_⟩))) (by first | exact Le.refl _ | assumption) (quiet_op (by rw [hty]; first | rfl | (refine st_ ?_; rfl))) ?_; refine st_ ?_
    refine h_take 4 rfl (by kernel_rfl) (by kernel_rfl) (by kernel_rfl) hQp (by rw [hnt]; rfl) (allIn (by repeat (first | exact trivial | refine ⟨rfl, ?_⟩))) (by first | exact Le.refl _ | assumption) (x := .v (.pointer (some ⟨c7, o7 + k * 5, none⟩))) ((quiet_index (by rw [hty]; rfl) (by rw [hty]; rfl) rfl rfl rfl (by omega) (by omega)).cast (by simp [SV.den])) ?_
    refine st_ ?_
    refine h_take 5 rfl (by kernel_rfl) (by kernel_rfl) (by kernel_rfl) hQp (by rw [hnt]; rfl) (allIn (by repeat (first | exact trivial | refine ⟨rfl, ?_⟩))) (by first | exact Le.refl _ | assumption) (x := .a [.v (.int .i64 l[k].w), .v (.int .i64 l[k].n), .v (.int .i64 l[k].v.k), .v (.int .i64 l[k].v.n), .v (.slice a7 l[k].v.l.length q7)]) ((quiet_load (by rw [hty]; rfl) rfl (fun q => by cases q) (hat7.mono hle06) rfl).cast (by simp only [ldV, SV.den, dens]; rfl)) ?_
    refine st_ ?_
    refine h_one 1 rfl (by kernel_rfl) ?_
    refine rn_ ?_; intros
    refine h_hs (allIn (by repeat (first | exact trivial | refine ⟨rfl, ?_⟩))) (by first | exact Le.refl _ | assumption) ?_
    refine h_one 6 rfl (by kernel_rfl) ?_
    have hGH := hg.H (n := k) (by omega) (hB.mono hle06) hz.cl hz.cb hz.cc hz.l hz.b hz.c
    have hFc : F.c.length ≤ 1000 := by rw [← hrel.c]; have := hg.c; omega
    refine go_callW [40] (ow := fzO b g.st sl sb sc) (by rw [hnt]; rfl) (by rw [hP]; kernel_rfl) rfl rfl rfl (.inl (by intro k hk; omega)) (hP ▸ act_ok g F l[k] b 0 sl sb sc _ _ _ _ _ G6 hGH hg.b hg.h hF (rok_of hrel hg) hFc (hr7.mono hle06)) ?_
    rintro u G7 ow (hle7 : Le G6 G7) ⟨b', y1, y2, y3, y4, tt, rfl, hF7, sl', sb', sc', k1, k2, k3, k4, k5, k6, rfl⟩
    obtain ⟨y1, z1, rfl⟩ := Rp.S_slice hF7.l
    obtain ⟨y2, z2, rfl⟩ := Rp.S_slice hF7.b
    obtain ⟨y3, z3, rfl⟩ := Rp.S_slice hF7.c
    obtain ⟨y4, z4, rfl⟩ := Rp.S_slice hF7.a
    have hg7 := act_g hg l[k]
    have hrel7 := act_rel hrel l[k]
    generalize actF F l[k] = F7 at *
    generalize actG g l[k] = g7 at *
    simp only [setO, fzO, fcL]
    have hle67 := hle7
    refine st_ ?_
    refine rn_ ?_; intros
    refine h_hs (allIn (by repeat (first | exact trivial | refine ⟨rfl, ?_⟩))) (by first | exact Le.refl _ | assumption) ?_
    refine h_take 7 rfl (by kernel_rfl) (by kernel_rfl) (by kernel_rfl) hQp (by rw [hnt]; rfl) (allIn (by repeat (first | exact trivial | refine ⟨rfl, ?_⟩))) (by first | exact Le.refl _ | assumption) (quiet_op (by rw [hty]; first | rfl | (refine st_ ?_; rfl))) ?_; refine st_ ?_
    refine h_take 8 rfl (by kernel_rfl) (by kernel_rfl) (by kernel_rfl) hQp (by rw [hnt]; rfl) (allIn (by repeat (first | exact trivial | refine ⟨rfl, ?_⟩))) (by first | exact Le.refl _ | assumption) (quiet_op (by rw [hty]; first | rfl | (refine st_ ?_; rfl))) ?_; refine st_ ?_
    refine h_take 9 rfl (by kernel_rfl) (by kernel_rfl) (by kernel_rfl) hQp (by rw [hnt]; rfl) (allIn (by repeat (first | exact trivial | refine ⟨rfl, ?_⟩))) (by first | exact Le.refl _ | assumption) (quiet_op (by rw [hty]; first | rfl | (refine st_ ?_; rfl))) ?_; refine st_ ?_
    refine h_take 10 rfl (by kernel_rfl) (by kernel_rfl) (by kernel_rfl) hQp (by rw [hnt]; rfl) (allIn (by repeat (first | exact trivial | refine ⟨rfl, ?_⟩))) (by first | exact Le.refl _ | assumption) (quiet_op (by rw [hty]; first | rfl | (refine st_ ?_; rfl))) ?_; refine st_ ?_
    refine h_one 11 rfl (by kernel_rfl) ?_
    refine rn_ ?_; intros
    refine h_hs (allIn (by repeat (first | exact trivial | refine ⟨rfl, ?_⟩))) (by first | exact Le.refl _ | assumption) ?_
    refine h_one 12 rfl (by kernel_rfl) ?_
    refine rn_ ?_; intros
    refine h_hs (allIn (by repeat (first | exact trivial | refine ⟨rfl, ?_⟩))) (by first | exact Le.refl _ | assumption) ?_
    refine h_end (by kernel_rfl) ?_
    refine rn_ ?_; intros
    rw [wr (n := (k : Int) + 1) (by omega) (by omega)]
    refine go_keep [1, 6, 7, 8, 13, 15, 17] [1, 2, 3, 5, 40, 41] ?_
    refine st_ ?_
    exact ih (l.length - (k + 1)) _ (by omega) ⟨k + 1, g7, F7, b', sl', sb', sc', y1, y2, y3, y4, z1, z2, z3, z4, G7, by omega, rfl, hle6.trans hle7, hg7, hrel7, ⟨k1, k2, k3, k4, k5, k6⟩, hF7, rfl⟩
  have hge : k = l.length := by simp at hkl; omega
  clear ih hkl hq hk
  refine rn_ ?_; intros
  refine go_callW [40] (ow := fzO b g.st sl sb sc) (by rw [hnt]; rfl) (by rw [hP]; kernel_rfl) rfl rfl rfl (.inl (by intro k hk; omega)) (hP ▸ fall_ok b g.st g.b sl sb sc G6 hg.z hz.b (by have := hg.k.n; omega) hg.b) ?_
  rintro u G7 ow (hle7 : Le G6 G7) ⟨⟨pf, pcap, rfl, hpc, hit⟩, rfl⟩
  have hle07 := hle06.trans hle7
  simp only [setO, fzO]
  refine st_ ?_
  refine rn_ ?_; intros
  refine go_q (by rw [hnt]; rfl) (quiet_feq (by rw [hty]; rfl) rfl rfl) ?_
  refine rn_ ?_; intros
  refine go_slot 96 (.b false) rfl rfl ?_
  refine rn_ ?_; intros
  have hGH := hg.H (n := k) (by omega) (hB.mono hle07) hz.cl hz.cb hz.cc (Rp.S_mono hle7 hz.l) (Rp.S_mono hle7 hz.b) (Rp.S_mono hle7 hz.c)
  have hFc : F.c.length ≤ 1000 := by rw [← hrel.c]; have := hg.c; omega
  refine go_callW [40] (ow := fzO b g.st sl sb sc) (by rw [hnt]; rfl) (by rw [hP]; kernel_rfl) rfl rfl rfl (.inl (by intro k hk; omega)) (hP ▸ act_ok g F x b 0 sl sb sc _ _ _ _ _ G7 hGH hg.b hg.h (hF.mono hle7) (rok_of hrel hg) hFc (hx.mono hle07)) ?_
  rintro u G8 ow (hle8 : Le G7 G8) ⟨b', y1, y2, y3, y4, tt, rfl, hF7, sl', sb', sc', k1, k2, k3, k4, k5, k6, rfl⟩
  obtain ⟨y1, z1, rfl⟩ := Rp.S_slice hF7.l
  obtain ⟨y2, z2, rfl⟩ := Rp.S_slice hF7.b
  obtain ⟨y3, z3, rfl⟩ := Rp.S_slice hF7.c
  obtain ⟨y4, z4, rfl⟩ := Rp.S_slice hF7.a
  clear hF7 k1 k2 k3 k4 k5 k6 hGH
  have hle08 := hle07.trans hle8
  have hit8 := hit.mono hle8
  rw [hrel.b] at hit8
  have hwB := Rp.S_mono (hle7.trans hle8) hF.b
  have hbs : ∀ y ∈ F.b, BsOk y := by rw [← hrel.b]; exact hg.b
  have hbn : F.b.length ≤ 32 := by rw [← hrel.b]; have := hg.k.n; omega
  simp only [setO, fzO, fcL]
  refine go_keep [6, 8, 15, 18] [1, 3, 5, 41] ?_
  refine st_ ?_
  refine rn_ ?_; intros
  rename_i b9
  refine go_keep [6, 8, 15, 18, 19] [1, 3, 5, 41, 42] ?_
  refine st_ ?_
  refine x_loop rfl (fun q s => ∃ (turn : Nat) (b9 : Nat) (ds : List Nat) (G' : Hp), turn ≤ 2 ∧ q = 2 - turn ∧ Le G8 G' ∧
    s = ⟨[(6, .p 1 bm 0), (8, .p 3 br 0), (15, .p 41 bw 0), (18, .v (.func (.func pf) #[] pcap.toArray)), (19, .p 42 b9 0)],
      [(1, bm, .c 3 [.v (.int .i64 many)]), (3, br, .c 4 [.v (.bool false)]), (5, 0, dzO ds), (41, bw, .c 45 [.v (.int .i64 F.st), .v (.slice t1 F.l.length w1), .v (.slice t2 F.b.length w2), .v (.slice t3 F.c.length w3), .v (.int .i64 F.cl.f), .v (.slice t4 F.cl.a.length w4)]), (42, b9, .c 3 [.v (.int .i64 turn)])], G', ds.map mkD⟩) ⟨0, b9, [], G8, by omega, rfl, Le.refl _, rfl⟩ ?_
  clear b9
  rintro q s ⟨turn, b9, ds, G4, hturn, hq, hle4, rfl⟩ ih
  refine rn_ ?_; intros
  refine x_if rfl rfl rfl rfl (fun ht2 => ?_) (fun ht2 => ?_)
  · have hlt : turn < 2 := by simp at ht2; omega
    refine rn_ ?_; intros
    rename_i b10
    refine go_keep [6, 8, 15, 18, 19, 20, 105] [1, 3, 5, 41, 42, 43] ?_
    refine st_ ?_
    refine cut_tail 2 (fun s' => ∃ (k : Nat) (ds : List Nat) (G' : Hp), k ≤ F.b.length ∧ Le G8 G' ∧ (turn = 0 → (k : Int) = min (F.b.length : Int) (max 1 many)) ∧ (turn = 1 → k = F.b.length) ∧
      s' = ⟨[(6, .p 1 bm 0), (8, .p 3 br 0), (15, .p 41 bw 0), (18, .v (.func (.func pf) #[] pcap.toArray)), (19, .p 42 b9 0), (20, .p 43 b10 0)],
        [(1, bm, .c 3 [.v (.int .i64 many)]), (3, br, .c 4 [.v (.bool false)]), (5, 0, dzO ds), (41, bw, .c 45 [.v (.int .i64 F.st), .v (.slice t1 F.l.length w1), .v (.slice t2 F.b.length w2), .v (.slice t3 F.c.length w3), .v (.int .i64 F.cl.f), .v (.slice t4 F.cl.a.length w4)]), (42, b9, .c 3 [.v (.int .i64 turn)]), (43, b10, .c 3 [.v (.int .i64 k)])], G', ds.map mkD⟩) ?_ ?_
    · rintro s' ⟨k, ds, G5, hkL, hle5, hm0, hm1, rfl⟩
      simp only [List.drop_succ_cons, List.drop_zero]
      refine rn_ ?_; intros
      rcases (show turn = 0 ∨ turn = 1 by omega) with rfl | rfl
      · repeat (first | (refine go_gsplit rfl rfl (fun hc => absurd hc (by first | decide +kernel | (simp; first | done | fail))) (fun _ => ?_); refine st_ ?_; (refine rn_ ?_; intros)) | (refine go_gsplit rfl rfl (fun _ => ?_) (fun hc => absurd hc (by first | decide +kernel | (simp; first | done | fail))); refine st_ ?_; (refine rn_ ?_; intros)) | (refine x_split rfl rfl rfl (fun hc => absurd hc (by first | decide +kernel | (simp; first | done | fail))) (fun _ => ?_); refine st_ ?_; (refine ru_ ?_; intros)) | (refine x_split rfl rfl rfl (fun _ => ?_) (fun hc => absurd hc (by first | decide +kernel | (simp; first | done | fail))); refine st_ ?_; (refine ru_ ?_; intros)))
        refine go_slot 149 (.b false) rfl (by
          have := hm0 rfl
          simp only [SV.den]; congr 1
          symm
          rw [bne_eq_false_iff_eq]
          repeat' split
          all_goals omega) ?_
        refine rn_ ?_; intros
        repeat (first | (refine go_gsplit rfl rfl (fun hc => absurd hc (by first | decide +kernel | (simp; first | done | fail))) (fun _ => ?_); refine st_ ?_; (refine rn_ ?_; intros)) | (refine go_gsplit rfl rfl (fun _ => ?_) (fun hc => absurd hc (by first | decide +kernel | (simp; first | done | fail))); refine st_ ?_; (refine rn_ ?_; intros)) | (refine x_split rfl rfl rfl (fun hc => absurd hc (by first | decide +kernel | (simp; first | done | fail))) (fun _ => ?_); refine st_ ?_; (refine ru_ ?_; intros)) | (refine x_split rfl rfl rfl (fun _ => ?_) (fun hc => absurd hc (by first | decide +kernel | (simp; first | done | fail))); refine st_ ?_; (refine ru_ ?_; intros)))
        rename_i b9'
        refine go_keep [6, 8, 15, 18, 19] [1, 3, 5, 41, 44] ?_
        refine st_ ?_
        refine go_rekey 44 42 rfl rfl (by omega) (by omega) ?_
        refine go_slot 19 (.p 42 b9' 0) rfl rfl ?_
        rw [wr (n := ((0 : Nat) : Int) + 1) (by omega) (by omega)]
        simp only [stk, rmk]
        refine st_ ?_
        exact ih (2 - (0 + 1)) _ (by omega) ⟨0 + 1, b9', ds, G5, by omega, rfl, hle5, rfl⟩
      · repeat (first | (refine go_gsplit rfl rfl (fun hc => absurd hc (by first | decide +kernel | (simp; first | done | fail))) (fun _ => ?_); refine st_ ?_; (refine rn_ ?_; intros)) | (refine go_gsplit rfl rfl (fun _ => ?_) (fun hc => absurd hc (by first | decide +kernel | (simp; first | done | fail))); refine st_ ?_; (refine rn_ ?_; intros)) | (refine x_split rfl rfl rfl (fun hc => absurd hc (by first | decide +kernel | (simp; first | done | fail))) (fun _ => ?_); refine st_ ?_; (refine ru_ ?_; intros)) | (refine x_split rfl rfl rfl (fun _ => ?_) (fun hc => absurd hc (by first | decide +kernel | (simp; first | done | fail))); refine st_ ?_; (refine ru_ ?_; intros)))
        refine go_slot 159 (.b false) rfl (by have := hm1 rfl; subst this; simp [SV.den]) ?_
        refine rn_ ?_; intros
        rename_i b9'
        refine go_keep [6, 8, 15, 18, 19] [1, 3, 5, 41, 44] ?_
        refine st_ ?_
        refine go_rekey 44 42 rfl rfl (by omega) (by omega) ?_
        refine go_slot 19 (.p 42 b9' 0) rfl rfl ?_
        rw [wr (n := ((1 : Nat) : Int) + 1) (by omega) (by omega)]
        simp only [stk, rmk]
        refine st_ ?_
        exact ih (2 - (1 + 1)) _ (by omega) ⟨1 + 1, b9', ds, G5, by omega, rfl, hle5, rfl⟩
    · intro key
      simp only [List.drop_succ_cons, List.drop_zero] at key
      refine x_range 5 rfl rfl (ps := #[106, 107]) rfl hro hmh rfl rfl (by rw [hP]; exact hpc) (by rw [hnt]; decide) (by rw [hP]; exact hit8.mono hle4) (encB_mono _) (fun _ _ _ h => by obtain ⟨_, _, _, _, _, rfl, _⟩ := h; rfl)
        (fun i own => (turn = 0 → i = 0 ∨ (i : Int) < many) ∧ own = [(1, bm, .c 3 [.v (.int .i64 many)]), (3, br, .c 4 [.v (.bool false)]), (5, 0, dzO ds), (41, bw, .c 45 [.v (.int .i64 F.st), .v (.slice t1 F.l.length w1), .v (.slice t2 F.b.length w2), .v (.slice t3 F.c.length w3), .v (.int .i64 F.cl.f), .v (.slice t4 F.cl.a.length w4)]), (42, b9, .c 3 [.v (.int .i64 turn)]), (43, b10, .c 3 [.v (.int .i64 i)])])
        (fun c own => ∃ i : Nat, c = .exit 4 ∧ turn = 0 ∧ i < F.b.length ∧ (i = 0 ∨ (i : Int) < many) ∧ many ≤ i + 1 ∧ own = [(1, bm, .c 3 [.v (.int .i64 many)]), (3, br, .c 4 [.v (.bool false)]), (5, 0, dzO ds), (41, bw, .c 45 [.v (.int .i64 F.st), .v (.slice t1 F.l.length w1), .v (.slice t2 F.b.length w2), .v (.slice t3 F.c.length w3), .v (.int .i64 F.cl.f), .v (.slice t4 F.cl.a.length w4)]), (42, b9, .c 3 [.v (.int .i64 turn)]), (43, b10, .c 3 [.v (.int .i64 ((i : Int) + 1))])])
        (fun i own h => by obtain ⟨_, rfl⟩ := h; exact ⟨keys_lt rfl, (by repeat (first | exact plain_nil | refine plain_cons (fun _ h => h) ?_)), rfl⟩) (fun _ _ h => by obtain ⟨i, _, _, _, _, _, rfl⟩ := h; exact ⟨(by repeat (first | exact plain_nil | refine plain_cons (fun _ h => h) ?_)), rfl⟩) ⟨fun _ => .inl rfl, rfl⟩ ?_ ?_ ?_
      · rintro C' C0 i own vs G5 lp D r hiN ⟨hi0, rfl⟩ (hle5 : Le G4 G5) ⟨z, s1, s2, s3, hLi, rfl, hrz⟩ hR
        obtain ⟨p1, r1, rfl⟩ := VT.repC_slice hrz.v
        obtain ⟨p2, r2, rfl⟩ := Rp.S_slice hrz.w
        obtain ⟨p3, r3, rfl⟩ := Rp.S_slice hrz.c
        simp only [bsL]
        have hnt2 := hR.nt.trans hnt; have hty2 := hR.ty.trans hty; have hP2 := hR.P.trans hP; clear hQ hQp hnt hty hP hmh hmb hro; have hnt := hnt2; have hty := hty2; have hP := hP2; have hmh := hR.mh; have hQp := hR.qp; simp only [putsS, List.toList_toArray]; refine st_ ?_
        refine rn_ ?_; intros
        refine go_br rfl hR.ready ?_
        refine st_ ?_
        have hzL : z = F.b[i] := by rw [List.getElem?_eq_getElem hiN] at hLi; exact (Option.some.inj hLi).symm
        subst hzL
        have hle85 := hle4.trans hle5
        have hbsi := bsE_refl (hbs _ (List.getElem_mem hiN))
        obtain ⟨bq, offq, s4, s5, s6, rfl, haty, hry⟩ := rB_at (Rp.S_mono hle85 hwB) (i := i) hiN
        obtain ⟨p4, r4, rfl⟩ := VT.repC_slice hry.v
        obtain ⟨p5, r5, rfl⟩ := Rp.S_slice hry.w
        obtain ⟨p6, r6, rfl⟩ := Rp.S_slice hry.c
        simp only [bsL] at haty
        refine rn_ ?_; intros
        refine x_draw rfl (by rw [hP]; kernel_rfl) rfl (by kernel_rfl) ?_
        refine runq 400 hty hnt ?_; refine st_ ?_
        (refine go_qsplit rfl rfl (fun hc => absurd hc (by simp)) (fun _ => ?_); refine st_ ?_; (try (refine runq 400 hty hnt ?_; refine st_ ?_)))
        (refine go_qsplit rfl rfl (fun hc => absurd hc (by simp; omega)) (fun _ => ?_); refine st_ ?_; (try (refine runq 400 hty hnt ?_; refine st_ ?_)))
        refine q_q (v := .pointer (some ⟨bq, offq + i * 7, none⟩)) (by rw [hnt]; rfl) ((quiet_index (by rw [hty]; rfl) (by rw [hty]; rfl) rfl rfl rfl (by omega) (by omega)).cast rfl) ?_
        refine runq 400 hty hnt ?_; refine st_ ?_
        refine q_q (v := .agg #[.int .i64 F.b[i].k, .int .i64 F.b[i].n, .int .i64 F.b[i].v.k, .int .i64 F.b[i].v.n, .slice p4 F.b[i].v.l.length r4, .slice p5 F.b[i].w.length r5, .slice p6 F.b[i].c.length r6]) (by rw [hnt]; rfl) ((quiet_load (by rw [hty]; rfl) rfl (fun q => by cases q) haty rfl).cast (by simp only [ldV]; rfl)) ?_
        refine runq 400 hty hnt ?_; refine st_ ?_
        refine q_callf (v := .bool true) (by rw [hnt]; rfl) (by rw [hP]; kernel_rfl) rfl (hP ▸ (sameBase_ok F.b[i] F.b[i] _ _ _ _ _ _ G5 hrz hry).val (by rw [hbsi])) ?_
        refine runq 400 hty hnt ?_; refine st_ ?_
        refine q_end ?_; refine rn_ ?_; intros
        (try ((refine x_split rfl rfl rfl (fun hc => absurd hc (by first | decide +kernel | (simp; first | done | fail))) (fun _ => ?_); refine st_ ?_; (refine ru_ ?_; intros))))
        refine go_drop 1000 ?_
        refine st_ ?_
        rw [wr (n := (i : Int) + 1) (by omega) (by omega)]
        refine go_gsplit rfl rfl (fun ht => ?_) (fun ht => ?_) <;> (refine st_ ?_; (refine rn_ ?_; intros))
        · have ht0 : turn = 0 := by simp at ht; exact ht
          refine x_if rfl rfl rfl rfl (fun hmany => ?_) (fun hmany => ?_)
          · simp at hmany
            refine x_rexit rfl rfl rfl hR rfl rfl ?_
            simp only [rmk, reduceIte, Nat.reduceEqDiff]
            exact ⟨i, rfl, ht0, hiN, hi0 ht0, by omega, rfl⟩
          · simp at hmany
            refine x_skip rfl ?_
            refine go_blk ?_
            refine go_rend hR rfl rfl ?_
            simp only [rmk, reduceIte, Nat.reduceEqDiff]
            exact ⟨fun _ => .inr (by omega), rfl⟩
        · have ht0 : turn ≠ 0 := by simp at ht; exact ht
          refine go_rend hR rfl rfl ?_
          simp only [rmk, reduceIte, Nat.reduceEqDiff]
          exact ⟨fun h => absurd h ht0, rfl⟩
      · rintro D own G5 ⟨hi0, rfl⟩ (hle5 : Le G4 G5)
        refine st_ ?_
        refine go_blk ?_
        refine go_keep [6, 8, 15, 18, 19, 20] [1, 3, 5, 41, 42, 43] ?_
        refine st_ ?_
        exact key _ ⟨F.b.length, D :: ds, G5, Nat.le_refl _, hle4.trans hle5, fun h => by rcases hi0 h with h | h <;> omega, fun _ => rfl, rfl⟩
      · rintro D c own G5 ⟨i, rfl, ht0, hiN, hi1, hi2, rfl⟩ (hle5 : Le G4 G5)
        refine st_ ?_
        refine x_exit rfl rfl rfl ?_
        refine go_keep [6, 8, 15, 18, 19, 20] [1, 3, 5, 41, 42, 43] ?_
        refine st_ ?_
        exact key _ ⟨i + 1, D :: ds, G5, hiN, hle4.trans hle5, fun h => by omega, fun h => by omega, rfl⟩
  · clear ih
    refine rn_ ?_; intros
    refine go_callf (by rw [hnt]; rfl) (by rw [hP]; kernel_rfl) rfl (hP ▸ works_ok G4 (hB.mono (hle08.trans hle4))) ?_; refine rn_ ?_; intros
    refine x_retM 5 rfl hQ hmb rfl rfl rfl (by rw [hty]; simp only [so, sq, zy, zz, tyE, SO', SQ', opQ, opStore, opAlloc, ev, putS, dOk, cv, SV.cs, SV.one, SV.bool?, eqB, Value.oneCell', ldOwn, binInt, binConst, binBool, binStr, isC, TK.agg, rv, rv1, ldV, resOne, resV, Nat.reduceAdd, Nat.reduceMul, Nat.reduceSub, Nat.reduceLT, Nat.reduceLeDiff, Nat.reduceEqDiff, Nat.reduceBEq, reduceIte, reduceCtorEq, eq_self]; try rfl) ?_; simp only [SV.den, resV, dens]
end Go.Proofs.YthocgjchmpkhoaaDoor
namespace Go.Proofs.YthocgjchmpkhoaaDoor
set_option linter.unusedSimpArgs false
set_option linter.unusedVariables false
open Go.Sx

def hp (w : World) : Hp := fun b => w.heap[b]?
theorem has_hp (w : World) : Has w (hp w) := fun _ _ h => h

section
variable {H : Type}
set_option maxRecDepth 20000
theorem at_of_cells {w : World} {b off : Nat} {cs : List Value} (h0 : 0 < cs.length) (h : ∀ i, i < cs.length → w.cell? ⟨b, off + i, none⟩ = cs[i]?) : At (hp w) b off cs := by
  have h1 := h 0 h0
  rw [List.getElem?_eq_getElem h0] at h1
  unfold World.cell? at h1 h
  cases hb : w.heap[b]? with
  | none => simp [hb] at h1
  | some o =>
    cases o with
    | cells arr e fz =>
      simp only [hb, Option.isSome_none, Bool.false_eq_true, if_false] at h
      refine ⟨arr, e, fz, hb, ?_, fun i hi => h i hi⟩
      have := h (cs.length - 1) (by omega)
      rw [List.getElem?_eq_getElem (show cs.length - 1 < cs.length by omega)] at this
      obtain ⟨hlt, _⟩ := Array.getElem?_eq_some_iff.1 this
      omega
    | _ => simp [hb] at h1

variable {enc : TypeId × Value → H}
theorem cells3 : Tryd.prog.cellsOf 25 = 3 := by kernel_rfl
theorem wf_i64 {n : Int} (h : (Lit.int .i64 n).wf = true) : isI64 n := by
  simpa [Lit.wf, IntKind.min, IntKind.max, IntKind.signed, IntKind.bits, isI64] using h

end
end Go.Proofs.YthocgjchmpkhoaaDoor
namespace Go.Sx
set_option linter.unusedSimpArgs false
set_option linter.unusedVariables false
open Go.RowKit

def hp (w : World) : Hp := fun b => w.heap[b]?
theorem has_hp (w : World) : Has w (hp w) := fun _ _ h => h
theorem at_of_cells {w : World} {b off : Nat} {cs : List Value} (h0 : 0 < cs.length) (h : ∀ i, i < cs.length → w.cell? ⟨b, off + i, none⟩ = cs[i]?) : At (hp w) b off cs := by
  have h1 := h 0 h0
  rw [List.getElem?_eq_getElem h0] at h1
  unfold World.cell? at h1 h
  cases hb : w.heap[b]? with
  | none => simp [hb] at h1
  | some o =>
    cases o with
    | cells arr e fz =>
      simp only [hb, Option.isSome_none, Bool.false_eq_true, if_false] at h
      refine ⟨arr, e, fz, hb, ?_, fun i hi => h i hi⟩
      have := h (cs.length - 1) (by omega)
      rw [List.getElem?_eq_getElem (show cs.length - 1 < cs.length by omega)] at this
      obtain ⟨hlt, _⟩ := Array.getElem?_eq_some_iff.1 this
      omega
    | _ => simp [hb] at h1
theorem wf_i64 {n : Int} (h : (Lit.int .i64 n).wf = true) : isI64 n := by
  simpa [Lit.wf, IntKind.min, IntKind.max, IntKind.signed, IntKind.bits, isI64] using h
theorem gatherL {α : Type} {r : Rp α} {w : World} {b : Nat} : ∀ (n off : Nat),
    (∀ i, i < n → ∃ x cs', r.e (hp w) x cs' ∧ ∀ j, j < r.size → w.cell? ⟨b, off + i * r.size + j, none⟩ = cs'[j]?) →
    ∃ (l : List α) (cs : List Value), l.length = n ∧ r.L (hp w) l cs ∧ ∀ i, i < cs.length → w.cell? ⟨b, off + i, none⟩ = cs[i]?
  | 0, off, _ => ⟨[], [], rfl, rfl, by simp⟩
  | n + 1, off, h => by
    obtain ⟨x, c0, hx, h0⟩ := h 0 (by omega)
    obtain ⟨l, cs, hl, hL, hcs⟩ := gatherL (r := r) (w := w) (b := b) n (off + r.size) (fun i hi => by
      obtain ⟨x, c, hx, hc⟩ := h (i + 1) (by omega)
      refine ⟨x, c, hx, fun j hj => ?_⟩
      rw [← hc j hj]
      congr 2
      rw [Nat.succ_mul]; omega)
    have hlen := r.len hx
    refine ⟨x :: l, c0 ++ cs, by simp [hl], ⟨c0, cs, rfl, hx, hL⟩, fun i hi => ?_⟩
    rcases Nat.lt_or_ge i r.size with q | q
    · rw [List.getElem?_append_left (by omega)]
      have := h0 i q
      simpa using this
    · rw [List.getElem?_append_right (by omega), ← hcs (i - c0.length) (by simp at hi; omega)]
      congr 2; omega
section
variable {H : Type} {enc : TypeId × Value → H} {P : Program} {w : World}
theorem add_eq (b off j : Nat) : (Addr.mk b off none).add j = ⟨b, off + j, none⟩ := by
  unfold Addr.add
  split
  · subst_vars; rfl
  · rfl
theorem open_int1 {T : TypeId} (hT : P.underlying T = some (.int .i64)) (hc : P.cellsOf T = 1) {n : Nat} {x : DataW H × List MemPlace} {cs : List Value} (h : DataW.trod enc P w 0 (fun _ => true) true n T cs = some x) : ∃ k, cs = [.int .i64 k] ∧ isI64 k := by
  obtain ⟨k, hk, _, hw⟩ := DataW.trod_int hT h
  exact ⟨k, hk, wf_i64 hw⟩
end
end Go.Sx
namespace Go.Proofs.YthocgjchmpkhoaaDoor
set_option linter.unusedSimpArgs false
set_option linter.unusedVariables false
open Go.Sx
set_option maxRecDepth 20000
set_option maxHeartbeats 4000000
section
variable {H : Type} {enc : TypeId × Value → H} {w : World}
theorem bulk_pos : ∀ (d : DataW H), 1 ≤ Rows.uptoBulk d
  | .lit l => by cases l <;> simp [Rows.uptoBulk]
  | .nil => by simp [Rows.uptoBulk]
  | .ptr d => by simp [Rows.uptoBulk]
  | .slice e s => by simp [Rows.uptoBulk]
  | .agg p => by simp [Rows.uptoBulk]
  | .iface _ d => by simp [Rows.uptoBulk]
  | .map e => by simp [Rows.uptoBulk]
  | .held _ => by simp [Rows.uptoBulk]
theorem bulk_len : ∀ (L : List (DataW H)), L.length ≤ Rows.uptoBulkAll L
  | [] => by simp
  | d :: L => by
    have h1 := bulk_pos d
    have h2 := bulk_len L
    simp only [List.length_cons, Rows.uptoBulkAll]; omega
theorem bulk_memJ {d : DataW H} : ∀ {L : List (DataW H)}, d ∈ L → Rows.uptoBulk d ≤ Rows.uptoBulkAll L
  | x :: r, h => by
    simp only [Rows.uptoBulkAll]
    rcases List.mem_cons.1 h with rfl | h
    · omega
    · have := bulk_memJ h; omega
theorem gatherC {w : World} {b : Nat} : ∀ (ds : List (DataW H)) (off : Nat),
    (∀ i (h : i < ds.length), ∃ t sl, w.cell? ⟨b, off + i * 3, none⟩ = some (.int .i64 (VT.k t)) ∧ w.cell? ⟨b, off + i * 3 + 1, none⟩ = some (.int .i64 t.n) ∧ w.cell? ⟨b, off + i * 3 + 2, none⟩ = some sl ∧ t.repC (hp w) sl ∧ tsz t ≤ Rows.uptoBulk ds[i]) →
    ∃ (l : List VT) (cs : List Value), l.length = ds.length ∧ repVC (hp w) l cs ∧ (∀ i, i < cs.length → w.cell? ⟨b, off + i, none⟩ = cs[i]?) ∧ tszL l ≤ Rows.uptoBulkAll ds
  | [], _, _ => ⟨[], [], rfl, by simp [repVC], by simp, by simp [tszL, Rows.uptoBulkAll]⟩
  | d :: ds, off, h => by
    obtain ⟨t, sl, h0, h1, h2, hr, hb⟩ := h 0 (by simp)
    obtain ⟨l, cs, hl, hrV, hcs, hbs⟩ := gatherC ds (off + 3) (fun i hi => by
      obtain ⟨t, sl, h0, h1, h2, hr, hb⟩ := h (i + 1) (by simpa using hi)
      have e : off + (i + 1) * 3 = off + 3 + i * 3 := by omega
      rw [e] at h0 h1 h2
      exact ⟨t, sl, h0, h1, h2, hr, by simpa using hb⟩)
    refine ⟨t :: l, .int .i64 t.k :: .int .i64 t.n :: sl :: cs, by simp [hl], ?_, ?_, ?_⟩
    · simp only [repVC]
      exact ⟨sl, cs, rfl, hr, hrV⟩
    · intro i hi
      match i, hi with
      | 0, _ => simpa using h0
      | 1, _ => simpa using h1
      | 2, _ => simpa using h2
      | i + 3, hi =>
        have := hcs i (by simpa using hi)
        rw [show off + (i + 3) = off + 3 + i by omega, this]
        simp
    · simp only [tszL, Rows.uptoBulkAll]
      simp only [List.getElem_cons_zero] at hb
      omega
theorem open_valC : ∀ (N n : Nat) (d : DataW H) (ps : List MemPlace) (cs : List Value), Rows.uptoBulk d ≤ N → DataW.trod enc Tryd.prog w 0 (fun _ => true) true n 25 cs = some (d, ps) →
    ∃ (t : VT) (sl : Value), cs = [.int .i64 t.k, .int .i64 t.n, sl] ∧ t.repC (hp w) sl ∧ tsz t ≤ Rows.uptoBulk d := by
  intro N
  induction N with
  | zero =>
    intro n d ps cs hb h
    obtain ⟨y0, y1, y2, m, hx, _⟩ := Deep.trod_struct3 Tryd.underlying25 h
    cases hx
    simp [Rows.uptoBulk] at hb
  | succ N ih =>
    intro n d ps cs hb h
    obtain ⟨y0, y1, y2, m, hx, hlen, h0, h1, h2⟩ := Deep.trod_struct3 Tryd.underlying25 h
    cases hx
    rw [cells3] at hlen
    match cs, hlen with
    | [c0, c1, c2], _ =>
    have e1 : Tryd.prog.cellsOf 22 = 1 := by kernel_rfl
    have e2 : Tryd.prog.cellsOf 2 = 1 := by kernel_rfl
    have e3 : Tryd.prog.cellsOf 23 = 1 := by kernel_rfl
    simp only [e1, e2, e3, List.drop_zero, List.drop_succ_cons, List.take_succ_cons, List.take_zero] at h0 h1 h2
    obtain ⟨k, hk, hy0, hwk⟩ := DataW.trod_int Tryd.underlying22 h0
    obtain ⟨nn, hn, hy1, hwn⟩ := DataW.trod_int Tryd.underlying2 h1
    cases hk
    cases hn
    subst hy0 hy1
    have hs := Deep.open_slice Tryd.underlying23 h2
    rcases hs with ⟨hc, hy⟩ | ⟨a, len, cap, mm, n', D, Pl, hc, _, hle, hcap, hmm, hy, hel⟩
    · cases hc
      subst hy
      refine ⟨.mk k nn [], _, rfl, ?_, by simp [tsz, tszL, Rows.uptoBulk, Rows.uptoBulkAll]⟩
      rw [repC_iff]
      exact ⟨wf_i64 hwk, wf_i64 hwn, by simp, none, 0, rfl, by simp, .inl rfl⟩
    · cases hc
      subst hy
      simp only [if_true] at hmm
      subst hmm
      simp only [Rows.uptoBulk, Rows.uptoBulkAll] at hb ⊢
      have hml : len ≤ 9223372036854775807 := Nat.le_trans (Nat.le_trans hle hcap) (by decide)
      by_cases hz : len = 0
      · subst hz
        refine ⟨.mk k nn [], _, rfl, ?_, by simp only [tsz, tszL]; omega⟩
        rw [repC_iff]
        exact ⟨wf_i64 hwk, wf_i64 hwn, by simp, _, _, rfl, by simp, .inl rfl⟩
      · have hel0 := hel 0 (by omega)
        obtain ⟨b, off, spot⟩ := a
        have hspot : spot = none := by
          obtain ⟨cs', q1, _⟩ := hel0
          rw [cells3] at q1
          obtain ⟨_, q2, q3⟩ := World.cells?_some q1
          have q4 := q3 0 (by omega)
          rw [List.getElem?_eq_getElem (by omega)] at q4
          simpa [Addr.add] using World.cell?_spot q4
        subst hspot
        have key := gatherC (w := w) (b := b) ((List.range len).map D) off (fun i hi => by
          have hi' : i < len := by simpa using hi
          obtain ⟨cs', q1, q2⟩ := hel i (by omega)
          rw [cells3] at q1
          have hmem : D i ∈ (List.range len).map D := List.mem_map.2 ⟨i, by simpa using hi', rfl⟩
          have hbi := bulk_memJ hmem
          obtain ⟨t, sl, rfl, hr, hbt⟩ := ih n' (D i) (Pl i) cs' (by omega) q2
          obtain ⟨_, _, q3⟩ := World.cells?_some q1
          have a0 := q3 0 (by omega)
          have a1 := q3 1 (by omega)
          have a2 := q3 2 (by omega)
          rw [Deep.add_add] at a0 a1 a2
          have ea : ∀ j, (Addr.mk b off none).add j = ⟨b, off + j, none⟩ := by
            intro j
            unfold Addr.add
            split
            · subst_vars; rfl
            · rfl
          rw [ea] at a0 a1 a2
          refine ⟨t, sl, by simpa using a0, by simpa [Nat.add_assoc] using a1, by simpa [Nat.add_assoc] using a2, hr, by simpa using hbt⟩)
        obtain ⟨l, cs, hl, hrV, hcs, hbs⟩ := key
        have hll : l.length = len := by simpa using hl
        have hcl := repVC_len hrV
        refine ⟨.mk k nn l, .slice (some ⟨b, off, none⟩) len _, rfl, ?_, ?_⟩
        · rw [repC_iff]
          exact ⟨wf_i64 hwk, wf_i64 hwn, by omega, _, _, by rw [hll], by rw [hll]; exact hle, .inr ⟨_, _, _, rfl, Go.Proofs.YthocgjchmpkhoaaDoor.at_of_cells (by omega) hcs, hrV⟩⟩
        · simp only [tsz]
          omega
theorem open_listL {α : Type} (r : Rp α) {t e : TypeId} {B : Nat} (ht : Tryd.prog.underlying t = some (.slice e)) (hsz : Tryd.prog.cellsOf e = r.size) (hpos : 0 < r.size)
    (hel : ∀ n d ps cs, DataW.trod enc Tryd.prog w 0 (fun _ => true) true n e cs = some (d, ps) → cs.length = r.size → Rows.uptoBulk d ≤ B → ∃ x, r.e (Go.Sx.hp w) x cs)
    {n : Nat} {d : DataW H} {ps : List MemPlace} {cs : List Value} (hB : Rows.uptoBulk d ≤ B) (h : DataW.trod enc Tryd.prog w 0 (fun _ => true) true n t cs = some (d, ps)) : ∃ (sl : Value) (l : List α), cs = [sl] ∧ r.S (Go.Sx.hp w) l sl ∧ l.length ≤ B := by
  have hs := Deep.open_slice ht h
  rcases hs with ⟨hc, hy⟩ | ⟨a, len, cap, mm, n', D, Pl, hc, _, hle, hcap, hmm, hy, hel2⟩
  · exact ⟨_, [], hc, Rp.S_nil _ _, by simp⟩
  · simp only [if_true] at hmm
    subst hmm
    obtain ⟨rfl, _⟩ := Prod.mk.inj hy
    have hml : len ≤ 9223372036854775807 := Nat.le_trans (Nat.le_trans hle hcap) (by decide)
    by_cases hz : len = 0
    · subst hz
      exact ⟨_, [], hc, Rp.S_nil _ _, by simp⟩
    · obtain ⟨b, off, spot⟩ := a
      rw [hsz] at hel2
      have hspot : spot = none := by
        obtain ⟨cs', q1, _⟩ := hel2 0 (by omega)
        obtain ⟨_, q2, q3⟩ := World.cells?_some q1
        have q4 := q3 0 (by omega)
        rw [List.getElem?_eq_getElem (by omega)] at q4
        simpa [Addr.add] using World.cell?_spot q4
      subst hspot
      obtain ⟨l, cs2, hl, hL, hcs⟩ := gatherL (r := r) (w := w) (b := b) len off (fun i hi => by
        obtain ⟨cs', q1, q2⟩ := hel2 i (by omega)
        obtain ⟨_, q3, q4⟩ := World.cells?_some q1
        have hmem : D i ∈ (List.range len).map D := List.mem_map.2 ⟨i, by simpa using hi, rfl⟩
        have hbi := bulk_memJ hmem
        simp only [Rows.uptoBulk] at hB
        obtain ⟨x, hx⟩ := hel _ _ _ _ q2 (by omega) (by omega)
        refine ⟨x, cs', hx, fun j hj => ?_⟩
        have := q4 j (by omega)
        rw [Deep.add_add, add_eq] at this
        rw [← this, Nat.add_assoc])
      have hlen := Rp.L_len hL
      have hcl : 0 < cs2.length := by rw [hlen, hl]; exact Nat.mul_pos (by omega) hpos
      refine ⟨_, l, hc, ⟨by rw [hl]; exact hml, _, _, by rw [hl], .inr ⟨_, _, _, rfl, Go.Sx.at_of_cells hcl hcs, hL⟩⟩, ?_⟩
      have hb := bulk_len ((List.range len).map D)
      simp only [Rows.uptoBulk, List.length_map, List.length_range] at hB hb
      omega
theorem open_act {n : Nat} {d : DataW H} {ps : List MemPlace} {cs : List Value} (hB : Rows.uptoBulk d ≤ 1048576) (h : DataW.trod enc Tryd.prog w 0 (fun _ => true) true n 28 cs = some (d, ps)) : ∃ (x : Ac) (sv : Value), cs = acL x sv ∧ x.rep (Go.Sx.hp w) sv := by
  obtain ⟨y0, y1, y2, m, hx, hlen, h0, h1, h2⟩ := Deep.trod_struct3 Tryd.underlying28 h
  cases hx
  rw [show Tryd.prog.cellsOf 28 = 5 by kernel_rfl] at hlen
  match cs, hlen with
  | [c0, c1, c2, c3, c4], _ =>
  have e1 : Tryd.prog.cellsOf 3 = 1 := by kernel_rfl
  simp only [e1, cells3, List.drop_zero, List.drop_succ_cons, List.take_succ_cons, List.take_zero] at h0 h1 h2
  simp only [Rows.uptoBulk, Rows.uptoBulkAll] at hB
  obtain ⟨k, hk, wk⟩ := open_int1 Tryd.underlying3 e1 h0
  obtain ⟨m, hm, wm⟩ := open_int1 Tryd.underlying3 e1 h1
  obtain ⟨t, sl, hs, hr, hb⟩ := open_valC _ _ _ _ _ (Nat.le_refl _) h2
  cases hk; cases hm; cases hs
  exact ⟨⟨k, m, t⟩, _, rfl, ⟨wk, wm, hr, by show tsz t ≤ _; omega⟩⟩
theorem open_acts {n : Nat} {d : DataW H} {ps : List MemPlace} {cs : List Value} (hB : Rows.uptoBulk d ≤ 1048576) (h : DataW.trod enc Tryd.prog w 0 (fun _ => true) true n 26 cs = some (d, ps)) : ∃ (sl : Value) (l : List Ac), cs = [sl] ∧ rA.S (Go.Sx.hp w) l sl ∧ l.length ≤ 1048576 :=
  open_listL rA Tryd.underlying26 (by kernel_rfl) (by decide) (fun n d ps cs h _ hb => by obtain ⟨x, sv, h1, h2⟩ := open_act hb h; exact ⟨x, sv, h1, h2⟩) hB h
end
end Go.Proofs.YthocgjchmpkhoaaDoor
namespace Go.Proofs.YthocgjchmpkhoaaDoor
set_option linter.unusedSimpArgs false
set_option linter.unusedVariables false
open Go.ChangeShapes Go.WideShapes Go.ChangeAt Go.RowKit

theorem own : ownKnob Tryd.prog.godebug = none := by kernel_rfl
theorem laidOut : laidOutB Tryd.prog = true := by kernel_rfl

theorem post_below {H : Type} {enc : TypeId × Value → H} {P : Program} {f : Func} {s : ChangeSpec} {fresh handsOn again : Bool} {W W' : World} {args : Array Value} {v : Value} {ds : List (DataW H)} {pa : List MemPlace}
    (hvs : s.vars = []) (hfn : (s.fn H (ds ++ [])).vars = []) (hW : DataW.Whole enc P f.params.toList s.vars false W args.toList ds [] pa)
    (hres : ∀ (b : Nat) (sp : Nat → Bool) (hd : Bool), DataW.TrodAll enc P W' b sp hd f.resultTypes.toList (v.resultList f.resultTypes.size) (s.fn H (ds ++ [])).results [])
    (hargs : ∀ sp : Nat → Bool, (∀ p ∈ pa, sp p.block = true) → DataW.TrodAll enc P W' 0 sp true f.params.toList args.toList (s.fn H (ds ++ [])).args pa)
    (hb : Below W.heap.size W W')
    (hok : ∀ (j : Nat) (t : TypeId) (r : Value), f.resultTypes[j]? = some t → (v.resultList f.resultTypes.size)[j]? = some r → Value.okWide P W' .any 0 t r) :
    s.post enc P f false fresh handsOn again W args v W' := by
  have hlt := hW.lt
  have hvars : ∀ sp : Nat → Bool, DataW.TrodVars enc P W' sp s.vars (s.fn H (ds ++ [])).vars [] := fun sp => by rw [hvs, hfn]; rfl
  have hz := hW
  obtain ⟨_, _, _, _, _, hfrozen, _⟩ := hz
  refine ⟨ds, [], pa, [], pa, [], hW, hres _ _ _, hargs _ (fun p hp => by simpa using hlt p hp), hvars _, World.keptBut_mono (fun p hp => ⟨hp, Or.inr (by simpa using hp)⟩) (hb.frame (· ∈ pa)), fun _ => ?_⟩
  refine ⟨hok, _, _, ([] ++ pa) ++ [], ⟨[] ++ pa, [], trodAll_append (hargs _ (fun _ _ => rfl)) (hres _ _ _), hvars _, rfl, fun b off hp => ?_, by simp⟩, fun p hp _ => by simpa using hp⟩
  · have hp' : MemPlace.cell b off ∈ pa := by simpa using hp
    rw [hb.frozen (hlt _ hp')]
    exact hfrozen b off hp'
end Go.Proofs.YthocgjchmpkhoaaDoor
namespace Go.Proofs.YthocgjchmpkhoaaDoor.forceAll
set_option linter.unusedSimpArgs false
set_option linter.unusedVariables false
open Go.ChangeShapes Go.WideShapes Go.ChangeAt Go.RowKit

theorem gTab : Tryd.prog.globalNamed "betrothal/force.bounds" = some 0 := by kernel_rfl
theorem gTabType : (Tryd.prog.globals[0]?).map (·.type) = some 111 := by kernel_rfl
theorem cellsT : Tryd.prog.cellsOf 111 = 3 := by kernel_rfl
theorem cellsE : Tryd.prog.cellsOf 3 = 1 := by kernel_rfl
theorem table {W : World} (h : laidMetH Tryd.prog Rows.forceAllUptoRow.laid W) : Lib.TabIs Tryd.prog W "betrothal/force.bounds" .i64 [32, 32, 32] :=
  Lib.tabIs_of_head (rest := []) gTab gTabType Tryd.underlying111 Tryd.underlying3 cellsE cellsT h
theorem bounds_at {W : World} (h : laidMetH Tryd.prog Rows.forceAllUptoRow.laid W) : Go.Sx.At (hp W) 0 0 bdsL := by
  have c0 : W.cell? ⟨0, 0, none⟩ = some (.int .i64 32) := (table h).cell gTab 0 (by decide)
  have c1 : W.cell? ⟨0, 1, none⟩ = some (.int .i64 32) := (table h).cell gTab 1 (by decide)
  have c2 : W.cell? ⟨0, 2, none⟩ = some (.int .i64 32) := (table h).cell gTab 2 (by decide)
  refine at_of_cells (by decide) fun i hi => ?_
  have hi : i < 3 := hi
  rcases i with _ | _ | _ | i
  · exact c0
  · exact c1
  · exact c2
  · omega
set_option maxRecDepth 100000
theorem contract (H : Type) (enc : TypeId × Value → H) (W : World) (base : Nat) (args : Array Value) (ds gs : List (DataW H)) (before : List MemPlace)
    (hval : ∀ (j : Nat) t v, Tryd.f3.params[j]? = some t → args[j]? = some v → Value.okWide Tryd.prog W .any base t v)
    (hW : DataW.Whole enc Tryd.prog Tryd.f3.params.toList Rows.forceAllSpec.vars false W args.toList ds gs before) (hk : Rows.uptoSmall H (ds ++ gs) = true) (hL : laidMetH Tryd.prog Rows.forceAllUptoRow.laid W) :
    Calls Tryd.prog 3 args W fun e W' => ∃ v, e = .returned v ∧ Rows.forceAllSpec.post enc Tryd.prog Tryd.f3 false true false false W args v W' := by
  have hB := bounds_at hL
  have hW' := hW
  obtain ⟨p, q, hA0, hV, rfl, hfz, hnd⟩ := hW
  have hA : DataW.TrodAll enc Tryd.prog W 0 (fun _ => true) true Tryd.f3.params.toList args.toList ds p := hA0
  rw [Tryd.params3] at hA hval
  obtain ⟨v0, vs0, d0, ds0, p0, q0, hargs, rfl, rfl, h0, r0⟩ := trodAll_cons hA
  obtain ⟨v1, vs1, d1, ds1, p1, q1, rfl, rfl, rfl, h1, r1⟩ := trodAll_cons r0
  obtain ⟨v2, vs2, d2, ds2, p2, q2, rfl, rfl, rfl, h2, r2⟩ := trodAll_cons r1
  obtain ⟨v3, vs3, d3, ds3, p3, q3, rfl, rfl, rfl, h3, r3⟩ := trodAll_cons r2
  obtain ⟨rfl, rfl, rfl⟩ := trodAll_nil r3
  obtain rfl : args = #[v0, v1, v2, v3] := by cases args; simp_all
  obtain ⟨rfl, rfl⟩ := trodVars_none hV
  clear hA0
  obtain ⟨a2, rfl, rfl, rfl, w2⟩ := open_int Tryd.underlying3 (hval 2 3 v2 rfl rfl) h2
  simp only [List.append_nil, List.nil_append] at hW' hk
  have hbulk : Rows.uptoBulkAll [d0, d1, _, d3] ≤ 1048576 := of_decide_eq_true hk
  simp only [Rows.uptoBulkAll, Rows.uptoBulk, Nat.add_zero] at hbulk
  have h0k := h0
  obtain ⟨n0, hf0⟩ := h0
  obtain ⟨cs0, rfl, hsz0⟩ := okWide_struct Tryd.underlying25 (hval 0 25 v0 rfl rfl)
  obtain ⟨t0, sl0, hcs0, hr0, htb0⟩ := open_valC (w := W) _ n0 d0 p0 _ (Nat.le_refl _) hf0
  have hcs0' : cs0 = #[.int .i64 t0.k, .int .i64 t0.n, sl0] := by
    apply Array.ext'
    simpa [Value.cells] using hcs0
  subst hcs0'
  have h1k := h1
  obtain ⟨n1, hf1⟩ := h1
  obtain ⟨ad1, len1, cap1, rfl⟩ := okWide_slice Tryd.underlying26 (hval 1 26 v1 rfl rfl)
  obtain ⟨ns1, f1, hcs1, hr1, hl1⟩ := open_acts (w := W) (by omega) hf1
  obtain rfl : (Value.slice ad1 len1 cap1) = ns1 := by simpa [Value.cells] using hcs1
  have h3k := h3
  obtain ⟨n3, hf3⟩ := h3
  obtain ⟨cs3, rfl, hsz3⟩ := okWide_struct Tryd.underlying28 (hval 3 28 v3 rfl rfl)
  obtain ⟨t3, sv3, hcs3, hr3⟩ := open_act (w := W) (by omega) hf3
  have hcs3' : cs3 = (acL t3 sv3).toArray := by
    apply Array.ext'
    simpa [Value.cells] using hcs3
  subst hcs3'
  have hlt0 : ∀ x ∈ p0, x.block < W.heap.size := fun x hx => by simpa using hW'.lt x (by simp [hx])
  have hlt1 : ∀ x ∈ p1, x.block < W.heap.size := fun x hx => by simpa using hW'.lt x (by simp [hx])
  have hlt3 : ∀ x ∈ p3, x.block < W.heap.size := fun x hx => by simpa using hW'.lt x (by simp [hx])
  refine (forceAll_ok t0 f1 a2 t3 sl0 _ sv3 (hp W) hB hr0 (by omega) hr1 (by omega) hr3 (wf_i64 w2) W (has_hp W)).mono ?_
  rintro e W' ⟨v, G', rfl, hg, rfl⟩
  have hb := hg.below
  exact ⟨_, rfl, post_below rfl rfl hW' (fun _ _ _ => (trodAll_cons_mk (shut_bool Tryd.underlying4 _) trodAll_mk0))
    (fun sp hsp => by have this := (trodAll_cons_mk (WideElems.Trod_stays laidOut (by kernel_rfl) (of_decide_eq_true (by kernel_rfl)) h0k (fun x hx => hb.same (hlt0 x hx)) (fun x hx => hsp x (by simp [hx]))) (trodAll_cons_mk (WideElems.Trod_stays laidOut (by kernel_rfl) (of_decide_eq_true (by kernel_rfl)) h1k (fun x hx => hb.same (hlt1 x hx)) (fun x hx => hsp x (by simp [hx]))) (trodAll_cons_mk (shut_int Tryd.underlying3 w2) (trodAll_cons_mk (WideElems.Trod_stays laidOut (by kernel_rfl) (of_decide_eq_true (by kernel_rfl)) h3k (fun x hx => hb.same (hlt3 x hx)) (fun x hx => hsp x (by simp [hx]))) trodAll_mk0)))); simp only [List.append_nil, List.nil_append] at this; exact this)
    hb (ok_one (by kernel_rfl) rfl (okWide_bool_mk Tryd.underlying4 _))⟩

noncomputable def laidWorld (os : Os) : World :=
  { World.holding Tryd.prog os ⟨#[], #[], []⟩ with heap := (World.holding Tryd.prog os ⟨#[], #[], []⟩).heap.modify 0 fun
      | .cells _ t frozen => .cells #[.int .i64 32, .int .i64 32, .int .i64 32] t frozen
      | o => o }
def wArgs : Array Value := #[.agg #[.int .i64 0, .int .i64 0, .slice none 0 0], .slice none 0 0, .int .i64 0, .agg #[.int .i64 0, .int .i64 0, .int .i64 0, .int .i64 0, .slice none 0 0]]
theorem laid_met (os : Os) : laidMet Tryd.prog Rows.forceAllUptoRow.laid ((laidWorld os).forCall (fun _ _ => 0) ⟨#[], wArgs, []⟩).memory :=
  laidMet_of_run' 8 (by kernel_rfl) (by kernel_rfl)
theorem reads (os : Os) {H : Type} (enc : TypeId × Value → H) : ∃ places, DataW.whole enc Tryd.prog ((laidWorld os).forCall (fun _ _ => 0) ⟨#[], wArgs, []⟩).memory Tryd.f3.params.toList Rows.forceAllSpec.vars false wArgs.toList 8 = some ([.agg [.lit (.int .i64 0), .lit (.int .i64 0), .nil], .nil, .lit (.int .i64 0), .agg [.lit (.int .i64 0), .lit (.int .i64 0), .agg [.lit (.int .i64 0), .lit (.int .i64 0), .nil]]], [], places) :=
  ⟨[], by kernel_rfl⟩

set_option maxRecDepth 100000 in
theorem lifted (os : Os) (started : os.Started) (H : Type) (enc : TypeId × Value → H) (F : Stop.Interp) :
    ReturnsInHanded {} Tryd.checked os 3 .any ((Rows.OpenSpec.upto Rows.forceAllSpec).preRow enc Tryd.prog Tryd.f3 Rows.forceAllUptoRow.domain false Rows.forceAllUptoRow.laid) (((Rows.OpenSpec.upto Rows.forceAllSpec).at F).post enc Tryd.prog Tryd.f3 false true false false) := by
  obtain ⟨places, hx⟩ := reads os enc
  refine returnsInHanded_of_row (C := Tryd.checked) (s := Rows.OpenSpec.upto Rows.forceAllSpec) own started (by kernel_rfl) Tryd.func3
    (witness_row_at (enc := enc) (C := Tryd.checked) false (laidWorld os) wArgs rfl (by kernel_rfl) (by kernel_rfl) (by kernel_rfl)
      (OpenSpec.preRow_of_cond 8 hx (by kernel_rfl) (fun k hk => by cases hk; kernel_rfl) (by kernel_rfl) (laid_met os))) ?_
  intro W base args ds gs before hval hW _ hcond _ hL _ _
  exact contract H enc W base args ds gs before hval hW (hcond _ rfl) hL

theorem saidUpto : Rows.ForceAllUptoSaid :=
  OpenClaim.holds_of_cond 3 Tryd.f3 rfl rfl rfl rfl rfl rfl rfl ⟨rfl, rfl, rfl, rfl, rfl⟩ rfl rfl rfl rfl rfl (by kernel_rfl) Tryd.func3 (by kernel_rfl)
    (of_decide_eq_true (by kernel_rfl)) (by unfold Func.isWrapper; first | (rw [if_pos (by decide +kernel)]; kernel_rfl) | (rw [if_neg (by decide +kernel)]; exact ⟨rfl, rfl⟩))
    (fun os started H enc _ F => by rw [OpenClaim.pre_eq_preRow]; exact lifted os started H enc F)

theorem plain (f : FuncId) (fn : Func) (hf : Tryd.pinned.checked.prog.funcNamed "betrothal/betrothallaw11.ForceAll" = some f) (hfn : Tryd.pinned.checked.prog.funcs[f]? = some fn) :
    true = Tryd.pinned.checked.prog.looks [] ∧ ∀ (j : Nat) t, fn.params[j]? = some t → Tryd.pinned.checked.prog.wantsStandIn t = false := by
  obtain rfl : f = 3 := Option.some.inj ((show Tryd.prog.funcNamed "betrothal/betrothallaw11.ForceAll" = some 3 by kernel_rfl).symm.trans hf) |>.symm
  obtain rfl : fn = Tryd.f3 := (Option.some.inj (Tryd.func3.symm.trans hfn)).symm
  refine ⟨by kernel_rfl, fun j t ht => ?_⟩
  rw [Tryd.params3] at ht
  have hm : t ∈ [25, 26, 3, 28] := by simpa using Array.mem_of_getElem? ht
  have hall : ([25, 26, 3, 28].all fun u => !Tryd.prog.wantsStandIn u) = true := by kernel_rfl
  exact (show Tryd.prog.wantsStandIn t = false by simpa using List.all_eq_true.1 hall t hm)

theorem proved : Rows.ForceAllUptoCardSaid :=
  Claim7.holds_tied_plain_at .later [] _ _ _ _ saidUpto (fun _ h => by cases h) (by kernel_rfl) (fun _ h => by cases h) forceAllUpto_row_tie rfl ⟨rfl, rfl⟩ (by kernel_rfl) rfl plain (by kernel_rfl)
end Go.Proofs.YthocgjchmpkhoaaDoor.forceAll
