/-
  Layer 10's reference: ready; down.
-/
import Derived.Test.YtpppkednpamhbaaGreatZ4
set_option linter.unusedSimpArgs false
set_option linter.unusedVariables false
namespace Go.Proofs.YtpppkednpamhbaaGreat.R
set_option linter.unusedSimpArgs false
set_option linter.unusedVariables false
open Go.Sx
set_option maxHeartbeats 16000000
set_option maxRecDepth 20000
def rfO (G : Hp) (ps : Value) (st : Int) (val : VT) (l : List Fm) (v : Value) : Prop := ∃ lsl vl, v = fibV ps lsl st val.k val.n vl ∧ fmS G l lsl ∧ val.rep G vl ∧ tsz val ≤ 1000
theorem rfO.mono {G G' : Hp} {ps : Value} {st : Int} {val : VT} {l : List Fm} {v : Value} (h : rfO G ps st val l v) (hl : Le G G') : rfO G' ps st val l v := by
  obtain ⟨lsl, vl, h1, h2, h3, h4⟩ := h
  exact ⟨lsl, vl, h1, h2.mono hl, VT.rep_mono hl h3, h4⟩
theorem vt0_rep (G : Hp) : vt0.rep G (.slice none 0 0) := ⟨by simp [isI64], by simp [isI64], by simp, none, 0, rfl, .inl rfl⟩
theorem rfO_wrong (G : Hp) (ps : Value) : rfO G ps 4 vt0 [] (fibV ps (.slice none 0 0) 4 0 0 (.slice none 0 0)) := ⟨_, _, rfl, ⟨Rp.S_nil none 0, fun _ _ _ e => by cases e; simp⟩, vt0_rep G, by simp [vt0, tsz, tszL]⟩
theorem rready_ok (ps : Value) (st : Int) (p : Pr) (m : Fm) (l : List Fm) (nd : Nd) (v0 : Value) (o : Int × List Fm) (G : Hp) (hp : rF.S G p ps) (h0 : rfO G ps st vt0 (m :: l) v0) (hnd : ndAt p m.fn m.nd = some nd) (hlm : l.length ≤ 300) (ho : readyF nd m l = some o) :
    Pure Tryz.prog 71 [v0] G (fun v G' => rfO G' ps o.1 vt0 o.2 v) := by
  obtain ⟨lsl, vl, rfl, hL, hvl, _⟩ := h0
  obtain ⟨vA, vC, rfl⟩ := VT.rep_slice hvl
  obtain ⟨pA, pC, rfl⟩ := Rp.S_slice hp
  obtain ⟨aL, cL, rfl⟩ := Rp.S_slice hL.1
  have hlast := rlast_ok (.slice pA p.length pC) (.slice aL (m :: l).reverse.length cL) (.slice vA vt0.l.length vC) st vt0.k vt0.n p m l nd G hp hL.1 ⟨_, _, _, rfl⟩ hnd hlm
  unfold readyF at ho
  refine enterX ty tyok Tryz.func71 rfl Tryz.ntmps71 [.a [.v (.slice pA p.length pC), .v (.slice aL (m :: l).reverse.length cL), .v (.int .i64 st), .v (.int .i64 vt0.k), .v (.int .i64 vt0.n), .v (.slice vA vt0.l.length vC)]] (by simp) ?_
  intro C hP hQ hnt hty hmb hmh hro; have hQp := qp_body hQ; refine st_ ?_
  refine rn_ ?_; intros
  refine go_call (by rw [hnt]; rfl) (by rw [hP]; kernel_rfl) rfl (hP ▸ hlast) ?_
  rintro _ G1 (hle1 : Le G G1) ⟨av, cw, ad, cd, an, cn, rfl, hsv, hsd, hrI, g1, g2, i1, i2⟩
  refine rn_ ?_; intros
  refine x_split rfl rfl rfl (fun h14 => ?_) (fun h14 => ?_) <;> (refine st_ ?_; (refine ru_ ?_; intros))
  · have hop : nd.op = 14 := by simpa using h14
    simp only [hop, Int.reduceEq, if_false, or_true, if_true] at ho
    injection ho with ho
    subst ho
    refine rn_ ?_; intros
    refine xc_ hQ hmb ?_; simp only [SV.den, resV, dens]
    exact ⟨_, _, rfl, hL.mono hle1, VT.rep_mono hle1 hvl, by simp [vt0, tsz, tszL]⟩
  have h14 : ¬ nd.op = 14 := by simpa using h14
  refine rn_ ?_; intros
  refine x_split rfl rfl rfl (fun h15 => ?_) (fun h15 => ?_) <;> (refine st_ ?_; (refine ru_ ?_; intros))
  · have hop : nd.op = 15 := by simpa using h15
    simp only [hop, Int.reduceEq, if_false, true_or, if_true] at ho
    injection ho with ho
    subst ho
    refine rn_ ?_; intros
    refine xc_ hQ hmb ?_; simp only [SV.den, resV, dens]
    exact ⟨_, _, rfl, hL.mono hle1, VT.rep_mono hle1 hvl, by simp [vt0, tsz, tszL]⟩
  have h15 : ¬ nd.op = 15 := by simpa using h15
  refine rn_ ?_; intros
  refine x_split rfl rfl rfl (fun h24 => ?_) (fun h24 => ?_) <;> (refine st_ ?_; (refine ru_ ?_; intros))
  · have hop : nd.op = 24 := by simpa using h24
    rw [if_pos hop] at ho
    cases hdd : m.done with
    | nil => rw [hdd] at ho; cases ho
    | cons y t =>
    rw [hdd] at ho
    simp only [] at ho
    rw [hdd] at hsd
    obtain ⟨bD, oD, s0, rfl, hat0, hr0, ht0⟩ := rW_at hsd (i := 0) (by simp)
    simp only [List.getElem_cons_zero] at hat0 hr0 ht0
    obtain ⟨a8, c8, rfl⟩ := VT.rep_slice hr0
    refine rn_ ?_; intros
    refine go_q (v := .pointer (some ⟨bD, oD + 0 * 3, none⟩)) (by rw [hnt]; rfl) ((quiet_index (by rw [hty]; rfl) (by rw [hty]; rfl) rfl rfl rfl (by omega) (by simp)).cast (by rfl)) ?_
    refine rn_ ?_; intros
    refine go_q (v := .agg #[.int .i64 y.k, .int .i64 y.n, .slice a8 y.l.length c8]) (by rw [hnt]; rfl) ((quiet_load (by rw [hty]; rfl) rfl (by simp [TK.agg]) hat0 rfl).cast (by rfl)) ?_
    refine rn_ ?_; intros
    refine go_callf (by rw [hnt]; rfl) (by rw [hP]; kernel_rfl) rfl (hP ▸ refIsEvent_ok y _ G1 hr0 (by omega)) ?_; refine rn_ ?_; intros
    cases hev : (vld y && evk y.k) with
    | true =>
      rw [hev, if_pos rfl] at ho
      injection ho with ho
      subst ho
      (refine x_split rfl rfl rfl (fun hc => absurd hc (by first | decide +kernel | (simp; first | done | fail))) (fun _ => ?_); refine st_ ?_; (refine ru_ ?_; intros))
      refine rn_ ?_; intros
      refine xc_ hQ hmb ?_; simp only [SV.den, resV, dens]
      exact ⟨_, _, rfl, hL.mono hle1, VT.rep_mono hle1 hvl, by simp [vt0, tsz, tszL]⟩
    | false =>
      rw [hev, if_neg (by decide)] at ho
      injection ho with ho
      subst ho
      (refine x_split rfl rfl rfl (fun _ => ?_) (fun hc => absurd hc (by first | decide +kernel | (simp; first | done | fail))); refine st_ ?_; (refine ru_ ?_; intros))
      refine rn_ ?_; intros
      refine go_callf (by rw [hnt]; rfl) (by rw [hP]; kernel_rfl) rfl (hP ▸ rwrong_ok _ _ _ _ _ _ _ ⟨_, _, _, rfl⟩ ⟨_, _, _, rfl⟩ ⟨_, _, _, rfl⟩) ?_; refine rn_ ?_; intros
      refine rn_ ?_; intros
      refine xc_ hQ hmb ?_; simp only [SV.den, resV, dens]
      exact rfO_wrong _ _
  · have h24 : ¬ nd.op = 24 := by simpa using h24
    rw [if_neg h24, if_neg (by omega)] at ho
    injection ho with ho
    subst ho
    refine rn_ ?_; intros
    refine xc_ hQ hmb ?_; simp only [SV.den, resV, dens]
    exact ⟨_, _, rfl, hL.mono hle1, VT.rep_mono hle1 hvl, by simp [vt0, tsz, tszL]⟩
theorem rmoreO_cases {G : Hp} {ps : Value} {vA : Option Addr} {vC : Nat} {st node : Int} {m : Fm} {l : List Fm} {v : Value} (h : rmoreO G ps (.slice vA 0 vC) st 0 0 node m l v) : ∃ a c1 c2 st' a' b n1, v = .tuple #[.agg #[ps, .slice a n1 c1, .int .i64 st', .int .i64 0, .int .i64 0, .slice a' 0 c2], .bool b] ∧
    ((b = false ∧ 256 ≤ l.length + 1 ∧ st' = 4 ∧ a = none ∧ n1 = 0 ∧ c1 = 0 ∧ a' = none ∧ c2 = 0) ∨ (b = true ∧ ¬ 256 ≤ l.length + 1 ∧ st' = st ∧ a' = vA ∧ c2 = vC ∧ fmS G (⟨m.fn, node, m.vars, []⟩ :: m :: l) (.slice a n1 c1))) := by
  unfold rmoreO at h
  split at h
  · rename_i h2
    exact ⟨none, 0, 0, 4, none, false, 0, h, .inl ⟨rfl, h2, rfl, rfl, rfl, rfl, rfl, rfl⟩⟩
  · rename_i h2
    obtain ⟨lsl, rfl, h3⟩ := h
    obtain ⟨a, c, rfl⟩ := Rp.S_slice h3.1
    exact ⟨a, c, vC, st, vA, true, _, rfl, .inr ⟨rfl, h2, rfl, rfl, rfl, h3⟩⟩
theorem tr_two (v : VT) : (trF v = none ∧ rtwoF v v ≠ 0) ∨ (trF v = some (v.n != 0) ∧ rtwoF v v = 0) := by
  unfold trF rtwoF
  cases vld v with
  | false => exact .inl ⟨rfl, by simp⟩
  | true =>
    cases v.k == 2 with
    | false => exact .inl ⟨rfl, by simp⟩
    | true => exact .inr ⟨rfl, rfl⟩
theorem vx_let {p : Pr} {x : Fm} {nd : Nd} {k : Int} {v : VT} (h : VX p x nd) (h4 : nd.op = 4) (hd : v ∈ x.done) (hk : nd.l[1]? = some k) : ∃ y, VX p ⟨x.fn, k, x.vars ++ [v], []⟩ y := by
  obtain ⟨hpos, hdn, hvv, hvd⟩ := h
  obtain ⟨hlt, y, hy⟩ := hpos.kid hk
  rw [if_pos ⟨h4, rfl⟩] at hy
  refine ⟨y, by simpa using hy, by simp, fun w hw => ?_, by simp⟩
  rcases List.mem_append.1 hw with hw | hw
  · exact hvv w hw
  · simp at hw; subst hw; exact hvd _ hd
theorem vx_kid {p : Pr} {x : Fm} {nd : Nd} {k : Int} {i : Nat} (h : VX p x nd) (hk : nd.l[i]? = some k) (hn : ¬ (nd.op = 4 ∧ i = 1)) : ∃ y, VX p ⟨x.fn, k, x.vars, []⟩ y := by
  obtain ⟨hpos, hdn, hvv, hvd⟩ := h
  obtain ⟨hlt, y, hy⟩ := hpos.kid hk
  rw [if_neg hn] at hy
  exact ⟨y, hy, by simp, hvv, by simp⟩
theorem rdown_ok (ps : Value) (st : Int) (p : Pr) (q : Nat) (m : Fm) (l : List Fm) (nd : Nd) (v0 : Value) (o : Int × List Fm) (G : Hp) (hp : rF.S G p ps) (h0 : rfO G ps st vt0 (m :: l) v0) (hvx : VX p m nd) (hl : l.length ≤ 255) (ho : downF p q (m :: l) = some o) :
    Pure Tryz.prog 39 [v0] G (fun v G' => rfO G' ps o.1 vt0 o.2 v) := by
  obtain ⟨lsl, vl, rfl, hL, hvl, _⟩ := h0
  obtain ⟨vA, vC, rfl⟩ := VT.rep_slice hvl
  obtain ⟨pA, pC, rfl⟩ := Rp.S_slice hp
  obtain ⟨aL, cL, rfl⟩ := Rp.S_slice hL.1
  change Pure _ _ [fibV (.slice pA p.length pC) (.slice aL (m :: l).reverse.length cL) st 0 0 (.slice vA 0 vC)] G _
  change vt0.rep G (.slice vA 0 vC) at hvl
  refine enterX ty tyok Tryz.func39 rfl Tryz.ntmps39 [.a [.v (.slice pA p.length pC), .v (.slice aL (m :: l).reverse.length cL), .v (.int .i64 st), .v (.int .i64 0), .v (.int .i64 0), .v (.slice vA 0 vC)]] (by simp) ?_
  intro C hP hQ hnt hty hmb hmh hro; have hQp := qp_body hQ; refine st_ ?_
  refine rn_ ?_; intros
  rename_i b1 b2
  refine go_keep [1, 2] [0, 1] ?_
  refine st_ ?_
  refine x_loop rfl (fun q' s => ∃ (m : Fm) (l : List Fm) (nd : Nd) (lsl : Value) (vA : Option Addr) (vC : Nat) (G1 : Hp), Le G G1 ∧ VX p m nd ∧ l.length ≤ 255 ∧ downF p q' (m :: l) = some o ∧ fmS G1 (m :: l) lsl ∧ vt0.rep G1 (.slice vA 0 vC) ∧
    s = ⟨[(1, .p 0 b1 0), (2, .p 1 b2 0)], [(0, b1, .c 44 [.v (.slice pA p.length pC), .v lsl, .v (.int .i64 st), .v (.int .i64 0), .v (.int .i64 0), .v (.slice vA 0 vC)]), (1, b2, .c 44 [.v (.slice none 0 0), .v (.slice none 0 0), .v (.int .i64 0), .v (.int .i64 0), .v (.int .i64 0), .v (.slice none 0 0)])], G1, []⟩) ⟨m, l, nd, _, vA, vC, G, Le.refl _, hvx, hl, ho, hL, hvl, rfl⟩ ?_
  clear hvl hL hvx hl ho
  rintro q' s ⟨m, l, nd, lsl, vA, vC, G1, hle1, hvx, hl, ho, hL, hvl, rfl⟩ ih
  cases q' with
  | zero => rw [downF] at ho; cases ho
  | succ q' =>
  obtain ⟨aL, cL, rfl⟩ := Rp.S_slice hL.1
  obtain ⟨B4, B5, B24, B11, B6, B1, B16, bo1, bo2⟩ := ben_len hvx.1.facts.2.1
  have hmany := hvx.2.1
  rw [downF, hvx.1.nd] at ho
  simp only [] at ho
  have hp1 := Rp.S_mono hle1 hp
  refine rn_ ?_; intros
  refine go_call (by rw [hnt]; rfl) (by rw [hP]; kernel_rfl) rfl (hP ▸ rlast_ok _ _ _ st 0 0 p m l nd G1 hp1 hL.1 ⟨_, _, _, rfl⟩ hvx.1.nd (by omega)) ?_
  rintro _ G2 (hle2 : Le G1 G2) ⟨av, cw, ad, cd, an, cn, rfl, hsv, hsd, hrI, g1, g2, i1, i2⟩
  have hle12 := hle1.trans hle2
  have hL2 := hL.mono hle2
  have hvl2 := VT.rep_mono hle2 hvl
  have hp2 := Rp.S_mono hle12 hp
  refine rn_ ?_; intros
  rename_i b3 b4
  refine go_keep [1, 2, 3, 4, 34] [0, 1, 2, 3] ?_
  refine st_ ?_
  refine go_gsplit rfl rfl (fun h4 => ?_) (fun h4 => ?_) <;> (refine st_ ?_; (refine rn_ ?_; intros))
  · have hop : nd.op = 4 := by simpa using h4
    have hl2 := B4 hop
    have hm1 : m.done.length ≤ 1 := by simpa [many, hop] using hmany
    refine x_split rfl rfl rfl (fun h41 => ?_) (fun h41 => ?_) <;> (refine st_ ?_; (refine ru_ ?_; intros))
    · have hd1 : m.done.length = 1 := by simp at h41; omega
      obtain ⟨v, hdd⟩ : ∃ v, m.done = [v] := List.length_eq_one_iff.1 hd1
      obtain ⟨k, hk⟩ : ∃ k, nd.l[1]? = some k := ⟨_, List.getElem?_eq_getElem (by omega)⟩
      rw [if_pos ⟨hop, hd1⟩, hk, hdd] at ho
      simp only [] at ho
      split at ho
      rotate_left
      · cases ho
      rename_i hvars
      obtain ⟨y, hy⟩ := vx_let hvx hop (v := v) (by rw [hdd]; simp) hk
      obtain ⟨bD, oD, s0, rfl, hat0, hr0, ht0⟩ := rW_at hsd (i := 0) (by omega)
      have e0 : m.done[0]'(by omega) = v := by simp [hdd]
      rw [e0] at hat0 hr0 ht0
      obtain ⟨a8, c8, rfl⟩ := VT.rep_slice hr0
      obtain ⟨hki, hk64, bN, oN, cN, eN, hatN⟩ := rI_get hrI hk
      injection eN with e1 e2 e3
      subst e1 e3
      obtain ⟨cs, hcs, hsrc⟩ := Rp.srcS hsv
      have hcl := Rp.L_len hcs
      simp only [rW] at hcl
      refine go_keep [1, 2, 3, 4] [0, 1, 2, 3] ?_
      refine st_ ?_
      refine x_heldP [(0, b1, .c 44 [.v (.slice pA p.length pC), .v (.slice aL (m :: l).reverse.length cL), .v (.int .i64 st), .v (.int .i64 0), .v (.int .i64 0), .v (.slice vA 0 vC)]), (2, b3, .c 96 [.v (.int .i64 m.fn), .v (.int .i64 m.nd), .v (.slice av m.vars.length cw), .v (.slice (some ⟨bD, oD, none⟩) m.done.length cd)]), (3, b4, .c 110 [.v (.int .i64 nd.op), .v (.int .i64 nd.n), .v (.slice (some ⟨bN, oN, none⟩) nd.l.length cn)])] 16 rfl (by rw [hP]; kernel_rfl) rfl rfl rfl ?_; refine st_ ?_
      refine hu_take 0 rfl (by kernel_rfl) (by kernel_rfl) (by kernel_rfl) (by kernel_rfl) rfl (fun c a w v => hQp c a w _ v) (by rw [hnt]; rfl) (allIn (by repeat (first | exact trivial | refine ⟨rfl, ?_⟩))) (by first | exact Le.refl _ | assumption) (quiet_op (by rw [hty]; first | rfl | (refine st_ ?_; rfl))) ?_; refine st_ ?_
      refine hu_take 1 rfl (by kernel_rfl) (by kernel_rfl) (by kernel_rfl) (by kernel_rfl) rfl (fun c a w v => hQp c a w _ v) (by rw [hnt]; rfl) (allIn (by repeat (first | exact trivial | refine ⟨rfl, ?_⟩))) (by first | exact Le.refl _ | assumption) (quiet_op (by rw [hty]; first | rfl | (refine st_ ?_; rfl))) ?_; refine st_ ?_
      refine hu_take 2 rfl (by kernel_rfl) (by kernel_rfl) (by kernel_rfl) (by kernel_rfl) rfl (fun c a w v => hQp c a w _ v) (by rw [hnt]; rfl) (allIn (by repeat (first | exact trivial | refine ⟨rfl, ?_⟩))) (by first | exact Le.refl _ | assumption) (quiet_op (by rw [hty]; first | rfl | (refine st_ ?_; rfl))) ?_; refine st_ ?_
      refine hu_take 3 rfl (by kernel_rfl) (by kernel_rfl) (by kernel_rfl) (by kernel_rfl) rfl (fun c a w v => hQp c a w _ v) (by rw [hnt]; rfl) (allIn (by repeat (first | exact trivial | refine ⟨rfl, ?_⟩))) (by first | exact Le.refl _ | assumption) (x := .v (.pointer (some ⟨bN, oN + 1 * 1, none⟩))) ((quiet_index (by rw [hty]; rfl) (by rw [hty]; rfl) rfl rfl rfl (by omega) (by omega)).cast (by simp [SV.den])) ?_
      refine st_ ?_
      refine hu_take 4 rfl (by kernel_rfl) (by kernel_rfl) (by kernel_rfl) (by kernel_rfl) rfl (fun c a w v => hQp c a w _ v) (by rw [hnt]; rfl) (allIn (by repeat (first | exact trivial | refine ⟨rfl, ?_⟩))) (by first | exact Le.refl _ | assumption) (x := .v (.int .i64 k)) ((quiet_load (by rw [hty]; rfl) rfl (by simp [TK.agg]) hatN rfl).cast (by rfl)) ?_
      refine st_ ?_
      refine hu_take 6 rfl (by kernel_rfl) (by kernel_rfl) (by kernel_rfl) (by kernel_rfl) rfl (fun c a w v => hQp c a w _ v) (by rw [hnt]; rfl) (allIn (by repeat (first | exact trivial | refine ⟨rfl, ?_⟩))) (by first | exact Le.refl _ | assumption) (quiet_op (by rw [hty]; first | rfl | (refine st_ ?_; rfl))) ?_; refine st_ ?_
      refine hu_take 7 rfl (by kernel_rfl) (by kernel_rfl) (by kernel_rfl) (by kernel_rfl) rfl (fun c a w v => hQp c a w _ v) (by rw [hnt]; rfl) (allIn (by repeat (first | exact trivial | refine ⟨rfl, ?_⟩))) (by first | exact Le.refl _ | assumption) (quiet_op (by rw [hty]; first | rfl | (refine st_ ?_; rfl))) ?_; refine st_ ?_
      refine hu_take 9 rfl (by kernel_rfl) (by kernel_rfl) (by kernel_rfl) (by kernel_rfl) rfl (fun c a w v => hQp c a w _ v) (by rw [hnt]; rfl) (allIn (by repeat (first | exact trivial | refine ⟨rfl, ?_⟩))) (by first | exact Le.refl _ | assumption) (quiet_op (by rw [hty]; first | rfl | (refine st_ ?_; rfl))) ?_; refine st_ ?_
      refine hu_take 10 rfl (by kernel_rfl) (by kernel_rfl) (by kernel_rfl) (by kernel_rfl) rfl (fun c a w v => hQp c a w _ v) (by rw [hnt]; rfl) (allIn (by repeat (first | exact trivial | refine ⟨rfl, ?_⟩))) (by first | exact Le.refl _ | assumption) (quiet_op (by rw [hty]; first | rfl | (refine st_ ?_; rfl))) ?_; refine st_ ?_
      refine hu_take 11 rfl (by kernel_rfl) (by kernel_rfl) (by kernel_rfl) (by kernel_rfl) rfl (fun c a w v => hQp c a w _ v) (by rw [hnt]; rfl) (allIn (by repeat (first | exact trivial | refine ⟨rfl, ?_⟩))) (by first | exact Le.refl _ | assumption) (x := .v (.pointer (some ⟨bD, oD + 0 * 3, none⟩))) ((quiet_index (by rw [hty]; rfl) (by rw [hty]; rfl) rfl rfl rfl (by omega) (by omega)).cast (by rfl)) ?_
      refine st_ ?_
      refine hu_take 12 rfl (by kernel_rfl) (by kernel_rfl) (by kernel_rfl) (by kernel_rfl) rfl (fun c a w v => hQp c a w _ v) (by rw [hnt]; rfl) (allIn (by repeat (first | exact trivial | refine ⟨rfl, ?_⟩))) (by first | exact Le.refl _ | assumption) (x := .a [.v (.int .i64 v.k), .v (.int .i64 v.n), .v (.slice a8 v.l.length c8)]) ((quiet_load (by rw [hty]; rfl) rfl (by simp [TK.agg]) hat0 rfl).cast (by rfl)) ?_
      refine st_ ?_
      refine hu_two 5 13 rfl rfl (by kernel_rfl) ?_ ?_
      · refine rn_ ?_; intros
        refine hs_ ?_
        refine hu_two 8 13 rfl rfl (by kernel_rfl) ?_ ?_
        · refine go_torowN 4 (n := 0) (size := 3) rfl rfl (by omega) ?_
          refine go_append_any 4 (by rw [hnt]; rfl) (by rw [hty]; rfl) (by rw [hty]; rfl) (by decide) rfl rfl rfl (by rw [hmh]; omega) rfl (hsrc.imp id fun f => f _ _ rfl) (by simp only []; omega) (Rp.L_one hcs) (by omega) (by simp only []; omega) ?_
          intro v6
          refine go_rowS 4 rfl ?_
          rintro ad6 cap6 rfl
          refine rn_ ?_; intros
          refine hs_ ?_
          refine hu_one 13 rfl (by kernel_rfl) ?_
          refine rn_ ?_; intros
          refine hs_ ?_
          refine hu_one 14 rfl (by kernel_rfl) ?_
          refine go_append 4 (by rw [hnt]; rfl) (by rw [hty]; rfl) (by rw [hty]; rfl) (by decide) rfl rfl rfl (by rw [hmh]; omega) rfl (src_own 3 rfl rfl) rfl (by simp [dens, SV.den, Value.oneCell']) (by omega) (by simp only []; omega) ?_
          intro v7
          refine go_rowS 4 rfl ?_
          rintro ad7 cap7 rfl
          refine rn_ ?_; intros
          refine hs_ ?_
          refine go_pubL rW 4 rfl (by rw [hmh]; omega) (ts := m.vars ++ [v]) (by simp) (by omega) (Rp.L_append hcs (Rp.L_single ⟨_, rfl, hr0, ht0⟩)) ?_
          intro G5 ad8 cap8 (hle5 : Le G2 G5) e8 hS8
          injection e8 with q1 q2 q3
          subst q1 q3
          refine hu_one 15 rfl (by kernel_rfl) ?_
          refine go_call (by rw [hnt]; rfl) (by rw [hP]; kernel_rfl) rfl (hP ▸ rmoves_ok _ _ _ st 0 0 k p m l nd (m.vars ++ [v]) _ G5 (Rp.S_mono hle5 hp2) (Rp.S_mono hle5 hL2.1) ⟨_, _, _, rfl⟩ hvx.1.nd (by omega) (by simpa [SV.den] using hS8) hk64) ?_
          rintro _ G6 (hle6 : Le G5 G6) ⟨lsl', rfl, hS2⟩
          have hle26 := hle5.trans hle6
          obtain ⟨a5, c5, rfl⟩ := Rp.S_slice hS2.1
          simp only [fibV]
          refine rn_ ?_; intros
          refine hs_ ?_
          refine hu_last 16 [] rfl (by kernel_rfl) rfl ?_
          refine rn_ ?_; intros
          refine h_end (by kernel_rfl) ?_
          refine rn_ ?_; intros
          refine go_keep [1, 2] [0, 1] ?_
          refine st_ ?_
          exact ih q' _ (by omega) ⟨⟨m.fn, k, m.vars ++ [v], []⟩, l, y, _, _, _, G6, hle12.trans (hle5.trans hle6), hy, hl, ho, hS2, VT.rep_mono (hle5.trans hle6) hvl2, rfl⟩
        · refine rn_ ?_; intros
          refine hs_ ?_
          refine hu_one 8 rfl (by kernel_rfl) ?_
          refine go_torowN 4 (n := 0) (size := 3) rfl rfl (by omega) ?_
          refine go_append_any 4 (by rw [hnt]; rfl) (by rw [hty]; rfl) (by rw [hty]; rfl) (by decide) rfl rfl rfl (by rw [hmh]; omega) rfl (hsrc.imp id fun f => f _ _ rfl) (by simp only []; omega) (Rp.L_one hcs) (by omega) (by simp only []; omega) ?_
          intro v6
          refine go_rowS 4 rfl ?_
          rintro ad6 cap6 rfl
          refine rn_ ?_; intros
          refine hs_ ?_
          refine hu_one 14 rfl (by kernel_rfl) ?_
          refine go_append 4 (by rw [hnt]; rfl) (by rw [hty]; rfl) (by rw [hty]; rfl) (by decide) rfl rfl rfl (by rw [hmh]; omega) rfl (src_own 3 rfl rfl) rfl (by simp [dens, SV.den, Value.oneCell']) (by omega) (by simp only []; omega) ?_
          intro v7
          refine go_rowS 4 rfl ?_
          rintro ad7 cap7 rfl
          refine rn_ ?_; intros
          refine hs_ ?_
          refine go_pubL rW 4 rfl (by rw [hmh]; omega) (ts := m.vars ++ [v]) (by simp) (by omega) (Rp.L_append hcs (Rp.L_single ⟨_, rfl, hr0, ht0⟩)) ?_
          intro G5 ad8 cap8 (hle5 : Le G2 G5) e8 hS8
          injection e8 with q1 q2 q3
          subst q1 q3
          refine hu_one 15 rfl (by kernel_rfl) ?_
          refine go_call (by rw [hnt]; rfl) (by rw [hP]; kernel_rfl) rfl (hP ▸ rmoves_ok _ _ _ st 0 0 k p m l nd (m.vars ++ [v]) _ G5 (Rp.S_mono hle5 hp2) (Rp.S_mono hle5 hL2.1) ⟨_, _, _, rfl⟩ hvx.1.nd (by omega) (by simpa [SV.den] using hS8) hk64) ?_
          rintro _ G6 (hle6 : Le G5 G6) ⟨lsl', rfl, hS2⟩
          have hle26 := hle5.trans hle6
          obtain ⟨a5, c5, rfl⟩ := Rp.S_slice hS2.1
          simp only [fibV]
          refine rn_ ?_; intros
          refine hs_ ?_
          refine hu_last 16 [] rfl (by kernel_rfl) rfl ?_
          refine rn_ ?_; intros
          refine h_end (by kernel_rfl) ?_
          refine rn_ ?_; intros
          refine go_keep [1, 2] [0, 1] ?_
          refine st_ ?_
          exact ih q' _ (by omega) ⟨⟨m.fn, k, m.vars ++ [v], []⟩, l, y, _, _, _, G6, hle12.trans (hle5.trans hle6), hy, hl, ho, hS2, VT.rep_mono (hle5.trans hle6) hvl2, rfl⟩
      · refine rn_ ?_; intros
        refine hs_ ?_
        refine hu_one 5 rfl (by kernel_rfl) ?_
        refine rn_ ?_; intros
        refine hs_ ?_
        refine hu_one 8 rfl (by kernel_rfl) ?_
        refine go_torowN 5 (n := 0) (size := 3) rfl rfl (by omega) ?_
        refine go_append_any 5 (by rw [hnt]; rfl) (by rw [hty]; rfl) (by rw [hty]; rfl) (by decide) rfl rfl rfl (by rw [hmh]; omega) rfl (hsrc.imp id fun f => f _ _ rfl) (by simp only []; omega) (Rp.L_one hcs) (by omega) (by simp only []; omega) ?_
        intro v6
        refine go_rowS 5 rfl ?_
        rintro ad6 cap6 rfl
        refine rn_ ?_; intros
        refine hs_ ?_
        refine hu_one 14 rfl (by kernel_rfl) ?_
        refine go_append 5 (by rw [hnt]; rfl) (by rw [hty]; rfl) (by rw [hty]; rfl) (by decide) rfl rfl rfl (by rw [hmh]; omega) rfl (src_own 3 rfl rfl) rfl (by simp [dens, SV.den, Value.oneCell']) (by omega) (by simp only []; omega) ?_
        intro v7
        refine go_rowS 5 rfl ?_
        rintro ad7 cap7 rfl
        refine rn_ ?_; intros
        refine hs_ ?_
        refine go_pubL rW 5 rfl (by rw [hmh]; omega) (ts := m.vars ++ [v]) (by simp) (by omega) (Rp.L_append hcs (Rp.L_single ⟨_, rfl, hr0, ht0⟩)) ?_
        intro G5 ad8 cap8 (hle5 : Le G2 G5) e8 hS8
        injection e8 with q1 q2 q3
        subst q1 q3
        refine hu_one 15 rfl (by kernel_rfl) ?_
        refine go_call (by rw [hnt]; rfl) (by rw [hP]; kernel_rfl) rfl (hP ▸ rmoves_ok _ _ _ st 0 0 k p m l nd (m.vars ++ [v]) _ G5 (Rp.S_mono hle5 hp2) (Rp.S_mono hle5 hL2.1) ⟨_, _, _, rfl⟩ hvx.1.nd (by omega) (by simpa [SV.den] using hS8) hk64) ?_
        rintro _ G6 (hle6 : Le G5 G6) ⟨lsl', rfl, hS2⟩
        have hle26 := hle5.trans hle6
        obtain ⟨a5, c5, rfl⟩ := Rp.S_slice hS2.1
        simp only [fibV]
        refine rn_ ?_; intros
        refine hs_ ?_
        refine hu_last 16 [] rfl (by kernel_rfl) rfl ?_
        refine rn_ ?_; intros
        refine h_end (by kernel_rfl) ?_
        refine rn_ ?_; intros
        refine go_keep [1, 2] [0, 1] ?_
        refine st_ ?_
        exact ih q' _ (by omega) ⟨⟨m.fn, k, m.vars ++ [v], []⟩, l, y, _, _, _, G6, hle12.trans (hle5.trans hle6), hy, hl, ho, hS2, VT.rep_mono (hle5.trans hle6) hvl2, rfl⟩
    · have hd0 : m.done.length = 0 := by simp at h41; omega
      rw [if_neg (by omega), if_neg (by omega), if_neg (by omega)] at ho
      refine rn_ ?_; intros
      (refine go_gsplit rfl rfl (fun hc => absurd hc (by simp [hop])) (fun _ => ?_); refine st_ ?_; (refine rn_ ?_; intros))
      (refine go_gsplit rfl rfl (fun hc => absurd hc (by simp [hop])) (fun _ => ?_); refine st_ ?_; (refine rn_ ?_; intros))
      have hlt2 : m.done.length < nd.l.length := by omega
      have hn : ¬ (nd.op = 4 ∧ m.done.length = 1) := by omega
      refine go_keep [1, 2, 3, 4] [0, 1, 2, 3] ?_
      refine st_ ?_
      obtain ⟨k, hk⟩ : ∃ k, nd.l[m.done.length]? = some k := ⟨_, List.getElem?_eq_getElem hlt2⟩
      obtain ⟨hki, hk64, bN, oN, cN, eN, hatN⟩ := rI_get hrI hk
      injection eN with e1 e2 e3
      subst e1 e3
      rw [hk] at ho
      simp only [] at ho
      refine x_heldP [(0, b1, .c 44 [.v (.slice pA p.length pC), .v (.slice aL (m :: l).reverse.length cL), .v (.int .i64 st), .v (.int .i64 0), .v (.int .i64 0), .v (.slice vA 0 vC)]), (2, b3, .c 96 [.v (.int .i64 m.fn), .v (.int .i64 m.nd), .v (.slice av m.vars.length cw), .v (.slice ad m.done.length cd)]), (3, b4, .c 110 [.v (.int .i64 nd.op), .v (.int .i64 nd.n), .v (.slice (some ⟨bN, oN, none⟩) nd.l.length cn)])] 13 rfl (by rw [hP]; kernel_rfl) rfl rfl rfl ?_; refine st_ ?_
      refine hu_take 0 rfl (by kernel_rfl) (by kernel_rfl) (by kernel_rfl) (by kernel_rfl) rfl (fun c a w v => hQp c a w _ v) (by rw [hnt]; rfl) (allIn (by repeat (first | exact trivial | refine ⟨rfl, ?_⟩))) (by first | exact Le.refl _ | assumption) (quiet_op (by rw [hty]; first | rfl | (refine st_ ?_; rfl))) ?_; refine st_ ?_
      refine hu_take 1 rfl (by kernel_rfl) (by kernel_rfl) (by kernel_rfl) (by kernel_rfl) rfl (fun c a w v => hQp c a w _ v) (by rw [hnt]; rfl) (allIn (by repeat (first | exact trivial | refine ⟨rfl, ?_⟩))) (by first | exact Le.refl _ | assumption) (quiet_op (by rw [hty]; first | rfl | (refine st_ ?_; rfl))) ?_; refine st_ ?_
      refine hu_take 2 rfl (by kernel_rfl) (by kernel_rfl) (by kernel_rfl) (by kernel_rfl) rfl (fun c a w v => hQp c a w _ v) (by rw [hnt]; rfl) (allIn (by repeat (first | exact trivial | refine ⟨rfl, ?_⟩))) (by first | exact Le.refl _ | assumption) (quiet_op (by rw [hty]; first | rfl | (refine st_ ?_; rfl))) ?_; refine st_ ?_
      refine hu_take 3 rfl (by kernel_rfl) (by kernel_rfl) (by kernel_rfl) (by kernel_rfl) rfl (fun c a w v => hQp c a w _ v) (by rw [hnt]; rfl) (allIn (by repeat (first | exact trivial | refine ⟨rfl, ?_⟩))) (by first | exact Le.refl _ | assumption) (quiet_op (by rw [hty]; first | rfl | (refine st_ ?_; rfl))) ?_; refine st_ ?_
      refine hu_take 4 rfl (by kernel_rfl) (by kernel_rfl) (by kernel_rfl) (by kernel_rfl) rfl (fun c a w v => hQp c a w _ v) (by rw [hnt]; rfl) (allIn (by repeat (first | exact trivial | refine ⟨rfl, ?_⟩))) (by first | exact Le.refl _ | assumption) (quiet_op (by rw [hty]; first | rfl | (refine st_ ?_; rfl))) ?_; refine st_ ?_
      refine hu_take 5 rfl (by kernel_rfl) (by kernel_rfl) (by kernel_rfl) (by kernel_rfl) rfl (fun c a w v => hQp c a w _ v) (by rw [hnt]; rfl) (allIn (by repeat (first | exact trivial | refine ⟨rfl, ?_⟩))) (by first | exact Le.refl _ | assumption) (quiet_op (by rw [hty]; first | rfl | (refine st_ ?_; rfl))) ?_; refine st_ ?_
      refine hu_take 6 rfl (by kernel_rfl) (by kernel_rfl) (by kernel_rfl) (by kernel_rfl) rfl (fun c a w v => hQp c a w _ v) (by rw [hnt]; rfl) (allIn (by repeat (first | exact trivial | refine ⟨rfl, ?_⟩))) (by first | exact Le.refl _ | assumption) (x := .v (.pointer (some ⟨bN, oN + m.done.length * 1, none⟩))) ((quiet_index (by rw [hty]; rfl) (by rw [hty]; rfl) rfl rfl rfl (by omega) (by omega)).cast (by simp [SV.den])) ?_
      refine st_ ?_
      refine hu_take 7 rfl (by kernel_rfl) (by kernel_rfl) (by kernel_rfl) (by kernel_rfl) rfl (fun c a w v => hQp c a w _ v) (by rw [hnt]; rfl) (allIn (by repeat (first | exact trivial | refine ⟨rfl, ?_⟩))) (by first | exact Le.refl _ | assumption) (x := .v (.int .i64 k)) ((quiet_load (by rw [hty]; rfl) rfl (by simp [TK.agg]) hatN rfl).cast (by rfl)) ?_
      refine st_ ?_
      refine hu_two 8 12 rfl rfl (by kernel_rfl) ?_ ?_
      · refine go_call (by rw [hnt]; rfl) (by rw [hP]; kernel_rfl) rfl (hP ▸ rmore_ok _ _ _ st 0 0 k p m l nd G2 hp2 hL2.1 ⟨_, _, _, rfl⟩ hvx.1.nd (by omega) hk64) ?_
        rintro _ G3 (hle3 : Le G2 G3) hq9
        obtain ⟨a9, c9, c8, st9, a8, fine, n9, rfl, hcs⟩ := rmoreO_cases hq9
        refine rn_ ?_; intros
        refine hs_ ?_
        refine hu_take0 9 rfl (by kernel_rfl) (by kernel_rfl) (by kernel_rfl) (by decide) (fun c a w v => hQp c a w _ v) (by rw [hnt]; rfl) (allIn (by repeat (first | exact trivial | refine ⟨rfl, ?_⟩))) (by first | exact Le.refl _ | assumption) (quiet_op (by rw [hty]; first | rfl | (refine st_ ?_; rfl))) ?_; refine st_ ?_
        refine hu_take0 10 rfl (by kernel_rfl) (by kernel_rfl) (by kernel_rfl) (by decide) (fun c a w v => hQp c a w _ v) (by rw [hnt]; rfl) (allIn (by repeat (first | exact trivial | refine ⟨rfl, ?_⟩))) (by first | exact Le.refl _ | assumption) (quiet_op (by rw [hty]; first | rfl | (refine st_ ?_; rfl))) ?_; refine st_ ?_
        refine hu_take0 11 rfl (by kernel_rfl) (by kernel_rfl) (by kernel_rfl) (by decide) (fun c a w v => hQp c a w _ v) (by rw [hnt]; rfl) (allIn (by repeat (first | exact trivial | refine ⟨rfl, ?_⟩))) (by first | exact Le.refl _ | assumption) (quiet_op (by rw [hty]; first | rfl | (refine st_ ?_; rfl))) ?_; refine st_ ?_
        refine hu_one 12 rfl (by kernel_rfl) ?_
        refine rn_ ?_; intros
        refine hs_ ?_
        refine hu_last 13 [] rfl (by kernel_rfl) rfl ?_
        refine rn_ ?_; intros
        refine h_one 14 rfl (by kernel_rfl) ?_
        refine rn_ ?_; intros
        refine hs_ ?_
        refine h_end (by kernel_rfl) ?_
        refine rn_ ?_; intros
        rcases hcs with ⟨rfl, h256, rfl, rfl, rfl, rfl, rfl, rfl⟩ | ⟨rfl, h256, rfl, rfl, rfl, hS⟩
        · rw [if_pos h256] at ho
          injection ho with ho
          subst ho
          (refine x_split rfl rfl rfl (fun _ => ?_) (fun hc => absurd hc (by first | decide +kernel | (simp; first | done | fail))); refine st_ ?_; (refine ru_ ?_; intros))
          refine rn_ ?_; intros
          refine xc_ hQ hmb ?_; simp only [SV.den, resV, dens]
          exact rfO_wrong _ _
        · rw [if_neg h256] at ho
          (refine x_split rfl rfl rfl (fun hc => absurd hc (by first | decide +kernel | (simp; first | done | fail))) (fun _ => ?_); refine st_ ?_; (refine ru_ ?_; intros))
          refine rn_ ?_; intros
          refine go_keep [1, 2] [0, 1] ?_
          refine st_ ?_
          obtain ⟨y, hy⟩ := vx_kid hvx hk hn
          exact ih q' _ (by omega) ⟨⟨m.fn, k, m.vars, []⟩, m :: l, y, _, _, _, G3, hle12.trans hle3, hy, by simp; omega, ho, hS, VT.rep_mono hle3 hvl2, rfl⟩
      · refine rn_ ?_; intros
        refine hs_ ?_
        refine hu_one 8 rfl (by kernel_rfl) ?_
        refine go_call (by rw [hnt]; rfl) (by rw [hP]; kernel_rfl) rfl (hP ▸ rmore_ok _ _ _ st 0 0 k p m l nd G2 hp2 hL2.1 ⟨_, _, _, rfl⟩ hvx.1.nd (by omega) hk64) ?_
        rintro _ G3 (hle3 : Le G2 G3) hq9
        obtain ⟨a9, c9, c8, st9, a8, fine, n9, rfl, hcs⟩ := rmoreO_cases hq9
        refine rn_ ?_; intros
        refine hs_ ?_
        refine hu_take0 9 rfl (by kernel_rfl) (by kernel_rfl) (by kernel_rfl) (by decide) (fun c a w v => hQp c a w _ v) (by rw [hnt]; rfl) (allIn (by repeat (first | exact trivial | refine ⟨rfl, ?_⟩))) (by first | exact Le.refl _ | assumption) (quiet_op (by rw [hty]; first | rfl | (refine st_ ?_; rfl))) ?_; refine st_ ?_
        refine hu_take0 10 rfl (by kernel_rfl) (by kernel_rfl) (by kernel_rfl) (by decide) (fun c a w v => hQp c a w _ v) (by rw [hnt]; rfl) (allIn (by repeat (first | exact trivial | refine ⟨rfl, ?_⟩))) (by first | exact Le.refl _ | assumption) (quiet_op (by rw [hty]; first | rfl | (refine st_ ?_; rfl))) ?_; refine st_ ?_
        refine hu_take0 11 rfl (by kernel_rfl) (by kernel_rfl) (by kernel_rfl) (by decide) (fun c a w v => hQp c a w _ v) (by rw [hnt]; rfl) (allIn (by repeat (first | exact trivial | refine ⟨rfl, ?_⟩))) (by first | exact Le.refl _ | assumption) (quiet_op (by rw [hty]; first | rfl | (refine st_ ?_; rfl))) ?_; refine st_ ?_
        refine hu_last 13 [] rfl (by kernel_rfl) rfl ?_
        refine rn_ ?_; intros
        refine h_one 14 rfl (by kernel_rfl) ?_
        refine rn_ ?_; intros
        refine hs_ ?_
        refine h_end (by kernel_rfl) ?_
        refine rn_ ?_; intros
        rcases hcs with ⟨rfl, h256, rfl, rfl, rfl, rfl, rfl, rfl⟩ | ⟨rfl, h256, rfl, rfl, rfl, hS⟩
        · rw [if_pos h256] at ho
          injection ho with ho
          subst ho
          (refine x_split rfl rfl rfl (fun _ => ?_) (fun hc => absurd hc (by first | decide +kernel | (simp; first | done | fail))); refine st_ ?_; (refine ru_ ?_; intros))
          refine rn_ ?_; intros
          refine xc_ hQ hmb ?_; simp only [SV.den, resV, dens]
          exact rfO_wrong _ _
        · rw [if_neg h256] at ho
          (refine x_split rfl rfl rfl (fun hc => absurd hc (by first | decide +kernel | (simp; first | done | fail))) (fun _ => ?_); refine st_ ?_; (refine ru_ ?_; intros))
          refine rn_ ?_; intros
          refine go_keep [1, 2] [0, 1] ?_
          refine st_ ?_
          obtain ⟨y, hy⟩ := vx_kid hvx hk hn
          exact ih q' _ (by omega) ⟨⟨m.fn, k, m.vars, []⟩, m :: l, y, _, _, _, G3, hle12.trans hle3, hy, by simp; omega, ho, hS, VT.rep_mono hle3 hvl2, rfl⟩
  · have h4 : ¬ nd.op = 4 := by simpa using h4
    rw [if_neg (by omega)] at ho
    refine go_gsplit rfl rfl (fun h5 => ?_) (fun h5 => ?_) <;> (refine st_ ?_; (refine rn_ ?_; intros))
    · have hop : nd.op = 5 := by simpa using h5
      have hl3 := B5 hop
      have hm1 : m.done.length ≤ 1 := by simpa [many, hop] using hmany
      refine x_split rfl rfl rfl (fun h51 => ?_) (fun h51 => ?_) <;> (refine st_ ?_; (refine ru_ ?_; intros))
      · have hd1 : m.done.length = 1 := by simp at h51; omega
        obtain ⟨v, hdd⟩ : ∃ v, m.done = [v] := List.length_eq_one_iff.1 hd1
        obtain ⟨k1, hk1⟩ : ∃ k, nd.l[1]? = some k := ⟨_, List.getElem?_eq_getElem (by omega)⟩
        obtain ⟨k2, hk2⟩ : ∃ k, nd.l[2]? = some k := ⟨_, List.getElem?_eq_getElem (by omega)⟩
        rw [if_pos ⟨hop, hd1⟩, hdd, hk1, hk2] at ho
        simp only [] at ho
        obtain ⟨bD, oD, s0, rfl, hat0, hr0, ht0⟩ := rW_at hsd (i := 0) (by omega)
        have e0 : m.done[0]'(by omega) = v := by simp [hdd]
        rw [e0] at hat0 hr0 ht0
        obtain ⟨a8, c8, rfl⟩ := VT.rep_slice hr0
        refine rn_ ?_; intros
        refine go_q (v := .pointer (some ⟨bD, oD + 0 * 3, none⟩)) (by rw [hnt]; rfl) ((quiet_index (by rw [hty]; rfl) (by rw [hty]; rfl) rfl rfl rfl (by omega) (by omega)).cast (by rfl)) ?_
        refine rn_ ?_; intros
        refine go_q (v := .agg #[.int .i64 v.k, .int .i64 v.n, .slice a8 v.l.length c8]) (by rw [hnt]; rfl) ((quiet_load (by rw [hty]; rfl) rfl (by simp [TK.agg]) hat0 rfl).cast (by rfl)) ?_
        refine rn_ ?_; intros
        refine go_callf (by rw [hnt]; rfl) (by rw [hP]; kernel_rfl) rfl (hP ▸ rtruth_ok v _ G2 hr0 (by omega)) ?_; refine rn_ ?_; intros
        rcases tr_two v with ⟨q1, q2⟩ | ⟨q1, q2⟩
        · rw [q1] at ho
          simp only [] at ho
          injection ho with ho
          subst ho
          refine x_split rfl rfl rfl (fun h9 => ?_) (fun h9 => ?_) <;> (refine st_ ?_; (refine ru_ ?_; intros))
          rotate_left
          · exact absurd q2 (by simpa using h9)
          refine rn_ ?_; intros
          refine go_callf (by rw [hnt]; rfl) (by rw [hP]; kernel_rfl) rfl (hP ▸ rwrong_ok _ _ _ _ _ _ _ ⟨_, _, _, rfl⟩ ⟨_, _, _, rfl⟩ ⟨_, _, _, rfl⟩) ?_; refine rn_ ?_; intros
          refine xc_ hQ hmb ?_; simp only [SV.den, resV, dens]
          exact rfO_wrong _ _
        · rw [q1] at ho
          simp only [] at ho
          refine x_split rfl rfl rfl (fun h9 => ?_) (fun h9 => ?_) <;> (refine st_ ?_; (refine ru_ ?_; intros))
          · exact absurd q2 (by simpa using h9)
          refine rn_ ?_; intros
          refine x_split rfl rfl rfl (fun h7 => ?_) (fun h7 => ?_) <;> (refine st_ ?_; (refine ru_ ?_; intros))
          · have hb : (v.n != 0) = true := by rw [q2] at h7; simpa using h7
            rw [hb] at ho
            simp only [if_true] at ho
            obtain ⟨hki, hk64, bN, oN, cN, eN, hatN⟩ := rI_get hrI hk1
            injection eN with e1 e2 e3
            subst e1 e3
            refine go_keep [1, 2, 3, 4] [0, 1, 2, 3] ?_
            refine st_ ?_
            refine x_heldP [(0, b1, .c 44 [.v (.slice pA p.length pC), .v (.slice aL (m :: l).reverse.length cL), .v (.int .i64 st), .v (.int .i64 0), .v (.int .i64 0), .v (.slice vA 0 vC)]), (2, b3, .c 96 [.v (.int .i64 m.fn), .v (.int .i64 m.nd), .v (.slice av m.vars.length cw), .v (.slice (some ⟨bD, oD, none⟩) m.done.length cd)]), (3, b4, .c 110 [.v (.int .i64 nd.op), .v (.int .i64 nd.n), .v (.slice (some ⟨bN, oN, none⟩) nd.l.length cn)])] 8 rfl (by rw [hP]; kernel_rfl) rfl rfl rfl ?_; refine st_ ?_
            refine hu_take 0 rfl (by kernel_rfl) (by kernel_rfl) (by kernel_rfl) (by kernel_rfl) rfl (fun c a w v => hQp c a w _ v) (by rw [hnt]; rfl) (allIn (by repeat (first | exact trivial | refine ⟨rfl, ?_⟩))) (by first | exact Le.refl _ | assumption) (quiet_op (by rw [hty]; first | rfl | (refine st_ ?_; rfl))) ?_; refine st_ ?_
            refine hu_take 1 rfl (by kernel_rfl) (by kernel_rfl) (by kernel_rfl) (by kernel_rfl) rfl (fun c a w v => hQp c a w _ v) (by rw [hnt]; rfl) (allIn (by repeat (first | exact trivial | refine ⟨rfl, ?_⟩))) (by first | exact Le.refl _ | assumption) (quiet_op (by rw [hty]; first | rfl | (refine st_ ?_; rfl))) ?_; refine st_ ?_
            refine hu_take 2 rfl (by kernel_rfl) (by kernel_rfl) (by kernel_rfl) (by kernel_rfl) rfl (fun c a w v => hQp c a w _ v) (by rw [hnt]; rfl) (allIn (by repeat (first | exact trivial | refine ⟨rfl, ?_⟩))) (by first | exact Le.refl _ | assumption) (quiet_op (by rw [hty]; first | rfl | (refine st_ ?_; rfl))) ?_; refine st_ ?_
            refine hu_take 3 rfl (by kernel_rfl) (by kernel_rfl) (by kernel_rfl) (by kernel_rfl) rfl (fun c a w v => hQp c a w _ v) (by rw [hnt]; rfl) (allIn (by repeat (first | exact trivial | refine ⟨rfl, ?_⟩))) (by first | exact Le.refl _ | assumption) (x := .v (.pointer (some ⟨bN, oN + 1 * 1, none⟩))) ((quiet_index (by rw [hty]; rfl) (by rw [hty]; rfl) rfl rfl rfl (by omega) (by omega)).cast (by simp [SV.den])) ?_
            refine st_ ?_
            refine hu_take 4 rfl (by kernel_rfl) (by kernel_rfl) (by kernel_rfl) (by kernel_rfl) rfl (fun c a w v => hQp c a w _ v) (by rw [hnt]; rfl) (allIn (by repeat (first | exact trivial | refine ⟨rfl, ?_⟩))) (by first | exact Le.refl _ | assumption) (x := .v (.int .i64 k1)) ((quiet_load (by rw [hty]; rfl) rfl (by simp [TK.agg]) hatN rfl).cast (by rfl)) ?_
            refine st_ ?_
            refine hu_take 5 rfl (by kernel_rfl) (by kernel_rfl) (by kernel_rfl) (by kernel_rfl) rfl (fun c a w v => hQp c a w _ v) (by rw [hnt]; rfl) (allIn (by repeat (first | exact trivial | refine ⟨rfl, ?_⟩))) (by first | exact Le.refl _ | assumption) (quiet_op (by rw [hty]; first | rfl | (refine st_ ?_; rfl))) ?_; refine st_ ?_
            refine hu_take 6 rfl (by kernel_rfl) (by kernel_rfl) (by kernel_rfl) (by kernel_rfl) rfl (fun c a w v => hQp c a w _ v) (by rw [hnt]; rfl) (allIn (by repeat (first | exact trivial | refine ⟨rfl, ?_⟩))) (by first | exact Le.refl _ | assumption) (quiet_op (by rw [hty]; first | rfl | (refine st_ ?_; rfl))) ?_; refine st_ ?_
            refine hu_one 7 rfl (by kernel_rfl) ?_
            refine go_call (by rw [hnt]; rfl) (by rw [hP]; kernel_rfl) rfl (hP ▸ rmoves_ok _ _ _ st 0 0 k1 p m l nd m.vars _ G2 hp2 hL2.1 ⟨_, _, _, rfl⟩ hvx.1.nd (by omega) hsv hk64) ?_
            rintro _ G6 (hle6 : Le G2 G6) ⟨lsl', rfl, hS2⟩
            obtain ⟨a5, c5, rfl⟩ := Rp.S_slice hS2.1
            simp only [fibV]
            refine rn_ ?_; intros
            refine hs_ ?_
            refine hu_last 8 [] rfl (by kernel_rfl) rfl ?_
            refine rn_ ?_; intros
            refine h_end (by kernel_rfl) ?_
            refine rn_ ?_; intros
            refine go_keep [1, 2] [0, 1] ?_
            refine st_ ?_
            obtain ⟨y, hy⟩ := vx_kid hvx hk1 (by omega)
            exact ih q' _ (by omega) ⟨⟨m.fn, k1, m.vars, []⟩, l, y, _, _, _, G6, hle12.trans hle6, hy, hl, ho, hS2, VT.rep_mono hle6 hvl2, rfl⟩
          · have hb : (v.n != 0) = false := by rw [q2] at h7; simpa using h7
            rw [hb] at ho
            simp only [Bool.false_eq_true, if_false] at ho
            obtain ⟨hki, hk64, bN, oN, cN, eN, hatN⟩ := rI_get hrI hk2
            injection eN with e1 e2 e3
            subst e1 e3
            refine go_keep [1, 2, 3, 4] [0, 1, 2, 3] ?_
            refine st_ ?_
            refine x_heldP [(0, b1, .c 44 [.v (.slice pA p.length pC), .v (.slice aL (m :: l).reverse.length cL), .v (.int .i64 st), .v (.int .i64 0), .v (.int .i64 0), .v (.slice vA 0 vC)]), (2, b3, .c 96 [.v (.int .i64 m.fn), .v (.int .i64 m.nd), .v (.slice av m.vars.length cw), .v (.slice (some ⟨bD, oD, none⟩) m.done.length cd)]), (3, b4, .c 110 [.v (.int .i64 nd.op), .v (.int .i64 nd.n), .v (.slice (some ⟨bN, oN, none⟩) nd.l.length cn)])] 8 rfl (by rw [hP]; kernel_rfl) rfl rfl rfl ?_; refine st_ ?_
            refine hu_take 0 rfl (by kernel_rfl) (by kernel_rfl) (by kernel_rfl) (by kernel_rfl) rfl (fun c a w v => hQp c a w _ v) (by rw [hnt]; rfl) (allIn (by repeat (first | exact trivial | refine ⟨rfl, ?_⟩))) (by first | exact Le.refl _ | assumption) (quiet_op (by rw [hty]; first | rfl | (refine st_ ?_; rfl))) ?_; refine st_ ?_
            refine hu_take 1 rfl (by kernel_rfl) (by kernel_rfl) (by kernel_rfl) (by kernel_rfl) rfl (fun c a w v => hQp c a w _ v) (by rw [hnt]; rfl) (allIn (by repeat (first | exact trivial | refine ⟨rfl, ?_⟩))) (by first | exact Le.refl _ | assumption) (quiet_op (by rw [hty]; first | rfl | (refine st_ ?_; rfl))) ?_; refine st_ ?_
            refine hu_take 2 rfl (by kernel_rfl) (by kernel_rfl) (by kernel_rfl) (by kernel_rfl) rfl (fun c a w v => hQp c a w _ v) (by rw [hnt]; rfl) (allIn (by repeat (first | exact trivial | refine ⟨rfl, ?_⟩))) (by first | exact Le.refl _ | assumption) (quiet_op (by rw [hty]; first | rfl | (refine st_ ?_; rfl))) ?_; refine st_ ?_
            refine hu_take 3 rfl (by kernel_rfl) (by kernel_rfl) (by kernel_rfl) (by kernel_rfl) rfl (fun c a w v => hQp c a w _ v) (by rw [hnt]; rfl) (allIn (by repeat (first | exact trivial | refine ⟨rfl, ?_⟩))) (by first | exact Le.refl _ | assumption) (x := .v (.pointer (some ⟨bN, oN + 2 * 1, none⟩))) ((quiet_index (by rw [hty]; rfl) (by rw [hty]; rfl) rfl rfl rfl (by omega) (by omega)).cast (by simp [SV.den])) ?_
            refine st_ ?_
            refine hu_take 4 rfl (by kernel_rfl) (by kernel_rfl) (by kernel_rfl) (by kernel_rfl) rfl (fun c a w v => hQp c a w _ v) (by rw [hnt]; rfl) (allIn (by repeat (first | exact trivial | refine ⟨rfl, ?_⟩))) (by first | exact Le.refl _ | assumption) (x := .v (.int .i64 k2)) ((quiet_load (by rw [hty]; rfl) rfl (by simp [TK.agg]) hatN rfl).cast (by rfl)) ?_
            refine st_ ?_
            refine hu_take 5 rfl (by kernel_rfl) (by kernel_rfl) (by kernel_rfl) (by kernel_rfl) rfl (fun c a w v => hQp c a w _ v) (by rw [hnt]; rfl) (allIn (by repeat (first | exact trivial | refine ⟨rfl, ?_⟩))) (by first | exact Le.refl _ | assumption) (quiet_op (by rw [hty]; first | rfl | (refine st_ ?_; rfl))) ?_; refine st_ ?_
            refine hu_take 6 rfl (by kernel_rfl) (by kernel_rfl) (by kernel_rfl) (by kernel_rfl) rfl (fun c a w v => hQp c a w _ v) (by rw [hnt]; rfl) (allIn (by repeat (first | exact trivial | refine ⟨rfl, ?_⟩))) (by first | exact Le.refl _ | assumption) (quiet_op (by rw [hty]; first | rfl | (refine st_ ?_; rfl))) ?_; refine st_ ?_
            refine hu_one 7 rfl (by kernel_rfl) ?_
            refine go_call (by rw [hnt]; rfl) (by rw [hP]; kernel_rfl) rfl (hP ▸ rmoves_ok _ _ _ st 0 0 k2 p m l nd m.vars _ G2 hp2 hL2.1 ⟨_, _, _, rfl⟩ hvx.1.nd (by omega) hsv hk64) ?_
            rintro _ G6 (hle6 : Le G2 G6) ⟨lsl', rfl, hS2⟩
            obtain ⟨a5, c5, rfl⟩ := Rp.S_slice hS2.1
            simp only [fibV]
            refine rn_ ?_; intros
            refine hs_ ?_
            refine hu_last 8 [] rfl (by kernel_rfl) rfl ?_
            refine rn_ ?_; intros
            refine h_end (by kernel_rfl) ?_
            refine rn_ ?_; intros
            refine go_keep [1, 2] [0, 1] ?_
            refine st_ ?_
            obtain ⟨y, hy⟩ := vx_kid hvx hk2 (by omega)
            exact ih q' _ (by omega) ⟨⟨m.fn, k2, m.vars, []⟩, l, y, _, _, _, G6, hle12.trans hle6, hy, hl, ho, hS2, VT.rep_mono hle6 hvl2, rfl⟩
      · have hd0 : m.done.length = 0 := by simp at h51; omega
        rw [if_neg (by omega), if_neg (by omega)] at ho
        refine rn_ ?_; intros
        (refine go_gsplit rfl rfl (fun _ => ?_) (fun hc => absurd hc (by simp [hop])); refine st_ ?_; (refine rn_ ?_; intros))
        (refine go_gsplit rfl rfl (fun hc => absurd hc (by simp [hop])) (fun _ => ?_); refine st_ ?_; (refine rn_ ?_; intros))
        have hlt2 : m.done.length < nd.l.length := by omega
        have hn : ¬ (nd.op = 4 ∧ m.done.length = 1) := by omega
        refine go_keep [1, 2, 3, 4] [0, 1, 2, 3] ?_
        refine st_ ?_
        obtain ⟨k, hk⟩ : ∃ k, nd.l[m.done.length]? = some k := ⟨_, List.getElem?_eq_getElem hlt2⟩
        obtain ⟨hki, hk64, bN, oN, cN, eN, hatN⟩ := rI_get hrI hk
        injection eN with e1 e2 e3
        subst e1 e3
        rw [hk] at ho
        simp only [] at ho
        refine x_heldP [(0, b1, .c 44 [.v (.slice pA p.length pC), .v (.slice aL (m :: l).reverse.length cL), .v (.int .i64 st), .v (.int .i64 0), .v (.int .i64 0), .v (.slice vA 0 vC)]), (2, b3, .c 96 [.v (.int .i64 m.fn), .v (.int .i64 m.nd), .v (.slice av m.vars.length cw), .v (.slice ad m.done.length cd)]), (3, b4, .c 110 [.v (.int .i64 nd.op), .v (.int .i64 nd.n), .v (.slice (some ⟨bN, oN, none⟩) nd.l.length cn)])] 13 rfl (by rw [hP]; kernel_rfl) rfl rfl rfl ?_; refine st_ ?_
        refine hu_take 0 rfl (by kernel_rfl) (by kernel_rfl) (by kernel_rfl) (by kernel_rfl) rfl (fun c a w v => hQp c a w _ v) (by rw [hnt]; rfl) (allIn (by repeat (first | exact trivial | refine ⟨rfl, ?_⟩))) (by first | exact Le.refl _ | assumption) (quiet_op (by rw [hty]; first | rfl | (refine st_ ?_; rfl))) ?_; refine st_ ?_
        refine hu_take 1 rfl (by kernel_rfl) (by kernel_rfl) (by kernel_rfl) (by kernel_rfl) rfl (fun c a w v => hQp c a w _ v) (by rw [hnt]; rfl) (allIn (by repeat (first | exact trivial | refine ⟨rfl, ?_⟩))) (by first | exact Le.refl _ | assumption) (quiet_op (by rw [hty]; first | rfl | (refine st_ ?_; rfl))) ?_; refine st_ ?_
        refine hu_take 2 rfl (by kernel_rfl) (by kernel_rfl) (by kernel_rfl) (by kernel_rfl) rfl (fun c a w v => hQp c a w _ v) (by rw [hnt]; rfl) (allIn (by repeat (first | exact trivial | refine ⟨rfl, ?_⟩))) (by first | exact Le.refl _ | assumption) (quiet_op (by rw [hty]; first | rfl | (refine st_ ?_; rfl))) ?_; refine st_ ?_
        refine hu_take 3 rfl (by kernel_rfl) (by kernel_rfl) (by kernel_rfl) (by kernel_rfl) rfl (fun c a w v => hQp c a w _ v) (by rw [hnt]; rfl) (allIn (by repeat (first | exact trivial | refine ⟨rfl, ?_⟩))) (by first | exact Le.refl _ | assumption) (quiet_op (by rw [hty]; first | rfl | (refine st_ ?_; rfl))) ?_; refine st_ ?_
        refine hu_take 4 rfl (by kernel_rfl) (by kernel_rfl) (by kernel_rfl) (by kernel_rfl) rfl (fun c a w v => hQp c a w _ v) (by rw [hnt]; rfl) (allIn (by repeat (first | exact trivial | refine ⟨rfl, ?_⟩))) (by first | exact Le.refl _ | assumption) (quiet_op (by rw [hty]; first | rfl | (refine st_ ?_; rfl))) ?_; refine st_ ?_
        refine hu_take 5 rfl (by kernel_rfl) (by kernel_rfl) (by kernel_rfl) (by kernel_rfl) rfl (fun c a w v => hQp c a w _ v) (by rw [hnt]; rfl) (allIn (by repeat (first | exact trivial | refine ⟨rfl, ?_⟩))) (by first | exact Le.refl _ | assumption) (quiet_op (by rw [hty]; first | rfl | (refine st_ ?_; rfl))) ?_; refine st_ ?_
        refine hu_take 6 rfl (by kernel_rfl) (by kernel_rfl) (by kernel_rfl) (by kernel_rfl) rfl (fun c a w v => hQp c a w _ v) (by rw [hnt]; rfl) (allIn (by repeat (first | exact trivial | refine ⟨rfl, ?_⟩))) (by first | exact Le.refl _ | assumption) (x := .v (.pointer (some ⟨bN, oN + m.done.length * 1, none⟩))) ((quiet_index (by rw [hty]; rfl) (by rw [hty]; rfl) rfl rfl rfl (by omega) (by omega)).cast (by simp [SV.den])) ?_
        refine st_ ?_
        refine hu_take 7 rfl (by kernel_rfl) (by kernel_rfl) (by kernel_rfl) (by kernel_rfl) rfl (fun c a w v => hQp c a w _ v) (by rw [hnt]; rfl) (allIn (by repeat (first | exact trivial | refine ⟨rfl, ?_⟩))) (by first | exact Le.refl _ | assumption) (x := .v (.int .i64 k)) ((quiet_load (by rw [hty]; rfl) rfl (by simp [TK.agg]) hatN rfl).cast (by rfl)) ?_
        refine st_ ?_
        refine hu_two 8 12 rfl rfl (by kernel_rfl) ?_ ?_
        · refine go_call (by rw [hnt]; rfl) (by rw [hP]; kernel_rfl) rfl (hP ▸ rmore_ok _ _ _ st 0 0 k p m l nd G2 hp2 hL2.1 ⟨_, _, _, rfl⟩ hvx.1.nd (by omega) hk64) ?_
          rintro _ G3 (hle3 : Le G2 G3) hq9
          obtain ⟨a9, c9, c8, st9, a8, fine, n9, rfl, hcs⟩ := rmoreO_cases hq9
          refine rn_ ?_; intros
          refine hs_ ?_
          refine hu_take0 9 rfl (by kernel_rfl) (by kernel_rfl) (by kernel_rfl) (by decide) (fun c a w v => hQp c a w _ v) (by rw [hnt]; rfl) (allIn (by repeat (first | exact trivial | refine ⟨rfl, ?_⟩))) (by first | exact Le.refl _ | assumption) (quiet_op (by rw [hty]; first | rfl | (refine st_ ?_; rfl))) ?_; refine st_ ?_
          refine hu_take0 10 rfl (by kernel_rfl) (by kernel_rfl) (by kernel_rfl) (by decide) (fun c a w v => hQp c a w _ v) (by rw [hnt]; rfl) (allIn (by repeat (first | exact trivial | refine ⟨rfl, ?_⟩))) (by first | exact Le.refl _ | assumption) (quiet_op (by rw [hty]; first | rfl | (refine st_ ?_; rfl))) ?_; refine st_ ?_
          refine hu_take0 11 rfl (by kernel_rfl) (by kernel_rfl) (by kernel_rfl) (by decide) (fun c a w v => hQp c a w _ v) (by rw [hnt]; rfl) (allIn (by repeat (first | exact trivial | refine ⟨rfl, ?_⟩))) (by first | exact Le.refl _ | assumption) (quiet_op (by rw [hty]; first | rfl | (refine st_ ?_; rfl))) ?_; refine st_ ?_
          refine hu_one 12 rfl (by kernel_rfl) ?_
          refine rn_ ?_; intros
          refine hs_ ?_
          refine hu_last 13 [] rfl (by kernel_rfl) rfl ?_
          refine rn_ ?_; intros
          refine h_one 14 rfl (by kernel_rfl) ?_
          refine rn_ ?_; intros
          refine hs_ ?_
          refine h_end (by kernel_rfl) ?_
          refine rn_ ?_; intros
          rcases hcs with ⟨rfl, h256, rfl, rfl, rfl, rfl, rfl, rfl⟩ | ⟨rfl, h256, rfl, rfl, rfl, hS⟩
          · rw [if_pos h256] at ho
            injection ho with ho
            subst ho
            (refine x_split rfl rfl rfl (fun _ => ?_) (fun hc => absurd hc (by first | decide +kernel | (simp; first | done | fail))); refine st_ ?_; (refine ru_ ?_; intros))
            refine rn_ ?_; intros
            refine xc_ hQ hmb ?_; simp only [SV.den, resV, dens]
            exact rfO_wrong _ _
          · rw [if_neg h256] at ho
            (refine x_split rfl rfl rfl (fun hc => absurd hc (by first | decide +kernel | (simp; first | done | fail))) (fun _ => ?_); refine st_ ?_; (refine ru_ ?_; intros))
            refine rn_ ?_; intros
            refine go_keep [1, 2] [0, 1] ?_
            refine st_ ?_
            obtain ⟨y, hy⟩ := vx_kid hvx hk hn
            exact ih q' _ (by omega) ⟨⟨m.fn, k, m.vars, []⟩, m :: l, y, _, _, _, G3, hle12.trans hle3, hy, by simp; omega, ho, hS, VT.rep_mono hle3 hvl2, rfl⟩
        · refine rn_ ?_; intros
          refine hs_ ?_
          refine hu_one 8 rfl (by kernel_rfl) ?_
          refine go_call (by rw [hnt]; rfl) (by rw [hP]; kernel_rfl) rfl (hP ▸ rmore_ok _ _ _ st 0 0 k p m l nd G2 hp2 hL2.1 ⟨_, _, _, rfl⟩ hvx.1.nd (by omega) hk64) ?_
          rintro _ G3 (hle3 : Le G2 G3) hq9
          obtain ⟨a9, c9, c8, st9, a8, fine, n9, rfl, hcs⟩ := rmoreO_cases hq9
          refine rn_ ?_; intros
          refine hs_ ?_
          refine hu_take0 9 rfl (by kernel_rfl) (by kernel_rfl) (by kernel_rfl) (by decide) (fun c a w v => hQp c a w _ v) (by rw [hnt]; rfl) (allIn (by repeat (first | exact trivial | refine ⟨rfl, ?_⟩))) (by first | exact Le.refl _ | assumption) (quiet_op (by rw [hty]; first | rfl | (refine st_ ?_; rfl))) ?_; refine st_ ?_
          refine hu_take0 10 rfl (by kernel_rfl) (by kernel_rfl) (by kernel_rfl) (by decide) (fun c a w v => hQp c a w _ v) (by rw [hnt]; rfl) (allIn (by repeat (first | exact trivial | refine ⟨rfl, ?_⟩))) (by first | exact Le.refl _ | assumption) (quiet_op (by rw [hty]; first | rfl | (refine st_ ?_; rfl))) ?_; refine st_ ?_
          refine hu_take0 11 rfl (by kernel_rfl) (by kernel_rfl) (by kernel_rfl) (by decide) (fun c a w v => hQp c a w _ v) (by rw [hnt]; rfl) (allIn (by repeat (first | exact trivial | refine ⟨rfl, ?_⟩))) (by first | exact Le.refl _ | assumption) (quiet_op (by rw [hty]; first | rfl | (refine st_ ?_; rfl))) ?_; refine st_ ?_
          refine hu_last 13 [] rfl (by kernel_rfl) rfl ?_
          refine rn_ ?_; intros
          refine h_one 14 rfl (by kernel_rfl) ?_
          refine rn_ ?_; intros
          refine hs_ ?_
          refine h_end (by kernel_rfl) ?_
          refine rn_ ?_; intros
          rcases hcs with ⟨rfl, h256, rfl, rfl, rfl, rfl, rfl, rfl⟩ | ⟨rfl, h256, rfl, rfl, rfl, hS⟩
          · rw [if_pos h256] at ho
            injection ho with ho
            subst ho
            (refine x_split rfl rfl rfl (fun _ => ?_) (fun hc => absurd hc (by first | decide +kernel | (simp; first | done | fail))); refine st_ ?_; (refine ru_ ?_; intros))
            refine rn_ ?_; intros
            refine xc_ hQ hmb ?_; simp only [SV.den, resV, dens]
            exact rfO_wrong _ _
          · rw [if_neg h256] at ho
            (refine x_split rfl rfl rfl (fun hc => absurd hc (by first | decide +kernel | (simp; first | done | fail))) (fun _ => ?_); refine st_ ?_; (refine ru_ ?_; intros))
            refine rn_ ?_; intros
            refine go_keep [1, 2] [0, 1] ?_
            refine st_ ?_
            obtain ⟨y, hy⟩ := vx_kid hvx hk hn
            exact ih q' _ (by omega) ⟨⟨m.fn, k, m.vars, []⟩, m :: l, y, _, _, _, G3, hle12.trans hle3, hy, by simp; omega, ho, hS, VT.rep_mono hle3 hvl2, rfl⟩
    · have h5 : ¬ nd.op = 5 := by simpa using h5
      rw [if_neg (by omega)] at ho
      have hmn : many nd = nd.l.length := by simp [many, h4, h5]
      (refine go_gsplit rfl rfl (fun _ => ?_) (fun hc => absurd hc (by simp [h4])); refine st_ ?_; (refine rn_ ?_; intros))
      (refine go_gsplit rfl rfl (fun _ => ?_) (fun hc => absurd hc (by simp [h5])); refine st_ ?_; (refine rn_ ?_; intros))
      refine x_split rfl rfl rfl (fun hle => ?_) (fun hle => ?_) <;> (refine st_ ?_; (refine ru_ ?_; intros))
      · have hle' : m.done.length = nd.l.length := by simp at hle; omega
        rw [if_pos hle'] at ho
        refine rn_ ?_; intros
        refine go_call (by rw [hnt]; rfl) (by rw [hP]; kernel_rfl) rfl (hP ▸ rready_ok _ st p m l nd _ o G2 hp2 ⟨_, _, rfl, hL2, hvl2, by simp [vt0, tsz, tszL]⟩ hvx.1.nd (by omega) ho) ?_
        rintro _ G3 (hle3 : Le G2 G3) ⟨lsl3, vl3, rfl, hL3, hv3, ht3⟩
        obtain ⟨a5, c5, rfl⟩ := Rp.S_slice hL3.1
        obtain ⟨a6, c6, rfl⟩ := VT.rep_slice hv3
        simp only [fibV]
        refine rn_ ?_; intros
        refine xc_ hQ hmb ?_; simp only [SV.den, resV, dens]
        exact ⟨_, _, rfl, hL3, hv3, ht3⟩
      · have hle' : ¬ m.done.length = nd.l.length := by simp at hle; omega
        rw [if_neg hle'] at ho
        refine rn_ ?_; intros
        have hlt2 : m.done.length < nd.l.length := by omega
        have hn : ¬ (nd.op = 4 ∧ m.done.length = 1) := by omega
        refine go_keep [1, 2, 3, 4] [0, 1, 2, 3] ?_
        refine st_ ?_
        obtain ⟨k, hk⟩ : ∃ k, nd.l[m.done.length]? = some k := ⟨_, List.getElem?_eq_getElem hlt2⟩
        obtain ⟨hki, hk64, bN, oN, cN, eN, hatN⟩ := rI_get hrI hk
        injection eN with e1 e2 e3
        subst e1 e3
        rw [hk] at ho
        simp only [] at ho
        refine x_heldP [(0, b1, .c 44 [.v (.slice pA p.length pC), .v (.slice aL (m :: l).reverse.length cL), .v (.int .i64 st), .v (.int .i64 0), .v (.int .i64 0), .v (.slice vA 0 vC)]), (2, b3, .c 96 [.v (.int .i64 m.fn), .v (.int .i64 m.nd), .v (.slice av m.vars.length cw), .v (.slice ad m.done.length cd)]), (3, b4, .c 110 [.v (.int .i64 nd.op), .v (.int .i64 nd.n), .v (.slice (some ⟨bN, oN, none⟩) nd.l.length cn)])] 13 rfl (by rw [hP]; kernel_rfl) rfl rfl rfl ?_; refine st_ ?_
        refine hu_take 0 rfl (by kernel_rfl) (by kernel_rfl) (by kernel_rfl) (by kernel_rfl) rfl (fun c a w v => hQp c a w _ v) (by rw [hnt]; rfl) (allIn (by repeat (first | exact trivial | refine ⟨rfl, ?_⟩))) (by first | exact Le.refl _ | assumption) (quiet_op (by rw [hty]; first | rfl | (refine st_ ?_; rfl))) ?_; refine st_ ?_
        refine hu_take 1 rfl (by kernel_rfl) (by kernel_rfl) (by kernel_rfl) (by kernel_rfl) rfl (fun c a w v => hQp c a w _ v) (by rw [hnt]; rfl) (allIn (by repeat (first | exact trivial | refine ⟨rfl, ?_⟩))) (by first | exact Le.refl _ | assumption) (quiet_op (by rw [hty]; first | rfl | (refine st_ ?_; rfl))) ?_; refine st_ ?_
        refine hu_take 2 rfl (by kernel_rfl) (by kernel_rfl) (by kernel_rfl) (by kernel_rfl) rfl (fun c a w v => hQp c a w _ v) (by rw [hnt]; rfl) (allIn (by repeat (first | exact trivial | refine ⟨rfl, ?_⟩))) (by first | exact Le.refl _ | assumption) (quiet_op (by rw [hty]; first | rfl | (refine st_ ?_; rfl))) ?_; refine st_ ?_
        refine hu_take 3 rfl (by kernel_rfl) (by kernel_rfl) (by kernel_rfl) (by kernel_rfl) rfl (fun c a w v => hQp c a w _ v) (by rw [hnt]; rfl) (allIn (by repeat (first | exact trivial | refine ⟨rfl, ?_⟩))) (by first | exact Le.refl _ | assumption) (quiet_op (by rw [hty]; first | rfl | (refine st_ ?_; rfl))) ?_; refine st_ ?_
        refine hu_take 4 rfl (by kernel_rfl) (by kernel_rfl) (by kernel_rfl) (by kernel_rfl) rfl (fun c a w v => hQp c a w _ v) (by rw [hnt]; rfl) (allIn (by repeat (first | exact trivial | refine ⟨rfl, ?_⟩))) (by first | exact Le.refl _ | assumption) (quiet_op (by rw [hty]; first | rfl | (refine st_ ?_; rfl))) ?_; refine st_ ?_
        refine hu_take 5 rfl (by kernel_rfl) (by kernel_rfl) (by kernel_rfl) (by kernel_rfl) rfl (fun c a w v => hQp c a w _ v) (by rw [hnt]; rfl) (allIn (by repeat (first | exact trivial | refine ⟨rfl, ?_⟩))) (by first | exact Le.refl _ | assumption) (quiet_op (by rw [hty]; first | rfl | (refine st_ ?_; rfl))) ?_; refine st_ ?_
        refine hu_take 6 rfl (by kernel_rfl) (by kernel_rfl) (by kernel_rfl) (by kernel_rfl) rfl (fun c a w v => hQp c a w _ v) (by rw [hnt]; rfl) (allIn (by repeat (first | exact trivial | refine ⟨rfl, ?_⟩))) (by first | exact Le.refl _ | assumption) (x := .v (.pointer (some ⟨bN, oN + m.done.length * 1, none⟩))) ((quiet_index (by rw [hty]; rfl) (by rw [hty]; rfl) rfl rfl rfl (by omega) (by omega)).cast (by simp [SV.den])) ?_
        refine st_ ?_
        refine hu_take 7 rfl (by kernel_rfl) (by kernel_rfl) (by kernel_rfl) (by kernel_rfl) rfl (fun c a w v => hQp c a w _ v) (by rw [hnt]; rfl) (allIn (by repeat (first | exact trivial | refine ⟨rfl, ?_⟩))) (by first | exact Le.refl _ | assumption) (x := .v (.int .i64 k)) ((quiet_load (by rw [hty]; rfl) rfl (by simp [TK.agg]) hatN rfl).cast (by rfl)) ?_
        refine st_ ?_
        refine hu_two 8 12 rfl rfl (by kernel_rfl) ?_ ?_
        · refine go_call (by rw [hnt]; rfl) (by rw [hP]; kernel_rfl) rfl (hP ▸ rmore_ok _ _ _ st 0 0 k p m l nd G2 hp2 hL2.1 ⟨_, _, _, rfl⟩ hvx.1.nd (by omega) hk64) ?_
          rintro _ G3 (hle3 : Le G2 G3) hq9
          obtain ⟨a9, c9, c8, st9, a8, fine, n9, rfl, hcs⟩ := rmoreO_cases hq9
          refine rn_ ?_; intros
          refine hs_ ?_
          refine hu_take0 9 rfl (by kernel_rfl) (by kernel_rfl) (by kernel_rfl) (by decide) (fun c a w v => hQp c a w _ v) (by rw [hnt]; rfl) (allIn (by repeat (first | exact trivial | refine ⟨rfl, ?_⟩))) (by first | exact Le.refl _ | assumption) (quiet_op (by rw [hty]; first | rfl | (refine st_ ?_; rfl))) ?_; refine st_ ?_
          refine hu_take0 10 rfl (by kernel_rfl) (by kernel_rfl) (by kernel_rfl) (by decide) (fun c a w v => hQp c a w _ v) (by rw [hnt]; rfl) (allIn (by repeat (first | exact trivial | refine ⟨rfl, ?_⟩))) (by first | exact Le.refl _ | assumption) (quiet_op (by rw [hty]; first | rfl | (refine st_ ?_; rfl))) ?_; refine st_ ?_
          refine hu_take0 11 rfl (by kernel_rfl) (by kernel_rfl) (by kernel_rfl) (by decide) (fun c a w v => hQp c a w _ v) (by rw [hnt]; rfl) (allIn (by repeat (first | exact trivial | refine ⟨rfl, ?_⟩))) (by first | exact Le.refl _ | assumption) (quiet_op (by rw [hty]; first | rfl | (refine st_ ?_; rfl))) ?_; refine st_ ?_
          refine hu_one 12 rfl (by kernel_rfl) ?_
          refine rn_ ?_; intros
          refine hs_ ?_
          refine hu_last 13 [] rfl (by kernel_rfl) rfl ?_
          refine rn_ ?_; intros
          refine h_one 14 rfl (by kernel_rfl) ?_
          refine rn_ ?_; intros
          refine hs_ ?_
          refine h_end (by kernel_rfl) ?_
          refine rn_ ?_; intros
          rcases hcs with ⟨rfl, h256, rfl, rfl, rfl, rfl, rfl, rfl⟩ | ⟨rfl, h256, rfl, rfl, rfl, hS⟩
          · rw [if_pos h256] at ho
            injection ho with ho
            subst ho
            (refine x_split rfl rfl rfl (fun _ => ?_) (fun hc => absurd hc (by first | decide +kernel | (simp; first | done | fail))); refine st_ ?_; (refine ru_ ?_; intros))
            refine rn_ ?_; intros
            refine xc_ hQ hmb ?_; simp only [SV.den, resV, dens]
            exact rfO_wrong _ _
          · rw [if_neg h256] at ho
            (refine x_split rfl rfl rfl (fun hc => absurd hc (by first | decide +kernel | (simp; first | done | fail))) (fun _ => ?_); refine st_ ?_; (refine ru_ ?_; intros))
            refine rn_ ?_; intros
            refine go_keep [1, 2] [0, 1] ?_
            refine st_ ?_
            obtain ⟨y, hy⟩ := vx_kid hvx hk hn
            exact ih q' _ (by omega) ⟨⟨m.fn, k, m.vars, []⟩, m :: l, y, _, _, _, G3, hle12.trans hle3, hy, by simp; omega, ho, hS, VT.rep_mono hle3 hvl2, rfl⟩
        · refine rn_ ?_; intros
          refine hs_ ?_
          refine hu_one 8 rfl (by kernel_rfl) ?_
          refine go_call (by rw [hnt]; rfl) (by rw [hP]; kernel_rfl) rfl (hP ▸ rmore_ok _ _ _ st 0 0 k p m l nd G2 hp2 hL2.1 ⟨_, _, _, rfl⟩ hvx.1.nd (by omega) hk64) ?_
          rintro _ G3 (hle3 : Le G2 G3) hq9
          obtain ⟨a9, c9, c8, st9, a8, fine, n9, rfl, hcs⟩ := rmoreO_cases hq9
          refine rn_ ?_; intros
          refine hs_ ?_
          refine hu_take0 9 rfl (by kernel_rfl) (by kernel_rfl) (by kernel_rfl) (by decide) (fun c a w v => hQp c a w _ v) (by rw [hnt]; rfl) (allIn (by repeat (first | exact trivial | refine ⟨rfl, ?_⟩))) (by first | exact Le.refl _ | assumption) (quiet_op (by rw [hty]; first | rfl | (refine st_ ?_; rfl))) ?_; refine st_ ?_
          refine hu_take0 10 rfl (by kernel_rfl) (by kernel_rfl) (by kernel_rfl) (by decide) (fun c a w v => hQp c a w _ v) (by rw [hnt]; rfl) (allIn (by repeat (first | exact trivial | refine ⟨rfl, ?_⟩))) (by first | exact Le.refl _ | assumption) (quiet_op (by rw [hty]; first | rfl | (refine st_ ?_; rfl))) ?_; refine st_ ?_
          refine hu_take0 11 rfl (by kernel_rfl) (by kernel_rfl) (by kernel_rfl) (by decide) (fun c a w v => hQp c a w _ v) (by rw [hnt]; rfl) (allIn (by repeat (first | exact trivial | refine ⟨rfl, ?_⟩))) (by first | exact Le.refl _ | assumption) (quiet_op (by rw [hty]; first | rfl | (refine st_ ?_; rfl))) ?_; refine st_ ?_
          refine hu_last 13 [] rfl (by kernel_rfl) rfl ?_
          refine rn_ ?_; intros
          refine h_one 14 rfl (by kernel_rfl) ?_
          refine rn_ ?_; intros
          refine hs_ ?_
          refine h_end (by kernel_rfl) ?_
          refine rn_ ?_; intros
          rcases hcs with ⟨rfl, h256, rfl, rfl, rfl, rfl, rfl, rfl⟩ | ⟨rfl, h256, rfl, rfl, rfl, hS⟩
          · rw [if_pos h256] at ho
            injection ho with ho
            subst ho
            (refine x_split rfl rfl rfl (fun _ => ?_) (fun hc => absurd hc (by first | decide +kernel | (simp; first | done | fail))); refine st_ ?_; (refine ru_ ?_; intros))
            refine rn_ ?_; intros
            refine xc_ hQ hmb ?_; simp only [SV.den, resV, dens]
            exact rfO_wrong _ _
          · rw [if_neg h256] at ho
            (refine x_split rfl rfl rfl (fun hc => absurd hc (by first | decide +kernel | (simp; first | done | fail))) (fun _ => ?_); refine st_ ?_; (refine ru_ ?_; intros))
            refine rn_ ?_; intros
            refine go_keep [1, 2] [0, 1] ?_
            refine st_ ?_
            obtain ⟨y, hy⟩ := vx_kid hvx hk hn
            exact ih q' _ (by omega) ⟨⟨m.fn, k, m.vars, []⟩, m :: l, y, _, _, _, G3, hle12.trans hle3, hy, by simp; omega, ho, hS, VT.rep_mono hle3 hvl2, rfl⟩
end Go.Proofs.YtpppkednpamhbaaGreat.R
namespace Go.Proofs.YtpppkednpamhbaaGreat
set_option linter.unusedSimpArgs false
set_option linter.unusedVariables false
open Go.Sx
theorem xvld_i (n : Int) : vld (.mk 2 n []) = true := by simp [vld, sml, cnt, cntL, shps, shpsL, shp]
theorem xnumF {a b y : VT} {g : Int → Int → Int} (h : numF a b g = some y) : vld y = true := by
  unfold numF at h
  split at h
  · injection h with h; subst h; exact xvld_i _
  · cases h
theorem xeqF {a b y : VT} (h : eqF a b = some y) : vld y = true := by
  unfold eqF at h
  split at h
  · injection h with h; subst h; exact xvld_i _
  · cases h
theorem xsml {x : VT} : sml x = true ↔ tsz x ≤ 256 := by
  simp only [sml, decide_eq_true_eq]
  rw [cnt_eq x 0 (by omega)]
  omega
theorem xshpsL : ∀ {l : List VT} {x : VT}, shpsL l = true → x ∈ l → shps x = true
  | y :: l, x, h, hx => by
    simp only [shpsL, Bool.and_eq_true] at h
    rcases List.mem_cons.1 hx with rfl | hx
    · exact h.1
    · exact xshpsL h.2 hx
theorem xvld_mem {a x : VT} (h : vld a = true) (hx : x ∈ a.l) : vld x = true := by
  simp only [vld, Bool.and_eq_true] at h ⊢
  have h1 := xsml.1 h.1
  have h2 := tszL_mem hx
  have h3 := tsz_l a
  refine ⟨xsml.2 (by omega), ?_⟩
  obtain ⟨k, n, l⟩ := a
  simp only [shps, Bool.and_eq_true] at h
  exact xshpsL h.2.2 hx
theorem xhalf {a y : VT} {i : Nat} (h : halfF i a = some y) : vld y = true := by
  unfold halfF at h
  split at h
  · rename_i hc
    injection h with h
    subst h
    simp only [Bool.and_eq_true] at hc
    rw [List.getD_eq_getElem?_getD]
    cases hq : a.l[i]? with
    | none => exact hc.1
    | some x => exact xvld_mem hc.1 (List.mem_of_getElem? hq)
  · cases h
theorem xvld_sz {v : VT} (h : vld v = true) : tsz v ≤ 256 := by
  simp only [vld, Bool.and_eq_true] at h
  exact xsml.1 h.1
theorem xtszL : ∀ {l : List VT}, (∀ v ∈ l, vld v = true) → tszL l ≤ 256 * l.length
  | [], _ => by simp [tszL]
  | v :: l, h => by
    have h1 := xvld_sz (h v (by simp))
    have h2 := xtszL (l := l) fun w hw => h w (by simp [hw])
    simp only [tszL, List.length_cons]
    omega
theorem res_tot {p : Pr} {x : Fm} {nd : Nd} (h : RX p 1 x nd) (h13 : nd.op ≠ 13) : ∃ ov, resF x nd = some ov ∧ ∀ v, ov = some v → vld v = true := by
  obtain ⟨⟨hpos, hdn, hvv, hvd⟩, n4, n5, hl, hst⟩ := h
  obtain ⟨hd64, hben, hnm, hi, hi2⟩ := hpos.facts
  obtain ⟨b4, b5, b24, b11, b6, b1, b16, _, _⟩ := ben_len hben
  unfold resF
  have two' : ∀ g : VT → VT → Option VT, nd.l.length = 2 → (∀ a b v, g a b = some v → vld v = true) → ∃ ov, two x.done g = some ov ∧ ∀ v, ov = some v → vld v = true := by
    intro g h2 hg
    cases hd1 : x.done with
    | nil => rw [hd1] at hl; simp at hl; omega
    | cons a t =>
      cases t with
      | nil => rw [hd1] at hl; simp at hl; omega
      | cons b t => exact ⟨_, rfl, fun v hv => hg a b v hv⟩
  have one' : ∀ g : VT → Option VT, nd.l.length = 1 → (∀ a v, g a = some v → vld v = true) → ∃ ov, one x.done g = some ov ∧ ∀ v, ov = some v → vld v = true := by
    intro g h2 hg
    cases hd1 : x.done with
    | nil => rw [hd1] at hl; simp at hl; omega
    | cons a t => exact ⟨_, rfl, fun v hv => hg a v hv⟩
  by_cases h3 : nd.op = 3
  · rw [if_pos h3]
    simp only [nmb, h3] at hnm
    rw [if_neg (by decide), if_pos trivial] at hnm
    simp only [Bool.and_eq_true, decide_eq_true_eq] at hnm
    rw [if_pos hnm.1]
    have hlt : nd.n.toNat < x.vars.length := by omega
    rw [List.getElem?_eq_getElem hlt]
    exact ⟨_, rfl, fun v hv => by injection hv with hv; subst hv; exact hvv _ (List.getElem_mem _)⟩
  rw [if_neg h3]
  by_cases h6 : nd.op = 6
  · rw [if_pos h6]; exact two' _ (b6 (.inl h6)) fun a b v => xnumF
  rw [if_neg h6]
  by_cases h7 : nd.op = 7
  · rw [if_pos h7]; exact two' _ (b6 (.inr (.inl h7))) fun a b v => xnumF
  rw [if_neg h7]
  by_cases h8 : nd.op = 8
  · rw [if_pos h8]; exact two' _ (b6 (.inr (.inr (.inl h8)))) fun a b v => xeqF
  rw [if_neg h8]
  by_cases h9 : nd.op = 9
  · rw [if_pos h9]; exact two' _ (b6 (.inr (.inr (.inr (.inl h9))))) fun a b v => xnumF
  rw [if_neg h9]
  by_cases h11 : nd.op = 11
  · rw [if_pos h11]; exact one' _ (b11 (.inl h11)) fun a v => xhalf
  rw [if_neg h11]
  by_cases h12 : nd.op = 12
  · rw [if_pos h12]; exact one' _ (b11 (.inr h12)) fun a v => xhalf
  rw [if_neg h12]
  have hts : tsz (.mk (kOf nd.op) nd.n x.done) ≤ 1000000 := by
    have := xtszL hvd
    simp only [tsz]
    omega
  rw [if_pos hts]
  refine ⟨_, rfl, fun v hv => ?_⟩
  split at hv
  · rename_i hc; injection hv with hv; subst hv; exact hc
  · cases hv
def VF (p : Pr) (s : Fb) : Prop := (VO p (s.st, s.l) ∨ (s.st = 3 ∧ s.l = [])) ∧ (s.st = 3 → vld s.val = true)
theorem go_tot {p : Pr} {s : Fb} {x : Fm} {r : List Fm} {nd : Nd} (h : VX p x nd) (hr : WS p r) (hr2 : r.length < 256) : ∃ o, goF p s (x :: r) = some o ∧ VF p o ∧ o.val = s.val := by
  obtain ⟨o, h1, h2⟩ := down_ok 600 x r nd h hr hr2 (by omega)
  refine ⟨⟨o.1, s.val, o.2⟩, by rw [goF, h1]; rfl, ⟨.inl h2, fun h3 => ?_⟩, rfl⟩
  rcases h2 with rfl | ⟨x', r', nd', h4, h5, _⟩
  · cases h3
  · have := h5.2.2.2.2
    simp only [] at h3
    omega
theorem prod_tot {p : Pr} {s : Fb} {v : VT} {x : Fm} {r : List Fm} (hs : s.l = x :: r) (hv : vld v = true) (hr : WS p r) (hr2 : r.length < 256) : ∃ o, prodF p s v = some o ∧ VF p o := by
  unfold prodF
  rw [hs]
  cases r with
  | nil => exact ⟨_, rfl, .inr ⟨rfl, rfl⟩, fun _ => hv⟩
  | cons y r =>
    obtain ⟨⟨nd, ⟨hpos, hdn, hvv, hvd⟩, hlt⟩, hr⟩ := hr
    have hm : many nd ≤ 16 := by
      have := (ben_len hpos.facts.2.1).2.2.2.2.2.2.1
      unfold many
      split <;> omega
    simp only []
    rw [if_pos (by omega)]
    obtain ⟨o, h1, h2, _⟩ := go_tot (s := s) (x := ⟨y.fn, y.nd, y.vars, y.done ++ [v]⟩) (r := r) (nd := nd) ⟨hpos, by simp; omega, hvv, fun w hw => by
      rcases List.mem_append.1 hw with hw | hw
      · exact hvd w hw
      · simp at hw; subst hw; exact hv⟩ hr (by simp at hr2; omega)
    exact ⟨o, h1, h2⟩
theorem step_tot {p : Pr} (hp : rgtP p = true) {s : Fb} (h : VF p s) : ∃ e o, stepP p s = some (e, o) ∧ VF p o := by
  unfold stepP
  by_cases h1 : s.st ≠ 1
  · rw [if_pos h1]; exact ⟨_, _, rfl, h⟩
  rw [if_neg h1]
  have h1 : s.st = 1 := by omega
  rcases h.1 with (h2 | ⟨x, r, nd, h2, h3, h4, h5⟩) | ⟨h2, _⟩
  · injection h2 with h2 _; omega
  · simp only [] at h2 h3
    rw [h2]
    simp only []
    rw [h3.1.1.nd]
    simp only []
    rw [h1] at h3
    by_cases h13 : nd.op = 13
    · rw [if_pos h13]
      obtain ⟨c1, c2, y, hy⟩ := h3.1.1.call hp h13
      have hl := h3.2.2.2.1
      obtain ⟨o, g1, g2, _⟩ := go_tot (s := s) (x := ⟨nd.n, 0, x.done, []⟩) (r := r) (nd := y) ⟨by rw [hl]; exact hy, by simp, h3.1.2.2.2, by simp⟩ h4 h5
      rw [g1]
      exact ⟨_, _, rfl, g2⟩
    · rw [if_neg h13]
      obtain ⟨ov, g1, g2⟩ := res_tot h3 h13
      rw [g1]
      cases ov with
      | none => exact ⟨_, _, rfl, .inl (.inl rfl), fun q => by cases q⟩
      | some v =>
        obtain ⟨o, k1, k2⟩ := prod_tot h2 (g2 v rfl) h4 h5
        simp only [k1]
        exact ⟨_, _, rfl, k2⟩
  · omega
theorem run_tot {p : Pr} (hp : rgtP p = true) : ∀ (k : Nat) {s : Fb}, VF p s → ∃ n o, runP p k s = some (n, o) ∧ VF p o ∧ n ≤ k
  | 0, s, h => ⟨0, s, rfl, h, Nat.le_refl _⟩
  | k + 1, s, h => by
    obtain ⟨e, o, h1, h2⟩ := step_tot hp h
    simp only [runP, h1]
    by_cases he : e = 0
    · rw [if_pos he]
      obtain ⟨n, o', h3, h4, h5⟩ := run_tot hp k h2
      rw [h3]
      exact ⟨n + 1, o', rfl, h4, by omega⟩
    · rw [if_neg he]
      exact ⟨0, o, rfl, h2, by omega⟩
end Go.Proofs.YtpppkednpamhbaaGreat
namespace Go.Proofs.YtpppkednpamhbaaGreat.R
set_option linter.unusedSimpArgs false
set_option linter.unusedVariables false
open Go.Sx
set_option maxHeartbeats 16000000
set_option maxRecDepth 20000
theorem rep0 {G : Hp} {k n : Int} (hk : isI64 k) (hn : isI64 n) : (VT.mk k n []).rep G (.slice none 0 0) := ⟨hk, hn, by simp, none, 0, rfl, .inl rfl⟩
theorem kOf_64 (op : Int) : isI64 (kOf op) := by
  unfold kOf
  repeat' split
  all_goals simp [isI64]
theorem rkind_ok (op : Int) (G : Hp) (h64 : isI64 op) (h : op = 10 ∨ 16 ≤ op ∧ op ≤ 23) : Pure Tryz.prog 104 [.int .i64 op] G (fun v _ => v = .int .i64 (kOf op)) := by
  refine enterX ty tyok Tryz.func104 rfl Tryz.ntmps104 [.v (.int .i64 op)] (by simp) ?_
  intro C hP hQ hnt hty hmb hmh hro; have hQp := qp_body hQ; refine st_ ?_
  refine rn_ ?_; intros
  refine x_split rfl rfl rfl (fun h1 => ?_) (fun h1 => ?_) <;> (refine st_ ?_; (refine ru_ ?_; intros))
  · have hop : op = 10 := by simpa using h1
    subst hop
    refine rn_ ?_; intros
    refine xc_ hQ hmb ?_; simp only [SV.den, resV, dens]
    rfl
  have hop : ¬ op = 10 := by simpa using h1
  refine rn_ ?_; intros
  rw [wr (n := op - 11) (by omega) (by omega)]
  refine xc_ hQ hmb ?_; simp only [SV.den, resV, dens]
  have e : kOf op = op - 11 := by
    unfold kOf
    repeat' split
    all_goals omega
  rw [e]
def rmkPost (o : Option VT) (v : Value) (G : Hp) : Prop := match o with
  | none => ∃ k n a m c, v = .tuple #[.agg #[.int .i64 k, .int .i64 n, .slice a m c], .bool false]
  | some y => ∃ sl, v = .tuple #[.agg #[.int .i64 y.k, .int .i64 y.n, sl], .bool true] ∧ y.rep G sl ∧ tsz y ≤ 1000
theorem rmakes_ok (f nn : Int) (nd : Nd) (sn sl sv : Value) (l vars : List VT) (o : Option VT) (G : Hp) (hnl : rI.S G nd.l sn) (hn64 : isI64 nd.n) (ho64 : isI64 nd.op) (hsl : rW.S G l sl) (hsv : rW.S G vars sv) (hll : l.length ≤ 1000)
    (hop1 : nd.op = 1 ∨ nd.op = 2 → l = []) (hop2 : nd.op = 2 → nd.n = 0) (hopd : nd.op = 1 ∨ nd.op = 2 ∨ nd.op = 3 ∨ (6 ≤ nd.op ∧ nd.op ≤ 12) ∨ (16 ≤ nd.op ∧ nd.op ≤ 23)) (ho : resF ⟨f, nn, vars, l⟩ nd = some o) :
    Pure Tryz.prog 75 [.agg #[.int .i64 f, .int .i64 nn, sv, sl], .agg #[.int .i64 nd.op, .int .i64 nd.n, sn]] G (rmkPost o) := by
  obtain ⟨anl, cnl, rfl⟩ := Rp.S_slice hnl
  obtain ⟨al, cl, rfl⟩ := Rp.S_slice hsl
  obtain ⟨av, cv', rfl⟩ := Rp.S_slice hsv
  unfold resF at ho
  simp only [] at ho
  refine enterX ty tyok Tryz.func75 rfl Tryz.ntmps75 [.a [.v (.int .i64 f), .v (.int .i64 nn), .v (.slice av vars.length cv'), .v (.slice al l.length cl)], .a [.v (.int .i64 nd.op), .v (.int .i64 nd.n), .v (.slice anl nd.l.length cnl)]] (by simp) ?_
  intro C hP hQ hnt hty hmb hmh hro; have hQp := qp_body hQ; refine st_ ?_
  refine rn_ ?_; intros
  rename_i b2 b3 b4 b6
  refine rn_ ?_; intros
  refine x_split rfl rfl rfl (fun h1 => ?_) (fun h1 => ?_) <;> (refine st_ ?_; (refine ru_ ?_; intros))
  · have hop : nd.op = 1 := by simpa using h1
    simp only [hop, Int.reduceEq, if_false, if_true] at ho
    obtain rfl := hop1 (.inl hop)
    split at ho
    rotate_left
    · cases ho
    injection ho with ho
    refine rn_ ?_; intros
    refine xc_ hQ hmb ?_; simp only [SV.den, resV, dens]
    rw [← ho, if_pos (by rw [show kOf 1 = 2 from rfl]; exact xvld_i _)]
    exact ⟨_, rfl, rep0 (by simp [isI64, kOf]) hn64, by simp [tsz, tszL]⟩
  refine rn_ ?_; intros
  refine x_split rfl rfl rfl (fun h2 => ?_) (fun h2 => ?_) <;> (refine st_ ?_; (refine ru_ ?_; intros))
  · have hop : nd.op = 2 := by simpa using h2
    simp only [hop, Int.reduceEq, if_false, if_true] at ho
    obtain rfl := hop1 (.inr hop)
    rw [hop2 hop] at ho
    split at ho
    rotate_left
    · cases ho
    injection ho with ho
    refine rn_ ?_; intros
    refine xc_ hQ hmb ?_; simp only [SV.den, resV, dens]
    rw [← ho, if_pos (by rw [show kOf 2 = 1 from rfl]; simp [vld, sml, cnt, cntL, shps, shpsL, shp])]
    exact ⟨_, rfl, rep0 (by simp [isI64, kOf]) (by simp [isI64]), by simp [tsz, tszL]⟩
  refine rn_ ?_; intros
  refine x_split rfl rfl rfl (fun h3 => ?_) (fun h3 => ?_) <;> (refine st_ ?_; (refine ru_ ?_; intros))
  · have hop : nd.op = 3 := by simpa using h3
    simp only [hop, Int.reduceEq, if_false, if_true] at ho
    split at ho
    rotate_left
    · cases ho
    rename_i hn0
    cases hv : vars[nd.n.toNat]? with
    | none => rw [hv] at ho; cases ho
    | some y =>
    rw [hv] at ho
    simp only [Option.map_some, Option.some.injEq] at ho
    subst ho
    obtain ⟨hi, hy⟩ := List.getElem?_eq_some_iff.1 hv
    obtain ⟨bV, oV, sv9, rfl, hatV, hrV, htV⟩ := rW_at hsv hi
    rw [hy] at hatV hrV htV
    obtain ⟨a9, c9, rfl⟩ := VT.rep_slice hrV
    refine rn_ ?_; intros
    refine go_q (v := .pointer (some ⟨bV, oV + nd.n.toNat * 3, none⟩)) (by rw [hnt]; rfl) ((quiet_index (by rw [hty]; rfl) (by rw [hty]; rfl) rfl rfl rfl (by omega) (by omega)).cast (by rfl)) ?_
    refine rn_ ?_; intros
    refine go_q (v := .agg #[.int .i64 y.k, .int .i64 y.n, .slice a9 y.l.length c9]) (by rw [hnt]; rfl) ((quiet_load (by rw [hty]; rfl) rfl (by simp [TK.agg]) hatV rfl).cast (by rfl)) ?_
    refine rn_ ?_; intros
    refine xc_ hQ hmb ?_; simp only [SV.den, resV, dens]
    exact ⟨_, rfl, hrV, htV⟩
  refine cut_tailK 2 (fun s' => ∃ (G1 : Hp) (y : VT) (slk : Value) (e : Int), Le G G1 ∧ s' = ⟨[(4, .p 2 b4 0), (5, .b false), (6, .p 3 b6 0), (7, .v (.int .i64 e))], [(2, b4, .c 42 [.v (.int .i64 0), .v (.int .i64 0), .v (.slice none 0 0)]), (3, b6, .c 42 [.v (.int .i64 y.k), .v (.int .i64 y.n), .v slk])], G1, []⟩ ∧
    ((e = 0 ∧ y.rep G1 slk ∧ tsz y ≤ 2000000 ∧ o = if vld y then some y else none) ∨ (e ≠ 0 ∧ o = none ∧ ∃ ad m c, slk = .slice ad m c))) ?_ ?_
  rotate_left
  · intro Kr hK
    simp only [List.take_succ_cons, List.take_zero, List.cons_append, List.nil_append]
    refine x_split rfl rfl rfl (fun h6 => ?_) (fun h6 => ?_) <;> (refine st_ ?_; (refine ru_ ?_; intros))
    · have hop : nd.op = 6 := by simpa using h6
      simp only [hop, Int.reduceEq, if_false, if_true] at ho
      obtain ⟨a, b', t, hdn, ho⟩ := two_some ho
      have hl2 : 2 ≤ l.length := by rw [hdn]; simp
      obtain ⟨bD, oD, s0, rfl, hat0, hr0, ht0⟩ := rW_at hsl (i := 0) (by omega)
      obtain ⟨bD', oD', s1, e1, hat1, hr1, ht1⟩ := rW_at hsl (i := 1) (by omega)
      cases e1
      have e0 : l[0]'(by omega) = a := by simp [hdn]
      have e1 : l[1]'(by omega) = b' := by simp [hdn]
      rw [e0] at hat0 hr0 ht0
      rw [e1] at hat1 hr1 ht1
      obtain ⟨a8, c8, rfl⟩ := VT.rep_slice hr0
      obtain ⟨a9, c9, rfl⟩ := VT.rep_slice hr1
      refine rn_ ?_; intros
      refine x_heldP [(0, b2, .c 96 [.v (.int .i64 f), .v (.int .i64 nn), .v (.slice av vars.length cv'), .v (.slice (some ⟨bD, oD, none⟩) l.length cl)])] 12 rfl (by rw [hP]; kernel_rfl) rfl rfl rfl ?_; refine st_ ?_
      refine hu_take0 0 rfl (by kernel_rfl) (by kernel_rfl) (by kernel_rfl) (by decide) (fun c a w v => hQp c a w _ v) (by rw [hnt]; rfl) (allIn (by repeat (first | exact trivial | refine ⟨rfl, ?_⟩))) (by first | exact Le.refl _ | assumption) (quiet_op (by rw [hty]; first | rfl | (refine st_ ?_; rfl))) ?_; refine st_ ?_
      refine hu_takeB 1 [1, 12] rfl (by kernel_rfl) (by kernel_rfl) (by kernel_rfl) (by kernel_rfl) (fun c a w v => hQp c a w _ v) (by rw [hnt]; rfl) (allIn (by repeat (first | exact trivial | refine ⟨rfl, ?_⟩))) (by first | exact Le.refl _ | assumption) (quiet_op (by rw [hty]; first | rfl | (refine st_ ?_; rfl))) ?_; refine st_ ?_
      refine hu_takeB 2 [2, 12] rfl (by kernel_rfl) (by kernel_rfl) (by kernel_rfl) (by kernel_rfl) (fun c a w v => hQp c a w _ v) (by rw [hnt]; rfl) (allIn (by repeat (first | exact trivial | refine ⟨rfl, ?_⟩))) (by first | exact Le.refl _ | assumption) (x := .v (.pointer (some ⟨bD, oD + 0 * 3, none⟩))) ((quiet_index (by rw [hty]; rfl) (by rw [hty]; rfl) rfl rfl rfl (by omega) (by omega)).cast (by rfl)) ?_
      refine st_ ?_
      refine hu_takeB 3 [3, 12] rfl (by kernel_rfl) (by kernel_rfl) (by kernel_rfl) (by kernel_rfl) (fun c a w v => hQp c a w _ v) (by rw [hnt]; rfl) (allIn (by repeat (first | exact trivial | refine ⟨rfl, ?_⟩))) (by first | exact Le.refl _ | assumption) (x := .a [.v (.int .i64 a.k), .v (.int .i64 a.n), .v (.slice a8 a.l.length c8)]) ((quiet_load (by rw [hty]; rfl) rfl (by simp [TK.agg]) hat0 rfl).cast (by rfl)) ?_
      refine st_ ?_
      refine hu_take0 4 rfl (by kernel_rfl) (by kernel_rfl) (by kernel_rfl) (by decide) (fun c a w v => hQp c a w _ v) (by rw [hnt]; rfl) (allIn (by repeat (first | exact trivial | refine ⟨rfl, ?_⟩))) (by first | exact Le.refl _ | assumption) (quiet_op (by rw [hty]; first | rfl | (refine st_ ?_; rfl))) ?_; refine st_ ?_
      refine hu_takeB 5 [5, 12] rfl (by kernel_rfl) (by kernel_rfl) (by kernel_rfl) (by kernel_rfl) (fun c a w v => hQp c a w _ v) (by rw [hnt]; rfl) (allIn (by repeat (first | exact trivial | refine ⟨rfl, ?_⟩))) (by first | exact Le.refl _ | assumption) (quiet_op (by rw [hty]; first | rfl | (refine st_ ?_; rfl))) ?_; refine st_ ?_
      refine hu_takeB 6 [6, 12] rfl (by kernel_rfl) (by kernel_rfl) (by kernel_rfl) (by kernel_rfl) (fun c a w v => hQp c a w _ v) (by rw [hnt]; rfl) (allIn (by repeat (first | exact trivial | refine ⟨rfl, ?_⟩))) (by first | exact Le.refl _ | assumption) (x := .v (.pointer (some ⟨bD, oD + 1 * 3, none⟩))) ((quiet_index (by rw [hty]; rfl) (by rw [hty]; rfl) rfl rfl rfl (by omega) (by omega)).cast (by rfl)) ?_
      refine st_ ?_
      refine hu_takeB 7 [7, 12] rfl (by kernel_rfl) (by kernel_rfl) (by kernel_rfl) (by kernel_rfl) (fun c a w v => hQp c a w _ v) (by rw [hnt]; rfl) (allIn (by repeat (first | exact trivial | refine ⟨rfl, ?_⟩))) (by first | exact Le.refl _ | assumption) (x := .a [.v (.int .i64 b'.k), .v (.int .i64 b'.n), .v (.slice a9 b'.l.length c9)]) ((quiet_load (by rw [hty]; rfl) rfl (by simp [TK.agg]) hat1 rfl).cast (by rfl)) ?_
      refine st_ ?_
      refine hu_one 8 rfl (by kernel_rfl) ?_
      refine go_call (by rw [hnt]; rfl) (by rw [hP]; kernel_rfl) rfl (hP ▸ radd_ok a b' _ _ G hr0 hr1 (by omega) (by omega)) ?_
      rintro _ G3 (hle3 : Le G G3) rfl
      obtain ⟨kk, nn9, ee, hnum, hcs⟩ := numd_cases a b' (fun m n => IntKind.i64.wrap (m + n)) (fun _ _ => wrapI _)
      rw [hnum]
      refine rn_ ?_; intros
      refine hs_ ?_
      refine hu_take0 9 rfl (by kernel_rfl) (by kernel_rfl) (by kernel_rfl) (by decide) (fun c a w v => hQp c a w _ v) (by rw [hnt]; rfl) (allIn (by repeat (first | exact trivial | refine ⟨rfl, ?_⟩))) (by first | exact Le.refl _ | assumption) (quiet_op (by rw [hty]; first | rfl | (refine st_ ?_; rfl))) ?_; refine st_ ?_
      refine hu_take0 10 rfl (by kernel_rfl) (by kernel_rfl) (by kernel_rfl) (by decide) (fun c a w v => hQp c a w _ v) (by rw [hnt]; rfl) (allIn (by repeat (first | exact trivial | refine ⟨rfl, ?_⟩))) (by first | exact Le.refl _ | assumption) (quiet_op (by rw [hty]; first | rfl | (refine st_ ?_; rfl))) ?_; refine st_ ?_
      refine hu_take0 11 rfl (by kernel_rfl) (by kernel_rfl) (by kernel_rfl) (by decide) (fun c a w v => hQp c a w _ v) (by rw [hnt]; rfl) (allIn (by repeat (first | exact trivial | refine ⟨rfl, ?_⟩))) (by first | exact Le.refl _ | assumption) (quiet_op (by rw [hty]; first | rfl | (refine st_ ?_; rfl))) ?_; refine st_ ?_
      refine hu_last 12 [] rfl (by kernel_rfl) rfl ?_
      refine rn_ ?_; intros
      refine h_one 13 rfl (by kernel_rfl) ?_
      refine rn_ ?_; intros
      refine hs_ ?_
      refine h_end (by kernel_rfl) ?_
      refine rn_ ?_; intros
      refine go_keep [4, 5, 6, 7] [2, 3] ?_
      refine st_ ?_
      refine hK _ ⟨G3, .mk kk nn9 [], .slice none 0 0, ee, hle3, rfl, ?_⟩
      rcases hcs with ⟨hn, he⟩ | ⟨hn, he, hr⟩
      · exact .inr ⟨he, by rw [← ho, hn], _, _, _, rfl⟩
      · exact .inl ⟨he, hr G3, by simp [tsz, tszL], by rw [← ho, hn, if_pos (xnumF hn)]⟩
    refine rn_ ?_; intros
    refine x_split rfl rfl rfl (fun h7 => ?_) (fun h7 => ?_) <;> (refine st_ ?_; (refine ru_ ?_; intros))
    · have hop : nd.op = 7 := by simpa using h7
      simp only [hop, Int.reduceEq, if_false, if_true] at ho
      obtain ⟨a, b', t, hdn, ho⟩ := two_some ho
      have hl2 : 2 ≤ l.length := by rw [hdn]; simp
      obtain ⟨bD, oD, s0, rfl, hat0, hr0, ht0⟩ := rW_at hsl (i := 0) (by omega)
      obtain ⟨bD', oD', s1, e1, hat1, hr1, ht1⟩ := rW_at hsl (i := 1) (by omega)
      cases e1
      have e0 : l[0]'(by omega) = a := by simp [hdn]
      have e1 : l[1]'(by omega) = b' := by simp [hdn]
      rw [e0] at hat0 hr0 ht0
      rw [e1] at hat1 hr1 ht1
      obtain ⟨a8, c8, rfl⟩ := VT.rep_slice hr0
      obtain ⟨a9, c9, rfl⟩ := VT.rep_slice hr1
      refine rn_ ?_; intros
      refine x_heldP [(0, b2, .c 96 [.v (.int .i64 f), .v (.int .i64 nn), .v (.slice av vars.length cv'), .v (.slice (some ⟨bD, oD, none⟩) l.length cl)])] 12 rfl (by rw [hP]; kernel_rfl) rfl rfl rfl ?_; refine st_ ?_
      refine hu_take0 0 rfl (by kernel_rfl) (by kernel_rfl) (by kernel_rfl) (by decide) (fun c a w v => hQp c a w _ v) (by rw [hnt]; rfl) (allIn (by repeat (first | exact trivial | refine ⟨rfl, ?_⟩))) (by first | exact Le.refl _ | assumption) (quiet_op (by rw [hty]; first | rfl | (refine st_ ?_; rfl))) ?_; refine st_ ?_
      refine hu_takeB 1 [1, 12] rfl (by kernel_rfl) (by kernel_rfl) (by kernel_rfl) (by kernel_rfl) (fun c a w v => hQp c a w _ v) (by rw [hnt]; rfl) (allIn (by repeat (first | exact trivial | refine ⟨rfl, ?_⟩))) (by first | exact Le.refl _ | assumption) (quiet_op (by rw [hty]; first | rfl | (refine st_ ?_; rfl))) ?_; refine st_ ?_
      refine hu_takeB 2 [2, 12] rfl (by kernel_rfl) (by kernel_rfl) (by kernel_rfl) (by kernel_rfl) (fun c a w v => hQp c a w _ v) (by rw [hnt]; rfl) (allIn (by repeat (first | exact trivial | refine ⟨rfl, ?_⟩))) (by first | exact Le.refl _ | assumption) (x := .v (.pointer (some ⟨bD, oD + 0 * 3, none⟩))) ((quiet_index (by rw [hty]; rfl) (by rw [hty]; rfl) rfl rfl rfl (by omega) (by omega)).cast (by rfl)) ?_
      refine st_ ?_
      refine hu_takeB 3 [3, 12] rfl (by kernel_rfl) (by kernel_rfl) (by kernel_rfl) (by kernel_rfl) (fun c a w v => hQp c a w _ v) (by rw [hnt]; rfl) (allIn (by repeat (first | exact trivial | refine ⟨rfl, ?_⟩))) (by first | exact Le.refl _ | assumption) (x := .a [.v (.int .i64 a.k), .v (.int .i64 a.n), .v (.slice a8 a.l.length c8)]) ((quiet_load (by rw [hty]; rfl) rfl (by simp [TK.agg]) hat0 rfl).cast (by rfl)) ?_
      refine st_ ?_
      refine hu_take0 4 rfl (by kernel_rfl) (by kernel_rfl) (by kernel_rfl) (by decide) (fun c a w v => hQp c a w _ v) (by rw [hnt]; rfl) (allIn (by repeat (first | exact trivial | refine ⟨rfl, ?_⟩))) (by first | exact Le.refl _ | assumption) (quiet_op (by rw [hty]; first | rfl | (refine st_ ?_; rfl))) ?_; refine st_ ?_
      refine hu_takeB 5 [5, 12] rfl (by kernel_rfl) (by kernel_rfl) (by kernel_rfl) (by kernel_rfl) (fun c a w v => hQp c a w _ v) (by rw [hnt]; rfl) (allIn (by repeat (first | exact trivial | refine ⟨rfl, ?_⟩))) (by first | exact Le.refl _ | assumption) (quiet_op (by rw [hty]; first | rfl | (refine st_ ?_; rfl))) ?_; refine st_ ?_
      refine hu_takeB 6 [6, 12] rfl (by kernel_rfl) (by kernel_rfl) (by kernel_rfl) (by kernel_rfl) (fun c a w v => hQp c a w _ v) (by rw [hnt]; rfl) (allIn (by repeat (first | exact trivial | refine ⟨rfl, ?_⟩))) (by first | exact Le.refl _ | assumption) (x := .v (.pointer (some ⟨bD, oD + 1 * 3, none⟩))) ((quiet_index (by rw [hty]; rfl) (by rw [hty]; rfl) rfl rfl rfl (by omega) (by omega)).cast (by rfl)) ?_
      refine st_ ?_
      refine hu_takeB 7 [7, 12] rfl (by kernel_rfl) (by kernel_rfl) (by kernel_rfl) (by kernel_rfl) (fun c a w v => hQp c a w _ v) (by rw [hnt]; rfl) (allIn (by repeat (first | exact trivial | refine ⟨rfl, ?_⟩))) (by first | exact Le.refl _ | assumption) (x := .a [.v (.int .i64 b'.k), .v (.int .i64 b'.n), .v (.slice a9 b'.l.length c9)]) ((quiet_load (by rw [hty]; rfl) rfl (by simp [TK.agg]) hat1 rfl).cast (by rfl)) ?_
      refine st_ ?_
      refine hu_one 8 rfl (by kernel_rfl) ?_
      refine go_call (by rw [hnt]; rfl) (by rw [hP]; kernel_rfl) rfl (hP ▸ rsub_ok a b' _ _ G hr0 hr1 (by omega) (by omega)) ?_
      rintro _ G3 (hle3 : Le G G3) rfl
      obtain ⟨kk, nn9, ee, hnum, hcs⟩ := numd_cases a b' (fun m n => IntKind.i64.wrap (m - n)) (fun _ _ => wrapI _)
      rw [hnum]
      refine rn_ ?_; intros
      refine hs_ ?_
      refine hu_take0 9 rfl (by kernel_rfl) (by kernel_rfl) (by kernel_rfl) (by decide) (fun c a w v => hQp c a w _ v) (by rw [hnt]; rfl) (allIn (by repeat (first | exact trivial | refine ⟨rfl, ?_⟩))) (by first | exact Le.refl _ | assumption) (quiet_op (by rw [hty]; first | rfl | (refine st_ ?_; rfl))) ?_; refine st_ ?_
      refine hu_take0 10 rfl (by kernel_rfl) (by kernel_rfl) (by kernel_rfl) (by decide) (fun c a w v => hQp c a w _ v) (by rw [hnt]; rfl) (allIn (by repeat (first | exact trivial | refine ⟨rfl, ?_⟩))) (by first | exact Le.refl _ | assumption) (quiet_op (by rw [hty]; first | rfl | (refine st_ ?_; rfl))) ?_; refine st_ ?_
      refine hu_take0 11 rfl (by kernel_rfl) (by kernel_rfl) (by kernel_rfl) (by decide) (fun c a w v => hQp c a w _ v) (by rw [hnt]; rfl) (allIn (by repeat (first | exact trivial | refine ⟨rfl, ?_⟩))) (by first | exact Le.refl _ | assumption) (quiet_op (by rw [hty]; first | rfl | (refine st_ ?_; rfl))) ?_; refine st_ ?_
      refine hu_last 12 [] rfl (by kernel_rfl) rfl ?_
      refine rn_ ?_; intros
      refine h_one 13 rfl (by kernel_rfl) ?_
      refine rn_ ?_; intros
      refine hs_ ?_
      refine h_end (by kernel_rfl) ?_
      refine rn_ ?_; intros
      refine go_keep [4, 5, 6, 7] [2, 3] ?_
      refine st_ ?_
      refine hK _ ⟨G3, .mk kk nn9 [], .slice none 0 0, ee, hle3, rfl, ?_⟩
      rcases hcs with ⟨hn, he⟩ | ⟨hn, he, hr⟩
      · exact .inr ⟨he, by rw [← ho, hn], _, _, _, rfl⟩
      · exact .inl ⟨he, hr G3, by simp [tsz, tszL], by rw [← ho, hn, if_pos (xnumF hn)]⟩
    refine rn_ ?_; intros
    refine x_split rfl rfl rfl (fun h8 => ?_) (fun h8 => ?_) <;> (refine st_ ?_; (refine ru_ ?_; intros))
    · have hop : nd.op = 8 := by simpa using h8
      simp only [hop, Int.reduceEq, if_false, if_true] at ho
      obtain ⟨a, b', t, hdn, ho⟩ := two_some ho
      have hl2 : 2 ≤ l.length := by rw [hdn]; simp
      obtain ⟨bD, oD, s0, rfl, hat0, hr0, ht0⟩ := rW_at hsl (i := 0) (by omega)
      obtain ⟨bD', oD', s1, e1, hat1, hr1, ht1⟩ := rW_at hsl (i := 1) (by omega)
      cases e1
      have e0 : l[0]'(by omega) = a := by simp [hdn]
      have e1 : l[1]'(by omega) = b' := by simp [hdn]
      rw [e0] at hat0 hr0 ht0
      rw [e1] at hat1 hr1 ht1
      obtain ⟨a8, c8, rfl⟩ := VT.rep_slice hr0
      obtain ⟨a9, c9, rfl⟩ := VT.rep_slice hr1
      refine rn_ ?_; intros
      refine x_heldP [(0, b2, .c 96 [.v (.int .i64 f), .v (.int .i64 nn), .v (.slice av vars.length cv'), .v (.slice (some ⟨bD, oD, none⟩) l.length cl)])] 12 rfl (by rw [hP]; kernel_rfl) rfl rfl rfl ?_; refine st_ ?_
      refine hu_take0 0 rfl (by kernel_rfl) (by kernel_rfl) (by kernel_rfl) (by decide) (fun c a w v => hQp c a w _ v) (by rw [hnt]; rfl) (allIn (by repeat (first | exact trivial | refine ⟨rfl, ?_⟩))) (by first | exact Le.refl _ | assumption) (quiet_op (by rw [hty]; first | rfl | (refine st_ ?_; rfl))) ?_; refine st_ ?_
      refine hu_takeB 1 [1, 12] rfl (by kernel_rfl) (by kernel_rfl) (by kernel_rfl) (by kernel_rfl) (fun c a w v => hQp c a w _ v) (by rw [hnt]; rfl) (allIn (by repeat (first | exact trivial | refine ⟨rfl, ?_⟩))) (by first | exact Le.refl _ | assumption) (quiet_op (by rw [hty]; first | rfl | (refine st_ ?_; rfl))) ?_; refine st_ ?_
      refine hu_takeB 2 [2, 12] rfl (by kernel_rfl) (by kernel_rfl) (by kernel_rfl) (by kernel_rfl) (fun c a w v => hQp c a w _ v) (by rw [hnt]; rfl) (allIn (by repeat (first | exact trivial | refine ⟨rfl, ?_⟩))) (by first | exact Le.refl _ | assumption) (x := .v (.pointer (some ⟨bD, oD + 0 * 3, none⟩))) ((quiet_index (by rw [hty]; rfl) (by rw [hty]; rfl) rfl rfl rfl (by omega) (by omega)).cast (by rfl)) ?_
      refine st_ ?_
      refine hu_takeB 3 [3, 12] rfl (by kernel_rfl) (by kernel_rfl) (by kernel_rfl) (by kernel_rfl) (fun c a w v => hQp c a w _ v) (by rw [hnt]; rfl) (allIn (by repeat (first | exact trivial | refine ⟨rfl, ?_⟩))) (by first | exact Le.refl _ | assumption) (x := .a [.v (.int .i64 a.k), .v (.int .i64 a.n), .v (.slice a8 a.l.length c8)]) ((quiet_load (by rw [hty]; rfl) rfl (by simp [TK.agg]) hat0 rfl).cast (by rfl)) ?_
      refine st_ ?_
      refine hu_take0 4 rfl (by kernel_rfl) (by kernel_rfl) (by kernel_rfl) (by decide) (fun c a w v => hQp c a w _ v) (by rw [hnt]; rfl) (allIn (by repeat (first | exact trivial | refine ⟨rfl, ?_⟩))) (by first | exact Le.refl _ | assumption) (quiet_op (by rw [hty]; first | rfl | (refine st_ ?_; rfl))) ?_; refine st_ ?_
      refine hu_takeB 5 [5, 12] rfl (by kernel_rfl) (by kernel_rfl) (by kernel_rfl) (by kernel_rfl) (fun c a w v => hQp c a w _ v) (by rw [hnt]; rfl) (allIn (by repeat (first | exact trivial | refine ⟨rfl, ?_⟩))) (by first | exact Le.refl _ | assumption) (quiet_op (by rw [hty]; first | rfl | (refine st_ ?_; rfl))) ?_; refine st_ ?_
      refine hu_takeB 6 [6, 12] rfl (by kernel_rfl) (by kernel_rfl) (by kernel_rfl) (by kernel_rfl) (fun c a w v => hQp c a w _ v) (by rw [hnt]; rfl) (allIn (by repeat (first | exact trivial | refine ⟨rfl, ?_⟩))) (by first | exact Le.refl _ | assumption) (x := .v (.pointer (some ⟨bD, oD + 1 * 3, none⟩))) ((quiet_index (by rw [hty]; rfl) (by rw [hty]; rfl) rfl rfl rfl (by omega) (by omega)).cast (by rfl)) ?_
      refine st_ ?_
      refine hu_takeB 7 [7, 12] rfl (by kernel_rfl) (by kernel_rfl) (by kernel_rfl) (by kernel_rfl) (fun c a w v => hQp c a w _ v) (by rw [hnt]; rfl) (allIn (by repeat (first | exact trivial | refine ⟨rfl, ?_⟩))) (by first | exact Le.refl _ | assumption) (x := .a [.v (.int .i64 b'.k), .v (.int .i64 b'.n), .v (.slice a9 b'.l.length c9)]) ((quiet_load (by rw [hty]; rfl) rfl (by simp [TK.agg]) hat1 rfl).cast (by rfl)) ?_
      refine st_ ?_
      refine hu_one 8 rfl (by kernel_rfl) ?_
      refine go_call (by rw [hnt]; rfl) (by rw [hP]; kernel_rfl) rfl (hP ▸ req_ok a b' _ _ G hr0 hr1 (by omega) (by omega)) ?_
      rintro _ G3 (hle3 : Le G G3) rfl
      obtain ⟨kk, nn9, ee, hnum, hcs⟩ := eqd_cases a b'
      rw [hnum]
      refine rn_ ?_; intros
      refine hs_ ?_
      refine hu_take0 9 rfl (by kernel_rfl) (by kernel_rfl) (by kernel_rfl) (by decide) (fun c a w v => hQp c a w _ v) (by rw [hnt]; rfl) (allIn (by repeat (first | exact trivial | refine ⟨rfl, ?_⟩))) (by first | exact Le.refl _ | assumption) (quiet_op (by rw [hty]; first | rfl | (refine st_ ?_; rfl))) ?_; refine st_ ?_
      refine hu_take0 10 rfl (by kernel_rfl) (by kernel_rfl) (by kernel_rfl) (by decide) (fun c a w v => hQp c a w _ v) (by rw [hnt]; rfl) (allIn (by repeat (first | exact trivial | refine ⟨rfl, ?_⟩))) (by first | exact Le.refl _ | assumption) (quiet_op (by rw [hty]; first | rfl | (refine st_ ?_; rfl))) ?_; refine st_ ?_
      refine hu_take0 11 rfl (by kernel_rfl) (by kernel_rfl) (by kernel_rfl) (by decide) (fun c a w v => hQp c a w _ v) (by rw [hnt]; rfl) (allIn (by repeat (first | exact trivial | refine ⟨rfl, ?_⟩))) (by first | exact Le.refl _ | assumption) (quiet_op (by rw [hty]; first | rfl | (refine st_ ?_; rfl))) ?_; refine st_ ?_
      refine hu_last 12 [] rfl (by kernel_rfl) rfl ?_
      refine rn_ ?_; intros
      refine h_one 13 rfl (by kernel_rfl) ?_
      refine rn_ ?_; intros
      refine hs_ ?_
      refine h_end (by kernel_rfl) ?_
      refine rn_ ?_; intros
      refine go_keep [4, 5, 6, 7] [2, 3] ?_
      refine st_ ?_
      refine hK _ ⟨G3, .mk kk nn9 [], .slice none 0 0, ee, hle3, rfl, ?_⟩
      rcases hcs with ⟨hn, he⟩ | ⟨hn, he, hr⟩
      · exact .inr ⟨he, by rw [← ho, hn], _, _, _, rfl⟩
      · exact .inl ⟨he, hr G3, by simp [tsz, tszL], by rw [← ho, hn, if_pos (xeqF hn)]⟩
    refine rn_ ?_; intros
    refine x_split rfl rfl rfl (fun h9 => ?_) (fun h9 => ?_) <;> (refine st_ ?_; (refine ru_ ?_; intros))
    · have hop : nd.op = 9 := by simpa using h9
      simp only [hop, Int.reduceEq, if_false, if_true] at ho
      obtain ⟨a, b', t, hdn, ho⟩ := two_some ho
      have hl2 : 2 ≤ l.length := by rw [hdn]; simp
      obtain ⟨bD, oD, s0, rfl, hat0, hr0, ht0⟩ := rW_at hsl (i := 0) (by omega)
      obtain ⟨bD', oD', s1, e1, hat1, hr1, ht1⟩ := rW_at hsl (i := 1) (by omega)
      cases e1
      have e0 : l[0]'(by omega) = a := by simp [hdn]
      have e1 : l[1]'(by omega) = b' := by simp [hdn]
      rw [e0] at hat0 hr0 ht0
      rw [e1] at hat1 hr1 ht1
      obtain ⟨a8, c8, rfl⟩ := VT.rep_slice hr0
      obtain ⟨a9, c9, rfl⟩ := VT.rep_slice hr1
      refine rn_ ?_; intros
      refine x_heldP [(0, b2, .c 96 [.v (.int .i64 f), .v (.int .i64 nn), .v (.slice av vars.length cv'), .v (.slice (some ⟨bD, oD, none⟩) l.length cl)])] 12 rfl (by rw [hP]; kernel_rfl) rfl rfl rfl ?_; refine st_ ?_
      refine hu_take0 0 rfl (by kernel_rfl) (by kernel_rfl) (by kernel_rfl) (by decide) (fun c a w v => hQp c a w _ v) (by rw [hnt]; rfl) (allIn (by repeat (first | exact trivial | refine ⟨rfl, ?_⟩))) (by first | exact Le.refl _ | assumption) (quiet_op (by rw [hty]; first | rfl | (refine st_ ?_; rfl))) ?_; refine st_ ?_
      refine hu_takeB 1 [1, 12] rfl (by kernel_rfl) (by kernel_rfl) (by kernel_rfl) (by kernel_rfl) (fun c a w v => hQp c a w _ v) (by rw [hnt]; rfl) (allIn (by repeat (first | exact trivial | refine ⟨rfl, ?_⟩))) (by first | exact Le.refl _ | assumption) (quiet_op (by rw [hty]; first | rfl | (refine st_ ?_; rfl))) ?_; refine st_ ?_
      refine hu_takeB 2 [2, 12] rfl (by kernel_rfl) (by kernel_rfl) (by kernel_rfl) (by kernel_rfl) (fun c a w v => hQp c a w _ v) (by rw [hnt]; rfl) (allIn (by repeat (first | exact trivial | refine ⟨rfl, ?_⟩))) (by first | exact Le.refl _ | assumption) (x := .v (.pointer (some ⟨bD, oD + 0 * 3, none⟩))) ((quiet_index (by rw [hty]; rfl) (by rw [hty]; rfl) rfl rfl rfl (by omega) (by omega)).cast (by rfl)) ?_
      refine st_ ?_
      refine hu_takeB 3 [3, 12] rfl (by kernel_rfl) (by kernel_rfl) (by kernel_rfl) (by kernel_rfl) (fun c a w v => hQp c a w _ v) (by rw [hnt]; rfl) (allIn (by repeat (first | exact trivial | refine ⟨rfl, ?_⟩))) (by first | exact Le.refl _ | assumption) (x := .a [.v (.int .i64 a.k), .v (.int .i64 a.n), .v (.slice a8 a.l.length c8)]) ((quiet_load (by rw [hty]; rfl) rfl (by simp [TK.agg]) hat0 rfl).cast (by rfl)) ?_
      refine st_ ?_
      refine hu_take0 4 rfl (by kernel_rfl) (by kernel_rfl) (by kernel_rfl) (by decide) (fun c a w v => hQp c a w _ v) (by rw [hnt]; rfl) (allIn (by repeat (first | exact trivial | refine ⟨rfl, ?_⟩))) (by first | exact Le.refl _ | assumption) (quiet_op (by rw [hty]; first | rfl | (refine st_ ?_; rfl))) ?_; refine st_ ?_
      refine hu_takeB 5 [5, 12] rfl (by kernel_rfl) (by kernel_rfl) (by kernel_rfl) (by kernel_rfl) (fun c a w v => hQp c a w _ v) (by rw [hnt]; rfl) (allIn (by repeat (first | exact trivial | refine ⟨rfl, ?_⟩))) (by first | exact Le.refl _ | assumption) (quiet_op (by rw [hty]; first | rfl | (refine st_ ?_; rfl))) ?_; refine st_ ?_
      refine hu_takeB 6 [6, 12] rfl (by kernel_rfl) (by kernel_rfl) (by kernel_rfl) (by kernel_rfl) (fun c a w v => hQp c a w _ v) (by rw [hnt]; rfl) (allIn (by repeat (first | exact trivial | refine ⟨rfl, ?_⟩))) (by first | exact Le.refl _ | assumption) (x := .v (.pointer (some ⟨bD, oD + 1 * 3, none⟩))) ((quiet_index (by rw [hty]; rfl) (by rw [hty]; rfl) rfl rfl rfl (by omega) (by omega)).cast (by rfl)) ?_
      refine st_ ?_
      refine hu_takeB 7 [7, 12] rfl (by kernel_rfl) (by kernel_rfl) (by kernel_rfl) (by kernel_rfl) (fun c a w v => hQp c a w _ v) (by rw [hnt]; rfl) (allIn (by repeat (first | exact trivial | refine ⟨rfl, ?_⟩))) (by first | exact Le.refl _ | assumption) (x := .a [.v (.int .i64 b'.k), .v (.int .i64 b'.n), .v (.slice a9 b'.l.length c9)]) ((quiet_load (by rw [hty]; rfl) rfl (by simp [TK.agg]) hat1 rfl).cast (by rfl)) ?_
      refine st_ ?_
      refine hu_one 8 rfl (by kernel_rfl) ?_
      refine go_call (by rw [hnt]; rfl) (by rw [hP]; kernel_rfl) rfl (hP ▸ rless_ok a b' _ _ G hr0 hr1 (by omega) (by omega)) ?_
      rintro _ G3 (hle3 : Le G G3) rfl
      obtain ⟨kk, nn9, ee, hnum, hcs⟩ := numd_cases a b' (fun m n => if decide (m < n) then 1 else 0) (fun _ _ => by split <;> simp [isI64])
      rw [hnum]
      refine rn_ ?_; intros
      refine hs_ ?_
      refine hu_take0 9 rfl (by kernel_rfl) (by kernel_rfl) (by kernel_rfl) (by decide) (fun c a w v => hQp c a w _ v) (by rw [hnt]; rfl) (allIn (by repeat (first | exact trivial | refine ⟨rfl, ?_⟩))) (by first | exact Le.refl _ | assumption) (quiet_op (by rw [hty]; first | rfl | (refine st_ ?_; rfl))) ?_; refine st_ ?_
      refine hu_take0 10 rfl (by kernel_rfl) (by kernel_rfl) (by kernel_rfl) (by decide) (fun c a w v => hQp c a w _ v) (by rw [hnt]; rfl) (allIn (by repeat (first | exact trivial | refine ⟨rfl, ?_⟩))) (by first | exact Le.refl _ | assumption) (quiet_op (by rw [hty]; first | rfl | (refine st_ ?_; rfl))) ?_; refine st_ ?_
      refine hu_take0 11 rfl (by kernel_rfl) (by kernel_rfl) (by kernel_rfl) (by decide) (fun c a w v => hQp c a w _ v) (by rw [hnt]; rfl) (allIn (by repeat (first | exact trivial | refine ⟨rfl, ?_⟩))) (by first | exact Le.refl _ | assumption) (quiet_op (by rw [hty]; first | rfl | (refine st_ ?_; rfl))) ?_; refine st_ ?_
      refine hu_last 12 [] rfl (by kernel_rfl) rfl ?_
      refine rn_ ?_; intros
      refine h_one 13 rfl (by kernel_rfl) ?_
      refine rn_ ?_; intros
      refine hs_ ?_
      refine h_end (by kernel_rfl) ?_
      refine rn_ ?_; intros
      refine go_keep [4, 5, 6, 7] [2, 3] ?_
      refine st_ ?_
      refine hK _ ⟨G3, .mk kk nn9 [], .slice none 0 0, ee, hle3, rfl, ?_⟩
      rcases hcs with ⟨hn, he⟩ | ⟨hn, he, hr⟩
      · exact .inr ⟨he, by rw [← ho, hn], _, _, _, rfl⟩
      · exact .inl ⟨he, hr G3, by simp [tsz, tszL], by rw [← ho, hn, if_pos (xnumF hn)]⟩
    refine rn_ ?_; intros
    refine x_split rfl rfl rfl (fun h11 => ?_) (fun h11 => ?_) <;> (refine st_ ?_; (refine ru_ ?_; intros))
    · have hop : nd.op = 11 := by simpa using h11
      simp only [hop, Int.reduceEq, if_false, if_true] at ho
      obtain ⟨a, t, hdn, ho⟩ := one_some ho
      have hl2 : 1 ≤ l.length := by rw [hdn]; simp
      obtain ⟨bD, oD, s0, rfl, hat0, hr0, ht0⟩ := rW_at hsl (i := 0) (by omega)
      have e0 : l[0]'(by omega) = a := by simp [hdn]
      rw [e0] at hat0 hr0 ht0
      refine rn_ ?_; intros
      refine go_q (v := .pointer (some ⟨bD, oD + 0 * 3, none⟩)) (by rw [hnt]; rfl) ((quiet_index (by rw [hty]; rfl) (by rw [hty]; rfl) rfl rfl rfl (by omega) (by omega)).cast (by rfl)) ?_
      refine rn_ ?_; intros
      refine go_q (v := .agg #[.int .i64 a.k, .int .i64 a.n, s0]) (by rw [hnt]; rfl) ((quiet_load (by rw [hty]; rfl) rfl (by simp [TK.agg]) hat0 rfl).cast (by rfl)) ?_
      refine rn_ ?_; intros
      refine go_call (by rw [hnt]; rfl) (by rw [hP]; kernel_rfl) rfl (hP ▸ rfirst_ok a s0 G hr0 (by omega)) ?_
      rintro _ G3 (hle3 : Le G G3) (⟨hv, a3, c3, rfl, hr⟩ | ⟨hv, rfl⟩)
      · refine rn_ ?_; intros
        refine go_keep [4, 5, 6, 7] [2, 3] ?_
        refine st_ ?_
        exact hK _ ⟨G3, _, _, 0, hle3, rfl, .inl ⟨rfl, hr, by have := half_tsz (i := 0) ht0; omega, by rw [← ho, halfF, if_pos hv, if_pos (xhalf (i := 0) (show halfF _ a = some _ by rw [halfF, if_pos hv]))]⟩⟩
      · refine rn_ ?_; intros
        refine go_keep [4, 5, 6, 7] [2, 3] ?_
        refine st_ ?_
        exact hK _ ⟨G3, .mk 0 0 [], .slice none 0 0, _, hle3, rfl, .inr ⟨by split <;> decide, by rw [← ho, halfF, if_neg (by rw [hv]; decide)], _, _, _, rfl⟩⟩
    refine rn_ ?_; intros
    refine x_split rfl rfl rfl (fun h12 => ?_) (fun h12 => ?_) <;> (refine st_ ?_; (refine ru_ ?_; intros))
    · have hop : nd.op = 12 := by simpa using h12
      simp only [hop, Int.reduceEq, if_false, if_true] at ho
      obtain ⟨a, t, hdn, ho⟩ := one_some ho
      have hl2 : 1 ≤ l.length := by rw [hdn]; simp
      obtain ⟨bD, oD, s0, rfl, hat0, hr0, ht0⟩ := rW_at hsl (i := 0) (by omega)
      have e0 : l[0]'(by omega) = a := by simp [hdn]
      rw [e0] at hat0 hr0 ht0
      refine rn_ ?_; intros
      refine go_q (v := .pointer (some ⟨bD, oD + 0 * 3, none⟩)) (by rw [hnt]; rfl) ((quiet_index (by rw [hty]; rfl) (by rw [hty]; rfl) rfl rfl rfl (by omega) (by omega)).cast (by rfl)) ?_
      refine rn_ ?_; intros
      refine go_q (v := .agg #[.int .i64 a.k, .int .i64 a.n, s0]) (by rw [hnt]; rfl) ((quiet_load (by rw [hty]; rfl) rfl (by simp [TK.agg]) hat0 rfl).cast (by rfl)) ?_
      refine rn_ ?_; intros
      refine go_call (by rw [hnt]; rfl) (by rw [hP]; kernel_rfl) rfl (hP ▸ rsecond_ok a s0 G hr0 (by omega)) ?_
      rintro _ G3 (hle3 : Le G G3) (⟨hv, a3, c3, rfl, hr⟩ | ⟨hv, rfl⟩)
      · refine rn_ ?_; intros
        refine go_keep [4, 5, 6, 7] [2, 3] ?_
        refine st_ ?_
        exact hK _ ⟨G3, _, _, 0, hle3, rfl, .inl ⟨rfl, hr, by have := half_tsz (i := 1) ht0; omega, by rw [← ho, halfF, if_pos hv, if_pos (xhalf (i := 1) (show halfF _ a = some _ by rw [halfF, if_pos hv]))]⟩⟩
      · refine rn_ ?_; intros
        refine go_keep [4, 5, 6, 7] [2, 3] ?_
        refine st_ ?_
        exact hK _ ⟨G3, .mk 0 0 [], .slice none 0 0, _, hle3, rfl, .inr ⟨by split <;> decide, by rw [← ho, halfF, if_neg (by rw [hv]; decide)], _, _, _, rfl⟩⟩
    refine rn_ ?_; intros
    have hopk : nd.op = 10 ∨ 16 ≤ nd.op ∧ nd.op ≤ 23 := by
      have q1 : ¬ nd.op = 1 := by simpa using h1
      have q2 : ¬ nd.op = 2 := by simpa using h2
      have q3 : ¬ nd.op = 3 := by simpa using h3
      have q6 : ¬ nd.op = 6 := by simpa using h6
      have q7 : ¬ nd.op = 7 := by simpa using h7
      have q8 : ¬ nd.op = 8 := by simpa using h8
      have q9 : ¬ nd.op = 9 := by simpa using h9
      have q11 : ¬ nd.op = 11 := by simpa using h11
      have q12 : ¬ nd.op = 12 := by simpa using h12
      omega
    rw [if_neg (show ¬ nd.op = 3 by omega), if_neg (show ¬ nd.op = 6 by omega), if_neg (show ¬ nd.op = 7 by omega), if_neg (show ¬ nd.op = 8 by omega), if_neg (show ¬ nd.op = 9 by omega), if_neg (show ¬ nd.op = 11 by omega), if_neg (show ¬ nd.op = 12 by omega)] at ho
    split at ho
    rotate_left
    · cases ho
    rename_i hts
    injection ho with ho
    have hk64 : isI64 (kOf nd.op) := kOf_64 _
    obtain ⟨cs, hcs, hsrc⟩ := Rp.srcS hsl
    have hcl := Rp.L_len hcs
    simp only [rW] at hcl
    refine rn_ ?_; intros
    refine x_held [(0, b2, .c 96 [.v (.int .i64 f), .v (.int .i64 nn), .v (.slice av vars.length cv'), .v (.slice al l.length cl)]), (1, b3, .c 110 [.v (.int .i64 nd.op), .v (.int .i64 nd.n), .v (.slice anl nd.l.length cnl)])] rfl (by rw [hP]; kernel_rfl) rfl rfl rfl ?_; refine st_ ?_
    refine tq_ 0 rfl (quiet_op (by rw [hty]; first | rfl | (refine st_ ?_; rfl))) ?_; refine st_ ?_
    refine tq_ 2 rfl (quiet_op (by rw [hty]; first | rfl | (refine st_ ?_; rfl))) ?_; refine st_ ?_
    refine tq_ 3 rfl (quiet_op (by rw [hty]; first | rfl | (refine st_ ?_; rfl))) ?_; refine st_ ?_
    refine tq_ 5 rfl (quiet_op (by rw [hty]; first | rfl | (refine st_ ?_; rfl))) ?_; refine st_ ?_
    refine tq_ 6 rfl (quiet_op (by rw [hty]; first | rfl | (refine st_ ?_; rfl))) ?_; refine st_ ?_
    refine h_two 1 4 rfl rfl (by kernel_rfl) ?_ ?_
    · refine go_callf (by rw [hnt]; rfl) (by rw [hP]; kernel_rfl) rfl (hP ▸ rkind_ok nd.op G ho64 hopk) ?_
      refine rn_ ?_; intros
      refine hs_ ?_
      refine h_one 4 rfl (by kernel_rfl) ?_
      refine rn_ ?_; intros
      refine hs_ ?_
      refine h_one 7 rfl (by kernel_rfl) ?_
      refine go_torowN 4 (n := 0) (size := 3) rfl rfl (by omega) ?_
      refine go_append_any 4 (by rw [hnt]; rfl) (by rw [hty]; rfl) (by rw [hty]; rfl) (by decide) rfl rfl rfl (by rw [hmh]; omega) rfl (hsrc.imp id fun f => f _ _ rfl) (by simp only []; omega) (Rp.L_one hcs) (by omega) (by simp only []; omega) ?_
      intro v6
      refine go_rowS 4 rfl ?_
      rintro ad6 cap6 rfl
      refine rn_ ?_; intros
      refine hs_ ?_
      refine tq_ 8 rfl (quiet_op (by rw [hty]; first | rfl | (refine st_ ?_; rfl))) ?_; refine st_ ?_
      refine h_one 9 rfl (by kernel_rfl) ?_
      refine rn_ ?_; intros
      refine hs_ ?_
      refine h_end (by kernel_rfl) ?_
      refine rn_ ?_; intros
      refine go_pubL rW 4 rfl (by rw [hmh]; omega) (ts := l) (by simp) (by omega) hcs ?_
      intro G5 ad8 cap8 (hle3 : Le G G5) e8 hS8
      injection e8 with q1 q2 q3
      subst q1 q3
      refine go_keep [4, 5, 6, 7] [2, 3] ?_
      refine st_ ?_
      exact hK _ ⟨G5, .mk (kOf nd.op) nd.n l, _, 0, hle3, rfl, .inl ⟨rfl, rW_repM hk64 hn64 hS8, Nat.le_trans hts (by omega), ho.symm⟩⟩
    · refine rn_ ?_; intros
      refine hs_ ?_
      refine h_one 1 rfl (by kernel_rfl) ?_
      refine go_callf (by rw [hnt]; rfl) (by rw [hP]; kernel_rfl) rfl (hP ▸ rkind_ok nd.op G ho64 hopk) ?_
      refine rn_ ?_; intros
      refine hs_ ?_
      refine h_one 7 rfl (by kernel_rfl) ?_
      refine go_torowN 4 (n := 0) (size := 3) rfl rfl (by omega) ?_
      refine go_append_any 4 (by rw [hnt]; rfl) (by rw [hty]; rfl) (by rw [hty]; rfl) (by decide) rfl rfl rfl (by rw [hmh]; omega) rfl (hsrc.imp id fun f => f _ _ rfl) (by simp only []; omega) (Rp.L_one hcs) (by omega) (by simp only []; omega) ?_
      intro v6
      refine go_rowS 4 rfl ?_
      rintro ad6 cap6 rfl
      refine rn_ ?_; intros
      refine hs_ ?_
      refine tq_ 8 rfl (quiet_op (by rw [hty]; first | rfl | (refine st_ ?_; rfl))) ?_; refine st_ ?_
      refine h_one 9 rfl (by kernel_rfl) ?_
      refine rn_ ?_; intros
      refine hs_ ?_
      refine h_end (by kernel_rfl) ?_
      refine rn_ ?_; intros
      refine go_pubL rW 4 rfl (by rw [hmh]; omega) (ts := l) (by simp) (by omega) hcs ?_
      intro G5 ad8 cap8 (hle3 : Le G G5) e8 hS8
      injection e8 with q1 q2 q3
      subst q1 q3
      refine go_keep [4, 5, 6, 7] [2, 3] ?_
      refine st_ ?_
      exact hK _ ⟨G5, .mk (kOf nd.op) nd.n l, _, 0, hle3, rfl, .inl ⟨rfl, rW_repM hk64 hn64 hS8, Nat.le_trans hts (by omega), ho.symm⟩⟩
  · rintro s' ⟨G1, y, slk, e, hle1, rfl, hcs⟩
    simp only [List.drop_succ_cons, List.drop_zero]
    rcases hcs with ⟨rfl, hry, hty9, ho2⟩ | ⟨he, ho2, ay, my, cy, rfl⟩
    · obtain ⟨ay, cy, rfl⟩ := VT.rep_slice hry
      refine rn_ ?_; intros
      refine x_heldP [(3, b6, .c 42 [.v (.int .i64 y.k), .v (.int .i64 y.n), .v (.slice ay y.l.length cy)])] 7 rfl (by rw [hP]; kernel_rfl) rfl rfl rfl ?_; refine st_ ?_
      refine hu_takeB 0 [0, 7] rfl (by kernel_rfl) (by kernel_rfl) (by kernel_rfl) (by kernel_rfl) (fun c a w v => hQp c a w _ v) (by rw [hnt]; rfl) (allIn (by repeat (first | exact trivial | refine ⟨rfl, ?_⟩))) (by first | exact Le.refl _ | assumption) (quiet_op (by rw [hty]; first | rfl | (refine st_ ?_; rfl))) ?_; refine st_ ?_
      refine hu_take0 1 rfl (by kernel_rfl) (by kernel_rfl) (by kernel_rfl) (by decide) (fun c a w v => hQp c a w _ v) (by rw [hnt]; rfl) (allIn (by repeat (first | exact trivial | refine ⟨rfl, ?_⟩))) (by first | exact Le.refl _ | assumption) (quiet_op (by rw [hty]; first | rfl | (refine st_ ?_; rfl))) ?_; refine st_ ?_
      refine hu_take0 2 rfl (by kernel_rfl) (by kernel_rfl) (by kernel_rfl) (by decide) (fun c a w v => hQp c a w _ v) (by rw [hnt]; rfl) (allIn (by repeat (first | exact trivial | refine ⟨rfl, ?_⟩))) (by first | exact Le.refl _ | assumption) (quiet_op (by rw [hty]; first | rfl | (refine st_ ?_; rfl))) ?_; refine st_ ?_
      refine hu_take0 3 rfl (by kernel_rfl) (by kernel_rfl) (by kernel_rfl) (by decide) (fun c a w v => hQp c a w _ v) (by rw [hnt]; rfl) (allIn (by repeat (first | exact trivial | refine ⟨rfl, ?_⟩))) (by first | exact Le.refl _ | assumption) (quiet_op (by rw [hty]; first | rfl | (refine st_ ?_; rfl))) ?_; refine st_ ?_
      refine go_slot 116 (.b true) rfl rfl ?_
      refine hu_one 4 rfl (by kernel_rfl) ?_
      refine rn_ ?_; intros
      refine hs_ ?_
      refine hu_one 5 rfl (by kernel_rfl) ?_
      refine rn_ ?_; intros
      refine go_callf (by rw [hnt]; rfl) (by rw [hP]; kernel_rfl) rfl (hP ▸ refright_ok y _ G1 hry hty9) ?_; refine rn_ ?_; intros
      refine hs_ ?_
      refine hu_take0 6 rfl (by kernel_rfl) (by kernel_rfl) (by kernel_rfl) (by decide) (fun c a w v => hQp c a w _ v) (by rw [hnt]; rfl) (allIn (by repeat (first | exact trivial | refine ⟨rfl, ?_⟩))) (by first | exact Le.refl _ | assumption) (quiet_op (by rw [hty]; first | rfl | (refine st_ ?_; rfl))) ?_; refine st_ ?_
      refine hu_last 7 [] rfl (by kernel_rfl) rfl ?_
      refine rn_ ?_; intros
      refine h_one 8 rfl (by kernel_rfl) ?_
      refine rn_ ?_; intros
      refine hs_ ?_
      refine h_end (by kernel_rfl) ?_
      refine rn_ ?_; intros
      refine xc_ hQ hmb ?_; simp only [SV.den, resV, dens]
      cases hvy : vld y with
      | true => rw [ho2, hvy]; exact ⟨_, rfl, hry, by have := xvld_sz hvy; omega⟩
      | false => rw [ho2, hvy]; exact ⟨_, _, _, _, _, rfl⟩
    · refine rn_ ?_; intros
      refine x_heldP [(3, b6, .c 42 [.v (.int .i64 y.k), .v (.int .i64 y.n), .v (.slice ay my cy)])] 7 rfl (by rw [hP]; kernel_rfl) rfl rfl rfl ?_; refine st_ ?_
      refine hu_takeB 0 [0, 7] rfl (by kernel_rfl) (by kernel_rfl) (by kernel_rfl) (by kernel_rfl) (fun c a w v => hQp c a w _ v) (by rw [hnt]; rfl) (allIn (by repeat (first | exact trivial | refine ⟨rfl, ?_⟩))) (by first | exact Le.refl _ | assumption) (quiet_op (by rw [hty]; first | rfl | (refine st_ ?_; rfl))) ?_; refine st_ ?_
      refine hu_take0 1 rfl (by kernel_rfl) (by kernel_rfl) (by kernel_rfl) (by decide) (fun c a w v => hQp c a w _ v) (by rw [hnt]; rfl) (allIn (by repeat (first | exact trivial | refine ⟨rfl, ?_⟩))) (by first | exact Le.refl _ | assumption) (quiet_op (by rw [hty]; first | rfl | (refine st_ ?_; rfl))) ?_; refine st_ ?_
      refine hu_take0 2 rfl (by kernel_rfl) (by kernel_rfl) (by kernel_rfl) (by decide) (fun c a w v => hQp c a w _ v) (by rw [hnt]; rfl) (allIn (by repeat (first | exact trivial | refine ⟨rfl, ?_⟩))) (by first | exact Le.refl _ | assumption) (quiet_op (by rw [hty]; first | rfl | (refine st_ ?_; rfl))) ?_; refine st_ ?_
      refine hu_take0 3 rfl (by kernel_rfl) (by kernel_rfl) (by kernel_rfl) (by decide) (fun c a w v => hQp c a w _ v) (by rw [hnt]; rfl) (allIn (by repeat (first | exact trivial | refine ⟨rfl, ?_⟩))) (by first | exact Le.refl _ | assumption) (quiet_op (by rw [hty]; first | rfl | (refine st_ ?_; rfl))) ?_; refine st_ ?_
      refine go_slot 116 (.b false) rfl (by simp [SV.den]; exact he) ?_
      refine hu_one 4 rfl (by kernel_rfl) ?_
      refine rn_ ?_; intros
      refine hs_ ?_
      refine hu_one 5 rfl (by kernel_rfl) ?_
      refine rn_ ?_; intros
      refine hs_ ?_
      refine hu_take0 6 rfl (by kernel_rfl) (by kernel_rfl) (by kernel_rfl) (by decide) (fun c a w v => hQp c a w _ v) (by rw [hnt]; rfl) (allIn (by repeat (first | exact trivial | refine ⟨rfl, ?_⟩))) (by first | exact Le.refl _ | assumption) (quiet_op (by rw [hty]; first | rfl | (refine st_ ?_; rfl))) ?_; refine st_ ?_
      refine hu_last 7 [] rfl (by kernel_rfl) rfl ?_
      refine rn_ ?_; intros
      refine h_one 8 rfl (by kernel_rfl) ?_
      refine rn_ ?_; intros
      refine hs_ ?_
      refine h_end (by kernel_rfl) ?_
      refine rn_ ?_; intros
      refine xc_ hQ hmb ?_; simp only [SV.den, resV, dens]
      rw [ho2]
      exact ⟨_, _, _, _, _, rfl⟩
end Go.Proofs.YtpppkednpamhbaaGreat.R
namespace Go.Proofs.YtpppkednpamhbaaGreat.R
set_option linter.unusedSimpArgs false
set_option linter.unusedVariables false
open Go.Sx
set_option maxHeartbeats 16000000
set_option maxRecDepth 20000
theorem rdone_ok (ps : Value) (p : Pr) (s : Fb) (v : VT) (sv : Value) (o : Fb) (v0 : Value) (G : Hp) (hp : rF.S G p ps) (h0 : rfO G ps s.st vt0 s.l v0) (hval : s.val = vt0) (hws : WS p (s.l.drop 1)) (hlen : s.l.length ≤ 256) (hv : v.rep G sv) (hvt : tsz v ≤ 1000) (hvv : vld v = true) (ho : prodF p s v = some o) :
    Pure Tryz.prog 76 [v0, .agg #[.int .i64 v.k, .int .i64 v.n, sv]] G (fun w G' => rfO G' ps o.st o.val o.l w) := by
  obtain ⟨lsl, vl, rfl, hL, hvl, _⟩ := h0
  obtain ⟨vA, vC, rfl⟩ := VT.rep_slice hvl
  obtain ⟨pA, pC, rfl⟩ := Rp.S_slice hp
  obtain ⟨a9, c9, rfl⟩ := VT.rep_slice hv
  unfold prodF at ho
  cases hsl : s.l with
  | nil => rw [hsl] at ho; cases ho
  | cons x l1 =>
  rw [hsl] at ho hL hws hlen
  obtain ⟨aL, cL, rfl⟩ := Rp.S_slice hL.1
  refine enterX ty tyok Tryz.func76 rfl Tryz.ntmps76 [.a [.v (.slice pA p.length pC), .v (.slice aL (x :: l1).reverse.length cL), .v (.int .i64 s.st), .v (.int .i64 vt0.k), .v (.int .i64 vt0.n), .v (.slice vA vt0.l.length vC)], .a [.v (.int .i64 v.k), .v (.int .i64 v.n), .v (.slice a9 v.l.length c9)]] (by simp) ?_
  intro C hP hQ hnt hty hmb hmh hro; have hQp := qp_body hQ; refine st_ ?_
  refine rn_ ?_; intros
  refine x_split rfl rfl rfl (fun h1 => ?_) (fun h1 => ?_) <;> (refine st_ ?_; (refine ru_ ?_; intros))
  · have hl1 : l1 = [] := List.eq_nil_of_length_eq_zero (by simp at h1; omega)
    subst hl1
    simp only [] at ho
    injection ho with ho
    subst ho
    refine rn_ ?_; intros
    refine xc_ hQ hmb ?_; simp only [SV.den, resV, dens]
    exact ⟨_, _, rfl, ⟨Rp.S_nil none 0, fun _ _ _ e => by cases e; simp⟩, hv, hvt⟩
  cases l1 with
  | nil => simp at h1
  | cons y r =>
  simp only [] at ho
  split at ho
  rotate_left
  · cases ho
  rename_i hdl
  obtain ⟨o', ho', rfl⟩ := Option.map_eq_some_iff.1 ho
  obtain ⟨⟨nd, hvx, hlt⟩, hws2⟩ := hws
  simp only [List.length_cons] at hlen
  have hvx2 : VX p ⟨y.fn, y.nd, y.vars, y.done ++ [v]⟩ nd := ⟨hvx.1, by simp; omega, hvx.2.2.1, fun w hw => by
    rcases List.mem_append.1 hw with hw | hw
    · exact hvx.2.2.2 w hw
    · simp at hw; subst hw; exact hvv⟩
  have hS1 := Rp.S_hi (a := r.length + 1) hL.1 (by simp)
  have et : (x :: y :: r).reverse.take (r.length + 1) = (y :: r).reverse := by
    rw [List.reverse_cons]
    exact List.take_left' (by simp)
  rw [et] at hS1
  obtain ⟨a7, c7, e7⟩ := Rp.S_slice hS1
  rw [e7] at hS1
  have ec : c7 = cL := by simp [Sx.sliced] at e7; omega
  have hcL : (x :: y :: r).reverse.length ≤ cL := hL.2 _ _ _ rfl
  have hcL2 : r.length + 2 ≤ cL := by simpa using hcL
  have ew : IntKind.i64.wrap (((x :: y :: r).reverse.length : Int) - 1) = ((r.length + 1 : Nat) : Int) := by simp only [List.length_reverse, List.length_cons]; rw [wr (by omega) (by omega)]; omega
  refine rn_ ?_; intros
  simp only [ew]
  refine go_q (v := .slice a7 (y :: r).reverse.length c7) (by rw [hnt]; rfl) ((quiet_sliceHi (by rw [hty]; rfl) (by rw [hty]; rfl) rfl rfl rfl (by omega) (by omega)).cast (by rw [← e7]; rfl)) ?_
  refine rn_ ?_; intros
  refine go_call (by rw [hnt]; rfl) (by rw [hP]; kernel_rfl) rfl (hP ▸ rlast_ok _ _ _ s.st vt0.k vt0.n p y r nd G hp hS1 ⟨_, _, _, rfl⟩ hvx.1.nd (by omega)) ?_
  rintro _ G2 (hle2 : Le G G2) ⟨av, cw, ad, cd, an, cn, rfl, hsv, hsd, hrI, g1, g2, i1, i2⟩
  obtain ⟨cs, hcs, hsrc⟩ := Rp.srcS hsd
  have hcl := Rp.L_len hcs
  simp only [rW] at hcl
  refine rn_ ?_; intros
  rename_i b1 b2 b3 b4 b5
  refine x_heldP [(1, b2, .c 42 [.v (.int .i64 v.k), .v (.int .i64 v.n), .v (.slice a9 v.l.length c9)]), (3, b4, .c 96 [.v (.int .i64 y.fn), .v (.int .i64 y.nd), .v (.slice av y.vars.length cw), .v (.slice ad y.done.length cd)])] 8 rfl (by rw [hP]; kernel_rfl) rfl rfl rfl ?_; refine st_ ?_
  refine hu_take 1 rfl (by kernel_rfl) (by kernel_rfl) (by kernel_rfl) (by kernel_rfl) rfl (fun c a w v => hQp c a w _ v) (by rw [hnt]; rfl) (allIn (by repeat (first | exact trivial | refine ⟨rfl, ?_⟩))) (by first | exact Le.refl _ | assumption) (quiet_op (by rw [hty]; first | rfl | (refine st_ ?_; rfl))) ?_; refine st_ ?_
  refine hu_take 2 rfl (by kernel_rfl) (by kernel_rfl) (by kernel_rfl) (by kernel_rfl) rfl (fun c a w v => hQp c a w _ v) (by rw [hnt]; rfl) (allIn (by repeat (first | exact trivial | refine ⟨rfl, ?_⟩))) (by first | exact Le.refl _ | assumption) (quiet_op (by rw [hty]; first | rfl | (refine st_ ?_; rfl))) ?_; refine st_ ?_
  refine hu_take 4 rfl (by kernel_rfl) (by kernel_rfl) (by kernel_rfl) (by kernel_rfl) rfl (fun c a w v => hQp c a w _ v) (by rw [hnt]; rfl) (allIn (by repeat (first | exact trivial | refine ⟨rfl, ?_⟩))) (by first | exact Le.refl _ | assumption) (quiet_op (by rw [hty]; first | rfl | (refine st_ ?_; rfl))) ?_; refine st_ ?_
  refine hu_two 0 5 rfl rfl (by kernel_rfl) ?_ ?_
  · refine rn_ ?_; intros
    refine hs_ ?_
    refine hu_two 3 5 rfl rfl (by kernel_rfl) ?_ ?_
    · refine go_torowN 5 (n := 0) (size := 3) rfl rfl (by omega) ?_
      refine go_append_any 5 (by rw [hnt]; rfl) (by rw [hty]; rfl) (by rw [hty]; rfl) (by decide) rfl rfl rfl (by rw [hmh]; omega) rfl (hsrc.imp id fun f => f _ _ rfl) (by simp only []; omega) (Rp.L_one hcs) (by omega) (by simp only []; omega) ?_
      intro v6
      refine go_rowS 5 rfl ?_
      rintro ad6 cap6 rfl
      refine rn_ ?_; intros
      refine hs_ ?_
      refine hu_one 5 rfl (by kernel_rfl) ?_
      refine rn_ ?_; intros
      refine hs_ ?_
      refine hu_one 6 rfl (by kernel_rfl) ?_
      refine go_append 5 (by rw [hnt]; rfl) (by rw [hty]; rfl) (by rw [hty]; rfl) (by decide) rfl rfl rfl (by rw [hmh]; omega) rfl (src_own 3 rfl rfl) rfl (by simp [dens, SV.den, Value.oneCell']) (by omega) (by simp only []; omega) ?_
      intro v7
      refine go_rowS 5 rfl ?_
      rintro ad7 cap7 rfl
      refine rn_ ?_; intros
      refine hs_ ?_
      refine hu_one 7 rfl (by kernel_rfl) ?_
      refine rn_ ?_; intros
      refine hs_ ?_
      refine hu_last 8 [] rfl (by kernel_rfl) rfl ?_
      refine rn_ ?_; intros
      refine h_end (by kernel_rfl) ?_
      refine rn_ ?_; intros
      refine go_pubL rW 5 rfl (by rw [hmh]; omega) (ts := y.done ++ [v]) (by simp) (by omega) (Rp.L_append hcs (Rp.L_single ⟨_, rfl, VT.rep_mono hle2 hv, hvt⟩)) ?_
      intro G5 ad8 cap8 (hle5 : Le G2 G5) e8 hS8
      injection e8 with q1 q2 q3
      subst q1 q3
      refine go_call (by rw [hnt]; rfl) (by rw [hP]; kernel_rfl) rfl (hP ▸ rwith_ok _ _ _ s.st vt0.k vt0.n y ⟨y.fn, y.nd, y.vars, y.done ++ [v]⟩ r _ _ G5 ⟨_, _, _, rfl⟩ (Rp.S_mono (hle2.trans hle5) hS1) ⟨_, _, _, rfl⟩ (Rp.S_mono hle5 hsv) (by simpa [SV.den] using hS8) g1 g2 (by omega)) ?_
      rintro _ G6 (hle6 : Le G5 G6) ⟨lsl', rfl, hS2⟩
      obtain ⟨a5, c5, rfl⟩ := Rp.S_slice hS2.1
      have hleA := (hle2.trans hle5).trans hle6
      simp only [fibV]
      refine rn_ ?_; intros
      refine go_call (by rw [hnt]; rfl) (by rw [hP]; kernel_rfl) rfl (hP ▸ rdown_ok _ s.st p 600 ⟨y.fn, y.nd, y.vars, y.done ++ [v]⟩ r nd _ o' G6 (Rp.S_mono hleA hp) ⟨_, _, rfl, hS2, VT.rep_mono hleA hvl, by simp [vt0, tsz, tszL]⟩ hvx2 (by omega) ho') ?_
      rintro _ G7 (hle7 : Le G6 G7) ⟨lsl3, vl3, rfl, hL3, hv3, ht3⟩
      obtain ⟨a5', c5', rfl⟩ := Rp.S_slice hL3.1
      obtain ⟨a6', c6', rfl⟩ := VT.rep_slice hv3
      simp only [fibV]
      refine rn_ ?_; intros
      refine xc_ hQ hmb ?_; simp only [SV.den, resV, dens]
      rw [hval]
      exact ⟨_, _, rfl, hL3, hv3, ht3⟩
    · refine rn_ ?_; intros
      refine hs_ ?_
      refine hu_one 3 rfl (by kernel_rfl) ?_
      refine go_torowN 5 (n := 0) (size := 3) rfl rfl (by omega) ?_
      refine go_append_any 5 (by rw [hnt]; rfl) (by rw [hty]; rfl) (by rw [hty]; rfl) (by decide) rfl rfl rfl (by rw [hmh]; omega) rfl (hsrc.imp id fun f => f _ _ rfl) (by simp only []; omega) (Rp.L_one hcs) (by omega) (by simp only []; omega) ?_
      intro v6
      refine go_rowS 5 rfl ?_
      rintro ad6 cap6 rfl
      refine rn_ ?_; intros
      refine hs_ ?_
      refine hu_one 6 rfl (by kernel_rfl) ?_
      refine go_append 5 (by rw [hnt]; rfl) (by rw [hty]; rfl) (by rw [hty]; rfl) (by decide) rfl rfl rfl (by rw [hmh]; omega) rfl (src_own 3 rfl rfl) rfl (by simp [dens, SV.den, Value.oneCell']) (by omega) (by simp only []; omega) ?_
      intro v7
      refine go_rowS 5 rfl ?_
      rintro ad7 cap7 rfl
      refine rn_ ?_; intros
      refine hs_ ?_
      refine hu_one 7 rfl (by kernel_rfl) ?_
      refine rn_ ?_; intros
      refine hs_ ?_
      refine hu_last 8 [] rfl (by kernel_rfl) rfl ?_
      refine rn_ ?_; intros
      refine h_end (by kernel_rfl) ?_
      refine rn_ ?_; intros
      refine go_pubL rW 5 rfl (by rw [hmh]; omega) (ts := y.done ++ [v]) (by simp) (by omega) (Rp.L_append hcs (Rp.L_single ⟨_, rfl, VT.rep_mono hle2 hv, hvt⟩)) ?_
      intro G5 ad8 cap8 (hle5 : Le G2 G5) e8 hS8
      injection e8 with q1 q2 q3
      subst q1 q3
      refine go_call (by rw [hnt]; rfl) (by rw [hP]; kernel_rfl) rfl (hP ▸ rwith_ok _ _ _ s.st vt0.k vt0.n y ⟨y.fn, y.nd, y.vars, y.done ++ [v]⟩ r _ _ G5 ⟨_, _, _, rfl⟩ (Rp.S_mono (hle2.trans hle5) hS1) ⟨_, _, _, rfl⟩ (Rp.S_mono hle5 hsv) (by simpa [SV.den] using hS8) g1 g2 (by omega)) ?_
      rintro _ G6 (hle6 : Le G5 G6) ⟨lsl', rfl, hS2⟩
      obtain ⟨a5, c5, rfl⟩ := Rp.S_slice hS2.1
      have hleA := (hle2.trans hle5).trans hle6
      simp only [fibV]
      refine rn_ ?_; intros
      refine go_call (by rw [hnt]; rfl) (by rw [hP]; kernel_rfl) rfl (hP ▸ rdown_ok _ s.st p 600 ⟨y.fn, y.nd, y.vars, y.done ++ [v]⟩ r nd _ o' G6 (Rp.S_mono hleA hp) ⟨_, _, rfl, hS2, VT.rep_mono hleA hvl, by simp [vt0, tsz, tszL]⟩ hvx2 (by omega) ho') ?_
      rintro _ G7 (hle7 : Le G6 G7) ⟨lsl3, vl3, rfl, hL3, hv3, ht3⟩
      obtain ⟨a5', c5', rfl⟩ := Rp.S_slice hL3.1
      obtain ⟨a6', c6', rfl⟩ := VT.rep_slice hv3
      simp only [fibV]
      refine rn_ ?_; intros
      refine xc_ hQ hmb ?_; simp only [SV.den, resV, dens]
      rw [hval]
      exact ⟨_, _, rfl, hL3, hv3, ht3⟩
  · refine rn_ ?_; intros
    refine hs_ ?_
    refine hu_one 0 rfl (by kernel_rfl) ?_
    refine rn_ ?_; intros
    refine hs_ ?_
    refine hu_one 3 rfl (by kernel_rfl) ?_
    refine go_torowN 6 (n := 0) (size := 3) rfl rfl (by omega) ?_
    refine go_append_any 6 (by rw [hnt]; rfl) (by rw [hty]; rfl) (by rw [hty]; rfl) (by decide) rfl rfl rfl (by rw [hmh]; omega) rfl (hsrc.imp id fun f => f _ _ rfl) (by simp only []; omega) (Rp.L_one hcs) (by omega) (by simp only []; omega) ?_
    intro v6
    refine go_rowS 6 rfl ?_
    rintro ad6 cap6 rfl
    refine rn_ ?_; intros
    refine hs_ ?_
    refine hu_one 6 rfl (by kernel_rfl) ?_
    refine go_append 6 (by rw [hnt]; rfl) (by rw [hty]; rfl) (by rw [hty]; rfl) (by decide) rfl rfl rfl (by rw [hmh]; omega) rfl (src_own 3 rfl rfl) rfl (by simp [dens, SV.den, Value.oneCell']) (by omega) (by simp only []; omega) ?_
    intro v7
    refine go_rowS 6 rfl ?_
    rintro ad7 cap7 rfl
    refine rn_ ?_; intros
    refine hs_ ?_
    refine hu_one 7 rfl (by kernel_rfl) ?_
    refine rn_ ?_; intros
    refine hs_ ?_
    refine hu_last 8 [] rfl (by kernel_rfl) rfl ?_
    refine rn_ ?_; intros
    refine h_end (by kernel_rfl) ?_
    refine rn_ ?_; intros
    refine go_pubL rW 6 rfl (by rw [hmh]; omega) (ts := y.done ++ [v]) (by simp) (by omega) (Rp.L_append hcs (Rp.L_single ⟨_, rfl, VT.rep_mono hle2 hv, hvt⟩)) ?_
    intro G5 ad8 cap8 (hle5 : Le G2 G5) e8 hS8
    injection e8 with q1 q2 q3
    subst q1 q3
    refine go_call (by rw [hnt]; rfl) (by rw [hP]; kernel_rfl) rfl (hP ▸ rwith_ok _ _ _ s.st vt0.k vt0.n y ⟨y.fn, y.nd, y.vars, y.done ++ [v]⟩ r _ _ G5 ⟨_, _, _, rfl⟩ (Rp.S_mono (hle2.trans hle5) hS1) ⟨_, _, _, rfl⟩ (Rp.S_mono hle5 hsv) (by simpa [SV.den] using hS8) g1 g2 (by omega)) ?_
    rintro _ G6 (hle6 : Le G5 G6) ⟨lsl', rfl, hS2⟩
    obtain ⟨a5, c5, rfl⟩ := Rp.S_slice hS2.1
    have hleA := (hle2.trans hle5).trans hle6
    simp only [fibV]
    refine rn_ ?_; intros
    refine go_call (by rw [hnt]; rfl) (by rw [hP]; kernel_rfl) rfl (hP ▸ rdown_ok _ s.st p 600 ⟨y.fn, y.nd, y.vars, y.done ++ [v]⟩ r nd _ o' G6 (Rp.S_mono hleA hp) ⟨_, _, rfl, hS2, VT.rep_mono hleA hvl, by simp [vt0, tsz, tszL]⟩ hvx2 (by omega) ho') ?_
    rintro _ G7 (hle7 : Le G6 G7) ⟨lsl3, vl3, rfl, hL3, hv3, ht3⟩
    obtain ⟨a5', c5', rfl⟩ := Rp.S_slice hL3.1
    obtain ⟨a6', c6', rfl⟩ := VT.rep_slice hv3
    simp only [fibV]
    refine rn_ ?_; intros
    refine xc_ hQ hmb ?_; simp only [SV.den, resV, dens]
    rw [hval]
    exact ⟨_, _, rfl, hL3, hv3, ht3⟩
end Go.Proofs.YtpppkednpamhbaaGreat.R
namespace Go.Proofs.YtpppkednpamhbaaGreat
set_option linter.unusedSimpArgs false
set_option linter.unusedVariables false
open Go.Sx
set_option maxHeartbeats 16000000
set_option maxRecDepth 20000
theorem lay_end {xs c vs : List Value} {z : List Value} {off : Nat} (ho : off = xs.length) (hv : vs = c) (hz : z.length = c.length := by rfl) : lay (xs ++ z) off vs = some (xs ++ c) := by
  subst ho hv
  have := lay_m xs vs z [] hz
  simpa using this
theorem encF_trunc (x : Fw) (r : List Fw) : (encF (x :: r)).take (r.length * 4) = encF r := by
  simp only [encF]
  rw [← encF_len r, List.take_left]
theorem down_nd {p : Pr} {n : Nat} {x : Fm} {r : List Fm} {o : Int × List Fm} (h : downF p n (x :: r) = some o) : ∃ nd, ndAt p x.fn x.nd = some nd := by
  cases n with
  | zero => cases h
  | succ n =>
    simp only [downF] at h
    cases hnd : ndAt p x.fn x.nd with
    | none => rw [hnd] at h; cases h
    | some nd => exact ⟨nd, rfl⟩
theorem prod_ok (b cb : Nat) (p : Pr) (ps : Value) (s o : Fb) (v : VT) (slv : Value) (ow : Lds) (G : Hp) (hc : At G cb 0 [ps]) (hp : rF.S G p ps) (hfb : fbO G b cb s ow) (hv : v.rep G slv) (htv1 : tsz v ≤ 1000) (ho : prodF p s v = some o) :
    PureT Tryz.prog 54 [.pointer (some ⟨b, 0, none⟩), .agg #[.int .i64 v.k, .int .i64 v.n, slv]] G ow (fun _ G' ow' => fbO G' b cb o ow') := by
  obtain ⟨vl, fs, b1, b2, b3, rs, Z, hvl, htv, hfs, hl256, hdn, rfl⟩ := hfb
  obtain ⟨a9, c9, rfl⟩ := VT.rep_slice hv
  unfold prodF at ho
  cases hsl : s.l with
  | nil => rw [hsl] at ho; cases ho
  | cons m l =>
  rw [hsl] at ho hfs hl256 hdn
  obtain ⟨x, r, rfl, hx, hr⟩ := hfs
  have hrl := hr.len
  refine enterT ty tyok Tryz.func54 rfl Tryz.ntmps54 [.p 0 b 0, .a [.v (.int .i64 v.k), .v (.int .i64 v.n), .v (.slice a9 v.l.length c9)]] (by simp) (by simp) (plainL (by simp only [enumO]; exact (by repeat (first | exact plain_nil | refine plain_cons (fun _ h => h) ?_)))) ?_
  intro C w0 hP hQ hnt hty hmb hmh hro hG0 hb0; have hQp := qp_body hQ; refine st_ ?_
  generalize hrest : restB w0 _ G = Zr
  simp only [enumO, fhO, frO, fzO, fdO, List.cons_append, List.nil_append, List.length_cons, List.drop_succ_cons, List.drop_zero]
  refine go_rowcases 1 rfl (fun _ h _ => by simp at h) ?_
  rintro g cap rfl hcap hlen
  simp only [List.length_cons] at hl256
  refine rn_ ?_; intros
  rename_i b5
  have ew : IntKind.i64.wrap (((r.length + 1 : Nat) : Int) - 1) = (r.length : Int) := by rw [wr (by omega) (by omega)]; omega
  refine x_heldP [(0, b, .c 93 [.v (.pointer (some ⟨cb, 0, none⟩)), .v (.int .i64 s.st), .v (.int .i64 s.val.k), .v (.int .i64 s.val.n), .v vl, .v (.slice (some ⟨g, 0, none⟩) (r.length + 1) cap)])] 14 rfl (by rw [hP]; kernel_rfl) rfl rfl rfl ?_; refine st_ ?_
  refine hu_take0 0 rfl (by kernel_rfl) (by kernel_rfl) (by kernel_rfl) (by decide) (fun c a w v => hQp c a w _ v) (by rw [hnt]; rfl) (allIn (by repeat (first | exact trivial | refine ⟨rfl, ?_⟩))) (by first | exact Le.refl _ | assumption) (quiet_op (by rw [hty]; first | rfl | (refine st_ ?_; rfl))) ?_; refine st_ ?_
  refine hu_take0 1 rfl (by kernel_rfl) (by kernel_rfl) (by kernel_rfl) (by decide) (fun c a w v => hQp c a w _ v) (by rw [hnt]; rfl) (allIn (by repeat (first | exact trivial | refine ⟨rfl, ?_⟩))) (by first | exact Le.refl _ | assumption) (quiet_op (by rw [hty]; first | rfl | (refine st_ ?_; rfl))) ?_; refine st_ ?_
  refine hu_take0 2 rfl (by kernel_rfl) (by kernel_rfl) (by kernel_rfl) (by decide) (fun c a w v => hQp c a w _ v) (by rw [hnt]; rfl) (allIn (by repeat (first | exact trivial | refine ⟨rfl, ?_⟩))) (by first | exact Le.refl _ | assumption) (quiet_op (by rw [hty]; first | rfl | (refine st_ ?_; rfl))) ?_; refine st_ ?_
  refine hu_take0 3 rfl (by kernel_rfl) (by kernel_rfl) (by kernel_rfl) (by decide) (fun c a w v => hQp c a w _ v) (by rw [hnt]; rfl) (allIn (by repeat (first | exact trivial | refine ⟨rfl, ?_⟩))) (by first | exact Le.refl _ | assumption) (quiet_op (by rw [hty]; first | rfl | (refine st_ ?_; rfl))) ?_; refine st_ ?_
  refine hu_takeB 4 [4, 14] rfl (by kernel_rfl) (by kernel_rfl) (by kernel_rfl) (by kernel_rfl) (fun c a w v => hQp c a w _ v) (by rw [hnt]; rfl) (allIn (by repeat (first | exact trivial | refine ⟨rfl, ?_⟩))) (by first | exact Le.refl _ | assumption) (quiet_op (by rw [hty]; first | rfl | (refine st_ ?_; rfl))) ?_; refine st_ ?_
  refine hu_take0 5 rfl (by kernel_rfl) (by kernel_rfl) (by kernel_rfl) (by decide) (fun c a w v => hQp c a w _ v) (by rw [hnt]; rfl) (allIn (by repeat (first | exact trivial | refine ⟨rfl, ?_⟩))) (by first | exact Le.refl _ | assumption) (quiet_op (by rw [hty]; first | rfl | (refine st_ ?_; rfl))) ?_; refine st_ ?_
  refine hu_take0 6 rfl (by kernel_rfl) (by kernel_rfl) (by kernel_rfl) (by decide) (fun c a w v => hQp c a w _ v) (by rw [hnt]; rfl) (allIn (by repeat (first | exact trivial | refine ⟨rfl, ?_⟩))) (by first | exact Le.refl _ | assumption) (quiet_op (by rw [hty]; first | rfl | (refine st_ ?_; rfl))) ?_; refine st_ ?_
  refine hu_take0 7 rfl (by kernel_rfl) (by kernel_rfl) (by kernel_rfl) (by decide) (fun c a w v => hQp c a w _ v) (by rw [hnt]; rfl) (allIn (by repeat (first | exact trivial | refine ⟨rfl, ?_⟩))) (by first | exact Le.refl _ | assumption) (quiet_op (by rw [hty]; first | rfl | (refine st_ ?_; rfl))) ?_; refine st_ ?_
  refine hu_takeB 8 [8, 14] rfl (by kernel_rfl) (by kernel_rfl) (by kernel_rfl) (by kernel_rfl) (fun c a w v => hQp c a w _ v) (by rw [hnt]; rfl) (allIn (by repeat (first | exact trivial | refine ⟨rfl, ?_⟩))) (by first | exact Le.refl _ | assumption) (quiet_op (by rw [hty]; first | rfl | (refine st_ ?_; rfl))) ?_; refine st_ ?_
  refine hu_take0 9 rfl (by kernel_rfl) (by kernel_rfl) (by kernel_rfl) (by decide) (fun c a w v => hQp c a w _ v) (by rw [hnt]; rfl) (allIn (by repeat (first | exact trivial | refine ⟨rfl, ?_⟩))) (by first | exact Le.refl _ | assumption) (quiet_op (by rw [hty]; first | rfl | (refine st_ ?_; rfl))) ?_; refine st_ ?_
  refine hu_take0 10 rfl (by kernel_rfl) (by kernel_rfl) (by kernel_rfl) (by decide) (fun c a w v => hQp c a w _ v) (by rw [hnt]; rfl) (allIn (by repeat (first | exact trivial | refine ⟨rfl, ?_⟩))) (by first | exact Le.refl _ | assumption) (quiet_op (by rw [hty]; first | rfl | (refine st_ ?_; rfl))) ?_; refine st_ ?_
  simp only [ew]
  refine hu_takeB 11 [11, 14] rfl (by kernel_rfl) (by kernel_rfl) (by kernel_rfl) (by kernel_rfl) (fun c a w v => hQp c a w _ v) (by rw [hnt]; rfl) (allIn (by repeat (first | exact trivial | refine ⟨rfl, ?_⟩))) (by first | exact Le.refl _ | assumption) (x := .v (.slice (some ⟨g, 0, none⟩) r.length cap)) ((quiet_sliceHi (by rw [hty]; rfl) (by rw [hty]; rfl) rfl rfl rfl (by omega) (by omega)).cast (by simp [SV.den, Sx.sliced, Addr.add])) ?_
  refine st_ ?_
  refine hu_take0 12 rfl (by kernel_rfl) (by kernel_rfl) (by kernel_rfl) (by decide) (fun c a w v => hQp c a w _ v) (by rw [hnt]; rfl) (allIn (by repeat (first | exact trivial | refine ⟨rfl, ?_⟩))) (by first | exact Le.refl _ | assumption) (quiet_op (by rw [hty]; first | rfl | (refine st_ ?_; rfl))) ?_; refine st_ ?_
  refine hu_take0 13 rfl (by kernel_rfl) (by kernel_rfl) (by kernel_rfl) (by decide) (fun c a w v => hQp c a w _ v) (by rw [hnt]; rfl) (allIn (by repeat (first | exact trivial | refine ⟨rfl, ?_⟩))) (by first | exact Le.refl _ | assumption) (quiet_op (by rw [hty]; first | rfl | (refine st_ ?_; rfl))) ?_; refine st_ ?_
  refine hu_last 14 [] rfl (by kernel_rfl) rfl ?_
  refine rn_ ?_; intros
  refine h_end (by kernel_rfl) ?_
  refine go_trunc 1 r.length (by omega) rfl ?_
  refine st_ ?_
  rw [encF_trunc]
  refine rn_ ?_; intros
  refine x_split rfl rfl rfl (fun h0 => ?_) (fun h0 => ?_) <;> (refine st_ ?_; (refine ru_ ?_; intros))
  · have hl0 : l = [] := List.eq_nil_of_length_eq_zero (by rw [← hrl]; simpa using h0)
    subst hl0
    injection ho with ho
    subst ho
    refine rn_ ?_; intros
    refine x_heldP [(1000, b5, .c 42 [.v (.int .i64 v.k), .v (.int .i64 v.n), .v (.slice a9 v.l.length c9)])] 9 rfl (by rw [hP]; kernel_rfl) rfl rfl rfl ?_; refine st_ ?_
    refine hu_take0 0 rfl (by kernel_rfl) (by kernel_rfl) (by kernel_rfl) (by decide) (fun c a w v => hQp c a w _ v) (by rw [hnt]; rfl) (allIn (by repeat (first | exact trivial | refine ⟨rfl, ?_⟩))) (by first | exact Le.refl _ | assumption) (quiet_op (by rw [hty]; first | rfl | (refine st_ ?_; rfl))) ?_; refine st_ ?_
    refine hu_take0 1 rfl (by kernel_rfl) (by kernel_rfl) (by kernel_rfl) (by decide) (fun c a w v => hQp c a w _ v) (by rw [hnt]; rfl) (allIn (by repeat (first | exact trivial | refine ⟨rfl, ?_⟩))) (by first | exact Le.refl _ | assumption) (quiet_op (by rw [hty]; first | rfl | (refine st_ ?_; rfl))) ?_; refine st_ ?_
    refine hu_take0 2 rfl (by kernel_rfl) (by kernel_rfl) (by kernel_rfl) (by decide) (fun c a w v => hQp c a w _ v) (by rw [hnt]; rfl) (allIn (by repeat (first | exact trivial | refine ⟨rfl, ?_⟩))) (by first | exact Le.refl _ | assumption) (quiet_op (by rw [hty]; first | rfl | (refine st_ ?_; rfl))) ?_; refine st_ ?_
    refine hu_takeB 3 [3, 9] rfl (by kernel_rfl) (by kernel_rfl) (by kernel_rfl) (by kernel_rfl) (fun c a w v => hQp c a w _ v) (by rw [hnt]; rfl) (allIn (by repeat (first | exact trivial | refine ⟨rfl, ?_⟩))) (by first | exact Le.refl _ | assumption) (quiet_op (by rw [hty]; first | rfl | (refine st_ ?_; rfl))) ?_; refine st_ ?_
    refine hu_take0 4 rfl (by kernel_rfl) (by kernel_rfl) (by kernel_rfl) (by decide) (fun c a w v => hQp c a w _ v) (by rw [hnt]; rfl) (allIn (by repeat (first | exact trivial | refine ⟨rfl, ?_⟩))) (by first | exact Le.refl _ | assumption) (quiet_op (by rw [hty]; first | rfl | (refine st_ ?_; rfl))) ?_; refine st_ ?_
    refine hu_take0 5 rfl (by kernel_rfl) (by kernel_rfl) (by kernel_rfl) (by decide) (fun c a w v => hQp c a w _ v) (by rw [hnt]; rfl) (allIn (by repeat (first | exact trivial | refine ⟨rfl, ?_⟩))) (by first | exact Le.refl _ | assumption) (quiet_op (by rw [hty]; first | rfl | (refine st_ ?_; rfl))) ?_; refine st_ ?_
    refine hu_one 6 rfl (by kernel_rfl) ?_
    refine rn_ ?_; intros
    refine hs_ ?_
    refine hu_take0 7 rfl (by kernel_rfl) (by kernel_rfl) (by kernel_rfl) (by decide) (fun c a w v => hQp c a w _ v) (by rw [hnt]; rfl) (allIn (by repeat (first | exact trivial | refine ⟨rfl, ?_⟩))) (by first | exact Le.refl _ | assumption) (quiet_op (by rw [hty]; first | rfl | (refine st_ ?_; rfl))) ?_; refine st_ ?_
    refine hu_take0 8 rfl (by kernel_rfl) (by kernel_rfl) (by kernel_rfl) (by decide) (fun c a w v => hQp c a w _ v) (by rw [hnt]; rfl) (allIn (by repeat (first | exact trivial | refine ⟨rfl, ?_⟩))) (by first | exact Le.refl _ | assumption) (quiet_op (by rw [hty]; first | rfl | (refine st_ ?_; rfl))) ?_; refine st_ ?_
    refine hu_last 9 [] rfl (by kernel_rfl) rfl ?_
    refine rn_ ?_; intros
    refine h_one 10 rfl (by kernel_rfl) ?_
    refine rn_ ?_; intros
    refine hs_ ?_
    refine h_one 11 rfl (by kernel_rfl) ?_
    refine rn_ ?_; intros
    refine hs_ ?_
    refine h_one 12 rfl (by kernel_rfl) ?_
    refine rn_ ?_; intros
    refine hs_ ?_
    refine h_end (by kernel_rfl) ?_
    refine rn_ ?_; intros
    refine go_rownil 1 rfl ?_
    refine go_znull 2 rfl ?_
    intro Z5
    refine st_ ?_
    refine x_ret0T rfl hQ hmh hb0 rfl (by first | (simp; done) | decide) rfl rfl (by rw [hrest]; rfl) (by first | exact Le.refl _ | assumption | exact (Le.refl _)) rfl (by simp only [enumO]; exact (by repeat (first | exact plain_nil | refine plain_cons (fun _ h => h) ?_))) ?_
    intro _
    exact ⟨_, .slice none 0 0, b1, b2, b3, [], Z5, hv, htv1, rfl, by simp, fun _ _ h => by simp at h, rfl⟩
  · cases l with
    | nil => exact absurd h0 (by simp at hrl; simp [hrl])
    | cons y l =>
    simp only [] at ho
    split at ho
    rotate_left
    · cases ho
    rename_i hyl
    obtain ⟨o1, ho1, rfl⟩ := Option.map_eq_some_iff.1 ho
    obtain ⟨nd, hnd⟩ := down_nd ho1
    simp only [] at hnd
    obtain ⟨yx, r2, rfl, hy, hr2⟩ := hr
    have hrl2 := hr2.len
    obtain ⟨yfn, ynd, yvars, ye, ysz, ydv, yn, yxs⟩ := yx
    obtain ⟨x1, x2, x3, x4, x5, x6, x7⟩ := hy
    obtain ⟨d1, d2, d3, d4, d5, ad, cd, d6, d7⟩ := x7
    simp only at x1 x2 x5 x6 d1 d2 d3 d4 d5 d6
    subst x1 x2 d1 d2 d3 d6
    obtain ⟨av, cv', rfl⟩ := Rp.S_slice x6
    have hyx := Rp.L_len d4
    simp only [rW] at hyx
    have hlen2 := encF_len (⟨y.fn, y.nd, .slice av y.vars.length cv', ⟨42, 3, .slice ad y.done.length cd, y.done.length, yxs⟩⟩ :: r2)
    simp only [List.length_cons] at hlen2
    simp only [List.map_cons]
    refine go_zpop 2 3 rfl rfl (by decide) (.inl ⟨by rw [hmh]; omega, by rw [hmh]; omega⟩) ?_
    intro Z3
    refine st_ ?_
    refine go_callW [0, 1] (by rw [hnt]; rfl) (by rw [hP]; kernel_rfl) rfl rfl rfl (.inl (by rw [hmh]; simp)) (by rw [hP]; exact last_ok b cb b1 s.st s.val.k s.val.n vl _ ps p y l (⟨y.fn, y.nd, .slice av y.vars.length cv', ⟨42, 3, .slice ad y.done.length cd, y.done.length, yxs⟩⟩ :: r2) nd G hc hp ⟨_, _, rfl, ⟨rfl, rfl, x3, x4, x5, x6, ⟨rfl, rfl, rfl, d4, d5, _, _, rfl, d7⟩⟩, hr2⟩ hnd (by simp at hl256; omega)) ?_
    rintro v5 G2 ow5 (hle2 : Le G G2) ⟨rfl, g', cap', sl', e1, rfl, hsl'⟩
    injection e1 with q1 q2 q3
    injection q1 with q1
    injection q1 with q4 q5 q6
    subst q4 q3
    obtain ⟨asl, csl, rfl⟩ := Rp.S_slice hsl'
    have hc2 := hc.mono hle2
    have hp2 := Rp.S_mono hle2 hp
    simp only [setO, stk, fhO, frO, List.length_cons]
    refine rn_ ?_; intros
    refine x_heldP [(1, b1, .row (.slice (some ⟨g, 0, none⟩) (r2.length + 1) cap) 90 4 (r2.length + 1) (encF (⟨y.fn, y.nd, .slice av y.vars.length cv', ⟨42, 3, .slice ad y.done.length cd, y.done.length, yxs⟩⟩ :: r2))), (1000, b5, .c 42 [.v (.int .i64 v.k), .v (.int .i64 v.n), .v (.slice a9 v.l.length c9)])] 7 rfl (by rw [hP]; kernel_rfl) rfl rfl rfl ?_; refine st_ ?_
    refine hu_take0 0 rfl (by kernel_rfl) (by kernel_rfl) (by kernel_rfl) (by decide) (fun c a w v => hQp c a w _ v) (by rw [hnt]; rfl) (allIn (by repeat (first | exact trivial | refine ⟨rfl, ?_⟩))) (by first | exact Le.refl _ | assumption) (quiet_op (by rw [hty]; first | rfl | (refine st_ ?_; rfl))) ?_; refine st_ ?_
    refine hu_take0 1 rfl (by kernel_rfl) (by kernel_rfl) (by kernel_rfl) (by decide) (fun c a w v => hQp c a w _ v) (by rw [hnt]; rfl) (allIn (by repeat (first | exact trivial | refine ⟨rfl, ?_⟩))) (by first | exact Le.refl _ | assumption) (quiet_op (by rw [hty]; first | rfl | (refine st_ ?_; rfl))) ?_; refine st_ ?_
    refine hu_take0 2 rfl (by kernel_rfl) (by kernel_rfl) (by kernel_rfl) (by decide) (fun c a w v => hQp c a w _ v) (by rw [hnt]; rfl) (allIn (by repeat (first | exact trivial | refine ⟨rfl, ?_⟩))) (by first | exact Le.refl _ | assumption) (quiet_op (by rw [hty]; first | rfl | (refine st_ ?_; rfl))) ?_; refine st_ ?_
    refine hu_takeB 3 [3, 7] rfl (by kernel_rfl) (by kernel_rfl) (by kernel_rfl) (by kernel_rfl) (fun c a w v => hQp c a w _ v) (by rw [hnt]; rfl) (allIn (by repeat (first | exact trivial | refine ⟨rfl, ?_⟩))) (by first | exact Le.refl _ | assumption) (x := .v (.slice ad y.done.length cd)) ((quiet_loadR (k := 1) (by rw [hty]; rfl) rfl (by simp [TK.agg]) rfl (by simp only []; omega)).cast (by exact encF_ld (j := 3) (by omega) rfl)) ?_
    refine st_ ?_
    refine hu_takeB 4 [4, 7] rfl (by kernel_rfl) (by kernel_rfl) (by kernel_rfl) (by kernel_rfl) (fun c a w v => hQp c a w _ v) (by rw [hnt]; rfl) (allIn (by repeat (first | exact trivial | refine ⟨rfl, ?_⟩))) (by first | exact Le.refl _ | assumption) (quiet_op (by rw [hty]; first | rfl | (refine st_ ?_; rfl))) ?_; refine st_ ?_
    refine hu_take0 5 rfl (by kernel_rfl) (by kernel_rfl) (by kernel_rfl) (by decide) (fun c a w v => hQp c a w _ v) (by rw [hnt]; rfl) (allIn (by repeat (first | exact trivial | refine ⟨rfl, ?_⟩))) (by first | exact Le.refl _ | assumption) (quiet_op (by rw [hty]; first | rfl | (refine st_ ?_; rfl))) ?_; refine st_ ?_
    refine hu_one 6 rfl (by kernel_rfl) ?_
    refine rn_ ?_; intros
    refine hs_ ?_
    refine hu_last 7 [] rfl (by kernel_rfl) rfl ?_
    refine go_appendL 3 (by rw [hnt]; rfl) (by rw [hty]; rfl) (by rw [hty]; rfl) (by decide) rfl rfl rfl rfl (src_own 3 rfl rfl) rfl (by simp [dens, SV.den, Value.oneCell']) (by omega) (by simp only []; omega) ?_
    intro v6
    refine go_rowcases 3 rfl (fun _ h _ => by omega) ?_
    rintro g3 cap3 rfl hcap3 hlen3
    refine rn_ ?_; intros
    have hrv2 := VT.rep_mono hle2 hv
    have hfs3 : fsOk G2 (⟨y.fn, y.nd, y.vars, y.done ++ [v]⟩ :: l) (⟨y.fn, y.nd, .slice av y.vars.length cv', ⟨42, 3, .slice (some ⟨g3, 0, none⟩) (y.done.length + 1) cap3, y.done.length + 1, yxs ++ [.int .i64 v.k, .int .i64 v.n, .slice a9 v.l.length c9]⟩⟩ :: r2) :=
      ⟨_, _, rfl, ⟨rfl, rfl, x3, x4, x5, Rp.S_mono hle2 x6, ⟨rfl, rfl, by simp, Rp.L_append (Rp.L_mono hle2 d4) (Rp.L_single ⟨_, rfl, hrv2, htv1⟩), by simp; omega, some ⟨g3, 0, none⟩, cap3, by simp, by simp; omega⟩⟩, hr2.mono hle2⟩
    refine tq_ 8 rfl (x := .v (.pointer (some ⟨g3, y.done.length * 3, none⟩))) ((quiet_index (by rw [hty]; rfl) (by rw [hty]; rfl) rfl rfl rfl (by omega) (by omega)).cast (by simp [SV.den])) ?_
    refine st_ ?_
    refine tq_ 10 rfl (quiet_op (by rw [hty]; first | rfl | (refine st_ ?_; rfl))) ?_; refine st_ ?_
    refine tq_ 11 rfl (quiet_op (by rw [hty]; first | rfl | (refine st_ ?_; rfl))) ?_; refine st_ ?_
    refine h_two 9 12 rfl rfl (by kernel_rfl) ?_ ?_
    · refine rn_ ?_; intros
      refine go_storeR (k := 3) (xs' := yxs ++ [.int .i64 v.k, .int .i64 v.n, .slice a9 v.l.length c9]) (by rw [hnt]; rfl) (by rw [hty]; rfl) rfl rfl rfl rfl rfl rfl (lay_end (by omega) rfl) ?_
      refine rn_ ?_; intros
      refine hs_ ?_
      refine h_one 12 rfl (by kernel_rfl) ?_
      refine go_storeR (k := 1) (xs' := encF (⟨y.fn, y.nd, .slice av y.vars.length cv', ⟨42, 3, .slice (some ⟨g3, 0, none⟩) (y.done.length + 1) cap3, y.done.length + 1, yxs ++ [.int .i64 v.k, .int .i64 v.n, .slice a9 v.l.length c9]⟩⟩ :: r2)) (by rw [hnt]; rfl) (by rw [hty]; rfl) rfl rfl rfl rfl rfl rfl (encF_lay (j := 3) (us := [.slice (some ⟨g3, 0, none⟩) (y.done.length + 1) cap3]) (by omega) rfl rfl) ?_
      refine rn_ ?_; intros
      refine hs_ ?_
      refine h_end (by kernel_rfl) ?_
      refine rn_ ?_; intros
      refine go_callT [0, 1, 2, 3] (by rw [hnt]; rfl) (by rw [hP]; kernel_rfl) rfl rfl rfl (by rw [hmh]; simp) (by rw [hP]; exact desc_ok b cb p ps ⟨s.st, s.val, ⟨y.fn, y.nd, y.vars, y.done ++ [v]⟩ :: l⟩ 600 o1 _ G2 hc2 hp2 ⟨vl, _, b1, b2, b3, ⟨y.fn, y.nd, .slice av y.vars.length cv', ⟨42, 3, .slice (some ⟨g3, 0, none⟩) (y.done.length + 1) cap3, y.done.length + 1, yxs ++ [.int .i64 v.k, .int .i64 v.n, .slice a9 v.l.length c9]⟩⟩ :: r2, Z3, VT.rep_mono hle2 hvl, htv, hfs3, by simp at hl256 ⊢; omega, rfl⟩ ho1) ?_
      rintro v6 G6 ow6 (hle6 : Le G2 G6) ⟨vl6, fs6, c1, c2, c3, rs6, Z6, w1, w2, w3, w4, w5, rfl⟩
      simp only [setO, stk, fhO, frO, fzO, fdO]
      refine rn_ ?_; intros
      have hleA := hle2.trans hle6
      refine x_endT hQ hmh hb0 rfl (by first | (simp; done) | decide) rfl rfl (by rw [hrest]; rfl) (by first | exact Le.refl _ | assumption | exact hleA) rfl (by simp only [enumO]; exact (by repeat (first | exact plain_nil | refine plain_cons (fun _ h => h) ?_))) ?_
      intro _
      exact ⟨vl6, fs6, c1, c2, c3, rs6, Z6, w1, w2, w3, w4, w5, rfl⟩
    · refine rn_ ?_; intros
      refine go_storeR (k := 1) (xs' := encF (⟨y.fn, y.nd, .slice av y.vars.length cv', ⟨42, 3, .slice (some ⟨g3, 0, none⟩) (y.done.length + 1) cap3, y.done.length + 1, yxs ++ [.int .i64 v.k, .int .i64 v.n, .slice a9 v.l.length c9]⟩⟩ :: r2)) (by rw [hnt]; rfl) (by rw [hty]; rfl) rfl rfl rfl rfl rfl rfl (encF_lay (j := 3) (us := [.slice (some ⟨g3, 0, none⟩) (y.done.length + 1) cap3]) (by omega) rfl rfl) ?_
      refine rn_ ?_; intros
      refine hs_ ?_
      refine h_one 9 rfl (by kernel_rfl) ?_
      refine go_storeR (k := 3) (xs' := yxs ++ [.int .i64 v.k, .int .i64 v.n, .slice a9 v.l.length c9]) (by rw [hnt]; rfl) (by rw [hty]; rfl) rfl rfl rfl rfl rfl rfl (lay_end (by omega) rfl) ?_
      refine rn_ ?_; intros
      refine hs_ ?_
      refine h_end (by kernel_rfl) ?_
      refine rn_ ?_; intros
      refine go_callT [0, 1, 2, 3] (by rw [hnt]; rfl) (by rw [hP]; kernel_rfl) rfl rfl rfl (by rw [hmh]; simp) (by rw [hP]; exact desc_ok b cb p ps ⟨s.st, s.val, ⟨y.fn, y.nd, y.vars, y.done ++ [v]⟩ :: l⟩ 600 o1 _ G2 hc2 hp2 ⟨vl, _, b1, b2, b3, ⟨y.fn, y.nd, .slice av y.vars.length cv', ⟨42, 3, .slice (some ⟨g3, 0, none⟩) (y.done.length + 1) cap3, y.done.length + 1, yxs ++ [.int .i64 v.k, .int .i64 v.n, .slice a9 v.l.length c9]⟩⟩ :: r2, Z3, VT.rep_mono hle2 hvl, htv, hfs3, by simp at hl256 ⊢; omega, rfl⟩ ho1) ?_
      rintro v6 G6 ow6 (hle6 : Le G2 G6) ⟨vl6, fs6, c1, c2, c3, rs6, Z6, w1, w2, w3, w4, w5, rfl⟩
      simp only [setO, stk, fhO, frO, fzO, fdO]
      refine rn_ ?_; intros
      have hleA := hle2.trans hle6
      refine x_endT hQ hmh hb0 rfl (by first | (simp; done) | decide) rfl rfl (by rw [hrest]; rfl) (by first | exact Le.refl _ | assumption | exact hleA) rfl (by simp only [enumO]; exact (by repeat (first | exact plain_nil | refine plain_cons (fun _ h => h) ?_))) ?_
      intro _
      exact ⟨vl6, fs6, c1, c2, c3, rs6, Z6, w1, w2, w3, w4, w5, rfl⟩
end Go.Proofs.YtpppkednpamhbaaGreat
namespace Go.Proofs.YtpppkednpamhbaaGreat
set_option linter.unusedSimpArgs false
set_option linter.unusedVariables false
open Go.Sx
set_option maxHeartbeats 16000000
set_option maxRecDepth 20000
theorem step_ok (b cb : Nat) (p : Pr) (ps : Value) (s o : Fb) (e : Int) (ow : Lds) (G : Hp) (hc : At G cb 0 [ps]) (hp : rF.S G p ps) (hfb : fbO G b cb s ow) (h : stepP p s = some (e, o)) :
    PureT Tryz.prog 30 [.pointer (some ⟨b, 0, none⟩)] G ow (fun v G' ow' => v = .int .i64 e ∧ fbO G' b cb o ow') := by
  obtain ⟨vl, fs, b1, b2, b3, rs, Z, hvl, htv, hfs, hl256, hdn, rfl⟩ := hfb
  unfold stepP at h
  refine enterT ty tyok Tryz.func30 rfl Tryz.ntmps30 [.p 0 b 0] (by simp) (by simp) (plainL (by simp only [enumO]; exact (by repeat (first | exact plain_nil | refine plain_cons (fun _ h => h) ?_)))) ?_
  intro C w0 hP hQ hnt hty hmb hmh hro hG0 hb0; have hQp := qp_body hQ; refine st_ ?_
  generalize hrest : restB w0 _ G = Zr
  simp only [enumO, frO, fzO, fdO, List.cons_append, List.nil_append]
  refine rn_ ?_; intros
  refine go_callW [0] (by rw [hnt]; rfl) (by rw [hP]; kernel_rfl) rfl rfl rfl (.inl (by rw [hmh]; simp)) (by rw [hP]; exact miss_ok b cb s.st s.val.k s.val.n vl fs G) ?_
  rintro v5 G1 ow5 (hle1 : Le G G1) ⟨rfl, rfl⟩
  simp only [setO, stk, fhO]
  refine rn_ ?_; intros
  (refine x_split rfl rfl rfl (fun hc => absurd hc (by first | decide +kernel | (simp; first | done | fail))) (fun _ => ?_); refine st_ ?_; (refine ru_ ?_; intros))
  refine rn_ ?_; intros
  refine x_split rfl rfl rfl (fun h1 => ?_) (fun h1 => ?_) <;> (refine st_ ?_; (refine ru_ ?_; intros))
  · have h1 : s.st ≠ 1 := by simpa using h1
    rw [if_pos h1] at h
    cases h
    refine rn_ ?_; intros
    refine x_retT rfl hQ hmh hb0 rfl (by first | (simp; done) | decide) rfl (by rw [hty]; simp only [so, sq, zy, zz, tyE, SO', SQ', opQ, opStore, opAlloc, ev, putS, dOk, cv, SV.cs, SV.one, SV.bool?, eqB, Value.oneCell', ldOwn, binInt, binConst, binBool, binStr, isC, TK.agg, rv, rv1, ldV, resOne, resV, Nat.reduceAdd, Nat.reduceMul, Nat.reduceSub, Nat.reduceLT, Nat.reduceLeDiff, Nat.reduceEqDiff, Nat.reduceBEq, reduceIte, reduceCtorEq, eq_self]; try rfl) rfl (by rw [hrest]; rfl) (by first | exact Le.refl _ | assumption) rfl (by simp only [enumO]; exact (by repeat (first | exact plain_nil | refine plain_cons (fun _ h => h) ?_))) ?_; simp only [SV.den, resV, dens]
    exact ⟨by first | rfl | trivial, vl, fs, b1, b2, b3, rs, Z, VT.rep_mono hle1 hvl, htv, hfs.mono hle1, hl256, fun m x q q' => Rp.S_mono hle1 (hdn m x q q'), rfl⟩
  have h1 : ¬ s.st ≠ 1 := by simpa using h1
  rw [if_neg h1] at h
  cases hsl : s.l with
  | nil => rw [hsl] at h; cases h
  | cons m l =>
  rw [hsl] at h hfs hl256 hdn
  simp only [] at h
  cases hnd : ndAt p m.fn m.nd with
  | none => rw [hnd] at h; cases h
  | some nd =>
  rw [hnd] at h
  simp only [] at h
  have hc1 := hc.mono hle1
  have hp1 := Rp.S_mono hle1 hp
  refine rn_ ?_; intros
  refine go_callW [0, 1] (by rw [hnt]; rfl) (by rw [hP]; kernel_rfl) rfl rfl rfl (.inl (by rw [hmh]; simp)) (by rw [hP]; exact last_ok b cb b1 s.st s.val.k s.val.n vl fs ps p m l rs nd G1 hc1 hp1 (hfs.mono hle1) hnd (by simp at hl256; omega)) ?_
  rintro v G2 ow2 (hle2 : Le G1 G2) ⟨rfl, g, cap, sl, rfl, rfl, hrI⟩
  obtain ⟨asl, csl, rfl⟩ := Rp.S_slice hrI
  have hrI := Rp.S_mono hle2 hrI
  have hle12 := hle1.trans hle2
  have hc2 := hc.mono hle12
  have hp2 := Rp.S_mono hle12 hp
  have hfs := hfs.mono hle12
  obtain ⟨x, r, rfl, hx, hr⟩ := hfs
  have hds := Rp.S_mono hle12 (hdn m x rfl rfl)
  obtain ⟨xfn, xnd, xvars, xe, xsz, xdv, xn, xxs⟩ := x
  obtain ⟨x1, x2, x3, x4, x5, x6, x7⟩ := hx
  obtain ⟨d1, d2, d3, d4, d5, ad, cd, d6, d7⟩ := x7
  simp only at x1 x2 x5 x6 d1 d2 d3 d4 d5 d6 hds
  subst x1 x2 d1 d2 d3 d6
  obtain ⟨av, cv', rfl⟩ := Rp.S_slice x6
  have hlen := encF_len (⟨m.fn, m.nd, .slice av m.vars.length cv', ⟨42, 3, .slice ad m.done.length cd, m.done.length, xxs⟩⟩ :: r)
  simp only [List.length_cons] at hlen hl256
  have hrl := hr.len
  obtain ⟨_, _, _, _, _, _, _, _, _, _, _, _, _, _, _, _, hop64, hn64, _⟩ := nd_at hp hnd
  simp only [setO, stk, frO, fhO, List.length_cons, List.drop_succ_cons, List.drop_zero]
  refine rn_ ?_; intros
  rename_i b4
  refine x_split rfl rfl rfl (fun h2 => ?_) (fun h2 => ?_) <;> (refine st_ ?_; (refine ru_ ?_; intros))
  · have h2 : nd.op = 13 := by simpa using h2
    rw [if_pos h2] at h
    obtain ⟨o2, ho2, heq⟩ := Option.map_eq_some_iff.1 h
    cases heq
    obtain ⟨o1, ho1, rfl⟩ := Option.map_eq_some_iff.1 ho2
    refine rn_ ?_; intros
    refine x_heldP [(1, b1, .row (.slice (some ⟨g, 0, none⟩) (r.length + 1) cap) 90 4 (r.length + 1) (encF (⟨m.fn, m.nd, .slice av m.vars.length cv', ⟨42, 3, .slice ad m.done.length cd, m.done.length, xxs⟩⟩ :: r))), (1000, b4, .c 110 [.v (.int .i64 nd.op), .v (.int .i64 nd.n), .v (.slice asl nd.l.length csl)])] 9 rfl (by rw [hP]; kernel_rfl) rfl rfl rfl ?_; refine st_ ?_
    refine hu_take0 0 rfl (by kernel_rfl) (by kernel_rfl) (by kernel_rfl) (by decide) (fun c a w v => hQp c a w _ v) (by rw [hnt]; rfl) (allIn (by repeat (first | exact trivial | refine ⟨rfl, ?_⟩))) (by first | exact Le.refl _ | assumption) (quiet_op (by rw [hty]; first | rfl | (refine st_ ?_; rfl))) ?_; refine st_ ?_
    refine hu_take0 1 rfl (by kernel_rfl) (by kernel_rfl) (by kernel_rfl) (by decide) (fun c a w v => hQp c a w _ v) (by rw [hnt]; rfl) (allIn (by repeat (first | exact trivial | refine ⟨rfl, ?_⟩))) (by first | exact Le.refl _ | assumption) (quiet_op (by rw [hty]; first | rfl | (refine st_ ?_; rfl))) ?_; refine st_ ?_
    refine hu_takeB 2 [2, 9] rfl (by kernel_rfl) (by kernel_rfl) (by kernel_rfl) (by kernel_rfl) (fun c a w v => hQp c a w _ v) (by rw [hnt]; rfl) (allIn (by repeat (first | exact trivial | refine ⟨rfl, ?_⟩))) (by first | exact Le.refl _ | assumption) (quiet_op (by rw [hty]; first | rfl | (refine st_ ?_; rfl))) ?_; refine st_ ?_
    refine hu_take0 3 rfl (by kernel_rfl) (by kernel_rfl) (by kernel_rfl) (by decide) (fun c a w v => hQp c a w _ v) (by rw [hnt]; rfl) (allIn (by repeat (first | exact trivial | refine ⟨rfl, ?_⟩))) (by first | exact Le.refl _ | assumption) (quiet_op (by rw [hty]; first | rfl | (refine st_ ?_; rfl))) ?_; refine st_ ?_
    refine hu_take0 4 rfl (by kernel_rfl) (by kernel_rfl) (by kernel_rfl) (by decide) (fun c a w v => hQp c a w _ v) (by rw [hnt]; rfl) (allIn (by repeat (first | exact trivial | refine ⟨rfl, ?_⟩))) (by first | exact Le.refl _ | assumption) (quiet_op (by rw [hty]; first | rfl | (refine st_ ?_; rfl))) ?_; refine st_ ?_
    refine hu_take0 5 rfl (by kernel_rfl) (by kernel_rfl) (by kernel_rfl) (by decide) (fun c a w v => hQp c a w _ v) (by rw [hnt]; rfl) (allIn (by repeat (first | exact trivial | refine ⟨rfl, ?_⟩))) (by first | exact Le.refl _ | assumption) (quiet_op (by rw [hty]; first | rfl | (refine st_ ?_; rfl))) ?_; refine st_ ?_
    refine hu_takeB 6 [6, 9] rfl (by kernel_rfl) (by kernel_rfl) (by kernel_rfl) (by kernel_rfl) (fun c a w v => hQp c a w _ v) (by rw [hnt]; rfl) (allIn (by repeat (first | exact trivial | refine ⟨rfl, ?_⟩))) (by first | exact Le.refl _ | assumption) (x := .v (.slice ad m.done.length cd)) ((quiet_loadR (k := 1) (by rw [hty]; rfl) rfl (by simp [TK.agg]) rfl (by simp only []; omega)).cast (by exact encF_ld (j := 3) (by omega) rfl)) ?_
    refine st_ ?_
    refine hu_take0 7 rfl (by kernel_rfl) (by kernel_rfl) (by kernel_rfl) (by decide) (fun c a w v => hQp c a w _ v) (by rw [hnt]; rfl) (allIn (by repeat (first | exact trivial | refine ⟨rfl, ?_⟩))) (by first | exact Le.refl _ | assumption) (quiet_op (by rw [hty]; first | rfl | (refine st_ ?_; rfl))) ?_; refine st_ ?_
    refine hu_take0 8 rfl (by kernel_rfl) (by kernel_rfl) (by kernel_rfl) (by decide) (fun c a w v => hQp c a w _ v) (by rw [hnt]; rfl) (allIn (by repeat (first | exact trivial | refine ⟨rfl, ?_⟩))) (by first | exact Le.refl _ | assumption) (quiet_op (by rw [hty]; first | rfl | (refine st_ ?_; rfl))) ?_; refine st_ ?_
    refine hu_last 9 [] rfl (by kernel_rfl) rfl ?_
    refine go_storeR (k := 1) (xs' := encF (⟨nd.n, 0, .slice ad m.done.length cd, rw0⟩ :: r)) (by rw [hnt]; rfl) (by rw [hty]; rfl) rfl rfl rfl rfl rfl rfl (encF_lay (j := 0) (us := [.int .i64 nd.n, .int .i64 0, .slice ad m.done.length cd, .slice none 0 0]) (by omega) rfl rfl) ?_
    refine rn_ ?_; intros
    refine h_end (by kernel_rfl) ?_
    refine rn_ ?_; intros
    refine go_callT [0, 1, 2, 3] (by rw [hnt]; rfl) (by rw [hP]; kernel_rfl) rfl rfl rfl (by rw [hmh]; simp) (by rw [hP]; exact desc_ok b cb p ps ⟨s.st, s.val, ⟨nd.n, 0, m.done, []⟩ :: l⟩ 600 o1 _ G2 hc2 hp2 ⟨vl, _, b1, b2, b3, ⟨nd.n, 0, .slice ad m.done.length cd, rw0⟩ :: r, Z, VT.rep_mono hle12 hvl, htv, ⟨_, _, rfl, ⟨rfl, rfl, hn64, (by simp [isI64] : isI64 0), fun _ _ _ q => by injection q with _ q2 q3; omega, hds, rw0_ok _⟩, hr⟩, by simp; omega, rfl⟩ ho1) ?_
    rintro v6 G6 ow6 (hle6 : Le _ G6) ⟨vl6, fs6, c1, c2, c3, rs6, Z6, w1, w2, w3, w4, w5, rfl⟩
    simp only [setO, stk, fhO, frO, fzO, fdO]
    refine rn_ ?_; intros
    have hleA := hle12.trans hle6
    refine x_retT rfl hQ hmh hb0 rfl (by first | (simp; done) | decide) rfl (by rw [hty]; simp only [so, sq, zy, zz, tyE, SO', SQ', opQ, opStore, opAlloc, ev, putS, dOk, cv, SV.cs, SV.one, SV.bool?, eqB, Value.oneCell', ldOwn, binInt, binConst, binBool, binStr, isC, TK.agg, rv, rv1, ldV, resOne, resV, Nat.reduceAdd, Nat.reduceMul, Nat.reduceSub, Nat.reduceLT, Nat.reduceLeDiff, Nat.reduceEqDiff, Nat.reduceBEq, reduceIte, reduceCtorEq, eq_self]; try rfl) rfl (by rw [hrest]; rfl) (by first | exact Le.refl _ | assumption) rfl (by simp only [enumO]; exact (by repeat (first | exact plain_nil | refine plain_cons (fun _ h => h) ?_))) ?_; simp only [SV.den, resV, dens]
    exact ⟨by first | rfl | trivial, vl6, fs6, c1, c2, c3, rs6, Z6, w1, w2, w3, w4, w5, rfl⟩
  have h2 : ¬ nd.op = 13 := by simpa using h2
  rw [if_neg h2] at h
  cases hres : resF m nd with
  | none => rw [hres] at h; cases h
  | some ov =>
  rw [hres] at h
  refine rn_ ?_; intros
  refine go_callW [1] (by rw [hnt]; rfl) (by rw [hP]; kernel_rfl) rfl rfl rfl (.inl (by rw [hmh]; simp)) (by rw [hP]; exact result_ok b1 g cap m ⟨m.fn, m.nd, .slice av m.vars.length cv', ⟨42, 3, .slice ad m.done.length cd, m.done.length, xxs⟩⟩ r nd _ ov (l.length * 4) G2 (by rw [hrl]) x6 hds hrI hn64 hres) ?_
  rintro v3 G3 ow3 (hle3 : Le G2 G3) ⟨rfl, hpost⟩
  have hle13 := hle12.trans hle3
  cases ov with
  | none =>
    simp only [] at h
    cases h
    obtain ⟨k5, n5, e5, rfl, he5⟩ := hpost
    simp only [setO, stk, frO, List.length_cons, Nat.one_ne_zero, if_false, if_true]
    refine st_ ?_
    refine rn_ ?_; intros
    refine x_split rfl rfl rfl (fun h9 => ?_) (fun h9 => ?_) <;> (refine st_ ?_; (refine ru_ ?_; intros))
    rotate_left
    · exact absurd h9 (by simpa using he5)
    refine rn_ ?_; intros
    refine go_callW [0] (by rw [hnt]; rfl) (by rw [hP]; kernel_rfl) rfl rfl rfl (.inl (by rw [hmh]; simp)) (by rw [hP]; exact fail_ok b cb s.st s.val.k s.val.n vl _ _) ?_
    rintro v5 G5 ow5 (hle5 : Le _ G5) rfl
    simp only [setO, stk, fhO]
    refine rn_ ?_; intros
    refine go_rownil 1 rfl ?_
    refine go_znull 2 rfl ?_
    intro Z5
    refine st_ ?_
    have hleA := hle13.trans hle5
    refine x_retT rfl hQ hmh hb0 rfl (by first | (simp; done) | decide) rfl (by rw [hty]; simp only [so, sq, zy, zz, tyE, SO', SQ', opQ, opStore, opAlloc, ev, putS, dOk, cv, SV.cs, SV.one, SV.bool?, eqB, Value.oneCell', ldOwn, binInt, binConst, binBool, binStr, isC, TK.agg, rv, rv1, ldV, resOne, resV, Nat.reduceAdd, Nat.reduceMul, Nat.reduceSub, Nat.reduceLT, Nat.reduceLeDiff, Nat.reduceEqDiff, Nat.reduceBEq, reduceIte, reduceCtorEq, eq_self]; try rfl) rfl (by rw [hrest]; rfl) (by first | exact Le.refl _ | assumption) rfl (by simp only [enumO]; exact (by repeat (first | exact plain_nil | refine plain_cons (fun _ h => h) ?_))) ?_; simp only [SV.den, resV, dens]
    exact ⟨by first | rfl | trivial, vl, .slice none 0 0, b1, b2, b3, [], Z5, VT.rep_mono hleA hvl, htv, rfl, by simp, fun _ _ q => by simp at q, rfl⟩
  | some y =>
    simp only [] at h
    obtain ⟨o2, ho2, heq⟩ := Option.map_eq_some_iff.1 h
    cases heq
    obtain ⟨sy, rfl, hry, hyt⟩ := hpost
    obtain ⟨a8, c8, rfl⟩ := VT.rep_slice hry
    have hc3 := hc.mono hle13
    have hp3 := Rp.S_mono hle13 hp
    simp only [setO, stk, frO, List.length_cons, Nat.one_ne_zero, if_false, if_true]
    refine st_ ?_
    refine rn_ ?_; intros
    (refine x_split rfl rfl rfl (fun hc => absurd hc (by first | decide +kernel | (simp; first | done | fail))) (fun _ => ?_); refine st_ ?_; (refine ru_ ?_; intros))
    refine rn_ ?_; intros
    refine go_callT [0, 1, 2, 3] (by rw [hnt]; rfl) (by rw [hP]; kernel_rfl) rfl rfl rfl (by rw [hmh]; simp) (by rw [hP]; exact prod_ok b cb p ps s o y _ _ G3 hc3 hp3 ⟨vl, _, b1, b2, b3, ⟨m.fn, m.nd, .slice av m.vars.length cv', ⟨42, 3, .slice ad m.done.length cd, m.done.length, xxs⟩⟩ :: r, Z, VT.rep_mono hle13 hvl, htv, by rw [hsl]; exact ⟨_, _, rfl, ⟨rfl, rfl, x3, x4, x5, Rp.S_mono hle3 x6, ⟨rfl, rfl, rfl, Rp.L_mono hle3 d4, d5, _, _, rfl, d7⟩⟩, hr.mono hle3⟩, by rw [hsl]; exact hl256, fun m' x' q q' => by rw [hsl] at q; cases q; cases q'; exact Rp.S_mono hle3 hds, rfl⟩ hry hyt ho2) ?_
    rintro v6 G6 ow6 (hle6 : Le _ G6) ⟨vl6, fs6, c1, c2, c3, rs6, Z6, w1, w2, w3, w4, w5, rfl⟩
    simp only [setO, stk, fhO, frO, fzO, fdO]
    refine rn_ ?_; intros
    have hleA := hle13.trans hle6
    refine x_retT rfl hQ hmh hb0 rfl (by first | (simp; done) | decide) rfl (by rw [hty]; simp only [so, sq, zy, zz, tyE, SO', SQ', opQ, opStore, opAlloc, ev, putS, dOk, cv, SV.cs, SV.one, SV.bool?, eqB, Value.oneCell', ldOwn, binInt, binConst, binBool, binStr, isC, TK.agg, rv, rv1, ldV, resOne, resV, Nat.reduceAdd, Nat.reduceMul, Nat.reduceSub, Nat.reduceLT, Nat.reduceLeDiff, Nat.reduceEqDiff, Nat.reduceBEq, reduceIte, reduceCtorEq, eq_self]; try rfl) rfl (by rw [hrest]; rfl) (by first | exact Le.refl _ | assumption) rfl (by simp only [enumO]; exact (by repeat (first | exact plain_nil | refine plain_cons (fun _ h => h) ?_))) ?_; simp only [SV.den, resV, dens]
    exact ⟨by first | rfl | trivial, vl6, fs6, c1, c2, c3, rs6, Z6, w1, w2, w3, w4, w5, rfl⟩
end Go.Proofs.YtpppkednpamhbaaGreat
namespace Go.Proofs.YtpppkednpamhbaaGreat
set_option linter.unusedSimpArgs false
set_option linter.unusedVariables false
open Go.Sx
set_option maxHeartbeats 16000000
set_option maxRecDepth 20000
theorem run_okN (b cb : Nat) (p : Pr) (ps : Value) (s o : Fb) (most : Int) (n : Nat) (ow : Lds) (G : Hp) (hm1 : most ≤ 1000000) (hc : At G cb 0 [ps]) (hp : rF.S G p ps) (hfb : fbO G b cb s ow) (h : runP p most.toNat s = some (n, o)) :
    PureT Tryz.prog 23 [.pointer (some ⟨b, 0, none⟩), .int .i64 most] G ow (fun v G' ow' => v = .tuple #[.int .i64 n, .int .i64 0] ∧ fbO G' b cb o ow') := by
  obtain ⟨vl, fs, b1, b2, b3, rs, Z, hvl, htv, hfs, hl256, hdn, rfl⟩ := hfb
  refine enterT ty tyok Tryz.func23 rfl Tryz.ntmps23 [.p 0 b 0, .v (.int .i64 most)] (by simp) (by simp) (plainL (by simp only [enumO]; exact (by repeat (first | exact plain_nil | refine plain_cons (fun _ h => h) ?_)))) ?_
  intro C w0 hP hQ hnt hty hmb hmh hro hG0 hb0; have hQp := qp_body hQ; refine st_ ?_
  generalize hrest : restB w0 _ G = Zr
  simp only [enumO, frO, fzO, fdO, List.cons_append, List.nil_append]
  refine rn_ ?_; intros
  refine go_callW [0] (by rw [hnt]; rfl) (by rw [hP]; kernel_rfl) rfl rfl rfl (.inl (by rw [hmh]; simp)) (by rw [hP]; exact miss_ok b cb s.st s.val.k s.val.n vl fs G) ?_
  rintro v5 G1 ow5 (hle1 : Le G G1) ⟨rfl, rfl⟩
  simp only [setO, stk, fhO]
  refine rn_ ?_; intros
  (refine x_split rfl rfl rfl (fun hc => absurd hc (by first | decide +kernel | (simp; first | done | fail))) (fun _ => ?_); refine st_ ?_; (refine ru_ ?_; intros))
  refine rn_ ?_; intros
  refine go_keep [0, 1, 4, 5, 6] [0, 1, 2, 3, 999] ?_
  refine st_ ?_
  refine x_loop rfl (fun q s' => ∃ (k : Nat) (s1 : Fb) (G1 : Hp) (j : Nat) (vl fs : Value) (b1 b2 b3 : Nat) (rs : List Fw) (Z : Nat → Prop), Le G G1 ∧ k + q = most.toNat ∧ runP p q s1 = some (j, o) ∧ k + j = n ∧ s1.val.rep G1 vl ∧ tsz s1.val ≤ 1000 ∧ fsOk G1 s1.l rs ∧ s1.l.length ≤ 256 ∧ (∀ m x, s1.l.head? = some m → rs.head? = some x → rW.S G1 m.done x.done.v) ∧
    s' = ⟨[(0, .p 0 b 0), (1, .v (.int .i64 most)), (4, .v (.int .i64 0)), (5, .v (.int .i64 0)), (6, .v (.int .i64 k))], [(0, b, .c 93 [.v (.pointer (some ⟨cb, 0, none⟩)), .v (.int .i64 s1.st), .v (.int .i64 s1.val.k), .v (.int .i64 s1.val.n), .v vl, .v fs]), (1, b1, .row fs 90 4 rs.length (encF rs)), (2, b2, .z (ZR ((rs.drop 1).map (·.done))) Z Z), (3, b3, .row rw0.v rw0.e rw0.size rw0.n rw0.xs), (999, 0, .z (ZRest w0) Zr Zr)], G1, []⟩)
    ⟨0, s, G1, n, vl, fs, b1, b2, b3, rs, Z, hle1, by omega, h, by omega, VT.rep_mono hle1 hvl, htv, hfs.mono hle1, hl256, fun m x q q' => Rp.S_mono hle1 (hdn m x q q'), rfl⟩ ?_
  clear hvl htv hfs hl256 hdn hle1 h
  rintro q s' ⟨k, s1, G1, j, vl, fs, b1, b2, b3, rs, Z, hle1, hkq, hrun, hkj, hvl, htv, hfs, hl256, hdn, rfl⟩ ih
  have hc1 := hc.mono hle1
  have hp1 := Rp.S_mono hle1 hp
  refine rn_ ?_; intros
  refine go_gsplit rfl rfl (fun h1 => ?_) (fun h1 => ?_) <;> (refine st_ ?_; (refine rn_ ?_; intros))
  · have hlt : (k : Int) < most := by simpa using h1
    cases q with
    | zero => exfalso; omega
    | succ q =>
    simp only [runP] at hrun
    cases hst : stepP p s1 with
    | none => rw [hst] at hrun; cases hrun
    | some es =>
    obtain ⟨e, s2⟩ := es
    rw [hst] at hrun
    simp only [] at hrun
    refine go_callT [0, 1, 2, 3] (by rw [hnt]; rfl) (by rw [hP]; kernel_rfl) rfl rfl rfl (by rw [hmh]; simp) (by rw [hP]; exact step_ok b cb p ps s1 s2 e _ G1 hc1 hp1 ⟨vl, fs, b1, b2, b3, rs, Z, hvl, htv, hfs, hl256, hdn, rfl⟩ hst) ?_
    rintro v6 G6 ow6 (hle6 : Le _ G6) ⟨rfl, vl6, fs6, c1, c2, c3, rs6, Z6, w1, w2, w3, w4, w5, rfl⟩
    simp only [setO, stk, fhO, frO, fzO, fdO]
    have hleA := hle1.trans hle6
    refine rn_ ?_; intros
    refine x_split rfl rfl rfl (fun h9 => ?_) (fun h9 => ?_) <;> (refine st_ ?_; (refine ru_ ?_; intros))
    · have he : e = 0 := by simpa using h9
      rw [if_pos he] at hrun
      obtain ⟨⟨j2, o2⟩, hj, hq⟩ := Option.map_eq_some_iff.1 hrun
      cases hq
      refine rn_ ?_; intros
      rw [wr (n := (k : Int) + 1) (by omega) (by omega)]
      refine go_keep [0, 1, 4, 5, 6] [0, 1, 2, 3, 999] ?_
      refine st_ ?_
      exact ih q _ (by omega) ⟨k + 1, s2, G6, j2, vl6, fs6, c1, c2, c3, rs6, Z6, hleA, by omega, hj, by omega, w1, w2, w3, w4, w5, rfl⟩
    · have he : ¬ e = 0 := by simpa using h9
      rw [if_neg he] at hrun
      cases hrun
      refine rn_ ?_; intros
      refine x_retT rfl hQ hmh hb0 rfl (by first | (simp; done) | decide) rfl (by rw [hty]; simp only [so, sq, zy, zz, tyE, SO', SQ', opQ, opStore, opAlloc, ev, putS, dOk, cv, SV.cs, SV.one, SV.bool?, eqB, Value.oneCell', ldOwn, binInt, binConst, binBool, binStr, isC, TK.agg, rv, rv1, ldV, resOne, resV, Nat.reduceAdd, Nat.reduceMul, Nat.reduceSub, Nat.reduceLT, Nat.reduceLeDiff, Nat.reduceEqDiff, Nat.reduceBEq, reduceIte, reduceCtorEq, eq_self]; try rfl) rfl (by rw [hrest]; rfl) (by first | exact Le.refl _ | assumption) rfl (by simp only [enumO]; exact (by repeat (first | exact plain_nil | refine plain_cons (fun _ h => h) ?_))) ?_; simp only [SV.den, resV, dens]
      exact ⟨by rw [← hkj]; rfl, vl6, fs6, c1, c2, c3, rs6, Z6, w1, w2, w3, w4, w5, rfl⟩
  · have hge : ¬ (k : Int) < most := by simpa using h1
    cases q with
    | succ q => exfalso; omega
    | zero =>
    simp only [runP, Option.some.injEq, Prod.mk.injEq] at hrun
    obtain ⟨rfl, rfl⟩ := hrun
    refine rn_ ?_; intros
    refine x_retT rfl hQ hmh hb0 rfl (by first | (simp; done) | decide) rfl (by rw [hty]; simp only [so, sq, zy, zz, tyE, SO', SQ', opQ, opStore, opAlloc, ev, putS, dOk, cv, SV.cs, SV.one, SV.bool?, eqB, Value.oneCell', ldOwn, binInt, binConst, binBool, binStr, isC, TK.agg, rv, rv1, ldV, resOne, resV, Nat.reduceAdd, Nat.reduceMul, Nat.reduceSub, Nat.reduceLT, Nat.reduceLeDiff, Nat.reduceEqDiff, Nat.reduceBEq, reduceIte, reduceCtorEq, eq_self]; try rfl) rfl (by rw [hrest]; rfl) (by first | exact Le.refl _ | assumption) rfl (by simp only [enumO]; exact (by repeat (first | exact plain_nil | refine plain_cons (fun _ h => h) ?_))) ?_; simp only [SV.den, resV, dens]
    exact ⟨by rw [← hkj]; rfl, vl, fs, b1, b2, b3, rs, Z, hvl, htv, hfs, hl256, hdn, rfl⟩
theorem run_ok (b cb : Nat) (p : Pr) (ps : Value) (s o : Fb) (most : Int) (n : Nat) (ow : Lds) (G : Hp) (hm0 : 0 ≤ most) (hm1 : most ≤ 1000000) (hc : At G cb 0 [ps]) (hp : rF.S G p ps) (hfb : fbO G b cb s ow) (h : runP p most.toNat s = some (n, o)) :
    PureT Tryz.prog 23 [.pointer (some ⟨b, 0, none⟩), .int .i64 most] G ow (fun v G' ow' => v = .tuple #[.int .i64 n, .int .i64 0] ∧ fbO G' b cb o ow') :=
  run_okN b cb p ps s o most n ow G hm1 hc hp hfb h
theorem state_ok (b cb : Nat) (st k n : Int) (vl fs : Value) (G : Hp) :
    PureW Tryz.prog 27 [.pointer (some ⟨b, 0, none⟩)] G [fhO b cb st k n vl fs] (fun v _ ow => v = .int .i64 st ∧ ow = [fhO b cb st k n vl fs]) := by
  refine enterW ty tyok Tryz.func27 rfl Tryz.ntmps27 [.p 0 b 0] (by simp) (mh := 1) rfl ?_
  intro C hP hQ hnt hty hmb hmh hro hG0 hmub; have hQp := qp_body hQ; refine st_ ?_
  simp only [enumO]
  refine rn_ ?_; intros
  refine go_callW [0] (by rw [hnt]; rfl) (by rw [hP]; kernel_rfl) rfl rfl rfl (.inr (by rw [hmh]; decide)) (by rw [hP]; exact miss_ok b cb st k n vl fs G) ?_
  rintro v5 G1 ow5 (hle1 : Le G G1) ⟨rfl, rfl⟩
  simp only [setO, stk, fhO]
  refine rn_ ?_; intros
  (refine x_split rfl rfl rfl (fun hc => absurd hc (by first | decide +kernel | (simp; first | done | fail))) (fun _ => ?_); refine st_ ?_; (refine ru_ ?_; intros))
  refine rn_ ?_; intros
  refine x_retW rfl hQ hmb hmh hG0 hmub rfl rfl (by rw [hty]; simp only [so, sq, zy, zz, tyE, SO', SQ', opQ, opStore, opAlloc, ev, putS, dOk, cv, SV.cs, SV.one, SV.bool?, eqB, Value.oneCell', ldOwn, binInt, binConst, binBool, binStr, isC, TK.agg, rv, rv1, ldV, resOne, resV, Nat.reduceAdd, Nat.reduceMul, Nat.reduceSub, Nat.reduceLT, Nat.reduceLeDiff, Nat.reduceEqDiff, Nat.reduceBEq, reduceIte, reduceCtorEq, eq_self]; try rfl) rfl rfl (by simp only [enumO]; exact (by repeat (first | exact plain_nil | refine plain_cons (fun _ h => h) ?_))) ?_; simp only [SV.den, resV, dens]
  exact ⟨by first | rfl | trivial, rfl⟩
theorem frames_ok (b cb : Nat) (st k n : Int) (vl : Value) (ad : Option Addr) (m c : Nat) (G : Hp) :
    PureW Tryz.prog 22 [.pointer (some ⟨b, 0, none⟩)] G [fhO b cb st k n vl (.slice ad m c)] (fun v _ ow => v = .int .i64 m ∧ ow = [fhO b cb st k n vl (.slice ad m c)]) := by
  refine enterW ty tyok Tryz.func22 rfl Tryz.ntmps22 [.p 0 b 0] (by simp) (mh := 1) rfl ?_
  intro C hP hQ hnt hty hmb hmh hro hG0 hmub; have hQp := qp_body hQ; refine st_ ?_
  simp only [enumO]
  refine rn_ ?_; intros
  refine go_callW [0] (by rw [hnt]; rfl) (by rw [hP]; kernel_rfl) rfl rfl rfl (.inr (by rw [hmh]; decide)) (by rw [hP]; exact miss_ok b cb st k n vl _ G) ?_
  rintro v5 G1 ow5 (hle1 : Le G G1) ⟨rfl, rfl⟩
  simp only [setO, stk, fhO]
  refine rn_ ?_; intros
  (refine x_split rfl rfl rfl (fun hc => absurd hc (by first | decide +kernel | (simp; first | done | fail))) (fun _ => ?_); refine st_ ?_; (refine ru_ ?_; intros))
  refine rn_ ?_; intros
  refine x_retW rfl hQ hmb hmh hG0 hmub rfl rfl (by rw [hty]; simp only [so, sq, zy, zz, tyE, SO', SQ', opQ, opStore, opAlloc, ev, putS, dOk, cv, SV.cs, SV.one, SV.bool?, eqB, Value.oneCell', ldOwn, binInt, binConst, binBool, binStr, isC, TK.agg, rv, rv1, ldV, resOne, resV, Nat.reduceAdd, Nat.reduceMul, Nat.reduceSub, Nat.reduceLT, Nat.reduceLeDiff, Nat.reduceEqDiff, Nat.reduceBEq, reduceIte, reduceCtorEq, eq_self]; try rfl) rfl rfl (by simp only [enumO]; exact (by repeat (first | exact plain_nil | refine plain_cons (fun _ h => h) ?_))) ?_; simp only [SV.den, resV, dens]
  exact ⟨by first | rfl | trivial, rfl⟩
end Go.Proofs.YtpppkednpamhbaaGreat
namespace Go.Proofs.YtpppkednpamhbaaGreat
set_option linter.unusedSimpArgs false
set_option linter.unusedVariables false
open Go.Sx
set_option maxHeartbeats 16000000
set_option maxRecDepth 20000
theorem rowsP_len : ∀ {p : Pr} {vs : Cs}, okC p vs → ∀ (i : Nat) (r : Rw), (rowsP p vs)[i]? = some r → i ≠ (rowsP p vs).length := fun _ i r e => by
  have := (List.getElem?_eq_some_iff.1 e).1; omega
theorem copyr_ok (p : Pr) (ps : Value) (G : Hp) (hps : rF.S G p ps) (hb : bdP p) :
    PureR Tryz.prog 32 [.agg #[ps]] G (fun v G' r e size n xs => v = .agg #[r] ∧ e = 64 ∧ size = 2 ∧ n = p.length ∧ rF.L G' p xs) := by
  have hok := rF_ok hps
  refine (copyp_ok p ps G hps hb).toR ?_
  rintro v G1 rs hle ⟨ad, cap, vs, hvs, rfl, rfl⟩
  refine ⟨(rowsP p vs).length, _, by simp; rfl, fun G2 hle2 hr => ⟨rfl, rfl, rfl, rfl, encP_L hvs hok hb.2 fun i r e => hr i r (rowsP_len hvs i r e) ?_⟩⟩
  rw [List.getElem?_append_left (List.getElem?_eq_some_iff.1 e).1]; exact e
theorem copys_ok (p : Pr) (ps : Value) (G : Hp) (hps : rF.S G p ps) (hb : bdP p) :
    Pure Tryz.prog 32 [.agg #[ps]] G (fun v G' => ∃ sl, v = .agg #[sl] ∧ rF.S G' p sl) := by
  have h63 := hb.1
  refine (copyr_ok p ps G hps hb).pure ?_ ?_
  · rintro v G' e size hle ⟨rfl, _, _, hn, hL⟩
    have : p = [] := List.length_eq_zero_iff.1 hn.symm
    subst this
    exact ⟨_, rfl, Rp.S_nil _ _⟩
  · rintro v G1 G2 g cap e size n xs hle hle2 hat ⟨rfl, _, _, rfl, hL⟩
    exact ⟨_, rfl, by omega, _, _, rfl, .inr ⟨_, _, _, rfl, hat, Rp.L_mono hle2 hL⟩⟩
theorem load_ok (p : Pr) (ps : Value) (G : Hp) (hps : rF.S G p ps) (hb : bdP p) (hw : (whP p).2.2 = 0) :
    Pure Tryz.prog 9 [.agg #[ps]] G (fun v G' => ∃ cb ps', v = .tuple #[.pointer (some ⟨cb, 0, none⟩), .int .i64 0] ∧ At G' cb 0 [ps'] ∧ rF.S G' p ps') := by
  have hck := checkp_ok p ps G hps
  rw [hw] at hck
  obtain ⟨adp, capp, rfl⟩ := Rp.S_slice hps
  refine enterX ty tyok Tryz.func9 rfl Tryz.ntmps9 [.a [.v (.slice adp p.length capp)]] (by simp) ?_
  intro C hP hQ hnt hty hmb hmh hro; have hQp := qp_body hQ; refine st_ ?_
  refine rn_ ?_; intros
  refine go_callf (by rw [hnt]; rfl) (by rw [hP]; kernel_rfl) rfl (hP ▸ hck) ?_; refine rn_ ?_; intros
  (refine x_split rfl rfl rfl (fun hc => absurd hc (by first | decide +kernel | (simp; first | done | fail))) (fun _ => ?_); refine st_ ?_; (refine ru_ ?_; intros))
  refine rn_ ?_; intros
  refine go_call (by rw [hnt]; rfl) (by rw [hP]; kernel_rfl) rfl (hP ▸ copys_ok p _ G hps hb) ?_
  rintro v G1 (hle1 : Le G G1) ⟨sl, rfl, hS⟩
  obtain ⟨ad2, cap2, rfl⟩ := Rp.S_slice hS
  refine rn_ ?_; intros
  rename_i b1 b2
  refine go_pub 1 rfl (by omega) ?_
  intro G2 (hle2 : Le G1 G2) hG2
  refine st_ ?_
  refine xc_ hQ hmb ?_; simp only [SV.den, resV, dens]
  exact ⟨b2, _, rfl, at_cells hG2, Rp.S_mono hle2 hS⟩
theorem miss2_ok (p : Pr) (ps : Value) (cb : Nat) (G : Hp) (hc : At G cb 0 [ps]) (hps : rF.S G p ps) (h0 : p.length ≠ 0) : Pure Tryz.prog 34 [.pointer (some ⟨cb, 0, none⟩)] G (fun v _ => v = .bool false) := by
  obtain ⟨adp, capp, rfl⟩ := Rp.S_slice hps
  refine enterX ty tyok Tryz.func34 rfl Tryz.ntmps34 [.v (.pointer (some ⟨cb, 0, none⟩))] (by simp) ?_
  intro C hP hQ hnt hty hmb hmh hro; have hQp := qp_body hQ; refine st_ ?_
  refine rn_ ?_; intros
  refine go_q (v := .bool false) (by rw [hnt]; rfl) ((quiet_pnil (by rw [hty]; rfl) rfl rfl).cast (by rfl)) ?_
  refine rn_ ?_; intros
  refine go_slot 5 (.b false) rfl rfl ?_
  refine rn_ ?_; intros
  refine go_q (by rw [hnt]; rfl) (quiet_load (by rw [hty]; rfl) rfl (by simp [TK.agg]) hc rfl) ?_; refine rn_ ?_; intros
  refine x_ret rfl hQ hmb (by rw [hty]; rfl) rfl ?_; simp only [SV.den, resV]
  simp; intro hp0; subst hp0; simp at h0
theorem begin_err (p : Pr) (ps : Value) (cb : Nat) (f : Int) (ad : Option Addr) (n c : Nat) (e : Int) (G : Hp) (hc : At G cb 0 [ps]) (hps : rF.S G p ps) (h0 : p.length ≠ 0)
    (h : ((f < 0 ∨ (p.length : Int) ≤ f) ∧ e = 4) ∨ (0 ≤ f ∧ f < p.length ∧ (n : Int) ≠ (fu p f.toNat).params ∧ e = 2)) :
    Pure Tryz.prog 12 [.pointer (some ⟨cb, 0, none⟩), .int .i64 f, .slice ad n c] G (fun v _ => v = .tuple #[.pointer none, .int .i64 e]) := by
  have hms := miss2_ok p ps cb G hc hps h0
  have hps0 := hps
  obtain ⟨adp, capp, rfl⟩ := Rp.S_slice hps
  refine enterX ty tyok Tryz.func12 rfl Tryz.ntmps12 [.v (.pointer (some ⟨cb, 0, none⟩)), .v (.int .i64 f), .v (.slice ad n c)] (by simp) ?_
  intro C hP hQ hnt hty hmb hmh hro; have hQp := qp_body hQ; refine st_ ?_
  refine rn_ ?_; intros
  refine go_callf (by rw [hnt]; rfl) (by rw [hP]; kernel_rfl) rfl (hP ▸ hms) ?_; refine rn_ ?_; intros
  (refine x_split rfl rfl rfl (fun hc => absurd hc (by first | decide +kernel | (simp; first | done | fail))) (fun _ => ?_); refine st_ ?_; (refine ru_ ?_; intros))
  refine rn_ ?_; intros
  refine go_gsplit rfl rfl (fun h1 => ?_) (fun h1 => ?_) <;> (refine st_ ?_; (refine rn_ ?_; intros))
  · refine rn_ ?_; intros
    refine xc_ hQ hmb ?_; simp only [SV.den, resV, dens]
    rcases h with ⟨_, rfl⟩ | ⟨h3, h4, _⟩
    · rfl
    · exfalso; simp at h1; omega
  · refine go_q (by rw [hnt]; rfl) (quiet_load (by rw [hty]; rfl) rfl (by simp [TK.agg]) hc rfl) ?_; refine rn_ ?_; intros
    refine x_split rfl rfl rfl (fun h2 => ?_) (fun h2 => ?_) <;> (refine st_ ?_; (refine ru_ ?_; intros))
    · refine rn_ ?_; intros
      refine xc_ hQ hmb ?_; simp only [SV.den, resV, dens]
      rcases h with ⟨_, rfl⟩ | ⟨h3, h4, _⟩
      · rfl
      · exfalso; simp at h2; omega
    · have hf0 : 0 ≤ f := by simpa using h1
      have hf1 : f < p.length := by simp at h2; omega
      obtain ⟨bF, oF, ns, rfl, hat, hp64, _⟩ := rF_at hps0 (i := f.toNat) (by omega)
      have hat0 : At G bF (oF + f.toNat * 2) [.int .i64 (fu p f.toNat).params] := by simpa using hat.sub 0 1 (by simp)
      refine rn_ ?_; intros
      refine go_q (by rw [hnt]; rfl) (quiet_load (by rw [hty]; rfl) rfl (by simp [TK.agg]) hc rfl) ?_; refine rn_ ?_; intros
      refine go_q (v := .pointer (some ⟨bF, oF + f.toNat * 2, none⟩)) (by rw [hnt]; rfl) ((quiet_index (by rw [hty]; rfl) (by rw [hty]; rfl) rfl rfl rfl (by omega) (by omega)).cast (by rfl)) ?_
      refine rn_ ?_; intros
      refine go_q (by rw [hnt]; rfl) (quiet_load (by rw [hty]; rfl) rfl (by simp [TK.agg]) hat0 rfl) ?_; refine rn_ ?_; intros
      refine x_split rfl rfl rfl (fun h3 => ?_) (fun h3 => ?_) <;> (refine st_ ?_; (refine ru_ ?_; intros))
      · refine rn_ ?_; intros
        refine xc_ hQ hmb ?_; simp only [SV.den, resV, dens]
        rcases h with ⟨q, _⟩ | ⟨_, _, _, rfl⟩
        · exfalso; omega
        · rfl
      · exfalso
        simp at h3
        rcases h with ⟨q, _⟩ | ⟨_, _, q, _⟩
        · omega
        · exact q h3
def nilO : Lds := [(0, .row rw0.v rw0.e rw0.size rw0.n rw0.xs), (0, .row rw0.v rw0.e rw0.size rw0.n rw0.xs), (0, .row rw0.v rw0.e rw0.size rw0.n rw0.xs), (0, .row rw0.v rw0.e rw0.size rw0.n rw0.xs)]
theorem begin_ok (p : Pr) (ps : Value) (cb : Nat) (f : Int) (av : List VT) (sl : Value) (o : Int × List Fm) (G : Hp) (hc : At G cb 0 [ps]) (hps : rF.S G p ps) (hf0 : 0 ≤ f) (hf1 : f < p.length) (hpl : p.length ≤ 100) (hn : (av.length : Int) = (fu p f.toNat).params) (hal : av.length ≤ 100)
    (hS : rW.S G av sl) (hck : ∀ v ∈ av, vld v = true) (hd : downF p 600 [⟨f, 0, av, []⟩] = some o) :
    PureT Tryz.prog 12 [.pointer (some ⟨cb, 0, none⟩), .int .i64 f, sl] G nilO (fun v G' ow' => ∃ b, v = .tuple #[.pointer (some ⟨b, 0, none⟩), .int .i64 0] ∧ fbO G' b cb ⟨o.1, vt0, o.2⟩ ow') := by
  have hms := miss2_ok p ps cb G hc hps (by omega)
  have hps0 := hps
  obtain ⟨ad, c, rfl⟩ := Rp.S_slice hS
  obtain ⟨bF, oF, ns, cF, rfl, hat, hp64, _⟩ : ∃ bF oF ns cF, ps = .slice (some ⟨bF, oF, none⟩) p.length cF ∧ At G bF (oF + f.toNat * 2) [.int .i64 (fu p f.toNat).params, ns] ∧ isI64 (fu p f.toNat).params ∧ rN.S G (fu p f.toNat).nodes ns := by
    obtain ⟨adp, capp, rfl⟩ := Rp.S_slice hps
    obtain ⟨bF, oF, ns, rfl, q⟩ := rF_at hps0 (i := f.toNat) (by omega)
    exact ⟨bF, oF, ns, capp, rfl, q⟩
  have hat0 : At G bF (oF + f.toNat * 2) [.int .i64 (fu p f.toNat).params] := by simpa using hat.sub 0 1 (by simp)
  refine enterT ty tyok Tryz.func12 rfl Tryz.ntmps12 [.v (.pointer (some ⟨cb, 0, none⟩)), .v (.int .i64 f), .v (.slice ad av.length c)] (by simp) (by simp [nilO]) (plainL (by simp only [enumO, nilO]; exact (by repeat (first | exact plain_nil | refine plain_cons (fun _ h => h) ?_)))) ?_
  intro C w0 hP hQ hnt hty hmb hmh hro hG0 hb0; have hQp := qp_body hQ; refine st_ ?_
  generalize hrest : restB w0 _ G = Zr
  simp only [enumO, nilO, List.cons_append, List.nil_append]
  refine rn_ ?_; intros
  refine go_callf (by rw [hnt]; rfl) (by rw [hP]; kernel_rfl) rfl (hP ▸ hms) ?_; refine rn_ ?_; intros
  (refine x_split rfl rfl rfl (fun hc => absurd hc (by first | decide +kernel | (simp; first | done | fail))) (fun _ => ?_); refine st_ ?_; (refine ru_ ?_; intros))
  refine rn_ ?_; intros
  refine go_gsplit rfl rfl (fun h1 => ?_) (fun h1 => ?_) <;> (refine st_ ?_; (refine rn_ ?_; intros))
  · exfalso; simp at h1; omega
  refine go_q (by rw [hnt]; rfl) (quiet_load (by rw [hty]; rfl) rfl (by simp [TK.agg]) hc rfl) ?_; refine rn_ ?_; intros
  refine x_split rfl rfl rfl (fun h2 => ?_) (fun h2 => ?_) <;> (refine st_ ?_; (refine ru_ ?_; intros))
  · exfalso; simp at h2; omega
  refine rn_ ?_; intros
  refine go_q (by rw [hnt]; rfl) (quiet_load (by rw [hty]; rfl) rfl (by simp [TK.agg]) hc rfl) ?_; refine rn_ ?_; intros
  refine go_q (v := .pointer (some ⟨bF, oF + f.toNat * 2, none⟩)) (by rw [hnt]; rfl) ((quiet_index (by rw [hty]; rfl) (by rw [hty]; rfl) rfl rfl rfl (by omega) (by omega)).cast (by rfl)) ?_
  refine rn_ ?_; intros
  refine go_q (by rw [hnt]; rfl) (quiet_load (by rw [hty]; rfl) rfl (by simp [TK.agg]) hat0 rfl) ?_; refine rn_ ?_; intros
  refine x_split rfl rfl rfl (fun h3 => ?_) (fun h3 => ?_) <;> (refine st_ ?_; (refine ru_ ?_; intros))
  · exfalso; simp at h3; exact h3 hn
  refine rn_ ?_; intros
  refine go_make 10 (by rw [hnt]; rfl) (by rw [hty]; rfl) (by rw [hty]; rfl) rfl rfl (Nat.zero_le _) rfl (by rw [hmh]; omega) (by omega) (by simp only []; omega) (by simp) ?_
  intro g10
  refine rn_ ?_; intros
  refine go_keep [0, 1, 2, 6, 7, 8, 41, 42, 43] [0, 1, 2, 3, 999, 10] ?_
  refine st_ ?_
  refine x_loop rfl (fun q s' => ∃ (k : Nat) (G1 : Hp) (ad3 : Option Addr) (cap3 : Nat) (xs : List Value), k ≤ av.length ∧ q = av.length - k ∧ Le G G1 ∧ rW.L G1 (av.take k) xs ∧
    s' = ⟨[(0, .v (.pointer (some ⟨cb, 0, none⟩))), (1, .v (.int .i64 f)), (2, .v (.slice ad av.length c)), (6, .v (.pointer none)), (7, .v (.int .i64 0)), (8, .v (.slice ad3 k cap3)), (41, .v (.slice ad av.length c)), (42, .v (.int .i64 av.length)), (43, .v (.int .i64 k))],
      [(0, 0, .row rw0.v rw0.e rw0.size rw0.n rw0.xs), (1, 0, .row rw0.v rw0.e rw0.size rw0.n rw0.xs), (2, 0, .row rw0.v rw0.e rw0.size rw0.n rw0.xs), (3, 0, .row rw0.v rw0.e rw0.size rw0.n rw0.xs), (999, 0, .z (ZRest w0) Zr Zr), (10, g10, .row (.slice ad3 k cap3) 42 3 k xs)], G1, []⟩) ⟨0, G, some ⟨g10, 0, none⟩, av.length, [], by omega, rfl, Le.refl _, rfl, rfl⟩ ?_
  rintro q s' ⟨k, G1, ad3, cap3, xs, hk, hq, hle1, hxs, rfl⟩ ih
  refine rn_ ?_; intros
  refine x_if rfl rfl rfl rfl (fun hjl => ?_) (fun hjl => ?_)
  · have hlt : k < av.length := by simp at hjl; omega
    have htk : av.take (k + 1) = av.take k ++ [av[k]] := by rw [List.take_append_getElem]
    have hvv := hck av[k] (List.getElem_mem _)
    obtain ⟨bV, oV, sv, rfl, hatV, hrV, htV⟩ := rW_at (Rp.S_mono hle1 hS) hlt
    obtain ⟨a9, c9, rfl⟩ := VT.rep_slice hrV
    have hchk := check_ok av[k] _ G1 hrV
    rw [show chk av[k] = 0 by simp [chk, hvv]] at hchk
    refine rn_ ?_; intros
    refine go_q (by rw [hnt]; rfl) (quiet_index (by rw [hty]; rfl) (by rw [hty]; rfl) rfl rfl rfl (by omega) (by omega)) ?_
    refine rn_ ?_; intros
    refine go_q (v := .agg #[.int .i64 av[k].k, .int .i64 av[k].n, .slice a9 av[k].l.length c9]) (by rw [hnt]; rfl) ((quiet_load (by rw [hty]; rfl) rfl (by simp [TK.agg]) (by simpa using hatV) rfl).cast (by rfl)) ?_
    refine rn_ ?_; intros
    refine go_callf (by rw [hnt]; rfl) (by rw [hP]; kernel_rfl) rfl (hP ▸ hchk) ?_; refine rn_ ?_; intros
    (refine x_split rfl rfl rfl (fun hc => absurd hc (by first | decide +kernel | (simp; first | done | fail))) (fun _ => ?_); refine st_ ?_; (refine ru_ ?_; intros))
    refine rn_ ?_; intros
    refine go_call (by rw [hnt]; rfl) (by rw [hP]; kernel_rfl) rfl (hP ▸ copy_ok av[k] _ G1 hrV (by omega)) ?_
    rintro v2 G2 (hle2 : Le G1 G2) (⟨_, a8, c8, rfl, hr8⟩ | ⟨hns, _⟩)
    rotate_left
    · simp [vld, hns] at hvv
    refine rn_ ?_; intros
    refine go_append 10 (by rw [hnt]; rfl) (by rw [hty]; rfl) (by rw [hty]; rfl) (by decide) rfl rfl rfl (by rw [hmh]; omega) rfl (src_own 3 rfl rfl) rfl (by simp [dens, SV.den, Value.oneCell']) (by omega) (by simp only []; omega) ?_
    intro v'
    refine go_rowS 10 rfl ?_
    rintro ad4 cap4 rfl
    refine rn_ ?_; intros
    rw [wr (n := (k : Int) + 1) (by omega) (by omega)]
    refine go_keep [0, 1, 2, 6, 7, 8, 41, 42, 43] [0, 1, 2, 3, 999, 10] ?_
    refine st_ ?_
    refine ih (av.length - (k + 1)) _ (by omega) ⟨k + 1, G2, ad4, cap4, _, by omega, rfl, hle1.trans hle2, ?_, rfl⟩
    rw [htk]
    exact Rp.L_append (Rp.L_mono hle2 hxs) (Rp.L_single ⟨_, rfl, hr8, htV⟩)
  have hkl : k = av.length := by simp at hjl; omega
  subst hkl
  rw [List.take_length] at hxs
  refine go_rowC 10 rfl ?_
  intro ad5 cap5 e5 hcap5
  injection e5 with q1 q2 q3
  subst q1 q3
  refine go_pubL rW 10 rfl (by rw [hmh]; omega) rfl (by omega) hxs ?_
  intro G2 ad6 cap6 (hle2 : Le G1 G2) e6 hS6
  injection e6 with q1 q2 q3
  subst q1 q3
  refine st_ ?_
  refine rn_ ?_; intros
  rename_i b8 b9
  refine go_torow 1000 (size := 4) rfl rfl ?_
  refine go_drop 0 ?_
  refine go_drop 1 ?_
  refine go_drop 2 ?_
  refine st_ ?_
  refine go_rekey 1001 0 rfl rfl (by rw [hmh]; omega) (by rw [hmh]; omega) ?_
  refine go_rekey 1000 1 rfl rfl (by rw [hmh]; omega) (by rw [hmh]; omega) ?_
  refine go_znil 2 rfl (by rw [hmh]; omega) ?_
  intro Z2
  refine st_ ?_
  refine go_see 0 [.v (.pointer (some ⟨cb, 0, none⟩)), .v (.int .i64 0), .v (.int .i64 0), .v (.int .i64 0), .v (.slice none 0 0), .v (.slice (some ⟨b8, 0, none⟩) 1 1)] rfl rfl ?_
  refine go_slot 11 (.p 0 b9 0) rfl rfl ?_
  refine go_slot 63 (.p 0 b9 0) rfl rfl ?_
  refine go_keep [6, 7, 11, 63] [0, 1, 2, 3, 999] ?_
  refine st_ ?_
  have hle12 := hle1.trans hle2
  refine go_callT [0, 1, 2, 3] (by rw [hnt]; rfl) (by rw [hP]; kernel_rfl) rfl rfl rfl (by rw [hmh]; simp) (by rw [hP]; exact desc_ok b9 cb p _ ⟨0, vt0, [⟨f, 0, av, []⟩]⟩ 600 o _ G2 (hc.mono hle12) (Rp.S_mono hle12 hps) ⟨.slice none 0 0, (.slice (some ⟨b8, 0, none⟩) 1 1), b8, 0, 0, [⟨f, 0, .slice ad3 av.length cap3, rw0⟩], Z2, ⟨by simp [isI64], by simp [isI64], by simp, none, 0, rfl, .inl rfl⟩, by simp [vt0, tsz, tszL], ⟨_, _, rfl, ⟨rfl, rfl, (⟨by omega, by omega⟩ : isI64 f), (by simp [isI64] : isI64 0), fun _ _ _ q => by injection q with _ q2 q3; omega, hS6, rw0_ok _⟩, rfl⟩, by simp, rfl⟩ hd) ?_
  rintro v6 G6 ow6 (hle6 : Le _ G6) ⟨vl6, fs6, c1, c2, c3, rs6, Z6, w1, w2, w3, w4, w5, rfl⟩
  simp only [setO, stk, fhO, frO, fzO, fdO]
  refine rn_ ?_; intros
  have hleA := hle12.trans hle6
  refine x_retT rfl hQ hmh hb0 rfl (by first | (simp; done) | decide) rfl (by rw [hty]; simp only [so, sq, zy, zz, tyE, SO', SQ', opQ, opStore, opAlloc, ev, putS, dOk, cv, SV.cs, SV.one, SV.bool?, eqB, Value.oneCell', ldOwn, binInt, binConst, binBool, binStr, isC, TK.agg, rv, rv1, ldV, resOne, resV, Nat.reduceAdd, Nat.reduceMul, Nat.reduceSub, Nat.reduceLT, Nat.reduceLeDiff, Nat.reduceEqDiff, Nat.reduceBEq, reduceIte, reduceCtorEq, eq_self]; try rfl) rfl (by rw [hrest]; rfl) (by first | exact Le.refl _ | assumption) rfl (by simp only [enumO]; exact (by repeat (first | exact plain_nil | refine plain_cons (fun _ h => h) ?_))) ?_; simp only [SV.den, resV, dens]
  exact ⟨b9, by first | rfl | trivial, vl6, fs6, c1, c2, c3, rs6, Z6, w1, w2, w3, w4, w5, rfl⟩
end Go.Proofs.YtpppkednpamhbaaGreat
namespace Go.Proofs.YtpppkednpamhbaaGreat
set_option linter.unusedSimpArgs false
set_option linter.unusedVariables false
open Go.Sx
set_option maxHeartbeats 16000000
set_option maxRecDepth 20000
theorem value_ok (b cb : Nat) (st : Int) (x : VT) (vl fs : Value) (G : Hp) (hx : x.rep G vl) (ht : tsz x ≤ 1000) (hs : sml x = true) :
    PureW Tryz.prog 24 [.pointer (some ⟨b, 0, none⟩)] G [fhO b cb st x.k x.n vl fs] (fun v G' ow => ow = [fhO b cb st x.k x.n vl fs] ∧ ((st ≠ 3 ∧ v = .tuple #[zeroV, .bool false]) ∨ (st = 3 ∧ ∃ sl, v = .tuple #[.agg #[.int .i64 x.k, .int .i64 x.n, sl], .bool true] ∧ x.rep G' sl))) := by
  obtain ⟨a9, c9, rfl⟩ := VT.rep_slice hx
  refine enterW ty tyok Tryz.func24 rfl Tryz.ntmps24 [.p 0 b 0] (by simp) (mh := 1) rfl ?_
  intro C hP hQ hnt hty hmb hmh hro hG0 hmub; have hQp := qp_body hQ; refine st_ ?_
  simp only [enumO]
  refine rn_ ?_; intros
  refine go_callW [0] (by rw [hnt]; rfl) (by rw [hP]; kernel_rfl) rfl rfl rfl (.inr (by rw [hmh]; decide)) (by rw [hP]; exact state_ok b cb st x.k x.n _ fs G) ?_
  rintro v5 G1 ow5 (hle1 : Le G G1) ⟨rfl, rfl⟩
  simp only [setO, stk, fhO]
  refine rn_ ?_; intros
  refine x_split rfl rfl rfl (fun h1 => ?_) (fun h1 => ?_) <;> (refine st_ ?_; (refine ru_ ?_; intros))
  · refine rn_ ?_; intros
    refine x_retW rfl hQ hmb hmh hG0 hmub rfl rfl (by rw [hty]; simp only [so, sq, zy, zz, tyE, SO', SQ', opQ, opStore, opAlloc, ev, putS, dOk, cv, SV.cs, SV.one, SV.bool?, eqB, Value.oneCell', ldOwn, binInt, binConst, binBool, binStr, isC, TK.agg, rv, rv1, ldV, resOne, resV, Nat.reduceAdd, Nat.reduceMul, Nat.reduceSub, Nat.reduceLT, Nat.reduceLeDiff, Nat.reduceEqDiff, Nat.reduceBEq, reduceIte, reduceCtorEq, eq_self]; try rfl) rfl rfl (by simp only [enumO]; exact (by repeat (first | exact plain_nil | refine plain_cons (fun _ h => h) ?_))) ?_; simp only [SV.den, resV, dens]
    exact ⟨rfl, .inl ⟨by simpa using h1, by first | rfl | trivial⟩⟩
  · refine rn_ ?_; intros
    refine go_call (by rw [hnt]; rfl) (by rw [hP]; kernel_rfl) rfl (hP ▸ copy_ok x _ G1 (VT.rep_mono hle1 hx) (by omega)) ?_
    rintro v2 G2 (hle2 : Le G1 G2) (⟨_, a8, c8, rfl, hr8⟩ | ⟨hns, _⟩)
    rotate_left
    · rw [hs] at hns; cases hns
    refine rn_ ?_; intros
    refine x_retW rfl hQ hmb hmh hG0 hmub rfl rfl (by rw [hty]; simp only [so, sq, zy, zz, tyE, SO', SQ', opQ, opStore, opAlloc, ev, putS, dOk, cv, SV.cs, SV.one, SV.bool?, eqB, Value.oneCell', ldOwn, binInt, binConst, binBool, binStr, isC, TK.agg, rv, rv1, ldV, resOne, resV, Nat.reduceAdd, Nat.reduceMul, Nat.reduceSub, Nat.reduceLT, Nat.reduceLeDiff, Nat.reduceEqDiff, Nat.reduceBEq, reduceIte, reduceCtorEq, eq_self]; try rfl) rfl rfl (by simp only [enumO]; exact (by repeat (first | exact plain_nil | refine plain_cons (fun _ h => h) ?_))) ?_; simp only [SV.den, resV, dens]
    exact ⟨rfl, .inr ⟨by simpa using h1, _, rfl, hr8⟩⟩
theorem want_ok (b cb b1 : Nat) (k n : Int) (vl fs ps : Value) (p : Pr) (m : Fm) (l : List Fm) (rs : List Fw) (nd : Nd) (G : Hp) (hc : At G cb 0 [ps]) (hp : rF.S G p ps) (hfs : fsOk G (m :: l) rs) (hnd : ndAt p m.fn m.nd = some nd) (hlm : l.length ≤ 300) (hop : nd.op = 15) :
    PureW Tryz.prog 26 [.pointer (some ⟨b, 0, none⟩)] G [fhO b cb 2 k n vl fs, frO b1 fs rs] (fun v _ ow => v = .tuple #[.agg #[.int .i64 1, .int .i64 0, .slice none 0 0], .bool true] ∧ ow = [fhO b cb 2 k n vl fs, frO b1 fs rs]) := by
  refine enterW ty tyok Tryz.func26 rfl Tryz.ntmps26 [.p 0 b 0] (by simp) (mh := 2) rfl ?_
  intro C hP hQ hnt hty hmb hmh hro hG0 hmub; have hQp := qp_body hQ; refine st_ ?_
  simp only [enumO]
  refine rn_ ?_; intros
  refine go_callW [0] (by rw [hnt]; rfl) (by rw [hP]; kernel_rfl) rfl rfl rfl (.inr (by rw [hmh]; decide)) (by rw [hP]; exact state_ok b cb 2 k n _ fs G) ?_
  rintro v5 G1 ow5 (hle1 : Le G G1) ⟨rfl, rfl⟩
  simp only [setO, stk]
  refine rn_ ?_; intros
  (refine x_split rfl rfl rfl (fun hc => absurd hc (by first | decide +kernel | (simp; first | done | fail))) (fun _ => ?_); refine st_ ?_; (refine ru_ ?_; intros))
  refine rn_ ?_; intros
  refine go_callW [0, 1] (by rw [hnt]; rfl) (by rw [hP]; kernel_rfl) rfl rfl rfl (.inr (by rw [hmh]; decide)) (by rw [hP]; exact last_ok b cb b1 2 k n vl fs ps p m l rs nd G1 (hc.mono hle1) (Rp.S_mono hle1 hp) (hfs.mono hle1) hnd hlm) ?_
  rintro v G2 ow2 (hle2 : Le G1 G2) ⟨rfl, g, cap, sl, rfl, rfl, hrI⟩
  obtain ⟨asl, csl, rfl⟩ := Rp.S_slice hrI
  simp only [setO, stk, fhO, frO]
  refine rn_ ?_; intros
  simp only [hop]
  refine rn_ ?_; intros
  (refine x_split rfl rfl rfl (fun hc => absurd hc (by first | decide +kernel | (simp; first | done | fail))) (fun _ => ?_); refine st_ ?_; (refine ru_ ?_; intros))
  refine rn_ ?_; intros
  (refine x_split rfl rfl rfl (fun hc => absurd hc (by first | decide +kernel | (simp; first | done | fail))) (fun _ => ?_); refine st_ ?_; (refine ru_ ?_; intros))
  refine rn_ ?_; intros
  refine x_retW rfl hQ hmb hmh hG0 hmub rfl rfl (by rw [hty]; simp only [so, sq, zy, zz, tyE, SO', SQ', opQ, opStore, opAlloc, ev, putS, dOk, cv, SV.cs, SV.one, SV.bool?, eqB, Value.oneCell', ldOwn, binInt, binConst, binBool, binStr, isC, TK.agg, rv, rv1, ldV, resOne, resV, Nat.reduceAdd, Nat.reduceMul, Nat.reduceSub, Nat.reduceLT, Nat.reduceLeDiff, Nat.reduceEqDiff, Nat.reduceBEq, reduceIte, reduceCtorEq, eq_self]; try rfl) rfl rfl (by simp only [enumO]; exact (by repeat (first | exact plain_nil | refine plain_cons (fun _ h => h) ?_))) ?_; simp only [SV.den, resV, dens]
  exact ⟨by first | rfl | trivial, rfl⟩
theorem resume_ok (b cb : Nat) (p : Pr) (ps : Value) (s o : Fb) (v : VT) (slv : Value) (ow : Lds) (G : Hp) (hc : At G cb 0 [ps]) (hp : rF.S G p ps) (hfb : fbO G b cb s ow) (hv : v.rep G slv) (hvv : vld v = true) (htv1 : tsz v ≤ 1000) (hst : s.st = 2) (ho : prodF p s v = some o) :
    PureT Tryz.prog 29 [.pointer (some ⟨b, 0, none⟩), .agg #[.int .i64 v.k, .int .i64 v.n, slv]] G ow (fun r G' ow' => r = .int .i64 0 ∧ fbO G' b cb o ow') := by
  have hchk := check_ok v slv G hv
  rw [show chk v = 0 by simp [chk, hvv]] at hchk
  obtain ⟨vl, fs, b1, b2, b3, rs, Z, hvl, htv, hfs, hl256, hdn, rfl⟩ := hfb
  obtain ⟨a9, c9, rfl⟩ := VT.rep_slice hv
  refine enterT ty tyok Tryz.func29 rfl Tryz.ntmps29 [.p 0 b 0, .a [.v (.int .i64 v.k), .v (.int .i64 v.n), .v (.slice a9 v.l.length c9)]] (by simp) (by simp) (plainL (by simp only [enumO]; exact (by repeat (first | exact plain_nil | refine plain_cons (fun _ h => h) ?_)))) ?_
  intro C w0 hP hQ hnt hty hmb hmh hro hG0 hb0; have hQp := qp_body hQ; refine st_ ?_
  generalize hrest : restB w0 _ G = Zr
  simp only [enumO, frO, fzO, fdO, List.cons_append, List.nil_append]
  refine rn_ ?_; intros
  refine go_callW [0] (by rw [hnt]; rfl) (by rw [hP]; kernel_rfl) rfl rfl rfl (.inl (by rw [hmh]; simp)) (by rw [hP]; exact miss_ok b cb s.st s.val.k s.val.n vl fs G) ?_
  rintro v5 G1 ow5 (hle1 : Le G G1) ⟨rfl, rfl⟩
  simp only [setO, stk, fhO]
  refine rn_ ?_; intros
  (refine x_split rfl rfl rfl (fun hc => absurd hc (by first | decide +kernel | (simp; first | done | fail))) (fun _ => ?_); refine st_ ?_; (refine ru_ ?_; intros))
  refine rn_ ?_; intros
  have hck1 := check_ok v _ G1 (VT.rep_mono hle1 hv)
  rw [show chk v = 0 by simp [chk, hvv]] at hck1
  refine go_callf (by rw [hnt]; rfl) (by rw [hP]; kernel_rfl) rfl (hP ▸ hck1) ?_
  refine rn_ ?_; intros
  (refine x_split rfl rfl rfl (fun hc => absurd hc (by first | decide +kernel | (simp; first | done | fail))) (fun _ => ?_); refine st_ ?_; (refine ru_ ?_; intros))
  refine rn_ ?_; intros
  refine x_split rfl rfl rfl (fun h1 => ?_) (fun h1 => ?_) <;> (refine st_ ?_; (refine ru_ ?_; intros))
  · exact absurd hst (by simpa using h1)
  refine rn_ ?_; intros
  refine go_call (by rw [hnt]; rfl) (by rw [hP]; kernel_rfl) rfl (hP ▸ copy_ok v _ G1 (VT.rep_mono hle1 hv) (by omega)) ?_
  rintro v2 G2 (hle2 : Le G1 G2) (⟨_, a8, c8, rfl, hr8⟩ | ⟨hns, _⟩)
  rotate_left
  · simp [vld, hns] at hvv
  refine rn_ ?_; intros
  have hle12 := hle1.trans hle2
  refine go_callT [0, 1, 2, 3] (by rw [hnt]; rfl) (by rw [hP]; kernel_rfl) rfl rfl rfl (by rw [hmh]; simp) (by rw [hP]; exact prod_ok b cb p ps s o v _ _ G2 (hc.mono hle12) (Rp.S_mono hle12 hp) ⟨vl, _, b1, b2, b3, rs, Z, VT.rep_mono hle12 hvl, htv, hfs.mono hle12, hl256, fun m x q q' => Rp.S_mono hle12 (hdn m x q q'), rfl⟩ hr8 htv1 ho) ?_
  rintro v6 G6 ow6 (hle6 : Le _ G6) ⟨vl6, fs6, c1, c2, c3, rs6, Z6, w1, w2, w3, w4, w5, rfl⟩
  simp only [setO, stk, fhO, frO, fzO, fdO]
  refine rn_ ?_; intros
  have hleA := hle12.trans hle6
  refine x_retT rfl hQ hmh hb0 rfl (by first | (simp; done) | decide) rfl (by rw [hty]; simp only [so, sq, zy, zz, tyE, SO', SQ', opQ, opStore, opAlloc, ev, putS, dOk, cv, SV.cs, SV.one, SV.bool?, eqB, Value.oneCell', ldOwn, binInt, binConst, binBool, binStr, isC, TK.agg, rv, rv1, ldV, resOne, resV, Nat.reduceAdd, Nat.reduceMul, Nat.reduceSub, Nat.reduceLT, Nat.reduceLeDiff, Nat.reduceEqDiff, Nat.reduceBEq, reduceIte, reduceCtorEq, eq_self]; try rfl) rfl (by rw [hrest]; rfl) (by first | exact Le.refl _ | assumption) rfl (by simp only [enumO]; exact (by repeat (first | exact plain_nil | refine plain_cons (fun _ h => h) ?_))) ?_; simp only [SV.den, resV, dens]
  exact ⟨by first | rfl | trivial, vl6, fs6, c1, c2, c3, rs6, Z6, w1, w2, w3, w4, w5, rfl⟩
end Go.Proofs.YtpppkednpamhbaaGreat
namespace Go.Proofs.YtpppkednpamhbaaGreat
set_option linter.unusedSimpArgs false
set_option linter.unusedVariables false
open Go.Sx
set_option maxHeartbeats 16000000
set_option maxRecDepth 20000
theorem copies_ok (l : List VT) (sl : Value) (G : Hp) (hS : rW.S G l sl) (hll : l.length ≤ 1000) (hvv : ∀ v ∈ l, vld v = true) :
    Pure Tryz.prog 52 [sl] G (fun v G' => rW.S G' l v) := by
  obtain ⟨ad, c, rfl⟩ := Rp.S_slice hS
  refine enterX ty tyok Tryz.func52 rfl Tryz.ntmps52 [.v (.slice ad l.length c)] (by simp) ?_
  intro C hP hQ hnt hty hmb hmh hro; have hQp := qp_body hQ; refine st_ ?_
  refine rn_ ?_; intros
  refine go_nilrow 30 42 3 rfl (by rw [hmh]; omega) ?_
  refine go_keep [2, 3, 6, 7, 8] [30] ?_
  refine st_ ?_
  refine x_loop rfl (fun q s' => ∃ (k : Nat) (G1 : Hp) (ad3 : Option Addr) (cap3 : Nat) (xs : List Value), k ≤ l.length ∧ q = l.length - k ∧ Le G G1 ∧ rW.L G1 (l.take k) xs ∧
    s' = ⟨[(2, .v (.slice none 0 0)), (3, .v (.slice ad3 k cap3)), (6, .v (.slice ad l.length c)), (7, .v (.int .i64 l.length)), (8, .v (.int .i64 k))],
      [(30, 0, .row (.slice ad3 k cap3) 42 3 k xs)], G1, []⟩) ⟨0, G, none, 0, [], by omega, rfl, Le.refl _, rfl, rfl⟩ ?_
  rintro q s' ⟨k, G1, ad3, cap3, xs, hk, hq, hle1, hxs, rfl⟩ ih
  refine rn_ ?_; intros
  refine x_if rfl rfl rfl rfl (fun hjl => ?_) (fun hjl => ?_)
  · have hlt : k < l.length := by simp at hjl; omega
    have htk : l.take (k + 1) = l.take k ++ [l[k]] := by rw [List.take_append_getElem]
    have hv1 := hvv l[k] (List.getElem_mem _)
    obtain ⟨bV, oV, sv, rfl, hatV, hrV, htV⟩ := rW_at (Rp.S_mono hle1 hS) hlt
    obtain ⟨a9, c9, rfl⟩ := VT.rep_slice hrV
    refine rn_ ?_; intros
    refine go_q (by rw [hnt]; rfl) (quiet_index (by rw [hty]; rfl) (by rw [hty]; rfl) rfl rfl rfl (by omega) (by omega)) ?_
    refine rn_ ?_; intros
    refine go_q (v := .agg #[.int .i64 l[k].k, .int .i64 l[k].n, .slice a9 l[k].l.length c9]) (by rw [hnt]; rfl) ((quiet_load (by rw [hty]; rfl) rfl (by simp [TK.agg]) (by simpa using hatV) rfl).cast (by rfl)) ?_
    refine rn_ ?_; intros
    refine go_call (by rw [hnt]; rfl) (by rw [hP]; kernel_rfl) rfl (hP ▸ copy_ok l[k] _ G1 hrV (by omega)) ?_
    rintro v2 G2 (hle2 : Le G1 G2) (⟨_, a8, c8, rfl, hr8⟩ | ⟨hns, _⟩)
    rotate_left
    · simp [vld, hns] at hv1
    refine rn_ ?_; intros
    refine go_append 30 (by rw [hnt]; rfl) (by rw [hty]; rfl) (by rw [hty]; rfl) (by decide) rfl rfl rfl (by rw [hmh]; omega) rfl (src_own 3 rfl rfl) rfl (by simp [dens, SV.den, Value.oneCell']) (by omega) (by simp only []; omega) ?_
    intro v'
    refine go_rowS 30 rfl ?_
    rintro ad4 cap4 rfl
    refine rn_ ?_; intros
    rw [wr (n := (k : Int) + 1) (by omega) (by omega)]
    refine go_keep [2, 3, 6, 7, 8] [30] ?_
    refine st_ ?_
    refine ih (l.length - (k + 1)) _ (by omega) ⟨k + 1, G2, ad4, cap4, _, by omega, rfl, hle1.trans hle2, ?_, rfl⟩
    rw [htk]
    exact Rp.L_append (Rp.L_mono hle2 hxs) (Rp.L_single ⟨_, rfl, hr8, htV⟩)
  have hkl : k = l.length := by simp at hjl; omega
  subst hkl
  rw [List.take_length] at hxs
  refine go_pubL rW 30 rfl (by rw [hmh]; omega) rfl (by omega) hxs ?_
  intro G2 ad6 cap6 (hle2 : Le G1 G2) e6 hS6
  injection e6 with q1 q2 q3
  subst q1 q3
  refine rn_ ?_; intros
  refine xc_ hQ hmb ?_; simp only [SV.den, resV, dens]
  exact hS6
theorem at_none (b cb b1 : Nat) (st k n : Int) (vl : Value) (ad : Option Addr) (cap : Nat) (G : Hp) :
    PureW Tryz.prog 46 [.pointer (some ⟨b, 0, none⟩)] G [fhO b cb st k n vl (.slice ad 0 cap), frO b1 (.slice ad 0 cap) []] (fun v _ ow => v = .tuple #[.int .i64 0, .int .i64 0, .bool false] ∧ ow = [fhO b cb st k n vl (.slice ad 0 cap), frO b1 (.slice ad 0 cap) []]) := by
  refine enterW ty tyok Tryz.func46 rfl Tryz.ntmps46 [.p 0 b 0] (by simp) (mh := 2) rfl ?_
  intro C hP hQ hnt hty hmb hmh hro hG0 hmub; have hQp := qp_body hQ; refine st_ ?_
  simp only [enumO]
  refine rn_ ?_; intros
  refine go_callW [0] (by rw [hnt]; rfl) (by rw [hP]; kernel_rfl) rfl rfl rfl (.inr (by rw [hmh]; decide)) (by rw [hP]; exact miss_ok b cb st k n vl _ G) ?_
  rintro v5 G1 ow5 (hle1 : Le G G1) ⟨rfl, rfl⟩
  simp only [setO, stk, fhO]
  refine rn_ ?_; intros
  refine go_slot 9 (.b false) rfl rfl ?_
  refine rn_ ?_; intros
  (refine x_split rfl rfl rfl (fun _ => ?_) (fun hc => absurd hc (by first | decide +kernel | (simp; first | done | fail))); refine st_ ?_; (refine ru_ ?_; intros))
  refine rn_ ?_; intros
  refine x_retW rfl hQ hmb hmh hG0 hmub rfl rfl (by rw [hty]; simp only [so, sq, zy, zz, tyE, SO', SQ', opQ, opStore, opAlloc, ev, putS, dOk, cv, SV.cs, SV.one, SV.bool?, eqB, Value.oneCell', ldOwn, binInt, binConst, binBool, binStr, isC, TK.agg, rv, rv1, ldV, resOne, resV, Nat.reduceAdd, Nat.reduceMul, Nat.reduceSub, Nat.reduceLT, Nat.reduceLeDiff, Nat.reduceEqDiff, Nat.reduceBEq, reduceIte, reduceCtorEq, eq_self]; try rfl) rfl rfl (by simp only [enumO]; exact (by repeat (first | exact plain_nil | refine plain_cons (fun _ h => h) ?_))) ?_; simp only [SV.den, resV, dens]
  exact ⟨by first | rfl | trivial, rfl⟩
theorem at_ok (b cb b1 : Nat) (st k n : Int) (vl fs ps : Value) (p : Pr) (m : Fm) (l : List Fm) (rs : List Fw) (nd : Nd) (G : Hp) (hc : At G cb 0 [ps]) (hp : rF.S G p ps) (hfs : fsOk G (m :: l) rs) (hnd : ndAt p m.fn m.nd = some nd) (hlm : l.length ≤ 300) :
    PureW Tryz.prog 46 [.pointer (some ⟨b, 0, none⟩)] G [fhO b cb st k n vl fs, frO b1 fs rs] (fun v _ ow => v = .tuple #[.int .i64 m.fn, .int .i64 m.nd, .bool true] ∧ ow = [fhO b cb st k n vl fs, frO b1 fs rs]) := by
  refine enterW ty tyok Tryz.func46 rfl Tryz.ntmps46 [.p 0 b 0] (by simp) (mh := 2) rfl ?_
  intro C hP hQ hnt hty hmb hmh hro hG0 hmub; have hQp := qp_body hQ; refine st_ ?_
  have hlast := fun G1 (hle : Le G G1) => last_ok b cb b1 st k n vl fs ps p m l rs nd G1 (hc.mono hle) (Rp.S_mono hle hp) (hfs.mono hle) hnd hlm
  obtain ⟨x, r, rfl, hx, hr⟩ := hfs
  have hrl := hr.len
  have hlen := encF_len (x :: r)
  simp only [List.length_cons] at hlen
  have e1 := hx.fn
  have e2 := hx.nd
  simp only [enumO, fhO, frO]
  refine go_rowcases 1 rfl (fun _ h _ => by simp at h) ?_
  rintro g cap rfl hcap hlen2
  refine rn_ ?_; intros
  refine go_callW [0] (by rw [hnt]; rfl) (by rw [hP]; kernel_rfl) rfl rfl rfl (.inr (by rw [hmh]; decide)) (by rw [hP]; exact miss_ok b cb st k n vl _ G) ?_
  rintro v5 G1 ow5 (hle1 : Le G G1) ⟨rfl, rfl⟩
  simp only [setO, stk, fhO]
  refine rn_ ?_; intros
  refine go_slot 9 (.b false) rfl rfl ?_
  refine rn_ ?_; intros
  refine x_split rfl rfl rfl (fun h1 => ?_) (fun h1 => ?_) <;> (refine st_ ?_; (refine ru_ ?_; intros))
  · exfalso; simp at h1; omega
  refine rn_ ?_; intros
  refine go_callW [0, 1] (by rw [hnt]; rfl) (by rw [hP]; kernel_rfl) rfl rfl rfl (.inr (by rw [hmh]; decide)) (by rw [hP]; exact hlast G1 hle1) ?_
  rintro v G2 ow2 (hle2 : Le G1 G2) ⟨rfl, g2, cap2, sl, e3, rfl, hrI⟩
  injection e3 with e3 e4 e5
  injection e3 with e3
  injection e3 with e3
  subst e3 e5
  obtain ⟨asl, csl, rfl⟩ := Rp.S_slice hrI
  simp only [setO, stk, fhO, frO, List.length_cons]
  refine rn_ ?_; intros
  refine x_held [(1, b1, .row (.slice (some ⟨g, 0, none⟩) (r.length + 1) cap) 90 4 (r.length + 1) (encF (x :: r)))] rfl (by rw [hP]; kernel_rfl) rfl rfl rfl ?_; refine st_ ?_
  refine tq_ 0 rfl (quiet_op (by rw [hty]; first | rfl | (refine st_ ?_; rfl))) ?_; refine st_ ?_
  refine tq_ 1 rfl (quiet_op (by rw [hty]; first | rfl | (refine st_ ?_; rfl))) ?_; refine st_ ?_
  refine tq_ 2 rfl (quiet_op (by rw [hty]; first | rfl | (refine st_ ?_; rfl))) ?_; refine st_ ?_
  refine tq_ 3 rfl (x := .v (.int .i64 m.fn)) ((quiet_loadR (k := 1) (by rw [hty]; rfl) rfl (by simp [TK.agg]) rfl (by simp only []; omega)).cast (by rw [← e1]; exact encF_ld (j := 0) (by omega) rfl)) ?_
  refine st_ ?_
  refine tq_ 4 rfl (quiet_op (by rw [hty]; first | rfl | (refine st_ ?_; rfl))) ?_; refine st_ ?_
  refine tq_ 5 rfl (quiet_op (by rw [hty]; first | rfl | (refine st_ ?_; rfl))) ?_; refine st_ ?_
  refine tq_ 6 rfl (quiet_op (by rw [hty]; first | rfl | (refine st_ ?_; rfl))) ?_; refine st_ ?_
  refine tq_ 7 rfl (x := .v (.int .i64 m.nd)) ((quiet_loadR (k := 1) (by rw [hty]; rfl) rfl (by simp [TK.agg]) rfl (by simp only []; omega)).cast (by rw [← e2]; exact encF_ld (j := 1) (by omega) rfl)) ?_
  refine st_ ?_
  refine h_one 8 rfl (by kernel_rfl) ?_
  refine rn_ ?_; intros
  refine hs_ ?_
  refine h_one 9 rfl (by kernel_rfl) ?_
  refine rn_ ?_; intros
  refine hs_ ?_
  refine h_one 10 rfl (by kernel_rfl) ?_
  refine rn_ ?_; intros
  refine hs_ ?_
  refine h_end (by kernel_rfl) ?_
  refine rn_ ?_; intros
  refine x_retW rfl hQ hmb hmh hG0 hmub rfl rfl (by rw [hty]; simp only [so, sq, zy, zz, tyE, SO', SQ', opQ, opStore, opAlloc, ev, putS, dOk, cv, SV.cs, SV.one, SV.bool?, eqB, Value.oneCell', ldOwn, binInt, binConst, binBool, binStr, isC, TK.agg, rv, rv1, ldV, resOne, resV, Nat.reduceAdd, Nat.reduceMul, Nat.reduceSub, Nat.reduceLT, Nat.reduceLeDiff, Nat.reduceEqDiff, Nat.reduceBEq, reduceIte, reduceCtorEq, eq_self]; try rfl) rfl rfl (by simp only [enumO]; exact (by repeat (first | exact plain_nil | refine plain_cons (fun _ h => h) ?_))) ?_; simp only [SV.den, resV, dens]
  exact ⟨by first | rfl | trivial, rfl⟩
def wantP (nd : Nd) (done : List VT) : Int × Int × List VT := if nd.op = 14 then (2, nd.n, done) else if nd.op = 24 then (3, 0, done) else (1, 0, [])
def wantV (G : Hp) (w : Int × Int × List VT) (v : Value) : Prop := ∃ sl, v = .tuple #[.agg #[.int .i64 w.1, .int .i64 w.2.1, sl], .bool true] ∧ rW.S G w.2.2 sl
theorem wantN_ok (b cb b1 : Nat) (st k n : Int) (vl fs : Value) (rs : List Fw) (G : Hp) (hst : st ≠ 2) :
    PureW Tryz.prog 26 [.pointer (some ⟨b, 0, none⟩)] G [fhO b cb st k n vl fs, frO b1 fs rs] (fun v _ ow => v = .tuple #[.agg #[.int .i64 0, .int .i64 0, .slice none 0 0], .bool false] ∧ ow = [fhO b cb st k n vl fs, frO b1 fs rs]) := by
  refine enterW ty tyok Tryz.func26 rfl Tryz.ntmps26 [.p 0 b 0] (by simp) (mh := 2) rfl ?_
  intro C hP hQ hnt hty hmb hmh hro hG0 hmub; have hQp := qp_body hQ; refine st_ ?_
  simp only [enumO]
  refine rn_ ?_; intros
  refine go_callW [0] (by rw [hnt]; rfl) (by rw [hP]; kernel_rfl) rfl rfl rfl (.inr (by rw [hmh]; decide)) (by rw [hP]; exact state_ok b cb st k n _ fs G) ?_
  rintro v5 G1 ow5 (hle1 : Le G G1) ⟨rfl, rfl⟩
  simp only [setO, stk, fhO]
  refine rn_ ?_; intros
  refine x_split rfl rfl rfl (fun h1 => ?_) (fun h1 => ?_) <;> (refine st_ ?_; (refine ru_ ?_; intros))
  rotate_left
  · exact absurd (by simpa using h1) hst
  refine rn_ ?_; intros
  refine x_retW rfl hQ hmb hmh hG0 hmub rfl rfl (by rw [hty]; simp only [so, sq, zy, zz, tyE, SO', SQ', opQ, opStore, opAlloc, ev, putS, dOk, cv, SV.cs, SV.one, SV.bool?, eqB, Value.oneCell', ldOwn, binInt, binConst, binBool, binStr, isC, TK.agg, rv, rv1, ldV, resOne, resV, Nat.reduceAdd, Nat.reduceMul, Nat.reduceSub, Nat.reduceLT, Nat.reduceLeDiff, Nat.reduceEqDiff, Nat.reduceBEq, reduceIte, reduceCtorEq, eq_self]; try rfl) rfl rfl (by simp only [enumO]; exact (by repeat (first | exact plain_nil | refine plain_cons (fun _ h => h) ?_))) ?_; simp only [SV.den, resV, dens]
  exact ⟨by first | rfl | trivial, rfl⟩
theorem want3_ok (b cb b1 : Nat) (k n : Int) (vl fs ps : Value) (p : Pr) (m : Fm) (l : List Fm) (rs : List Fw) (nd : Nd) (G : Hp) (hc : At G cb 0 [ps]) (hp : rF.S G p ps) (hfs : fsOk G (m :: l) rs) (hnd : ndAt p m.fn m.nd = some nd) (hlm : l.length ≤ 300)
    (hdn : ∀ x, rs.head? = some x → rW.S G m.done x.done.v) (hdl : m.done.length ≤ 1000) (hvv : ∀ v ∈ m.done, vld v = true) :
    PureW Tryz.prog 26 [.pointer (some ⟨b, 0, none⟩)] G [fhO b cb 2 k n vl fs, frO b1 fs rs] (fun v G' ow => ow = [fhO b cb 2 k n vl fs, frO b1 fs rs] ∧ wantV G' (wantP nd m.done) v) := by
  refine enterW ty tyok Tryz.func26 rfl Tryz.ntmps26 [.p 0 b 0] (by simp) (mh := 2) rfl ?_
  intro C hP hQ hnt hty hmb hmh hro hG0 hmub; have hQp := qp_body hQ; refine st_ ?_
  have hlast := fun G1 (hle : Le G G1) => last_ok b cb b1 2 k n vl fs ps p m l rs nd G1 (hc.mono hle) (Rp.S_mono hle hp) (hfs.mono hle) hnd hlm
  obtain ⟨x, r, rfl, hx, hr⟩ := hfs
  have hrl := hr.len
  have hlen := encF_len (x :: r)
  simp only [List.length_cons] at hlen
  have hds := hdn x rfl
  obtain ⟨xfn, xnd, xvars, xe, xsz, xdv, xn, xxs⟩ := x
  simp only at hds
  obtain ⟨ad, cd, rfl⟩ := Rp.S_slice hds
  simp only [enumO, fhO, frO]
  refine go_rowcases 1 rfl (fun _ h _ => by simp at h) ?_
  rintro g cap rfl hcap hlen2
  refine rn_ ?_; intros
  refine go_callW [0] (by rw [hnt]; rfl) (by rw [hP]; kernel_rfl) rfl rfl rfl (.inr (by rw [hmh]; decide)) (by rw [hP]; exact state_ok b cb 2 k n vl _ G) ?_
  rintro v5 G1 ow5 (hle1 : Le G G1) ⟨rfl, rfl⟩
  simp only [setO, stk, fhO]
  refine rn_ ?_; intros
  (refine x_split rfl rfl rfl (fun hc => absurd hc (by first | decide +kernel | (simp; first | done | fail))) (fun _ => ?_); refine st_ ?_; (refine ru_ ?_; intros))
  refine rn_ ?_; intros
  refine go_callW [0, 1] (by rw [hnt]; rfl) (by rw [hP]; kernel_rfl) rfl rfl rfl (.inr (by rw [hmh]; decide)) (by rw [hP]; exact hlast G1 hle1) ?_
  rintro v G2 ow2 (hle2 : Le G1 G2) ⟨rfl, g2, cap2, sl, e3, rfl, hrI⟩
  injection e3 with e3 e4 e5
  injection e3 with e3
  injection e3 with e3
  subst e3 e5
  have hle12 := hle1.trans hle2
  obtain ⟨asl, csl, rfl⟩ := Rp.S_slice hrI
  simp only [setO, stk, fhO, frO, List.length_cons]
  refine rn_ ?_; intros
  rename_i b2 b5
  have hcp := copies_ok m.done _ G2 (Rp.S_mono hle12 hds) hdl hvv
  refine x_split rfl rfl rfl (fun h14 => ?_) (fun h14 => ?_) <;> (refine st_ ?_; (refine ru_ ?_; intros))
  · have hop : nd.op = 14 := by simpa using h14
    refine rn_ ?_; intros
    refine x_held [(1, b1, .row (.slice (some ⟨g, 0, none⟩) (r.length + 1) cap) 90 4 (r.length + 1) (encF (⟨xfn, xnd, xvars, ⟨xe, xsz, .slice ad m.done.length cd, xn, xxs⟩⟩ :: r))), (3, b5, .c 110 [.v (.int .i64 nd.op), .v (.int .i64 nd.n), .v (.slice asl nd.l.length csl)])] rfl (by rw [hP]; kernel_rfl) rfl rfl rfl ?_; refine st_ ?_
    refine tq_ 0 rfl (quiet_op (by rw [hty]; first | rfl | (refine st_ ?_; rfl))) ?_; refine st_ ?_
    refine tq_ 1 rfl (quiet_op (by rw [hty]; first | rfl | (refine st_ ?_; rfl))) ?_; refine st_ ?_
    refine tq_ 2 rfl (quiet_op (by rw [hty]; first | rfl | (refine st_ ?_; rfl))) ?_; refine st_ ?_
    refine tq_ 3 rfl (quiet_op (by rw [hty]; first | rfl | (refine st_ ?_; rfl))) ?_; refine st_ ?_
    refine tq_ 4 rfl (quiet_op (by rw [hty]; first | rfl | (refine st_ ?_; rfl))) ?_; refine st_ ?_
    refine tq_ 5 rfl (x := .v (.slice ad m.done.length cd)) ((quiet_loadR (k := 1) (by rw [hty]; rfl) rfl (by simp [TK.agg]) rfl (by simp only []; omega)).cast (by exact encF_ld (j := 3) (by omega) rfl)) ?_
    refine st_ ?_
    refine h_one 6 rfl (by kernel_rfl) ?_
    refine go_call (by rw [hnt]; rfl) (by rw [hP]; kernel_rfl) rfl (hP ▸ hcp) ?_
    rintro v3 G3 (hle3 : Le G2 G3) hS3
    obtain ⟨a3, c3, rfl⟩ := Rp.S_slice hS3
    refine rn_ ?_; intros
    refine hs_ ?_
    refine tq_ 7 rfl (quiet_op (by rw [hty]; first | rfl | (refine st_ ?_; rfl))) ?_; refine st_ ?_
    refine h_one 8 rfl (by kernel_rfl) ?_
    refine rn_ ?_; intros
    refine hs_ ?_
    refine h_one 9 rfl (by kernel_rfl) ?_
    refine rn_ ?_; intros
    refine hs_ ?_
    refine h_end (by kernel_rfl) ?_
    refine rn_ ?_; intros
    refine x_retW rfl hQ hmb hmh hG0 hmub rfl rfl (by rw [hty]; simp only [so, sq, zy, zz, tyE, SO', SQ', opQ, opStore, opAlloc, ev, putS, dOk, cv, SV.cs, SV.one, SV.bool?, eqB, Value.oneCell', ldOwn, binInt, binConst, binBool, binStr, isC, TK.agg, rv, rv1, ldV, resOne, resV, Nat.reduceAdd, Nat.reduceMul, Nat.reduceSub, Nat.reduceLT, Nat.reduceLeDiff, Nat.reduceEqDiff, Nat.reduceBEq, reduceIte, reduceCtorEq, eq_self]; try rfl) rfl rfl (by simp only [enumO]; exact (by repeat (first | exact plain_nil | refine plain_cons (fun _ h => h) ?_))) ?_; simp only [SV.den, resV, dens]
    refine ⟨rfl, ?_⟩
    simp only [wantP, hop]
    exact ⟨_, rfl, hS3⟩
  have h14 : ¬ nd.op = 14 := by simpa using h14
  refine rn_ ?_; intros
  refine x_split rfl rfl rfl (fun h24 => ?_) (fun h24 => ?_) <;> (refine st_ ?_; (refine ru_ ?_; intros))
  · have hop : nd.op = 24 := by simpa using h24
    refine rn_ ?_; intros
    refine go_q (v := .slice ad m.done.length cd) (by rw [hnt]; rfl) ((quiet_loadR (k := 1) (by rw [hty]; rfl) rfl (by simp [TK.agg]) rfl (by simp only []; omega)).cast (by exact encF_ld (j := 3) (by omega) rfl)) ?_
    refine rn_ ?_; intros
    refine go_call (by rw [hnt]; rfl) (by rw [hP]; kernel_rfl) rfl (hP ▸ hcp) ?_
    rintro v3 G3 (hle3 : Le G2 G3) hS3
    obtain ⟨a3, c3, rfl⟩ := Rp.S_slice hS3
    refine rn_ ?_; intros
    refine x_retW rfl hQ hmb hmh hG0 hmub rfl rfl (by rw [hty]; simp only [so, sq, zy, zz, tyE, SO', SQ', opQ, opStore, opAlloc, ev, putS, dOk, cv, SV.cs, SV.one, SV.bool?, eqB, Value.oneCell', ldOwn, binInt, binConst, binBool, binStr, isC, TK.agg, rv, rv1, ldV, resOne, resV, Nat.reduceAdd, Nat.reduceMul, Nat.reduceSub, Nat.reduceLT, Nat.reduceLeDiff, Nat.reduceEqDiff, Nat.reduceBEq, reduceIte, reduceCtorEq, eq_self]; try rfl) rfl rfl (by simp only [enumO]; exact (by repeat (first | exact plain_nil | refine plain_cons (fun _ h => h) ?_))) ?_; simp only [SV.den, resV, dens]
    refine ⟨rfl, ?_⟩
    simp only [wantP, hop]
    exact ⟨_, rfl, hS3⟩
  have h24 : ¬ nd.op = 24 := by simpa using h24
  refine rn_ ?_; intros
  refine x_retW rfl hQ hmb hmh hG0 hmub rfl rfl (by rw [hty]; simp only [so, sq, zy, zz, tyE, SO', SQ', opQ, opStore, opAlloc, ev, putS, dOk, cv, SV.cs, SV.one, SV.bool?, eqB, Value.oneCell', ldOwn, binInt, binConst, binBool, binStr, isC, TK.agg, rv, rv1, ldV, resOne, resV, Nat.reduceAdd, Nat.reduceMul, Nat.reduceSub, Nat.reduceLT, Nat.reduceLeDiff, Nat.reduceEqDiff, Nat.reduceBEq, reduceIte, reduceCtorEq, eq_self]; try rfl) rfl rfl (by simp only [enumO]; exact (by repeat (first | exact plain_nil | refine plain_cons (fun _ h => h) ?_))) ?_; simp only [SV.den, resV, dens]
  refine ⟨rfl, ?_⟩
  simp only [wantP, if_neg h14, if_neg h24]
  exact ⟨_, rfl, Rp.S_nil none 0⟩
theorem prog_ok (p : Pr) (ps : Value) (cb : Nat) (G : Hp) (hc : At G cb 0 [ps]) (hps : rF.S G p ps) (h0 : p.length ≠ 0) (hb : bdP p) :
    Pure Tryz.prog 15 [.pointer (some ⟨cb, 0, none⟩)] G (fun v G' => ∃ sl, v = .agg #[sl] ∧ rF.S G' p sl) := by
  have hms := miss2_ok p ps cb G hc hps h0
  have hcp := copys_ok p ps G hps hb
  obtain ⟨adp, capp, rfl⟩ := Rp.S_slice hps
  refine enterX ty tyok Tryz.func15 rfl Tryz.ntmps15 [.v (.pointer (some ⟨cb, 0, none⟩))] (by simp) ?_
  intro C hP hQ hnt hty hmb hmh hro; have hQp := qp_body hQ; refine st_ ?_
  refine rn_ ?_; intros
  refine go_callf (by rw [hnt]; rfl) (by rw [hP]; kernel_rfl) rfl (hP ▸ hms) ?_; refine rn_ ?_; intros
  (refine x_split rfl rfl rfl (fun hc => absurd hc (by first | decide +kernel | (simp; first | done | fail))) (fun _ => ?_); refine st_ ?_; (refine ru_ ?_; intros))
  refine rn_ ?_; intros
  refine go_q (v := .agg #[.slice adp p.length capp]) (by rw [hnt]; rfl) ((quiet_load (by rw [hty]; rfl) rfl (by simp [TK.agg]) hc rfl).cast (by rfl)) ?_
  refine rn_ ?_; intros
  refine go_call (by rw [hnt]; rfl) (by rw [hP]; kernel_rfl) rfl (hP ▸ hcp) ?_
  rintro v2 G2 (hle2 : Le G G2) ⟨sl, rfl, hS⟩
  obtain ⟨a3, c3, rfl⟩ := Rp.S_slice hS
  refine rn_ ?_; intros
  refine xc_ hQ hmb ?_; simp only [SV.den, resV, dens]
  exact ⟨_, rfl, hS⟩
theorem load_err (p : Pr) (ps : Value) (G : Hp) (hps : rF.S G p ps) (hw : (whP p).2.2 ≠ 0) :
    Pure Tryz.prog 9 [.agg #[ps]] G (fun v _ => v = .tuple #[.pointer none, .int .i64 2]) := by
  have hck := checkp_ok p ps G hps
  obtain ⟨adp, capp, rfl⟩ := Rp.S_slice hps
  refine enterX ty tyok Tryz.func9 rfl Tryz.ntmps9 [.a [.v (.slice adp p.length capp)]] (by simp) ?_
  intro C hP hQ hnt hty hmb hmh hro; have hQp := qp_body hQ; refine st_ ?_
  refine rn_ ?_; intros
  refine go_callf (by rw [hnt]; rfl) (by rw [hP]; kernel_rfl) rfl (hP ▸ hck) ?_; refine rn_ ?_; intros
  refine x_split rfl rfl rfl (fun h1 => ?_) (fun h1 => ?_) <;> (refine st_ ?_; (refine ru_ ?_; intros))
  rotate_left
  · exact absurd (by simpa using h1) hw
  refine rn_ ?_; intros
  refine xc_ hQ hmb ?_; simp only [SV.den, resV, dens]
  try rfl
theorem resume_err (b cb : Nat) (st k n : Int) (vl fs : Value) (v : VT) (slv : Value) (e : Int) (G : Hp) (hv : v.rep G slv) (he : (vld v = false ∧ e = 2) ∨ (vld v = true ∧ st ≠ 2 ∧ e = 100)) :
    PureW Tryz.prog 29 [.pointer (some ⟨b, 0, none⟩), .agg #[.int .i64 v.k, .int .i64 v.n, slv]] G [fhO b cb st k n vl fs] (fun r _ ow => r = .int .i64 e ∧ ow = [fhO b cb st k n vl fs]) := by
  obtain ⟨a9, c9, rfl⟩ := VT.rep_slice hv
  refine enterW ty tyok Tryz.func29 rfl Tryz.ntmps29 [.p 0 b 0, .a [.v (.int .i64 v.k), .v (.int .i64 v.n), .v (.slice a9 v.l.length c9)]] (by simp) (mh := 1) rfl ?_
  intro C hP hQ hnt hty hmb hmh hro hG0 hmub; have hQp := qp_body hQ; refine st_ ?_
  simp only [enumO]
  refine rn_ ?_; intros
  refine go_callW [0] (by rw [hnt]; rfl) (by rw [hP]; kernel_rfl) rfl rfl rfl (.inr (by rw [hmh]; decide)) (by rw [hP]; exact miss_ok b cb st k n vl fs G) ?_
  rintro v5 G1 ow5 (hle1 : Le G G1) ⟨rfl, rfl⟩
  simp only [setO, stk, fhO]
  refine rn_ ?_; intros
  (refine x_split rfl rfl rfl (fun hc => absurd hc (by first | decide +kernel | (simp; first | done | fail))) (fun _ => ?_); refine st_ ?_; (refine ru_ ?_; intros))
  refine rn_ ?_; intros
  have hck1 := check_ok v _ G1 (VT.rep_mono hle1 hv)
  rcases he with ⟨hvv, rfl⟩ | ⟨hvv, hst, rfl⟩
  · have hc0 : chk v ≠ 0 := by simp [chk, hvv]
    refine go_callf (by rw [hnt]; rfl) (by rw [hP]; kernel_rfl) rfl (hP ▸ hck1) ?_; refine rn_ ?_; intros
    refine x_split rfl rfl rfl (fun h1 => ?_) (fun h1 => ?_) <;> (refine st_ ?_; (refine ru_ ?_; intros))
    rotate_left
    · exact absurd (by simpa using h1) hc0
    refine rn_ ?_; intros
    refine x_retW rfl hQ hmb hmh hG0 hmub rfl rfl (by rw [hty]; simp only [so, sq, zy, zz, tyE, SO', SQ', opQ, opStore, opAlloc, ev, putS, dOk, cv, SV.cs, SV.one, SV.bool?, eqB, Value.oneCell', ldOwn, binInt, binConst, binBool, binStr, isC, TK.agg, rv, rv1, ldV, resOne, resV, Nat.reduceAdd, Nat.reduceMul, Nat.reduceSub, Nat.reduceLT, Nat.reduceLeDiff, Nat.reduceEqDiff, Nat.reduceBEq, reduceIte, reduceCtorEq, eq_self]; try rfl) rfl rfl (by simp only [enumO]; exact (by repeat (first | exact plain_nil | refine plain_cons (fun _ h => h) ?_))) ?_; simp only [SV.den, resV, dens]
    exact ⟨by first | rfl | trivial, rfl⟩
  · rw [show chk v = 0 by simp [chk, hvv]] at hck1
    refine go_callf (by rw [hnt]; rfl) (by rw [hP]; kernel_rfl) rfl (hP ▸ hck1) ?_; refine rn_ ?_; intros
    (refine x_split rfl rfl rfl (fun hc => absurd hc (by first | decide +kernel | (simp; first | done | fail))) (fun _ => ?_); refine st_ ?_; (refine ru_ ?_; intros))
    refine rn_ ?_; intros
    refine x_split rfl rfl rfl (fun h1 => ?_) (fun h1 => ?_) <;> (refine st_ ?_; (refine ru_ ?_; intros))
    rotate_left
    · exact absurd (by simpa using h1) hst
    refine rn_ ?_; intros
    refine x_retW rfl hQ hmb hmh hG0 hmub rfl rfl (by rw [hty]; simp only [so, sq, zy, zz, tyE, SO', SQ', opQ, opStore, opAlloc, ev, putS, dOk, cv, SV.cs, SV.one, SV.bool?, eqB, Value.oneCell', ldOwn, binInt, binConst, binBool, binStr, isC, TK.agg, rv, rv1, ldV, resOne, resV, Nat.reduceAdd, Nat.reduceMul, Nat.reduceSub, Nat.reduceLT, Nat.reduceLeDiff, Nat.reduceEqDiff, Nat.reduceBEq, reduceIte, reduceCtorEq, eq_self]; try rfl) rfl rfl (by simp only [enumO]; exact (by repeat (first | exact plain_nil | refine plain_cons (fun _ h => h) ?_))) ?_; simp only [SV.den, resV, dens]
    exact ⟨by first | rfl | trivial, rfl⟩
end Go.Proofs.YtpppkednpamhbaaGreat
namespace Go.Sx
set_option linter.unusedSimpArgs false
set_option linter.unusedVariables false
theorem PureW.weak {P : Program} {f : FuncId} {args : List Value} {G : Hp} {ow : Lds} {φ ψ : Value → Hp → Lds → Prop} (h : PureW P f args G ow φ) (hr : ∀ v G' ow', Le G G' → φ v G' ow' → ψ v G' ow') : PureW P f args G ow ψ := by
  intro w hw hl
  refine (h w hw hl).mono ?_
  rintro e w' ⟨u, G', ow', rfl, q1, q2, q3, q4, q5, q6, q7, q8, hφ⟩
  have hle : Le G G' := fun b o e => by rw [q4 b (lt_of_heap (hw b o e))]; exact e
  exact ⟨u, G', ow', rfl, q1, q2, q3, q4, q5, q6, q7, q8, hr _ _ _ hle hφ⟩
theorem PureT.weak {P : Program} {f : FuncId} {args : List Value} {G : Hp} {ow : Lds} {φ ψ : Value → Hp → Lds → Prop} (h : PureT P f args G ow φ) (hr : ∀ v G' ow', Le G G' → φ v G' ow' → ψ v G' ow') : PureT P f args G ow ψ := by
  intro w hw hl
  refine (h w hw hl).mono ?_
  rintro e w' ⟨u, G', ow', rfl, q1, q2, q3, q4, q5, q6, q7, q8, q9, hφ⟩
  exact ⟨u, G', ow', rfl, q1, q2, q3, q4, q5, q6, q7, q8, q9, hr _ _ _ q5 hφ⟩
end Go.Sx
namespace Go.Proofs.YtpppkednpamhbaaGreat
set_option linter.unusedSimpArgs false
set_option linter.unusedVariables false
open Go.Sx
set_option maxHeartbeats 8000000
set_option maxRecDepth 20000
def wantQ (p : Pr) (s : Fb) : Int × Int × List VT × Bool :=
  if s.st = 2 then
    match s.l with
    | [] => (0, 0, [], false)
    | m :: _ =>
      match ndAt p m.fn m.nd with
      | none => (0, 0, [], false)
      | some nd => ((wantP nd m.done).1, (wantP nd m.done).2.1, (wantP nd m.done).2.2, true)
  else (0, 0, [], false)
def wantA (G : Hp) (w : Int × Int × List VT × Bool) (v : Value) : Prop := ∃ sl, v = .tuple #[.agg #[.int .i64 w.1, .int .i64 w.2.1, sl], .bool w.2.2.2] ∧ rW.S G w.2.2.1 sl
def atQ (s : Fb) : Int × Int × Bool :=
  match s.l with
  | [] => (0, 0, false)
  | m :: _ => (m.fn, m.nd, true)
structure fbP (G : Hp) (s : Fb) (vl : Value) (rs : List Fw) : Prop where
  val : s.val.rep G vl
  sz : tsz s.val ≤ 1000
  fs : fsOk G s.l rs
  len : s.l.length ≤ 256
  top : ∀ m x, s.l.head? = some m → rs.head? = some x → rW.S G m.done x.done.v
theorem fbP.mono {G G' : Hp} {s : Fb} {vl : Value} {rs : List Fw} (h : fbP G s vl rs) (hl : Le G G') : fbP G' s vl rs :=
  ⟨VT.rep_mono hl h.val, h.sz, h.fs.mono hl, h.len, fun m x q q' => Rp.S_mono hl (h.top m x q q')⟩
theorem vf_two {p : Pr} {s : Fb} (h : VF p s) (h2 : s.st = 2) : ∃ m r nd, s.l = m :: r ∧ RX p 2 m nd ∧ r.length < 256 := by
  rcases h.1 with (h3 | ⟨x, r, nd, h3, h4, h5, h6⟩) | ⟨h3, _⟩
  · injection h3 with h3 _; omega
  · simp only [h2] at h3 h4
    exact ⟨x, r, nd, h3, h4, h6⟩
  · omega
theorem vf_top {p : Pr} {s : Fb} {m : Fm} {r : List Fm} (h : VF p s) (hs : s.l = m :: r) : ∃ nd, VX p m nd ∧ r.length < 256 := by
  rcases h.1 with (h3 | ⟨x, r', nd, h3, h4, h5, h6⟩) | ⟨_, h3⟩
  · injection h3 with _ h3; rw [hs] at h3; cases h3
  · simp only [hs] at h3
    cases h3
    exact ⟨nd, h4.1, h6⟩
  · rw [hs] at h3; cases h3
theorem vx_done {p : Pr} {m : Fm} {nd : Nd} (h : VX p m nd) : m.done.length ≤ 1000 := by
  have h1 := h.2.1
  have := (ben_len h.1.facts.2.1).2.2.2.2.2.2.1
  unfold many at h1
  split at h1 <;> omega
theorem want_q (b cb b1 : Nat) (vl fs ps : Value) (p : Pr) (s : Fb) (rs : List Fw) (G : Hp) (hc : At G cb 0 [ps]) (hp : rF.S G p ps) (hVF : VF p s) (hb : fbP G s vl rs) :
    PureW Tryz.prog 26 [.pointer (some ⟨b, 0, none⟩)] G [fhO b cb s.st s.val.k s.val.n vl fs, frO b1 fs rs] (fun v G' ow => ow = [fhO b cb s.st s.val.k s.val.n vl fs, frO b1 fs rs] ∧ wantA G' (wantQ p s) v) := by
  unfold wantQ
  by_cases h2 : s.st = 2
  · obtain ⟨m, r, nd, hs, hRX, hr⟩ := vf_two hVF h2
    have hnd := hRX.1.1.nd
    rw [if_pos h2, hs, h2]
    simp only [hnd]
    refine (want3_ok b cb b1 s.val.k s.val.n vl fs ps p m r rs nd G hc hp (by rw [← hs]; exact hb.fs) hnd (by omega) (fun x q => hb.top m x (by rw [hs]; rfl) q) (vx_done hRX.1) hRX.1.2.2.2).weak ?_
    rintro v G' ow _ ⟨rfl, sl, rfl, hS⟩
    exact ⟨rfl, sl, rfl, hS⟩
  · rw [if_neg h2]
    refine (wantN_ok b cb b1 s.st s.val.k s.val.n vl fs rs G h2).weak ?_
    rintro v G' ow _ ⟨rfl, rfl⟩
    exact ⟨rfl, _, rfl, Rp.S_nil none 0⟩
theorem at_q (b cb b1 : Nat) (vl ps : Value) (ad : Option Addr) (cap : Nat) (p : Pr) (s : Fb) (rs : List Fw) (G : Hp) (hc : At G cb 0 [ps]) (hp : rF.S G p ps) (hVF : VF p s) (hb : fbP G s vl rs) :
    PureW Tryz.prog 46 [.pointer (some ⟨b, 0, none⟩)] G [fhO b cb s.st s.val.k s.val.n vl (.slice ad rs.length cap), frO b1 (.slice ad rs.length cap) rs] (fun v _ ow => v = .tuple #[.int .i64 (atQ s).1, .int .i64 (atQ s).2.1, .bool (atQ s).2.2] ∧ ow = [fhO b cb s.st s.val.k s.val.n vl (.slice ad rs.length cap), frO b1 (.slice ad rs.length cap) rs]) := by
  unfold atQ
  cases hs : s.l with
  | nil =>
    have hfs := hb.fs
    rw [hs] at hfs
    simp only [fsOk] at hfs
    subst hfs
    exact at_none b cb b1 s.st s.val.k s.val.n vl ad cap G
  | cons m r =>
    obtain ⟨nd, hvx, hr⟩ := vf_top hVF hs
    exact at_ok b cb b1 s.st s.val.k s.val.n vl _ ps p m r rs nd G hc hp (by rw [← hs]; exact hb.fs) hvx.1.nd (by omega)
theorem value_q (b cb : Nat) (vl fs : Value) (p : Pr) (s : Fb) (rs : List Fw) (G : Hp) (hVF : VF p s) (hv : s.st ≠ 3 → s.val = vt0) (hb : fbP G s vl rs) :
    PureW Tryz.prog 24 [.pointer (some ⟨b, 0, none⟩)] G [fhO b cb s.st s.val.k s.val.n vl fs] (fun v G' ow => ow = [fhO b cb s.st s.val.k s.val.n vl fs] ∧ ∃ sl, v = .tuple #[.agg #[.int .i64 s.val.k, .int .i64 s.val.n, sl], .bool (decide (s.st = 3))] ∧ s.val.rep G' sl) := by
  have hsm : sml s.val = true := by
    by_cases h3 : s.st = 3
    · have := hVF.2 h3
      simp only [vld, Bool.and_eq_true] at this
      exact this.1
    · rw [hv h3]; rfl
  refine (value_ok b cb s.st s.val vl fs G hb.val hb.sz hsm).weak ?_
  rintro v G' ow _ ⟨rfl, ⟨h3, rfl⟩ | ⟨h3, sl, rfl, hr⟩⟩
  · refine ⟨rfl, .slice none 0 0, ?_, ?_⟩
    · rw [hv h3, decide_eq_false h3]; rfl
    · rw [hv h3]; exact ⟨by simp [isI64], by simp [isI64], by simp, none, 0, rfl, .inl rfl⟩
  · exact ⟨rfl, sl, by rw [decide_eq_true h3], hr⟩
end Go.Proofs.YtpppkednpamhbaaGreat
