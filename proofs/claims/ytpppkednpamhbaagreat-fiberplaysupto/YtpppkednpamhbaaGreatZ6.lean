/-
  Layer 10's reference: a step; steps; a wanted value.
-/
import Derived.Test.YtpppkednpamhbaaGreatZ5
import Derived.Deep.Strs
import Derived.Deep.Slices
set_option linter.unusedSimpArgs false
set_option linter.unusedVariables false
namespace Go.Proofs.YtpppkednpamhbaaGreat.R
set_option linter.unusedSimpArgs false
set_option linter.unusedVariables false
open Go.Sx
set_option maxHeartbeats 16000000
set_option maxRecDepth 20000
def RVal (s : Fb) : Prop := s.st ≠ 3 → s.val = vt0
theorem go_val {p : Pr} {s o : Fb} {l : List Fm} (h : s.val = vt0) (ho : goF p s l = some o) : o.val = vt0 := by
  obtain ⟨q, _, rfl⟩ := Option.map_eq_some_iff.1 ho
  exact h
theorem prod_val {p : Pr} {s o : Fb} {v : VT} (h : s.val = vt0) (ho : prodF p s v = some o) : RVal o := by
  unfold prodF at ho
  split at ho
  · cases ho
  · cases ho; exact fun q => absurd rfl q
  · split at ho
    · exact fun _ => go_val h ho
    · cases ho
theorem step_val {p : Pr} {s o : Fb} {e : Int} (h : RVal s) (ho : stepP p s = some (e, o)) : RVal o ∧ (s.st = 1 → e = 0) := by
  unfold stepP at ho
  split at ho
  · rename_i h1; cases ho; exact ⟨h, fun q => absurd q h1⟩
  · rename_i h1
    have hv : s.val = vt0 := h (by omega)
    split at ho
    · cases ho
    · split at ho
      · cases ho
      · split at ho
        · obtain ⟨q, hq, e1⟩ := Option.map_eq_some_iff.1 ho
          cases e1
          exact ⟨fun _ => go_val hv hq, fun _ => rfl⟩
        · split at ho
          · cases ho
          · cases ho; exact ⟨fun _ => hv, fun _ => rfl⟩
          · obtain ⟨q, hq, e1⟩ := Option.map_eq_some_iff.1 ho
            cases e1
            exact ⟨prod_val hv hq, fun _ => rfl⟩
theorem run_val {p : Pr} : ∀ {k : Nat} {s o : Fb} {n : Nat}, RVal s → runP p k s = some (n, o) → RVal o ∧ n ≤ k
  | 0, s, o, n, h, ho => by
    cases ho
    exact ⟨h, Nat.le_refl _⟩
  | k + 1, s, o, n, h, ho => by
    rw [runP] at ho
    split at ho
    · cases ho
    · rename_i e s' hst
      have h1 := (step_val h hst).1
      split at ho
      · obtain ⟨q, hq, e1⟩ := Option.map_eq_some_iff.1 ho
        cases e1
        obtain ⟨h2, h3⟩ := run_val h1 hq
        exact ⟨h2, by omega⟩
      · cases ho
        exact ⟨h1, by omega⟩
def resP (p : Pr) (s : Fb) (v : VT) : Option (Int × Fb) := if vld v then (if s.st ≠ 2 then some (100, s) else (prodF p s v).map fun o => (0, o)) else some (2, s)
theorem resP_tot {p : Pr} {s : Fb} (h : VF p s) (v : VT) : ∃ e o, resP p s v = some (e, o) ∧ VF p o := by
  unfold resP
  split
  · rename_i hv
    split
    · exact ⟨_, _, rfl, h⟩
    · rename_i h2
      rcases h.1 with (h3 | ⟨x, r, nd, h3, h4, h5, h6⟩) | ⟨h3, _⟩
      · injection h3 with h3 _; omega
      · obtain ⟨o, k1, k2⟩ := prod_tot (s := s) (by simpa using h3) hv h5 h6
        rw [k1]
        exact ⟨_, _, rfl, k2⟩
      · omega
  · exact ⟨_, _, rfl, h⟩
theorem resP_val {p : Pr} {s o : Fb} {v : VT} {e : Int} (h : RVal s) (ho : resP p s v = some (e, o)) : RVal o := by
  unfold resP at ho
  split at ho
  · split at ho
    · cases ho; exact h
    · obtain ⟨q, hq, e1⟩ := Option.map_eq_some_iff.1 ho
      cases e1
      exact prod_val (h (by omega)) hq
  · cases ho; exact h
def rfT (G : Hp) (ps : Value) (o : Fb) (e : Int) (w : Value) : Prop := ∃ lsl vl, w = .tuple #[fibV ps lsl o.st o.val.k o.val.n vl, .int .i64 e] ∧ fmS G o.l lsl ∧ o.val.rep G vl ∧ tsz o.val ≤ 1000
theorem vf_len {p : Pr} {s : Fb} (h : VF p s) : s.l.length ≤ 256 := by
  rcases h.1 with (h3 | ⟨x, r, nd, h3, h4, h5, h6⟩) | ⟨_, h3⟩
  · injection h3 with _ h3; rw [h3]; simp
  · simp only [] at h3
    rw [h3]; simp; omega
  · rw [h3]; simp
theorem rstep_ok (ps : Value) (p : Pr) (hpR : rgtP p = true) (s : Fb) (e : Int) (o : Fb) (v0 : Value) (G : Hp) (hp : rF.S G p ps) (h0 : rfO G ps s.st s.val s.l v0) (hVF : VF p s) (hval : RVal s) (ho : stepP p s = some (e, o)) :
    Pure Tryz.prog 41 [v0] G (fun w G' => rfT G' ps o e w) := by
  obtain ⟨lsl, vl, rfl, hL, hvl, hts⟩ := h0
  obtain ⟨vA, vC, rfl⟩ := VT.rep_slice hvl
  obtain ⟨pA, pC, rfl⟩ := Rp.S_slice hp
  obtain ⟨aL, cL, rfl⟩ := Rp.S_slice hL.1
  have hlen := vf_len hVF
  unfold stepP at ho
  refine enterX ty tyok Tryz.func41 rfl Tryz.ntmps41 [.a [.v (.slice pA p.length pC), .v (.slice aL s.l.reverse.length cL), .v (.int .i64 s.st), .v (.int .i64 s.val.k), .v (.int .i64 s.val.n), .v (.slice vA s.val.l.length vC)]] (by simp) ?_
  intro C hP hQ hnt hty hmb hmh hro; have hQp := qp_body hQ; refine st_ ?_
  refine rn_ ?_; intros
  refine x_split rfl rfl rfl (fun h1 => ?_) (fun h1 => ?_) <;> (refine st_ ?_; (refine ru_ ?_; intros))
  · have h1 : s.st ≠ 1 := by simpa using h1
    rw [if_pos h1] at ho
    cases ho
    refine rn_ ?_; intros
    refine xc_ hQ hmb ?_; simp only [SV.den, resV, dens]
    exact ⟨_, _, rfl, hL, hvl, hts⟩
  have h1 : s.st = 1 := by simpa using h1
  rw [if_neg (by omega)] at ho
  have hvt := hval (by omega)
  obtain ⟨x, r, nd, hsl, hRX, hWS, hr⟩ : ∃ x r nd, s.l = x :: r ∧ RX p 1 x nd ∧ WS p r ∧ r.length < 256 := by
    rcases hVF.1 with (h3 | ⟨x, r, nd, h3, h4, h5, h6⟩) | ⟨h3, _⟩
    · injection h3 with h3 _; omega
    · simp only [h1] at h3 h4
      exact ⟨x, r, nd, h3, h4, h5, h6⟩
    · omega
  have hRX' := hRX
  obtain ⟨hvx, n4, n5, hdl, hst⟩ := hRX'
  obtain ⟨B4, B5, B24, B11, B6, B1, B16, bo1, bo2⟩ := ben_len hvx.1.facts.2.1
  have hnm := hvx.1.facts.2.2.1
  have hL' : fmS G (x :: r) (.slice aL s.l.reverse.length cL) := by
    have := hL
    rw [hsl] at this
    rw [hsl]
    exact this
  rw [hsl] at ho
  simp only [hvx.1.nd] at ho
  have hvl' : vt0.rep G (.slice vA s.val.l.length vC) := by
    have := hvl
    rw [hvt] at this
    rw [hvt]
    exact this
  refine rn_ ?_; intros
  refine go_call (by rw [hnt]; rfl) (by rw [hP]; kernel_rfl) rfl (hP ▸ rlast_ok _ _ _ s.st s.val.k s.val.n p x r nd G hp hL'.1 ⟨_, _, _, rfl⟩ hvx.1.nd (by omega)) ?_
  rintro _ G1 (hle1 : Le G G1) ⟨av, cw, ad, cd, an, cn, rfl, hsv, hsd, hrI, g1, g2, i1, i2⟩
  have hL1 := hL'.mono hle1
  have hp1 := Rp.S_mono hle1 hp
  have hvl1 := VT.rep_mono hle1 hvl'
  have hk0 : s.val.k = vt0.k := by rw [hvt]
  have hn0 : s.val.n = vt0.n := by rw [hvt]
  refine rn_ ?_; intros
  refine x_split rfl rfl rfl (fun h13 => ?_) (fun h13 => ?_) <;> (refine st_ ?_; (refine ru_ ?_; intros))
  · have hop : nd.op = 13 := by simpa using h13
    rw [if_pos hop] at ho
    obtain ⟨o1, ho1, heq⟩ := Option.map_eq_some_iff.1 ho
    cases heq
    obtain ⟨o2, ho2, rfl⟩ := Option.map_eq_some_iff.1 ho1
    obtain ⟨c1, c2, y, hy⟩ := hvx.1.call hpR hop
    have hvx2 : VX p ⟨nd.n, 0, x.done, []⟩ y := ⟨by rw [hdl]; exact hy, by simp, hvx.2.2.2, by simp⟩
    refine rn_ ?_; intros
    refine go_call (by rw [hnt]; rfl) (by rw [hP]; kernel_rfl) rfl (hP ▸ rwith_ok _ _ _ s.st s.val.k s.val.n x ⟨nd.n, 0, x.done, []⟩ r _ (.slice none 0 0) G1 ⟨_, _, _, rfl⟩ hL1.1 ⟨_, _, _, rfl⟩ hsd (Rp.S_nil none 0) i2 (by simp [isI64]) (by omega)) ?_
    rintro _ G2 (hle2 : Le G1 G2) ⟨lsl', rfl, hS2⟩
    obtain ⟨a5, c5, rfl⟩ := Rp.S_slice hS2.1
    simp only [fibV, hk0, hn0]
    refine rn_ ?_; intros
    refine go_call (by rw [hnt]; rfl) (by rw [hP]; kernel_rfl) rfl (hP ▸ rdown_ok _ s.st p 600 ⟨nd.n, 0, x.done, []⟩ r y _ o2 G2 (Rp.S_mono hle2 hp1) ⟨_, _, rfl, hS2, VT.rep_mono hle2 hvl1, by simp [vt0, tsz, tszL]⟩ hvx2 (by omega) ho2) ?_
    rintro _ G7 (hle7 : Le G2 G7) ⟨lsl3, vl3, rfl, hL3, hv3, ht3⟩
    obtain ⟨a5', c5', rfl⟩ := Rp.S_slice hL3.1
    obtain ⟨a6', c6', rfl⟩ := VT.rep_slice hv3
    simp only [fibV]
    refine rn_ ?_; intros
    refine xc_ hQ hmb ?_; simp only [SV.den, resV, dens]
    rw [hvt]
    exact ⟨_, _, rfl, hL3, hv3, ht3⟩
  have n13 : nd.op ≠ 13 := by simpa using h13
  rw [if_neg n13] at ho
  obtain ⟨ov, ho1, hov⟩ := res_tot hRX n13
  rw [ho1] at ho
  have hop2 : nd.op = 2 → nd.n = 0 := by
    intro q
    simp [nmb, nms, q] at hnm
    exact hnm
  refine rn_ ?_; intros
  refine go_call (by rw [hnt]; rfl) (by rw [hP]; kernel_rfl) rfl (hP ▸ rmakes_ok x.fn x.nd nd _ _ _ x.done x.vars ov G1 hrI i2 i1 hsd hsv (vx_done hvx) (fun q => List.eq_nil_of_length_eq_zero (by have := B1 (by omega); omega)) hop2 (by omega) ho1) ?_
  rintro _ G2 (hle2 : Le G1 G2) hpost
  cases ov with
  | none =>
    obtain ⟨k9, n9, a9, m9, c9, rfl⟩ := hpost
    simp only [] at ho
    cases ho
    refine rn_ ?_; intros
    (refine x_split rfl rfl rfl (fun _ => ?_) (fun hc => absurd hc (by first | decide +kernel | (simp; first | done | fail))); refine st_ ?_; (refine ru_ ?_; intros))
    refine rn_ ?_; intros
    refine go_callf (by rw [hnt]; rfl) (by rw [hP]; kernel_rfl) rfl (hP ▸ rwrong_ok _ _ _ _ _ _ _ ⟨_, _, _, rfl⟩ ⟨_, _, _, rfl⟩ ⟨_, _, _, rfl⟩) ?_; refine rn_ ?_; intros
    refine xc_ hQ hmb ?_; simp only [SV.den, resV, dens]
    rw [hvt]
    exact ⟨_, _, rfl, ⟨Rp.S_nil none 0, fun _ _ _ e => by cases e; simp⟩, vt0_rep _, by simp [vt0, tsz, tszL]⟩
  | some y =>
    obtain ⟨sl9, rfl, hr9, ht9⟩ := hpost
    obtain ⟨a9, c9, rfl⟩ := VT.rep_slice hr9
    simp only [] at ho
    obtain ⟨o1, ho2, heq⟩ := Option.map_eq_some_iff.1 ho
    cases heq
    have hle12 := hle1.trans hle2
    refine rn_ ?_; intros
    (refine x_split rfl rfl rfl (fun hc => absurd hc (by first | decide +kernel | (simp; first | done | fail))) (fun _ => ?_); refine st_ ?_; (refine ru_ ?_; intros))
    refine rn_ ?_; intros
    simp only [hk0, hn0]
    refine go_call (by rw [hnt]; rfl) (by rw [hP]; kernel_rfl) rfl (hP ▸ rdone_ok _ p s y _ o _ G2 (Rp.S_mono hle12 hp) ⟨_, _, rfl, hL.mono hle12, VT.rep_mono hle12 hvl', by simp [vt0, tsz, tszL]⟩ hvt (by rw [hsl]; exact hWS) hlen hr9 ht9 (hov y rfl) ho2) ?_
    rintro _ G7 (hle7 : Le G2 G7) ⟨lsl3, vl3, rfl, hL3, hv3, ht3⟩
    obtain ⟨a5', c5', rfl⟩ := Rp.S_slice hL3.1
    obtain ⟨a6', c6', rfl⟩ := VT.rep_slice hv3
    simp only [fibV]
    refine rn_ ?_; intros
    refine xc_ hQ hmb ?_; simp only [SV.den, resV, dens]
    exact ⟨_, _, rfl, hL3, hv3, ht3⟩
end Go.Proofs.YtpppkednpamhbaaGreat.R
namespace Go.Proofs.YtpppkednpamhbaaGreat.R
set_option linter.unusedSimpArgs false
set_option linter.unusedVariables false
open Go.Sx
set_option maxHeartbeats 16000000
set_option maxRecDepth 20000
theorem rresume_ok (ps : Value) (p : Pr) (s : Fb) (v : VT) (sv : Value) (e : Int) (o : Fb) (v0 : Value) (G : Hp) (hp : rF.S G p ps) (h0 : rfO G ps s.st s.val s.l v0) (hVF : VF p s) (hval : RVal s) (hv : v.rep G sv) (hb : tsz v ≤ 1000) (ho : resP p s v = some (e, o)) :
    Pure Tryz.prog 43 [v0, .agg #[.int .i64 v.k, .int .i64 v.n, sv]] G (fun w G' => rfT G' ps o e w) := by
  obtain ⟨lsl, vl, rfl, hL, hvl, hts⟩ := h0
  obtain ⟨vA, vC, rfl⟩ := VT.rep_slice hvl
  obtain ⟨pA, pC, rfl⟩ := Rp.S_slice hp
  obtain ⟨aL, cL, rfl⟩ := Rp.S_slice hL.1
  obtain ⟨a9, c9, rfl⟩ := VT.rep_slice hv
  have hlen := vf_len hVF
  unfold resP at ho
  refine enterX ty tyok Tryz.func43 rfl Tryz.ntmps43 [.a [.v (.slice pA p.length pC), .v (.slice aL s.l.reverse.length cL), .v (.int .i64 s.st), .v (.int .i64 s.val.k), .v (.int .i64 s.val.n), .v (.slice vA s.val.l.length vC)], .a [.v (.int .i64 v.k), .v (.int .i64 v.n), .v (.slice a9 v.l.length c9)]] (by simp) ?_
  intro C hP hQ hnt hty hmb hmh hro; have hQp := qp_body hQ; refine st_ ?_
  refine rn_ ?_; intros
  refine go_callf (by rw [hnt]; rfl) (by rw [hP]; kernel_rfl) rfl (hP ▸ refright_ok v _ G hv (by omega)) ?_; refine rn_ ?_; intros
  refine x_split rfl rfl rfl (fun h1 => ?_) (fun h1 => ?_) <;> (refine st_ ?_; (refine ru_ ?_; intros))
  · have hvv : ¬ vld v = true := by simpa using h1
    rw [if_neg hvv] at ho
    cases ho
    refine rn_ ?_; intros
    refine xc_ hQ hmb ?_; simp only [SV.den, resV, dens]
    exact ⟨_, _, rfl, hL, hvl, hts⟩
  have hvv : vld v = true := by simpa using h1
  rw [if_pos hvv] at ho
  refine rn_ ?_; intros
  refine x_split rfl rfl rfl (fun h2 => ?_) (fun h2 => ?_) <;> (refine st_ ?_; (refine ru_ ?_; intros))
  · have h2 : s.st ≠ 2 := by simpa using h2
    rw [if_pos h2] at ho
    cases ho
    refine rn_ ?_; intros
    refine xc_ hQ hmb ?_; simp only [SV.den, resV, dens]
    exact ⟨_, _, rfl, hL, hvl, hts⟩
  have h2 : s.st = 2 := by simpa using h2
  rw [if_neg (by omega)] at ho
  obtain ⟨o1, ho2, heq⟩ := Option.map_eq_some_iff.1 ho
  cases heq
  have hvt := hval (by omega)
  have hk0 : s.val.k = vt0.k := by rw [hvt]
  have hn0 : s.val.n = vt0.n := by rw [hvt]
  have hvl' : vt0.rep G (.slice vA s.val.l.length vC) := by
    have := hvl
    rw [hvt] at this
    rw [hvt]
    exact this
  have hWS : WS p (s.l.drop 1) := by
    rcases hVF.1 with (h3 | ⟨x, r, nd, h3, h4, h5, h6⟩) | ⟨h3, _⟩
    · injection h3 with h3 _; omega
    · simp only [] at h3
      rw [h3]; exact h5
    · omega
  refine rn_ ?_; intros
  simp only [hk0, hn0]
  refine go_call (by rw [hnt]; rfl) (by rw [hP]; kernel_rfl) rfl (hP ▸ rdone_ok _ p s v _ o _ G hp ⟨_, _, rfl, hL, hvl', by simp [vt0, tsz, tszL]⟩ hvt hWS hlen hv hb hvv ho2) ?_
  rintro _ G7 (hle7 : Le G G7) ⟨lsl3, vl3, rfl, hL3, hv3, ht3⟩
  obtain ⟨a5', c5', rfl⟩ := Rp.S_slice hL3.1
  obtain ⟨a6', c6', rfl⟩ := VT.rep_slice hv3
  simp only [fibV]
  refine rn_ ?_; intros
  refine xc_ hQ hmb ?_; simp only [SV.den, resV, dens]
  exact ⟨_, _, rfl, hL3, hv3, ht3⟩
theorem rrun_ok (ps : Value) (p : Pr) (hpR : rgtP p = true) (s : Fb) (most : Int) (n : Nat) (o : Fb) (v0 : Value) (G : Hp) (hp : rF.S G p ps) (h0 : rfO G ps s.st s.val s.l v0) (hVF : VF p s) (hval : RVal s) (hm : most ≤ 1000000) (ho : runP p most.toNat s = some (n, o)) :
    Pure Tryz.prog 42 [v0, .int .i64 most] G (fun w G' => rfT G' ps o n w) := by
  obtain ⟨lsl, vl, rfl, hL, hvl, hts⟩ := h0
  obtain ⟨vA, vC, rfl⟩ := VT.rep_slice hvl
  obtain ⟨pA, pC, rfl⟩ := Rp.S_slice hp
  obtain ⟨aL, cL, rfl⟩ := Rp.S_slice hL.1
  refine enterX ty tyok Tryz.func42 rfl Tryz.ntmps42 [.a [.v (.slice pA p.length pC), .v (.slice aL s.l.reverse.length cL), .v (.int .i64 s.st), .v (.int .i64 s.val.k), .v (.int .i64 s.val.n), .v (.slice vA s.val.l.length vC)], .v (.int .i64 most)] (by simp) ?_
  intro C hP hQ hnt hty hmb hmh hro; have hQp := qp_body hQ; refine st_ ?_
  refine rn_ ?_; intros
  rename_i b1 b2
  refine go_keep [1, 2, 4, 5, 6] [0, 1] ?_
  refine st_ ?_
  refine x_loop (n := most.toNat) rfl (fun q s' => ∃ (i k : Nat) (s1 : Fb) (lsl vl : Value) (G1 : Hp), i + k = n ∧ q = most.toNat - i ∧ i ≤ most.toNat ∧ Le G G1 ∧ VF p s1 ∧ RVal s1 ∧ runP p (most.toNat - i) s1 = some (k, o) ∧ fmS G1 s1.l lsl ∧ s1.val.rep G1 vl ∧ tsz s1.val ≤ 1000 ∧
    s' = ⟨[(1, .v (.int .i64 most)), (2, .p 0 b1 0), (4, .p 1 b2 0), (5, .v (.int .i64 0)), (6, .v (.int .i64 i))], [(0, b1, .c 44 [.v (.slice pA p.length pC), .v lsl, .v (.int .i64 s1.st), .v (.int .i64 s1.val.k), .v (.int .i64 s1.val.n), .v vl]), (1, b2, .c 44 [.v (.slice none 0 0), .v (.slice none 0 0), .v (.int .i64 0), .v (.int .i64 0), .v (.int .i64 0), .v (.slice none 0 0)])], G1, []⟩) ⟨0, n, s, _, _, G, by omega, rfl, by omega, Le.refl _, hVF, hval, ho, hL, hvl, hts, rfl⟩ ?_
  clear hVF hval ho hL hvl hts
  rintro q s' ⟨i, k, s1, lsl, vl, G1, hik, hq, hi, hle1, hVF, hval, ho, hL, hvl, hts, rfl⟩ ih
  obtain ⟨vA, vC, rfl⟩ := VT.rep_slice hvl
  obtain ⟨aL, cL, rfl⟩ := Rp.S_slice hL.1
  have hp1 := Rp.S_mono hle1 hp
  refine rn_ ?_; intros
  refine go_gsplit rfl rfl (fun h1 => ?_) (fun h1 => ?_) <;> (refine st_ ?_; (refine rn_ ?_; intros))
  · have hlt : (i : Int) < most := by simpa using h1
    obtain ⟨j, hj⟩ : ∃ j, most.toNat - i = j + 1 := ⟨most.toNat - i - 1, by omega⟩
    rw [hj, runP] at ho
    refine x_split rfl rfl rfl (fun h2 => ?_) (fun h2 => ?_) <;> (refine st_ ?_; (refine ru_ ?_; intros))
    · have h2 : s1.st = 1 := by simpa using h2
      obtain ⟨e, s2, hst, hVF2⟩ := step_tot hpR hVF
      obtain ⟨hval2, he⟩ := step_val hval hst
      have he := he h2
      subst he
      rw [hst] at ho
      simp only [if_true] at ho
      obtain ⟨⟨k2, o2⟩, ho2, heq⟩ := Option.map_eq_some_iff.1 ho
      cases heq
      refine rn_ ?_; intros
      refine go_call (by rw [hnt]; rfl) (by rw [hP]; kernel_rfl) rfl (hP ▸ rstep_ok _ p hpR s1 0 s2 _ G1 hp1 ⟨_, _, rfl, hL, hvl, hts⟩ hVF hval hst) ?_
      rintro _ G2 (hle2 : Le G1 G2) ⟨lsl3, vl3, rfl, hL3, hv3, ht3⟩
      obtain ⟨a5', c5', rfl⟩ := Rp.S_slice hL3.1
      obtain ⟨a6', c6', rfl⟩ := VT.rep_slice hv3
      simp only [fibV]
      refine rn_ ?_; intros
      rw [wr (n := (i : Int) + 1) (by omega) (by omega)]
      refine go_keep [1, 2, 4, 5, 6] [0, 1] ?_
      refine st_ ?_
      exact ih (most.toNat - (i + 1)) _ (by omega) ⟨i + 1, k2, s2, _, _, G2, by omega, rfl, by omega, hle1.trans hle2, hVF2, hval2, by rw [show most.toNat - (i + 1) = j by omega]; exact ho2, hL3, hv3, ht3, rfl⟩
    · have h2 : s1.st ≠ 1 := by simpa using h2
      have hst : stepP p s1 = some (100, s1) := by
        unfold stepP
        rw [if_pos h2]
      rw [hst] at ho
      simp only [] at ho
      rw [if_neg (by decide)] at ho
      cases ho
      refine rn_ ?_; intros
      refine xc_ hQ hmb ?_; simp only [SV.den, resV, dens]
      rw [show n = i by omega]
      exact ⟨_, _, rfl, hL, hvl, hts⟩
  · have hge : ¬ (i : Int) < most := by simpa using h1
    have h0 : most.toNat - i = 0 := by omega
    rw [h0] at ho
    cases ho
    refine rn_ ?_; intros
    refine xc_ hQ hmb ?_; simp only [SV.den, resV, dens]
    rw [show n = i by omega]
    exact ⟨_, _, rfl, hL, hvl, hts⟩
end Go.Proofs.YtpppkednpamhbaaGreat.R
namespace Go.Proofs.YtpppkednpamhbaaGreat
set_option linter.unusedSimpArgs false
set_option linter.unusedVariables false
open Go.Sx
set_option maxRecDepth 100000
set_option maxHeartbeats 4000000
def iV (k : Int) : VT := .mk 2 k []
def givenP : Pr := [⟨0, [⟨4, 0, [1, 2]⟩, ⟨1, 5, []⟩, ⟨6, 0, [3, 4]⟩, ⟨3, 0, []⟩, ⟨1, 2, []⟩]⟩, ⟨1, [⟨5, 0, [1, 2, 3]⟩, ⟨3, 0, []⟩, ⟨13, 1, [4]⟩, ⟨15, 0, []⟩, ⟨7, 0, [5, 6]⟩, ⟨3, 0, []⟩, ⟨1, 1, []⟩]⟩]
def rS (k : Int) : Fb := ⟨1, vt0, [⟨1, 1, [iV k], []⟩, ⟨1, 0, [iV k], []⟩]⟩
theorem wrap_le {k : Int} (h0 : 0 ≤ k) (h1 : k ≤ 1000000) : IntKind.i64.wrap k = k := wr (by omega) (by omega)
theorem given_wh : (whP givenP).2.2 = 0 := by rfl
theorem given_bd : bdP givenP := by
  refine ⟨by decide, ?_⟩
  intro f hf
  simp only [givenP, List.mem_cons, List.not_mem_nil, or_false] at hf
  rcases hf with rfl | rfl
  all_goals
    refine ⟨by decide, ?_⟩
    intro x hx
    simp only [List.mem_cons, List.not_mem_nil, or_false] at hx
    rcases hx with rfl | rfl | rfl | rfl | rfl | rfl | rfl <;> decide
theorem given_d0 : downF givenP 600 [⟨0, 0, [], []⟩] = some (1, [⟨0, 1, [], []⟩, ⟨0, 0, [], []⟩]) := by rfl
theorem given_r0 : runP givenP 99 ⟨1, vt0, [⟨0, 1, [], []⟩, ⟨0, 0, [], []⟩]⟩ = some (4, ⟨3, iV 7, []⟩) := by rfl
theorem given_d1 : downF givenP 600 [⟨1, 0, [iV 1000], []⟩] = some (1, (rS 1000).l) := by rfl
theorem given_du : downF givenP 600 [⟨1, 0, [.mk 1 0 []], []⟩] = some (1, [⟨1, 1, [.mk 1 0 []], []⟩, ⟨1, 0, [.mk 1 0 []], []⟩]) := by rfl
theorem given_ru : runP givenP 9 ⟨1, vt0, [⟨1, 1, [.mk 1 0 []], []⟩, ⟨1, 0, [.mk 1 0 []], []⟩]⟩ = some (1, ⟨4, vt0, []⟩) := by rfl
def chS : Fb := ⟨2, vt0, [⟨1, 3, [iV 0], []⟩]⟩
theorem given_p : prodF givenP chS (.mk 4 3 []) = some ⟨3, .mk 4 3 [], []⟩ := by rfl
theorem given_z (q : Nat) : runP givenP (q + 2) (rS 0) = some (1, chS) := by rfl
theorem given_5 (j q : Nat) : runP givenP (q + 5) (rS ((j + 1 : Nat) : Int)) = (((((runP givenP q (rS (IntKind.i64.wrap (((j + 1 : Nat) : Int) - 1)))).map fun o => (o.1 + 1, o.2)).map fun o => (o.1 + 1, o.2)).map fun o => (o.1 + 1, o.2)).map fun o => (o.1 + 1, o.2)).map fun o => (o.1 + 1, o.2) := by rfl
theorem given_j : ∀ (j q : Nat), j ≤ 1000 → runP givenP (q + 2 + 5 * j) (rS (j : Int)) = some (5 * j + 1, chS)
  | 0, q, _ => given_z q
  | j + 1, q, h => by
    have ih := given_j j q (by omega)
    rw [show q + 2 + 5 * (j + 1) = (q + 2 + 5 * j) + 5 by omega, given_5, show (((j + 1 : Nat) : Int) - 1) = (j : Int) by omega, wrap_le (by omega) (by omega), ih]
    simp only [Option.map_some, Option.some.injEq, Prod.mk.injEq, and_true]
    omega
theorem given_r1 : runP givenP 9999 (rS 1000) = some (5001, chS) := given_j 1000 4997 (by omega)
end Go.Proofs.YtpppkednpamhbaaGreat
namespace Go.Proofs.YtpppkednpamhbaaGreat
set_option linter.unusedSimpArgs false
set_option linter.unusedVariables false
open Go.Sx
set_option maxHeartbeats 16000000
set_option maxRecDepth 20000
theorem rI_Lm {G : Hp} : ∀ {l : List Int}, (∀ n ∈ l, isI64 n) → rI.L G l (l.map (.int .i64 ·))
  | [], _ => rfl
  | x :: l, h => ⟨[.int .i64 x], _, rfl, ⟨rfl, h x (by simp)⟩, rI_Lm fun n hn => h n (by simp [hn])⟩
theorem rI_mk {G : Hp} {b cap : Nat} {l : List Int} {cs : List Value} (h : At G b 0 cs) (hcs : cs = l.map (.int .i64 ·)) (hl : ∀ n ∈ l, isI64 n) (hn : l.length ≤ 1000) : rI.S G l (.slice (some ⟨b, 0, none⟩) l.length cap) := by
  subst hcs
  exact ⟨by omega, _, _, rfl, .inr ⟨b, 0, _, rfl, h, rI_Lm hl⟩⟩
theorem rN_c {G : Hp} {op n : Int} {l : List Int} {sl : Value} {ns : List Nd} {cs : List Value} (h1 : isI64 op) (h2 : isI64 n) (h3 : rI.S G l sl) (h : rN.L G ns cs) : rN.L G (⟨op, n, l⟩ :: ns) (.int .i64 op :: .int .i64 n :: sl :: cs) :=
  ⟨[.int .i64 op, .int .i64 n, sl], cs, rfl, ⟨sl, rfl, h1, h2, h3⟩, h⟩
theorem rN_mk {G : Hp} {b cap : Nat} {l : List Nd} {cs : List Value} (h : At G b 0 cs) (hl : rN.L G l cs) (hn : l.length ≤ 1000) : rN.S G l (.slice (some ⟨b, 0, none⟩) l.length cap) := ⟨by omega, _, _, rfl, .inr ⟨b, 0, _, rfl, h, hl⟩⟩
theorem rF_mk {G : Hp} {b cap : Nat} {l : List Fu} {cs : List Value} (h : At G b 0 cs) (hl : rF.L G l cs) (hn : l.length ≤ 1000) : rF.S G l (.slice (some ⟨b, 0, none⟩) l.length cap) := ⟨by omega, _, _, rfl, .inr ⟨b, 0, _, rfl, h, hl⟩⟩
theorem numL_ok (e : Int) (G : Hp) : Pure Tryz.prog 11 [.int .i64 e] G (fun v _ => v = .int .i64 e) := by
  refine enterX ty tyok Tryz.func11 rfl Tryz.ntmps11 [.v (.int .i64 e)] (by simp) ?_
  intro C hP hQ hnt hty hmb hmh hro; have hQp := qp_body hQ; refine st_ ?_
  refine rn_ ?_; intros
  refine x_ret rfl hQ hmb (by rw [hty]; rfl) rfl ?_; simp only [SV.den, resV]
theorem numb_ok (n : Int) (G : Hp) : Pure Tryz.prog 25 [.int .i64 n] G (fun v _ => v = .agg #[.int .i64 2, .int .i64 n, .slice none 0 0]) := by
  refine enterX ty tyok Tryz.func25 rfl Tryz.ntmps25 [.v (.int .i64 n)] (by simp) ?_
  intro C hP hQ hnt hty hmb hmh hro; have hQp := qp_body hQ; refine st_ ?_
  refine rn_ ?_; intros
  refine xc_ hQ hmb ?_; simp only [SV.den, resV, dens]
theorem given_ok (G : Hp) : Pure Tryz.prog 21 [] G (fun v G' => ∃ ps, v = .agg #[ps] ∧ rF.S G' givenP ps) := by
  refine enterX ty tyok Tryz.func21 rfl Tryz.ntmps21 [] (by simp) ?_
  intro C hP hQ hnt hty hmb hmh hro; have hQp := qp_body hQ; refine st_ ?_
  refine rn_ ?_; intros
  rename_i b0 b1 b2 b3 b4 b5 b6 b7 b8
  refine go_pub 1 rfl (by omega) ?_
  intro G1 (hle1 : Le G G1) hG1
  refine go_pub 2 rfl (by omega) ?_
  intro G2 (hle2 : Le G1 G2) hG2
  refine go_pub 3 rfl (by omega) ?_
  intro G3 (hle3 : Le G2 G3) hG3
  refine go_pub 4 rfl (by omega) ?_
  intro G4 (hle4 : Le G3 G4) hG4
  refine go_pub 5 rfl (by omega) ?_
  intro G5 (hle5 : Le G4 G5) hG5
  refine go_pub 6 rfl (by omega) ?_
  intro G6 (hle6 : Le G5 G6) hG6
  refine go_pub 7 rfl (by omega) ?_
  intro G7 (hle7 : Le G6 G7) hG7
  refine go_pub 8 rfl (by omega) ?_
  intro G8 (hle8 : Le G7 G8) hG8
  refine st_ ?_
  refine rn_ ?_; intros
  refine xc_ hQ hmb ?_; simp only [SV.den, resV, dens]
  have q1 := (at_cells hG1).mono (((((((hle2).trans hle3).trans hle4).trans hle5).trans hle6).trans hle7).trans hle8)
  have q2 := (at_cells hG2).mono ((((((hle3).trans hle4).trans hle5).trans hle6).trans hle7).trans hle8)
  have q3 := (at_cells hG3).mono (((((hle4).trans hle5).trans hle6).trans hle7).trans hle8)
  have q4 := (at_cells hG4).mono ((((hle5).trans hle6).trans hle7).trans hle8)
  have q5 := (at_cells hG5).mono (((hle6).trans hle7).trans hle8)
  have q6 := (at_cells hG6).mono ((hle7).trans hle8)
  have q7 := (at_cells hG7).mono (hle8)
  have q8 := at_cells hG8
  refine ⟨_, rfl, rF_mk (l := givenP) q8 (rF_cons (by simp [isI64]) (rN_mk q3 (rN_c (by simp [isI64]) (by simp [isI64]) (rI_mk q1 rfl (by simp [isI64]) (by simp)) (rN_c (by simp [isI64]) (by simp [isI64]) (Rp.S_nil _ _) (rN_c (by simp [isI64]) (by simp [isI64]) (rI_mk q2 rfl (by simp [isI64]) (by simp)) (rN_c (by simp [isI64]) (by simp [isI64]) (Rp.S_nil _ _) (rN_c (by simp [isI64]) (by simp [isI64]) (Rp.S_nil _ _) rfl))))) (by simp)) (rF_cons (by simp [isI64]) (rN_mk q7 (rN_c (by simp [isI64]) (by simp [isI64]) (rI_mk q4 rfl (by simp [isI64]) (by simp)) (rN_c (by simp [isI64]) (by simp [isI64]) (Rp.S_nil _ _) (rN_c (by simp [isI64]) (by simp [isI64]) (rI_mk q5 rfl (by simp [isI64]) (by simp)) (rN_c (by simp [isI64]) (by simp [isI64]) (Rp.S_nil _ _) (rN_c (by simp [isI64]) (by simp [isI64]) (rI_mk q6 rfl (by simp [isI64]) (by simp)) (rN_c (by simp [isI64]) (by simp [isI64]) (Rp.S_nil _ _) (rN_c (by simp [isI64]) (by simp [isI64]) (Rp.S_nil _ _) rfl))))))) (by simp)) rfl)) (by decide)⟩
end Go.Proofs.YtpppkednpamhbaaGreat
namespace Go.Proofs.YtpppkednpamhbaaGreat
set_option linter.unusedSimpArgs false
set_option linter.unusedVariables false
open Go.Sx
set_option maxHeartbeats 40000000
set_option maxRecDepth 20000
theorem rW_one {G : Hp} {b c : Nat} {k n : Int} (h : At G b 0 [.int .i64 k, .int .i64 n, .slice none 0 0]) (hk : isI64 k) (hn : isI64 n) : rW.S G [.mk k n []] (.slice (some ⟨b, 0, none⟩) 1 c) :=
  ⟨by simp, _, _, rfl, .inr ⟨b, 0, _, rfl, h, [_, _, _], [], rfl, ⟨_, rfl, ⟨hk, hn, by simp, none, 0, rfl, .inl rfl⟩, by simp [tsz, tszL]⟩, rfl⟩⟩
theorem rep0 {G : Hp} {k n : Int} (hk : isI64 k) (hn : isI64 n) : (VT.mk k n []).rep G (.slice none 0 0) := ⟨hk, hn, by simp, none, 0, rfl, .inl rfl⟩
theorem wB {C : Ctx} (hP : C.P = Tryz.prog) (hQ : C.Q = bodyPost C.P Tryz.f8 (Ret [] C.w0 C.G0 (fun v _ => v = .bool true))) (hnt : C.nt = 201) (hty : C.ty = ty) (hmb : C.mb = []) (hmh : C.mh = 0) (hro : C.ro = none)
    (cb bb c1 c2 c3 : Nat) (vlb fsb ps : Value) (rsd : List Fw) (Zb : Nat → Prop) (G : Hp) (hc : At G cb 0 [ps]) (hp : rF.S G givenP ps) (v1 : vt0.rep G vlb) (v2 : tsz vt0 ≤ 1000) (v3 : fsOk G chS.l rsd) (v4 : chS.l.length ≤ 256) (v5 : ∀ m x, chS.l.head? = some m → rsd.head? = some x → rW.S G m.done x.done.v) :
    SGo C [.code (Go.Sx.c2 (Go.Sx.c1 (Go.Sx.c2 (Go.Sx.c2 (Go.Sx.c2 (Go.Sx.c2 (Go.Sx.c2 (Go.Sx.c2 (Go.Sx.c2 (Go.Sx.c2 (Go.Sx.c2 (Tryz.f8.body.getD .skip)))))))))))), .code (Go.Sx.c2 (Go.Sx.c2 (Go.Sx.c2 (Go.Sx.c2 (Go.Sx.c2 (Go.Sx.c2 (Go.Sx.c2 (Go.Sx.c2 (Go.Sx.c2 (Go.Sx.c2 (Tryz.f8.body.getD .skip)))))))))))] ⟨[(0, .b false), (1, .v (.pointer (some ⟨cb, 0, none⟩))), (10, .v (.pointer (some ⟨bb, 0, none⟩))), (127, .b false)],
      [(30, bb, .c 93 [.v (.pointer (some ⟨cb, 0, none⟩)), .v (.int .i64 2), .v (.int .i64 vt0.k), .v (.int .i64 vt0.n), .v vlb, .v fsb]), (31, c1, .row fsb 90 4 rsd.length (encF rsd)), (32, c2, .z (ZR ((rsd.drop 1).map (·.done))) Zb Zb), (33, c3, .row rw0.v rw0.e rw0.size rw0.n rw0.xs)], G, []⟩ := by
  have hQp := qp_body hQ
  refine rn_ ?_; intros
  refine go_callT [30, 31, 32, 33] (by rw [hnt]; rfl) (by rw [hP]; kernel_rfl) rfl rfl rfl (by rw [hmh]; simp) (by rw [hP]; exact resume_ok bb cb givenP ps chS ⟨3, .mk 4 3 [], []⟩ (.mk 4 3 []) (.slice none 0 0) _ G hc hp ⟨vlb, fsb, c1, c2, c3, rsd, Zb, v1, v2, v3, v4, v5, rfl⟩ (rep0 (by simp [isI64]) (by simp [isI64])) rfl (by simp [tsz, tszL]) rfl given_p) ?_
  clear v1 v2 v3 v4 v5
  rintro _ G1 ow1 (hle1 : Le G G1) ⟨rfl, vlb, fsb, c1, c2, c3, rse, Zb, v1, v2, v3, v4, v5, rfl⟩
  simp only [setO, fhO, frO, fzO, fdO]
  refine st_ ?_
  refine rn_ ?_; intros
  refine go_callW [30] (by rw [hnt]; rfl) (by rw [hP]; kernel_rfl) rfl rfl rfl (.inl (by rw [hmh]; simp)) (by rw [hP]; exact value_ok bb cb 3 (.mk 4 3 []) vlb fsb G1 v1 v2 rfl) ?_
  rintro _ G2 ow2 (hle2 : Le G1 G2) ⟨rfl, ⟨q, _⟩ | ⟨_, slx, rfl, hrx⟩⟩
  · exact absurd rfl q
  obtain ⟨y1, y2, rfl⟩ := VT.rep_slice hrx
  simp only [setO, fhO, frO, fzO, fdO]
  refine st_ ?_
  refine rn_ ?_; intros
  rename_i b34 b35 b36
  refine go_pub 36 rfl (by omega) ?_
  intro G3 (hle3 : Le G2 G3) hG3
  refine go_nilrow 40 42 3 rfl (by omega) ?_
  refine go_nilrow 41 42 3 rfl (by omega) ?_
  refine go_nilrow 42 42 3 rfl (by omega) ?_
  refine go_nilrow 43 42 3 rfl (by omega) ?_
  refine st_ ?_
  have hle13 := (hle1.trans hle2).trans hle3
  have hc3 := hc.mono hle13
  have hp3 := Rp.S_mono hle13 hp
  refine go_callT [40, 41, 42, 43] (by rw [hnt]; rfl) (by rw [hP]; kernel_rfl) rfl rfl rfl (by rw [hmh]; simp) (by rw [hP]; exact begin_ok givenP ps cb 1 [.mk 1 0 []] (.slice (some ⟨b36, 0, none⟩) 1 1) _ G3 hc3 hp3 (by omega) (by decide) (by decide) rfl (by simp) (rW_one (at_cells hG3) (by simp [isI64]) (by simp [isI64])) (by simp; rfl) given_du) ?_
  rintro _ G4 ow4 (hle4 : Le G3 G4) ⟨bd, rfl, vld', fsd, d1, d2, d3, rsf, Zd, w1, w2, w3, w4, w5, rfl⟩
  simp only [setO, fhO, frO, fzO, fdO]
  refine st_ ?_
  refine rn_ ?_; intros
  have hc4 := hc3.mono hle4
  have hp4 := Rp.S_mono hle4 hp3
  refine go_keep [0, 1, 10, 16, 17, 18, 19, 20, 21, 145] [30, 31, 32, 33, 34, 35, 40, 41, 42, 43] ?_
  refine st_ ?_
  refine go_callT [40, 41, 42, 43] (by rw [hnt]; rfl) (by rw [hP]; kernel_rfl) rfl rfl rfl (by rw [hmh]; simp) (by rw [hP]; exact run_ok bd cb givenP ps ⟨1, vt0, [⟨1, 1, [.mk 1 0 []], []⟩, ⟨1, 0, [.mk 1 0 []], []⟩]⟩ ⟨4, vt0, []⟩ 9 1 _ G4 (by omega) (by omega) hc4 hp4 ⟨vld', fsd, d1, d2, d3, rsf, Zd, w1, w2, w3, w4, w5, rfl⟩ given_ru) ?_
  clear w1 w2 w3 w4 w5
  rintro _ G5 ow5 (hle5 : Le G4 G5) ⟨rfl, vld', fsd, d1, d2, d3, rsg, Zd, w1, w2, w3, w4, w5, rfl⟩
  simp only [setO, fhO, frO, fzO, fdO]
  refine st_ ?_
  refine rn_ ?_; intros
  have hc5 := hc4.mono hle5
  have hp5 := Rp.S_mono hle5 hp4
  refine go_keep [0, 1, 10, 16, 17, 18, 19, 20, 21, 22, 23, 150] [30, 31, 32, 33, 34, 35, 40, 41, 42, 43] ?_
  refine st_ ?_
  have hle15 := hle4.trans hle5
  have hsame : Pure Tryz.prog 28 [.agg #[.int .i64 (VT.mk 4 3 []).k, .int .i64 (VT.mk 4 3 []).n, .slice y1 (VT.mk 4 3 []).l.length y2], .agg #[.int .i64 4, .int .i64 3, .slice none 0 0]] G5 (fun r _ => r = .bool true) :=
    (refSame_ok (.mk 4 3 []) (.mk 4 3 []) _ _ G5 (VT.rep_mono (hle3.trans hle15) hrx) (rep0 (by simp [isI64]) (by simp [isI64])) (by decide +kernel) (by decide +kernel)).val (by rfl)
  have hcE := begin_err givenP ps cb 2 none 0 0 4 G5 hc5 hp5 (by decide) (.inl ⟨.inr (by decide), rfl⟩)
  have hcF := begin_err givenP ps cb 1 none 0 0 2 G5 hc5 hp5 (by decide) (.inr ⟨by decide, by decide, by decide, rfl⟩)
  refine go_callf (by rw [hnt]; rfl) (by rw [hP]; kernel_rfl) rfl (hP ▸ hcE) ?_; refine rn_ ?_; intros
  refine go_callf (by rw [hnt]; rfl) (by rw [hP]; kernel_rfl) rfl (hP ▸ hcF) ?_; refine rn_ ?_; intros
  refine go_callf (by rw [hnt]; rfl) (by rw [hP]; kernel_rfl) rfl (hP ▸ numL_ok 0 _) ?_; refine rn_ ?_; intros
  refine go_callf (by rw [hnt]; rfl) (by rw [hP]; kernel_rfl) rfl (hP ▸ numL_ok 0 _) ?_; refine rn_ ?_; intros
  refine go_callf (by rw [hnt]; rfl) (by rw [hP]; kernel_rfl) rfl (hP ▸ numL_ok 0 _) ?_; refine rn_ ?_; intros
  (refine go_gsplit rfl rfl (fun _ => ?_) (fun hc => absurd hc (by first | decide +kernel | (simp; first | done | fail))); refine st_ ?_; (refine rn_ ?_; intros))
  (refine go_gsplit rfl rfl (fun _ => ?_) (fun hc => absurd hc (by first | decide +kernel | (simp; first | done | fail))); refine st_ ?_; (refine rn_ ?_; intros))
  refine go_callf (by rw [hnt]; rfl) (by rw [hP]; kernel_rfl) rfl (hP ▸ hsame) ?_; refine rn_ ?_; intros
  (refine go_gsplit rfl rfl (fun _ => ?_) (fun hc => absurd hc (by first | decide +kernel | (simp; first | done | fail))); refine st_ ?_; (refine rn_ ?_; intros))
  have hst : stepP givenP ⟨3, .mk 4 3 [], []⟩ = some (100, ⟨3, .mk 4 3 [], []⟩) := rfl
  have hle05 := (hle2.trans hle3).trans hle15
  refine go_callT [30, 31, 32, 33] (by rw [hnt]; rfl) (by rw [hP]; kernel_rfl) rfl rfl rfl (by rw [hmh]; simp) (by rw [hP]; exact step_ok bb cb givenP ps ⟨3, .mk 4 3 [], []⟩ ⟨3, .mk 4 3 [], []⟩ 100 _ G5 hc5 hp5 ⟨vlb, fsb, c1, c2, c3, rse, Zb, VT.rep_mono hle05 v1, v2, v3.mono hle05, v4, fun m x q q' => Rp.S_mono hle05 (v5 m x q q'), rfl⟩ hst) ?_
  rintro _ G6 ow6 (hle6 : Le G5 G6) ⟨rfl, vlc, fsc, e1, e2, e3, rsh, Ze, x1, x2, x3, x4, x5, rfl⟩
  simp only [setO, fhO, frO, fzO, fdO]
  refine st_ ?_
  refine rn_ ?_; intros
  refine go_callf (by rw [hnt]; rfl) (by rw [hP]; kernel_rfl) rfl (hP ▸ numL_ok 100 _) ?_; refine rn_ ?_; intros
  (refine go_gsplit rfl rfl (fun _ => ?_) (fun hc => absurd hc (by first | decide +kernel | (simp; first | done | fail))); refine st_ ?_; (refine rn_ ?_; intros))
  (refine go_gsplit rfl rfl (fun _ => ?_) (fun hc => absurd hc (by first | decide +kernel | (simp; first | done | fail))); refine st_ ?_; (refine rn_ ?_; intros))
  refine go_callW [40] (by rw [hnt]; rfl) (by rw [hP]; kernel_rfl) rfl rfl rfl (.inl (by rw [hmh]; simp)) (by rw [hP]; exact state_ok bd cb 4 vt0.k vt0.n vld' fsd G6) ?_
  rintro _ G7 ow7 (hle7 : Le G6 G7) ⟨rfl, rfl⟩
  simp only [setO, fhO, frO, fzO, fdO]
  refine st_ ?_
  refine rn_ ?_; intros
  (refine go_gsplit rfl rfl (fun _ => ?_) (fun hc => absurd hc (by first | decide +kernel | (simp; first | done | fail))); refine st_ ?_; (refine rn_ ?_; intros))
  refine go_callf (by rw [hnt]; rfl) (by rw [hP]; kernel_rfl) rfl (hP ▸ numL_ok 4 _) ?_; refine rn_ ?_; intros
  (refine go_gsplit rfl rfl (fun _ => ?_) (fun hc => absurd hc (by first | decide +kernel | (simp; first | done | fail))); refine st_ ?_; (refine rn_ ?_; intros))
  refine go_callf (by rw [hnt]; rfl) (by rw [hP]; kernel_rfl) rfl (hP ▸ numL_ok 2 _) ?_; refine rn_ ?_; intros
  refine xc_ hQ hmb ?_; simp only [SV.den, resV, dens]
end Go.Proofs.YtpppkednpamhbaaGreat
namespace Go.Proofs.YtpppkednpamhbaaGreat
set_option linter.unusedSimpArgs false
set_option linter.unusedVariables false
open Go.Sx
set_option maxHeartbeats 40000000
set_option maxRecDepth 20000
theorem works10_ok (G : Hp) : Pure Tryz.prog 8 [] G (fun v _ => v = .bool true) := by
  refine enterX ty tyok Tryz.func8 rfl Tryz.ntmps8 [] (by simp) ?_
  intro C hP hQ hnt hty hmb hmh hro; have hQp := qp_body hQ; refine st_ ?_
  refine rn_ ?_; intros
  refine go_call (by rw [hnt]; rfl) (by rw [hP]; kernel_rfl) rfl (hP ▸ given_ok G) ?_
  rintro _ G1 (hle1 : Le G G1) ⟨ps0, rfl, hps0⟩
  obtain ⟨ap0, cp0, rfl⟩ := Rp.S_slice hps0
  refine rn_ ?_; intros
  refine go_call (by rw [hnt]; rfl) (by rw [hP]; kernel_rfl) rfl (hP ▸ load_ok givenP _ G1 hps0 given_bd given_wh) ?_
  rintro _ G2 (hle2 : Le G1 G2) ⟨cb, ps, rfl, hc, hp⟩
  refine rn_ ?_; intros
  refine go_nilrow 20 42 3 rfl (by omega) ?_
  refine go_nilrow 21 42 3 rfl (by omega) ?_
  refine go_nilrow 22 42 3 rfl (by omega) ?_
  refine go_nilrow 23 42 3 rfl (by omega) ?_
  refine st_ ?_
  refine go_callT [20, 21, 22, 23] (by rw [hnt]; rfl) (by rw [hP]; kernel_rfl) rfl rfl rfl (by rw [hmh]; simp) (by rw [hP]; exact begin_ok givenP ps cb 0 [] _ _ G2 hc hp (by omega) (by decide) (by decide) rfl (by simp) (Rp.S_nil _ _) (by simp) given_d0) ?_
  rintro _ G3 ow3 (hle3 : Le G2 G3) ⟨ba, rfl, vla, fsa, a1, a2, a3, rsa, Za, u1, u2, u3, u4, u5, rfl⟩
  simp only [setO, fhO, frO, fzO, fdO]
  refine st_ ?_
  refine rn_ ?_; intros
  refine go_rowC 21 rfl ?_
  rintro qa1 qa2 rfl hqa
  have hra : rsa.length = 2 := u3.len
  refine go_callW [20] (by rw [hnt]; rfl) (by rw [hP]; kernel_rfl) rfl rfl rfl (.inl (by rw [hmh]; simp)) (by rw [hP]; exact frames_ok ba cb 1 vt0.k vt0.n vla qa1 rsa.length qa2 G3) ?_
  rintro _ G4 ow4 (hle4 : Le G3 G4) ⟨rfl, rfl⟩
  simp only [setO, fhO, frO, fzO, fdO]
  refine st_ ?_
  refine rn_ ?_; intros
  have hc4 := hc.mono (hle3.trans hle4)
  have hp4 := Rp.S_mono (hle3.trans hle4) hp
  refine go_callT [20, 21, 22, 23] (by rw [hnt]; rfl) (by rw [hP]; kernel_rfl) rfl rfl rfl (by rw [hmh]; simp) (by rw [hP]; exact run_ok ba cb givenP ps ⟨1, vt0, [⟨0, 1, [], []⟩, ⟨0, 0, [], []⟩]⟩ ⟨3, iV 7, []⟩ 99 4 _ G4 (by omega) (by omega) hc4 hp4 ⟨vla, _, a1, a2, a3, rsa, Za, VT.rep_mono hle4 u1, u2, u3.mono hle4, u4, fun m x q q' => Rp.S_mono hle4 (u5 m x q q'), rfl⟩ given_r0) ?_
  clear u1 u2 u3 u4 u5 hqa
  rintro _ G5 ow5 (hle5 : Le G4 G5) ⟨rfl, vla, fsa, a1, a2, a3, rsb, Za, u1, u2, u3, u4, u5, rfl⟩
  simp only [setO, fhO, frO, fzO, fdO]
  refine st_ ?_
  refine rn_ ?_; intros
  refine go_callW [20] (by rw [hnt]; rfl) (by rw [hP]; kernel_rfl) rfl rfl rfl (.inl (by rw [hmh]; simp)) (by rw [hP]; exact value_ok ba cb 3 (iV 7) vla fsa G5 u1 u2 rfl) ?_
  rintro _ G6 ow6 (hle6 : Le G5 G6) ⟨rfl, ⟨q, _⟩ | ⟨_, sl7, rfl, hr7⟩⟩
  · exact absurd rfl q
  obtain ⟨y1, y2, rfl⟩ := VT.rep_slice hr7
  simp only [setO, fhO, frO, fzO, fdO]
  refine st_ ?_
  refine rn_ ?_; intros
  refine go_callf (by rw [hnt]; rfl) (by rw [hP]; kernel_rfl) rfl (hP ▸ numb_ok 1000 _) ?_; refine rn_ ?_; intros
  refine go_keep [0, 1, 2, 3, 4, 5, 6, 7, 8, 9, 51, 52, 53] [20, 21, 22, 23, 24, 25] ?_
  refine st_ ?_
  rename_i b24 b25
  refine go_pub 25 rfl (by omega) ?_
  intro G7 (hle7 : Le G6 G7) hG7
  refine go_nilrow 30 42 3 rfl (by omega) ?_
  refine go_nilrow 31 42 3 rfl (by omega) ?_
  refine go_nilrow 32 42 3 rfl (by omega) ?_
  refine go_nilrow 33 42 3 rfl (by omega) ?_
  refine st_ ?_
  have hle47 := (hle5.trans hle6).trans hle7
  have hc7 := hc4.mono hle47
  have hp7 := Rp.S_mono hle47 hp4
  refine go_callT [30, 31, 32, 33] (by rw [hnt]; rfl) (by rw [hP]; kernel_rfl) rfl rfl rfl (by rw [hmh]; simp) (by rw [hP]; exact begin_ok givenP ps cb 1 [iV 1000] (.slice (some ⟨b25, 0, none⟩) 1 1) _ G7 hc7 hp7 (by omega) (by decide) (by decide) rfl (by simp) (rW_one (at_cells hG7) (by simp [isI64]) (by simp [isI64])) (by simp; rfl) given_d1) ?_
  rintro _ G8 ow8 (hle8 : Le G7 G8) ⟨bb, rfl, vlb, fsb, c1, c2, c3, rsc, Zb, v1, v2, v3, v4, v5, rfl⟩
  simp only [setO, fhO, frO, fzO, fdO]
  refine st_ ?_
  refine rn_ ?_; intros
  refine go_keep [0, 1, 2, 3, 4, 5, 6, 7, 8, 9, 10, 11, 58] [20, 21, 22, 23, 24, 30, 31, 32, 33] ?_
  refine st_ ?_
  refine go_callT [30, 31, 32, 33] (by rw [hnt]; rfl) (by rw [hP]; kernel_rfl) rfl rfl rfl (by rw [hmh]; simp) (by rw [hP]; exact run_ok bb cb givenP ps (rS 1000) chS 9999 5001 _ G8 (by omega) (by omega) (hc7.mono hle8) (Rp.S_mono hle8 hp7) ⟨vlb, _, c1, c2, c3, rsc, Zb, v1, v2, v3, v4, v5, rfl⟩ given_r1) ?_
  clear v1 v2 v3 v4 v5
  rintro _ G9 ow9 (hle9 : Le G8 G9) ⟨rfl, vlb, fsb, c1, c2, c3, rsd, Zb, v1, v2, v3, v4, v5, rfl⟩
  simp only [setO, fhO, frO, fzO, fdO]
  refine st_ ?_
  refine rn_ ?_; intros
  have hc9 := hc7.mono (hle8.trans hle9)
  have hp9 := Rp.S_mono (hle8.trans hle9) hp7
  refine go_callW [30, 31] (by rw [hnt]; rfl) (by rw [hP]; kernel_rfl) rfl rfl rfl (.inl (by rw [hmh]; simp)) (by rw [hP]; exact want_ok bb cb c1 vt0.k vt0.n vlb fsb ps givenP ⟨1, 3, [iV 0], []⟩ [] rsd ⟨15, 0, []⟩ G9 hc9 hp9 v3 rfl (by simp) rfl) ?_
  rintro _ G10 ow10 (hle10 : Le G9 G10) ⟨rfl, rfl⟩
  simp only [setO, fhO, frO, fzO, fdO]
  refine st_ ?_
  refine rn_ ?_; intros
  refine go_rowC 31 rfl ?_
  rintro qa1 qb2 rfl hqb
  have hrd : rsd.length = 1 := v3.len
  simp only [hra, hrd]
  refine go_keep [0, 1, 2, 3, 4, 5, 6, 7, 8, 9, 10, 11, 12, 13, 14, 15] [20, 21, 22, 23, 24, 30, 31, 32, 33, 34] ?_
  refine st_ ?_
  have hsame : Pure Tryz.prog 28 [.agg #[.int .i64 (iV 7).k, .int .i64 (iV 7).n, .slice y1 (iV 7).l.length y2], .agg #[.int .i64 2, .int .i64 7, .slice none 0 0]] G10 (fun r _ => r = .bool true) :=
    (refSame_ok (iV 7) (iV 7) _ _ G10 (VT.rep_mono (((hle7.trans hle8).trans hle9).trans hle10) hr7) ⟨by simp [isI64], by simp [isI64], by simp, none, 0, rfl, .inl rfl⟩ (by decide +kernel) (by decide +kernel)).val (by rfl)
  refine x_draw rfl (by rw [hP]; kernel_rfl) rfl (by kernel_rfl) ?_
  refine runq 400 hty hnt ?_; refine st_ ?_
  refine q_callf (by rw [hnt]; rfl) (by rw [hP]; kernel_rfl) rfl (hP ▸ numL_ok 0 _) ?_; refine runq 400 hty hnt ?_; refine st_ ?_
  refine q_callf (by rw [hnt]; rfl) (by rw [hP]; kernel_rfl) rfl (hP ▸ numL_ok 0 _) ?_; refine runq 400 hty hnt ?_; refine st_ ?_
  refine q_callf (by rw [hnt]; rfl) (by rw [hP]; kernel_rfl) rfl (hP ▸ numL_ok 0 _) ?_; refine runq 400 hty hnt ?_; refine st_ ?_
  refine q_callf (by rw [hnt]; rfl) (by rw [hP]; kernel_rfl) rfl (hP ▸ numL_ok 0 _) ?_; refine runq 400 hty hnt ?_; refine st_ ?_
  refine q_callf (by rw [hnt]; rfl) (by rw [hP]; kernel_rfl) rfl (hP ▸ numL_ok 0 _) ?_; refine runq 400 hty hnt ?_; refine st_ ?_
  (refine go_qsplit rfl rfl (fun hc => absurd hc (by decide +kernel)) (fun _ => ?_); refine st_ ?_; (try (refine runq 400 hty hnt ?_; refine st_ ?_)))
  (refine go_qsplit rfl rfl (fun hc => absurd hc (by decide +kernel)) (fun _ => ?_); refine st_ ?_; (try (refine runq 400 hty hnt ?_; refine st_ ?_)))
  (refine go_qsplit rfl rfl (fun hc => absurd hc (by decide +kernel)) (fun _ => ?_); refine st_ ?_; (try (refine runq 400 hty hnt ?_; refine st_ ?_)))
  refine q_callW [20] (by rw [hnt]; rfl) (by rw [hP]; kernel_rfl) rfl rfl rfl (by rw [hP]; exact state_ok ba cb 3 (iV 7).k (iV 7).n vla fsa G10) ?_
  refine runq 400 hty hnt ?_; refine st_ ?_
  (refine go_qsplit rfl rfl (fun hc => absurd hc (by decide +kernel)) (fun _ => ?_); refine st_ ?_; (try (refine runq 400 hty hnt ?_; refine st_ ?_)))
  (refine go_qsplit rfl rfl (fun hc => absurd hc (by decide +kernel)) (fun _ => ?_); refine st_ ?_; (try (refine runq 400 hty hnt ?_; refine st_ ?_)))
  refine q_callf (by rw [hnt]; rfl) (by rw [hP]; kernel_rfl) rfl (hP ▸ numb_ok 7 _) ?_; refine runq 400 hty hnt ?_; refine st_ ?_
  refine q_callf (by rw [hnt]; rfl) (by rw [hP]; kernel_rfl) rfl (hP ▸ hsame) ?_; refine runq 400 hty hnt ?_; refine st_ ?_
  (refine go_qsplit rfl rfl (fun hc => absurd hc (by decide +kernel)) (fun _ => ?_); refine st_ ?_; (try (refine runq 400 hty hnt ?_; refine st_ ?_)))
  (refine go_qsplit rfl rfl (fun hc => absurd hc (by decide +kernel)) (fun _ => ?_); refine st_ ?_; (try (refine runq 400 hty hnt ?_; refine st_ ?_)))
  refine q_callW [30] (by rw [hnt]; rfl) (by rw [hP]; kernel_rfl) rfl rfl rfl (by rw [hP]; exact state_ok bb cb 2 vt0.k vt0.n vlb _ G10) ?_
  refine runq 400 hty hnt ?_; refine st_ ?_
  (refine go_qsplit rfl rfl (fun hc => absurd hc (by decide +kernel)) (fun _ => ?_); refine st_ ?_; (try (refine runq 400 hty hnt ?_; refine st_ ?_)))
  (refine go_qsplit rfl rfl (fun hc => absurd hc (by decide +kernel)) (fun _ => ?_); refine st_ ?_; (try (refine runq 400 hty hnt ?_; refine st_ ?_)))
  (refine go_qsplit rfl rfl (fun hc => absurd hc (by decide +kernel)) (fun _ => ?_); refine st_ ?_; (try (refine runq 400 hty hnt ?_; refine st_ ?_)))
  refine q_callW [30] (by rw [hnt]; rfl) (by rw [hP]; kernel_rfl) rfl rfl rfl (by rw [hP]; exact frames_ok bb cb 2 vt0.k vt0.n vlb qa1 1 qb2 G10) ?_
  refine runq 400 hty hnt ?_; refine st_ ?_
  refine q_end ?_; refine rn_ ?_; intros
  refine go_slot 127 (.b false) rfl rfl ?_
  refine go_keep [0, 1, 10, 127] [30, 31, 32, 33] ?_
  refine st_ ?_
  have hfin := wB hP hQ hnt hty hmb hmh hro cb bb c1 c2 c3 vlb (.slice qa1 1 qb2) ps rsd Zb G10 (hc9.mono hle10) (Rp.S_mono hle10 hp9) (VT.rep_mono hle10 v1) v2 (v3.mono hle10) v4 (fun m x q q' => Rp.S_mono hle10 (v5 m x q q'))
  rw [hrd] at hfin
  exact hfin
end Go.Proofs.YtpppkednpamhbaaGreat
namespace Go.Proofs.YtpppkednpamhbaaGreat.R
set_option linter.unusedSimpArgs false
set_option linter.unusedVariables false
open Go.Sx
set_option maxHeartbeats 8000000
set_option maxRecDepth 20000
theorem rW_of {G : Hp} : ∀ {l : List VT} {cs : List Value}, repV G l cs → (∀ v ∈ l, tsz v ≤ 1000) → rW.L G l cs
  | [], cs, h, _ => by simp only [repV] at h; exact h
  | x :: l, cs, h, hb => by
    simp only [repV] at h
    obtain ⟨sl, r, rfl, h1, h2⟩ := h
    exact ⟨[_, _, _], r, rfl, ⟨sl, rfl, h1, hb x (by simp)⟩, rW_of h2 fun v hv => hb v (by simp [hv])⟩
theorem rW_ofS {G : Hp} {l : List VT} {sl : Value} (h : repS G l sl) (hb : ∀ v ∈ l, tsz v ≤ 1000) : rW.S G l sl := by
  obtain ⟨h1, ad, cap, h2, h3⟩ := h
  refine ⟨h1, ad, cap, h2, h3.imp id ?_⟩
  rintro ⟨b, off, cs, q1, q2, q3⟩
  exact ⟨b, off, cs, q1, q2, rW_of q3 hb⟩
theorem small_ok10 (p : Pr) (ps : Value) (G : Hp) (hps : rF.S G p ps) : Pure Tryz.prog 5 [.agg #[ps]] G (fun v _ => ∃ b : Bool, v = .bool b ∧ (b = true → p.length ≤ 12 ∧ ∀ f ∈ p, f.nodes.length ≤ 40)) := by
  have hps0 := hps
  have h63 := Rp.S_len hps
  obtain ⟨adp, cp, rfl⟩ := Rp.S_slice hps
  refine enterX ty tyok Tryz.func5 rfl Tryz.ntmps5 [.a [.v (.slice adp p.length cp)]] (by simp) ?_
  intro C hP hQ hnt hty hmb hmh hro; have hQp := qp_body hQ; refine st_ ?_
  refine rn_ ?_; intros
  rename_i b1
  refine x_split rfl rfl rfl (fun h1 => ?_) (fun h1 => ?_) <;> (refine st_ ?_; (refine ru_ ?_; intros))
  · refine rn_ ?_; intros
    refine xc_ hQ hmb ?_; simp only [SV.den, resV, dens]
    exact ⟨false, rfl, fun q => by cases q⟩
  have h12 : p.length ≤ 12 := by simp at h1; omega
  refine rn_ ?_; intros
  refine go_keep [1, 2, 3] [0] ?_
  refine st_ ?_
  refine x_loop rfl (fun q s => ∃ i : Nat, i ≤ p.length ∧ q = p.length - i ∧ (∀ f ∈ p.take i, f.nodes.length ≤ 40) ∧
    s = ⟨[(1, .p 0 b1 0), (2, .b false), (3, .v (.int .i64 i))], [(0, b1, .c 24 [.v (.slice adp p.length cp)])], G, []⟩) ⟨0, by omega, rfl, by simp, rfl⟩ ?_
  rintro q s ⟨i, hi, hq, hall, rfl⟩ ih
  refine rn_ ?_; intros
  refine x_if rfl rfl rfl rfl (fun hil => ?_) (fun hil => ?_)
  · have hlt : i < p.length := by simp at hil; omega
    obtain ⟨bp, op, nsp, rfl, hatp, hpp, hnp⟩ := rF_at hps0 hlt
    have hn63 := Rp.S_len hnp
    obtain ⟨adn, capn, rfl⟩ := Rp.S_slice hnp
    have hatp1 : At G bp (op + i * 2 + 1) [.slice adn (fu p i).nodes.length capn] := by simpa using hatp.sub 1 1 (by simp)
    refine rn_ ?_; intros
    refine go_q (v := .pointer (some ⟨bp, op + i * 2, none⟩)) (by rw [hnt]; rfl) ((quiet_index (by rw [hty]; rfl) (by rw [hty]; rfl) rfl rfl rfl (by omega) (by omega)).cast (by simp)) ?_
    refine rn_ ?_; intros
    refine go_q (by rw [hnt]; rfl) (quiet_load (by rw [hty]; rfl) rfl (by simp [TK.agg]) hatp1 rfl) ?_; refine rn_ ?_; intros
    refine x_split rfl rfl rfl (fun h2 => ?_) (fun h2 => ?_) <;> (refine st_ ?_; (refine ru_ ?_; intros))
    · refine rn_ ?_; intros
      refine xc_ hQ hmb ?_; simp only [SV.den, resV, dens]
      exact ⟨false, rfl, fun q => by cases q⟩
    · refine rn_ ?_; intros
      rw [wr (n := (i : Int) + 1) (by omega) (by omega)]
      refine go_keep [1, 2, 3] [0] ?_
      refine st_ ?_
      refine ih (p.length - (i + 1)) _ (by omega) ⟨i + 1, by omega, rfl, fun f hf => ?_, rfl⟩
      rw [← List.take_append_getElem hlt] at hf
      rcases List.mem_append.1 hf with hf | hf
      · exact hall f hf
      · simp only [List.mem_cons, List.not_mem_nil, or_false] at hf
        subst hf
        rw [fu_eq hlt] at h2
        simp at h2
        omega
  have hie : i = p.length := by simp at hil; omega
  subst hie
  rw [List.take_length] at hall
  refine rn_ ?_; intros
  refine xc_ hQ hmb ?_; simp only [SV.den, resV, dens]
  exact ⟨true, rfl, fun _ => ⟨h12, hall⟩⟩
theorem short_ok (l : List VT) (sl : Value) (most : Int) (G : Hp) (hl : repS G l sl) (hb : ∀ v ∈ l, tsz v ≤ 2000000) : Pure Tryz.prog 6 [sl, .int .i64 most] G (fun v _ => ∃ b : Bool, v = .bool b ∧ (b = true → (l.length : Int) ≤ most ∧ ∀ v ∈ l, tsz v ≤ 20)) := by
  obtain ⟨h63, ad, cap, rfl, hS⟩ := hl
  refine enterX ty tyok Tryz.func6 rfl Tryz.ntmps6 [.v (.slice ad l.length cap), .v (.int .i64 most)] (by simp) ?_
  intro C hP hQ hnt hty hmb hmh hro; have hQp := qp_body hQ; refine st_ ?_
  refine rn_ ?_; intros
  refine x_split rfl rfl rfl (fun h1 => ?_) (fun h1 => ?_) <;> (refine st_ ?_; (refine ru_ ?_; intros))
  · refine rn_ ?_; intros
    refine xc_ hQ hmb ?_; simp only [SV.den, resV, dens]
    exact ⟨false, rfl, fun q => by cases q⟩
  have h12 : (l.length : Int) ≤ most := by simp at h1; omega
  refine rn_ ?_; intros
  refine go_keep [0, 1, 4, 5] [] ?_
  refine st_ ?_
  refine x_loop rfl (fun q s => ∃ (i : Nat) (G1 : Hp), i ≤ l.length ∧ q = l.length - i ∧ Le G G1 ∧ (∀ v ∈ l.take i, tsz v ≤ 20) ∧
    s = ⟨[(0, .v (.slice ad l.length cap)), (1, .v (.int .i64 most)), (4, .b false), (5, .v (.int .i64 i))], [], G1, []⟩) ⟨0, G, by omega, rfl, Le.refl _, by simp, rfl⟩ ?_
  rintro q s ⟨i, G1, hi, hq, hle1, hall, rfl⟩ ih
  refine rn_ ?_; intros
  refine x_if rfl rfl rfl rfl (fun hil => ?_) (fun hil => ?_)
  · have hlt : i < l.length := by simp at hil; omega
    rcases hS with rfl | ⟨b, off, cs, rfl, ha, hrV⟩
    · simp at hlt
    obtain ⟨adx, capx, hat, hrx⟩ := At_get ha hrV hlt
    have hbx := hb l[i] (List.getElem_mem _)
    refine rn_ ?_; intros
    refine go_q (v := .pointer (some ⟨b, off + i * 3, none⟩)) (by rw [hnt]; rfl) ((quiet_index (by rw [hty]; rfl) (by rw [hty]; rfl) rfl rfl rfl (by omega) (by omega)).cast (by simp)) ?_
    refine rn_ ?_; intros
    refine go_q (v := .agg #[.int .i64 l[i].k, .int .i64 l[i].n, .slice adx l[i].l.length capx]) (by rw [hnt]; rfl) ((quiet_load (by rw [hty]; rfl) rfl (by simp [TK.agg]) (hat.mono hle1) rfl).cast (by rfl)) ?_
    refine rn_ ?_; intros
    refine go_callf (by rw [hnt]; rfl) (by rw [hP]; kernel_rfl) rfl (hP ▸ refsize_ok l[i] _ G1 (VT.rep_mono hle1 hrx) hbx) ?_; refine rn_ ?_; intros
    refine x_split rfl rfl rfl (fun h2 => ?_) (fun h2 => ?_) <;> (refine st_ ?_; (refine ru_ ?_; intros))
    · refine rn_ ?_; intros
      refine xc_ hQ hmb ?_; simp only [SV.den, resV, dens]
      exact ⟨false, rfl, fun q => by cases q⟩
    · refine rn_ ?_; intros
      rw [wr (n := (i : Int) + 1) (by omega) (by omega)]
      refine go_keep [0, 1, 4, 5] [] ?_
      refine st_ ?_
      refine ih (l.length - (i + 1)) _ (by omega) ⟨i + 1, G1, by omega, rfl, hle1, fun v hv => ?_, rfl⟩
      rw [← List.take_append_getElem hlt] at hv
      rcases List.mem_append.1 hv with hv | hv
      · exact hall v hv
      · simp only [List.mem_cons, List.not_mem_nil, or_false] at hv
        subst hv
        rw [cnt_eq _ 0 (by omega)] at h2
        simp at h2
        omega
  have hie : i = l.length := by simp at hil; omega
  subst hie
  rw [List.take_length] at hall
  refine rn_ ?_; intros
  refine xc_ hQ hmb ?_; simp only [SV.den, resV, dens]
  exact ⟨true, rfl, fun _ => ⟨h12, hall⟩⟩
theorem bd_of {p : Pr} (hp : rgtP p = true) (h : p.length ≤ 12 ∧ ∀ f ∈ p, f.nodes.length ≤ 40) : bdP p := by
  refine ⟨by omega, fun f hf => ⟨by have := h.2 f hf; omega, fun x hx => ?_⟩⟩
  have hb := badF_ok (yrgt hp).2.1 f hf
  simp only [whr] at hb
  cases hq : places f with
  | inl a => rw [hq] at hb; simp at hb
  | inr A =>
    obtain ⟨j, hj, rfl⟩ := List.getElem_of_mem hx
    have := ((tree hq).ok j hj).2.1
    rw [nd_eq hj] at this
    have := (ben_len this).2.2.2.2.2.2.1
    omega
mutual
theorem vq_refl : ∀ (x : VT), veq x x = true
  | .mk k n l => by simp [veq, vqL_refl l]
theorem vqL_refl : ∀ (l : List VT), veqL l l = true
  | [] => by simp [veqL]
  | x :: l => by simp [veqL, vq_refl x, vqL_refl l]
end
structure Ac where
  w : Int
  n : Int
  v : VT
def rA : Rp Ac where
  size := 5
  e G x cs := ∃ sl, cs = [.int .i64 x.w, .int .i64 x.n, .int .i64 x.v.k, .int .i64 x.v.n, sl] ∧ x.v.rep G sl ∧ isI64 x.w ∧ isI64 x.n
  mono hl h := by obtain ⟨sl, h1, h2, h3⟩ := h; exact ⟨sl, h1, VT.rep_mono hl h2, h3⟩
  len h := by obtain ⟨_, rfl, _⟩ := h; rfl
  one h u hu := by
    obtain ⟨sl, rfl, h2, _⟩ := h
    obtain ⟨_, _, rfl⟩ := VT.rep_slice h2
    simp at hu
    rcases hu with rfl | rfl | rfl | rfl | rfl <;> rfl
theorem rA_at {G : Hp} {l : List Ac} {ad : Option Addr} {n cap : Nat} (h : rA.S G l (.slice ad n cap)) {i : Nat} (hi : i < l.length) : ∃ b off a c, ad = some ⟨b, off, none⟩ ∧ At G b (off + i * 5) [.int .i64 l[i].w, .int .i64 l[i].n, .int .i64 l[i].v.k, .int .i64 l[i].v.n, .slice a l[i].v.l.length c] ∧ l[i].v.rep G (.slice a l[i].v.l.length c) ∧ isI64 l[i].w ∧ isI64 l[i].n := by
  obtain ⟨b, off, cap', c, hv, hat, sl, rfl, h1, h2, h3⟩ := Rp.S_get h hi
  obtain ⟨a, c', rfl⟩ := VT.rep_slice h1
  cases hv
  exact ⟨b, off, a, c', rfl, by simpa [rA] using hat, h1, h2, h3⟩
theorem few_ok (l : List Ac) (sl : Value) (most : Int) (G : Hp) (hl : rA.S G l sl) (hb : ∀ x ∈ l, tsz x.v ≤ 2000000) : Pure Tryz.prog 7 [sl, .int .i64 most] G (fun v _ => ∃ b : Bool, v = .bool b ∧ (b = true → (l.length : Int) ≤ most ∧ ∀ x ∈ l, x.n ≤ 200 ∧ tsz x.v ≤ 20)) := by
  have h63 := Rp.S_len hl
  obtain ⟨ad, cap, rfl⟩ := Rp.S_slice hl
  refine enterX ty tyok Tryz.func7 rfl Tryz.ntmps7 [.v (.slice ad l.length cap), .v (.int .i64 most)] (by simp) ?_
  intro C hP hQ hnt hty hmb hmh hro; have hQp := qp_body hQ; refine st_ ?_
  refine rn_ ?_; intros
  refine x_split rfl rfl rfl (fun h1 => ?_) (fun h1 => ?_) <;> (refine st_ ?_; (refine ru_ ?_; intros))
  · refine rn_ ?_; intros
    refine xc_ hQ hmb ?_; simp only [SV.den, resV, dens]
    exact ⟨false, rfl, fun q => by cases q⟩
  have h12 : (l.length : Int) ≤ most := by simp at h1; omega
  refine rn_ ?_; intros
  refine go_keep [0, 1, 4, 5] [] ?_
  refine st_ ?_
  refine x_loop rfl (fun q s => ∃ (i : Nat) (G1 : Hp), i ≤ l.length ∧ q = l.length - i ∧ Le G G1 ∧ (∀ x ∈ l.take i, x.n ≤ 200 ∧ tsz x.v ≤ 20) ∧
    s = ⟨[(0, .v (.slice ad l.length cap)), (1, .v (.int .i64 most)), (4, .b false), (5, .v (.int .i64 i))], [], G1, []⟩) ⟨0, G, by omega, rfl, Le.refl _, by simp, rfl⟩ ?_
  rintro q s ⟨i, G1, hi, hq, hle1, hall, rfl⟩ ih
  refine rn_ ?_; intros
  refine x_if rfl rfl rfl rfl (fun hil => ?_) (fun hil => ?_)
  · have hlt : i < l.length := by simp at hil; omega
    obtain ⟨b, off, a9, c9, rfl, hat, hrx, hw64, hn64⟩ := rA_at (Rp.S_mono hle1 hl) hlt
    have hbx := hb l[i] (List.getElem_mem _)
    have hat1 : At G1 b (off + i * 5 + 1) [.int .i64 l[i].n] := by simpa using hat.sub 1 1 (by simp)
    have hat2 : At G1 b (off + i * 5 + 2) [.int .i64 l[i].v.k, .int .i64 l[i].v.n, .slice a9 l[i].v.l.length c9] := by simpa using hat.sub 2 3 (by simp)
    refine rn_ ?_; intros
    refine go_q (v := .pointer (some ⟨b, off + i * 5, none⟩)) (by rw [hnt]; rfl) ((quiet_index (by rw [hty]; rfl) (by rw [hty]; rfl) rfl rfl rfl (by omega) (by omega)).cast (by simp)) ?_
    refine rn_ ?_; intros
    refine go_q (v := .int .i64 l[i].n) (by rw [hnt]; rfl) ((quiet_load (by rw [hty]; rfl) rfl (by simp [TK.agg]) hat1 rfl).cast (by rfl)) ?_
    refine rn_ ?_; intros
    refine go_gsplit rfl rfl (fun h2 => ?_) (fun h2 => ?_) <;> (refine st_ ?_; (refine rn_ ?_; intros))
    · refine xc_ hQ hmb ?_; simp only [SV.den, resV, dens]
      exact ⟨false, rfl, fun q => by cases q⟩
    have hn2 : l[i].n ≤ 200 := by simp at h2; omega
    refine go_q (v := .pointer (some ⟨b, off + i * 5, none⟩)) (by rw [hnt]; rfl) ((quiet_index (by rw [hty]; rfl) (by rw [hty]; rfl) rfl rfl rfl (by omega) (by omega)).cast (by simp)) ?_
    refine rn_ ?_; intros
    refine go_q (v := .agg #[.int .i64 l[i].v.k, .int .i64 l[i].v.n, .slice a9 l[i].v.l.length c9]) (by rw [hnt]; rfl) ((quiet_load (by rw [hty]; rfl) rfl (by simp [TK.agg]) hat2 rfl).cast (by rfl)) ?_
    refine rn_ ?_; intros
    refine go_callf (by rw [hnt]; rfl) (by rw [hP]; kernel_rfl) rfl (hP ▸ refsize_ok l[i].v _ G1 hrx hbx) ?_; refine rn_ ?_; intros
    refine x_split rfl rfl rfl (fun h3 => ?_) (fun h3 => ?_) <;> (refine st_ ?_; (refine ru_ ?_; intros))
    · refine rn_ ?_; intros
      refine xc_ hQ hmb ?_; simp only [SV.den, resV, dens]
      exact ⟨false, rfl, fun q => by cases q⟩
    · refine rn_ ?_; intros
      rw [wr (n := (i : Int) + 1) (by omega) (by omega)]
      refine go_keep [0, 1, 4, 5] [] ?_
      refine st_ ?_
      refine ih (l.length - (i + 1)) _ (by omega) ⟨i + 1, G1, by omega, rfl, hle1, fun x hx => ?_, rfl⟩
      rw [← List.take_append_getElem hlt] at hx
      rcases List.mem_append.1 hx with hx | hx
      · exact hall x hx
      · simp only [List.mem_cons, List.not_mem_nil, or_false] at hx
        subst hx
        rw [cnt_eq _ 0 (by omega)] at h3
        simp at h3
        omega
  have hie : i = l.length := by simp at hil; omega
  subst hie
  rw [List.take_length] at hall
  refine rn_ ?_; intros
  refine xc_ hQ hmb ?_; simp only [SV.den, resV, dens]
  exact ⟨true, rfl, fun _ => ⟨h12, hall⟩⟩
theorem vals_ok (l : List VT) (s1 s2 : Value) (G : Hp) (h1 : rW.S G l s1) (h2 : rW.S G l s2) (hv : ∀ v ∈ l, vld v = true) (hll : l.length ≤ 1000) :
    Pure Tryz.prog 79 [s1, s2] G (fun v _ => v = .bool true) := by
  obtain ⟨a1, c1, rfl⟩ := Rp.S_slice h1
  obtain ⟨a2, c2, rfl⟩ := Rp.S_slice h2
  refine enterX ty tyok Tryz.func79 rfl Tryz.ntmps79 [.v (.slice a1 l.length c1), .v (.slice a2 l.length c2)] (by simp) ?_
  intro C hP hQ hnt hty hmb hmh hro; have hQp := qp_body hQ; refine st_ ?_
  refine rn_ ?_; intros
  (refine x_split rfl rfl rfl (fun hc => absurd hc (by first | decide +kernel | (simp; first | done | fail))) (fun _ => ?_); refine st_ ?_; (refine ru_ ?_; intros))
  refine rn_ ?_; intros
  refine go_keep [0, 1, 4, 5] [] ?_
  refine st_ ?_
  refine x_loop rfl (fun q s => ∃ (i : Nat) (G1 : Hp), i ≤ l.length ∧ q = l.length - i ∧ Le G G1 ∧
    s = ⟨[(0, .v (.slice a1 l.length c1)), (1, .v (.slice a2 l.length c2)), (4, .b false), (5, .v (.int .i64 i))], [], G1, []⟩) ⟨0, G, by omega, rfl, Le.refl _, rfl⟩ ?_
  rintro q s ⟨i, G1, hi, hq, hle1, rfl⟩ ih
  refine rn_ ?_; intros
  refine x_if rfl rfl rfl rfl (fun hil => ?_) (fun hil => ?_)
  · have hlt : i < l.length := by simp at hil; omega
    obtain ⟨b, off, sv, rfl, hat, hrx, htx⟩ := rW_at (Rp.S_mono hle1 h1) hlt
    obtain ⟨b', off', sv', rfl, hat', hrx', htx'⟩ := rW_at (Rp.S_mono hle1 h2) hlt
    obtain ⟨a9, c9, rfl⟩ := VT.rep_slice hrx
    obtain ⟨a8, c8, rfl⟩ := VT.rep_slice hrx'
    have hv1 := hv l[i] (List.getElem_mem _)
    have hs1 : sml l[i] = true := by simp only [vld, Bool.and_eq_true] at hv1; exact hv1.1
    refine rn_ ?_; intros
    have hsame : Pure Tryz.prog 28 [.agg #[.int .i64 l[i].k, .int .i64 l[i].n, .slice a9 l[i].l.length c9], .agg #[.int .i64 l[i].k, .int .i64 l[i].n, .slice a8 l[i].l.length c8]] G1 (fun r _ => r = .bool true) :=
      (refSame_ok l[i] l[i] _ _ G1 hrx hrx' (by omega) (by omega)).val (by rw [hs1, vq_refl]; rfl)
    refine x_draw rfl (by rw [hP]; kernel_rfl) rfl (by kernel_rfl) ?_
    refine runq 400 hty hnt ?_; refine st_ ?_
    refine q_q (v := .pointer (some ⟨b, off + i * 3, none⟩)) (by rw [hnt]; rfl) ((quiet_index (by rw [hty]; rfl) (by rw [hty]; rfl) rfl rfl rfl (by omega) (by omega)).cast (by simp)) ?_
    refine runq 400 hty hnt ?_; refine st_ ?_
    refine q_q (v := .agg #[.int .i64 l[i].k, .int .i64 l[i].n, .slice a9 l[i].l.length c9]) (by rw [hnt]; rfl) ((quiet_load (by rw [hty]; rfl) rfl (by simp [TK.agg]) hat rfl).cast (by rfl)) ?_
    refine runq 400 hty hnt ?_; refine st_ ?_
    refine q_q (v := .pointer (some ⟨b', off' + i * 3, none⟩)) (by rw [hnt]; rfl) ((quiet_index (by rw [hty]; rfl) (by rw [hty]; rfl) rfl rfl rfl (by omega) (by omega)).cast (by simp)) ?_
    refine runq 400 hty hnt ?_; refine st_ ?_
    refine q_q (v := .agg #[.int .i64 l[i].k, .int .i64 l[i].n, .slice a8 l[i].l.length c8]) (by rw [hnt]; rfl) ((quiet_load (by rw [hty]; rfl) rfl (by simp [TK.agg]) hat' rfl).cast (by rfl)) ?_
    refine runq 400 hty hnt ?_; refine st_ ?_
    refine q_callf (by rw [hnt]; rfl) (by rw [hP]; kernel_rfl) rfl (hP ▸ hsame) ?_; refine runq 400 hty hnt ?_; refine st_ ?_
    refine q_end ?_; refine rn_ ?_; intros
    (refine x_split rfl rfl rfl (fun hc => absurd hc (by first | decide +kernel | (simp; first | done | fail))) (fun _ => ?_); refine st_ ?_; (refine ru_ ?_; intros))
    refine rn_ ?_; intros
    rw [wr (n := (i : Int) + 1) (by omega) (by omega)]
    refine go_keep [0, 1, 4, 5] [] ?_
    refine st_ ?_
    exact ih (l.length - (i + 1)) _ (by omega) ⟨i + 1, G1, by omega, rfl, hle1, rfl⟩
  refine rn_ ?_; intros
  refine xc_ hQ hmb ?_; simp only [SV.den, resV, dens]
  try rfl
theorem samewant_ok (k f : Int) (l : List VT) (s1 s2 : Value) (G : Hp) (h1 : rW.S G l s1) (h2 : rW.S G l s2) (hv : ∀ v ∈ l, vld v = true) (hll : l.length ≤ 1000) :
    Pure Tryz.prog 48 [.agg #[.int .i64 k, .int .i64 f, s1], .agg #[.int .i64 k, .int .i64 f, s2]] G (fun v _ => v = .bool true) := by
  have hvs := vals_ok l s1 s2 G h1 h2 hv hll
  obtain ⟨a1, c1, rfl⟩ := Rp.S_slice h1
  obtain ⟨a2, c2, rfl⟩ := Rp.S_slice h2
  refine enterX ty tyok Tryz.func48 rfl Tryz.ntmps48 [.a [.v (.int .i64 k), .v (.int .i64 f), .v (.slice a1 l.length c1)], .a [.v (.int .i64 k), .v (.int .i64 f), .v (.slice a2 l.length c2)]] (by simp) ?_
  intro C hP hQ hnt hty hmb hmh hro; have hQp := qp_body hQ; refine st_ ?_
  refine rn_ ?_; intros
  (refine go_gsplit rfl rfl (fun _ => ?_) (fun hc => absurd hc (by simp)); refine st_ ?_; (refine rn_ ?_; intros))
  (refine go_gsplit rfl rfl (fun _ => ?_) (fun hc => absurd hc (by simp)); refine st_ ?_; (refine rn_ ?_; intros))
  refine go_callf (by rw [hnt]; rfl) (by rw [hP]; kernel_rfl) rfl (hP ▸ hvs) ?_; refine rn_ ?_; intros
  refine xc_ hQ hmb ?_; simp only [SV.den, resV, dens]
  try rfl
end Go.Proofs.YtpppkednpamhbaaGreat.R
namespace Go.Proofs.YtpppkednpamhbaaGreat.R
set_option linter.unusedSimpArgs false
set_option linter.unusedVariables false
open Go.Sx
set_option maxHeartbeats 16000000
set_option maxRecDepth 20000
theorem rat_ok (ps : Value) (p : Pr) (s : Fb) (v0 : Value) (G : Hp) (hp : rF.S G p ps) (h0 : rfO G ps s.st s.val s.l v0) (hVF : VF p s) :
    Pure Tryz.prog 47 [v0] G (fun v _ => v = .tuple #[.int .i64 (atQ s).1, .int .i64 (atQ s).2.1, .bool (atQ s).2.2]) := by
  obtain ⟨lsl, vl, rfl, hL, hvl, hts⟩ := h0
  obtain ⟨vA, vC, rfl⟩ := VT.rep_slice hvl
  obtain ⟨pA, pC, rfl⟩ := Rp.S_slice hp
  obtain ⟨aL, cL, rfl⟩ := Rp.S_slice hL.1
  have hlen := vf_len hVF
  refine enterX ty tyok Tryz.func47 rfl Tryz.ntmps47 [.a [.v (.slice pA p.length pC), .v (.slice aL s.l.reverse.length cL), .v (.int .i64 s.st), .v (.int .i64 s.val.k), .v (.int .i64 s.val.n), .v (.slice vA s.val.l.length vC)]] (by simp) ?_
  intro C hP hQ hnt hty hmb hmh hro; have hQp := qp_body hQ; refine st_ ?_
  refine rn_ ?_; intros
  refine x_split rfl rfl rfl (fun h1 => ?_) (fun h1 => ?_) <;> (refine st_ ?_; (refine ru_ ?_; intros))
  · have hsl : s.l = [] := List.eq_nil_of_length_eq_zero (by simp at h1; simp [h1])
    refine rn_ ?_; intros
    refine xc_ hQ hmb ?_; simp only [SV.den, resV, dens]
    rw [show atQ s = (0, 0, false) by unfold atQ; rw [hsl]]
  obtain ⟨x, r, hsl⟩ : ∃ x r, s.l = x :: r := by
    cases hq : s.l with
    | nil => rw [hq] at h1; simp at h1
    | cons x r => exact ⟨x, r, rfl⟩
  have hq : atQ s = (x.fn, x.nd, true) := by unfold atQ; rw [hsl]
  have hL' : fmS G (x :: r) (.slice aL s.l.reverse.length cL) := by
    have := hL
    rw [hsl] at this
    rw [hsl]
    exact this
  obtain ⟨nd, hvx, hr⟩ := vf_top hVF hsl
  refine rn_ ?_; intros
  refine go_call (by rw [hnt]; rfl) (by rw [hP]; kernel_rfl) rfl (hP ▸ rlast_ok _ _ _ s.st s.val.k s.val.n p x r nd G hp hL'.1 ⟨_, _, _, rfl⟩ hvx.1.nd (by omega)) ?_
  rintro _ G1 (hle1 : Le G G1) ⟨av, cw, ad, cd, an, cn, rfl, hsv, hsd, hrI, g1, g2, i1, i2⟩
  refine rn_ ?_; intros
  refine x_draw rfl (by rw [hP]; kernel_rfl) rfl (by kernel_rfl) ?_
  refine runq 400 hty hnt ?_; refine st_ ?_
  refine q_end ?_; refine rn_ ?_; intros
  refine xc_ hQ hmb ?_; simp only [SV.den, resV, dens]
  rw [hq]
theorem rwant_ok (ps : Value) (p : Pr) (s : Fb) (v0 : Value) (G : Hp) (hp : rF.S G p ps) (h0 : rfO G ps s.st s.val s.l v0) (hVF : VF p s) :
    Pure Tryz.prog 45 [v0] G (fun v G' => wantA G' (wantQ p s) v) := by
  obtain ⟨lsl, vl, rfl, hL, hvl, hts⟩ := h0
  obtain ⟨vA, vC, rfl⟩ := VT.rep_slice hvl
  obtain ⟨pA, pC, rfl⟩ := Rp.S_slice hp
  obtain ⟨aL, cL, rfl⟩ := Rp.S_slice hL.1
  have hlen := vf_len hVF
  refine enterX ty tyok Tryz.func45 rfl Tryz.ntmps45 [.a [.v (.slice pA p.length pC), .v (.slice aL s.l.reverse.length cL), .v (.int .i64 s.st), .v (.int .i64 s.val.k), .v (.int .i64 s.val.n), .v (.slice vA s.val.l.length vC)]] (by simp) ?_
  intro C hP hQ hnt hty hmb hmh hro; have hQp := qp_body hQ; refine st_ ?_
  refine rn_ ?_; intros
  refine x_split rfl rfl rfl (fun h1 => ?_) (fun h1 => ?_) <;> (refine st_ ?_; (refine ru_ ?_; intros))
  · have h2 : ¬ s.st = 2 := by simpa using h1
    refine rn_ ?_; intros
    refine xc_ hQ hmb ?_; simp only [SV.den, resV, dens]
    unfold wantQ
    rw [if_neg h2]
    exact ⟨_, rfl, Rp.S_nil none 0⟩
  have h2 : s.st = 2 := by simpa using h1
  obtain ⟨m, r, nd, hs, hRX, hr⟩ := vf_two hVF h2
  have hq : wantQ p s = ((wantP nd m.done).1, (wantP nd m.done).2.1, (wantP nd m.done).2.2, true) := by
    unfold wantQ
    rw [if_pos h2, hs]
    simp only [hRX.1.1.nd]
  have hL' : fmS G (m :: r) (.slice aL s.l.reverse.length cL) := by
    have := hL
    rw [hs] at this
    rw [hs]
    exact this
  have hop := hRX.2.2.2.2
  refine rn_ ?_; intros
  refine go_call (by rw [hnt]; rfl) (by rw [hP]; kernel_rfl) rfl (hP ▸ rlast_ok _ _ _ s.st s.val.k s.val.n p m r nd G hp hL'.1 ⟨_, _, _, rfl⟩ hRX.1.1.nd (by omega)) ?_
  rintro _ G1 (hle1 : Le G G1) ⟨av, cw, ad, cd, an, cn, rfl, hsv, hsd, hrI, g1, g2, i1, i2⟩
  refine rn_ ?_; intros
  refine x_split rfl rfl rfl (fun h14 => ?_) (fun h14 => ?_) <;> (refine st_ ?_; (refine ru_ ?_; intros))
  · have hop : nd.op = 14 := by simpa using h14
    refine rn_ ?_; intros
    refine xc_ hQ hmb ?_; simp only [SV.den, resV, dens]
    rw [hq]
    simp only [wantP, hop]
    exact ⟨_, rfl, hsd⟩
  have h14 : ¬ nd.op = 14 := by simpa using h14
  refine rn_ ?_; intros
  refine x_split rfl rfl rfl (fun h15 => ?_) (fun h15 => ?_) <;> (refine st_ ?_; (refine ru_ ?_; intros))
  · have hop : nd.op = 15 := by simpa using h15
    refine rn_ ?_; intros
    refine xc_ hQ hmb ?_; simp only [SV.den, resV, dens]
    rw [hq]
    simp only [wantP, hop]
    exact ⟨_, rfl, Rp.S_nil none 0⟩
  have h15 : ¬ nd.op = 15 := by simpa using h15
  refine rn_ ?_; intros
  refine xc_ hQ hmb ?_; simp only [SV.den, resV, dens]
  rw [hq]
  simp only [wantP, if_neg h14, if_pos (show nd.op = 24 by omega)]
  exact ⟨_, rfl, hsd⟩
end Go.Proofs.YtpppkednpamhbaaGreat.R
namespace Go.Proofs.YtpppkednpamhbaaGreat.R
set_option linter.unusedSimpArgs false
set_option linter.unusedVariables false
open Go.Sx
set_option maxHeartbeats 16000000
set_option maxRecDepth 20000
def begQ (p : Pr) (f : Int) (args : List VT) : Int := if f < 0 ∨ (p.length : Int) ≤ f then 4 else if (args.length : Int) ≠ (fu p f.toNat).params then 2 else if args.all vld then 0 else 2
def zeroF : Value := .agg #[.slice none 0 0, .slice none 0 0, .int .i64 0, .int .i64 0, .int .i64 0, .slice none 0 0]
theorem rbegin_ok (p : Pr) (ps : Value) (f : Int) (args : List VT) (sl : Value) (G : Hp) (hp : rF.S G p ps) (hpR : rgtP p = true) (hS : rW.S G args sl) (hal : args.length ≤ 100) :
    Pure Tryz.prog 13 [.agg #[ps], .int .i64 f, sl] G (fun w G' => (begQ p f args ≠ 0 ∧ w = .tuple #[zeroF, .int .i64 (begQ p f args)]) ∨ (begQ p f args = 0 ∧ ∃ o, downF p 600 [⟨f, 0, args, []⟩] = some o ∧ VO p o ∧ rfT G' ps ⟨o.1, vt0, o.2⟩ 0 w)) := by
  have hp0 := hp
  have hp63 := Rp.S_len hp
  obtain ⟨pA, pC, rfl⟩ := Rp.S_slice hp
  obtain ⟨aS, cS, rfl⟩ := Rp.S_slice hS
  refine enterX ty tyok Tryz.func13 rfl Tryz.ntmps13 [.a [.v (.slice pA p.length pC)], .v (.int .i64 f), .v (.slice aS args.length cS)] (by simp) ?_
  intro C hP hQ hnt hty hmb hmh hro; have hQp := qp_body hQ; refine st_ ?_
  refine rn_ ?_; intros
  rename_i b1 b2
  have hz : ∀ e : Int, e ≠ 0 → begQ p f args = e → (begQ p f args ≠ 0 ∧ Value.tuple #[zeroF, .int .i64 e] = .tuple #[zeroF, .int .i64 (begQ p f args)]) := fun e h1 h2 => ⟨by rw [h2]; exact h1, by rw [h2]⟩
  refine go_gsplit rfl rfl (fun h1 => ?_) (fun h1 => ?_) <;> (refine st_ ?_; (refine rn_ ?_; intros))
  · have h1 : f < 0 := by simpa using h1
    refine rn_ ?_; intros
    refine xc_ hQ hmb ?_; simp only [SV.den, resV, dens]
    exact .inl (hz 4 (by decide) (by rw [begQ, if_pos (.inl h1)]))
  have hf0 : ¬ f < 0 := by simpa using h1
  refine x_split rfl rfl rfl (fun h2 => ?_) (fun h2 => ?_) <;> (refine st_ ?_; (refine ru_ ?_; intros))
  · have h2 : (p.length : Int) ≤ f := by simpa using h2
    refine rn_ ?_; intros
    refine xc_ hQ hmb ?_; simp only [SV.den, resV, dens]
    exact .inl (hz 4 (by decide) (by rw [begQ, if_pos (.inr h2)]))
  have hf1 : ¬ (p.length : Int) ≤ f := by simpa using h2
  have hb1 : ¬ (f < 0 ∨ (p.length : Int) ≤ f) := by omega
  obtain ⟨bF, oF, ns, rfl, hat, hp64, _⟩ := rF_at hp0 (i := f.toNat) (by omega)
  have hat0 : At G bF (oF + f.toNat * 2) [.int .i64 (fu p f.toNat).params] := by simpa using hat.sub 0 1 (by simp)
  refine rn_ ?_; intros
  refine go_q (v := .pointer (some ⟨bF, oF + f.toNat * 2, none⟩)) (by rw [hnt]; rfl) ((quiet_index (by rw [hty]; rfl) (by rw [hty]; rfl) rfl rfl rfl (by omega) (by omega)).cast (by rfl)) ?_
  refine rn_ ?_; intros
  refine go_q (by rw [hnt]; rfl) (quiet_load (by rw [hty]; rfl) rfl (by simp [TK.agg]) hat0 rfl) ?_; refine rn_ ?_; intros
  refine x_split rfl rfl rfl (fun h3 => ?_) (fun h3 => ?_) <;> (refine st_ ?_; (refine ru_ ?_; intros))
  · have h3 : (args.length : Int) ≠ (fu p f.toNat).params := by simpa using h3
    refine rn_ ?_; intros
    refine xc_ hQ hmb ?_; simp only [SV.den, resV, dens]
    exact .inl (hz 2 (by decide) (by rw [begQ, if_neg hb1, if_pos h3]))
  have h3 : ¬ (args.length : Int) ≠ (fu p f.toNat).params := by simpa using h3
  refine rn_ ?_; intros
  refine go_keep [1, 2, 3, 6, 7, 8] [0, 1] ?_
  refine st_ ?_
  refine x_loop rfl (fun q s' => ∃ (i : Nat) (G1 : Hp), i ≤ args.length ∧ q = args.length - i ∧ Le G G1 ∧ (∀ v ∈ args.take i, vld v = true) ∧
    s' = ⟨[(1, .v (.int .i64 f)), (2, .v (.slice aS args.length cS)), (3, .p 0 b1 0), (6, .p 1 b2 0), (7, .v (.int .i64 0)), (8, .v (.int .i64 i))], [(0, b1, .c 24 [.v (.slice (some ⟨bF, oF, none⟩) p.length pC)]), (1, b2, .c 44 [.v (.slice none 0 0), .v (.slice none 0 0), .v (.int .i64 0), .v (.int .i64 0), .v (.int .i64 0), .v (.slice none 0 0)])], G1, []⟩) ⟨0, G, by omega, rfl, Le.refl _, by simp, rfl⟩ ?_
  rintro q s' ⟨i, G1, hi, hq, hle1, hall, rfl⟩ ih
  refine rn_ ?_; intros
  refine x_if rfl rfl rfl rfl (fun hil => ?_) (fun hil => ?_)
  · have hlt : i < args.length := by simp at hil; omega
    obtain ⟨bV, oV, sv, rfl, hatV, hrV, htV⟩ := rW_at (Rp.S_mono hle1 hS) hlt
    obtain ⟨a9, c9, rfl⟩ := VT.rep_slice hrV
    refine rn_ ?_; intros
    refine go_q (v := .pointer (some ⟨bV, oV + i * 3, none⟩)) (by rw [hnt]; rfl) ((quiet_index (by rw [hty]; rfl) (by rw [hty]; rfl) rfl rfl rfl (by omega) (by omega)).cast (by simp)) ?_
    refine rn_ ?_; intros
    refine go_q (v := .agg #[.int .i64 args[i].k, .int .i64 args[i].n, .slice a9 args[i].l.length c9]) (by rw [hnt]; rfl) ((quiet_load (by rw [hty]; rfl) rfl (by simp [TK.agg]) hatV rfl).cast (by rfl)) ?_
    refine rn_ ?_; intros
    refine go_callf (by rw [hnt]; rfl) (by rw [hP]; kernel_rfl) rfl (hP ▸ refright_ok args[i] _ G1 hrV (by omega)) ?_; refine rn_ ?_; intros
    refine x_split rfl rfl rfl (fun h4 => ?_) (fun h4 => ?_) <;> (refine st_ ?_; (refine ru_ ?_; intros))
    · have h4 : ¬ vld args[i] = true := by simpa using h4
      refine rn_ ?_; intros
      refine xc_ hQ hmb ?_; simp only [SV.den, resV, dens]
      refine .inl (hz 2 (by decide) ?_)
      rw [begQ, if_neg hb1, if_neg h3, if_neg]
      intro hc
      exact h4 (List.all_eq_true.1 hc _ (List.getElem_mem _))
    · refine rn_ ?_; intros
      rw [wr (n := (i : Int) + 1) (by omega) (by omega)]
      refine go_keep [1, 2, 3, 6, 7, 8] [0, 1] ?_
      refine st_ ?_
      refine ih (args.length - (i + 1)) _ (by omega) ⟨i + 1, G1, by omega, rfl, hle1, fun v hv => ?_, rfl⟩
      rw [← List.take_append_getElem hlt] at hv
      rcases List.mem_append.1 hv with hv | hv
      · exact hall v hv
      · simp only [List.mem_cons, List.not_mem_nil, or_false] at hv
        subst hv
        simpa using h4
  have hie : i = args.length := by simp at hil; omega
  subst hie
  rw [List.take_length] at hall
  have hbq : begQ p f args = 0 := by
    rw [begQ, if_neg hb1, if_neg h3, if_pos]
    exact List.all_eq_true.2 hall
  obtain ⟨nd, hroot⟩ := PosOk.root hpR (show 0 ≤ f by omega) (show f < p.length by omega)
  have hVX : VX p ⟨f, 0, args, []⟩ nd := ⟨by
    have : (fu p f.toNat).params.toNat = args.length := by omega
    rw [this] at hroot
    exact hroot, by simp, hall, by simp⟩
  obtain ⟨o, hd, hVO⟩ := down_ok 600 ⟨f, 0, args, []⟩ [] nd hVX trivial (by simp) (by omega)
  have hS1 := Rp.S_mono hle1 hS
  obtain ⟨cs, hcs, hsrc⟩ := Rp.srcS hS1
  have hcl := Rp.L_len hcs
  simp only [rW] at hcl
  have hf64 : isI64 f := ⟨by omega, by omega⟩
  refine rn_ ?_; intros
  refine x_held [(0, b1, .c 24 [.v (.slice (some ⟨bF, oF, none⟩) p.length pC)])] rfl (by rw [hP]; kernel_rfl) rfl rfl rfl ?_; refine st_ ?_
  refine tq_ 0 rfl (quiet_op (by rw [hty]; first | rfl | (refine st_ ?_; rfl))) ?_; refine st_ ?_
  refine tq_ 1 rfl (quiet_op (by rw [hty]; first | rfl | (refine st_ ?_; rfl))) ?_; refine st_ ?_
  refine tq_ 3 rfl (quiet_op (by rw [hty]; first | rfl | (refine st_ ?_; rfl))) ?_; refine st_ ?_
  refine h_one 2 rfl (by kernel_rfl) ?_
  refine rn_ ?_; intros
  refine hs_ ?_
  refine h_one 4 rfl (by kernel_rfl) ?_
  refine go_torowN 2 (n := 0) (size := 3) rfl rfl (by omega) ?_
  refine go_append_any 2 (by rw [hnt]; rfl) (by rw [hty]; rfl) (by rw [hty]; rfl) (by decide) rfl rfl rfl (by rw [hmh]; omega) rfl (hsrc.imp id fun f => f _ _ rfl) (by simp only []; omega) (Rp.L_one hcs) (by omega) (by simp only []; omega) ?_
  intro v6
  refine go_rowS 2 rfl ?_
  rintro ad6 cap6 rfl
  refine go_pubL rW 2 rfl (by rw [hmh]; omega) (ts := args) (by simp) (by omega) (by simpa [dens] using hcs) ?_
  intro G5 ad8 cap8 (hle5 : Le G1 G5) e8 hS8
  injection e8 with q1 q2 q3
  subst q1 q3
  refine rn_ ?_; intros
  refine hs_ ?_
  refine tq_ 5 rfl (quiet_op (by rw [hty]; first | rfl | (refine st_ ?_; rfl))) ?_; refine st_ ?_
  refine h_one 6 rfl (by kernel_rfl) ?_
  refine rn_ ?_; intros
  refine hs_ ?_
  refine tq_ 7 rfl (quiet_op (by rw [hty]; first | rfl | (refine st_ ?_; rfl))) ?_; refine st_ ?_
  rename_i b8 b9
  refine go_torowN 2 (n := 1) (size := 4) rfl rfl (by omega) ?_
  refine go_pubL rFm 2 rfl (by rw [hmh]; omega) (ts := [⟨f, 0, args, []⟩]) rfl (by omega) (Rp.L_single ⟨_, _, rfl, by simpa [SV.den] using hS8, Rp.S_nil none 0, hf64, by simp [isI64]⟩) ?_
  intro G6 ad9 cap9 (hle6 : Le G5 G6) e9 hS9
  injection e9 with q1 q2 q3
  subst q1 q3
  have hle16 := hle5.trans hle6
  refine h_one 8 rfl (by kernel_rfl) ?_
  refine go_call (by rw [hnt]; rfl) (by rw [hP]; kernel_rfl) rfl (hP ▸ rdown_ok (.slice (some ⟨bF, oF, none⟩) p.length pC) 0 p 600 ⟨f, 0, args, []⟩ [] nd (fibV (.slice (some ⟨bF, oF, none⟩) p.length pC) (.slice (some ⟨b9, 0, none⟩) 1 1) 0 0 0 (.slice none 0 0)) o G6 (Rp.S_mono (hle1.trans hle16) hp0) ⟨_, _, rfl, ⟨hS9, fun _ _ _ e => by cases e; simp⟩, vt0_rep _, by simp [vt0, tsz, tszL]⟩ hVX (by simp) hd) ?_
  rintro _ G7 (hle7 : Le G6 G7) ⟨lsl3, vl3, rfl, hL3, hv3, ht3⟩
  obtain ⟨a5', c5', rfl⟩ := Rp.S_slice hL3.1
  obtain ⟨a6', c6', rfl⟩ := VT.rep_slice hv3
  have hle17 := hle16.trans hle7
  simp only [fibV]
  refine rn_ ?_; intros
  refine hs_ ?_
  refine h_one 9 rfl (by kernel_rfl) ?_
  refine rn_ ?_; intros
  refine hs_ ?_
  refine h_one 10 rfl (by kernel_rfl) ?_
  refine rn_ ?_; intros
  refine hs_ ?_
  refine h_end (by kernel_rfl) ?_
  refine rn_ ?_; intros
  refine xc_ hQ hmb ?_; simp only [SV.den, resV, dens]
  exact .inr ⟨hbq, o, hd, hVO, _, _, rfl, hL3, hv3, ht3⟩
end Go.Proofs.YtpppkednpamhbaaGreat.R
namespace Go.Sx
set_option linter.unusedSimpArgs false
set_option linter.unusedVariables false
open Go.RowKit
theorem lay_suf : ∀ (l1 l2 : List Value) (o : Nat) (us l' : List Value), lay l1 o us = some l' → lay (l1 ++ l2) o us = some (l' ++ l2)
  | l1, l2, o, [], l', h => by cases l1 <;> cases o <;> simp_all [lay]
  | [], l2, o, u :: us, l', h => by simp [lay] at h
  | x :: l1, l2, 0, u :: us, l', h => by
    simp only [lay, Option.map_eq_some_iff] at h
    obtain ⟨q, h1, rfl⟩ := h
    simp only [List.cons_append, lay, lay_suf l1 l2 0 us q h1, Option.map_some]
  | x :: l1, l2, o + 1, u :: us, l', h => by
    simp only [lay, Option.map_eq_some_iff] at h
    obtain ⟨q, h1, rfl⟩ := h
    simp only [List.cons_append, lay, lay_suf l1 l2 o (u :: us) q h1, Option.map_some]
def Zo (a : List Rw) (g : Nat) : Prop := ∃ r ∈ a, r.v.ownBlock = some g
theorem zo_ix {a : List Rw} {g : Nat} : (∃ (i : Nat) (r : Rw), a[i]? = some r ∧ r.v.ownBlock = some g) ↔ Zo a g := by
  constructor
  · rintro ⟨i, r, h1, h2⟩
    exact ⟨r, List.mem_of_getElem? h1, h2⟩
  · rintro ⟨r, h1, h2⟩
    obtain ⟨i, h3⟩ := List.getElem?_of_mem h1
    exact ⟨i, r, h3, h2⟩
def Ap (r r' : Rw) : Prop := ∀ g, r.v.ownBlock = some g → r'.v.ownBlock ≠ some g
theorem Ap.symm {r r' : Rw} (h : Ap r r') : Ap r' r := fun g h1 h2 => h g h2 h1
theorem zr_iff {a : List Rw} {Z M : Nat → Prop} {w : World} : (ZR a).A Z M w ↔ (∀ r ∈ a, w.ownsRow 0 r.e r.size r.v r.n r.xs) ∧ a.Pairwise Ap ∧ (∀ g, Z g ↔ Zo a g) ∧ (∀ g, M g → Z g) := by
  constructor
  · rintro ⟨h1, h2, h3, h4⟩
    refine ⟨fun r hr => ?_, ?_, fun g => (h3 g).trans zo_ix, h4⟩
    · obtain ⟨i, hi⟩ := List.getElem?_of_mem hr
      exact h1 i r hi
    · rw [List.pairwise_iff_getElem]
      intro i j hi hj hij g q q'
      have := h2 i j _ _ g (List.getElem?_eq_getElem hi) (List.getElem?_eq_getElem hj) q q'
      omega
  · rintro ⟨h1, h2, h3, h4⟩
    refine ⟨fun i r e => h1 r (List.mem_of_getElem? e), fun i j r r' g e e' q q' => ?_, fun g => (h3 g).trans zo_ix.symm, h4⟩
    obtain ⟨hi, rfl⟩ := List.getElem?_eq_some_iff.1 e
    obtain ⟨hj, rfl⟩ := List.getElem?_eq_some_iff.1 e'
    rw [List.pairwise_iff_getElem] at h2
    rcases Nat.lt_trichotomy i j with h | h | h
    · exact absurd q' (h2 i j hi hj h g q)
    · exact h
    · exact absurd q (h2 j i hj hi h g q')
theorem zr_perm {a b : List Rw} (h : a.Perm b) {Z M : Nat → Prop} {w : World} (ha : (ZR a).A Z M w) : (ZR b).A Z M w := by
  rw [zr_iff] at ha ⊢
  obtain ⟨h1, h2, h3, h4⟩ := ha
  refine ⟨fun r hr => h1 r (h.mem_iff.2 hr), (h.pairwise_iff fun q => Ap.symm q).1 h2, fun g => (h3 g).trans ?_, h4⟩
  exact ⟨fun ⟨r, q1, q2⟩ => ⟨r, h.mem_iff.1 q1, q2⟩, fun ⟨r, q1, q2⟩ => ⟨r, h.mem_iff.2 q1, q2⟩⟩
section
variable {C : Ctx} {K : List KI} {s : St}
theorem go_zperm (k : Nat) {b : Nat} {rs rs' : List Rw} {Z : Nat → Prop} (hk : lk k s.own = some (b, .z (ZR rs) Z Z)) (hp : rs.Perm rs') (h : SGo C K ⟨s.sl, stk k (b, .z (ZR rs') Z Z) s.own, s.G, s.df⟩) : SGo C K s := by
  intro a w hS
  refine h a w ⟨hS.sl, hS.nt, hS.df, ?_⟩
  exact hS.mem.put hk rfl rfl rfl (Nat.le_refl _) (fun _ _ _ => rfl) (zr_perm hp (hS.mem.own _ _ _ hk).1) (fun j => ⟨fun hg => .inl hg, fun hg => .inl hg⟩)
theorem src_row {k b g n cap size : Nat} {e : TypeId} {xs : List Value} (hk : lk k s.own = some (b, .row (.slice (some ⟨g, 0, none⟩) n cap) e size n xs)) : Src C s (.v (.slice (some ⟨g, 0, none⟩) n cap)) n xs := by
  intro w hm
  have h0 := (hm.own _ _ _ hk).1
  simp only [OO.holds] at h0
  obtain ⟨arr, e', fz, h1, h2, h3⟩ := row_load (P := C.P) h0
  refine ⟨_, _, rfl, fun j u hu => ?_⟩
  have hj : j < xs.length := by
    rcases Nat.lt_or_ge j xs.length with q | q
    · exact q
    · rw [List.getElem?_eq_none q] at hu; cases hu
  rw [add_none, cell_at h1, h3 j hj]; exact hu
end
end Go.Sx
namespace Go.Proofs.YtpppkednpamhbaaGreat
set_option linter.unusedSimpArgs false
set_option linter.unusedVariables false
open Go.Sx
set_option maxHeartbeats 16000000
set_option maxRecDepth 20000
theorem cloneG_ok (l : List VT) (sl : Value) (G : Hp) (hS : rW.S G l sl) (hb : l.length ≤ 1000) : Pure Tryz.prog 78 [sl] G (fun v G' => rW.S G' l v ∧ CapOk v) := by
  obtain ⟨h63, ad, cap, rfl, hsrc⟩ := hS
  refine enterX ty tyok Tryz.func78 rfl Tryz.ntmps78 [.v (.slice ad l.length cap)] (by simp) ?_
  intro C hP hQ hnt hty hmb hmh hro; have hQp := qp_body hQ; refine st_ ?_
  refine rn_ ?_; intros
  refine go_q (by rw [hnt]; rfl) (quiet_snil (by rw [hty]; rfl) rfl rfl) ?_
  refine rn_ ?_; intros
  cases ad with
  | none =>
    have hl : l = [] := by rcases hsrc with h | ⟨b, off, cs, h, _⟩; exact h; cases h
    subst hl
    refine go_slot 4 (.b true) rfl rfl ?_
    refine rn_ ?_; intros
    refine xc_ hQ hmb ?_; simp only [SV.den, resV, dens]
    exact ⟨Rp.S_nil none 0, fun _ _ _ e => by cases e; simp⟩
  | some a =>
    refine go_slot 4 (.b false) rfl rfl ?_
    refine rn_ ?_; intros
    obtain ⟨cs2, hr2, hs2⟩ := Rp.src (r := rW) (cap := cap) hsrc
    have hlen2 := Rp.L_len hr2
    simp only [rW] at hlen2
    refine go_litrow 0 (n := 0) (size := 3) rfl (by omega) rfl (by omega) ?_
    refine st_ ?_
    refine go_append_any 0 (by rw [hnt]; rfl) (by rw [hty]; rfl) (by rw [hty]; rfl) (by decide) rfl rfl rfl (by omega) rfl (hs2.imp id fun f => f _ _ rfl) (by simp only []; omega) (Rp.L_one hr2) (by omega) (by simp only []; omega) ?_
    intro v'
    refine go_rowC 0 rfl ?_
    intro ad2 cap2 e5 hcap5
    subst e5
    refine go_pubL rW 0 rfl (by rw [hmh]; omega) (ts := l) (by simp) (by omega) (by simpa using hr2) ?_
    intro G2 ad6 cap6 (hle2 : Le G G2) e6 hS6
    injection e6 with q1 q2 q3
    subst q1 q3
    refine rn_ ?_; intros
    refine xc_ hQ hmb ?_; simp only [SV.den, resV, dens]
    exact ⟨by simpa using hS6, fun _ _ _ e => by cases e; simpa using hcap5⟩
theorem cloneV_ok (b0 b2 n : Nat) (v : Value) (xs : List Value) (G : Hp) (hone : ∀ u ∈ xs, u.oneCell' = true) (hn : n ≤ 1000) (hxl : xs.length = n * 3) (hb : ∃ ad cap, v = .slice ad n cap) :
    PureT Tryz.prog 78 [v] G [(b0, .row v 42 3 n xs), (b2, .row (.slice none 0 0) 42 3 0 [])] (fun w _ ow => ∃ b1 ad cap, w = .slice ad n cap ∧ n ≤ cap ∧ ow = [(b0, .row v 42 3 n xs), (b1, .row w 42 3 n xs)]) := by
  obtain ⟨ad0, cap0, rfl⟩ := hb
  refine enterT ty tyok Tryz.func78 rfl Tryz.ntmps78 [.v (.slice ad0 n cap0)] (by simp) (by simp) (plainL (by simp only [enumO]; exact (by repeat (first | exact plain_nil | refine plain_cons (fun _ h => h) ?_)))) ?_
  intro C w0 hP hQ hnt hty hmb hmh hro hG0 hb0; have hQp := qp_body hQ; refine st_ ?_
  generalize hrest : restB w0 _ G = Zr
  simp only [enumO, List.cons_append, List.nil_append]
  refine rn_ ?_; intros
  refine go_q (by rw [hnt]; rfl) (quiet_snil (by rw [hty]; rfl) rfl rfl) ?_
  refine go_rowcases 0 rfl ?_ ?_
  · intro e1 e2 e3
    subst e2 e3
    injection e1 with e1 _ e4
    subst e1 e4
    refine rn_ ?_; intros
    refine go_slot 4 (.b true) rfl rfl ?_
    refine rn_ ?_; intros
    refine x_retT rfl hQ hmh hb0 rfl (by first | (simp; done) | decide) rfl (by rw [hty]; simp only [so, sq, zy, zz, tyE, SO', SQ', opQ, opStore, opAlloc, ev, putS, dOk, cv, SV.cs, SV.one, SV.bool?, eqB, Value.oneCell', ldOwn, binInt, binConst, binBool, binStr, isC, TK.agg, rv, rv1, ldV, resOne, resV, Nat.reduceAdd, Nat.reduceMul, Nat.reduceSub, Nat.reduceLT, Nat.reduceLeDiff, Nat.reduceEqDiff, Nat.reduceBEq, reduceIte, reduceCtorEq, eq_self]; try rfl) rfl (by rw [hrest]; rfl) (by first | exact Le.refl _ | assumption) rfl (by simp only [enumO]; exact (by repeat (first | exact plain_nil | refine plain_cons (fun _ h => h) ?_))) ?_; simp only [SV.den, resV, dens]
    exact ⟨b2, none, 0, rfl, by omega, rfl⟩
  · rintro g cap e1 hcap hlen
    injection e1 with e1 _ e4
    subst e1 e4
    refine rn_ ?_; intros
    refine go_slot 4 (.b false) rfl rfl ?_
    refine rn_ ?_; intros
    refine go_litrow 1000 (n := 0) (size := 3) rfl (by omega) rfl (by omega) ?_
    refine st_ ?_
    refine go_append_any 1000 (by rw [hnt]; rfl) (by rw [hty]; rfl) (by rw [hty]; rfl) (by decide) rfl rfl rfl (by omega) rfl (.inr (src_row (k := 0) rfl)) (by simp only []; omega) hone (by omega) (by simp only []; omega) ?_
    intro v'
    refine go_rowC 1000 rfl ?_
    intro ad5 cap5 e5 hcap5
    subst e5
    simp only [Nat.zero_add, List.nil_append]
    refine rn_ ?_; intros
    refine go_drop 1 ?_
    refine st_ ?_
    refine go_rekey 1000 1 rfl rfl (by rw [hmh]; omega) (by rw [hmh]; omega) ?_
    refine st_ ?_
    refine x_retT rfl hQ hmh hb0 rfl (by first | (simp; done) | decide) rfl (by rw [hty]; simp only [so, sq, zy, zz, tyE, SO', SQ', opQ, opStore, opAlloc, ev, putS, dOk, cv, SV.cs, SV.one, SV.bool?, eqB, Value.oneCell', ldOwn, binInt, binConst, binBool, binStr, isC, TK.agg, rv, rv1, ldV, resOne, resV, Nat.reduceAdd, Nat.reduceMul, Nat.reduceSub, Nat.reduceLT, Nat.reduceLeDiff, Nat.reduceEqDiff, Nat.reduceBEq, reduceIte, reduceCtorEq, eq_self]; try rfl) rfl (by rw [hrest]; rfl) (by first | exact Le.refl _ | assumption) rfl (by simp only [enumO]; exact (by repeat (first | exact plain_nil | refine plain_cons (fun _ h => h) ?_))) ?_; simp only [SV.den, resV, dens]
    exact ⟨_, _, _, rfl, by omega, rfl⟩
theorem cloneF_ok (b0 n : Nat) (v : Value) (xs : List Value) (G : Hp) (hone : ∀ u ∈ xs, u.oneCell' = true) (hn : n ≤ 1000) (hxl : xs.length = n * 4) (hb : ∃ ad cap, v = .slice ad n cap) :
    PureT Tryz.prog 77 [v] G [(b0, .row v 90 4 n xs), (0, .row (.slice none 0 0) 90 4 0 [])] (fun w _ ow => ∃ b1 ad cap, w = .slice ad n cap ∧ n ≤ cap ∧ ow = [(b0, .row v 90 4 n xs), (b1, .row w 90 4 n xs)]) := by
  obtain ⟨ad0, cap0, rfl⟩ := hb
  refine enterT ty tyok Tryz.func77 rfl Tryz.ntmps77 [.v (.slice ad0 n cap0)] (by simp) (by simp) (plainL (by simp only [enumO]; exact (by repeat (first | exact plain_nil | refine plain_cons (fun _ h => h) ?_)))) ?_
  intro C w0 hP hQ hnt hty hmb hmh hro hG0 hb0; have hQp := qp_body hQ; refine st_ ?_
  generalize hrest : restB w0 _ G = Zr
  simp only [enumO, List.cons_append, List.nil_append]
  refine rn_ ?_; intros
  refine go_q (by rw [hnt]; rfl) (quiet_snil (by rw [hty]; rfl) rfl rfl) ?_
  refine go_rowcases 0 rfl ?_ ?_
  · intro e1 e2 e3
    subst e2 e3
    injection e1 with e1 _ e4
    subst e1 e4
    refine rn_ ?_; intros
    refine go_slot 4 (.b true) rfl rfl ?_
    refine rn_ ?_; intros
    refine x_retT rfl hQ hmh hb0 rfl (by first | (simp; done) | decide) rfl (by rw [hty]; simp only [so, sq, zy, zz, tyE, SO', SQ', opQ, opStore, opAlloc, ev, putS, dOk, cv, SV.cs, SV.one, SV.bool?, eqB, Value.oneCell', ldOwn, binInt, binConst, binBool, binStr, isC, TK.agg, rv, rv1, ldV, resOne, resV, Nat.reduceAdd, Nat.reduceMul, Nat.reduceSub, Nat.reduceLT, Nat.reduceLeDiff, Nat.reduceEqDiff, Nat.reduceBEq, reduceIte, reduceCtorEq, eq_self]; try rfl) rfl (by rw [hrest]; rfl) (by first | exact Le.refl _ | assumption) rfl (by simp only [enumO]; exact (by repeat (first | exact plain_nil | refine plain_cons (fun _ h => h) ?_))) ?_; simp only [SV.den, resV, dens]
    exact ⟨0, none, 0, rfl, by omega, rfl⟩
  · rintro g cap e1 hcap hlen
    injection e1 with e1 _ e4
    subst e1 e4
    refine rn_ ?_; intros
    refine go_slot 4 (.b false) rfl rfl ?_
    refine rn_ ?_; intros
    refine go_litrow 1000 (n := 0) (size := 4) rfl (by omega) rfl (by omega) ?_
    refine st_ ?_
    refine go_append_any 1000 (by rw [hnt]; rfl) (by rw [hty]; rfl) (by rw [hty]; rfl) (by decide) rfl rfl rfl (by omega) rfl (.inr (src_row (k := 0) rfl)) (by simp only []; omega) hone (by omega) (by simp only []; omega) ?_
    intro v'
    refine go_rowC 1000 rfl ?_
    intro ad5 cap5 e5 hcap5
    subst e5
    simp only [Nat.zero_add, List.nil_append]
    refine rn_ ?_; intros
    refine go_drop 1 ?_
    refine st_ ?_
    refine go_rekey 1000 1 rfl rfl (by rw [hmh]; omega) (by rw [hmh]; omega) ?_
    refine st_ ?_
    refine x_retT rfl hQ hmh hb0 rfl (by first | (simp; done) | decide) rfl (by rw [hty]; simp only [so, sq, zy, zz, tyE, SO', SQ', opQ, opStore, opAlloc, ev, putS, dOk, cv, SV.cs, SV.one, SV.bool?, eqB, Value.oneCell', ldOwn, binInt, binConst, binBool, binStr, isC, TK.agg, rv, rv1, ldV, resOne, resV, Nat.reduceAdd, Nat.reduceMul, Nat.reduceSub, Nat.reduceLT, Nat.reduceLeDiff, Nat.reduceEqDiff, Nat.reduceBEq, reduceIte, reduceCtorEq, eq_self]; try rfl) rfl (by rw [hrest]; rfl) (by first | exact Le.refl _ | assumption) rfl (by simp only [enumO]; exact (by repeat (first | exact plain_nil | refine plain_cons (fun _ h => h) ?_))) ?_; simp only [SV.den, resV, dens]
    exact ⟨_, _, _, rfl, by omega, rfl⟩
end Go.Proofs.YtpppkednpamhbaaGreat
namespace Go.Proofs.YtpppkednpamhbaaGreat
set_option linter.unusedSimpArgs false
set_option linter.unusedVariables false
open Go.Sx
set_option maxHeartbeats 16000000
set_option maxRecDepth 20000
theorem encF_app : ∀ a b : List Fw, encF (a ++ b) = encF b ++ encF a
  | [], b => by simp [encF]
  | x :: a, b => by simp only [List.cons_append, encF, encF_app a b, List.append_assoc]
theorem encF_mid (ra : List Fw) (x : Fw) (lo : List Fw) : encF (ra ++ x :: lo) = encF lo ++ (cellsF x ++ encF ra) := by
  rw [encF_app]
  simp only [encF, List.append_assoc]
theorem encF_ldm {x : Fw} {ra lo : List Fw} {j off : Nat} {u : Value} (ho : off = lo.length * 4 + j) (hu : (cellsF x)[j]? = some u) : ldV false (((encF (ra ++ x :: lo)).drop off).take 1) = u := by
  subst ho
  rw [encF_mid, ← List.drop_drop, ← encF_len lo, List.drop_left]
  match j, hu with
  | 0, hu => simpa [cellsF, ldV] using hu
  | 1, hu => simpa [cellsF, ldV] using hu
  | 2, hu => simpa [cellsF, ldV] using hu
  | 3, hu => simpa [cellsF, ldV] using hu
  | n + 4, hu => simp [cellsF] at hu
theorem encF_laym {x x' : Fw} {ra lo : List Fw} {j off : Nat} {us vs : List Value} (ho : off = lo.length * 4 + j) (hv : vs = us) (hu : lay (cellsF x) j us = some (cellsF x')) : lay (encF (ra ++ x :: lo)) off vs = some (encF (ra ++ x' :: lo)) := by
  subst ho hv
  rw [encF_mid, encF_mid]
  have := lay_app (lay_suf _ (encF ra) _ _ _ hu) (encF lo)
  rw [encF_len lo] at this
  exact this
theorem encF_one {G : Hp} : ∀ {l : List Fm} {rs : List Fw}, fsOk G l rs → ∀ u ∈ encF rs, u.oneCell' = true
  | [], rs, h, u, hu => by simp only [fsOk] at h; subst h; simp [encF] at hu
  | m :: l, rs, h, u, hu => by
    obtain ⟨x, r, rfl, h1, h2⟩ := h
    simp only [encF, List.mem_append] at hu
    rcases hu with hu | hu
    · exact encF_one h2 u hu
    · obtain ⟨_, _, hv⟩ := Rp.S_slice h1.vars
      obtain ⟨_, _, _, _, _, _, _, hd, _⟩ := h1.done
      simp only [cellsF, List.mem_cons, List.not_mem_nil, or_false] at hu
      rcases hu with rfl | rfl | rfl | rfl
      · rfl
      · rfl
      · rw [hv]; rfl
      · rw [hd]; rfl
theorem fsOk_mid {G : Hp} {m : Fm} {c : List Fm} {x : Fw} {rc : List Fw} : ∀ {a : List Fm} {ra : List Fw}, ra.length = a.length → fsOk G (a ++ m :: c) (ra ++ x :: rc) → frOk G m x
  | [], [], _, h => by
    obtain ⟨x', r, e, h1, h2⟩ := h
    injection e with e1 e2
    rw [e1]; exact h1
  | [], _ :: _, hl, _ => by simp at hl
  | _ :: _, [], hl, _ => by simp at hl
  | y :: a, z :: ra, hl, h => by
    obtain ⟨x', r, e, h1, h2⟩ := h
    injection e with e1 e2
    rw [← e2] at h2
    exact fsOk_mid (by simpa using hl) h2
theorem copyf_ok (b cb : Nat) (s : Fb) (ow : Lds) (G : Hp) (hfb : fbO G b cb s ow) :
    PureT Tryz.prog 44 [.pointer (some ⟨b, 0, none⟩)] G (ow ++ nilO) (fun v G' ow' => ∃ b' o1 o2, v = .pointer (some ⟨b', 0, none⟩) ∧ ow' = o1 ++ o2 ∧ fbO G' b cb s o1 ∧ fbO G' b' cb s o2) := by
  obtain ⟨vl, fs, b1, b2, b3, rs, Z, hvl, htv, hfs, hl256, hdn, rfl⟩ := hfb
  obtain ⟨vA, vC, rfl⟩ := VT.rep_slice hvl
  have hlen := hfs.len
  simp only [nilO, List.cons_append, List.nil_append]
  refine enterT ty tyok Tryz.func44 rfl Tryz.ntmps44 [.p 0 b 0] (by simp) (by simp) (plainL (by simp only [enumO]; exact (by repeat (first | exact plain_nil | refine plain_cons (fun _ h => h) ?_)))) ?_
  intro C w0 hP hQ hnt hty hmb hmh hro hG0 hb0; have hQp := qp_body hQ; refine st_ ?_
  generalize hrest : restB w0 _ G = Zr
  simp only [enumO, fhO, frO, fzO, fdO, rw0, List.cons_append, List.nil_append]
  refine go_rowC 1 rfl ?_
  intro ad cap e5 hcap
  subst e5
  refine rn_ ?_; intros
  refine go_callW [0] (by rw [hnt]; rfl) (by rw [hP]; kernel_rfl) rfl rfl rfl (.inl (by rw [hmh]; simp)) (by rw [hP]; exact miss_ok b cb s.st s.val.k s.val.n _ _ G) ?_
  rintro v5 G1 ow5 (hle1 : Le G G1) ⟨rfl, rfl⟩
  simp only [setO, stk, fhO]
  refine rn_ ?_; intros
  (refine x_split rfl rfl rfl (fun hc => absurd hc (by first | decide +kernel | (simp; first | done | fail))) (fun _ => ?_); refine st_ ?_; (refine ru_ ?_; intros))
  refine rn_ ?_; intros
  refine x_held [(0, b, .c 93 [.v (.pointer (some ⟨cb, 0, none⟩)), .v (.int .i64 s.st), .v (.int .i64 s.val.k), .v (.int .i64 s.val.n), .v (.slice vA s.val.l.length vC), .v (.slice ad rs.length cap)])] rfl (by rw [hP]; kernel_rfl) rfl rfl rfl ?_; refine st_ ?_
  refine tq_ 0 rfl (quiet_op (by rw [hty]; first | rfl | (refine st_ ?_; rfl))) ?_; refine st_ ?_
  refine tq_ 1 rfl (quiet_op (by rw [hty]; first | rfl | (refine st_ ?_; rfl))) ?_; refine st_ ?_
  refine tq_ 2 rfl (quiet_op (by rw [hty]; first | rfl | (refine st_ ?_; rfl))) ?_; refine st_ ?_
  refine tq_ 3 rfl (quiet_op (by rw [hty]; first | rfl | (refine st_ ?_; rfl))) ?_; refine st_ ?_
  refine tq_ 4 rfl (quiet_op (by rw [hty]; first | rfl | (refine st_ ?_; rfl))) ?_; refine st_ ?_
  refine tq_ 5 rfl (quiet_op (by rw [hty]; first | rfl | (refine st_ ?_; rfl))) ?_; refine st_ ?_
  refine tq_ 6 rfl (quiet_op (by rw [hty]; first | rfl | (refine st_ ?_; rfl))) ?_; refine st_ ?_
  refine tq_ 7 rfl (quiet_op (by rw [hty]; first | rfl | (refine st_ ?_; rfl))) ?_; refine st_ ?_
  refine tq_ 8 rfl (quiet_op (by rw [hty]; first | rfl | (refine st_ ?_; rfl))) ?_; refine st_ ?_
  refine tq_ 9 rfl (quiet_op (by rw [hty]; first | rfl | (refine st_ ?_; rfl))) ?_; refine st_ ?_
  refine tq_ 10 rfl (quiet_op (by rw [hty]; first | rfl | (refine st_ ?_; rfl))) ?_; refine st_ ?_
  refine tq_ 11 rfl (quiet_op (by rw [hty]; first | rfl | (refine st_ ?_; rfl))) ?_; refine st_ ?_
  refine tq_ 12 rfl (quiet_op (by rw [hty]; first | rfl | (refine st_ ?_; rfl))) ?_; refine st_ ?_
  refine tq_ 13 rfl (quiet_op (by rw [hty]; first | rfl | (refine st_ ?_; rfl))) ?_; refine st_ ?_
  refine tq_ 14 rfl (quiet_op (by rw [hty]; first | rfl | (refine st_ ?_; rfl))) ?_; refine st_ ?_
  refine tq_ 15 rfl (quiet_op (by rw [hty]; first | rfl | (refine st_ ?_; rfl))) ?_; refine st_ ?_
  refine h_one 16 rfl (by kernel_rfl) ?_
  refine go_drop 4 ?_
  refine st_ ?_
  refine go_nilrow 4 90 4 rfl (by rw [hmh]; omega) ?_
  refine st_ ?_
  refine go_callT [1, 4] (by rw [hnt]; rfl) (by rw [hP]; kernel_rfl) rfl rfl rfl (by rw [hmh]; simp) (by rw [hP]; exact cloneF_ok b1 rs.length _ _ G1 (encF_one hfs) (by omega) (encF_len rs) ⟨_, _, rfl⟩) ?_
  rintro v6 G2 ow6 (hle2 : Le G1 G2) ⟨b9, ad9, cap9, rfl, hcap9, rfl⟩
  simp only [setO, stk]
  refine rn_ ?_; intros
  refine hs_ ?_
  refine tq_ 17 rfl (quiet_op (by rw [hty]; first | rfl | (refine st_ ?_; rfl))) ?_; refine st_ ?_
  refine h_one 18 rfl (by kernel_rfl) ?_
  refine rn_ ?_; intros
  refine hs_ ?_
  refine h_one 19 rfl (by kernel_rfl) ?_
  refine rn_ ?_; intros
  refine hs_ ?_
  refine h_end (by kernel_rfl) ?_
  refine rn_ ?_; intros
  rename_i b8
  refine go_drop 5 ?_
  refine st_ ?_
  refine go_rekey 4 5 rfl rfl (by rw [hmh]; omega) (by rw [hmh]; omega) ?_
  refine go_rekey 1000 4 rfl rfl (by rw [hmh]; omega) (by rw [hmh]; omega) ?_
  refine go_drop 6 ?_
  refine st_ ?_
  refine go_znil 6 rfl (by rw [hmh]; omega) ?_
  intro Z6
  refine st_ ?_
  refine go_slot 3 (.p 4 b8 0) rfl rfl ?_
  refine go_keep [2, 3, 30, 31] [0, 1, 2, 3, 4, 5, 6, 7, 999] ?_
  refine st_ ?_
  have hle12 := hle1.trans hle2
  refine x_loop (n := rs.length) rfl (fun q s' => ∃ (i : Nat) (G3 : Hp) (rs' : List Fw) (zl : List Rw) (ZA ZB : Nat → Prop) (b7 : Nat), i ≤ rs.length ∧ q = rs.length - i ∧ Le G2 G3 ∧ rs'.length = rs.length ∧
    ((i < rs.length ∧ ∃ (a c : List Fm) (ra rc lo : List Fw), s.l = a ++ c ∧ rs = ra ++ rc ∧ ra.length = a.length ∧ lo.length = i ∧ rc.length = i ∧ rs' = ra ++ lo ∧ fsOk G3 c lo ∧ zl = lo.map (·.done)) ∨
      (i = rs.length ∧ fsOk G3 s.l rs' ∧ zl = (rs'.drop 1).map (·.done) ∧ ∀ m x, s.l.head? = some m → rs'.head? = some x → rW.S G3 m.done x.done.v)) ∧
    s' = ⟨[(2, .v (.pointer none)), (3, .p 4 b8 0), (30, .v (.int .i64 rs.length)), (31, .v (.int .i64 i))], [(0, b, .c 93 [.v (.pointer (some ⟨cb, 0, none⟩)), .v (.int .i64 s.st), .v (.int .i64 s.val.k), .v (.int .i64 s.val.n), .v (.slice vA s.val.l.length vC), .v (.slice ad rs.length cap)]), (1, b1, .row (.slice ad rs.length cap) 90 4 rs.length (encF rs)), (2, b2, .z (ZR ((rs.drop 1).map (·.done))) ZA ZA), (3, b3, .row (.slice none 0 0) 42 3 0 []),
      (4, b8, .c 93 [.v (.pointer (some ⟨cb, 0, none⟩)), .v (.int .i64 s.st), .v (.int .i64 s.val.k), .v (.int .i64 s.val.n), .v (.slice vA s.val.l.length vC), .v (.slice ad9 rs.length cap9)]), (5, b9, .row (.slice ad9 rs.length cap9) 90 4 rs.length (encF rs')), (6, 0, .z (ZR zl) ZB ZB), (7, b7, .row (.slice none 0 0) 42 3 0 []), (999, 0, .z (ZRest w0) Zr Zr)], G3, []⟩) ?_ ?_
  · refine ⟨0, G2, rs, [], Z, Z6, 0, by omega, rfl, Le.refl _, rfl, ?_, rfl⟩
    rcases Nat.eq_zero_or_pos rs.length with h0 | h0
    · have hr0 := List.eq_nil_of_length_eq_zero h0
      subst hr0
      exact .inr ⟨rfl, hfs.mono hle12, rfl, fun _ _ _ e => by simp at e⟩
    · exact .inl ⟨h0, s.l, [], rs, [], [], by simp, by simp, hlen, rfl, rfl, by simp, rfl, rfl⟩
  rintro q s' ⟨i, G3, rs', zl, ZA, ZB, b7, hi, hq, hle3, hrl, hinv, rfl⟩ ih
  have hle13 := hle12.trans hle3
  refine rn_ ?_; intros
  refine x_if rfl rfl rfl rfl (fun hil => ?_) (fun hil => ?_)
  · have hlt : i < rs.length := by simp at hil; omega
    rcases hinv with ⟨_, a, c, ra, rc, lo, hsa, hra, hral, hloi, hrci, rfl, hlo, rfl⟩ | ⟨h, _⟩
    rotate_left
    · omega
    subst hloi
    have hane : ra ≠ [] := by rintro rfl; simp at hra; rw [hra] at hlt; omega
    obtain ⟨ra', x, rfl⟩ : ∃ ra' x, ra = ra' ++ [x] := ⟨_, _, (List.dropLast_concat_getLast hane).symm⟩
    have hane2 : a ≠ [] := by rintro rfl; simp at hral
    obtain ⟨a', m, rfl⟩ : ∃ a' m, a = a' ++ [m] := ⟨_, _, (List.dropLast_concat_getLast hane2).symm⟩
    simp only [List.append_assoc, List.singleton_append, List.length_append, List.length_singleton, Nat.add_right_cancel_iff] at hsa hra hral hrl
    have hx : frOk G3 m x := by
      have := hfs.mono hle13
      rw [hsa, hra] at this
      exact fsOk_mid hral this
    obtain ⟨xfn, xnd, xvars, xe, xsz, xdv, xn, xxs⟩ := x
    obtain ⟨x1, x2, x3, x4, x5, x6, x7⟩ := hx
    obtain ⟨d1, d2, d3, d4, d5, adx, capx, d6, d7⟩ := x7
    simp only at x1 x2 x5 x6 d1 d2 d3 d4 d5 d6
    subst x1 x2 d1 d2 d3 d6
    refine go_rowcases 5 rfl (fun _ h _ => by omega) ?_
    rintro g9 cap9' e9 hcap9' hlen9
    injection e9 with e1 _ e3
    subst e1 e3
    simp only [List.append_assoc, List.singleton_append]
    have hrsl : rs.length = ra'.length + 1 + lo.length := by rw [hra]; simp; omega
    have hel : (encF (ra' ++ ⟨m.fn, m.nd, xvars, ⟨42, 3, .slice adx m.done.length capx, m.done.length, xxs⟩⟩ :: lo)).length = (ra'.length + 1 + lo.length) * 4 := by rw [encF_len]; simp; omega
    by_cases htop : ra' = []
    · have ha0 : a' = [] := List.eq_nil_of_length_eq_zero (by rw [← hral, htop]; rfl)
      have hsa' : s.l = m :: c := by rw [hsa, ha0]; rfl
      have hra1 : rs = ⟨m.fn, m.nd, xvars, ⟨42, 3, .slice adx m.done.length capx, m.done.length, xxs⟩⟩ :: rc := by rw [hra, htop]; rfl
      have hds := Rp.S_mono hle13 (hdn m _ (by rw [hsa']; rfl) (by rw [hra1]; rfl))
      have hl0 : ra'.length = 0 := by rw [htop]; rfl
      refine rn_ ?_; intros
      refine x_heldP [(4, b8, .c 93 [.v (.pointer (some ⟨cb, 0, none⟩)), .v (.int .i64 s.st), .v (.int .i64 s.val.k), .v (.int .i64 s.val.n), .v (.slice vA s.val.l.length vC), .v (.slice (some ⟨g9, 0, none⟩) rs.length cap9)]), (5, b9, .row (.slice (some ⟨g9, 0, none⟩) rs.length cap9) 90 4 rs.length (encF (ra' ++ ⟨m.fn, m.nd, xvars, ⟨42, 3, .slice adx m.done.length capx, m.done.length, xxs⟩⟩ :: lo)))] 16 rfl (by rw [hP]; kernel_rfl) rfl rfl rfl ?_; refine st_ ?_
      refine hu_take 0 rfl (by kernel_rfl) (by kernel_rfl) (by kernel_rfl) (by kernel_rfl) rfl (fun c a w v => hQp c a w _ v) (by rw [hnt]; rfl) (allIn (by repeat (first | exact trivial | refine ⟨rfl, ?_⟩))) (by first | exact Le.refl _ | assumption) (quiet_op (by rw [hty]; first | rfl | (refine st_ ?_; rfl))) ?_; refine st_ ?_
      refine hu_take 1 rfl (by kernel_rfl) (by kernel_rfl) (by kernel_rfl) (by kernel_rfl) rfl (fun c a w v => hQp c a w _ v) (by rw [hnt]; rfl) (allIn (by repeat (first | exact trivial | refine ⟨rfl, ?_⟩))) (by first | exact Le.refl _ | assumption) (quiet_op (by rw [hty]; first | rfl | (refine st_ ?_; rfl))) ?_; refine st_ ?_
      refine hu_take 2 rfl (by kernel_rfl) (by kernel_rfl) (by kernel_rfl) (by kernel_rfl) rfl (fun c a w v => hQp c a w _ v) (by rw [hnt]; rfl) (allIn (by repeat (first | exact trivial | refine ⟨rfl, ?_⟩))) (by first | exact Le.refl _ | assumption) (quiet_op (by rw [hty]; first | rfl | (refine st_ ?_; rfl))) ?_; refine st_ ?_
      refine hu_take 3 rfl (by kernel_rfl) (by kernel_rfl) (by kernel_rfl) (by kernel_rfl) rfl (fun c a w v => hQp c a w _ v) (by rw [hnt]; rfl) (allIn (by repeat (first | exact trivial | refine ⟨rfl, ?_⟩))) (by first | exact Le.refl _ | assumption) (quiet_op (by rw [hty]; first | rfl | (refine st_ ?_; rfl))) ?_; refine st_ ?_
      refine hu_take 4 rfl (by kernel_rfl) (by kernel_rfl) (by kernel_rfl) (by kernel_rfl) rfl (fun c a w v => hQp c a w _ v) (by rw [hnt]; rfl) (allIn (by repeat (first | exact trivial | refine ⟨rfl, ?_⟩))) (by first | exact Le.refl _ | assumption) (quiet_op (by rw [hty]; first | rfl | (refine st_ ?_; rfl))) ?_; refine st_ ?_
      refine hu_take 5 rfl (by kernel_rfl) (by kernel_rfl) (by kernel_rfl) (by kernel_rfl) rfl (fun c a w v => hQp c a w _ v) (by rw [hnt]; rfl) (allIn (by repeat (first | exact trivial | refine ⟨rfl, ?_⟩))) (by first | exact Le.refl _ | assumption) (quiet_op (by rw [hty]; first | rfl | (refine st_ ?_; rfl))) ?_; refine st_ ?_
      refine hu_take 6 rfl (by kernel_rfl) (by kernel_rfl) (by kernel_rfl) (by kernel_rfl) rfl (fun c a w v => hQp c a w _ v) (by rw [hnt]; rfl) (allIn (by repeat (first | exact trivial | refine ⟨rfl, ?_⟩))) (by first | exact Le.refl _ | assumption) (quiet_op (by rw [hty]; first | rfl | (refine st_ ?_; rfl))) ?_; refine st_ ?_
      refine hu_take 7 rfl (by kernel_rfl) (by kernel_rfl) (by kernel_rfl) (by kernel_rfl) rfl (fun c a w v => hQp c a w _ v) (by rw [hnt]; rfl) (allIn (by repeat (first | exact trivial | refine ⟨rfl, ?_⟩))) (by first | exact Le.refl _ | assumption) (quiet_op (by rw [hty]; first | rfl | (refine st_ ?_; rfl))) ?_; refine st_ ?_
      refine hu_take 8 rfl (by kernel_rfl) (by kernel_rfl) (by kernel_rfl) (by kernel_rfl) rfl (fun c a w v => hQp c a w _ v) (by rw [hnt]; rfl) (allIn (by repeat (first | exact trivial | refine ⟨rfl, ?_⟩))) (by first | exact Le.refl _ | assumption) (quiet_op (by rw [hty]; first | rfl | (refine st_ ?_; rfl))) ?_; refine st_ ?_
      refine hu_take 9 rfl (by kernel_rfl) (by kernel_rfl) (by kernel_rfl) (by kernel_rfl) rfl (fun c a w v => hQp c a w _ v) (by rw [hnt]; rfl) (allIn (by repeat (first | exact trivial | refine ⟨rfl, ?_⟩))) (by first | exact Le.refl _ | assumption) (quiet_op (by rw [hty]; first | rfl | (refine st_ ?_; rfl))) ?_; refine st_ ?_
      refine hu_take 10 rfl (by kernel_rfl) (by kernel_rfl) (by kernel_rfl) (by kernel_rfl) rfl (fun c a w v => hQp c a w _ v) (by rw [hnt]; rfl) (allIn (by repeat (first | exact trivial | refine ⟨rfl, ?_⟩))) (by first | exact Le.refl _ | assumption) (x := .v (.pointer (some ⟨g9, lo.length * 4, none⟩))) ((quiet_index (by rw [hty]; rfl) (by rw [hty]; rfl) rfl rfl rfl (by omega) (by omega)).cast (by simp [SV.den])) ?_
      refine st_ ?_
      refine hu_take 11 rfl (by kernel_rfl) (by kernel_rfl) (by kernel_rfl) (by kernel_rfl) rfl (fun c a w v => hQp c a w _ v) (by rw [hnt]; rfl) (allIn (by repeat (first | exact trivial | refine ⟨rfl, ?_⟩))) (by first | exact Le.refl _ | assumption) (quiet_op (by rw [hty]; first | rfl | (refine st_ ?_; rfl))) ?_; refine st_ ?_
      refine hu_take 12 rfl (by kernel_rfl) (by kernel_rfl) (by kernel_rfl) (by kernel_rfl) rfl (fun c a w v => hQp c a w _ v) (by rw [hnt]; rfl) (allIn (by repeat (first | exact trivial | refine ⟨rfl, ?_⟩))) (by first | exact Le.refl _ | assumption) (x := .v (.slice adx m.done.length capx)) ((quiet_loadR (k := 5) (by rw [hty]; rfl) rfl (by simp [TK.agg]) rfl (by simp only []; omega)).cast (by exact encF_ldm (j := 3) (by omega) rfl)) ?_
      refine st_ ?_
      refine hu_one 13 rfl (by kernel_rfl) ?_
      refine go_call (by rw [hnt]; rfl) (by rw [hP]; kernel_rfl) rfl (hP ▸ cloneG_ok m.done _ G3 hds d5) ?_
      rintro v3 G4 (hle4 : Le G3 G4) ⟨hS4, hc4⟩
      obtain ⟨ad4, cap4, rfl⟩ := Rp.S_slice hS4
      obtain ⟨cs4, hcs4, _⟩ := Rp.srcS hS4
      refine rn_ ?_; intros
      refine hs_ ?_
      refine hu_takeB 14 [14, 15, 16] rfl (by kernel_rfl) (by kernel_rfl) (by kernel_rfl) (by kernel_rfl) (fun c a w v => hQp c a w _ v) (by rw [hnt]; rfl) (allIn (by repeat (first | exact trivial | refine ⟨rfl, ?_⟩))) (by first | exact Le.refl _ | assumption) (x := .v (.pointer (some ⟨g9, lo.length * 4, none⟩))) ((quiet_index (by rw [hty]; rfl) (by rw [hty]; rfl) rfl rfl rfl (by omega) (by omega)).cast (by simp [SV.den])) ?_
      refine st_ ?_
      refine hu_take 15 rfl (by kernel_rfl) (by kernel_rfl) (by kernel_rfl) (by kernel_rfl) rfl (fun c a w v => hQp c a w _ v) (by rw [hnt]; rfl) (allIn (by repeat (first | exact trivial | refine ⟨rfl, ?_⟩))) (by first | exact Le.refl _ | assumption) (quiet_op (by rw [hty]; first | rfl | (refine st_ ?_; rfl))) ?_; refine st_ ?_
      refine hu_last 16 [] rfl (by kernel_rfl) rfl ?_
      refine go_storeR (k := 5) (xs' := encF (ra' ++ ⟨m.fn, m.nd, xvars, ⟨42, 3, .slice ad4 m.done.length cap4, m.done.length, cs4⟩⟩ :: lo)) (by rw [hnt]; rfl) (by rw [hty]; rfl) rfl rfl rfl rfl rfl rfl (encF_laym (j := 3) (us := [.slice ad4 m.done.length cap4]) (by omega) rfl rfl) ?_
      refine rn_ ?_; intros
      refine h_end (by kernel_rfl) ?_
      refine rn_ ?_; intros
      rw [wr (n := (lo.length : Int) + 1) (by omega) (by omega)]
      refine go_keep [2, 3, 30, 31] [0, 1, 2, 3, 4, 5, 6, 7, 999] ?_
      refine st_ ?_
      refine ih (rs.length - (lo.length + 1)) _ (by omega) ⟨lo.length + 1, G4, ra' ++ ⟨m.fn, m.nd, xvars, ⟨42, 3, .slice ad4 m.done.length cap4, m.done.length, cs4⟩⟩ :: lo, lo.map (·.done), ZA, ZB, b7, by omega, rfl, hle3.trans hle4, by simp; omega, .inr ⟨by omega, ?_, ?_, ?_⟩, rfl⟩
      · rw [hsa', htop]
        exact ⟨_, _, rfl, ⟨rfl, rfl, x3, x4, x5, Rp.S_mono hle4 x6, ⟨rfl, rfl, rfl, hcs4, d5, _, _, rfl, hc4 _ _ _ rfl⟩⟩, hlo.mono hle4⟩
      · rw [htop]; rfl
      · intro m' x' q1 q2
        rw [hsa'] at q1
        rw [htop] at q2
        cases q1
        cases q2
        exact hS4
    · obtain ⟨y, ra2, hgr⟩ : ∃ y ra2, ra' = y :: ra2 := List.exists_cons_of_ne_nil htop
      have hz : ((rs.drop 1).map (·.done)).Perm (⟨42, 3, .slice adx m.done.length capx, m.done.length, xxs⟩ :: (ra2.map (·.done) ++ rc.map (·.done))) := by
        rw [hra, hgr]
        simp
      refine go_zperm 2 rfl hz ?_
      refine st_ ?_
      refine go_zpop 2 3 rfl rfl (by decide) (.inl ⟨by rw [hmh]; omega, by rw [hmh]; omega⟩) ?_
      intro ZA2
      refine st_ ?_
      refine rn_ ?_; intros
      refine x_heldP [(4, b8, .c 93 [.v (.pointer (some ⟨cb, 0, none⟩)), .v (.int .i64 s.st), .v (.int .i64 s.val.k), .v (.int .i64 s.val.n), .v (.slice vA s.val.l.length vC), .v (.slice (some ⟨g9, 0, none⟩) rs.length cap9)]), (5, b9, .row (.slice (some ⟨g9, 0, none⟩) rs.length cap9) 90 4 rs.length (encF (ra' ++ ⟨m.fn, m.nd, xvars, ⟨42, 3, .slice adx m.done.length capx, m.done.length, xxs⟩⟩ :: lo)))] 16 rfl (by rw [hP]; kernel_rfl) rfl rfl rfl ?_; refine st_ ?_
      refine hu_take 0 rfl (by kernel_rfl) (by kernel_rfl) (by kernel_rfl) (by kernel_rfl) rfl (fun c a w v => hQp c a w _ v) (by rw [hnt]; rfl) (allIn (by repeat (first | exact trivial | refine ⟨rfl, ?_⟩))) (by first | exact Le.refl _ | assumption) (quiet_op (by rw [hty]; first | rfl | (refine st_ ?_; rfl))) ?_; refine st_ ?_
      refine hu_take 1 rfl (by kernel_rfl) (by kernel_rfl) (by kernel_rfl) (by kernel_rfl) rfl (fun c a w v => hQp c a w _ v) (by rw [hnt]; rfl) (allIn (by repeat (first | exact trivial | refine ⟨rfl, ?_⟩))) (by first | exact Le.refl _ | assumption) (quiet_op (by rw [hty]; first | rfl | (refine st_ ?_; rfl))) ?_; refine st_ ?_
      refine hu_take 2 rfl (by kernel_rfl) (by kernel_rfl) (by kernel_rfl) (by kernel_rfl) rfl (fun c a w v => hQp c a w _ v) (by rw [hnt]; rfl) (allIn (by repeat (first | exact trivial | refine ⟨rfl, ?_⟩))) (by first | exact Le.refl _ | assumption) (quiet_op (by rw [hty]; first | rfl | (refine st_ ?_; rfl))) ?_; refine st_ ?_
      refine hu_take 3 rfl (by kernel_rfl) (by kernel_rfl) (by kernel_rfl) (by kernel_rfl) rfl (fun c a w v => hQp c a w _ v) (by rw [hnt]; rfl) (allIn (by repeat (first | exact trivial | refine ⟨rfl, ?_⟩))) (by first | exact Le.refl _ | assumption) (quiet_op (by rw [hty]; first | rfl | (refine st_ ?_; rfl))) ?_; refine st_ ?_
      refine hu_take 4 rfl (by kernel_rfl) (by kernel_rfl) (by kernel_rfl) (by kernel_rfl) rfl (fun c a w v => hQp c a w _ v) (by rw [hnt]; rfl) (allIn (by repeat (first | exact trivial | refine ⟨rfl, ?_⟩))) (by first | exact Le.refl _ | assumption) (quiet_op (by rw [hty]; first | rfl | (refine st_ ?_; rfl))) ?_; refine st_ ?_
      refine hu_take 5 rfl (by kernel_rfl) (by kernel_rfl) (by kernel_rfl) (by kernel_rfl) rfl (fun c a w v => hQp c a w _ v) (by rw [hnt]; rfl) (allIn (by repeat (first | exact trivial | refine ⟨rfl, ?_⟩))) (by first | exact Le.refl _ | assumption) (quiet_op (by rw [hty]; first | rfl | (refine st_ ?_; rfl))) ?_; refine st_ ?_
      refine hu_take 6 rfl (by kernel_rfl) (by kernel_rfl) (by kernel_rfl) (by kernel_rfl) rfl (fun c a w v => hQp c a w _ v) (by rw [hnt]; rfl) (allIn (by repeat (first | exact trivial | refine ⟨rfl, ?_⟩))) (by first | exact Le.refl _ | assumption) (quiet_op (by rw [hty]; first | rfl | (refine st_ ?_; rfl))) ?_; refine st_ ?_
      refine hu_take 7 rfl (by kernel_rfl) (by kernel_rfl) (by kernel_rfl) (by kernel_rfl) rfl (fun c a w v => hQp c a w _ v) (by rw [hnt]; rfl) (allIn (by repeat (first | exact trivial | refine ⟨rfl, ?_⟩))) (by first | exact Le.refl _ | assumption) (quiet_op (by rw [hty]; first | rfl | (refine st_ ?_; rfl))) ?_; refine st_ ?_
      refine hu_take 8 rfl (by kernel_rfl) (by kernel_rfl) (by kernel_rfl) (by kernel_rfl) rfl (fun c a w v => hQp c a w _ v) (by rw [hnt]; rfl) (allIn (by repeat (first | exact trivial | refine ⟨rfl, ?_⟩))) (by first | exact Le.refl _ | assumption) (quiet_op (by rw [hty]; first | rfl | (refine st_ ?_; rfl))) ?_; refine st_ ?_
      refine hu_take 9 rfl (by kernel_rfl) (by kernel_rfl) (by kernel_rfl) (by kernel_rfl) rfl (fun c a w v => hQp c a w _ v) (by rw [hnt]; rfl) (allIn (by repeat (first | exact trivial | refine ⟨rfl, ?_⟩))) (by first | exact Le.refl _ | assumption) (quiet_op (by rw [hty]; first | rfl | (refine st_ ?_; rfl))) ?_; refine st_ ?_
      refine hu_take 10 rfl (by kernel_rfl) (by kernel_rfl) (by kernel_rfl) (by kernel_rfl) rfl (fun c a w v => hQp c a w _ v) (by rw [hnt]; rfl) (allIn (by repeat (first | exact trivial | refine ⟨rfl, ?_⟩))) (by first | exact Le.refl _ | assumption) (x := .v (.pointer (some ⟨g9, lo.length * 4, none⟩))) ((quiet_index (by rw [hty]; rfl) (by rw [hty]; rfl) rfl rfl rfl (by omega) (by omega)).cast (by simp [SV.den])) ?_
      refine st_ ?_
      refine hu_take 11 rfl (by kernel_rfl) (by kernel_rfl) (by kernel_rfl) (by kernel_rfl) rfl (fun c a w v => hQp c a w _ v) (by rw [hnt]; rfl) (allIn (by repeat (first | exact trivial | refine ⟨rfl, ?_⟩))) (by first | exact Le.refl _ | assumption) (quiet_op (by rw [hty]; first | rfl | (refine st_ ?_; rfl))) ?_; refine st_ ?_
      refine hu_take 12 rfl (by kernel_rfl) (by kernel_rfl) (by kernel_rfl) (by kernel_rfl) rfl (fun c a w v => hQp c a w _ v) (by rw [hnt]; rfl) (allIn (by repeat (first | exact trivial | refine ⟨rfl, ?_⟩))) (by first | exact Le.refl _ | assumption) (x := .v (.slice adx m.done.length capx)) ((quiet_loadR (k := 5) (by rw [hty]; rfl) rfl (by simp [TK.agg]) rfl (by simp only []; omega)).cast (by exact encF_ldm (j := 3) (by omega) rfl)) ?_
      refine st_ ?_
      refine hu_one 13 rfl (by kernel_rfl) ?_
      refine go_callT [3, 7] (by rw [hnt]; rfl) (by rw [hP]; kernel_rfl) rfl rfl rfl (by rw [hmh]; simp) (by rw [hP]; exact cloneV_ok b3 b7 m.done.length _ xxs G3 (Rp.L_one d4) d5 (Rp.L_len d4) ⟨_, _, rfl⟩) ?_
      rintro v6 G4 ow6 (hle4 : Le G3 G4) ⟨b10, ad4, cap4, rfl, hcap4, rfl⟩
      simp only [setO, stk]
      refine rn_ ?_; intros
      refine hs_ ?_
      refine hu_takeB 14 [14, 15, 16] rfl (by kernel_rfl) (by kernel_rfl) (by kernel_rfl) (by kernel_rfl) (fun c a w v => hQp c a w _ v) (by rw [hnt]; rfl) (allIn (by repeat (first | exact trivial | refine ⟨rfl, ?_⟩))) (by first | exact Le.refl _ | assumption) (x := .v (.pointer (some ⟨g9, lo.length * 4, none⟩))) ((quiet_index (by rw [hty]; rfl) (by rw [hty]; rfl) rfl rfl rfl (by omega) (by omega)).cast (by simp [SV.den])) ?_
      refine st_ ?_
      refine hu_take 15 rfl (by kernel_rfl) (by kernel_rfl) (by kernel_rfl) (by kernel_rfl) rfl (fun c a w v => hQp c a w _ v) (by rw [hnt]; rfl) (allIn (by repeat (first | exact trivial | refine ⟨rfl, ?_⟩))) (by first | exact Le.refl _ | assumption) (quiet_op (by rw [hty]; first | rfl | (refine st_ ?_; rfl))) ?_; refine st_ ?_
      refine hu_last 16 [] rfl (by kernel_rfl) rfl ?_
      refine go_storeR (k := 5) (xs' := encF (ra' ++ ⟨m.fn, m.nd, xvars, ⟨42, 3, .slice ad4 m.done.length cap4, m.done.length, xxs⟩⟩ :: lo)) (by rw [hnt]; rfl) (by rw [hty]; rfl) rfl rfl rfl rfl rfl rfl (encF_laym (j := 3) (us := [.slice ad4 m.done.length cap4]) (by omega) rfl rfl) ?_
      refine rn_ ?_; intros
      refine h_end (by kernel_rfl) ?_
      refine go_zpush 2 3 rfl rfl (by decide) (.inl ⟨by rw [hmh]; omega, by rw [hmh]; omega⟩) ?_
      intro ZA3
      refine st_ ?_
      refine go_zperm 2 rfl hz.symm ?_
      refine st_ ?_
      refine go_zpush 6 7 rfl rfl (by decide) (.inl ⟨by rw [hmh]; omega, by rw [hmh]; omega⟩) ?_
      intro ZB3
      refine st_ ?_
      refine rn_ ?_; intros
      rw [wr (n := (lo.length : Int) + 1) (by omega) (by omega)]
      refine go_keep [2, 3, 30, 31] [0, 1, 2, 3, 4, 5, 6, 7, 999] ?_
      refine st_ ?_
      have hl0 : 1 ≤ ra'.length := by rw [hgr]; simp
      exact ih (rs.length - (lo.length + 1)) _ (by omega) ⟨lo.length + 1, G4, ra' ++ ⟨m.fn, m.nd, xvars, ⟨42, 3, .slice ad4 m.done.length cap4, m.done.length, xxs⟩⟩ :: lo, _, ZA3, ZB3, _, by omega, rfl, hle3.trans hle4, by simp; omega, .inl ⟨by omega, a', m :: c, ra', _, ⟨m.fn, m.nd, xvars, ⟨42, 3, .slice ad4 m.done.length cap4, m.done.length, xxs⟩⟩ :: lo, hsa, hra, hral, by simp, by simp; omega, rfl,
        ⟨_, _, rfl, ⟨rfl, rfl, x3, x4, x5, Rp.S_mono hle4 x6, ⟨rfl, rfl, rfl, Rp.L_mono hle4 d4, d5, _, _, rfl, hcap4⟩⟩, hlo.mono hle4⟩, rfl⟩, rfl⟩
  · have hie : i = rs.length := by simp at hil; omega
    rcases hinv with ⟨h, _⟩ | ⟨_, hfs', rfl, hdn'⟩
    · omega
    refine rn_ ?_; intros
    have hleA := hle13
    refine x_retT rfl hQ hmh hb0 rfl (by first | (simp; done) | decide) rfl (by rw [hty]; simp only [so, sq, zy, zz, tyE, SO', SQ', opQ, opStore, opAlloc, ev, putS, dOk, cv, SV.cs, SV.one, SV.bool?, eqB, Value.oneCell', ldOwn, binInt, binConst, binBool, binStr, isC, TK.agg, rv, rv1, ldV, resOne, resV, Nat.reduceAdd, Nat.reduceMul, Nat.reduceSub, Nat.reduceLT, Nat.reduceLeDiff, Nat.reduceEqDiff, Nat.reduceBEq, reduceIte, reduceCtorEq, eq_self]; try rfl) rfl (by rw [hrest]; rfl) (by first | exact Le.refl _ | assumption) rfl (by simp only [enumO]; exact (by repeat (first | exact plain_nil | refine plain_cons (fun _ h => h) ?_))) ?_; simp only [SV.den, resV, dens]
    refine ⟨b8, [fhO b cb s.st s.val.k s.val.n (.slice vA s.val.l.length vC) (.slice ad rs.length cap), frO b1 (.slice ad rs.length cap) rs, fzO b2 (rs.drop 1) ZA, fdO b3 rw0], [fhO b8 cb s.st s.val.k s.val.n (.slice vA s.val.l.length vC) (.slice ad9 rs.length cap9), frO b9 (.slice ad9 rs.length cap9) rs', fzO 0 (rs'.drop 1) ZB, fdO b7 rw0], rfl, ?_, ?_, ?_⟩
    · simp only [fhO, frO, fzO, fdO, rw0, List.cons_append, List.nil_append, hrl]
    · exact ⟨_, _, _, _, _, rs, ZA, VT.rep_mono hle13 hvl, htv, hfs.mono hle13, hl256, fun m x q1 q2 => Rp.S_mono hle13 (hdn m x q1 q2), rfl⟩
    · exact ⟨_, _, _, _, _, rs', ZB, VT.rep_mono hle13 hvl, htv, hfs', hl256, hdn', rfl⟩
end Go.Proofs.YtpppkednpamhbaaGreat
namespace Go.Proofs.YtpppkednpamhbaaGreat.R
set_option linter.unusedSimpArgs false
set_option linter.unusedVariables false
open Go.Sx
set_option maxHeartbeats 16000000
set_option maxRecDepth 20000
theorem wantQ_vld {p : Pr} {s : Fb} (h : VF p s) : (∀ v ∈ (wantQ p s).2.2.1, vld v = true) ∧ (wantQ p s).2.2.1.length ≤ 1000 := by
  unfold wantQ
  split
  · rename_i h2
    obtain ⟨m, r, nd, hs, hRX, hr⟩ := vf_two h h2
    rw [hs]
    simp only [hRX.1.1.nd]
    unfold wantP
    split
    · exact ⟨hRX.1.2.2.2, vx_done hRX.1⟩
    · split
      · exact ⟨hRX.1.2.2.2, vx_done hRX.1⟩
      · simp
  · simp
theorem is_ok (b cb b1 : Nat) (vl ps ps2 : Value) (ad : Option Addr) (cap : Nat) (p : Pr) (s : Fb) (rs : List Fw) (v0 : Value) (G : Hp) (hc : At G cb 0 [ps]) (hp : rF.S G p ps) (hp2 : rF.S G p ps2) (h0 : rfO G ps2 s.st s.val s.l v0) (hVF : VF p s) (hval : RVal s) (hb : fbP G s vl rs) :
    PureW Tryz.prog 17 [.pointer (some ⟨b, 0, none⟩), v0] G [fhO b cb s.st s.val.k s.val.n vl (.slice ad rs.length cap), frO b1 (.slice ad rs.length cap) rs] (fun v _ ow => v = .bool true ∧ ow = [fhO b cb s.st s.val.k s.val.n vl (.slice ad rs.length cap), frO b1 (.slice ad rs.length cap) rs]) := by
  have hrw := fun G' (hle : Le G G') => rwant_ok ps2 p s v0 G' (Rp.S_mono hle hp2) (h0.mono hle) hVF
  have hra := fun G' (hle : Le G G') => rat_ok ps2 p s v0 G' (Rp.S_mono hle hp2) (h0.mono hle) hVF
  obtain ⟨lsl, vl2, rfl, hL, hvl, hts⟩ := h0
  obtain ⟨vA, vC, rfl⟩ := VT.rep_slice hvl
  obtain ⟨pA, pC, rfl⟩ := Rp.S_slice hp2
  obtain ⟨aL, cL, rfl⟩ := Rp.S_slice hL.1
  have hlen := hb.fs.len
  obtain ⟨hwv, hwl⟩ := wantQ_vld hVF
  have hsm : sml s.val = true := by
    by_cases h3 : s.st = 3
    · have := hVF.2 h3
      simp only [vld, Bool.and_eq_true] at this
      exact this.1
    · rw [hval h3]; rfl
  refine enterW ty tyok Tryz.func17 rfl Tryz.ntmps17 [.p 0 b 0, .a [.v (.slice pA p.length pC), .v (.slice aL s.l.reverse.length cL), .v (.int .i64 s.st), .v (.int .i64 s.val.k), .v (.int .i64 s.val.n), .v (.slice vA s.val.l.length vC)]] (by simp) (mh := 2) rfl ?_
  intro C hP hQ hnt hty hmb hmh hro hG0 hmub; have hQp := qp_body hQ; refine st_ ?_
  simp only [enumO]
  refine rn_ ?_; intros
  refine go_callW [0, 1] (by rw [hnt]; rfl) (by rw [hP]; kernel_rfl) rfl rfl rfl (.inr (by rw [hmh]; decide)) (by rw [hP]; exact want_q b cb b1 vl _ ps p s rs G hc hp hVF hb) ?_
  rintro _ G1 ow1 (hle1 : Le G G1) ⟨rfl, sl1, rfl, hS1⟩
  obtain ⟨w1, w2, rfl⟩ := Rp.S_slice hS1
  simp only [setO, stk]
  refine rn_ ?_; intros
  refine go_call (by rw [hnt]; rfl) (by rw [hP]; kernel_rfl) rfl (hP ▸ hrw G1 hle1) ?_
  rintro _ G2 (hle2 : Le G1 G2) ⟨sl2, rfl, hS2⟩
  obtain ⟨w3, w4, rfl⟩ := Rp.S_slice hS2
  have hle12 := hle1.trans hle2
  refine rn_ ?_; intros
  refine go_callW [0] (by rw [hnt]; rfl) (by rw [hP]; kernel_rfl) rfl rfl rfl (.inr (by rw [hmh]; decide)) (by rw [hP]; exact value_q b cb vl _ p s rs G2 hVF hval (hb.mono hle12)) ?_
  rintro _ G3 ow3 (hle3 : Le G2 G3) ⟨rfl, sl3, rfl, hr3⟩
  obtain ⟨w5, w6, rfl⟩ := VT.rep_slice hr3
  have hle13 := hle12.trans hle3
  simp only [setO, stk]
  refine rn_ ?_; intros
  refine go_callW [0, 1] (by rw [hnt]; rfl) (by rw [hP]; kernel_rfl) rfl rfl rfl (.inr (by rw [hmh]; decide)) (by rw [hP]; exact at_q b cb b1 vl ps ad cap p s rs G3 (hc.mono hle13) (Rp.S_mono hle13 hp) hVF (hb.mono hle13)) ?_
  rintro _ G4 ow4 (hle4 : Le G3 G4) ⟨rfl, rfl⟩
  have hle14 := hle13.trans hle4
  simp only [setO, stk]
  refine rn_ ?_; intros
  refine go_callf (by rw [hnt]; rfl) (by rw [hP]; kernel_rfl) rfl (hP ▸ hra G4 hle14) ?_
  refine rn_ ?_; intros
  have hsw := samewant_ok (wantQ p s).1 (wantQ p s).2.1 (wantQ p s).2.2.1 _ _ G4 (Rp.S_mono ((hle2.trans hle3).trans hle4) hS1) (Rp.S_mono (hle3.trans hle4) hS2) hwv hwl
  have hsame : Pure Tryz.prog 28 [.agg #[.int .i64 s.val.k, .int .i64 s.val.n, .slice w5 s.val.l.length w6], .agg #[.int .i64 s.val.k, .int .i64 s.val.n, .slice vA s.val.l.length vC]] G4 (fun r _ => r = .bool true) :=
    (refSame_ok s.val s.val _ _ G4 (VT.rep_mono hle4 hr3) (VT.rep_mono hle14 hvl) (by omega) (by omega)).val (by rw [hsm, vq_refl]; rfl)
  refine go_keep [0, 3, 4, 5, 6, 7, 8, 9, 10, 11, 12, 13, 14, 15, 16] [0, 1, 2, 3, 4, 5] ?_
  refine st_ ?_
  refine x_draw rfl (by rw [hP]; kernel_rfl) rfl (by kernel_rfl) ?_
  refine runq 400 hty hnt ?_; refine st_ ?_
  refine q_callW [0] (by rw [hnt]; rfl) (by rw [hP]; kernel_rfl) rfl rfl rfl (by rw [hP]; exact state_ok b cb s.st s.val.k s.val.n vl _ G4) ?_
  refine runq 400 hty hnt ?_; refine st_ ?_
  (refine go_qsplit rfl rfl (fun _ => ?_) (fun hc => absurd hc (by simp)); refine st_ ?_; (try (refine runq 400 hty hnt ?_; refine st_ ?_)))
  refine q_callW [0] (by rw [hnt]; rfl) (by rw [hP]; kernel_rfl) rfl rfl rfl (by rw [hP]; exact frames_ok b cb s.st s.val.k s.val.n vl ad rs.length cap G4) ?_
  refine runq 400 hty hnt ?_; refine st_ ?_
  (refine go_qsplit rfl rfl (fun _ => ?_) (fun hc => absurd hc (by simp [hlen])); refine st_ ?_; (try (refine runq 400 hty hnt ?_; refine st_ ?_)))
  (refine go_qsplit rfl rfl (fun _ => ?_) (fun hc => absurd hc (by simp)); refine st_ ?_; (try (refine runq 400 hty hnt ?_; refine st_ ?_)))
  refine q_callf (by rw [hnt]; rfl) (by rw [hP]; kernel_rfl) rfl (hP ▸ hsw) ?_; refine runq 400 hty hnt ?_; refine st_ ?_
  (refine go_qsplit rfl rfl (fun _ => ?_) (fun hc => absurd hc (by simp)); refine st_ ?_; (try (refine runq 400 hty hnt ?_; refine st_ ?_)))
  (refine go_qsplit rfl rfl (fun _ => ?_) (fun hc => absurd hc (by by_cases h3 : s.st = 3 <;> simp [h3])); refine st_ ?_; (try (refine runq 400 hty hnt ?_; refine st_ ?_)))
  refine q_callf (by rw [hnt]; rfl) (by rw [hP]; kernel_rfl) rfl (hP ▸ hsame) ?_; refine runq 400 hty hnt ?_; refine st_ ?_
  (refine go_qsplit rfl rfl (fun _ => ?_) (fun hc => absurd hc (by simp)); refine st_ ?_; (try (refine runq 400 hty hnt ?_; refine st_ ?_)))
  (refine go_qsplit rfl rfl (fun _ => ?_) (fun hc => absurd hc (by simp)); refine st_ ?_; (try (refine runq 400 hty hnt ?_; refine st_ ?_)))
  (refine go_qsplit rfl rfl (fun _ => ?_) (fun hc => absurd hc (by simp)); refine st_ ?_; (try (refine runq 400 hty hnt ?_; refine st_ ?_)))
  refine q_end ?_; refine rn_ ?_; intros
  refine x_retW rfl hQ hmb hmh hG0 hmub rfl rfl (by rw [hty]; simp only [so, sq, zy, zz, tyE, SO', SQ', opQ, opStore, opAlloc, ev, putS, dOk, cv, SV.cs, SV.one, SV.bool?, eqB, Value.oneCell', ldOwn, binInt, binConst, binBool, binStr, isC, TK.agg, rv, rv1, ldV, resOne, resV, Nat.reduceAdd, Nat.reduceMul, Nat.reduceSub, Nat.reduceLT, Nat.reduceLeDiff, Nat.reduceEqDiff, Nat.reduceBEq, reduceIte, reduceCtorEq, eq_self]; try rfl) rfl rfl (by simp only [enumO]; exact (by repeat (first | exact plain_nil | refine plain_cons (fun _ h => h) ?_))) ?_; simp only [SV.den, resV, dens]
  refine ⟨by simp, ?_⟩
  first | rfl | trivial
end Go.Proofs.YtpppkednpamhbaaGreat.R
namespace Go.Proofs.YtpppkednpamhbaaGreat.R
set_option linter.unusedSimpArgs false
set_option linter.unusedVariables false
open Go.Sx
set_option maxHeartbeats 16000000
set_option maxRecDepth 20000
def actP (p : Pr) (s : Fb) (x : Ac) : Option Fb :=
  if x.w = 0 ∨ x.w = 1 ∨ x.w = 2 then (stepP p s).map (·.2) else if x.w = 3 then (runP p x.n.toNat s).map (·.2) else if x.w = 4 ∨ x.w = 5 ∨ x.w = 6 then (resP p s x.v).map (·.2) else some s
theorem act_tot {p : Pr} (hp : rgtP p = true) {s : Fb} (h : VF p s) (hv : RVal s) (x : Ac) : ∃ o, actP p s x = some o ∧ VF p o ∧ RVal o := by
  unfold actP
  split
  · obtain ⟨e, o, h1, h2⟩ := step_tot hp h
    exact ⟨o, by rw [h1]; rfl, h2, (step_val hv h1).1⟩
  · split
    · obtain ⟨n, o, h1, h2, _⟩ := run_tot hp x.n.toNat h
      exact ⟨o, by rw [h1]; rfl, h2, (run_val hv h1).1⟩
    · split
      · obtain ⟨e, o, h1, h2⟩ := resP_tot h x.v
        exact ⟨o, by rw [h1]; rfl, h2, resP_val hv h1⟩
      · exact ⟨s, rfl, h, hv⟩
def actO (G : Hp) (cb : Nat) (ps2 : Value) (o : Fb) (v : Value) (ow : Lds) : Prop := ∃ b' lsl vl, v = .tuple #[.pointer (some ⟨b', 0, none⟩), fibV ps2 lsl o.st o.val.k o.val.n vl, .bool true] ∧ fbO G b' cb o ow ∧ fmS G o.l lsl ∧ o.val.rep G vl ∧ tsz o.val ≤ 1000
theorem act_ok (b cb : Nat) (ps ps2 : Value) (p : Pr) (hpR : rgtP p = true) (s o : Fb) (x : Ac) (sx v0 : Value) (ow : Lds) (G : Hp) (hc : At G cb 0 [ps]) (hp : rF.S G p ps) (hp2 : rF.S G p ps2) (h0 : rfO G ps2 s.st s.val s.l v0) (hVF : VF p s) (hval : RVal s) (hfb : fbO G b cb s ow)
    (hx : x.v.rep G sx) (hxn : x.n ≤ 200) (hxt : tsz x.v ≤ 20) (ho : actP p s x = some o) :
    PureT Tryz.prog 16 [.pointer (some ⟨b, 0, none⟩), v0, .agg #[.int .i64 x.w, .int .i64 x.n, .int .i64 x.v.k, .int .i64 x.v.n, sx]] G ow (fun v G' ow' => actO G' cb ps2 o v ow') := by
  have h00 := h0
  obtain ⟨lsl, vl2, rfl, hL, hvl2, hts⟩ := h0
  obtain ⟨vA, vC, rfl⟩ := VT.rep_slice hvl2
  obtain ⟨pA, pC, rfl⟩ := Rp.S_slice hp2
  obtain ⟨aL, cL, rfl⟩ := Rp.S_slice hL.1
  obtain ⟨ax, cx, rfl⟩ := VT.rep_slice hx
  obtain ⟨vl, fs, b1, b2, b3, rs, Z, hvl, htv, hfs, hl256, hdn, rfl⟩ := hfb
  unfold actP at ho
  refine enterT ty tyok Tryz.func16 rfl Tryz.ntmps16 [.p 0 b 0, .a [.v (.slice pA p.length pC), .v (.slice aL s.l.reverse.length cL), .v (.int .i64 s.st), .v (.int .i64 s.val.k), .v (.int .i64 s.val.n), .v (.slice vA s.val.l.length vC)], .a [.v (.int .i64 x.w), .v (.int .i64 x.n), .v (.int .i64 x.v.k), .v (.int .i64 x.v.n), .v (.slice ax x.v.l.length cx)]] (by simp) (by simp) (plainL (by simp only [enumO]; exact (by repeat (first | exact plain_nil | refine plain_cons (fun _ h => h) ?_)))) ?_
  intro C w0 hP hQ hnt hty hmb hmh hro hG0 hb0; have hQp := qp_body hQ; refine st_ ?_
  generalize hrest : restB w0 _ G = Zr
  simp only [enumO, fhO, frO, fzO, fdO, List.cons_append, List.nil_append]
  refine rn_ ?_; intros
  rename_i b4 b5 b7
  refine cut_tailK 1 (fun s' => s' = ⟨[(0, .p 0 b 0), (4, .p 1000 b4 0), (5, .p 1001 b5 0), (6, .v (.pointer none)), (7, .p 1002 b7 0), (8, .b false), (18, .v (.int .i64 x.w)), (19, .b (decide (x.w = 0 ∨ x.w = 1 ∨ x.w = 2)))], [(0, b, .c 93 [.v (.pointer (some ⟨cb, 0, none⟩)), .v (.int .i64 s.st), .v (.int .i64 s.val.k), .v (.int .i64 s.val.n), .v vl, .v fs]), (1, b1, .row fs 90 4 rs.length (encF rs)), (2, b2, .z (ZR ((rs.drop 1).map (·.done))) Z Z), (3, b3, .row rw0.v rw0.e rw0.size rw0.n rw0.xs), (999, 0, .z (ZRest w0) Zr Zr),
      (1000, b4, .c 44 [.v (.slice pA p.length pC), .v (.slice aL s.l.reverse.length cL), .v (.int .i64 s.st), .v (.int .i64 s.val.k), .v (.int .i64 s.val.n), .v (.slice vA s.val.l.length vC)]), (1001, b5, .c 52 [.v (.int .i64 x.w), .v (.int .i64 x.n), .v (.int .i64 x.v.k), .v (.int .i64 x.v.n), .v (.slice ax x.v.l.length cx)]), (1002, b7, .c 44 [.v (.slice none 0 0), .v (.slice none 0 0), .v (.int .i64 0), .v (.int .i64 0), .v (.int .i64 0), .v (.slice none 0 0)])], G, []⟩) ?_ ?_
  rotate_left
  · intro Kr hK
    simp only [List.take_succ_cons, List.take_zero, List.cons_append, List.nil_append]
    refine x_split rfl rfl rfl (fun hw0 => ?_) (fun hw0 => ?_) <;> (refine st_ ?_; (refine ru_ ?_; intros))
    · have hw0 : x.w = 0 := by simpa using hw0
      have e : decide (x.w = 0 ∨ x.w = 1 ∨ x.w = 2) = true := by simp [hw0]
      refine go_keep [0, 4, 5, 6, 7, 8, 18, 19] [0, 1, 2, 3, 999, 1000, 1001, 1002] ?_
      refine st_ ?_
      exact hK _ (by rw [e])
    refine rn_ ?_; intros
    refine x_split rfl rfl rfl (fun hw1 => ?_) (fun hw1 => ?_) <;> (refine st_ ?_; (refine ru_ ?_; intros))
    · have hw1 : x.w = 1 := by simpa using hw1
      have e : decide (x.w = 0 ∨ x.w = 1 ∨ x.w = 2) = true := by simp [hw1]
      refine go_keep [0, 4, 5, 6, 7, 8, 18, 19] [0, 1, 2, 3, 999, 1000, 1001, 1002] ?_
      refine st_ ?_
      exact hK _ (by rw [e])
    refine rn_ ?_; intros
    have e : decide (x.w = 0 ∨ x.w = 1 ∨ x.w = 2) = (x.w == 2) := by
      simp at hw0 hw1
      by_cases h2 : x.w = 2 <;> simp [h2, hw0, hw1]
    refine go_keep [0, 4, 5, 6, 7, 8, 18, 19] [0, 1, 2, 3, 999, 1000, 1001, 1002] ?_
    refine st_ ?_
    refine go_slot 19 (.b (x.w == 2)) rfl rfl ?_
    refine st_ ?_
    exact hK _ (by rw [e])
  rintro _ rfl
  simp only [List.drop_succ_cons, List.drop_zero]
  cases hw : decide (x.w = 0 ∨ x.w = 1 ∨ x.w = 2) with
  | true =>
    rw [if_pos (of_decide_eq_true hw)] at ho
    obtain ⟨⟨e, o'⟩, hst, rfl⟩ := Option.map_eq_some_iff.1 ho
    refine rn_ ?_; intros
    refine go_call (by rw [hnt]; rfl) (by rw [hP]; kernel_rfl) rfl (hP ▸ rstep_ok _ p hpR s e o' _ G hp2 h00 hVF hval hst) ?_
    rintro _ G1 (hle1 : Le G G1) ⟨lsl3, vl3, rfl, hL3, hv3, ht3⟩
    obtain ⟨a5, c5, rfl⟩ := Rp.S_slice hL3.1
    obtain ⟨a6, c6, rfl⟩ := VT.rep_slice hv3
    simp only [fibV]
    refine rn_ ?_; intros
    rename_i b9
    refine x_held [(1003, b9, .c 44 [.v (.slice pA p.length pC), .v (.slice a5 o'.l.reverse.length c5), .v (.int .i64 o'.st), .v (.int .i64 o'.val.k), .v (.int .i64 o'.val.n), .v (.slice a6 o'.val.l.length c6)])] rfl (by rw [hP]; kernel_rfl) rfl rfl rfl ?_; refine st_ ?_
    refine tq_ 0 rfl (quiet_op (by rw [hty]; first | rfl | (refine st_ ?_; rfl))) ?_; refine st_ ?_
    refine tq_ 1 rfl (quiet_op (by rw [hty]; first | rfl | (refine st_ ?_; rfl))) ?_; refine st_ ?_
    refine tq_ 2 rfl (quiet_op (by rw [hty]; first | rfl | (refine st_ ?_; rfl))) ?_; refine st_ ?_
    refine tq_ 5 rfl (quiet_op (by rw [hty]; first | rfl | (refine st_ ?_; rfl))) ?_; refine st_ ?_
    refine h_one 3 rfl (by kernel_rfl) ?_
    refine go_callT [0, 1, 2, 3] (by rw [hnt]; rfl) (by rw [hP]; kernel_rfl) rfl rfl rfl (by rw [hmh]; simp) (by rw [hP]; exact step_ok b cb p ps s o' e _ G1 (hc.mono hle1) (Rp.S_mono hle1 hp) ⟨vl, fs, b1, b2, b3, rs, Z, VT.rep_mono hle1 hvl, htv, hfs.mono hle1, hl256, fun m x q q' => Rp.S_mono hle1 (hdn m x q q'), rfl⟩ hst) ?_
    rintro v6 G6 ow6 (hle6 : Le G1 G6) ⟨rfl, vl6, fs6, c1, c2, c3, rs6, Z6, w1, w2, w3, w4, w5, rfl⟩
    simp only [setO, stk, fhO, frO, fzO, fdO]
    refine rn_ ?_; intros
    refine hs_ ?_
    refine h_one 4 rfl (by kernel_rfl) ?_
    refine go_callf (by rw [hnt]; rfl) (by rw [hP]; kernel_rfl) rfl (hP ▸ numL_ok e _) ?_; refine rn_ ?_; intros
    refine hs_ ?_
    refine tq_ 6 rfl (quiet_op (by rw [hty]; first | rfl | (refine st_ ?_; rfl))) ?_; refine st_ ?_
    refine h_one 7 rfl (by kernel_rfl) ?_
    refine rn_ ?_; intros
    refine hs_ ?_
    refine h_one 8 rfl (by kernel_rfl) ?_
    refine rn_ ?_; intros
    refine hs_ ?_
    refine h_one 9 rfl (by kernel_rfl) ?_
    have hleA := hle1.trans hle6
    refine rn_ ?_; intros
    refine hs_ ?_
    refine h_end (by kernel_rfl) ?_
    refine rn_ ?_; intros
    refine x_retT rfl hQ hmh hb0 rfl (by first | (simp; done) | decide) rfl (by rw [hty]; simp only [so, sq, zy, zz, tyE, SO', SQ', opQ, opStore, opAlloc, ev, putS, dOk, cv, SV.cs, SV.one, SV.bool?, eqB, Value.oneCell', ldOwn, binInt, binConst, binBool, binStr, isC, TK.agg, rv, rv1, ldV, resOne, resV, Nat.reduceAdd, Nat.reduceMul, Nat.reduceSub, Nat.reduceLT, Nat.reduceLeDiff, Nat.reduceEqDiff, Nat.reduceBEq, reduceIte, reduceCtorEq, eq_self]; try rfl) rfl (by rw [hrest]; rfl) (by first | exact Le.refl _ | assumption) rfl (by simp only [enumO]; exact (by repeat (first | exact plain_nil | refine plain_cons (fun _ h => h) ?_))) ?_; simp only [SV.den, resV, dens]
    exact ⟨b, _, _, by simp [fibV], ⟨vl6, fs6, c1, c2, c3, rs6, Z6, w1, w2, w3, w4, w5, rfl⟩, hL3.mono hle6, VT.rep_mono hle6 hv3, ht3⟩
  | false =>
    rw [if_neg (of_decide_eq_false hw)] at ho
    refine rn_ ?_; intros
    refine x_split rfl rfl rfl (fun hw3 => ?_) (fun hw3 => ?_) <;> (refine st_ ?_; (refine ru_ ?_; intros))
    · have hw3 : x.w = 3 := by simpa using hw3
      rw [if_pos hw3] at ho
      obtain ⟨⟨n, o'⟩, hst, rfl⟩ := Option.map_eq_some_iff.1 ho
      refine rn_ ?_; intros
      refine go_call (by rw [hnt]; rfl) (by rw [hP]; kernel_rfl) rfl (hP ▸ rrun_ok _ p hpR s x.n n o' _ G hp2 h00 hVF hval (by omega) hst) ?_
      rintro _ G1 (hle1 : Le G G1) ⟨lsl3, vl3, rfl, hL3, hv3, ht3⟩
      obtain ⟨a5, c5, rfl⟩ := Rp.S_slice hL3.1
      obtain ⟨a6, c6, rfl⟩ := VT.rep_slice hv3
      simp only [fibV]
      refine rn_ ?_; intros
      rename_i b9
      refine go_callT [0, 1, 2, 3] (by rw [hnt]; rfl) (by rw [hP]; kernel_rfl) rfl rfl rfl (by rw [hmh]; simp) (by rw [hP]; exact run_okN b cb p ps s o' x.n n _ G1 (by omega) (hc.mono hle1) (Rp.S_mono hle1 hp) ⟨vl, fs, b1, b2, b3, rs, Z, VT.rep_mono hle1 hvl, htv, hfs.mono hle1, hl256, fun m x q q' => Rp.S_mono hle1 (hdn m x q q'), rfl⟩ hst) ?_
      rintro v6 G6 ow6 (hle6 : Le G1 G6) ⟨rfl, vl6, fs6, c1, c2, c3, rs6, Z6, w1, w2, w3, w4, w5, rfl⟩
      simp only [setO, stk, fhO, frO, fzO, fdO]
      refine rn_ ?_; intros
      refine x_held [(1003, b9, .c 44 [.v (.slice pA p.length pC), .v (.slice a5 o'.l.reverse.length c5), .v (.int .i64 o'.st), .v (.int .i64 o'.val.k), .v (.int .i64 o'.val.n), .v (.slice a6 o'.val.l.length c6)])] rfl (by rw [hP]; kernel_rfl) rfl rfl rfl ?_; refine st_ ?_
      refine tq_ 0 rfl (quiet_op (by rw [hty]; first | rfl | (refine st_ ?_; rfl))) ?_; refine st_ ?_
      refine tq_ 1 rfl (quiet_op (by rw [hty]; first | rfl | (refine st_ ?_; rfl))) ?_; refine st_ ?_
      refine tq_ 2 rfl (quiet_op (by rw [hty]; first | rfl | (refine st_ ?_; rfl))) ?_; refine st_ ?_
      refine tq_ 3 rfl (quiet_op (by rw [hty]; first | rfl | (refine st_ ?_; rfl))) ?_; refine st_ ?_
      refine tq_ 4 rfl (quiet_op (by rw [hty]; first | rfl | (refine st_ ?_; rfl))) ?_; refine st_ ?_
      refine tq_ 5 rfl (quiet_op (by rw [hty]; first | rfl | (refine st_ ?_; rfl))) ?_; refine st_ ?_
      refine go_slot 56 (.b true) rfl (by simp [SV.den]) ?_
      refine h_takeG 6 rfl rfl rfl (by kernel_rfl) (by kernel_rfl) (by kernel_rfl) hQp (by rw [hnt]; rfl) (allIn (by repeat (first | exact trivial | refine ⟨rfl, ?_⟩))) (by first | exact Le.refl _ | assumption) (quiet_op (by rw [hty]; first | rfl | (refine st_ ?_; rfl))) ?_; refine st_ ?_
      refine h_one 7 rfl (by kernel_rfl) ?_
      refine rn_ ?_; intros
      refine go_callf (by rw [hnt]; rfl) (by rw [hP]; kernel_rfl) rfl (hP ▸ numL_ok 0 _) ?_; refine rn_ ?_; intros
      refine hs_ ?_
      refine h_takeG 8 rfl rfl rfl (by kernel_rfl) (by kernel_rfl) (by kernel_rfl) hQp (by rw [hnt]; rfl) (allIn (by repeat (first | exact trivial | refine ⟨rfl, ?_⟩))) (by first | exact Le.refl _ | assumption) (quiet_op (by rw [hty]; first | rfl | (refine st_ ?_; rfl))) ?_; refine st_ ?_
      refine tq_ 9 rfl (quiet_op (by rw [hty]; first | rfl | (refine st_ ?_; rfl))) ?_; refine st_ ?_
      refine h_one 10 rfl (by kernel_rfl) ?_
      refine rn_ ?_; intros
      refine hs_ ?_
      refine h_one 11 rfl (by kernel_rfl) ?_
      refine rn_ ?_; intros
      refine hs_ ?_
      refine h_one 12 rfl (by kernel_rfl) ?_
      have hleA := hle1.trans hle6
      refine rn_ ?_; intros
      refine hs_ ?_
      refine h_end (by kernel_rfl) ?_
      refine rn_ ?_; intros
      refine x_retT rfl hQ hmh hb0 rfl (by first | (simp; done) | decide) rfl (by rw [hty]; simp only [so, sq, zy, zz, tyE, SO', SQ', opQ, opStore, opAlloc, ev, putS, dOk, cv, SV.cs, SV.one, SV.bool?, eqB, Value.oneCell', ldOwn, binInt, binConst, binBool, binStr, isC, TK.agg, rv, rv1, ldV, resOne, resV, Nat.reduceAdd, Nat.reduceMul, Nat.reduceSub, Nat.reduceLT, Nat.reduceLeDiff, Nat.reduceEqDiff, Nat.reduceBEq, reduceIte, reduceCtorEq, eq_self]; try rfl) rfl (by rw [hrest]; rfl) (by first | exact Le.refl _ | assumption) rfl (by simp only [enumO]; exact (by repeat (first | exact plain_nil | refine plain_cons (fun _ h => h) ?_))) ?_; simp only [SV.den, resV, dens]
      exact ⟨b, _, _, by simp [fibV], ⟨vl6, fs6, c1, c2, c3, rs6, Z6, w1, w2, w3, w4, w5, rfl⟩, hL3.mono hle6, VT.rep_mono hle6 hv3, ht3⟩
    have hw3 : ¬ x.w = 3 := by simpa using hw3
    rw [if_neg hw3] at ho
    refine rn_ ?_; intros
    refine cut_tailK 1 (fun s' => s' = ⟨[(0, .p 0 b 0), (4, .p 1000 b4 0), (5, .p 1001 b5 0), (6, .v (.pointer none)), (7, .p 1002 b7 0), (8, .b false), (18, .v (.int .i64 x.w)), (61, .b (decide (x.w = 4 ∨ x.w = 5 ∨ x.w = 6)))], [(0, b, .c 93 [.v (.pointer (some ⟨cb, 0, none⟩)), .v (.int .i64 s.st), .v (.int .i64 s.val.k), .v (.int .i64 s.val.n), .v vl, .v fs]), (1, b1, .row fs 90 4 rs.length (encF rs)), (2, b2, .z (ZR ((rs.drop 1).map (·.done))) Z Z), (3, b3, .row rw0.v rw0.e rw0.size rw0.n rw0.xs), (999, 0, .z (ZRest w0) Zr Zr),
          (1000, b4, .c 44 [.v (.slice pA p.length pC), .v (.slice aL s.l.reverse.length cL), .v (.int .i64 s.st), .v (.int .i64 s.val.k), .v (.int .i64 s.val.n), .v (.slice vA s.val.l.length vC)]), (1001, b5, .c 52 [.v (.int .i64 x.w), .v (.int .i64 x.n), .v (.int .i64 x.v.k), .v (.int .i64 x.v.n), .v (.slice ax x.v.l.length cx)]), (1002, b7, .c 44 [.v (.slice none 0 0), .v (.slice none 0 0), .v (.int .i64 0), .v (.int .i64 0), .v (.int .i64 0), .v (.slice none 0 0)])], G, []⟩) ?_ ?_
    rotate_left
    · intro Kr hK
      simp only [List.take_succ_cons, List.take_zero, List.cons_append, List.nil_append]
      refine x_split rfl rfl rfl (fun hw4 => ?_) (fun hw4 => ?_) <;> (refine st_ ?_; (refine ru_ ?_; intros))
      · have hw4 : x.w = 4 := by simpa using hw4
        have e : decide (x.w = 4 ∨ x.w = 5 ∨ x.w = 6) = true := by simp [hw4]
        refine go_keep [0, 4, 5, 6, 7, 8, 18, 61] [0, 1, 2, 3, 999, 1000, 1001, 1002] ?_
        refine st_ ?_
        exact hK _ (by rw [e])
      refine rn_ ?_; intros
      refine x_split rfl rfl rfl (fun hw5 => ?_) (fun hw5 => ?_) <;> (refine st_ ?_; (refine ru_ ?_; intros))
      · have hw5 : x.w = 5 := by simpa using hw5
        have e : decide (x.w = 4 ∨ x.w = 5 ∨ x.w = 6) = true := by simp [hw5]
        refine go_keep [0, 4, 5, 6, 7, 8, 18, 61] [0, 1, 2, 3, 999, 1000, 1001, 1002] ?_
        refine st_ ?_
        exact hK _ (by rw [e])
      refine rn_ ?_; intros
      have e : decide (x.w = 4 ∨ x.w = 5 ∨ x.w = 6) = (x.w == 6) := by
        simp at hw4 hw5
        by_cases h2 : x.w = 6 <;> simp [h2, hw4, hw5]
      refine go_keep [0, 4, 5, 6, 7, 8, 18, 61] [0, 1, 2, 3, 999, 1000, 1001, 1002] ?_
      refine st_ ?_
      refine go_slot 61 (.b (x.w == 6)) rfl rfl ?_
      refine st_ ?_
      exact hK _ (by rw [e])
    rintro _ rfl
    simp only [List.drop_succ_cons, List.drop_zero]
    cases hw9 : decide (x.w = 4 ∨ x.w = 5 ∨ x.w = 6) with
    | true =>
      rw [if_pos (of_decide_eq_true hw9)] at ho
      obtain ⟨⟨e, o'⟩, hst, rfl⟩ := Option.map_eq_some_iff.1 ho
      refine rn_ ?_; intros
      refine go_call (by rw [hnt]; rfl) (by rw [hP]; kernel_rfl) rfl (hP ▸ rresume_ok _ p s x.v _ e o' _ G hp2 h00 hVF hval hx (by omega) hst) ?_
      rintro _ G1 (hle1 : Le G G1) ⟨lsl3, vl3, rfl, hL3, hv3, ht3⟩
      obtain ⟨a5, c5, rfl⟩ := Rp.S_slice hL3.1
      obtain ⟨a6, c6, rfl⟩ := VT.rep_slice hv3
      simp only [fibV]
      refine rn_ ?_; intros
      rename_i b9
      refine x_held [(1003, b9, .c 44 [.v (.slice pA p.length pC), .v (.slice a5 o'.l.reverse.length c5), .v (.int .i64 o'.st), .v (.int .i64 o'.val.k), .v (.int .i64 o'.val.n), .v (.slice a6 o'.val.l.length c6)]), (1001, b5, .c 52 [.v (.int .i64 x.w), .v (.int .i64 x.n), .v (.int .i64 x.v.k), .v (.int .i64 x.v.n), .v (.slice ax x.v.l.length cx)])] rfl (by rw [hP]; kernel_rfl) rfl rfl rfl ?_; refine st_ ?_
      refine tq_ 0 rfl (quiet_op (by rw [hty]; first | rfl | (refine st_ ?_; rfl))) ?_; refine st_ ?_
      refine tq_ 1 rfl (quiet_op (by rw [hty]; first | rfl | (refine st_ ?_; rfl))) ?_; refine st_ ?_
      refine tq_ 2 rfl (quiet_op (by rw [hty]; first | rfl | (refine st_ ?_; rfl))) ?_; refine st_ ?_
      refine tq_ 3 rfl (quiet_op (by rw [hty]; first | rfl | (refine st_ ?_; rfl))) ?_; refine st_ ?_
      refine tq_ 4 rfl (quiet_op (by rw [hty]; first | rfl | (refine st_ ?_; rfl))) ?_; refine st_ ?_
      refine tq_ 7 rfl (quiet_op (by rw [hty]; first | rfl | (refine st_ ?_; rfl))) ?_; refine st_ ?_
      refine h_one 5 rfl (by kernel_rfl) ?_
      have hcase : ((vld x.v = false ∧ e = 2) ∨ (vld x.v = true ∧ s.st ≠ 2 ∧ e = 100)) ∧ o' = s ∨ (vld x.v = true ∧ s.st = 2 ∧ e = 0 ∧ prodF p s x.v = some o') := by
        unfold resP at hst
        split at hst
        · rename_i hv9
          split at hst
          · rename_i h2
            cases hst
            exact .inl ⟨.inr ⟨hv9, h2, rfl⟩, rfl⟩
          · rename_i h2
            obtain ⟨o9, ho9, heq⟩ := Option.map_eq_some_iff.1 hst
            cases heq
            exact .inr ⟨hv9, by omega, rfl, ho9⟩
        · rename_i hv9
          cases hst
          exact .inl ⟨.inl ⟨by simpa using hv9, rfl⟩, rfl⟩
      rcases hcase with ⟨he, rfl⟩ | ⟨hv9, hst2, rfl, ho9⟩
      · refine go_callW [0] (by rw [hnt]; rfl) (by rw [hP]; kernel_rfl) rfl rfl rfl (.inl (by rw [hmh]; simp)) (by rw [hP]; exact resume_err b cb o'.st o'.val.k o'.val.n vl fs x.v _ e G1 (VT.rep_mono hle1 hx) he) ?_
        rintro v6 G6 ow6 (hle6 : Le G1 G6) ⟨rfl, rfl⟩
        simp only [setO, stk, fhO]
        refine rn_ ?_; intros
        refine hs_ ?_
        refine h_one 6 rfl (by kernel_rfl) ?_
        refine go_callf (by rw [hnt]; rfl) (by rw [hP]; kernel_rfl) rfl (hP ▸ numL_ok _ _) ?_; refine rn_ ?_; intros
        refine hs_ ?_
        refine tq_ 8 rfl (quiet_op (by rw [hty]; first | rfl | (refine st_ ?_; rfl))) ?_; refine st_ ?_
        refine h_one 9 rfl (by kernel_rfl) ?_
        refine rn_ ?_; intros
        refine hs_ ?_
        refine h_one 10 rfl (by kernel_rfl) ?_
        refine rn_ ?_; intros
        refine hs_ ?_
        refine h_one 11 rfl (by kernel_rfl) ?_
        have hleA := hle1.trans hle6
        refine rn_ ?_; intros
        refine hs_ ?_
        refine h_end (by kernel_rfl) ?_
        refine rn_ ?_; intros
        refine x_retT rfl hQ hmh hb0 rfl (by first | (simp; done) | decide) rfl (by rw [hty]; simp only [so, sq, zy, zz, tyE, SO', SQ', opQ, opStore, opAlloc, ev, putS, dOk, cv, SV.cs, SV.one, SV.bool?, eqB, Value.oneCell', ldOwn, binInt, binConst, binBool, binStr, isC, TK.agg, rv, rv1, ldV, resOne, resV, Nat.reduceAdd, Nat.reduceMul, Nat.reduceSub, Nat.reduceLT, Nat.reduceLeDiff, Nat.reduceEqDiff, Nat.reduceBEq, reduceIte, reduceCtorEq, eq_self]; try rfl) rfl (by rw [hrest]; rfl) (by first | exact Le.refl _ | assumption) rfl (by simp only [enumO]; exact (by repeat (first | exact plain_nil | refine plain_cons (fun _ h => h) ?_))) ?_; simp only [SV.den, resV, dens]
        exact ⟨b, _, _, by simp [fibV], ⟨vl, fs, b1, b2, b3, rs, Z, VT.rep_mono hleA hvl, htv, hfs.mono hleA, hl256, fun m x q q' => Rp.S_mono hleA (hdn m x q q'), rfl⟩, hL3.mono hle6, VT.rep_mono hle6 hv3, ht3⟩
      · refine go_callT [0, 1, 2, 3] (by rw [hnt]; rfl) (by rw [hP]; kernel_rfl) rfl rfl rfl (by rw [hmh]; simp) (by rw [hP]; exact resume_ok b cb p ps s o' x.v _ _ G1 (hc.mono hle1) (Rp.S_mono hle1 hp) ⟨vl, fs, b1, b2, b3, rs, Z, VT.rep_mono hle1 hvl, htv, hfs.mono hle1, hl256, fun m x q q' => Rp.S_mono hle1 (hdn m x q q'), rfl⟩ (VT.rep_mono hle1 hx) hv9 (by omega) hst2 ho9) ?_
        rintro v6 G6 ow6 (hle6 : Le G1 G6) ⟨rfl, vl6, fs6, c1, c2, c3, rs6, Z6, w1, w2, w3, w4, w5, rfl⟩
        simp only [setO, stk, fhO, frO, fzO, fdO]
        refine rn_ ?_; intros
        refine hs_ ?_
        refine h_one 6 rfl (by kernel_rfl) ?_
        refine go_callf (by rw [hnt]; rfl) (by rw [hP]; kernel_rfl) rfl (hP ▸ numL_ok _ _) ?_; refine rn_ ?_; intros
        refine hs_ ?_
        refine tq_ 8 rfl (quiet_op (by rw [hty]; first | rfl | (refine st_ ?_; rfl))) ?_; refine st_ ?_
        refine h_one 9 rfl (by kernel_rfl) ?_
        refine rn_ ?_; intros
        refine hs_ ?_
        refine h_one 10 rfl (by kernel_rfl) ?_
        refine rn_ ?_; intros
        refine hs_ ?_
        refine h_one 11 rfl (by kernel_rfl) ?_
        have hleA := hle1.trans hle6
        refine rn_ ?_; intros
        refine hs_ ?_
        refine h_end (by kernel_rfl) ?_
        refine rn_ ?_; intros
        refine x_retT rfl hQ hmh hb0 rfl (by first | (simp; done) | decide) rfl (by rw [hty]; simp only [so, sq, zy, zz, tyE, SO', SQ', opQ, opStore, opAlloc, ev, putS, dOk, cv, SV.cs, SV.one, SV.bool?, eqB, Value.oneCell', ldOwn, binInt, binConst, binBool, binStr, isC, TK.agg, rv, rv1, ldV, resOne, resV, Nat.reduceAdd, Nat.reduceMul, Nat.reduceSub, Nat.reduceLT, Nat.reduceLeDiff, Nat.reduceEqDiff, Nat.reduceBEq, reduceIte, reduceCtorEq, eq_self]; try rfl) rfl (by rw [hrest]; rfl) (by first | exact Le.refl _ | assumption) rfl (by simp only [enumO]; exact (by repeat (first | exact plain_nil | refine plain_cons (fun _ h => h) ?_))) ?_; simp only [SV.den, resV, dens]
        exact ⟨b, _, _, by simp [fibV], ⟨vl6, fs6, c1, c2, c3, rs6, Z6, w1, w2, w3, w4, w5, rfl⟩, hL3.mono hle6, VT.rep_mono hle6 hv3, ht3⟩
    | false =>
      rw [if_neg (of_decide_eq_false hw9)] at ho
      cases ho
      refine rn_ ?_; intros
      refine x_held [(1000, b4, .c 44 [.v (.slice pA p.length pC), .v (.slice aL s.l.reverse.length cL), .v (.int .i64 s.st), .v (.int .i64 s.val.k), .v (.int .i64 s.val.n), .v (.slice vA s.val.l.length vC)])] rfl (by rw [hP]; kernel_rfl) rfl rfl rfl ?_; refine st_ ?_
      refine tq_ 0 rfl (quiet_op (by rw [hty]; first | rfl | (refine st_ ?_; rfl))) ?_; refine st_ ?_
      refine tq_ 2 rfl (quiet_op (by rw [hty]; first | rfl | (refine st_ ?_; rfl))) ?_; refine st_ ?_
      refine h_one 1 rfl (by kernel_rfl) ?_
      refine go_nilrow 20 42 3 rfl (by rw [hmh]; omega) ?_
      refine go_nilrow 21 42 3 rfl (by rw [hmh]; omega) ?_
      refine go_nilrow 22 42 3 rfl (by rw [hmh]; omega) ?_
      refine go_nilrow 23 42 3 rfl (by rw [hmh]; omega) ?_
      refine st_ ?_
      refine go_callT [0, 1, 2, 3, 20, 21, 22, 23] (by rw [hnt]; rfl) (by rw [hP]; kernel_rfl) rfl rfl rfl (by rw [hmh]; simp) (by rw [hP]; exact copyf_ok b cb s [fhO b cb s.st s.val.k s.val.n vl fs, frO b1 fs rs, fzO b2 (rs.drop 1) Z, fdO b3 rw0] G ⟨vl, fs, b1, b2, b3, rs, Z, hvl, htv, hfs, hl256, hdn, rfl⟩) ?_
      rintro v6 G6 ow6 (hle6 : Le G G6) ⟨b', o1, o2, rfl, rfl, ⟨vl6, fs6, c1, c2, c3, rs6, Z6, w1, w2, w3, w4, w5, rfl⟩, ⟨vl7, fs7, d1, d2, d3, rs7, Z7, y1, y2, y3, y4, y5, rfl⟩⟩
      simp only [setO, stk, fhO, frO, fzO, fdO, List.cons_append, List.nil_append]
      refine rn_ ?_; intros
      refine hs_ ?_
      refine h_one 3 rfl (by kernel_rfl) ?_
      refine rn_ ?_; intros
      refine hs_ ?_
      refine h_one 4 rfl (by kernel_rfl) ?_
      refine rn_ ?_; intros
      refine hs_ ?_
      refine h_one 5 rfl (by kernel_rfl) ?_
      refine rn_ ?_; intros
      refine hs_ ?_
      refine h_end (by kernel_rfl) ?_
      refine go_drop 0 ?_
      refine go_drop 1 ?_
      refine go_drop 2 ?_
      refine go_drop 3 ?_
      refine st_ ?_
      refine go_rekey 20 0 rfl rfl (by rw [hmh]; omega) (by rw [hmh]; omega) ?_
      refine go_rekey 21 1 rfl rfl (by rw [hmh]; omega) (by rw [hmh]; omega) ?_
      refine go_rekey 22 2 rfl rfl (by rw [hmh]; omega) (by rw [hmh]; omega) ?_
      refine go_rekey 23 3 rfl rfl (by rw [hmh]; omega) (by rw [hmh]; omega) ?_
      refine st_ ?_
      refine rn_ ?_; intros
      refine x_retT rfl hQ hmh hb0 rfl (by first | (simp; done) | decide) rfl (by rw [hty]; simp only [so, sq, zy, zz, tyE, SO', SQ', opQ, opStore, opAlloc, ev, putS, dOk, cv, SV.cs, SV.one, SV.bool?, eqB, Value.oneCell', ldOwn, binInt, binConst, binBool, binStr, isC, TK.agg, rv, rv1, ldV, resOne, resV, Nat.reduceAdd, Nat.reduceMul, Nat.reduceSub, Nat.reduceLT, Nat.reduceLeDiff, Nat.reduceEqDiff, Nat.reduceBEq, reduceIte, reduceCtorEq, eq_self]; try rfl) rfl (by rw [hrest]; rfl) (by first | exact Le.refl _ | assumption) rfl (by simp only [enumO]; exact (by repeat (first | exact plain_nil | refine plain_cons (fun _ h => h) ?_))) ?_; simp only [SV.den, resV, dens]
      exact ⟨b', _, _, by simp [fibV], ⟨vl7, fs7, d1, d2, d3, rs7, Z7, y1, y2, y3, y4, y5, rfl⟩, hL.mono hle6, VT.rep_mono hle6 hvl2, hts⟩
end Go.Proofs.YtpppkednpamhbaaGreat.R
namespace Go.Proofs.YtpppkednpamhbaaGreat
set_option linter.unusedSimpArgs false
set_option linter.unusedVariables false
open Go.Sx
set_option maxHeartbeats 16000000
set_option maxRecDepth 20000
theorem begin_bad (p : Pr) (ps : Value) (cb : Nat) (f : Int) (av : List VT) (sl : Value) (G : Hp) (hc : At G cb 0 [ps]) (hps : rF.S G p ps) (hf0 : 0 ≤ f) (hf1 : f < p.length) (hpl : p.length ≤ 100) (hn : (av.length : Int) = (fu p f.toNat).params) (hal : av.length ≤ 100)
    (hS : rW.S G av sl) (hbad : ∃ v ∈ av, vld v = false) :
    Pure Tryz.prog 12 [.pointer (some ⟨cb, 0, none⟩), .int .i64 f, sl] G (fun v _ => v = .tuple #[.pointer none, .int .i64 2]) := by
  have hms := miss2_ok p ps cb G hc hps (by omega)
  have hps0 := hps
  obtain ⟨ad, c, rfl⟩ := Rp.S_slice hS
  obtain ⟨bF, oF, ns, cF, rfl, hat, hp64, _⟩ : ∃ bF oF ns cF, ps = .slice (some ⟨bF, oF, none⟩) p.length cF ∧ At G bF (oF + f.toNat * 2) [.int .i64 (fu p f.toNat).params, ns] ∧ isI64 (fu p f.toNat).params ∧ rN.S G (fu p f.toNat).nodes ns := by
    obtain ⟨adp, capp, rfl⟩ := Rp.S_slice hps
    obtain ⟨bF, oF, ns, rfl, q⟩ := rF_at hps0 (i := f.toNat) (by omega)
    exact ⟨bF, oF, ns, capp, rfl, q⟩
  have hat0 : At G bF (oF + f.toNat * 2) [.int .i64 (fu p f.toNat).params] := by simpa using hat.sub 0 1 (by simp)
  refine enterX ty tyok Tryz.func12 rfl Tryz.ntmps12 [.v (.pointer (some ⟨cb, 0, none⟩)), .v (.int .i64 f), .v (.slice ad av.length c)] (by simp) ?_
  intro C hP hQ hnt hty hmb hmh hro; have hQp := qp_body hQ; refine st_ ?_
  refine rn_ ?_; intros
  refine go_callf (by rw [hnt]; rfl) (by rw [hP]; kernel_rfl) rfl (hP ▸ hms) ?_; refine rn_ ?_; intros
  (refine x_split rfl rfl rfl (fun hc => absurd hc (by first | decide +kernel | (simp; first | done | fail))) (fun _ => ?_); refine st_ ?_; (refine ru_ ?_; intros))
  refine rn_ ?_; intros
  refine go_gsplit rfl rfl (fun h1 => ?_) (fun h1 => ?_) <;> (refine st_ ?_; (refine rn_ ?_; intros))
  · exfalso; simp at h1; omega
  refine go_q (by rw [hnt]; rfl) (quiet_load (by rw [hty]; rfl) rfl (by simp [TK.agg]) hc rfl) ?_; refine rn_ ?_; intros
  refine x_split rfl rfl rfl (fun h2 => ?_) (fun h2 => ?_) <;> (refine st_ ?_; (refine ru_ ?_; intros))
  · exfalso; simp at h2; omega
  refine rn_ ?_; intros
  refine go_q (by rw [hnt]; rfl) (quiet_load (by rw [hty]; rfl) rfl (by simp [TK.agg]) hc rfl) ?_; refine rn_ ?_; intros
  refine go_q (v := .pointer (some ⟨bF, oF + f.toNat * 2, none⟩)) (by rw [hnt]; rfl) ((quiet_index (by rw [hty]; rfl) (by rw [hty]; rfl) rfl rfl rfl (by omega) (by omega)).cast (by rfl)) ?_
  refine rn_ ?_; intros
  refine go_q (by rw [hnt]; rfl) (quiet_load (by rw [hty]; rfl) rfl (by simp [TK.agg]) hat0 rfl) ?_; refine rn_ ?_; intros
  refine x_split rfl rfl rfl (fun h3 => ?_) (fun h3 => ?_) <;> (refine st_ ?_; (refine ru_ ?_; intros))
  · exfalso; simp at h3; exact h3 hn
  refine rn_ ?_; intros
  refine go_make 10 (by rw [hnt]; rfl) (by rw [hty]; rfl) (by rw [hty]; rfl) rfl rfl (Nat.zero_le _) rfl (by rw [hmh]; omega) (by omega) (by simp only []; omega) (by simp) ?_
  intro g10
  refine rn_ ?_; intros
  refine go_keep [0, 1, 2, 6, 7, 8, 41, 42, 43] [10] ?_
  refine st_ ?_
  refine x_loop rfl (fun q s' => ∃ (k : Nat) (G1 : Hp) (ad3 : Option Addr) (cap3 : Nat) (xs : List Value), k ≤ av.length ∧ q = av.length - k ∧ Le G G1 ∧ rW.L G1 (av.take k) xs ∧ (∀ v ∈ av.take k, vld v = true) ∧
    s' = ⟨[(0, .v (.pointer (some ⟨cb, 0, none⟩))), (1, .v (.int .i64 f)), (2, .v (.slice ad av.length c)), (6, .v (.pointer none)), (7, .v (.int .i64 0)), (8, .v (.slice ad3 k cap3)), (41, .v (.slice ad av.length c)), (42, .v (.int .i64 av.length)), (43, .v (.int .i64 k))],
      [(10, g10, .row (.slice ad3 k cap3) 42 3 k xs)], G1, []⟩) ⟨0, G, some ⟨g10, 0, none⟩, av.length, [], by omega, rfl, Le.refl _, rfl, by simp, rfl⟩ ?_
  rintro q s' ⟨k, G1, ad3, cap3, xs, hk, hq, hle1, hxs, hall, rfl⟩ ih
  refine rn_ ?_; intros
  refine x_if rfl rfl rfl rfl (fun hjl => ?_) (fun hjl => ?_)
  · have hlt : k < av.length := by simp at hjl; omega
    have htk : av.take (k + 1) = av.take k ++ [av[k]] := by rw [List.take_append_getElem]
    obtain ⟨bV, oV, sv, rfl, hatV, hrV, htV⟩ := rW_at (Rp.S_mono hle1 hS) hlt
    obtain ⟨a9, c9, rfl⟩ := VT.rep_slice hrV
    have hchk := check_ok av[k] _ G1 hrV
    refine rn_ ?_; intros
    refine go_q (by rw [hnt]; rfl) (quiet_index (by rw [hty]; rfl) (by rw [hty]; rfl) rfl rfl rfl (by omega) (by omega)) ?_
    refine rn_ ?_; intros
    refine go_q (v := .agg #[.int .i64 av[k].k, .int .i64 av[k].n, .slice a9 av[k].l.length c9]) (by rw [hnt]; rfl) ((quiet_load (by rw [hty]; rfl) rfl (by simp [TK.agg]) (by simpa using hatV) rfl).cast (by rfl)) ?_
    refine rn_ ?_; intros
    refine go_callf (by rw [hnt]; rfl) (by rw [hP]; kernel_rfl) rfl (hP ▸ hchk) ?_; refine rn_ ?_; intros
    refine x_split rfl rfl rfl (fun h8 => ?_) (fun h8 => ?_) <;> (refine st_ ?_; (refine ru_ ?_; intros))
    · refine rn_ ?_; intros
      refine xc_ hQ hmb ?_; simp only [SV.den, resV, dens]
      try rfl
    have hvv : vld av[k] = true := by
      cases hq9 : vld av[k] with
      | true => rfl
      | false => simp [chk, hq9] at h8
    refine rn_ ?_; intros
    refine go_call (by rw [hnt]; rfl) (by rw [hP]; kernel_rfl) rfl (hP ▸ copy_ok av[k] _ G1 hrV (by omega)) ?_
    rintro v2 G2 (hle2 : Le G1 G2) (⟨_, a8, c8, rfl, hr8⟩ | ⟨hns, _⟩)
    rotate_left
    · simp [vld, hns] at hvv
    refine rn_ ?_; intros
    refine go_append 10 (by rw [hnt]; rfl) (by rw [hty]; rfl) (by rw [hty]; rfl) (by decide) rfl rfl rfl (by rw [hmh]; omega) rfl (src_own 3 rfl rfl) rfl (by simp [dens, SV.den, Value.oneCell']) (by omega) (by simp only []; omega) ?_
    intro v'
    refine go_rowS 10 rfl ?_
    rintro ad4 cap4 rfl
    refine rn_ ?_; intros
    rw [wr (n := (k : Int) + 1) (by omega) (by omega)]
    refine go_keep [0, 1, 2, 6, 7, 8, 41, 42, 43] [10] ?_
    refine st_ ?_
    refine ih (av.length - (k + 1)) _ (by omega) ⟨k + 1, G2, ad4, cap4, _, by omega, rfl, hle1.trans hle2, ?_, ?_, rfl⟩
    · rw [htk]
      exact Rp.L_append (Rp.L_mono hle2 hxs) (Rp.L_single ⟨_, rfl, hr8, htV⟩)
    · rw [htk]
      intro v hv
      rcases List.mem_append.1 hv with hv | hv
      · exact hall v hv
      · simp only [List.mem_cons, List.not_mem_nil, or_false] at hv
        subst hv
        exact hvv
  exfalso
  have hkl : k = av.length := by simp at hjl; omega
  subst hkl
  rw [List.take_length] at hall
  obtain ⟨v, hv1, hv2⟩ := hbad
  rw [hall v hv1] at hv2
  cases hv2
end Go.Proofs.YtpppkednpamhbaaGreat
namespace Go.Sx
set_option linter.unusedSimpArgs false
set_option linter.unusedVariables false
section
variable {C : Ctx}
theorem quiet_pneq {sl : List (Nat × SV)} {own : Owns} {G : Hp} {T e T' : TypeId} {x : Operand} {ad : Option Addr} {vx : SV} {sz by' : Nat} {ze : List Value} {fl : List (Nat × Nat × Bool)} (hT : C.ty T = some ⟨.ptr e, sz, by', ze, fl⟩) (hx : ev sl x = some vx) (hv : vx.den = .pointer ad) : Quiet C sl own G (.binOp .neq T x (.const (.pointer none)) T') (.bool (!ad.isNone)) := by
  intro a w d t pos aft g hs hh
  have hxv := ev_ok hs hx
  rw [hv] at hxv
  have hu := (C.tyok _ _ hT).k
  simp only [TK.fits] at hu
  have hc : a.eval (.const (.pointer none)) = .pointer none := rfl
  simp only [execOp, hxv, hc]
  have h1 : (eqGuard .neq T x (.const (.pointer none)) (.pointer ad) (.pointer none)).run C.P w = .ok () w := by simp [eqGuard]
  have h2 : (binOp .neq T (.pointer ad) (.pointer none)).run C.P w = .ok (.bool (!ad.isNone)) w := by
    simp [binOp, equal_p hu]
  rw [Sem.run_bind]
  simp [h1, h2, Sem.run_bind]
end
end Go.Sx
namespace Go.Proofs.YtpppkednpamhbaaGreat
set_option linter.unusedSimpArgs false
set_option linter.unusedVariables false
open Go.Sx
def nde (x y : Nd) : Bool := x.op == y.op && (x.n == y.n && x.l == y.l)
def ndL : List Nd → List Nd → Bool
  | [], [] => true
  | x :: l, y :: m => nde x y && ndL l m
  | _, _ => false
def fue (a b : Fu) : Bool := a.params == b.params && ndL a.nodes b.nodes
theorem ndL_len : ∀ {l m : List Nd}, ndL l m = true → l.length = m.length
  | [], [], _ => rfl
  | x :: l, y :: m, h => by
    simp only [ndL, Bool.and_eq_true] at h
    simp [ndL_len h.2]
  | [], _ :: _, h => by simp [ndL] at h
  | _ :: _, [], h => by simp [ndL] at h
theorem nde_refl (x : Nd) : nde x x = true := by simp [nde]
theorem ndL_refl : ∀ l : List Nd, ndL l l = true
  | [] => rfl
  | x :: l => by simp [ndL, nde_refl, ndL_refl l]
theorem fue_refl (a : Fu) : fue a a = true := by simp [fue, ndL_refl]
theorem ndL_drop {l m : List Nd} {k : Nat} (h1 : k < l.length) (h2 : k < m.length) : ndL (l.drop k) (m.drop k) = (nde l[k] m[k] && ndL (l.drop (k + 1)) (m.drop (k + 1))) := by
  rw [List.drop_eq_getElem_cons h1, List.drop_eq_getElem_cons h2]; rfl
theorem beq_drop {l m : List Int} {k : Nat} (h1 : k < l.length) (h2 : k < m.length) : (l.drop k == m.drop k) = (l[k] == m[k] && l.drop (k + 1) == m.drop (k + 1)) := by
  rw [List.drop_eq_getElem_cons h1, List.drop_eq_getElem_cons h2]; rfl
theorem beq_len {l m : List Int} (h : l.length ≠ m.length) : (l == m) = false := by
  rw [beq_eq_false_iff_ne]
  rintro rfl
  exact h rfl
set_option maxHeartbeats 4000000
theorem frefsame_ok (a b : Fu) (s1 s2 : Value) (G : Hp) (h1 : rN.S G a.nodes s1) (h2 : rN.S G b.nodes s2) : Pure Tryz.prog 73 [.agg #[.int .i64 a.params, s1], .agg #[.int .i64 b.params, s2]] G (fun r _ => r = .bool (fue a b)) := by
  obtain ⟨ad1, cap1, rfl⟩ := Rp.S_slice h1
  obtain ⟨ad2, cap2, rfl⟩ := Rp.S_slice h2
  have h63 := Rp.S_len h1
  refine enterX ty tyok Tryz.func73 rfl Tryz.ntmps73 [.a [.v (.int .i64 a.params), .v (.slice ad1 a.nodes.length cap1)], .a [.v (.int .i64 b.params), .v (.slice ad2 b.nodes.length cap2)]] (by simp) ?_
  intro C hP hQ hnt hty hmb hmh hro; have hQp := qp_body hQ; refine st_ ?_
  refine rn_ ?_; intros
  rename_i c2 c3
  have hfalse : a.nodes.length ≠ b.nodes.length → ndL a.nodes b.nodes = false := fun h => by
    cases hq : ndL a.nodes b.nodes with
    | false => rfl
    | true => exact absurd (ndL_len hq) h
  refine go_gsplit rfl rfl (fun g1 => ?_) (fun g1 => ?_) <;> (refine st_ ?_; (refine rn_ ?_; intros))
  · refine xc_ hQ hmb ?_; simp only [SV.den, resV, dens]
    simp only [fue, beq_eq_false_iff_ne.2 (show a.params ≠ b.params by simpa using g1), Bool.false_and]
  have hpe : (a.params == b.params) = true := by simpa using g1
  refine x_split rfl rfl rfl (fun g2 => ?_) (fun g2 => ?_) <;> (refine st_ ?_; (refine ru_ ?_; intros))
  · refine xc_ hQ hmb ?_; simp only [SV.den, resV, dens]
    simp only [fue, hpe, Bool.true_and]
    rw [hfalse (by simp at g2; omega)]
  have hlm : a.nodes.length = b.nodes.length := by simp at g2; omega
  have hfu : fue a b = ndL a.nodes b.nodes := by simp only [fue, hpe, Bool.true_and]
  refine go_keep [2, 3, 5] [0, 1] ?_
  refine st_ ?_
  refine x_loop rfl (fun q s => ∃ (k : Nat), k ≤ a.nodes.length ∧ q = a.nodes.length - k ∧ ndL a.nodes b.nodes = ndL (a.nodes.drop k) (b.nodes.drop k) ∧
    s = ⟨[(2, .p 0 c2 0), (3, .p 1 c3 0), (5, .v (.int .i64 k))], [(0, c2, .c 64 [.v (.int .i64 a.params), .v (.slice ad1 a.nodes.length cap1)]), (1, c3, .c 64 [.v (.int .i64 b.params), .v (.slice ad2 b.nodes.length cap2)])], G, []⟩) ⟨0, by omega, rfl, by simp, by simp⟩ ?_
  rintro q s ⟨k, hk, hq, hinv, rfl⟩ ih
  refine rn_ ?_; intros
  refine x_if rfl rfl rfl rfl (fun hjl => ?_) (fun hjl => ?_)
  · have hlt : k < a.nodes.length := by simp at hjl; omega
    rw [ndL_drop hlt (by omega)] at hinv
    obtain ⟨b1, o1, c1, cs1, hse1, hat1, sl1, rfl, hop1, hn1, hsl1⟩ := Rp.S_get h1 (i := k) (by omega)
    cases hse1
    have hsl1' := hsl1
    obtain ⟨_, ae1, ce1, rfl, _⟩ := hsl1
    have hat1' : At G b1 (o1 + k * 3) [.int .i64 a.nodes[k].op, .int .i64 a.nodes[k].n, .slice ae1 a.nodes[k].l.length ce1] := by simpa [rN] using hat1
    obtain ⟨b2, o2, c2, cs2, hse2, hat2, sl2, rfl, hop2, hn2, hsl2⟩ := Rp.S_get h2 (i := k) (by omega)
    cases hse2
    have hsl2' := hsl2
    obtain ⟨_, ae2, ce2, rfl, _⟩ := hsl2
    have hat2' : At G b2 (o2 + k * 3) [.int .i64 b.nodes[k].op, .int .i64 b.nodes[k].n, .slice ae2 b.nodes[k].l.length ce2] := by simpa [rN] using hat2
    generalize hx : a.nodes[k] = x at *
    generalize hy : b.nodes[k] = y at *
    refine rn_ ?_; intros
    refine cut_tail 1 (fun s' => ∃ b6 b7, s' = ⟨[(2, .p 0 c2 0), (3, .p 1 c3 0), (5, .v (.int .i64 k)), (6, .p 10 b6 0), (7, .p 11 b7 0)], [(0, c2, .c 64 [.v (.int .i64 a.params), .v (.slice (some ⟨b1, o1, none⟩) a.nodes.length cap1)]), (1, c3, .c 64 [.v (.int .i64 b.params), .v (.slice (some ⟨b2, o2, none⟩) b.nodes.length cap2)]),
      (10, b6, .c 110 [.v (.int .i64 x.op), .v (.int .i64 x.n), .v (.slice ae1 x.l.length ce1)]), (11, b7, .c 110 [.v (.int .i64 y.op), .v (.int .i64 y.n), .v (.slice ae2 y.l.length ce2)])], G, []⟩) ?_ (fun key => ?_)
    rotate_left
    · simp only [List.drop_succ_cons, List.drop_zero] at key
      refine x_held [(0, c2, .c 64 [.v (.int .i64 a.params), .v (.slice (some ⟨b1, o1, none⟩) a.nodes.length cap1)]), (1, c3, .c 64 [.v (.int .i64 b.params), .v (.slice (some ⟨b2, o2, none⟩) b.nodes.length cap2)])] rfl (by rw [hP]; kernel_rfl) rfl rfl rfl ?_; refine st_ ?_
      refine tq_ 0 rfl (quiet_op (by rw [hty]; first | rfl | (refine st_ ?_; rfl))) ?_; refine st_ ?_
      refine tq_ 1 rfl (quiet_op (by rw [hty]; first | rfl | (refine st_ ?_; rfl))) ?_; refine st_ ?_
      refine tq_ 2 rfl (quiet_op (by rw [hty]; first | rfl | (refine st_ ?_; rfl))) ?_; refine st_ ?_
      refine tq_ 3 rfl (x := .v (.pointer (some ⟨b1, o1 + k * 3, none⟩))) ((quiet_index (by rw [hty]; rfl) (by rw [hty]; rfl) rfl rfl rfl (by omega) (by omega)).cast (by simp [SV.den])) ?_
      refine st_ ?_
      refine tq_ 4 rfl (x := .a [.v (.int .i64 x.op), .v (.int .i64 x.n), .v (.slice ae1 x.l.length ce1)]) ((quiet_load (by rw [hty]; rfl) rfl (by simp [TK.agg]) hat1' rfl).cast rfl) ?_
      refine st_ ?_
      refine tq_ 5 rfl (quiet_op (by rw [hty]; first | rfl | (refine st_ ?_; rfl))) ?_; refine st_ ?_
      refine tq_ 6 rfl (quiet_op (by rw [hty]; first | rfl | (refine st_ ?_; rfl))) ?_; refine st_ ?_
      refine tq_ 7 rfl (quiet_op (by rw [hty]; first | rfl | (refine st_ ?_; rfl))) ?_; refine st_ ?_
      refine tq_ 8 rfl (x := .v (.pointer (some ⟨b2, o2 + k * 3, none⟩))) ((quiet_index (by rw [hty]; rfl) (by rw [hty]; rfl) rfl rfl rfl (by omega) (by omega)).cast (by simp [SV.den])) ?_
      refine st_ ?_
      refine tq_ 9 rfl (x := .a [.v (.int .i64 y.op), .v (.int .i64 y.n), .v (.slice ae2 y.l.length ce2)]) ((quiet_load (by rw [hty]; rfl) rfl (by simp [TK.agg]) hat2' rfl).cast rfl) ?_
      refine st_ ?_
      refine h_two 10 11 rfl rfl (by kernel_rfl) ?_ ?_
      · refine go_newAt 10 (by rw [hnt]; rfl) (by rw [hty]; rfl) rfl (by omega) ?_
        intro b6
        refine st_ ?_
        refine rn_ ?_; intros
        refine hs_ ?_
        refine h_one 11 rfl (by kernel_rfl) ?_
        refine go_newAt 11 (by rw [hnt]; rfl) (by rw [hty]; rfl) rfl (by omega) ?_
        intro b7
        refine st_ ?_
        refine rn_ ?_; intros
        refine hs_ ?_
        refine h_one 12 rfl (by kernel_rfl) ?_
        refine rn_ ?_; intros
        refine hs_ ?_
        refine h_one 13 rfl (by kernel_rfl) ?_
        refine rn_ ?_; intros
        refine hs_ ?_
        refine h_end (by kernel_rfl) ?_
        refine go_keep [2, 3, 5, 6, 7] [0, 1, 10, 11] ?_
        refine st_ ?_
        exact key _ ⟨_, _, rfl⟩
      · refine go_newAt 11 (by rw [hnt]; rfl) (by rw [hty]; rfl) rfl (by omega) ?_
        intro b7
        refine st_ ?_
        refine rn_ ?_; intros
        refine hs_ ?_
        refine h_one 10 rfl (by kernel_rfl) ?_
        refine go_newAt 10 (by rw [hnt]; rfl) (by rw [hty]; rfl) rfl (by omega) ?_
        intro b6
        refine st_ ?_
        refine rn_ ?_; intros
        refine hs_ ?_
        refine h_one 12 rfl (by kernel_rfl) ?_
        refine rn_ ?_; intros
        refine hs_ ?_
        refine h_one 13 rfl (by kernel_rfl) ?_
        refine rn_ ?_; intros
        refine hs_ ?_
        refine h_end (by kernel_rfl) ?_
        refine go_keep [2, 3, 5, 6, 7] [0, 1, 10, 11] ?_
        refine st_ ?_
        exact key _ ⟨_, _, rfl⟩
    rintro s' ⟨b6, b7, rfl⟩
    simp only [List.drop_succ_cons, List.drop_zero]
    refine rn_ ?_; intros
    refine go_gsplit rfl rfl (fun e1 => ?_) (fun e1 => ?_) <;> (refine st_ ?_; (refine rn_ ?_; intros))
    · repeat (first | (refine go_gsplit rfl rfl (fun hc => absurd hc (by first | decide +kernel | (simp; first | done | fail))) (fun _ => ?_); refine st_ ?_; (refine rn_ ?_; intros)) | (refine go_gsplit rfl rfl (fun _ => ?_) (fun hc => absurd hc (by first | decide +kernel | (simp; first | done | fail))); refine st_ ?_; (refine rn_ ?_; intros)) | (refine x_split rfl rfl rfl (fun hc => absurd hc (by first | decide +kernel | (simp; first | done | fail))) (fun _ => ?_); refine st_ ?_; (refine ru_ ?_; intros)) | (refine x_split rfl rfl rfl (fun _ => ?_) (fun hc => absurd hc (by first | decide +kernel | (simp; first | done | fail))); refine st_ ?_; (refine ru_ ?_; intros)))
      refine xc_ hQ hmb ?_; simp only [SV.den, resV, dens]
      rw [hfu, hinv]; simp only [nde, beq_eq_false_iff_ne.2 (show x.op ≠ y.op by simpa using e1), Bool.false_and]
    have e1' : (x.op == y.op) = true := by simpa using e1
    refine go_gsplit rfl rfl (fun e2 => ?_) (fun e2 => ?_) <;> (refine st_ ?_; (refine rn_ ?_; intros))
    · repeat (first | (refine go_gsplit rfl rfl (fun hc => absurd hc (by first | decide +kernel | (simp; first | done | fail))) (fun _ => ?_); refine st_ ?_; (refine rn_ ?_; intros)) | (refine go_gsplit rfl rfl (fun _ => ?_) (fun hc => absurd hc (by first | decide +kernel | (simp; first | done | fail))); refine st_ ?_; (refine rn_ ?_; intros)) | (refine x_split rfl rfl rfl (fun hc => absurd hc (by first | decide +kernel | (simp; first | done | fail))) (fun _ => ?_); refine st_ ?_; (refine ru_ ?_; intros)) | (refine x_split rfl rfl rfl (fun _ => ?_) (fun hc => absurd hc (by first | decide +kernel | (simp; first | done | fail))); refine st_ ?_; (refine ru_ ?_; intros)))
      refine xc_ hQ hmb ?_; simp only [SV.den, resV, dens]
      rw [hfu, hinv]; simp only [nde, e1', beq_eq_false_iff_ne.2 (show x.n ≠ y.n by simpa using e2), Bool.false_and, Bool.true_and]
    have e2' : (x.n == y.n) = true := by simpa using e2
    have hnd : nde x y = (x.l == y.l) := by simp only [nde, e1', e2', Bool.true_and]
    refine x_split rfl rfl rfl (fun e3 => ?_) (fun e3 => ?_) <;> (refine st_ ?_; (refine ru_ ?_; intros))
    · refine xc_ hQ hmb ?_; simp only [SV.den, resV, dens]
      rw [hfu, hinv, hnd, beq_len (by simp at e3; omega)]; rfl
    have hll : x.l.length = y.l.length := by simp at e3; omega
    have h63' := Rp.S_len hsl1'
    refine go_keep [2, 3, 5, 6, 7, 8] [0, 1, 10, 11] ?_
    refine st_ ?_
    refine x_loop rfl (fun q s => ∃ (m : Nat), m ≤ x.l.length ∧ q = x.l.length - m ∧ (x.l == y.l) = (x.l.drop m == y.l.drop m) ∧
      s = ⟨[(2, .p 0 c2 0), (3, .p 1 c3 0), (5, .v (.int .i64 k)), (6, .p 10 b6 0), (7, .p 11 b7 0), (8, .v (.int .i64 m))], [(0, c2, .c 64 [.v (.int .i64 a.params), .v (.slice (some ⟨b1, o1, none⟩) a.nodes.length cap1)]), (1, c3, .c 64 [.v (.int .i64 b.params), .v (.slice (some ⟨b2, o2, none⟩) b.nodes.length cap2)]),
      (10, b6, .c 110 [.v (.int .i64 x.op), .v (.int .i64 x.n), .v (.slice ae1 x.l.length ce1)]), (11, b7, .c 110 [.v (.int .i64 y.op), .v (.int .i64 y.n), .v (.slice ae2 y.l.length ce2)])], G, []⟩) ⟨0, by omega, rfl, by simp, by simp⟩ ?_
    rintro q2 s ⟨m, hm, hq2, hinv2, rfl⟩ ih2
    refine rn_ ?_; intros
    refine x_if rfl rfl rfl rfl (fun hml => ?_) (fun hml => ?_)
    · have hlt2 : m < x.l.length := by simp at hml; omega
      obtain ⟨d1, p1, rfl, ha1⟩ := rI_at hsl1' (i := m) hlt2
      obtain ⟨d2, p2, rfl, ha2⟩ := rI_at hsl2' (i := m) (by omega)
      rw [beq_drop hlt2 (by omega)] at hinv2
      refine rn_ ?_; intros
      refine x_draw rfl (by rw [hP]; kernel_rfl) rfl (by kernel_rfl) ?_
      refine runq 400 hty hnt ?_; refine st_ ?_
      refine q_q (by rw [hnt]; rfl) (quiet_index (by rw [hty]; rfl) (by rw [hty]; rfl) rfl rfl rfl (by omega) (by omega)) ?_; refine runq 400 hty hnt ?_; refine st_ ?_
      refine q_q (by rw [hnt]; rfl) (quiet_load (vs := [.int .i64 x.l[m]]) (by rw [hty]; rfl) rfl (by simp [TK.agg]) (by simpa using ha1) rfl) ?_
      refine runq 400 hty hnt ?_; refine st_ ?_
      refine q_q (by rw [hnt]; rfl) (quiet_index (by rw [hty]; rfl) (by rw [hty]; rfl) rfl rfl rfl (by omega) (by omega)) ?_; refine runq 400 hty hnt ?_; refine st_ ?_
      refine q_q (by rw [hnt]; rfl) (quiet_load (vs := [.int .i64 y.l[m]]) (by rw [hty]; rfl) rfl (by simp [TK.agg]) (by simpa using ha2) rfl) ?_
      refine runq 400 hty hnt ?_; refine st_ ?_
      refine q_end ?_; refine rn_ ?_; intros
      refine x_split rfl rfl rfl (fun hne => ?_) (fun hne => ?_) <;> (refine st_ ?_; (refine ru_ ?_; intros))
      · refine xc_ hQ hmb ?_; simp only [SV.den, resV, dens]
        rw [hfu, hinv, hnd, hinv2, beq_eq_false_iff_ne.2 (by simpa using hne)]; rfl
      · rw [wr (n := (m : Int) + 1) (by omega) (by omega)]
        refine go_keep [2, 3, 5, 6, 7, 8] [0, 1, 10, 11] ?_
        refine st_ ?_
        exact ih2 (x.l.length - (m + 1)) _ (by omega) ⟨m + 1, by omega, rfl, by rw [hinv2, show (x.l[m] == y.l[m]) = true by simpa using hne]; rfl, by simp⟩
    · have hge : m = x.l.length := by simp at hml; omega
      subst hge
      rw [List.drop_length, hll, List.drop_length] at hinv2
      refine rn_ ?_; intros
      rw [wr (n := (k : Int) + 1) (by omega) (by omega)]
      refine go_keep [2, 3, 5] [0, 1] ?_
      refine st_ ?_
      exact ih (a.nodes.length - (k + 1)) _ (by omega) ⟨k + 1, by omega, rfl, by rw [hinv, hnd, hinv2]; rfl, by simp⟩
  · have hge : k = a.nodes.length := by simp at hjl; omega
    subst hge
    refine rn_ ?_; intros
    refine xc_ hQ hmb ?_; simp only [SV.den, resV, dens]
    rw [hfu, hinv, List.drop_length, hlm, List.drop_length]; rfl
end Go.Proofs.YtpppkednpamhbaaGreat
namespace Go.Proofs.YtpppkednpamhbaaGreat
set_option linter.unusedSimpArgs false
set_option linter.unusedVariables false
open Go.Sx
def fuL : Pr → Pr → Bool
  | [], [] => true
  | a :: p, b :: q => fue a b && fuL p q
  | _, _ => false
theorem fuL_len : ∀ {p q : Pr}, fuL p q = true → p.length = q.length
  | [], [], _ => rfl
  | a :: p, b :: q, h => by simp only [fuL, Bool.and_eq_true] at h; simp [fuL_len h.2]
theorem fuL_refl : ∀ p : Pr, fuL p p = true
  | [] => rfl
  | a :: p => by simp [fuL, fue_refl, fuL_refl p]
theorem fuL_drop {p q : Pr} {k : Nat} (h1 : k < p.length) (h2 : k < q.length) : fuL (p.drop k) (q.drop k) = (fue (fu p k) (fu q k) && fuL (p.drop (k + 1)) (q.drop (k + 1))) := by
  rw [fu_drop h1, fu_drop h2]; rfl
theorem fuL_false {p q : Pr} (h : p.length ≠ q.length) : fuL p q = false := by
  cases hq : fuL p q with
  | false => rfl
  | true => exact absurd (fuL_len hq) h
set_option maxHeartbeats 4000000
theorem rfuns_ok (p q : Pr) (s1 s2 : Value) (G : Hp) (h1 : rF.S G p s1) (h2 : rF.S G q s2) : Pure Tryz.prog 40 [s1, s2] G (fun r _ => r = .bool (fuL p q)) := by
  have h10 := h1
  have h20 := h2
  obtain ⟨ad1, cap1, rfl⟩ := Rp.S_slice h1
  obtain ⟨ad2, cap2, rfl⟩ := Rp.S_slice h2
  have h63 := Rp.S_len h1
  refine enterX ty tyok Tryz.func40 rfl Tryz.ntmps40 [.v (.slice ad1 p.length cap1), .v (.slice ad2 q.length cap2)] (by simp) ?_
  intro C hP hQ hnt hty hmb hmh hro; have hQp := qp_body hQ; refine st_ ?_
  refine rn_ ?_; intros
  refine x_split rfl rfl rfl (fun hl => ?_) (fun hl => ?_) <;> (refine st_ ?_; (refine ru_ ?_; intros))
  · refine xc_ hQ hmb ?_; simp only [SV.den, resV, dens]
    rw [fuL_false (by simp at hl; omega)]
  have hlm : p.length = q.length := by simp at hl; omega
  refine go_keep [0, 1, 5] [] ?_
  refine st_ ?_
  refine x_loop rfl (fun qq s => ∃ (k : Nat), k ≤ p.length ∧ qq = p.length - k ∧ fuL p q = fuL (p.drop k) (q.drop k) ∧
    s = ⟨[(0, .v (.slice ad1 p.length cap1)), (1, .v (.slice ad2 q.length cap2)), (5, .v (.int .i64 k))], [], G, []⟩) ⟨0, by omega, rfl, by simp, rfl⟩ ?_
  rintro qq s ⟨k, hk, hq, hinv, rfl⟩ ih
  refine rn_ ?_; intros
  refine x_if rfl rfl rfl rfl (fun hjl => ?_) (fun hjl => ?_)
  · have hlt : k < p.length := by simp at hjl; omega
    rw [fuL_drop hlt (by omega)] at hinv
    obtain ⟨b1, o1, n1, rfl, hat1, hp1, hn1⟩ := rF_at h10 hlt
    obtain ⟨b2, o2, n2, rfl, hat2, hp2, hn2⟩ := rF_at h20 (i := k) (by omega)
    have hc := frefsame_ok (fu p k) (fu q k) n1 n2 G hn1 hn2
    obtain ⟨adn1, capn1, rfl⟩ := Rp.S_slice hn1
    obtain ⟨adn2, capn2, rfl⟩ := Rp.S_slice hn2
    refine rn_ ?_; intros
    refine x_draw rfl (by rw [hP]; kernel_rfl) rfl (by kernel_rfl) ?_
    refine runq 400 hty hnt ?_; refine st_ ?_
    refine q_q (by rw [hnt]; rfl) (quiet_index (by rw [hty]; rfl) (by rw [hty]; rfl) rfl rfl rfl (by omega) (by omega)) ?_; refine runq 400 hty hnt ?_; refine st_ ?_
    refine q_q (by rw [hnt]; rfl) (quiet_load (by rw [hty]; rfl) rfl (by simp [TK.agg]) hat1 rfl) ?_; refine runq 400 hty hnt ?_; refine st_ ?_
    refine q_q (by rw [hnt]; rfl) (quiet_index (by rw [hty]; rfl) (by rw [hty]; rfl) rfl rfl rfl (by omega) (by omega)) ?_; refine runq 400 hty hnt ?_; refine st_ ?_
    refine q_q (by rw [hnt]; rfl) (quiet_load (by rw [hty]; rfl) rfl (by simp [TK.agg]) hat2 rfl) ?_; refine runq 400 hty hnt ?_; refine st_ ?_
    refine q_callf (by rw [hnt]; rfl) (by rw [hP]; kernel_rfl) rfl (hP ▸ hc) ?_; refine runq 400 hty hnt ?_; refine st_ ?_
    refine q_end ?_; refine rn_ ?_; intros
    refine x_split rfl rfl rfl (fun hne => ?_) (fun hne => ?_) <;> (refine st_ ?_; (refine ru_ ?_; intros))
    · refine xc_ hQ hmb ?_; simp only [SV.den, resV, dens]
      rw [hinv, show fue (fu p k) (fu q k) = false by simpa using hne]; rfl
    · rw [wr (n := (k : Int) + 1) (by omega) (by omega)]
      refine go_keep [0, 1, 5] [] ?_
      refine st_ ?_
      exact ih (p.length - (k + 1)) _ (by omega) ⟨k + 1, by omega, rfl, by rw [hinv, show fue (fu p k) (fu q k) = true by simpa using hne]; rfl, by simp⟩
  · have hge : k = p.length := by simp at hjl; omega
    subst hge
    refine rn_ ?_; intros
    refine xc_ hQ hmb ?_; simp only [SV.den, resV, dens]
    rw [hinv, List.drop_length, hlm, List.drop_length]; rfl
theorem rsamep_ok (p q : Pr) (s1 s2 : Value) (G : Hp) (h1 : rF.S G p s1) (h2 : rF.S G q s2) : Pure Tryz.prog 14 [.agg #[s1], .agg #[s2]] G (fun r _ => r = .bool (fuL p q)) := by
  have h10 := h1
  have h20 := h2
  obtain ⟨ad1, cap1, rfl⟩ := Rp.S_slice h1
  obtain ⟨ad2, cap2, rfl⟩ := Rp.S_slice h2
  refine enterX ty tyok Tryz.func14 rfl Tryz.ntmps14 [.a [.v (.slice ad1 p.length cap1)], .a [.v (.slice ad2 q.length cap2)]] (by simp) ?_
  intro C hP hQ hnt hty hmb hmh hro; have hQp := qp_body hQ; refine st_ ?_
  refine rn_ ?_; intros
  refine go_callf (by rw [hnt]; rfl) (by rw [hP]; kernel_rfl) rfl (hP ▸ rfuns_ok p q _ _ G h10 h20) ?_; refine rn_ ?_; intros
  refine xc_ hQ hmb ?_; simp only [SV.den, resV, dens]
end Go.Proofs.YtpppkednpamhbaaGreat
namespace Go.Proofs.YtpppkednpamhbaaGreat.R
set_option linter.unusedSimpArgs false
set_option linter.unusedVariables false
open Go.Sx
set_option maxHeartbeats 16000000
set_option maxRecDepth 20000
theorem beginE_ok (p : Pr) (ps : Value) (cb : Nat) (f : Int) (av : List VT) (sl : Value) (e : Int) (G : Hp) (hc : At G cb 0 [ps]) (hps : rF.S G p ps) (hp0 : 1 ≤ p.length) (hpl : p.length ≤ 100) (hal : av.length ≤ 100) (hS : rW.S G av sl) (he : begQ p f av = e) (h0 : e ≠ 0) :
    Pure Tryz.prog 12 [.pointer (some ⟨cb, 0, none⟩), .int .i64 f, sl] G (fun v _ => v = .tuple #[.pointer none, .int .i64 e]) := by
  unfold begQ at he
  split at he
  · rename_i h1
    obtain ⟨a, c, rfl⟩ := Rp.S_slice hS
    exact begin_err p ps cb f a _ c e G hc hps (by omega) (.inl ⟨h1, he.symm⟩)
  · rename_i h1
    split at he
    · rename_i h2
      obtain ⟨a, c, rfl⟩ := Rp.S_slice hS
      exact begin_err p ps cb f a _ c e G hc hps (by omega) (.inr ⟨by omega, by omega, h2, he.symm⟩)
    · rename_i h2
      split at he
      · exact absurd he.symm h0
      · rename_i h3
        subst he
        refine begin_bad p ps cb f av sl G hc hps (by omega) (by omega) hpl (by omega) hal hS ?_
        refine Classical.byContradiction fun hn => h3 (List.all_eq_true.2 fun v hv => ?_)
        cases hq : vld v with
        | true => rfl
        | false => exact absurd ⟨v, hv, hq⟩ hn
theorem begQ_no {p : Pr} {f : Int} {av : List VT} (h : begQ p f av = 0) : 0 ≤ f ∧ f < p.length ∧ (av.length : Int) = (fu p f.toNat).params ∧ ∀ v ∈ av, vld v = true := by
  unfold begQ at h
  split at h
  · cases h
  · split at h
    · cases h
    · split at h
      · rename_i h1 h2 h3
        exact ⟨by omega, by omega, by omega, List.all_eq_true.1 h3⟩
      · cases h
theorem plays_ok (p : Pr) (ps : Value) (f : Int) (args : List VT) (l : List Ac) (sl sl2 : Value) (G : Hp) (hps : rF.S G p ps) (ha : repS G args sl) (hb : ∀ v ∈ args, tsz v ≤ 2000000) (hl : rA.S G l sl2) (hlb : ∀ x ∈ l, tsz x.v ≤ 2000000) :
    Pure Tryz.prog 3 [.agg #[ps], .int .i64 f, sl, sl2] G (fun v _ => v = .bool true) := by
  have h63 := Rp.S_len hps
  obtain ⟨adp, cp, rfl⟩ := Rp.S_slice hps
  obtain ⟨ad2, c2', rfl⟩ := Rp.S_slice hl
  have hl63 := Rp.S_len hl
  obtain ⟨ha63, ad, cap, rfl, haS⟩ := ha
  refine enterX ty tyok Tryz.func3 rfl Tryz.ntmps3 [.a [.v (.slice adp p.length cp)], .v (.int .i64 f), .v (.slice ad args.length cap), .v (.slice ad2 l.length c2')] (by simp) ?_
  intro C hP hQ hnt hty hmb hmh hro; have hQp := qp_body hQ; refine st_ ?_
  refine rn_ ?_; intros
  rename_i b4
  refine go_call (by rw [hnt]; rfl) (by rw [hP]; kernel_rfl) rfl (hP ▸ small_ok10 p _ G hps) ?_
  rintro _ G1 (hle1 : Le G G1) ⟨bs, rfl, hbs⟩
  cases bs with
  | false =>
    refine rn_ ?_; intros
    (refine go_gsplit rfl rfl (fun _ => ?_) (fun hc => absurd hc (by first | decide +kernel | (simp; first | done | fail))); refine st_ ?_; (refine rn_ ?_; intros))
    refine rn_ ?_; intros
    refine go_callf (by rw [hnt]; rfl) (by rw [hP]; kernel_rfl) rfl (hP ▸ works10_ok _) ?_; refine rn_ ?_; intros
    refine xc_ hQ hmb ?_; simp only [SV.den, resV, dens]
  | true =>
  have hsm := hbs rfl
  refine rn_ ?_; intros
  (refine go_gsplit rfl rfl (fun hc => absurd hc (by first | decide +kernel | (simp; first | done | fail))) (fun _ => ?_); refine st_ ?_; (refine rn_ ?_; intros))
  refine go_call (by rw [hnt]; rfl) (by rw [hP]; kernel_rfl) rfl (hP ▸ short_ok args _ 9 G1 ⟨ha63, ad, cap, rfl, haS.elim .inl fun ⟨b, off, cs, q1, q2, q3⟩ => .inr ⟨b, off, cs, q1, q2.mono hle1, repV_mono hle1 q3⟩⟩ hb) ?_
  rintro _ G2 (hle2 : Le G1 G2) ⟨bt, rfl, hbt⟩
  have hle12 := hle1.trans hle2
  cases bt with
  | false =>
    refine rn_ ?_; intros
    (refine go_gsplit rfl rfl (fun _ => ?_) (fun hc => absurd hc (by first | decide +kernel | (simp; first | done | fail))); refine st_ ?_; (refine rn_ ?_; intros))
    refine rn_ ?_; intros
    refine go_callf (by rw [hnt]; rfl) (by rw [hP]; kernel_rfl) rfl (hP ▸ works10_ok _) ?_; refine rn_ ?_; intros
    refine xc_ hQ hmb ?_; simp only [SV.den, resV, dens]
  | true =>
  obtain ⟨hal, has⟩ := hbt rfl
  refine rn_ ?_; intros
  (refine go_gsplit rfl rfl (fun hc => absurd hc (by first | decide +kernel | (simp; first | done | fail))) (fun _ => ?_); refine st_ ?_; (refine rn_ ?_; intros))
  refine go_call (by rw [hnt]; rfl) (by rw [hP]; kernel_rfl) rfl (hP ▸ few_ok l _ 40 G2 (Rp.S_mono hle12 hl) hlb) ?_
  rintro _ G3 (hle3 : Le G2 G3) ⟨bu, rfl, hbu⟩
  have hle13 := hle12.trans hle3
  cases bu with
  | false =>
    refine rn_ ?_; intros
    (refine x_split rfl rfl rfl (fun _ => ?_) (fun hc => absurd hc (by first | decide +kernel | (simp; first | done | fail))); refine st_ ?_; (refine ru_ ?_; intros))
    refine rn_ ?_; intros
    refine go_callf (by rw [hnt]; rfl) (by rw [hP]; kernel_rfl) rfl (hP ▸ works10_ok _) ?_; refine rn_ ?_; intros
    refine xc_ hQ hmb ?_; simp only [SV.den, resV, dens]
  | true =>
  obtain ⟨hll, hlx⟩ := hbu rfl
  have hS0 : rW.S G args (.slice ad args.length cap) := rW_ofS ⟨ha63, ad, cap, rfl, haS⟩ fun v hv => by have := has v hv; omega
  refine rn_ ?_; intros
  (refine x_split rfl rfl rfl (fun hc => absurd hc (by first | decide +kernel | (simp; first | done | fail))) (fun _ => ?_); refine st_ ?_; (refine ru_ ?_; intros))
  refine rn_ ?_; intros
  cases hp : rgtP p with
  | false =>
    refine go_call (by rw [hnt]; rfl) (by rw [hP]; kernel_rfl) rfl (hP ▸ load_err p _ G3 (Rp.S_mono hle13 hps) (by simpa [rgtP] using hp)) ?_
    rintro _ G4 (hle4 : Le G3 G4) rfl
    refine rn_ ?_; intros
    have hrp := rrightp_ok p _ G4 (Rp.S_mono (hle13.trans hle4) hps)
    rw [hp] at hrp
    refine go_callf (by rw [hnt]; rfl) (by rw [hP]; kernel_rfl) rfl (hP ▸ hrp) ?_; refine rn_ ?_; intros
    (refine x_split rfl rfl rfl (fun _ => ?_) (fun hc => absurd hc (by first | decide +kernel | (simp; first | done | fail))); refine st_ ?_; (refine ru_ ?_; intros))
    refine rn_ ?_; intros
    refine go_callf (by rw [hnt]; rfl) (by rw [hP]; kernel_rfl) rfl (hP ▸ numL_ok 2 _) ?_; refine rn_ ?_; intros
    (refine go_gsplit rfl rfl (fun _ => ?_) (fun hc => absurd hc (by first | decide +kernel | (simp; first | done | fail))); refine st_ ?_; (refine rn_ ?_; intros))
    refine go_q (v := .bool true) (by rw [hnt]; rfl) ((quiet_pnil (by rw [hty]; rfl) rfl rfl).cast (by rfl)) ?_
    refine rn_ ?_; intros
    (refine go_gsplit rfl rfl (fun _ => ?_) (fun hc => absurd hc (by first | decide +kernel | (simp; first | done | fail))); refine st_ ?_; (refine rn_ ?_; intros))
    refine go_callf (by rw [hnt]; rfl) (by rw [hP]; kernel_rfl) rfl (hP ▸ works10_ok _) ?_; refine rn_ ?_; intros
    refine xc_ hQ hmb ?_; simp only [SV.den, resV, dens]
    try rfl
  | true =>
  refine go_call (by rw [hnt]; rfl) (by rw [hP]; kernel_rfl) rfl (hP ▸ load_ok p _ G3 (Rp.S_mono hle13 hps) (bd_of hp hsm) (by simpa [rgtP] using hp)) ?_
  rintro _ G4 (hle4 : Le G3 G4) ⟨cb, ps4, rfl, hc, hp4⟩
  have hle14 := hle13.trans hle4
  refine rn_ ?_; intros
  have hrp := rrightp_ok p _ G4 (Rp.S_mono hle14 hps)
  rw [hp] at hrp
  refine go_callf (by rw [hnt]; rfl) (by rw [hP]; kernel_rfl) rfl (hP ▸ hrp) ?_; refine rn_ ?_; intros
  (refine x_split rfl rfl rfl (fun hc => absurd hc (by first | decide +kernel | (simp; first | done | fail))) (fun _ => ?_); refine st_ ?_; (refine ru_ ?_; intros))
  refine rn_ ?_; intros
  have hp1 := (yrgt hp).1.1
  have hpl : p.length ≤ 100 := by omega
  by_cases hbq : begQ p f args = 0
  rotate_left
  · refine go_call (by rw [hnt]; rfl) (by rw [hP]; kernel_rfl) rfl (hP ▸ beginE_ok p ps4 cb f args _ (begQ p f args) G4 hc hp4 hp1 hpl (by omega) (Rp.S_mono hle14 hS0) rfl hbq) ?_
    rintro _ G5 (hle5 : Le G4 G5) rfl
    refine rn_ ?_; intros
    refine go_call (by rw [hnt]; rfl) (by rw [hP]; kernel_rfl) rfl (hP ▸ rbegin_ok p _ f args _ G5 (Rp.S_mono (hle14.trans hle5) hps) hp (Rp.S_mono (hle14.trans hle5) hS0) (by omega)) ?_
    rintro _ G6 (hle6 : Le G5 G6) (⟨_, rfl⟩ | ⟨q, _⟩)
    rotate_left
    · exact absurd q hbq
    simp only [zeroF]
    refine rn_ ?_; intros
    rename_i b13
    refine x_held [(0, b4, .c 24 [.v (.slice adp p.length cp)])] rfl (by rw [hP]; kernel_rfl) rfl rfl rfl ?_; refine st_ ?_
    refine tq_ 0 rfl (quiet_op (by rw [hty]; first | rfl | (refine st_ ?_; rfl))) ?_; refine st_ ?_
    refine h_one 1 rfl (by kernel_rfl) ?_
    refine rn_ ?_; intros
    refine go_callf (by rw [hnt]; rfl) (by rw [hP]; kernel_rfl) rfl (hP ▸ numL_ok 0 _) ?_; refine rn_ ?_; intros
    refine hs_ ?_
    refine tq_ 2 rfl (quiet_op (by rw [hty]; first | rfl | (refine st_ ?_; rfl))) ?_; refine st_ ?_
    refine tq_ 3 rfl (quiet_op (by rw [hty]; first | rfl | (refine st_ ?_; rfl))) ?_; refine st_ ?_
    refine go_slot 68 (.b false) rfl rfl ?_
    refine h_takeG 4 rfl rfl rfl (by kernel_rfl) (by kernel_rfl) (by kernel_rfl) hQp (by rw [hnt]; rfl) (allIn (by repeat (first | exact trivial | refine ⟨rfl, ?_⟩))) (by first | exact Le.refl _ | assumption) (quiet_op (by rw [hty]; first | rfl | (refine st_ ?_; rfl))) ?_; refine st_ ?_
    refine h_takeG 6 rfl rfl rfl (by kernel_rfl) (by kernel_rfl) (by kernel_rfl) hQp (by rw [hnt]; rfl) (allIn (by repeat (first | exact trivial | refine ⟨rfl, ?_⟩))) (by first | exact Le.refl _ | assumption) (quiet_op (by rw [hty]; first | rfl | (refine st_ ?_; rfl))) ?_; refine st_ ?_
    refine h_one 5 rfl (by kernel_rfl) ?_
    refine rn_ ?_; intros
    refine go_call (by rw [hnt]; rfl) (by rw [hP]; kernel_rfl) rfl (hP ▸ prog_ok p ps4 cb _ (hc.mono (hle5.trans hle6)) (Rp.S_mono (hle5.trans hle6) hp4) (by omega) (bd_of hp hsm)) ?_
    rintro _ G7 (hle7 : Le G6 G7) ⟨sl7, rfl, hS7⟩
    obtain ⟨a7, c7, rfl⟩ := Rp.S_slice hS7
    refine rn_ ?_; intros
    refine hs_ ?_
    refine h_one 7 rfl (by kernel_rfl) ?_
    refine rn_ ?_; intros
    refine go_callf (by rw [hnt]; rfl) (by rw [hP]; kernel_rfl) rfl (hP ▸ (rsamep_ok p p _ _ G7 hS7 (Rp.S_mono (((hle14.trans hle5).trans hle6).trans hle7) hps)).val (v' := .bool true) (by rw [fuL_refl])) ?_; refine rn_ ?_; intros
    refine hs_ ?_
    refine h_takeG 8 rfl rfl rfl (by kernel_rfl) (by kernel_rfl) (by kernel_rfl) hQp (by rw [hnt]; rfl) (allIn (by repeat (first | exact trivial | refine ⟨rfl, ?_⟩))) (by first | exact Le.refl _ | assumption) (quiet_op (by rw [hty]; first | rfl | (refine st_ ?_; rfl))) ?_; refine st_ ?_
    refine tq_ 9 rfl (quiet_op (by rw [hty]; first | rfl | (refine st_ ?_; rfl))) ?_; refine st_ ?_
    refine tq_ 10 rfl (quiet_op (by rw [hty]; first | rfl | (refine st_ ?_; rfl))) ?_; refine st_ ?_
    refine go_slot 75 (.b false) rfl rfl ?_
    refine h_takeG 11 rfl rfl rfl (by kernel_rfl) (by kernel_rfl) (by kernel_rfl) hQp (by rw [hnt]; rfl) (allIn (by repeat (first | exact trivial | refine ⟨rfl, ?_⟩))) (by first | exact Le.refl _ | assumption) (quiet_op (by rw [hty]; first | rfl | (refine st_ ?_; rfl))) ?_; refine st_ ?_
    refine h_takeG 13 rfl rfl rfl (by kernel_rfl) (by kernel_rfl) (by kernel_rfl) hQp (by rw [hnt]; rfl) (allIn (by repeat (first | exact trivial | refine ⟨rfl, ?_⟩))) (by first | exact Le.refl _ | assumption) (quiet_op (by rw [hty]; first | rfl | (refine st_ ?_; rfl))) ?_; refine st_ ?_
    refine h_one 12 rfl (by kernel_rfl) ?_
    refine rn_ ?_; intros
    refine go_callf (by rw [hnt]; rfl) (by rw [hP]; kernel_rfl) rfl (hP ▸ numL_ok (begQ p f args) _) ?_; refine rn_ ?_; intros
    refine hs_ ?_
    refine h_takeG 14 rfl rfl rfl (by kernel_rfl) (by kernel_rfl) (by kernel_rfl) hQp (by rw [hnt]; rfl) (allIn (by repeat (first | exact trivial | refine ⟨rfl, ?_⟩))) (by first | exact Le.refl _ | assumption) (quiet_op (by rw [hty]; first | rfl | (refine st_ ?_; rfl))) ?_; refine st_ ?_
    refine tq_ 15 rfl (quiet_op (by rw [hty]; first | rfl | (refine st_ ?_; rfl))) ?_; refine st_ ?_
    refine tq_ 16 rfl (quiet_op (by rw [hty]; first | rfl | (refine st_ ?_; rfl))) ?_; refine st_ ?_
    refine go_slot 81 (.b false) rfl (by simp [SV.den]) ?_
    refine h_takeG 17 rfl rfl rfl (by kernel_rfl) (by kernel_rfl) (by kernel_rfl) hQp (by rw [hnt]; rfl) (allIn (by repeat (first | exact trivial | refine ⟨rfl, ?_⟩))) (by first | exact Le.refl _ | assumption) (quiet_op (by rw [hty]; first | rfl | (refine st_ ?_; rfl))) ?_; refine st_ ?_
    refine h_takeG 18 rfl rfl rfl (by kernel_rfl) (by kernel_rfl) (by kernel_rfl) hQp (by rw [hnt]; rfl) (allIn (by repeat (first | exact trivial | refine ⟨rfl, ?_⟩))) (by first | exact Le.refl _ | assumption) (x := .v (.bool false)) ((quiet_pneq (by rw [hty]; rfl) rfl rfl).cast (by rfl)) ?_
    refine st_ ?_
    refine h_takeG 19 rfl rfl rfl (by kernel_rfl) (by kernel_rfl) (by kernel_rfl) hQp (by rw [hnt]; rfl) (allIn (by repeat (first | exact trivial | refine ⟨rfl, ?_⟩))) (by first | exact Le.refl _ | assumption) (quiet_op (by rw [hty]; first | rfl | (refine st_ ?_; rfl))) ?_; refine st_ ?_
    refine h_takeG 20 rfl rfl rfl (by kernel_rfl) (by kernel_rfl) (by kernel_rfl) hQp (by rw [hnt]; rfl) (allIn (by repeat (first | exact trivial | refine ⟨rfl, ?_⟩))) (by first | exact Le.refl _ | assumption) (quiet_op (by rw [hty]; first | rfl | (refine st_ ?_; rfl))) ?_; refine st_ ?_
    refine h_takeG 21 rfl rfl rfl (by kernel_rfl) (by kernel_rfl) (by kernel_rfl) hQp (by rw [hnt]; rfl) (allIn (by repeat (first | exact trivial | refine ⟨rfl, ?_⟩))) (by first | exact Le.refl _ | assumption) (quiet_op (by rw [hty]; first | rfl | (refine st_ ?_; rfl))) ?_; refine st_ ?_
    refine tq_ 22 rfl (quiet_op (by rw [hty]; first | rfl | (refine st_ ?_; rfl))) ?_; refine st_ ?_
    refine h_end (by kernel_rfl) ?_
    refine rn_ ?_; intros
    (refine x_split rfl rfl rfl (fun hc => absurd hc (by simp [hbq])) (fun _ => ?_); refine st_ ?_; (refine ru_ ?_; intros))
    refine rn_ ?_; intros
    refine go_keep [3, 8, 11, 13, 14, 15] [0, 1] ?_
    refine st_ ?_
    refine x_loop (n := 0) rfl (fun q s' => s' = ⟨[(3, .v (.slice ad2 l.length c2')), (8, .b false), (11, .v (.pointer none)), (13, .p 1 b13 0), (14, .v (.int .i64 (begQ p f args))), (15, .v (.int .i64 0))], [(0, b4, .c 24 [.v (.slice adp p.length cp)]), (1, b13, .c 44 [.v (.slice none 0 0), .v (.slice none 0 0), .v (.int .i64 0), .v (.int .i64 0), .v (.int .i64 0), .v (.slice none 0 0)])], G7, []⟩) rfl ?_
    rintro q s' rfl ih
    refine rn_ ?_; intros
    refine go_gsplit rfl rfl (fun h1 => ?_) (fun h1 => ?_) <;> (refine st_ ?_; (refine rn_ ?_; intros))
    · (refine x_split rfl rfl rfl (fun hc => absurd hc (by simp [hbq])) (fun _ => ?_); refine st_ ?_; (refine ru_ ?_; intros))
      refine rn_ ?_; intros
      (refine go_gsplit rfl rfl (fun _ => ?_) (fun hc => absurd hc (by simp [hbq])); refine st_ ?_; (refine rn_ ?_; intros))
      refine go_callf (by rw [hnt]; rfl) (by rw [hP]; kernel_rfl) rfl (hP ▸ works10_ok _) ?_; refine rn_ ?_; intros
      refine xc_ hQ hmb ?_; simp only [SV.den, resV, dens]
      try rfl
    · (refine go_gsplit rfl rfl (fun _ => ?_) (fun hc => absurd hc (by simp [hbq])); refine st_ ?_; (refine rn_ ?_; intros))
      refine go_callf (by rw [hnt]; rfl) (by rw [hP]; kernel_rfl) rfl (hP ▸ works10_ok _) ?_; refine rn_ ?_; intros
      refine xc_ hQ hmb ?_; simp only [SV.den, resV, dens]
      try rfl
  obtain ⟨hf0, hf1, hn, hall⟩ := begQ_no hbq
  obtain ⟨nd, hroot⟩ := PosOk.root hp hf0 hf1
  have hVX : VX p ⟨f, 0, args, []⟩ nd := ⟨by
    have : (fu p f.toNat).params.toNat = args.length := by omega
    rw [this] at hroot
    exact hroot, by simp, hall, by simp⟩
  obtain ⟨o, hd, hVO⟩ := down_ok 600 ⟨f, 0, args, []⟩ [] nd hVX trivial (by simp) (by omega)
  refine go_nilrow 20 42 3 rfl (by omega) ?_
  refine go_nilrow 21 42 3 rfl (by omega) ?_
  refine go_nilrow 22 42 3 rfl (by omega) ?_
  refine go_nilrow 23 42 3 rfl (by omega) ?_
  refine st_ ?_
  refine go_callT [20, 21, 22, 23] (by rw [hnt]; rfl) (by rw [hP]; kernel_rfl) rfl rfl rfl (by rw [hmh]; simp) (by rw [hP]; exact begin_ok p ps4 cb f args _ o G4 hc hp4 hf0 hf1 hpl hn (by omega) (Rp.S_mono hle14 hS0) hall hd) ?_
  rintro _ G5 ow5 (hle5 : Le G4 G5) ⟨bf, rfl, vlf, fsf, f1, f2, f3, rsf, Zf, v1, v2, v3, v4, v5, rfl⟩
  simp only [setO, fhO, frO, fzO, fdO]
  refine st_ ?_
  refine rn_ ?_; intros
  refine go_call (by rw [hnt]; rfl) (by rw [hP]; kernel_rfl) rfl (hP ▸ rbegin_ok p _ f args _ G5 (Rp.S_mono (hle14.trans hle5) hps) hp (Rp.S_mono (hle14.trans hle5) hS0) (by omega)) ?_
  rintro _ G6 (hle6 : Le G5 G6) (⟨q, _⟩ | ⟨_, o', hd', _, lsl0, vl0, rfl, hL0, hv0, ht0⟩)
  · exact absurd hbq q
  rw [hd] at hd'
  cases hd'
  obtain ⟨a0, c0, rfl⟩ := Rp.S_slice hL0.1
  obtain ⟨a1, c1, rfl⟩ := VT.rep_slice hv0
  simp only [fibV]
  refine rn_ ?_; intros
  rename_i b24
  refine x_held [(0, b4, .c 24 [.v (.slice adp p.length cp)])] rfl (by rw [hP]; kernel_rfl) rfl rfl rfl ?_; refine st_ ?_
  refine tq_ 0 rfl (quiet_op (by rw [hty]; first | rfl | (refine st_ ?_; rfl))) ?_; refine st_ ?_
  refine h_one 1 rfl (by kernel_rfl) ?_
  refine rn_ ?_; intros
  refine go_callf (by rw [hnt]; rfl) (by rw [hP]; kernel_rfl) rfl (hP ▸ numL_ok 0 _) ?_; refine rn_ ?_; intros
  refine hs_ ?_
  refine tq_ 2 rfl (quiet_op (by rw [hty]; first | rfl | (refine st_ ?_; rfl))) ?_; refine st_ ?_
  refine tq_ 3 rfl (quiet_op (by rw [hty]; first | rfl | (refine st_ ?_; rfl))) ?_; refine st_ ?_
  refine go_slot 68 (.b false) rfl rfl ?_
  refine h_takeG 4 rfl rfl rfl (by kernel_rfl) (by kernel_rfl) (by kernel_rfl) hQp (by rw [hnt]; rfl) (allIn (by repeat (first | exact trivial | refine ⟨rfl, ?_⟩))) (by first | exact Le.refl _ | assumption) (quiet_op (by rw [hty]; first | rfl | (refine st_ ?_; rfl))) ?_; refine st_ ?_
  refine h_takeG 6 rfl rfl rfl (by kernel_rfl) (by kernel_rfl) (by kernel_rfl) hQp (by rw [hnt]; rfl) (allIn (by repeat (first | exact trivial | refine ⟨rfl, ?_⟩))) (by first | exact Le.refl _ | assumption) (quiet_op (by rw [hty]; first | rfl | (refine st_ ?_; rfl))) ?_; refine st_ ?_
  refine h_one 5 rfl (by kernel_rfl) ?_
  refine rn_ ?_; intros
  refine go_call (by rw [hnt]; rfl) (by rw [hP]; kernel_rfl) rfl (hP ▸ prog_ok p ps4 cb _ (hc.mono (hle5.trans hle6)) (Rp.S_mono (hle5.trans hle6) hp4) (by omega) (bd_of hp hsm)) ?_
  rintro _ G7 (hle7 : Le G6 G7) ⟨sl7, rfl, hS7⟩
  obtain ⟨a7, c7, rfl⟩ := Rp.S_slice hS7
  refine rn_ ?_; intros
  refine hs_ ?_
  refine h_one 7 rfl (by kernel_rfl) ?_
  refine rn_ ?_; intros
  refine go_callf (by rw [hnt]; rfl) (by rw [hP]; kernel_rfl) rfl (hP ▸ (rsamep_ok p p _ _ G7 hS7 (Rp.S_mono (((hle14.trans hle5).trans hle6).trans hle7) hps)).val (v' := .bool true) (by rw [fuL_refl])) ?_; refine rn_ ?_; intros
  refine hs_ ?_
  refine h_takeG 8 rfl rfl rfl (by kernel_rfl) (by kernel_rfl) (by kernel_rfl) hQp (by rw [hnt]; rfl) (allIn (by repeat (first | exact trivial | refine ⟨rfl, ?_⟩))) (by first | exact Le.refl _ | assumption) (quiet_op (by rw [hty]; first | rfl | (refine st_ ?_; rfl))) ?_; refine st_ ?_
  refine tq_ 9 rfl (quiet_op (by rw [hty]; first | rfl | (refine st_ ?_; rfl))) ?_; refine st_ ?_
  refine tq_ 10 rfl (quiet_op (by rw [hty]; first | rfl | (refine st_ ?_; rfl))) ?_; refine st_ ?_
  refine go_slot 75 (.b false) rfl rfl ?_
  refine h_takeG 11 rfl rfl rfl (by kernel_rfl) (by kernel_rfl) (by kernel_rfl) hQp (by rw [hnt]; rfl) (allIn (by repeat (first | exact trivial | refine ⟨rfl, ?_⟩))) (by first | exact Le.refl _ | assumption) (quiet_op (by rw [hty]; first | rfl | (refine st_ ?_; rfl))) ?_; refine st_ ?_
  refine h_takeG 13 rfl rfl rfl (by kernel_rfl) (by kernel_rfl) (by kernel_rfl) hQp (by rw [hnt]; rfl) (allIn (by repeat (first | exact trivial | refine ⟨rfl, ?_⟩))) (by first | exact Le.refl _ | assumption) (quiet_op (by rw [hty]; first | rfl | (refine st_ ?_; rfl))) ?_; refine st_ ?_
  refine h_one 12 rfl (by kernel_rfl) ?_
  refine rn_ ?_; intros
  refine go_callf (by rw [hnt]; rfl) (by rw [hP]; kernel_rfl) rfl (hP ▸ numL_ok 0 _) ?_; refine rn_ ?_; intros
  refine hs_ ?_
  refine h_takeG 14 rfl rfl rfl (by kernel_rfl) (by kernel_rfl) (by kernel_rfl) hQp (by rw [hnt]; rfl) (allIn (by repeat (first | exact trivial | refine ⟨rfl, ?_⟩))) (by first | exact Le.refl _ | assumption) (quiet_op (by rw [hty]; first | rfl | (refine st_ ?_; rfl))) ?_; refine st_ ?_
  refine tq_ 15 rfl (quiet_op (by rw [hty]; first | rfl | (refine st_ ?_; rfl))) ?_; refine st_ ?_
  refine tq_ 16 rfl (quiet_op (by rw [hty]; first | rfl | (refine st_ ?_; rfl))) ?_; refine st_ ?_
  refine go_slot 81 (.b false) rfl (by simp [SV.den]) ?_
  refine h_takeG 17 rfl rfl rfl (by kernel_rfl) (by kernel_rfl) (by kernel_rfl) hQp (by rw [hnt]; rfl) (allIn (by repeat (first | exact trivial | refine ⟨rfl, ?_⟩))) (by first | exact Le.refl _ | assumption) (quiet_op (by rw [hty]; first | rfl | (refine st_ ?_; rfl))) ?_; refine st_ ?_
  refine h_takeG 18 rfl rfl rfl (by kernel_rfl) (by kernel_rfl) (by kernel_rfl) hQp (by rw [hnt]; rfl) (allIn (by repeat (first | exact trivial | refine ⟨rfl, ?_⟩))) (by first | exact Le.refl _ | assumption) (x := .v (.bool true)) ((quiet_pneq (by rw [hty]; rfl) rfl rfl).cast (by rfl)) ?_
  refine st_ ?_
  refine h_takeG 19 rfl rfl rfl (by kernel_rfl) (by kernel_rfl) (by kernel_rfl) hQp (by rw [hnt]; rfl) (allIn (by repeat (first | exact trivial | refine ⟨rfl, ?_⟩))) (by first | exact Le.refl _ | assumption) (quiet_op (by rw [hty]; first | rfl | (refine st_ ?_; rfl))) ?_; refine st_ ?_
  refine h_takeG 20 rfl rfl rfl (by kernel_rfl) (by kernel_rfl) (by kernel_rfl) hQp (by rw [hnt]; rfl) (allIn (by repeat (first | exact trivial | refine ⟨rfl, ?_⟩))) (by first | exact Le.refl _ | assumption) (quiet_op (by rw [hty]; first | rfl | (refine st_ ?_; rfl))) ?_; refine st_ ?_
  refine h_takeG 21 rfl rfl rfl (by kernel_rfl) (by kernel_rfl) (by kernel_rfl) hQp (by rw [hnt]; rfl) (allIn (by repeat (first | exact trivial | refine ⟨rfl, ?_⟩))) (by first | exact Le.refl _ | assumption) (quiet_op (by rw [hty]; first | rfl | (refine st_ ?_; rfl))) ?_; refine st_ ?_
  refine tq_ 22 rfl (quiet_op (by rw [hty]; first | rfl | (refine st_ ?_; rfl))) ?_; refine st_ ?_
  refine h_end (by kernel_rfl) ?_
  refine rn_ ?_; intros
  (refine x_split rfl rfl rfl (fun hc => absurd hc (by first | decide +kernel | (simp; first | done | fail))) (fun _ => ?_); refine st_ ?_; (refine ru_ ?_; intros))
  refine rn_ ?_; intros
  have hVF0 : VF p ⟨o.1, vt0, o.2⟩ := ⟨.inl hVO, fun q => by
    rcases hVO with rfl | ⟨x', r', nd', _, h5, _⟩
    · cases q
    · have := h5.2.2.2.2
      simp only [] at q
      omega⟩
  have hle57 := hle6.trans hle7
  refine go_keep [3, 4, 8, 11, 13, 14, 15] [0, 20, 21, 22, 23, 24] ?_
  refine st_ ?_
  refine x_loop (n := l.length) rfl (fun q s' => ∃ (i : Nat) (s : Fb) (bf : Nat) (vl fs : Value) (f1 f2 f3 : Nat) (rs : List Fw) (Z : Nat → Prop) (lsl vl2 : Value) (G8 : Hp), i ≤ l.length ∧ q = l.length - i ∧ Le G7 G8 ∧ VF p s ∧ RVal s ∧ s.val.rep G8 vl ∧ tsz s.val ≤ 1000 ∧ fsOk G8 s.l rs ∧ s.l.length ≤ 256 ∧ (∀ m x, s.l.head? = some m → rs.head? = some x → rW.S G8 m.done x.done.v) ∧ fmS G8 s.l lsl ∧ s.val.rep G8 vl2 ∧ tsz s.val ≤ 1000 ∧
    s' = ⟨[(3, .v (.slice ad2 l.length c2')), (4, .p 0 b4 0), (8, .b false), (11, .v (.pointer (some ⟨bf, 0, none⟩))), (13, .p 24 b24 0), (14, .v (.int .i64 0)), (15, .v (.int .i64 i))], [(0, b4, .c 24 [.v (.slice adp p.length cp)]), (20, bf, .c 93 [.v (.pointer (some ⟨cb, 0, none⟩)), .v (.int .i64 s.st), .v (.int .i64 s.val.k), .v (.int .i64 s.val.n), .v vl, .v fs]), (21, f1, .row fs 90 4 rs.length (encF rs)), (22, f2, .z (ZR ((rs.drop 1).map (·.done))) Z Z), (23, f3, .row rw0.v rw0.e rw0.size rw0.n rw0.xs), (24, b24, .c 44 [.v (.slice adp p.length cp), .v lsl, .v (.int .i64 s.st), .v (.int .i64 s.val.k), .v (.int .i64 s.val.n), .v vl2])], G8, []⟩)
    ⟨0, ⟨o.1, vt0, o.2⟩, bf, vlf, fsf, f1, f2, f3, rsf, Zf, _, _, G7, by omega, rfl, Le.refl _, hVF0, fun _ => rfl, VT.rep_mono hle57 v1, v2, v3.mono hle57, v4, fun m x q1 q2 => Rp.S_mono hle57 (v5 m x q1 q2), hL0.mono hle7, VT.rep_mono hle7 hv0, ht0, rfl⟩ ?_
  clear v1 v2 v3 v4 v5 hL0 hv0 ht0
  rintro q s' ⟨i, s, bf, vl, fs, f1, f2, f3, rs, Z, lsl, vl2, G8, hi, hq, hle78, hVF, hval, v1, v2, v3, v4, v5, hL, hv2, ht2, rfl⟩ ih
  obtain ⟨a5, c5, rfl⟩ := Rp.S_slice hL.1
  obtain ⟨a6, c6, rfl⟩ := VT.rep_slice hv2
  obtain ⟨a4, c4, rfl⟩ := VT.rep_slice v1
  have hle58 := hle57.trans hle78
  have hle48 := hle5.trans hle58
  refine rn_ ?_; intros
  refine go_gsplit rfl rfl (fun h1 => ?_) (fun h1 => ?_) <;> (refine st_ ?_; (refine rn_ ?_; intros))
  · have hlt : i < l.length := by simpa using h1
    obtain ⟨bA, oA, a9, c9, rfl, hatA, hrx, hw64, hn64⟩ := rA_at (Rp.S_mono (hle14.trans hle48) hl) hlt
    obtain ⟨hxn, hxt⟩ := hlx l[i] (List.getElem_mem _)
    obtain ⟨o2, ho2, hVF2, hval2⟩ := act_tot hp hVF hval l[i]
    (refine x_split rfl rfl rfl (fun _ => ?_) (fun hc => absurd hc (by first | decide +kernel | (simp; first | done | fail))); refine st_ ?_; (refine ru_ ?_; intros))
    refine rn_ ?_; intros
    refine x_held [(24, b24, .c 44 [.v (.slice adp p.length cp), .v (.slice a5 s.l.reverse.length c5), .v (.int .i64 s.st), .v (.int .i64 s.val.k), .v (.int .i64 s.val.n), .v (.slice a6 s.val.l.length c6)])] rfl (by rw [hP]; kernel_rfl) rfl rfl rfl ?_; refine st_ ?_
    refine tq_ 0 rfl (quiet_op (by rw [hty]; first | rfl | (refine st_ ?_; rfl))) ?_; refine st_ ?_
    refine tq_ 1 rfl (quiet_op (by rw [hty]; first | rfl | (refine st_ ?_; rfl))) ?_; refine st_ ?_
    refine tq_ 2 rfl (quiet_op (by rw [hty]; first | rfl | (refine st_ ?_; rfl))) ?_; refine st_ ?_
    refine tq_ 3 rfl (quiet_op (by rw [hty]; first | rfl | (refine st_ ?_; rfl))) ?_; refine st_ ?_
    refine tq_ 4 rfl (x := .v (.pointer (some ⟨bA, oA + i * 5, none⟩))) ((quiet_index (by rw [hty]; rfl) (by rw [hty]; rfl) rfl rfl rfl (by omega) (by omega)).cast (by simp [SV.den])) ?_
    refine st_ ?_
    refine tq_ 5 rfl (x := .a [.v (.int .i64 l[i].w), .v (.int .i64 l[i].n), .v (.int .i64 l[i].v.k), .v (.int .i64 l[i].v.n), .v (.slice a9 l[i].v.l.length c9)]) ((quiet_load (by rw [hty]; rfl) rfl (by simp [TK.agg]) hatA rfl).cast (by rfl)) ?_
    refine st_ ?_
    refine h_two 6 11 rfl rfl (by kernel_rfl) ?_ ?_
    · refine go_callT [20, 21, 22, 23] (by rw [hnt]; rfl) (by rw [hP]; kernel_rfl) rfl rfl rfl (by rw [hmh]; simp) (by rw [hP]; exact act_ok bf cb ps4 (.slice adp p.length cp) p hp s o2 l[i] _ _ _ G8 (hc.mono hle48) (Rp.S_mono hle48 hp4) (Rp.S_mono (hle14.trans hle48) hps) ⟨_, _, rfl, hL, hv2, ht2⟩ hVF hval ⟨_, fs, f1, f2, f3, rs, Z, v1, v2, v3, v4, v5, rfl⟩ hrx hxn hxt ho2) ?_
      rintro _ G9 ow9 (hle9 : Le G8 G9) ⟨b', lsl3, vl3, rfl, ⟨vl6, fs6, c1, c2, c3, rs6, Z6, w1, w2, w3, w4, w5, rfl⟩, hL3, hv3, ht3⟩
      obtain ⟨a5, c5, rfl⟩ := Rp.S_slice hL3.1
      obtain ⟨a6, c6, rfl⟩ := VT.rep_slice hv3
      simp only [setO, stk, fhO, frO, fzO, fdO, fibV]
      refine rn_ ?_; intros
      refine hs_ ?_
      refine tq_ 7 rfl (quiet_op (by rw [hty]; first | rfl | (refine st_ ?_; rfl))) ?_; refine st_ ?_
      refine tq_ 8 rfl (quiet_op (by rw [hty]; first | rfl | (refine st_ ?_; rfl))) ?_; refine st_ ?_
      refine tq_ 9 rfl (quiet_op (by rw [hty]; first | rfl | (refine st_ ?_; rfl))) ?_; refine st_ ?_
      refine tq_ 10 rfl (quiet_op (by rw [hty]; first | rfl | (refine st_ ?_; rfl))) ?_; refine st_ ?_
      refine h_one 11 rfl (by kernel_rfl) ?_
      refine rn_ ?_; intros
      refine hs_ ?_
      rename_i b25
      refine h_one 12 rfl (by kernel_rfl) ?_
      refine rn_ ?_; intros
      refine hs_ ?_
      refine h_one 13 rfl (by kernel_rfl) ?_
      refine rn_ ?_; intros
      refine hs_ ?_
      refine h_one 14 rfl (by kernel_rfl) ?_
      refine rn_ ?_; intros
      refine hs_ ?_
      refine h_end (by kernel_rfl) ?_
      refine rn_ ?_; intros
      refine x_held [(25, b25, .c 44 [.v (.slice adp p.length cp), .v (.slice a5 o2.l.reverse.length c5), .v (.int .i64 o2.st), .v (.int .i64 o2.val.k), .v (.int .i64 o2.val.n), .v (.slice a6 o2.val.l.length c6)])] rfl (by rw [hP]; kernel_rfl) rfl rfl rfl ?_; refine st_ ?_
      refine tq_ 0 rfl (quiet_op (by rw [hty]; first | rfl | (refine st_ ?_; rfl))) ?_; refine st_ ?_
      refine tq_ 1 rfl (quiet_op (by rw [hty]; first | rfl | (refine st_ ?_; rfl))) ?_; refine st_ ?_
      refine h_one 2 rfl (by kernel_rfl) ?_
      refine rn_ ?_; intros
      refine hs_ ?_
      refine h_one 3 rfl (by kernel_rfl) ?_
      refine rn_ ?_; intros
      refine hs_ ?_
      refine h_end (by kernel_rfl) ?_
      refine rn_ ?_; intros
      refine go_rowC 21 rfl ?_
      intro adr capr er hcapr
      subst er
      (refine go_gsplit rfl rfl (fun hc => absurd hc (by first | decide +kernel | (simp; first | done | fail))) (fun _ => ?_); refine st_ ?_; (refine rn_ ?_; intros))
      refine go_callW [20, 21] (by rw [hnt]; rfl) (by rw [hP]; kernel_rfl) rfl rfl rfl (.inl (by rw [hmh]; simp)) (by rw [hP]; exact is_ok b' cb c1 vl6 ps4 (.slice adp p.length cp) adr capr p o2 rs6 _ G9 (hc.mono (hle48.trans hle9)) (Rp.S_mono (hle48.trans hle9) hp4) (Rp.S_mono (hle14.trans (hle48.trans hle9)) hps) ⟨_, _, rfl, hL3, hv3, ht3⟩ hVF2 hval2 ⟨w1, w2, w3, w4, w5⟩) ?_
      rintro _ G10 ow10 (hle10 : Le G9 G10) ⟨rfl, rfl⟩
      simp only [setO, stk, fhO, frO]
      refine rn_ ?_; intros
      (refine x_split rfl rfl rfl (fun hc => absurd hc (by first | decide +kernel | (simp; first | done | fail))) (fun _ => ?_); refine st_ ?_; (refine ru_ ?_; intros))
      refine rn_ ?_; intros
      rw [wr (n := (i : Int) + 1) (by omega) (by omega)]
      refine go_keep [3, 4, 8, 11, 13, 14, 15] [0, 20, 21, 22, 23, 24] ?_
      refine st_ ?_
      exact ih (l.length - (i + 1)) _ (by omega) ⟨i + 1, o2, b', vl6, _, c1, c2, c3, rs6, Z6, _, _, G10, by omega, rfl, (hle78.trans hle9).trans hle10, hVF2, hval2, VT.rep_mono hle10 w1, w2, w3.mono hle10, w4, fun m x q1 q2 => Rp.S_mono hle10 (w5 m x q1 q2), hL3.mono hle10, VT.rep_mono hle10 hv3, ht3, rfl⟩
    · refine rn_ ?_; intros
      refine hs_ ?_
      rename_i b25
      refine h_one 6 rfl (by kernel_rfl) ?_
      refine go_callT [20, 21, 22, 23] (by rw [hnt]; rfl) (by rw [hP]; kernel_rfl) rfl rfl rfl (by rw [hmh]; simp) (by rw [hP]; exact act_ok bf cb ps4 (.slice adp p.length cp) p hp s o2 l[i] _ _ _ G8 (hc.mono hle48) (Rp.S_mono hle48 hp4) (Rp.S_mono (hle14.trans hle48) hps) ⟨_, _, rfl, hL, hv2, ht2⟩ hVF hval ⟨_, fs, f1, f2, f3, rs, Z, v1, v2, v3, v4, v5, rfl⟩ hrx hxn hxt ho2) ?_
      rintro _ G9 ow9 (hle9 : Le G8 G9) ⟨b', lsl3, vl3, rfl, ⟨vl6, fs6, c1, c2, c3, rs6, Z6, w1, w2, w3, w4, w5, rfl⟩, hL3, hv3, ht3⟩
      obtain ⟨a5, c5, rfl⟩ := Rp.S_slice hL3.1
      obtain ⟨a6, c6, rfl⟩ := VT.rep_slice hv3
      simp only [setO, stk, fhO, frO, fzO, fdO, fibV]
      refine rn_ ?_; intros
      refine hs_ ?_
      refine tq_ 7 rfl (quiet_op (by rw [hty]; first | rfl | (refine st_ ?_; rfl))) ?_; refine st_ ?_
      refine tq_ 8 rfl (quiet_op (by rw [hty]; first | rfl | (refine st_ ?_; rfl))) ?_; refine st_ ?_
      refine tq_ 9 rfl (quiet_op (by rw [hty]; first | rfl | (refine st_ ?_; rfl))) ?_; refine st_ ?_
      refine tq_ 10 rfl (quiet_op (by rw [hty]; first | rfl | (refine st_ ?_; rfl))) ?_; refine st_ ?_
      refine h_one 12 rfl (by kernel_rfl) ?_
      refine rn_ ?_; intros
      refine hs_ ?_
      refine h_one 13 rfl (by kernel_rfl) ?_
      refine rn_ ?_; intros
      refine hs_ ?_
      refine h_one 14 rfl (by kernel_rfl) ?_
      refine rn_ ?_; intros
      refine hs_ ?_
      refine h_end (by kernel_rfl) ?_
      refine rn_ ?_; intros
      refine x_held [(25, b25, .c 44 [.v (.slice adp p.length cp), .v (.slice a5 o2.l.reverse.length c5), .v (.int .i64 o2.st), .v (.int .i64 o2.val.k), .v (.int .i64 o2.val.n), .v (.slice a6 o2.val.l.length c6)])] rfl (by rw [hP]; kernel_rfl) rfl rfl rfl ?_; refine st_ ?_
      refine tq_ 0 rfl (quiet_op (by rw [hty]; first | rfl | (refine st_ ?_; rfl))) ?_; refine st_ ?_
      refine tq_ 1 rfl (quiet_op (by rw [hty]; first | rfl | (refine st_ ?_; rfl))) ?_; refine st_ ?_
      refine h_one 2 rfl (by kernel_rfl) ?_
      refine rn_ ?_; intros
      refine hs_ ?_
      refine h_one 3 rfl (by kernel_rfl) ?_
      refine rn_ ?_; intros
      refine hs_ ?_
      refine h_end (by kernel_rfl) ?_
      refine rn_ ?_; intros
      refine go_rowC 21 rfl ?_
      intro adr capr er hcapr
      subst er
      (refine go_gsplit rfl rfl (fun hc => absurd hc (by first | decide +kernel | (simp; first | done | fail))) (fun _ => ?_); refine st_ ?_; (refine rn_ ?_; intros))
      refine go_callW [20, 21] (by rw [hnt]; rfl) (by rw [hP]; kernel_rfl) rfl rfl rfl (.inl (by rw [hmh]; simp)) (by rw [hP]; exact is_ok b' cb c1 vl6 ps4 (.slice adp p.length cp) adr capr p o2 rs6 _ G9 (hc.mono (hle48.trans hle9)) (Rp.S_mono (hle48.trans hle9) hp4) (Rp.S_mono (hle14.trans (hle48.trans hle9)) hps) ⟨_, _, rfl, hL3, hv3, ht3⟩ hVF2 hval2 ⟨w1, w2, w3, w4, w5⟩) ?_
      rintro _ G10 ow10 (hle10 : Le G9 G10) ⟨rfl, rfl⟩
      simp only [setO, stk, fhO, frO]
      refine rn_ ?_; intros
      (refine x_split rfl rfl rfl (fun hc => absurd hc (by first | decide +kernel | (simp; first | done | fail))) (fun _ => ?_); refine st_ ?_; (refine ru_ ?_; intros))
      refine rn_ ?_; intros
      rw [wr (n := (i : Int) + 1) (by omega) (by omega)]
      refine go_keep [3, 4, 8, 11, 13, 14, 15] [0, 20, 21, 22, 23, 24] ?_
      refine st_ ?_
      exact ih (l.length - (i + 1)) _ (by omega) ⟨i + 1, o2, b', vl6, _, c1, c2, c3, rs6, Z6, _, _, G10, by omega, rfl, (hle78.trans hle9).trans hle10, hVF2, hval2, VT.rep_mono hle10 w1, w2, w3.mono hle10, w4, fun m x q1 q2 => Rp.S_mono hle10 (w5 m x q1 q2), hL3.mono hle10, VT.rep_mono hle10 hv3, ht3, rfl⟩
  · refine go_rowC 21 rfl ?_
    intro adr capr er hcapr
    subst er
    (refine go_gsplit rfl rfl (fun hc => absurd hc (by first | decide +kernel | (simp; first | done | fail))) (fun _ => ?_); refine st_ ?_; (refine rn_ ?_; intros))
    refine go_callW [20, 21] (by rw [hnt]; rfl) (by rw [hP]; kernel_rfl) rfl rfl rfl (.inl (by rw [hmh]; simp)) (by rw [hP]; exact is_ok bf cb f1 _ ps4 (.slice adp p.length cp) adr capr p s rs _ G8 (hc.mono hle48) (Rp.S_mono hle48 hp4) (Rp.S_mono (hle14.trans hle48) hps) ⟨_, _, rfl, hL, hv2, ht2⟩ hVF hval ⟨v1, v2, v3, v4, v5⟩) ?_
    rintro _ G10 ow10 (hle10 : Le G8 G10) ⟨rfl, rfl⟩
    simp only [setO, stk, fhO, frO]
    refine rn_ ?_; intros
    (refine go_gsplit rfl rfl (fun _ => ?_) (fun hc => absurd hc (by first | decide +kernel | (simp; first | done | fail))); refine st_ ?_; (refine rn_ ?_; intros))
    refine go_callf (by rw [hnt]; rfl) (by rw [hP]; kernel_rfl) rfl (hP ▸ works10_ok _) ?_; refine rn_ ?_; intros
    refine xc_ hQ hmb ?_; simp only [SV.den, resV, dens]
    try rfl
end Go.Proofs.YtpppkednpamhbaaGreat.R
namespace Go.Sx
set_option linter.unusedSimpArgs false
set_option linter.unusedVariables false
open Go.RowKit

def hp (w : World) : Hp := fun b => w.heap[b]?
theorem has_hp (w : World) : Has w (hp w) := fun _ _ h => h
theorem at_of_cells {w : World} {b off : Nat} {cs : List Value} (h0 : 0 < cs.length) (h : ∀ i, i < cs.length → w.cell? ⟨b, off + i, none⟩ = cs[i]?) : At (hp w) b off cs := by
  have h1 := h 0 h0
  rw [List.getElem?_eq_getElem h0] at h1
  unfold World.cell? at h1 h
  cases hb : w.heap[b]? with
  | none => simp [hb] at h1
  | some o =>
    cases o with
    | cells arr e fz =>
      simp only [hb, Option.isSome_none, Bool.false_eq_true, if_false] at h
      refine ⟨arr, e, fz, hb, ?_, fun i hi => h i hi⟩
      have := h (cs.length - 1) (by omega)
      rw [List.getElem?_eq_getElem (show cs.length - 1 < cs.length by omega)] at this
      obtain ⟨hlt, _⟩ := Array.getElem?_eq_some_iff.1 this
      omega
    | _ => simp [hb] at h1
theorem wf_i64 {n : Int} (h : (Lit.int .i64 n).wf = true) : isI64 n := by
  simpa [Lit.wf, IntKind.min, IntKind.max, IntKind.signed, IntKind.bits, isI64] using h
theorem gatherL {α : Type} {r : Rp α} {w : World} {b : Nat} : ∀ (n off : Nat),
    (∀ i, i < n → ∃ x cs', r.e (hp w) x cs' ∧ ∀ j, j < r.size → w.cell? ⟨b, off + i * r.size + j, none⟩ = cs'[j]?) →
    ∃ (l : List α) (cs : List Value), l.length = n ∧ r.L (hp w) l cs ∧ ∀ i, i < cs.length → w.cell? ⟨b, off + i, none⟩ = cs[i]?
  | 0, off, _ => ⟨[], [], rfl, rfl, by simp⟩
  | n + 1, off, h => by
    obtain ⟨x, c0, hx, h0⟩ := h 0 (by omega)
    obtain ⟨l, cs, hl, hL, hcs⟩ := gatherL (r := r) (w := w) (b := b) n (off + r.size) (fun i hi => by
      obtain ⟨x, c, hx, hc⟩ := h (i + 1) (by omega)
      refine ⟨x, c, hx, fun j hj => ?_⟩
      rw [← hc j hj]
      congr 2
      rw [Nat.succ_mul]; omega)
    have hlen := r.len hx
    refine ⟨x :: l, c0 ++ cs, by simp [hl], ⟨c0, cs, rfl, hx, hL⟩, fun i hi => ?_⟩
    rcases Nat.lt_or_ge i r.size with q | q
    · rw [List.getElem?_append_left (by omega)]
      have := h0 i q
      simpa using this
    · rw [List.getElem?_append_right (by omega), ← hcs (i - c0.length) (by simp at hi; omega)]
      congr 2; omega
section
variable {H : Type} {enc : TypeId × Value → H} {P : Program} {w : World}
theorem add_eq (b off j : Nat) : (Addr.mk b off none).add j = ⟨b, off + j, none⟩ := by
  unfold Addr.add
  split
  · subst_vars; rfl
  · rfl
theorem open_list {α : Type} (r : Rp α) {t e : TypeId} (ht : P.underlying t = some (.slice e)) (hsz : P.cellsOf e = r.size) (hpos : 0 < r.size)
    (hel : ∀ n d ps cs, DataW.trod enc P w 0 (fun _ => true) true n e cs = some (d, ps) → cs.length = r.size → ∃ x, r.e (hp w) x cs)
    {n : Nat} {d : DataW H} {ps : List MemPlace} {cs : List Value} (h : DataW.trod enc P w 0 (fun _ => true) true n t cs = some (d, ps)) : ∃ (sl : Value) (l : List α), cs = [sl] ∧ r.S (hp w) l sl := by
  have hs := Deep.open_slice ht h
  rcases hs with ⟨hc, hy⟩ | ⟨a, len, cap, mm, n', D, Pl, hc, _, hle, hcap, hmm, hy, hel2⟩
  · exact ⟨_, [], hc, Rp.S_nil _ _⟩
  · simp only [if_true] at hmm
    subst hmm
    have hml : len ≤ 9223372036854775807 := Nat.le_trans (Nat.le_trans hle hcap) (by decide)
    by_cases hz : len = 0
    · subst hz
      exact ⟨_, [], hc, Rp.S_nil _ _⟩
    · obtain ⟨b, off, spot⟩ := a
      rw [hsz] at hel2
      have hspot : spot = none := by
        obtain ⟨cs', q1, _⟩ := hel2 0 (by omega)
        obtain ⟨_, q2, q3⟩ := World.cells?_some q1
        have q4 := q3 0 (by omega)
        rw [List.getElem?_eq_getElem (by omega)] at q4
        simpa [Addr.add] using World.cell?_spot q4
      subst hspot
      obtain ⟨l, cs2, hl, hL, hcs⟩ := gatherL (r := r) (w := w) (b := b) len off (fun i hi => by
        obtain ⟨cs', q1, q2⟩ := hel2 i (by omega)
        obtain ⟨_, q3, q4⟩ := World.cells?_some q1
        obtain ⟨x, hx⟩ := hel _ _ _ _ q2 (by omega)
        refine ⟨x, cs', hx, fun j hj => ?_⟩
        have := q4 j (by omega)
        rw [Deep.add_add, add_eq] at this
        rw [← this, Nat.add_assoc])
      have hlen := Rp.L_len hL
      have hcl : 0 < cs2.length := by rw [hlen, hl]; exact Nat.mul_pos (by omega) hpos
      exact ⟨_, l, hc, by rw [hl]; exact hml, _, _, by rw [hl], .inr ⟨_, _, _, rfl, at_of_cells hcl hcs, hL⟩⟩
theorem trod_struct2 {t : TypeId} {f0 f1 : Field} {fuel : Nat} {cs : List Value} {x : DataW H × List MemPlace} {base : Nat} {spare : Nat → Bool} {held : Bool} (ht : P.underlying t = some (.struct #[f0, f1])) (h : DataW.trod enc P w base spare held fuel t cs = some x) :
    ∃ y0 y1 n, x = (.agg [y0.1, y1.1], y0.2 ++ y1.2) ∧ cs.length = P.cellsOf t ∧ DataW.trod enc P w base spare held n f0.type ((cs.drop f0.offset).take (P.cellsOf f0.type)) = some y0 ∧
      DataW.trod enc P w base spare held n f1.type ((cs.drop f1.offset).take (P.cellsOf f1.type)) = some y1 := by
  obtain ⟨xs, n, _, rfl, hl, hlen, hf⟩ := DataW.trod_struct ht h
  match xs, hlen with
  | [y0, y1], _ => exact ⟨y0, y1, n, by simp, hl, by simpa using hf 0 f0 rfl, by simpa using hf 1 f1 rfl⟩
theorem open_int1 {T : TypeId} (hT : P.underlying T = some (.int .i64)) (hc : P.cellsOf T = 1) {n : Nat} {x : DataW H × List MemPlace} {cs : List Value} (h : DataW.trod enc P w 0 (fun _ => true) true n T cs = some x) : ∃ k, cs = [.int .i64 k] ∧ isI64 k := by
  obtain ⟨k, hk, _, hw⟩ := DataW.trod_int hT h
  exact ⟨k, hk, wf_i64 hw⟩
theorem open_ints {t e : TypeId} (ht : P.underlying t = some (.slice e)) (he : P.underlying e = some (.int .i64)) (hc : P.cellsOf e = 1) {n : Nat} {d : DataW H} {ps : List MemPlace} {cs : List Value} (h : DataW.trod enc P w 0 (fun _ => true) true n t cs = some (d, ps)) : ∃ (sl : Value) (l : List Int), cs = [sl] ∧ rI.S (hp w) l sl :=
  open_list rI ht hc (by decide) (fun n d ps cs h _ => by
    obtain ⟨k, rfl, hk⟩ := open_int1 he hc h
    exact ⟨k, rfl, hk⟩) h
end
end Go.Sx
namespace Go.Proofs.YtpppkednpamhbaaGreat
set_option linter.unusedSimpArgs false
set_option linter.unusedVariables false
open Go.Sx
set_option maxRecDepth 20000
section
variable {H : Type} {enc : TypeId × Value → H} {w : World}
theorem open_node {n : Nat} {d : DataW H} {ps : List MemPlace} {cs : List Value} (h : DataW.trod enc Tryz.prog w 0 (fun _ => true) true n 110 cs = some (d, ps)) : ∃ x : Nd, rN.e (hp w) x cs := by
  obtain ⟨y0, y1, y2, m, _, hlen, h0, h1, h2⟩ := Deep.trod_struct3 Tryz.underlying110 h
  rw [show Tryz.prog.cellsOf 110 = 3 by kernel_rfl] at hlen
  match cs, hlen with
  | [c0, c1, c2], _ =>
  have e1 : Tryz.prog.cellsOf 107 = 1 := by kernel_rfl
  have e2 : Tryz.prog.cellsOf 2 = 1 := by kernel_rfl
  have e3 : Tryz.prog.cellsOf 108 = 1 := by kernel_rfl
  simp only [e1, e2, e3, List.drop_zero, List.drop_succ_cons, List.take_succ_cons, List.take_zero] at h0 h1 h2
  obtain ⟨k, hk, wk⟩ := open_int1 Tryz.underlying107 e1 h0
  obtain ⟨m, hm, wm⟩ := open_int1 Tryz.underlying2 e2 h1
  obtain ⟨sl, l, hs, hS⟩ := open_ints Tryz.underlying108 Tryz.underlying3 (by kernel_rfl) h2
  cases hk; cases hm; cases hs
  exact ⟨⟨k, m, l⟩, _, rfl, wk, wm, hS⟩
theorem open_fun {n : Nat} {d : DataW H} {ps : List MemPlace} {cs : List Value} (h : DataW.trod enc Tryz.prog w 0 (fun _ => true) true n 64 cs = some (d, ps)) : ∃ (f : Fu) (ns : Value), cs = [.int .i64 f.params, ns] ∧ isI64 f.params ∧ rN.S (hp w) f.nodes ns := by
  obtain ⟨y0, y1, m, _, hlen, h0, h1⟩ := trod_struct2 Tryz.underlying64 h
  rw [show Tryz.prog.cellsOf 64 = 2 by kernel_rfl] at hlen
  match cs, hlen with
  | [c0, c1], _ =>
  have e1 : Tryz.prog.cellsOf 3 = 1 := by kernel_rfl
  have e2 : Tryz.prog.cellsOf 62 = 1 := by kernel_rfl
  simp only [e1, e2, List.drop_zero, List.drop_succ_cons, List.take_succ_cons, List.take_zero] at h0 h1
  obtain ⟨k, hk, wk⟩ := open_int1 Tryz.underlying3 e1 h0
  obtain ⟨sl, l, hs, hS⟩ := open_list rN Tryz.underlying62 (by kernel_rfl) (by decide) (fun n d ps cs h _ => open_node h) h1
  cases hk; cases hs
  exact ⟨⟨k, l⟩, _, rfl, wk, hS⟩
end
end Go.Proofs.YtpppkednpamhbaaGreat
namespace Go.Proofs.YtpppkednpamhbaaGreat
set_option linter.unusedSimpArgs false
set_option linter.unusedVariables false
open Go.Sx
set_option maxRecDepth 20000
section
variable {H : Type} {enc : TypeId × Value → H} {w : World}
theorem trod_struct1 {P : Program} {t : TypeId} {f0 : Field} {fuel : Nat} {cs : List Value} {x : DataW H × List MemPlace} {base : Nat} {spare : Nat → Bool} {held : Bool} (ht : P.underlying t = some (.struct #[f0])) (h : DataW.trod enc P w base spare held fuel t cs = some x) :
    ∃ y0 n, x = (.agg [y0.1], y0.2) ∧ cs.length = P.cellsOf t ∧ DataW.trod enc P w base spare held n f0.type ((cs.drop f0.offset).take (P.cellsOf f0.type)) = some y0 := by
  obtain ⟨xs, n, _, rfl, hl, hlen, hf⟩ := DataW.trod_struct ht h
  match xs, hlen with
  | [y0], _ => exact ⟨y0, n, by simp, hl, by simpa using hf 0 f0 rfl⟩
theorem open_funs {n : Nat} {d : DataW H} {ps : List MemPlace} {cs : List Value} (h : DataW.trod enc Tryz.prog w 0 (fun _ => true) true n 22 cs = some (d, ps)) : ∃ (sl : Value) (l : Pr), cs = [sl] ∧ rF.S (hp w) l sl :=
  open_list rF Tryz.underlying22 (by kernel_rfl) (by decide) (fun n d ps cs h _ => by
    obtain ⟨f, ns, rfl, h1, h2⟩ := open_fun h
    exact ⟨f, ns, rfl, h1, h2⟩) h
theorem open_prog {n : Nat} {d : DataW H} {ps : List MemPlace} {cs : List Value} (h : DataW.trod enc Tryz.prog w 0 (fun _ => true) true n 24 cs = some (d, ps)) : ∃ (p : Pr) (sl : Value), cs = [sl] ∧ rF.S (hp w) p sl := by
  obtain ⟨y0, m, _, hlen, h0⟩ := trod_struct1 Tryz.underlying24 h
  rw [show Tryz.prog.cellsOf 24 = 1 by kernel_rfl] at hlen
  match cs, hlen with
  | [c0], _ =>
  have e1 : Tryz.prog.cellsOf 22 = 1 := by kernel_rfl
  simp only [e1, List.drop_zero, List.take_succ_cons, List.take_zero] at h0
  obtain ⟨sl, l, hs, hS⟩ := open_funs h0
  exact ⟨l, sl, hs, hS⟩
end
end Go.Proofs.YtpppkednpamhbaaGreat
namespace Go.Proofs.YtpppkednpamhbaaGreat
set_option linter.unusedSimpArgs false
set_option linter.unusedVariables false
open Go.Sx

def hp (w : World) : Hp := fun b => w.heap[b]?
theorem has_hp (w : World) : Has w (hp w) := fun _ _ h => h

section
variable {H : Type}
set_option maxRecDepth 20000
theorem gather {w : World} {b : Nat} : ∀ (ds : List (DataW H)) (off : Nat),
    (∀ i (h : i < ds.length), ∃ t sl, w.cell? ⟨b, off + i * 3, none⟩ = some (.int .i64 (VT.k t)) ∧ w.cell? ⟨b, off + i * 3 + 1, none⟩ = some (.int .i64 t.n) ∧ w.cell? ⟨b, off + i * 3 + 2, none⟩ = some sl ∧ t.rep (hp w) sl ∧ tsz t ≤ Rows.uptoBulk ds[i]) →
    ∃ (l : List VT) (cs : List Value), l.length = ds.length ∧ repV (hp w) l cs ∧ (∀ i, i < cs.length → w.cell? ⟨b, off + i, none⟩ = cs[i]?) ∧ tszL l ≤ Rows.uptoBulkAll ds
  | [], _, _ => ⟨[], [], rfl, by simp [repV], by simp, by simp [tszL, Rows.uptoBulkAll]⟩
  | d :: ds, off, h => by
    obtain ⟨t, sl, h0, h1, h2, hr, hb⟩ := h 0 (by simp)
    obtain ⟨l, cs, hl, hrV, hcs, hbs⟩ := gather ds (off + 3) (fun i hi => by
      obtain ⟨t, sl, h0, h1, h2, hr, hb⟩ := h (i + 1) (by simpa using hi)
      have e : off + (i + 1) * 3 = off + 3 + i * 3 := by omega
      rw [e] at h0 h1 h2
      exact ⟨t, sl, h0, h1, h2, hr, by simpa using hb⟩)
    refine ⟨t :: l, .int .i64 t.k :: .int .i64 t.n :: sl :: cs, by simp [hl], ?_, ?_, ?_⟩
    · simp only [repV]
      exact ⟨sl, cs, rfl, hr, hrV⟩
    · intro i hi
      match i, hi with
      | 0, _ => simpa using h0
      | 1, _ => simpa using h1
      | 2, _ => simpa using h2
      | i + 3, hi =>
        have := hcs i (by simpa using hi)
        rw [show off + (i + 3) = off + 3 + i by omega, this]
        simp
    · simp only [tszL, Rows.uptoBulkAll]
      simp only [List.getElem_cons_zero] at hb
      omega

theorem at_of_cells {w : World} {b off : Nat} {cs : List Value} (h0 : 0 < cs.length) (h : ∀ i, i < cs.length → w.cell? ⟨b, off + i, none⟩ = cs[i]?) : At (hp w) b off cs := by
  have h1 := h 0 h0
  rw [List.getElem?_eq_getElem h0] at h1
  unfold World.cell? at h1 h
  cases hb : w.heap[b]? with
  | none => simp [hb] at h1
  | some o =>
    cases o with
    | cells arr e fz =>
      simp only [hb, Option.isSome_none, Bool.false_eq_true, if_false] at h
      refine ⟨arr, e, fz, hb, ?_, fun i hi => h i hi⟩
      have := h (cs.length - 1) (by omega)
      rw [List.getElem?_eq_getElem (show cs.length - 1 < cs.length by omega)] at this
      obtain ⟨hlt, _⟩ := Array.getElem?_eq_some_iff.1 this
      omega
    | _ => simp [hb] at h1

variable {enc : TypeId × Value → H}
theorem cells3 : Tryz.prog.cellsOf 42 = 3 := by kernel_rfl
theorem wf_i64 {n : Int} (h : (Lit.int .i64 n).wf = true) : isI64 n := by
  simpa [Lit.wf, IntKind.min, IntKind.max, IntKind.signed, IntKind.bits, isI64] using h

set_option maxHeartbeats 1000000 in
theorem open_val {w : World} : ∀ (N n : Nat) (d : DataW H) (ps : List MemPlace) (cs : List Value), Rows.uptoBulk d ≤ N → DataW.trod enc Tryz.prog w 0 (fun _ => true) true n 42 cs = some (d, ps) →
    ∃ (t : VT) (sl : Value), cs = [.int .i64 t.k, .int .i64 t.n, sl] ∧ t.rep (hp w) sl ∧ tsz t ≤ Rows.uptoBulk d := by
  intro N
  induction N with
  | zero =>
    intro n d ps cs hb h
    obtain ⟨y0, y1, y2, m, hx, _⟩ := Deep.trod_struct3 Tryz.underlying42 h
    cases hx
    simp [Rows.uptoBulk] at hb
  | succ N ih =>
    intro n d ps cs hb h
    obtain ⟨y0, y1, y2, m, hx, hlen, h0, h1, h2⟩ := Deep.trod_struct3 Tryz.underlying42 h
    cases hx
    rw [cells3] at hlen
    match cs, hlen with
    | [c0, c1, c2], _ =>
    have e1 : Tryz.prog.cellsOf 40 = 1 := by kernel_rfl
    have e2 : Tryz.prog.cellsOf 2 = 1 := by kernel_rfl
    have e3 : Tryz.prog.cellsOf 25 = 1 := by kernel_rfl
    simp only [e1, e2, e3, List.drop_zero, List.drop_succ_cons, List.take_succ_cons, List.take_zero] at h0 h1 h2
    obtain ⟨k, hk, hy0, hwk⟩ := DataW.trod_int Tryz.underlying40 h0
    obtain ⟨nn, hn, hy1, hwn⟩ := DataW.trod_int Tryz.underlying2 h1
    cases hk
    cases hn
    subst hy0 hy1
    have hs := Deep.open_slice Tryz.underlying25 h2
    rcases hs with ⟨hc, hy⟩ | ⟨a, len, cap, mm, n', D, Pl, hc, _, hle, hcap, hmm, hy, hel⟩
    · cases hc
      subst hy
      exact ⟨.mk k nn [], _, rfl, rep_leaf _ k nn (wf_i64 hwk) (wf_i64 hwn), by simp [tsz, tszL, Rows.uptoBulk, Rows.uptoBulkAll]⟩
    · cases hc
      subst hy
      simp only [if_true] at hmm
      subst hmm
      simp only [Rows.uptoBulk, Rows.uptoBulkAll] at hb ⊢
      have hml : len ≤ 9223372036854775807 := Nat.le_trans (Nat.le_trans hle hcap) (by decide)
      by_cases hz : len = 0
      · subst hz
        refine ⟨.mk k nn [], _, rfl, ?_, by simp only [tsz, tszL]; omega⟩
        rw [rep_iff]
        exact ⟨wf_i64 hwk, wf_i64 hwn, by simp, _, _, rfl, .inl rfl⟩
      · have hel0 := hel 0 (by omega)
        obtain ⟨b, off, spot⟩ := a
        have hspot : spot = none := by
          obtain ⟨cs', q1, _⟩ := hel0
          rw [cells3] at q1
          obtain ⟨_, q2, q3⟩ := World.cells?_some q1
          have q4 := q3 0 (by omega)
          rw [List.getElem?_eq_getElem (by omega)] at q4
          simpa [Addr.add] using World.cell?_spot q4
        subst hspot
        have key := gather (w := w) (b := b) ((List.range len).map D) off (fun i hi => by
          have hi' : i < len := by simpa using hi
          obtain ⟨cs', q1, q2⟩ := hel i (by omega)
          rw [cells3] at q1
          have hmem : D i ∈ (List.range len).map D := List.mem_map.2 ⟨i, by simpa using hi', rfl⟩
          have hbi : Rows.uptoBulk (D i) ≤ Rows.uptoBulkAll ((List.range len).map D) := by
            clear hb ih hel
            generalize (List.range len).map D = L at hmem
            induction L with
            | nil => simp at hmem
            | cons x r ihr =>
              simp only [Rows.uptoBulkAll]
              rcases List.mem_cons.1 hmem with rfl | hm
              · omega
              · have := ihr hm; omega
          obtain ⟨t, sl, rfl, hr, hbt⟩ := ih n' (D i) (Pl i) cs' (by omega) q2
          obtain ⟨_, _, q3⟩ := World.cells?_some q1
          have a0 := q3 0 (by omega)
          have a1 := q3 1 (by omega)
          have a2 := q3 2 (by omega)
          rw [Deep.add_add] at a0 a1 a2
          have ea : ∀ j, (Addr.mk b off none).add j = ⟨b, off + j, none⟩ := by
            intro j
            unfold Addr.add
            split
            · subst_vars; rfl
            · rfl
          rw [ea] at a0 a1 a2
          refine ⟨t, sl, by simpa using a0, by simpa [Nat.add_assoc] using a1, by simpa [Nat.add_assoc] using a2, hr, by simpa using hbt⟩)
        obtain ⟨l, cs, hl, hrV, hcs, hbs⟩ := key
        have hll : l.length = len := by simpa using hl
        have hcl := repV_len hrV
        refine ⟨.mk k nn l, .slice (some ⟨b, off, none⟩) len _, rfl, ?_, ?_⟩
        · rw [rep_iff]
          exact ⟨wf_i64 hwk, wf_i64 hwn, by omega, _, _, by rw [hll], .inr ⟨_, _, _, rfl, at_of_cells (by omega) hcs, hrV⟩⟩
        · simp only [tsz]
          omega

theorem open_vals {w : World} (n : Nat) (d : DataW H) (ps : List MemPlace) (a : Option Addr) (len cap : Nat) (h : DataW.trod enc Tryz.prog w 0 (fun _ => true) true n 25 [.slice a len cap] = some (d, ps)) :
    ∃ l : List VT, repS (hp w) l (.slice a len cap) ∧ tszL l ≤ Rows.uptoBulk d := by
  have hs := Deep.open_slice Tryz.underlying25 h
  rcases hs with ⟨hc, hy⟩ | ⟨a', len', cap', mm, n', D, Pl, hc, _, hle, hcap, hmm, hy, hel⟩
  · cases hc
    exact ⟨[], ⟨by simp, none, 0, rfl, .inl rfl⟩, by simp [tszL]⟩
  · cases hc
    obtain ⟨rfl, rfl⟩ := Prod.mk.inj hy
    simp only [if_true] at hmm
    subst hmm
    have hml : len ≤ 9223372036854775807 := Nat.le_trans (Nat.le_trans hle hcap) (by decide)
    by_cases hz : len = 0
    · subst hz
      exact ⟨[], ⟨by simp, _, _, rfl, .inl rfl⟩, by simp [tszL]⟩
    · have hel0 := hel 0 (by omega)
      obtain ⟨b, off, spot⟩ := a'
      have hspot : spot = none := by
        obtain ⟨cs', q1, _⟩ := hel0
        rw [cells3] at q1
        obtain ⟨_, q2, q3⟩ := World.cells?_some q1
        have q4 := q3 0 (by omega)
        rw [List.getElem?_eq_getElem (by omega)] at q4
        simpa [Addr.add] using World.cell?_spot q4
      subst hspot
      have key := gather (w := w) (b := b) ((List.range len).map D) off (fun i hi => by
        have hi' : i < len := by simpa using hi
        obtain ⟨cs', q1, q2⟩ := hel i (by omega)
        rw [cells3] at q1
        obtain ⟨t, sl, rfl, hr, hbt⟩ := open_val _ n' (D i) (Pl i) cs' (Nat.le_refl _) q2
        obtain ⟨_, _, q3⟩ := World.cells?_some q1
        have a0 := q3 0 (by omega)
        have a1 := q3 1 (by omega)
        have a2 := q3 2 (by omega)
        rw [Deep.add_add] at a0 a1 a2
        have ea : ∀ j, (Addr.mk b off none).add j = ⟨b, off + j, none⟩ := by
          intro j
          unfold Addr.add
          split
          · subst_vars; rfl
          · rfl
        rw [ea] at a0 a1 a2
        refine ⟨t, sl, by simpa using a0, by simpa [Nat.add_assoc] using a1, by simpa [Nat.add_assoc] using a2, hr, by simpa using hbt⟩)
      obtain ⟨l, cs, hl, hrV, hcs, hbs⟩ := key
      have hll : l.length = len := by simpa using hl
      have hcl := repV_len hrV
      refine ⟨l, ⟨by omega, _, _, by rw [hll], .inr ⟨_, _, _, rfl, at_of_cells (by omega) hcs, hrV⟩⟩, ?_⟩
      simp only [Rows.uptoBulk]
      omega
end
end Go.Proofs.YtpppkednpamhbaaGreat
namespace Go.Proofs.YtpppkednpamhbaaGreat.R
set_option linter.unusedSimpArgs false
set_option linter.unusedVariables false
open Go.Sx
set_option maxRecDepth 20000
set_option maxHeartbeats 4000000
section
variable {H : Type} {enc : TypeId × Value → H} {w : World}
theorem bulk_pos : ∀ (d : DataW H), 1 ≤ Rows.uptoBulk d
  | .lit l => by cases l <;> simp [Rows.uptoBulk]
  | .nil => by simp [Rows.uptoBulk]
  | .ptr d => by simp [Rows.uptoBulk]
  | .slice e s => by simp [Rows.uptoBulk]
  | .agg p => by simp [Rows.uptoBulk]
  | .iface _ d => by simp [Rows.uptoBulk]
  | .map e => by simp [Rows.uptoBulk]
  | .held _ => by simp [Rows.uptoBulk]
theorem bulk_len : ∀ (L : List (DataW H)), L.length ≤ Rows.uptoBulkAll L
  | [] => by simp
  | d :: L => by
    have h1 := bulk_pos d
    have h2 := bulk_len L
    simp only [List.length_cons, Rows.uptoBulkAll]; omega
theorem bulk_memJ {d : DataW H} : ∀ {L : List (DataW H)}, d ∈ L → Rows.uptoBulk d ≤ Rows.uptoBulkAll L
  | x :: r, h => by
    simp only [Rows.uptoBulkAll]
    rcases List.mem_cons.1 h with rfl | h
    · omega
    · have := bulk_memJ h; omega
theorem open_listL {α : Type} (r : Rp α) {t e : TypeId} {B : Nat} (ht : Tryz.prog.underlying t = some (.slice e)) (hsz : Tryz.prog.cellsOf e = r.size) (hpos : 0 < r.size)
    (hel : ∀ n d ps cs, DataW.trod enc Tryz.prog w 0 (fun _ => true) true n e cs = some (d, ps) → cs.length = r.size → Rows.uptoBulk d ≤ B → ∃ x, r.e (Go.Sx.hp w) x cs)
    {n : Nat} {d : DataW H} {ps : List MemPlace} {cs : List Value} (hB : Rows.uptoBulk d ≤ B) (h : DataW.trod enc Tryz.prog w 0 (fun _ => true) true n t cs = some (d, ps)) : ∃ (sl : Value) (l : List α), cs = [sl] ∧ r.S (Go.Sx.hp w) l sl ∧ l.length ≤ B := by
  have hs := Deep.open_slice ht h
  rcases hs with ⟨hc, hy⟩ | ⟨a, len, cap, mm, n', D, Pl, hc, _, hle, hcap, hmm, hy, hel2⟩
  · exact ⟨_, [], hc, Rp.S_nil _ _, by simp⟩
  · simp only [if_true] at hmm
    subst hmm
    obtain ⟨rfl, _⟩ := Prod.mk.inj hy
    have hml : len ≤ 9223372036854775807 := Nat.le_trans (Nat.le_trans hle hcap) (by decide)
    by_cases hz : len = 0
    · subst hz
      exact ⟨_, [], hc, Rp.S_nil _ _, by simp⟩
    · obtain ⟨b, off, spot⟩ := a
      rw [hsz] at hel2
      have hspot : spot = none := by
        obtain ⟨cs', q1, _⟩ := hel2 0 (by omega)
        obtain ⟨_, q2, q3⟩ := World.cells?_some q1
        have q4 := q3 0 (by omega)
        rw [List.getElem?_eq_getElem (by omega)] at q4
        simpa [Addr.add] using World.cell?_spot q4
      subst hspot
      obtain ⟨l, cs2, hl, hL, hcs⟩ := gatherL (r := r) (w := w) (b := b) len off (fun i hi => by
        obtain ⟨cs', q1, q2⟩ := hel2 i (by omega)
        obtain ⟨_, q3, q4⟩ := World.cells?_some q1
        have hmem : D i ∈ (List.range len).map D := List.mem_map.2 ⟨i, by simpa using hi, rfl⟩
        have hbi := bulk_memJ hmem
        simp only [Rows.uptoBulk] at hB
        obtain ⟨x, hx⟩ := hel _ _ _ _ q2 (by omega) (by omega)
        refine ⟨x, cs', hx, fun j hj => ?_⟩
        have := q4 j (by omega)
        rw [Deep.add_add, add_eq] at this
        rw [← this, Nat.add_assoc])
      have hlen := Rp.L_len hL
      have hcl : 0 < cs2.length := by rw [hlen, hl]; exact Nat.mul_pos (by omega) hpos
      refine ⟨_, l, hc, ⟨by rw [hl]; exact hml, _, _, by rw [hl], .inr ⟨_, _, _, rfl, Go.Sx.at_of_cells hcl hcs, hL⟩⟩, ?_⟩
      have hb := bulk_len ((List.range len).map D)
      simp only [Rows.uptoBulk, List.length_map, List.length_range] at hB hb
      omega
def rAb : Rp Ac where
  size := 5
  e G x cs := rA.e G x cs ∧ tsz x.v ≤ 1048576
  mono hl h := ⟨rA.mono hl h.1, h.2⟩
  len h := rA.len h.1
  one h u hu := rA.one h.1 u hu
theorem rAb_L {G : Hp} : ∀ {l : List Ac} {cs : List Value}, rAb.L G l cs → rA.L G l cs ∧ ∀ x ∈ l, tsz x.v ≤ 1048576
  | [], cs, h => ⟨h, by simp⟩
  | x :: l, cs, h => by
    simp only [Rp.L] at h ⊢
    obtain ⟨c, r, rfl, ⟨h1, h2⟩, h3⟩ := h
    obtain ⟨h4, h5⟩ := rAb_L h3
    refine ⟨⟨c, r, rfl, h1, h4⟩, fun y hy => ?_⟩
    rcases List.mem_cons.1 hy with rfl | hy
    · exact h2
    · exact h5 y hy
theorem rAb_S {G : Hp} {l : List Ac} {v : Value} (h : rAb.S G l v) : rA.S G l v ∧ ∀ x ∈ l, tsz x.v ≤ 1048576 := by
  obtain ⟨h1, ad, cap, h2, h3⟩ := h
  rcases h3 with rfl | ⟨b, off, cs, q1, q2, q3⟩
  · exact ⟨⟨h1, ad, cap, h2, .inl rfl⟩, by simp⟩
  · obtain ⟨h4, h5⟩ := rAb_L q3
    exact ⟨⟨h1, ad, cap, h2, .inr ⟨b, off, cs, q1, q2, h4⟩⟩, h5⟩
theorem open_act {n : Nat} {d : DataW H} {ps : List MemPlace} {cs : List Value} (hB : Rows.uptoBulk d ≤ 1048576) (h : DataW.trod enc Tryz.prog w 0 (fun _ => true) true n 52 cs = some (d, ps)) : ∃ (x : Ac), rAb.e (Go.Sx.hp w) x cs := by
  obtain ⟨y0, y1, y2, m, hx, hlen, h0, h1, h2⟩ := Deep.trod_struct3 Tryz.underlying52 h
  cases hx
  rw [show Tryz.prog.cellsOf 52 = 5 by kernel_rfl] at hlen
  match cs, hlen with
  | [c0, c1, c2, c3, c4], _ =>
  have e1 : Tryz.prog.cellsOf 3 = 1 := by kernel_rfl
  have e3 : Tryz.prog.cellsOf 42 = 3 := by kernel_rfl
  simp only [e1, e3, List.drop_zero, List.drop_succ_cons, List.take_succ_cons, List.take_zero] at h0 h1 h2
  simp only [Rows.uptoBulk, Rows.uptoBulkAll] at hB
  obtain ⟨k, hk, hy0, wk⟩ := DataW.trod_int Tryz.underlying3 h0
  obtain ⟨m, hm, hy1, wm⟩ := DataW.trod_int Tryz.underlying3 h1
  obtain ⟨t, sl, hs, hr, hb⟩ := open_val _ _ _ _ _ (Nat.le_refl _) h2
  cases hk; cases hm; cases hs
  exact ⟨⟨k, m, t⟩, ⟨_, rfl, hr, wf_i64 wk, wf_i64 wm⟩, by show tsz t ≤ _; omega⟩
theorem open_acts {n : Nat} {d : DataW H} {ps : List MemPlace} {cs : List Value} (hB : Rows.uptoBulk d ≤ 1048576) (h : DataW.trod enc Tryz.prog w 0 (fun _ => true) true n 26 cs = some (d, ps)) : ∃ (sl : Value) (l : List Ac), cs = [sl] ∧ rAb.S (Go.Sx.hp w) l sl := by
  obtain ⟨sl, l, h1, h2, _⟩ := open_listL rAb Tryz.underlying26 (by kernel_rfl) (by decide) (fun n d ps cs h _ hb => open_act hb h) hB h
  exact ⟨sl, l, h1, h2⟩
end
end Go.Proofs.YtpppkednpamhbaaGreat.R
