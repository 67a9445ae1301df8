/-
  FiberHolds, plain: steps of a fiber of a valid program.
-/
import Derived.Test.YtpppkednpamhbaaGreatZ4
set_option linter.unusedSimpArgs false
set_option linter.unusedVariables false
namespace Go.Proofs.YtpppkednpamhbaaGreat
set_option linter.unusedSimpArgs false
set_option linter.unusedVariables false
open Go.Sx
theorem xvld_i (n : Int) : vld (.mk 2 n []) = true := by simp [vld, sml, cnt, cntL, shps, shpsL, shp]
theorem xnumF {a b y : VT} {g : Int → Int → Int} (h : numF a b g = some y) : vld y = true := by
  unfold numF at h
  split at h
  · injection h with h; subst h; exact xvld_i _
  · cases h
theorem xeqF {a b y : VT} (h : eqF a b = some y) : vld y = true := by
  unfold eqF at h
  split at h
  · injection h with h; subst h; exact xvld_i _
  · cases h
theorem xsml {x : VT} : sml x = true ↔ tsz x ≤ 256 := by
  simp only [sml, decide_eq_true_eq]
  rw [cnt_eq x 0 (by omega)]
  omega
theorem xshpsL : ∀ {l : List VT} {x : VT}, shpsL l = true → x ∈ l → shps x = true
  | y :: l, x, h, hx => by
    simp only [shpsL, Bool.and_eq_true] at h
    rcases List.mem_cons.1 hx with rfl | hx
    · exact h.1
    · exact xshpsL h.2 hx
theorem xvld_mem {a x : VT} (h : vld a = true) (hx : x ∈ a.l) : vld x = true := by
  simp only [vld, Bool.and_eq_true] at h ⊢
  have h1 := xsml.1 h.1
  have h2 := tszL_mem hx
  have h3 := tsz_l a
  refine ⟨xsml.2 (by omega), ?_⟩
  obtain ⟨k, n, l⟩ := a
  simp only [shps, Bool.and_eq_true] at h
  exact xshpsL h.2.2 hx
theorem xhalf {a y : VT} {i : Nat} (h : halfF i a = some y) : vld y = true := by
  unfold halfF at h
  split at h
  · rename_i hc
    injection h with h
    subst h
    simp only [Bool.and_eq_true] at hc
    rw [List.getD_eq_getElem?_getD]
    cases hq : a.l[i]? with
    | none => exact hc.1
    | some x => exact xvld_mem hc.1 (List.mem_of_getElem? hq)
  · cases h
theorem xvld_sz {v : VT} (h : vld v = true) : tsz v ≤ 256 := by
  simp only [vld, Bool.and_eq_true] at h
  exact xsml.1 h.1
theorem xtszL : ∀ {l : List VT}, (∀ v ∈ l, vld v = true) → tszL l ≤ 256 * l.length
  | [], _ => by simp [tszL]
  | v :: l, h => by
    have h1 := xvld_sz (h v (by simp))
    have h2 := xtszL (l := l) fun w hw => h w (by simp [hw])
    simp only [tszL, List.length_cons]
    omega
theorem res_tot {p : Pr} {x : Fm} {nd : Nd} (h : RX p 1 x nd) (h13 : nd.op ≠ 13) : ∃ ov, resF x nd = some ov ∧ ∀ v, ov = some v → vld v = true := by
  obtain ⟨⟨hpos, hdn, hvv, hvd⟩, n4, n5, hl, hst⟩ := h
  obtain ⟨hd64, hben, hnm, hi, hi2⟩ := hpos.facts
  obtain ⟨b4, b5, b24, b11, b6, b1, b16, _, _⟩ := ben_len hben
  unfold resF
  have two' : ∀ g : VT → VT → Option VT, nd.l.length = 2 → (∀ a b v, g a b = some v → vld v = true) → ∃ ov, two x.done g = some ov ∧ ∀ v, ov = some v → vld v = true := by
    intro g h2 hg
    cases hd1 : x.done with
    | nil => rw [hd1] at hl; simp at hl; omega
    | cons a t =>
      cases t with
      | nil => rw [hd1] at hl; simp at hl; omega
      | cons b t => exact ⟨_, rfl, fun v hv => hg a b v hv⟩
  have one' : ∀ g : VT → Option VT, nd.l.length = 1 → (∀ a v, g a = some v → vld v = true) → ∃ ov, one x.done g = some ov ∧ ∀ v, ov = some v → vld v = true := by
    intro g h2 hg
    cases hd1 : x.done with
    | nil => rw [hd1] at hl; simp at hl; omega
    | cons a t => exact ⟨_, rfl, fun v hv => hg a v hv⟩
  by_cases h3 : nd.op = 3
  · rw [if_pos h3]
    simp only [nmb, h3] at hnm
    rw [if_neg (by decide), if_pos trivial] at hnm
    simp only [Bool.and_eq_true, decide_eq_true_eq] at hnm
    rw [if_pos hnm.1]
    have hlt : nd.n.toNat < x.vars.length := by omega
    rw [List.getElem?_eq_getElem hlt]
    exact ⟨_, rfl, fun v hv => by injection hv with hv; subst hv; exact hvv _ (List.getElem_mem _)⟩
  rw [if_neg h3]
  by_cases h6 : nd.op = 6
  · rw [if_pos h6]; exact two' _ (b6 (.inl h6)) fun a b v => xnumF
  rw [if_neg h6]
  by_cases h7 : nd.op = 7
  · rw [if_pos h7]; exact two' _ (b6 (.inr (.inl h7))) fun a b v => xnumF
  rw [if_neg h7]
  by_cases h8 : nd.op = 8
  · rw [if_pos h8]; exact two' _ (b6 (.inr (.inr (.inl h8)))) fun a b v => xeqF
  rw [if_neg h8]
  by_cases h9 : nd.op = 9
  · rw [if_pos h9]; exact two' _ (b6 (.inr (.inr (.inr (.inl h9))))) fun a b v => xnumF
  rw [if_neg h9]
  by_cases h11 : nd.op = 11
  · rw [if_pos h11]; exact one' _ (b11 (.inl h11)) fun a v => xhalf
  rw [if_neg h11]
  by_cases h12 : nd.op = 12
  · rw [if_pos h12]; exact one' _ (b11 (.inr h12)) fun a v => xhalf
  rw [if_neg h12]
  have hts : tsz (.mk (kOf nd.op) nd.n x.done) ≤ 1000000 := by
    have := xtszL hvd
    simp only [tsz]
    omega
  rw [if_pos hts]
  refine ⟨_, rfl, fun v hv => ?_⟩
  split at hv
  · rename_i hc; injection hv with hv; subst hv; exact hc
  · cases hv
def VF (p : Pr) (s : Fb) : Prop := (VO p (s.st, s.l) ∨ (s.st = 3 ∧ s.l = [])) ∧ (s.st = 3 → vld s.val = true)
theorem go_tot {p : Pr} {s : Fb} {x : Fm} {r : List Fm} {nd : Nd} (h : VX p x nd) (hr : WS p r) (hr2 : r.length < 256) : ∃ o, goF p s (x :: r) = some o ∧ VF p o ∧ o.val = s.val := by
  obtain ⟨o, h1, h2⟩ := down_ok 600 x r nd h hr hr2 (by omega)
  refine ⟨⟨o.1, s.val, o.2⟩, by rw [goF, h1]; rfl, ⟨.inl h2, fun h3 => ?_⟩, rfl⟩
  rcases h2 with rfl | ⟨x', r', nd', h4, h5, _⟩
  · cases h3
  · have := h5.2.2.2.2
    simp only [] at h3
    omega
theorem prod_tot {p : Pr} {s : Fb} {v : VT} {x : Fm} {r : List Fm} (hs : s.l = x :: r) (hv : vld v = true) (hr : WS p r) (hr2 : r.length < 256) : ∃ o, prodF p s v = some o ∧ VF p o := by
  unfold prodF
  rw [hs]
  cases r with
  | nil => exact ⟨_, rfl, .inr ⟨rfl, rfl⟩, fun _ => hv⟩
  | cons y r =>
    obtain ⟨⟨nd, ⟨hpos, hdn, hvv, hvd⟩, hlt⟩, hr⟩ := hr
    have hm : many nd ≤ 16 := by
      have := (ben_len hpos.facts.2.1).2.2.2.2.2.2.1
      unfold many
      split <;> omega
    simp only []
    rw [if_pos (by omega)]
    obtain ⟨o, h1, h2, _⟩ := go_tot (s := s) (x := ⟨y.fn, y.nd, y.vars, y.done ++ [v]⟩) (r := r) (nd := nd) ⟨hpos, by simp; omega, hvv, fun w hw => by
      rcases List.mem_append.1 hw with hw | hw
      · exact hvd w hw
      · simp at hw; subst hw; exact hv⟩ hr (by simp at hr2; omega)
    exact ⟨o, h1, h2⟩
theorem step_tot {p : Pr} (hp : rgtP p = true) {s : Fb} (h : VF p s) : ∃ e o, stepP p s = some (e, o) ∧ VF p o := by
  unfold stepP
  by_cases h1 : s.st ≠ 1
  · rw [if_pos h1]; exact ⟨_, _, rfl, h⟩
  rw [if_neg h1]
  have h1 : s.st = 1 := by omega
  rcases h.1 with (h2 | ⟨x, r, nd, h2, h3, h4, h5⟩) | ⟨h2, _⟩
  · injection h2 with h2 _; omega
  · simp only [] at h2 h3
    rw [h2]
    simp only []
    rw [h3.1.1.nd]
    simp only []
    rw [h1] at h3
    by_cases h13 : nd.op = 13
    · rw [if_pos h13]
      obtain ⟨c1, c2, y, hy⟩ := h3.1.1.call hp h13
      have hl := h3.2.2.2.1
      obtain ⟨o, g1, g2, _⟩ := go_tot (s := s) (x := ⟨nd.n, 0, x.done, []⟩) (r := r) (nd := y) ⟨by rw [hl]; exact hy, by simp, h3.1.2.2.2, by simp⟩ h4 h5
      rw [g1]
      exact ⟨_, _, rfl, g2⟩
    · rw [if_neg h13]
      obtain ⟨ov, g1, g2⟩ := res_tot h3 h13
      rw [g1]
      cases ov with
      | none => exact ⟨_, _, rfl, .inl (.inl rfl), fun q => by cases q⟩
      | some v =>
        obtain ⟨o, k1, k2⟩ := prod_tot h2 (g2 v rfl) h4 h5
        simp only [k1]
        exact ⟨_, _, rfl, k2⟩
  · omega
theorem run_tot {p : Pr} (hp : rgtP p = true) : ∀ (k : Nat) {s : Fb}, VF p s → ∃ n o, runP p k s = some (n, o) ∧ VF p o ∧ n ≤ k
  | 0, s, h => ⟨0, s, rfl, h, Nat.le_refl _⟩
  | k + 1, s, h => by
    obtain ⟨e, o, h1, h2⟩ := step_tot hp h
    simp only [runP, h1]
    by_cases he : e = 0
    · rw [if_pos he]
      obtain ⟨n, o', h3, h4, h5⟩ := run_tot hp k h2
      rw [h3]
      exact ⟨n + 1, o', rfl, h4, by omega⟩
    · rw [if_neg he]
      exact ⟨0, o, rfl, h2, by omega⟩
end Go.Proofs.YtpppkednpamhbaaGreat
namespace Go.Proofs.YtpppkednpamhbaaGreat
set_option linter.unusedSimpArgs false
set_option linter.unusedVariables false
open Go.Sx
set_option maxHeartbeats 16000000
set_option maxRecDepth 20000
theorem copies_ok (l : List VT) (sl : Value) (G : Hp) (hS : rW.S G l sl) (hll : l.length ≤ 1000) (hvv : ∀ v ∈ l, vld v = true) :
    Pure Tryz.prog 52 [sl] G (fun v G' => rW.S G' l v) := by
  obtain ⟨ad, c, rfl⟩ := Rp.S_slice hS
  refine enterX ty tyok Tryz.func52 rfl Tryz.ntmps52 [.v (.slice ad l.length c)] (by simp) ?_
  intro C hP hQ hnt hty hmb hmh hro; have hQp := qp_body hQ; refine st_ ?_
  refine rn_ ?_; intros
  refine go_nilrow 30 42 3 rfl (by rw [hmh]; omega) ?_
  refine go_keep [2, 3, 6, 7, 8] [30] ?_
  refine st_ ?_
  refine x_loop rfl (fun q s' => ∃ (k : Nat) (G1 : Hp) (ad3 : Option Addr) (cap3 : Nat) (xs : List Value), k ≤ l.length ∧ q = l.length - k ∧ Le G G1 ∧ rW.L G1 (l.take k) xs ∧
    s' = ⟨[(2, .v (.slice none 0 0)), (3, .v (.slice ad3 k cap3)), (6, .v (.slice ad l.length c)), (7, .v (.int .i64 l.length)), (8, .v (.int .i64 k))],
      [(30, 0, .row (.slice ad3 k cap3) 42 3 k xs)], G1, []⟩) ⟨0, G, none, 0, [], by omega, rfl, Le.refl _, rfl, rfl⟩ ?_
  rintro q s' ⟨k, G1, ad3, cap3, xs, hk, hq, hle1, hxs, rfl⟩ ih
  refine rn_ ?_; intros
  refine x_if rfl rfl rfl rfl (fun hjl => ?_) (fun hjl => ?_)
  · have hlt : k < l.length := by simp at hjl; omega
    have htk : l.take (k + 1) = l.take k ++ [l[k]] := by rw [List.take_append_getElem]
    have hv1 := hvv l[k] (List.getElem_mem _)
    obtain ⟨bV, oV, sv, rfl, hatV, hrV, htV⟩ := rW_at (Rp.S_mono hle1 hS) hlt
    obtain ⟨a9, c9, rfl⟩ := VT.rep_slice hrV
    refine rn_ ?_; intros
    refine go_q (by rw [hnt]; rfl) (quiet_index (by rw [hty]; rfl) (by rw [hty]; rfl) rfl rfl rfl (by omega) (by omega)) ?_
    refine rn_ ?_; intros
    refine go_q (v := .agg #[.int .i64 l[k].k, .int .i64 l[k].n, .slice a9 l[k].l.length c9]) (by rw [hnt]; rfl) ((quiet_load (by rw [hty]; rfl) rfl (by simp [TK.agg]) (by simpa using hatV) rfl).cast (by rfl)) ?_
    refine rn_ ?_; intros
    refine go_call (by rw [hnt]; rfl) (by rw [hP]; kernel_rfl) rfl (hP ▸ copy_ok l[k] _ G1 hrV (by omega)) ?_
    rintro v2 G2 (hle2 : Le G1 G2) (⟨_, a8, c8, rfl, hr8⟩ | ⟨hns, _⟩)
    rotate_left
    · simp [vld, hns] at hv1
    refine rn_ ?_; intros
    refine go_append 30 (by rw [hnt]; rfl) (by rw [hty]; rfl) (by rw [hty]; rfl) (by decide) rfl rfl rfl (by rw [hmh]; omega) rfl (src_own 3 rfl rfl) rfl (by simp [dens, SV.den, Value.oneCell']) (by omega) (by simp only []; omega) ?_
    intro v'
    refine go_rowS 30 rfl ?_
    rintro ad4 cap4 rfl
    refine rn_ ?_; intros
    rw [wr (n := (k : Int) + 1) (by omega) (by omega)]
    refine go_keep [2, 3, 6, 7, 8] [30] ?_
    refine st_ ?_
    refine ih (l.length - (k + 1)) _ (by omega) ⟨k + 1, G2, ad4, cap4, _, by omega, rfl, hle1.trans hle2, ?_, rfl⟩
    rw [htk]
    exact Rp.L_append (Rp.L_mono hle2 hxs) (Rp.L_single ⟨_, rfl, hr8, htV⟩)
  have hkl : k = l.length := by simp at hjl; omega
  subst hkl
  rw [List.take_length] at hxs
  refine go_pubL rW 30 rfl (by rw [hmh]; omega) rfl (by omega) hxs ?_
  intro G2 ad6 cap6 (hle2 : Le G1 G2) e6 hS6
  injection e6 with q1 q2 q3
  subst q1 q3
  refine rn_ ?_; intros
  refine xc_ hQ hmb ?_; simp only [SV.den, resV, dens]
  exact hS6
theorem at_none (b cb b1 : Nat) (st k n : Int) (vl : Value) (ad : Option Addr) (cap : Nat) (G : Hp) :
    PureW Tryz.prog 46 [.pointer (some ⟨b, 0, none⟩)] G [fhO b cb st k n vl (.slice ad 0 cap), frO b1 (.slice ad 0 cap) []] (fun v _ ow => v = .tuple #[.int .i64 0, .int .i64 0, .bool false] ∧ ow = [fhO b cb st k n vl (.slice ad 0 cap), frO b1 (.slice ad 0 cap) []]) := by
  refine enterW ty tyok Tryz.func46 rfl Tryz.ntmps46 [.p 0 b 0] (by simp) (mh := 2) rfl ?_
  intro C hP hQ hnt hty hmb hmh hro hG0 hmub; have hQp := qp_body hQ; refine st_ ?_
  simp only [enumO]
  refine rn_ ?_; intros
  refine go_callW [0] (by rw [hnt]; rfl) (by rw [hP]; kernel_rfl) rfl rfl rfl (.inr (by rw [hmh]; decide)) (by rw [hP]; exact miss_ok b cb st k n vl _ G) ?_
  rintro v5 G1 ow5 (hle1 : Le G G1) ⟨rfl, rfl⟩
  simp only [setO, stk, fhO]
  refine rn_ ?_; intros
  refine go_slot 9 (.b false) rfl rfl ?_
  refine rn_ ?_; intros
  (refine x_split rfl rfl rfl (fun _ => ?_) (fun hc => absurd hc (by first | decide +kernel | (simp; first | done | fail))); refine st_ ?_; (refine ru_ ?_; intros))
  refine rn_ ?_; intros
  refine x_retW rfl hQ hmb hmh hG0 hmub rfl rfl (by rw [hty]; simp only [so, sq, zy, zz, tyE, SO', SQ', opQ, opStore, opAlloc, ev, putS, dOk, cv, SV.cs, SV.one, SV.bool?, eqB, Value.oneCell', ldOwn, binInt, binConst, binBool, binStr, isC, TK.agg, rv, rv1, ldV, resOne, resV, Nat.reduceAdd, Nat.reduceMul, Nat.reduceSub, Nat.reduceLT, Nat.reduceLeDiff, Nat.reduceEqDiff, Nat.reduceBEq, reduceIte, reduceCtorEq, eq_self]; try rfl) rfl rfl (by simp only [enumO]; exact (by repeat (first | exact plain_nil | refine plain_cons (fun _ h => h) ?_))) ?_; simp only [SV.den, resV, dens]
  exact ⟨by first | rfl | trivial, rfl⟩
theorem at_ok (b cb b1 : Nat) (st k n : Int) (vl fs ps : Value) (p : Pr) (m : Fm) (l : List Fm) (rs : List Fw) (nd : Nd) (G : Hp) (hc : At G cb 0 [ps]) (hp : rF.S G p ps) (hfs : fsOk G (m :: l) rs) (hnd : ndAt p m.fn m.nd = some nd) (hlm : l.length ≤ 300) :
    PureW Tryz.prog 46 [.pointer (some ⟨b, 0, none⟩)] G [fhO b cb st k n vl fs, frO b1 fs rs] (fun v _ ow => v = .tuple #[.int .i64 m.fn, .int .i64 m.nd, .bool true] ∧ ow = [fhO b cb st k n vl fs, frO b1 fs rs]) := by
  refine enterW ty tyok Tryz.func46 rfl Tryz.ntmps46 [.p 0 b 0] (by simp) (mh := 2) rfl ?_
  intro C hP hQ hnt hty hmb hmh hro hG0 hmub; have hQp := qp_body hQ; refine st_ ?_
  have hlast := fun G1 (hle : Le G G1) => last_ok b cb b1 st k n vl fs ps p m l rs nd G1 (hc.mono hle) (Rp.S_mono hle hp) (hfs.mono hle) hnd hlm
  obtain ⟨x, r, rfl, hx, hr⟩ := hfs
  have hrl := hr.len
  have hlen := encF_len (x :: r)
  simp only [List.length_cons] at hlen
  have e1 := hx.fn
  have e2 := hx.nd
  simp only [enumO, fhO, frO]
  refine go_rowcases 1 rfl (fun _ h _ => by simp at h) ?_
  rintro g cap rfl hcap hlen2
  refine rn_ ?_; intros
  refine go_callW [0] (by rw [hnt]; rfl) (by rw [hP]; kernel_rfl) rfl rfl rfl (.inr (by rw [hmh]; decide)) (by rw [hP]; exact miss_ok b cb st k n vl _ G) ?_
  rintro v5 G1 ow5 (hle1 : Le G G1) ⟨rfl, rfl⟩
  simp only [setO, stk, fhO]
  refine rn_ ?_; intros
  refine go_slot 9 (.b false) rfl rfl ?_
  refine rn_ ?_; intros
  refine x_split rfl rfl rfl (fun h1 => ?_) (fun h1 => ?_) <;> (refine st_ ?_; (refine ru_ ?_; intros))
  · exfalso; simp at h1; omega
  refine rn_ ?_; intros
  refine go_callW [0, 1] (by rw [hnt]; rfl) (by rw [hP]; kernel_rfl) rfl rfl rfl (.inr (by rw [hmh]; decide)) (by rw [hP]; exact hlast G1 hle1) ?_
  rintro v G2 ow2 (hle2 : Le G1 G2) ⟨rfl, g2, cap2, sl, e3, rfl, hrI⟩
  injection e3 with e3 e4 e5
  injection e3 with e3
  injection e3 with e3
  subst e3 e5
  obtain ⟨asl, csl, rfl⟩ := Rp.S_slice hrI
  simp only [setO, stk, fhO, frO, List.length_cons]
  refine rn_ ?_; intros
  refine x_held [(1, b1, .row (.slice (some ⟨g, 0, none⟩) (r.length + 1) cap) 90 4 (r.length + 1) (encF (x :: r)))] rfl (by rw [hP]; kernel_rfl) rfl rfl rfl ?_; refine st_ ?_
  refine tq_ 0 rfl (quiet_op (by rw [hty]; first | rfl | (refine st_ ?_; rfl))) ?_; refine st_ ?_
  refine tq_ 1 rfl (quiet_op (by rw [hty]; first | rfl | (refine st_ ?_; rfl))) ?_; refine st_ ?_
  refine tq_ 2 rfl (quiet_op (by rw [hty]; first | rfl | (refine st_ ?_; rfl))) ?_; refine st_ ?_
  refine tq_ 3 rfl (x := .v (.int .i64 m.fn)) ((quiet_loadR (k := 1) (by rw [hty]; rfl) rfl (by simp [TK.agg]) rfl (by simp only []; omega)).cast (by rw [← e1]; exact encF_ld (j := 0) (by omega) rfl)) ?_
  refine st_ ?_
  refine tq_ 4 rfl (quiet_op (by rw [hty]; first | rfl | (refine st_ ?_; rfl))) ?_; refine st_ ?_
  refine tq_ 5 rfl (quiet_op (by rw [hty]; first | rfl | (refine st_ ?_; rfl))) ?_; refine st_ ?_
  refine tq_ 6 rfl (quiet_op (by rw [hty]; first | rfl | (refine st_ ?_; rfl))) ?_; refine st_ ?_
  refine tq_ 7 rfl (x := .v (.int .i64 m.nd)) ((quiet_loadR (k := 1) (by rw [hty]; rfl) rfl (by simp [TK.agg]) rfl (by simp only []; omega)).cast (by rw [← e2]; exact encF_ld (j := 1) (by omega) rfl)) ?_
  refine st_ ?_
  refine h_one 8 rfl (by kernel_rfl) ?_
  refine rn_ ?_; intros
  refine hs_ ?_
  refine h_one 9 rfl (by kernel_rfl) ?_
  refine rn_ ?_; intros
  refine hs_ ?_
  refine h_one 10 rfl (by kernel_rfl) ?_
  refine rn_ ?_; intros
  refine hs_ ?_
  refine h_end (by kernel_rfl) ?_
  refine rn_ ?_; intros
  refine x_retW rfl hQ hmb hmh hG0 hmub rfl rfl (by rw [hty]; simp only [so, sq, zy, zz, tyE, SO', SQ', opQ, opStore, opAlloc, ev, putS, dOk, cv, SV.cs, SV.one, SV.bool?, eqB, Value.oneCell', ldOwn, binInt, binConst, binBool, binStr, isC, TK.agg, rv, rv1, ldV, resOne, resV, Nat.reduceAdd, Nat.reduceMul, Nat.reduceSub, Nat.reduceLT, Nat.reduceLeDiff, Nat.reduceEqDiff, Nat.reduceBEq, reduceIte, reduceCtorEq, eq_self]; try rfl) rfl rfl (by simp only [enumO]; exact (by repeat (first | exact plain_nil | refine plain_cons (fun _ h => h) ?_))) ?_; simp only [SV.den, resV, dens]
  exact ⟨by first | rfl | trivial, rfl⟩
def wantP (nd : Nd) (done : List VT) : Int × Int × List VT := if nd.op = 14 then (2, nd.n, done) else if nd.op = 24 then (3, 0, done) else (1, 0, [])
def wantV (G : Hp) (w : Int × Int × List VT) (v : Value) : Prop := ∃ sl, v = .tuple #[.agg #[.int .i64 w.1, .int .i64 w.2.1, sl], .bool true] ∧ rW.S G w.2.2 sl
theorem wantN_ok (b cb b1 : Nat) (st k n : Int) (vl fs : Value) (rs : List Fw) (G : Hp) (hst : st ≠ 2) :
    PureW Tryz.prog 26 [.pointer (some ⟨b, 0, none⟩)] G [fhO b cb st k n vl fs, frO b1 fs rs] (fun v _ ow => v = .tuple #[.agg #[.int .i64 0, .int .i64 0, .slice none 0 0], .bool false] ∧ ow = [fhO b cb st k n vl fs, frO b1 fs rs]) := by
  refine enterW ty tyok Tryz.func26 rfl Tryz.ntmps26 [.p 0 b 0] (by simp) (mh := 2) rfl ?_
  intro C hP hQ hnt hty hmb hmh hro hG0 hmub; have hQp := qp_body hQ; refine st_ ?_
  simp only [enumO]
  refine rn_ ?_; intros
  refine go_callW [0] (by rw [hnt]; rfl) (by rw [hP]; kernel_rfl) rfl rfl rfl (.inr (by rw [hmh]; decide)) (by rw [hP]; exact state_ok b cb st k n _ fs G) ?_
  rintro v5 G1 ow5 (hle1 : Le G G1) ⟨rfl, rfl⟩
  simp only [setO, stk, fhO]
  refine rn_ ?_; intros
  refine x_split rfl rfl rfl (fun h1 => ?_) (fun h1 => ?_) <;> (refine st_ ?_; (refine ru_ ?_; intros))
  rotate_left
  · exact absurd (by simpa using h1) hst
  refine rn_ ?_; intros
  refine x_retW rfl hQ hmb hmh hG0 hmub rfl rfl (by rw [hty]; simp only [so, sq, zy, zz, tyE, SO', SQ', opQ, opStore, opAlloc, ev, putS, dOk, cv, SV.cs, SV.one, SV.bool?, eqB, Value.oneCell', ldOwn, binInt, binConst, binBool, binStr, isC, TK.agg, rv, rv1, ldV, resOne, resV, Nat.reduceAdd, Nat.reduceMul, Nat.reduceSub, Nat.reduceLT, Nat.reduceLeDiff, Nat.reduceEqDiff, Nat.reduceBEq, reduceIte, reduceCtorEq, eq_self]; try rfl) rfl rfl (by simp only [enumO]; exact (by repeat (first | exact plain_nil | refine plain_cons (fun _ h => h) ?_))) ?_; simp only [SV.den, resV, dens]
  exact ⟨by first | rfl | trivial, rfl⟩
theorem want3_ok (b cb b1 : Nat) (k n : Int) (vl fs ps : Value) (p : Pr) (m : Fm) (l : List Fm) (rs : List Fw) (nd : Nd) (G : Hp) (hc : At G cb 0 [ps]) (hp : rF.S G p ps) (hfs : fsOk G (m :: l) rs) (hnd : ndAt p m.fn m.nd = some nd) (hlm : l.length ≤ 300)
    (hdn : ∀ x, rs.head? = some x → rW.S G m.done x.done.v) (hdl : m.done.length ≤ 1000) (hvv : ∀ v ∈ m.done, vld v = true) :
    PureW Tryz.prog 26 [.pointer (some ⟨b, 0, none⟩)] G [fhO b cb 2 k n vl fs, frO b1 fs rs] (fun v G' ow => ow = [fhO b cb 2 k n vl fs, frO b1 fs rs] ∧ wantV G' (wantP nd m.done) v) := by
  refine enterW ty tyok Tryz.func26 rfl Tryz.ntmps26 [.p 0 b 0] (by simp) (mh := 2) rfl ?_
  intro C hP hQ hnt hty hmb hmh hro hG0 hmub; have hQp := qp_body hQ; refine st_ ?_
  have hlast := fun G1 (hle : Le G G1) => last_ok b cb b1 2 k n vl fs ps p m l rs nd G1 (hc.mono hle) (Rp.S_mono hle hp) (hfs.mono hle) hnd hlm
  obtain ⟨x, r, rfl, hx, hr⟩ := hfs
  have hrl := hr.len
  have hlen := encF_len (x :: r)
  simp only [List.length_cons] at hlen
  have hds := hdn x rfl
  obtain ⟨xfn, xnd, xvars, xe, xsz, xdv, xn, xxs⟩ := x
  simp only at hds
  obtain ⟨ad, cd, rfl⟩ := Rp.S_slice hds
  simp only [enumO, fhO, frO]
  refine go_rowcases 1 rfl (fun _ h _ => by simp at h) ?_
  rintro g cap rfl hcap hlen2
  refine rn_ ?_; intros
  refine go_callW [0] (by rw [hnt]; rfl) (by rw [hP]; kernel_rfl) rfl rfl rfl (.inr (by rw [hmh]; decide)) (by rw [hP]; exact state_ok b cb 2 k n vl _ G) ?_
  rintro v5 G1 ow5 (hle1 : Le G G1) ⟨rfl, rfl⟩
  simp only [setO, stk, fhO]
  refine rn_ ?_; intros
  (refine x_split rfl rfl rfl (fun hc => absurd hc (by first | decide +kernel | (simp; first | done | fail))) (fun _ => ?_); refine st_ ?_; (refine ru_ ?_; intros))
  refine rn_ ?_; intros
  refine go_callW [0, 1] (by rw [hnt]; rfl) (by rw [hP]; kernel_rfl) rfl rfl rfl (.inr (by rw [hmh]; decide)) (by rw [hP]; exact hlast G1 hle1) ?_
  rintro v G2 ow2 (hle2 : Le G1 G2) ⟨rfl, g2, cap2, sl, e3, rfl, hrI⟩
  injection e3 with e3 e4 e5
  injection e3 with e3
  injection e3 with e3
  subst e3 e5
  have hle12 := hle1.trans hle2
  obtain ⟨asl, csl, rfl⟩ := Rp.S_slice hrI
  simp only [setO, stk, fhO, frO, List.length_cons]
  refine rn_ ?_; intros
  rename_i b2 b5
  have hcp := copies_ok m.done _ G2 (Rp.S_mono hle12 hds) hdl hvv
  refine x_split rfl rfl rfl (fun h14 => ?_) (fun h14 => ?_) <;> (refine st_ ?_; (refine ru_ ?_; intros))
  · have hop : nd.op = 14 := by simpa using h14
    refine rn_ ?_; intros
    refine x_held [(1, b1, .row (.slice (some ⟨g, 0, none⟩) (r.length + 1) cap) 90 4 (r.length + 1) (encF (⟨xfn, xnd, xvars, ⟨xe, xsz, .slice ad m.done.length cd, xn, xxs⟩⟩ :: r))), (3, b5, .c 110 [.v (.int .i64 nd.op), .v (.int .i64 nd.n), .v (.slice asl nd.l.length csl)])] rfl (by rw [hP]; kernel_rfl) rfl rfl rfl ?_; refine st_ ?_
    refine tq_ 0 rfl (quiet_op (by rw [hty]; first | rfl | (refine st_ ?_; rfl))) ?_; refine st_ ?_
    refine tq_ 1 rfl (quiet_op (by rw [hty]; first | rfl | (refine st_ ?_; rfl))) ?_; refine st_ ?_
    refine tq_ 2 rfl (quiet_op (by rw [hty]; first | rfl | (refine st_ ?_; rfl))) ?_; refine st_ ?_
    refine tq_ 3 rfl (quiet_op (by rw [hty]; first | rfl | (refine st_ ?_; rfl))) ?_; refine st_ ?_
    refine tq_ 4 rfl (quiet_op (by rw [hty]; first | rfl | (refine st_ ?_; rfl))) ?_; refine st_ ?_
    refine tq_ 5 rfl (x := .v (.slice ad m.done.length cd)) ((quiet_loadR (k := 1) (by rw [hty]; rfl) rfl (by simp [TK.agg]) rfl (by simp only []; omega)).cast (by exact encF_ld (j := 3) (by omega) rfl)) ?_
    refine st_ ?_
    refine h_one 6 rfl (by kernel_rfl) ?_
    refine go_call (by rw [hnt]; rfl) (by rw [hP]; kernel_rfl) rfl (hP ▸ hcp) ?_
    rintro v3 G3 (hle3 : Le G2 G3) hS3
    obtain ⟨a3, c3, rfl⟩ := Rp.S_slice hS3
    refine rn_ ?_; intros
    refine hs_ ?_
    refine tq_ 7 rfl (quiet_op (by rw [hty]; first | rfl | (refine st_ ?_; rfl))) ?_; refine st_ ?_
    refine h_one 8 rfl (by kernel_rfl) ?_
    refine rn_ ?_; intros
    refine hs_ ?_
    refine h_one 9 rfl (by kernel_rfl) ?_
    refine rn_ ?_; intros
    refine hs_ ?_
    refine h_end (by kernel_rfl) ?_
    refine rn_ ?_; intros
    refine x_retW rfl hQ hmb hmh hG0 hmub rfl rfl (by rw [hty]; simp only [so, sq, zy, zz, tyE, SO', SQ', opQ, opStore, opAlloc, ev, putS, dOk, cv, SV.cs, SV.one, SV.bool?, eqB, Value.oneCell', ldOwn, binInt, binConst, binBool, binStr, isC, TK.agg, rv, rv1, ldV, resOne, resV, Nat.reduceAdd, Nat.reduceMul, Nat.reduceSub, Nat.reduceLT, Nat.reduceLeDiff, Nat.reduceEqDiff, Nat.reduceBEq, reduceIte, reduceCtorEq, eq_self]; try rfl) rfl rfl (by simp only [enumO]; exact (by repeat (first | exact plain_nil | refine plain_cons (fun _ h => h) ?_))) ?_; simp only [SV.den, resV, dens]
    refine ⟨rfl, ?_⟩
    simp only [wantP, hop]
    exact ⟨_, rfl, hS3⟩
  have h14 : ¬ nd.op = 14 := by simpa using h14
  refine rn_ ?_; intros
  refine x_split rfl rfl rfl (fun h24 => ?_) (fun h24 => ?_) <;> (refine st_ ?_; (refine ru_ ?_; intros))
  · have hop : nd.op = 24 := by simpa using h24
    refine rn_ ?_; intros
    refine go_q (v := .slice ad m.done.length cd) (by rw [hnt]; rfl) ((quiet_loadR (k := 1) (by rw [hty]; rfl) rfl (by simp [TK.agg]) rfl (by simp only []; omega)).cast (by exact encF_ld (j := 3) (by omega) rfl)) ?_
    refine rn_ ?_; intros
    refine go_call (by rw [hnt]; rfl) (by rw [hP]; kernel_rfl) rfl (hP ▸ hcp) ?_
    rintro v3 G3 (hle3 : Le G2 G3) hS3
    obtain ⟨a3, c3, rfl⟩ := Rp.S_slice hS3
    refine rn_ ?_; intros
    refine x_retW rfl hQ hmb hmh hG0 hmub rfl rfl (by rw [hty]; simp only [so, sq, zy, zz, tyE, SO', SQ', opQ, opStore, opAlloc, ev, putS, dOk, cv, SV.cs, SV.one, SV.bool?, eqB, Value.oneCell', ldOwn, binInt, binConst, binBool, binStr, isC, TK.agg, rv, rv1, ldV, resOne, resV, Nat.reduceAdd, Nat.reduceMul, Nat.reduceSub, Nat.reduceLT, Nat.reduceLeDiff, Nat.reduceEqDiff, Nat.reduceBEq, reduceIte, reduceCtorEq, eq_self]; try rfl) rfl rfl (by simp only [enumO]; exact (by repeat (first | exact plain_nil | refine plain_cons (fun _ h => h) ?_))) ?_; simp only [SV.den, resV, dens]
    refine ⟨rfl, ?_⟩
    simp only [wantP, hop]
    exact ⟨_, rfl, hS3⟩
  have h24 : ¬ nd.op = 24 := by simpa using h24
  refine rn_ ?_; intros
  refine x_retW rfl hQ hmb hmh hG0 hmub rfl rfl (by rw [hty]; simp only [so, sq, zy, zz, tyE, SO', SQ', opQ, opStore, opAlloc, ev, putS, dOk, cv, SV.cs, SV.one, SV.bool?, eqB, Value.oneCell', ldOwn, binInt, binConst, binBool, binStr, isC, TK.agg, rv, rv1, ldV, resOne, resV, Nat.reduceAdd, Nat.reduceMul, Nat.reduceSub, Nat.reduceLT, Nat.reduceLeDiff, Nat.reduceEqDiff, Nat.reduceBEq, reduceIte, reduceCtorEq, eq_self]; try rfl) rfl rfl (by simp only [enumO]; exact (by repeat (first | exact plain_nil | refine plain_cons (fun _ h => h) ?_))) ?_; simp only [SV.den, resV, dens]
  refine ⟨rfl, ?_⟩
  simp only [wantP, if_neg h14, if_neg h24]
  exact ⟨_, rfl, Rp.S_nil none 0⟩
theorem resume_err (b cb : Nat) (st k n : Int) (vl fs : Value) (v : VT) (slv : Value) (e : Int) (G : Hp) (hv : v.rep G slv) (he : (vld v = false ∧ e = 2) ∨ (vld v = true ∧ st ≠ 2 ∧ e = 100)) :
    PureW Tryz.prog 29 [.pointer (some ⟨b, 0, none⟩), .agg #[.int .i64 v.k, .int .i64 v.n, slv]] G [fhO b cb st k n vl fs] (fun r _ ow => r = .int .i64 e ∧ ow = [fhO b cb st k n vl fs]) := by
  obtain ⟨a9, c9, rfl⟩ := VT.rep_slice hv
  refine enterW ty tyok Tryz.func29 rfl Tryz.ntmps29 [.p 0 b 0, .a [.v (.int .i64 v.k), .v (.int .i64 v.n), .v (.slice a9 v.l.length c9)]] (by simp) (mh := 1) rfl ?_
  intro C hP hQ hnt hty hmb hmh hro hG0 hmub; have hQp := qp_body hQ; refine st_ ?_
  simp only [enumO]
  refine rn_ ?_; intros
  refine go_callW [0] (by rw [hnt]; rfl) (by rw [hP]; kernel_rfl) rfl rfl rfl (.inr (by rw [hmh]; decide)) (by rw [hP]; exact miss_ok b cb st k n vl fs G) ?_
  rintro v5 G1 ow5 (hle1 : Le G G1) ⟨rfl, rfl⟩
  simp only [setO, stk, fhO]
  refine rn_ ?_; intros
  (refine x_split rfl rfl rfl (fun hc => absurd hc (by first | decide +kernel | (simp; first | done | fail))) (fun _ => ?_); refine st_ ?_; (refine ru_ ?_; intros))
  refine rn_ ?_; intros
  have hck1 := check_ok v _ G1 (VT.rep_mono hle1 hv)
  rcases he with ⟨hvv, rfl⟩ | ⟨hvv, hst, rfl⟩
  · have hc0 : chk v ≠ 0 := by simp [chk, hvv]
    refine go_callf (by rw [hnt]; rfl) (by rw [hP]; kernel_rfl) rfl (hP ▸ hck1) ?_; refine rn_ ?_; intros
    refine x_split rfl rfl rfl (fun h1 => ?_) (fun h1 => ?_) <;> (refine st_ ?_; (refine ru_ ?_; intros))
    rotate_left
    · exact absurd (by simpa using h1) hc0
    refine rn_ ?_; intros
    refine x_retW rfl hQ hmb hmh hG0 hmub rfl rfl (by rw [hty]; simp only [so, sq, zy, zz, tyE, SO', SQ', opQ, opStore, opAlloc, ev, putS, dOk, cv, SV.cs, SV.one, SV.bool?, eqB, Value.oneCell', ldOwn, binInt, binConst, binBool, binStr, isC, TK.agg, rv, rv1, ldV, resOne, resV, Nat.reduceAdd, Nat.reduceMul, Nat.reduceSub, Nat.reduceLT, Nat.reduceLeDiff, Nat.reduceEqDiff, Nat.reduceBEq, reduceIte, reduceCtorEq, eq_self]; try rfl) rfl rfl (by simp only [enumO]; exact (by repeat (first | exact plain_nil | refine plain_cons (fun _ h => h) ?_))) ?_; simp only [SV.den, resV, dens]
    exact ⟨by first | rfl | trivial, rfl⟩
  · rw [show chk v = 0 by simp [chk, hvv]] at hck1
    refine go_callf (by rw [hnt]; rfl) (by rw [hP]; kernel_rfl) rfl (hP ▸ hck1) ?_; refine rn_ ?_; intros
    (refine x_split rfl rfl rfl (fun hc => absurd hc (by first | decide +kernel | (simp; first | done | fail))) (fun _ => ?_); refine st_ ?_; (refine ru_ ?_; intros))
    refine rn_ ?_; intros
    refine x_split rfl rfl rfl (fun h1 => ?_) (fun h1 => ?_) <;> (refine st_ ?_; (refine ru_ ?_; intros))
    rotate_left
    · exact absurd (by simpa using h1) hst
    refine rn_ ?_; intros
    refine x_retW rfl hQ hmb hmh hG0 hmub rfl rfl (by rw [hty]; simp only [so, sq, zy, zz, tyE, SO', SQ', opQ, opStore, opAlloc, ev, putS, dOk, cv, SV.cs, SV.one, SV.bool?, eqB, Value.oneCell', ldOwn, binInt, binConst, binBool, binStr, isC, TK.agg, rv, rv1, ldV, resOne, resV, Nat.reduceAdd, Nat.reduceMul, Nat.reduceSub, Nat.reduceLT, Nat.reduceLeDiff, Nat.reduceEqDiff, Nat.reduceBEq, reduceIte, reduceCtorEq, eq_self]; try rfl) rfl rfl (by simp only [enumO]; exact (by repeat (first | exact plain_nil | refine plain_cons (fun _ h => h) ?_))) ?_; simp only [SV.den, resV, dens]
    exact ⟨by first | rfl | trivial, rfl⟩
end Go.Proofs.YtpppkednpamhbaaGreat
namespace Go.Sx
set_option linter.unusedSimpArgs false
set_option linter.unusedVariables false
open Go.RowKit
theorem lay_suf : ∀ (l1 l2 : List Value) (o : Nat) (us l' : List Value), lay l1 o us = some l' → lay (l1 ++ l2) o us = some (l' ++ l2)
  | l1, l2, o, [], l', h => by cases l1 <;> cases o <;> simp_all [lay]
  | [], l2, o, u :: us, l', h => by simp [lay] at h
  | x :: l1, l2, 0, u :: us, l', h => by
    simp only [lay, Option.map_eq_some_iff] at h
    obtain ⟨q, h1, rfl⟩ := h
    simp only [List.cons_append, lay, lay_suf l1 l2 0 us q h1, Option.map_some]
  | x :: l1, l2, o + 1, u :: us, l', h => by
    simp only [lay, Option.map_eq_some_iff] at h
    obtain ⟨q, h1, rfl⟩ := h
    simp only [List.cons_append, lay, lay_suf l1 l2 o (u :: us) q h1, Option.map_some]
def Zo (a : List Rw) (g : Nat) : Prop := ∃ r ∈ a, r.v.ownBlock = some g
theorem zo_ix {a : List Rw} {g : Nat} : (∃ (i : Nat) (r : Rw), a[i]? = some r ∧ r.v.ownBlock = some g) ↔ Zo a g := by
  constructor
  · rintro ⟨i, r, h1, h2⟩
    exact ⟨r, List.mem_of_getElem? h1, h2⟩
  · rintro ⟨r, h1, h2⟩
    obtain ⟨i, h3⟩ := List.getElem?_of_mem h1
    exact ⟨i, r, h3, h2⟩
def Ap (r r' : Rw) : Prop := ∀ g, r.v.ownBlock = some g → r'.v.ownBlock ≠ some g
theorem Ap.symm {r r' : Rw} (h : Ap r r') : Ap r' r := fun g h1 h2 => h g h2 h1
theorem zr_iff {a : List Rw} {Z M : Nat → Prop} {w : World} : (ZR a).A Z M w ↔ (∀ r ∈ a, w.ownsRow 0 r.e r.size r.v r.n r.xs) ∧ a.Pairwise Ap ∧ (∀ g, Z g ↔ Zo a g) ∧ (∀ g, M g → Z g) := by
  constructor
  · rintro ⟨h1, h2, h3, h4⟩
    refine ⟨fun r hr => ?_, ?_, fun g => (h3 g).trans zo_ix, h4⟩
    · obtain ⟨i, hi⟩ := List.getElem?_of_mem hr
      exact h1 i r hi
    · rw [List.pairwise_iff_getElem]
      intro i j hi hj hij g q q'
      have := h2 i j _ _ g (List.getElem?_eq_getElem hi) (List.getElem?_eq_getElem hj) q q'
      omega
  · rintro ⟨h1, h2, h3, h4⟩
    refine ⟨fun i r e => h1 r (List.mem_of_getElem? e), fun i j r r' g e e' q q' => ?_, fun g => (h3 g).trans zo_ix.symm, h4⟩
    obtain ⟨hi, rfl⟩ := List.getElem?_eq_some_iff.1 e
    obtain ⟨hj, rfl⟩ := List.getElem?_eq_some_iff.1 e'
    rw [List.pairwise_iff_getElem] at h2
    rcases Nat.lt_trichotomy i j with h | h | h
    · exact absurd q' (h2 i j hi hj h g q)
    · exact h
    · exact absurd q (h2 j i hj hi h g q')
theorem zr_perm {a b : List Rw} (h : a.Perm b) {Z M : Nat → Prop} {w : World} (ha : (ZR a).A Z M w) : (ZR b).A Z M w := by
  rw [zr_iff] at ha ⊢
  obtain ⟨h1, h2, h3, h4⟩ := ha
  refine ⟨fun r hr => h1 r (h.mem_iff.2 hr), (h.pairwise_iff fun q => Ap.symm q).1 h2, fun g => (h3 g).trans ?_, h4⟩
  exact ⟨fun ⟨r, q1, q2⟩ => ⟨r, h.mem_iff.1 q1, q2⟩, fun ⟨r, q1, q2⟩ => ⟨r, h.mem_iff.2 q1, q2⟩⟩
section
variable {C : Ctx} {K : List KI} {s : St}
theorem go_zperm (k : Nat) {b : Nat} {rs rs' : List Rw} {Z : Nat → Prop} (hk : lk k s.own = some (b, .z (ZR rs) Z Z)) (hp : rs.Perm rs') (h : SGo C K ⟨s.sl, stk k (b, .z (ZR rs') Z Z) s.own, s.G, s.df⟩) : SGo C K s := by
  intro a w hS
  refine h a w ⟨hS.sl, hS.nt, hS.df, ?_⟩
  exact hS.mem.put hk rfl rfl rfl (Nat.le_refl _) (fun _ _ _ => rfl) (zr_perm hp (hS.mem.own _ _ _ hk).1) (fun j => ⟨fun hg => .inl hg, fun hg => .inl hg⟩)
theorem src_row {k b g n cap size : Nat} {e : TypeId} {xs : List Value} (hk : lk k s.own = some (b, .row (.slice (some ⟨g, 0, none⟩) n cap) e size n xs)) : Src C s (.v (.slice (some ⟨g, 0, none⟩) n cap)) n xs := by
  intro w hm
  have h0 := (hm.own _ _ _ hk).1
  simp only [OO.holds] at h0
  obtain ⟨arr, e', fz, h1, h2, h3⟩ := row_load (P := C.P) h0
  refine ⟨_, _, rfl, fun j u hu => ?_⟩
  have hj : j < xs.length := by
    rcases Nat.lt_or_ge j xs.length with q | q
    · exact q
    · rw [List.getElem?_eq_none q] at hu; cases hu
  rw [add_none, cell_at h1, h3 j hj]; exact hu
end
end Go.Sx
namespace Go.Sx
set_option linter.unusedSimpArgs false
set_option linter.unusedVariables false
section
variable {α : Type} {r : Rp α} {G : Hp} {l : List α}
theorem Rp.srcS {v : Value} (h : r.S G l v) : ∃ cs, r.L G l cs ∧ ((∃ c, (SV.v v).den = .slice none 0 c ∧ l.length = 0 ∧ cs = []) ∨ ∀ (C : Ctx) (s : St), s.G = G → Src C s (.v v) l.length cs) := by
  obtain ⟨_, ad, cap, rfl, h⟩ := h
  exact Rp.src h
theorem Rp.S_hi {ad : Option Addr} {n cap a : Nat} (h : r.S G l (.slice ad n cap)) (ha : a ≤ l.length) : r.S G (l.take a) (sliced ad cap 0 a r.size) := by
  obtain ⟨h63, ad', cap', e, h⟩ := h
  injection e with e1 e2 e3
  subst e1 e2 e3
  have hl : (l.take a).length = a := by simp; omega
  have e : sliced ad cap 0 a r.size = .slice (if cap = 0 then ad else ad.map (·.add (0 * r.size))) a cap := by simp [sliced]
  refine ⟨by omega, _, cap, by rw [e, hl], ?_⟩
  rcases h with rfl | ⟨b, off, cs, rfl, hat, hL⟩
  · exact .inl (by simp)
  · refine .inr ⟨b, off, cs.take (a * r.size), ?_, by simpa using hat.sub 0 (a * r.size) (by rw [Rp.L_len hL]; simpa using Nat.mul_le_mul_right _ ha), Rp.L_take a hL⟩
    split
    · rfl
    · simp [add_none]
end
end Go.Sx
namespace Go.Proofs.YtpppkednpamhbaaGreat
set_option linter.unusedSimpArgs false
set_option linter.unusedVariables false
open Go.Sx
set_option maxHeartbeats 16000000
set_option maxRecDepth 20000
theorem cloneG_ok (l : List VT) (sl : Value) (G : Hp) (hS : rW.S G l sl) (hb : l.length ≤ 1000) : Pure Tryz.prog 78 [sl] G (fun v G' => rW.S G' l v ∧ CapOk v) := by
  obtain ⟨h63, ad, cap, rfl, hsrc⟩ := hS
  refine enterX ty tyok Tryz.func78 rfl Tryz.ntmps78 [.v (.slice ad l.length cap)] (by simp) ?_
  intro C hP hQ hnt hty hmb hmh hro; have hQp := qp_body hQ; refine st_ ?_
  refine rn_ ?_; intros
  refine go_q (by rw [hnt]; rfl) (quiet_snil (by rw [hty]; rfl) rfl rfl) ?_
  refine rn_ ?_; intros
  cases ad with
  | none =>
    have hl : l = [] := by rcases hsrc with h | ⟨b, off, cs, h, _⟩; exact h; cases h
    subst hl
    refine go_slot 4 (.b true) rfl rfl ?_
    refine rn_ ?_; intros
    refine xc_ hQ hmb ?_; simp only [SV.den, resV, dens]
    exact ⟨Rp.S_nil none 0, fun _ _ _ e => by cases e; simp⟩
  | some a =>
    refine go_slot 4 (.b false) rfl rfl ?_
    refine rn_ ?_; intros
    obtain ⟨cs2, hr2, hs2⟩ := Rp.src (r := rW) (cap := cap) hsrc
    have hlen2 := Rp.L_len hr2
    simp only [rW] at hlen2
    refine go_litrow 0 (n := 0) (size := 3) rfl (by omega) rfl (by omega) ?_
    refine st_ ?_
    refine go_append_any 0 (by rw [hnt]; rfl) (by rw [hty]; rfl) (by rw [hty]; rfl) (by decide) rfl rfl rfl (by omega) rfl (hs2.imp id fun f => f _ _ rfl) (by simp only []; omega) (Rp.L_one hr2) (by omega) (by simp only []; omega) ?_
    intro v'
    refine go_rowC 0 rfl ?_
    intro ad2 cap2 e5 hcap5
    subst e5
    refine go_pubL rW 0 rfl (by rw [hmh]; omega) (ts := l) (by simp) (by omega) (by simpa using hr2) ?_
    intro G2 ad6 cap6 (hle2 : Le G G2) e6 hS6
    injection e6 with q1 q2 q3
    subst q1 q3
    refine rn_ ?_; intros
    refine xc_ hQ hmb ?_; simp only [SV.den, resV, dens]
    exact ⟨by simpa using hS6, fun _ _ _ e => by cases e; simpa using hcap5⟩
theorem cloneV_ok (b0 b2 n : Nat) (v : Value) (xs : List Value) (G : Hp) (hone : ∀ u ∈ xs, u.oneCell' = true) (hn : n ≤ 1000) (hxl : xs.length = n * 3) (hb : ∃ ad cap, v = .slice ad n cap) :
    PureT Tryz.prog 78 [v] G [(b0, .row v 42 3 n xs), (b2, .row (.slice none 0 0) 42 3 0 [])] (fun w _ ow => ∃ b1 ad cap, w = .slice ad n cap ∧ n ≤ cap ∧ ow = [(b0, .row v 42 3 n xs), (b1, .row w 42 3 n xs)]) := by
  obtain ⟨ad0, cap0, rfl⟩ := hb
  refine enterT ty tyok Tryz.func78 rfl Tryz.ntmps78 [.v (.slice ad0 n cap0)] (by simp) (by simp) (plainL (by simp only [enumO]; exact (by repeat (first | exact plain_nil | refine plain_cons (fun _ h => h) ?_)))) ?_
  intro C w0 hP hQ hnt hty hmb hmh hro hG0 hb0; have hQp := qp_body hQ; refine st_ ?_
  generalize hrest : restB w0 _ G = Zr
  simp only [enumO, List.cons_append, List.nil_append]
  refine rn_ ?_; intros
  refine go_q (by rw [hnt]; rfl) (quiet_snil (by rw [hty]; rfl) rfl rfl) ?_
  refine go_rowcases 0 rfl ?_ ?_
  · intro e1 e2 e3
    subst e2 e3
    injection e1 with e1 _ e4
    subst e1 e4
    refine rn_ ?_; intros
    refine go_slot 4 (.b true) rfl rfl ?_
    refine rn_ ?_; intros
    refine x_retT rfl hQ hmh hb0 rfl (by first | (simp; done) | decide) rfl (by rw [hty]; simp only [so, sq, zy, zz, tyE, SO', SQ', opQ, opStore, opAlloc, ev, putS, dOk, cv, SV.cs, SV.one, SV.bool?, eqB, Value.oneCell', ldOwn, binInt, binConst, binBool, binStr, isC, TK.agg, rv, rv1, ldV, resOne, resV, Nat.reduceAdd, Nat.reduceMul, Nat.reduceSub, Nat.reduceLT, Nat.reduceLeDiff, Nat.reduceEqDiff, Nat.reduceBEq, reduceIte, reduceCtorEq, eq_self]; try rfl) rfl (by rw [hrest]; rfl) (by first | exact Le.refl _ | assumption) rfl (by simp only [enumO]; exact (by repeat (first | exact plain_nil | refine plain_cons (fun _ h => h) ?_))) ?_; simp only [SV.den, resV, dens]
    exact ⟨b2, none, 0, rfl, by omega, rfl⟩
  · rintro g cap e1 hcap hlen
    injection e1 with e1 _ e4
    subst e1 e4
    refine rn_ ?_; intros
    refine go_slot 4 (.b false) rfl rfl ?_
    refine rn_ ?_; intros
    refine go_litrow 1000 (n := 0) (size := 3) rfl (by omega) rfl (by omega) ?_
    refine st_ ?_
    refine go_append_any 1000 (by rw [hnt]; rfl) (by rw [hty]; rfl) (by rw [hty]; rfl) (by decide) rfl rfl rfl (by omega) rfl (.inr (src_row (k := 0) rfl)) (by simp only []; omega) hone (by omega) (by simp only []; omega) ?_
    intro v'
    refine go_rowC 1000 rfl ?_
    intro ad5 cap5 e5 hcap5
    subst e5
    simp only [Nat.zero_add, List.nil_append]
    refine rn_ ?_; intros
    refine go_drop 1 ?_
    refine st_ ?_
    refine go_rekey 1000 1 rfl rfl (by rw [hmh]; omega) (by rw [hmh]; omega) ?_
    refine st_ ?_
    refine x_retT rfl hQ hmh hb0 rfl (by first | (simp; done) | decide) rfl (by rw [hty]; simp only [so, sq, zy, zz, tyE, SO', SQ', opQ, opStore, opAlloc, ev, putS, dOk, cv, SV.cs, SV.one, SV.bool?, eqB, Value.oneCell', ldOwn, binInt, binConst, binBool, binStr, isC, TK.agg, rv, rv1, ldV, resOne, resV, Nat.reduceAdd, Nat.reduceMul, Nat.reduceSub, Nat.reduceLT, Nat.reduceLeDiff, Nat.reduceEqDiff, Nat.reduceBEq, reduceIte, reduceCtorEq, eq_self]; try rfl) rfl (by rw [hrest]; rfl) (by first | exact Le.refl _ | assumption) rfl (by simp only [enumO]; exact (by repeat (first | exact plain_nil | refine plain_cons (fun _ h => h) ?_))) ?_; simp only [SV.den, resV, dens]
    exact ⟨_, _, _, rfl, by omega, rfl⟩
theorem cloneF_ok (b0 n : Nat) (v : Value) (xs : List Value) (G : Hp) (hone : ∀ u ∈ xs, u.oneCell' = true) (hn : n ≤ 1000) (hxl : xs.length = n * 4) (hb : ∃ ad cap, v = .slice ad n cap) :
    PureT Tryz.prog 77 [v] G [(b0, .row v 90 4 n xs), (0, .row (.slice none 0 0) 90 4 0 [])] (fun w _ ow => ∃ b1 ad cap, w = .slice ad n cap ∧ n ≤ cap ∧ ow = [(b0, .row v 90 4 n xs), (b1, .row w 90 4 n xs)]) := by
  obtain ⟨ad0, cap0, rfl⟩ := hb
  refine enterT ty tyok Tryz.func77 rfl Tryz.ntmps77 [.v (.slice ad0 n cap0)] (by simp) (by simp) (plainL (by simp only [enumO]; exact (by repeat (first | exact plain_nil | refine plain_cons (fun _ h => h) ?_)))) ?_
  intro C w0 hP hQ hnt hty hmb hmh hro hG0 hb0; have hQp := qp_body hQ; refine st_ ?_
  generalize hrest : restB w0 _ G = Zr
  simp only [enumO, List.cons_append, List.nil_append]
  refine rn_ ?_; intros
  refine go_q (by rw [hnt]; rfl) (quiet_snil (by rw [hty]; rfl) rfl rfl) ?_
  refine go_rowcases 0 rfl ?_ ?_
  · intro e1 e2 e3
    subst e2 e3
    injection e1 with e1 _ e4
    subst e1 e4
    refine rn_ ?_; intros
    refine go_slot 4 (.b true) rfl rfl ?_
    refine rn_ ?_; intros
    refine x_retT rfl hQ hmh hb0 rfl (by first | (simp; done) | decide) rfl (by rw [hty]; simp only [so, sq, zy, zz, tyE, SO', SQ', opQ, opStore, opAlloc, ev, putS, dOk, cv, SV.cs, SV.one, SV.bool?, eqB, Value.oneCell', ldOwn, binInt, binConst, binBool, binStr, isC, TK.agg, rv, rv1, ldV, resOne, resV, Nat.reduceAdd, Nat.reduceMul, Nat.reduceSub, Nat.reduceLT, Nat.reduceLeDiff, Nat.reduceEqDiff, Nat.reduceBEq, reduceIte, reduceCtorEq, eq_self]; try rfl) rfl (by rw [hrest]; rfl) (by first | exact Le.refl _ | assumption) rfl (by simp only [enumO]; exact (by repeat (first | exact plain_nil | refine plain_cons (fun _ h => h) ?_))) ?_; simp only [SV.den, resV, dens]
    exact ⟨0, none, 0, rfl, by omega, rfl⟩
  · rintro g cap e1 hcap hlen
    injection e1 with e1 _ e4
    subst e1 e4
    refine rn_ ?_; intros
    refine go_slot 4 (.b false) rfl rfl ?_
    refine rn_ ?_; intros
    refine go_litrow 1000 (n := 0) (size := 4) rfl (by omega) rfl (by omega) ?_
    refine st_ ?_
    refine go_append_any 1000 (by rw [hnt]; rfl) (by rw [hty]; rfl) (by rw [hty]; rfl) (by decide) rfl rfl rfl (by omega) rfl (.inr (src_row (k := 0) rfl)) (by simp only []; omega) hone (by omega) (by simp only []; omega) ?_
    intro v'
    refine go_rowC 1000 rfl ?_
    intro ad5 cap5 e5 hcap5
    subst e5
    simp only [Nat.zero_add, List.nil_append]
    refine rn_ ?_; intros
    refine go_drop 1 ?_
    refine st_ ?_
    refine go_rekey 1000 1 rfl rfl (by rw [hmh]; omega) (by rw [hmh]; omega) ?_
    refine st_ ?_
    refine x_retT rfl hQ hmh hb0 rfl (by first | (simp; done) | decide) rfl (by rw [hty]; simp only [so, sq, zy, zz, tyE, SO', SQ', opQ, opStore, opAlloc, ev, putS, dOk, cv, SV.cs, SV.one, SV.bool?, eqB, Value.oneCell', ldOwn, binInt, binConst, binBool, binStr, isC, TK.agg, rv, rv1, ldV, resOne, resV, Nat.reduceAdd, Nat.reduceMul, Nat.reduceSub, Nat.reduceLT, Nat.reduceLeDiff, Nat.reduceEqDiff, Nat.reduceBEq, reduceIte, reduceCtorEq, eq_self]; try rfl) rfl (by rw [hrest]; rfl) (by first | exact Le.refl _ | assumption) rfl (by simp only [enumO]; exact (by repeat (first | exact plain_nil | refine plain_cons (fun _ h => h) ?_))) ?_; simp only [SV.den, resV, dens]
    exact ⟨_, _, _, rfl, by omega, rfl⟩
end Go.Proofs.YtpppkednpamhbaaGreat
namespace Go.Proofs.YtpppkednpamhbaaGreat
set_option linter.unusedSimpArgs false
set_option linter.unusedVariables false
open Go.Sx
set_option maxHeartbeats 16000000
set_option maxRecDepth 20000
theorem encF_app : ∀ a b : List Fw, encF (a ++ b) = encF b ++ encF a
  | [], b => by simp [encF]
  | x :: a, b => by simp only [List.cons_append, encF, encF_app a b, List.append_assoc]
theorem encF_mid (ra : List Fw) (x : Fw) (lo : List Fw) : encF (ra ++ x :: lo) = encF lo ++ (cellsF x ++ encF ra) := by
  rw [encF_app]
  simp only [encF, List.append_assoc]
theorem encF_ldm {x : Fw} {ra lo : List Fw} {j off : Nat} {u : Value} (ho : off = lo.length * 4 + j) (hu : (cellsF x)[j]? = some u) : ldV false (((encF (ra ++ x :: lo)).drop off).take 1) = u := by
  subst ho
  rw [encF_mid, ← List.drop_drop, ← encF_len lo, List.drop_left]
  match j, hu with
  | 0, hu => simpa [cellsF, ldV] using hu
  | 1, hu => simpa [cellsF, ldV] using hu
  | 2, hu => simpa [cellsF, ldV] using hu
  | 3, hu => simpa [cellsF, ldV] using hu
  | n + 4, hu => simp [cellsF] at hu
theorem encF_laym {x x' : Fw} {ra lo : List Fw} {j off : Nat} {us vs : List Value} (ho : off = lo.length * 4 + j) (hv : vs = us) (hu : lay (cellsF x) j us = some (cellsF x')) : lay (encF (ra ++ x :: lo)) off vs = some (encF (ra ++ x' :: lo)) := by
  subst ho hv
  rw [encF_mid, encF_mid]
  have := lay_app (lay_suf _ (encF ra) _ _ _ hu) (encF lo)
  rw [encF_len lo] at this
  exact this
theorem encF_one {G : Hp} : ∀ {l : List Fm} {rs : List Fw}, fsOk G l rs → ∀ u ∈ encF rs, u.oneCell' = true
  | [], rs, h, u, hu => by simp only [fsOk] at h; subst h; simp [encF] at hu
  | m :: l, rs, h, u, hu => by
    obtain ⟨x, r, rfl, h1, h2⟩ := h
    simp only [encF, List.mem_append] at hu
    rcases hu with hu | hu
    · exact encF_one h2 u hu
    · obtain ⟨_, _, hv⟩ := Rp.S_slice h1.vars
      obtain ⟨_, _, _, _, _, _, _, hd, _⟩ := h1.done
      simp only [cellsF, List.mem_cons, List.not_mem_nil, or_false] at hu
      rcases hu with rfl | rfl | rfl | rfl
      · rfl
      · rfl
      · rw [hv]; rfl
      · rw [hd]; rfl
theorem fsOk_mid {G : Hp} {m : Fm} {c : List Fm} {x : Fw} {rc : List Fw} : ∀ {a : List Fm} {ra : List Fw}, ra.length = a.length → fsOk G (a ++ m :: c) (ra ++ x :: rc) → frOk G m x
  | [], [], _, h => by
    obtain ⟨x', r, e, h1, h2⟩ := h
    injection e with e1 e2
    rw [e1]; exact h1
  | [], _ :: _, hl, _ => by simp at hl
  | _ :: _, [], hl, _ => by simp at hl
  | y :: a, z :: ra, hl, h => by
    obtain ⟨x', r, e, h1, h2⟩ := h
    injection e with e1 e2
    rw [← e2] at h2
    exact fsOk_mid (by simpa using hl) h2
theorem copyf_ok (b cb : Nat) (s : Fb) (ow : Lds) (G : Hp) (hfb : fbO G b cb s ow) :
    PureT Tryz.prog 44 [.pointer (some ⟨b, 0, none⟩)] G (ow ++ nilO) (fun v G' ow' => ∃ b' o1 o2, v = .pointer (some ⟨b', 0, none⟩) ∧ ow' = o1 ++ o2 ∧ fbO G' b cb s o1 ∧ fbO G' b' cb s o2) := by
  obtain ⟨vl, fs, b1, b2, b3, rs, Z, hvl, htv, hfs, hl256, hdn, rfl⟩ := hfb
  obtain ⟨vA, vC, rfl⟩ := VT.rep_slice hvl
  have hlen := hfs.len
  simp only [nilO, List.cons_append, List.nil_append]
  refine enterT ty tyok Tryz.func44 rfl Tryz.ntmps44 [.p 0 b 0] (by simp) (by simp) (plainL (by simp only [enumO]; exact (by repeat (first | exact plain_nil | refine plain_cons (fun _ h => h) ?_)))) ?_
  intro C w0 hP hQ hnt hty hmb hmh hro hG0 hb0; have hQp := qp_body hQ; refine st_ ?_
  generalize hrest : restB w0 _ G = Zr
  simp only [enumO, fhO, frO, fzO, fdO, rw0, List.cons_append, List.nil_append]
  refine go_rowC 1 rfl ?_
  intro ad cap e5 hcap
  subst e5
  refine rn_ ?_; intros
  refine go_callW [0] (by rw [hnt]; rfl) (by rw [hP]; kernel_rfl) rfl rfl rfl (.inl (by rw [hmh]; simp)) (by rw [hP]; exact miss_ok b cb s.st s.val.k s.val.n _ _ G) ?_
  rintro v5 G1 ow5 (hle1 : Le G G1) ⟨rfl, rfl⟩
  simp only [setO, stk, fhO]
  refine rn_ ?_; intros
  (refine x_split rfl rfl rfl (fun hc => absurd hc (by first | decide +kernel | (simp; first | done | fail))) (fun _ => ?_); refine st_ ?_; (refine ru_ ?_; intros))
  refine rn_ ?_; intros
  refine x_held [(0, b, .c 93 [.v (.pointer (some ⟨cb, 0, none⟩)), .v (.int .i64 s.st), .v (.int .i64 s.val.k), .v (.int .i64 s.val.n), .v (.slice vA s.val.l.length vC), .v (.slice ad rs.length cap)])] rfl (by rw [hP]; kernel_rfl) rfl rfl rfl ?_; refine st_ ?_
  refine tq_ 0 rfl (quiet_op (by rw [hty]; first | rfl | (refine st_ ?_; rfl))) ?_; refine st_ ?_
  refine tq_ 1 rfl (quiet_op (by rw [hty]; first | rfl | (refine st_ ?_; rfl))) ?_; refine st_ ?_
  refine tq_ 2 rfl (quiet_op (by rw [hty]; first | rfl | (refine st_ ?_; rfl))) ?_; refine st_ ?_
  refine tq_ 3 rfl (quiet_op (by rw [hty]; first | rfl | (refine st_ ?_; rfl))) ?_; refine st_ ?_
  refine tq_ 4 rfl (quiet_op (by rw [hty]; first | rfl | (refine st_ ?_; rfl))) ?_; refine st_ ?_
  refine tq_ 5 rfl (quiet_op (by rw [hty]; first | rfl | (refine st_ ?_; rfl))) ?_; refine st_ ?_
  refine tq_ 6 rfl (quiet_op (by rw [hty]; first | rfl | (refine st_ ?_; rfl))) ?_; refine st_ ?_
  refine tq_ 7 rfl (quiet_op (by rw [hty]; first | rfl | (refine st_ ?_; rfl))) ?_; refine st_ ?_
  refine tq_ 8 rfl (quiet_op (by rw [hty]; first | rfl | (refine st_ ?_; rfl))) ?_; refine st_ ?_
  refine tq_ 9 rfl (quiet_op (by rw [hty]; first | rfl | (refine st_ ?_; rfl))) ?_; refine st_ ?_
  refine tq_ 10 rfl (quiet_op (by rw [hty]; first | rfl | (refine st_ ?_; rfl))) ?_; refine st_ ?_
  refine tq_ 11 rfl (quiet_op (by rw [hty]; first | rfl | (refine st_ ?_; rfl))) ?_; refine st_ ?_
  refine tq_ 12 rfl (quiet_op (by rw [hty]; first | rfl | (refine st_ ?_; rfl))) ?_; refine st_ ?_
  refine tq_ 13 rfl (quiet_op (by rw [hty]; first | rfl | (refine st_ ?_; rfl))) ?_; refine st_ ?_
  refine tq_ 14 rfl (quiet_op (by rw [hty]; first | rfl | (refine st_ ?_; rfl))) ?_; refine st_ ?_
  refine tq_ 15 rfl (quiet_op (by rw [hty]; first | rfl | (refine st_ ?_; rfl))) ?_; refine st_ ?_
  refine h_one 16 rfl (by kernel_rfl) ?_
  refine go_drop 4 ?_
  refine st_ ?_
  refine go_nilrow 4 90 4 rfl (by rw [hmh]; omega) ?_
  refine st_ ?_
  refine go_callT [1, 4] (by rw [hnt]; rfl) (by rw [hP]; kernel_rfl) rfl rfl rfl (by rw [hmh]; simp) (by rw [hP]; exact cloneF_ok b1 rs.length _ _ G1 (encF_one hfs) (by omega) (encF_len rs) ⟨_, _, rfl⟩) ?_
  rintro v6 G2 ow6 (hle2 : Le G1 G2) ⟨b9, ad9, cap9, rfl, hcap9, rfl⟩
  simp only [setO, stk]
  refine rn_ ?_; intros
  refine hs_ ?_
  refine tq_ 17 rfl (quiet_op (by rw [hty]; first | rfl | (refine st_ ?_; rfl))) ?_; refine st_ ?_
  refine h_one 18 rfl (by kernel_rfl) ?_
  refine rn_ ?_; intros
  refine hs_ ?_
  refine h_one 19 rfl (by kernel_rfl) ?_
  refine rn_ ?_; intros
  refine hs_ ?_
  refine h_end (by kernel_rfl) ?_
  refine rn_ ?_; intros
  rename_i b8
  refine go_drop 5 ?_
  refine st_ ?_
  refine go_rekey 4 5 rfl rfl (by rw [hmh]; omega) (by rw [hmh]; omega) ?_
  refine go_rekey 1000 4 rfl rfl (by rw [hmh]; omega) (by rw [hmh]; omega) ?_
  refine go_drop 6 ?_
  refine st_ ?_
  refine go_znil 6 rfl (by rw [hmh]; omega) ?_
  intro Z6
  refine st_ ?_
  refine go_slot 3 (.p 4 b8 0) rfl rfl ?_
  refine go_keep [2, 3, 30, 31] [0, 1, 2, 3, 4, 5, 6, 7, 999] ?_
  refine st_ ?_
  have hle12 := hle1.trans hle2
  refine x_loop (n := rs.length) rfl (fun q s' => ∃ (i : Nat) (G3 : Hp) (rs' : List Fw) (zl : List Rw) (ZA ZB : Nat → Prop) (b7 : Nat), i ≤ rs.length ∧ q = rs.length - i ∧ Le G2 G3 ∧ rs'.length = rs.length ∧
    ((i < rs.length ∧ ∃ (a c : List Fm) (ra rc lo : List Fw), s.l = a ++ c ∧ rs = ra ++ rc ∧ ra.length = a.length ∧ lo.length = i ∧ rc.length = i ∧ rs' = ra ++ lo ∧ fsOk G3 c lo ∧ zl = lo.map (·.done)) ∨
      (i = rs.length ∧ fsOk G3 s.l rs' ∧ zl = (rs'.drop 1).map (·.done) ∧ ∀ m x, s.l.head? = some m → rs'.head? = some x → rW.S G3 m.done x.done.v)) ∧
    s' = ⟨[(2, .v (.pointer none)), (3, .p 4 b8 0), (30, .v (.int .i64 rs.length)), (31, .v (.int .i64 i))], [(0, b, .c 93 [.v (.pointer (some ⟨cb, 0, none⟩)), .v (.int .i64 s.st), .v (.int .i64 s.val.k), .v (.int .i64 s.val.n), .v (.slice vA s.val.l.length vC), .v (.slice ad rs.length cap)]), (1, b1, .row (.slice ad rs.length cap) 90 4 rs.length (encF rs)), (2, b2, .z (ZR ((rs.drop 1).map (·.done))) ZA ZA), (3, b3, .row (.slice none 0 0) 42 3 0 []),
      (4, b8, .c 93 [.v (.pointer (some ⟨cb, 0, none⟩)), .v (.int .i64 s.st), .v (.int .i64 s.val.k), .v (.int .i64 s.val.n), .v (.slice vA s.val.l.length vC), .v (.slice ad9 rs.length cap9)]), (5, b9, .row (.slice ad9 rs.length cap9) 90 4 rs.length (encF rs')), (6, 0, .z (ZR zl) ZB ZB), (7, b7, .row (.slice none 0 0) 42 3 0 []), (999, 0, .z (ZRest w0) Zr Zr)], G3, []⟩) ?_ ?_
  · refine ⟨0, G2, rs, [], Z, Z6, 0, by omega, rfl, Le.refl _, rfl, ?_, rfl⟩
    rcases Nat.eq_zero_or_pos rs.length with h0 | h0
    · have hr0 := List.eq_nil_of_length_eq_zero h0
      subst hr0
      exact .inr ⟨rfl, hfs.mono hle12, rfl, fun _ _ _ e => by simp at e⟩
    · exact .inl ⟨h0, s.l, [], rs, [], [], by simp, by simp, hlen, rfl, rfl, by simp, rfl, rfl⟩
  rintro q s' ⟨i, G3, rs', zl, ZA, ZB, b7, hi, hq, hle3, hrl, hinv, rfl⟩ ih
  have hle13 := hle12.trans hle3
  refine rn_ ?_; intros
  refine x_if rfl rfl rfl rfl (fun hil => ?_) (fun hil => ?_)
  · have hlt : i < rs.length := by simp at hil; omega
    rcases hinv with ⟨_, a, c, ra, rc, lo, hsa, hra, hral, hloi, hrci, rfl, hlo, rfl⟩ | ⟨h, _⟩
    rotate_left
    · omega
    subst hloi
    have hane : ra ≠ [] := by rintro rfl; simp at hra; rw [hra] at hlt; omega
    obtain ⟨ra', x, rfl⟩ : ∃ ra' x, ra = ra' ++ [x] := ⟨_, _, (List.dropLast_concat_getLast hane).symm⟩
    have hane2 : a ≠ [] := by rintro rfl; simp at hral
    obtain ⟨a', m, rfl⟩ : ∃ a' m, a = a' ++ [m] := ⟨_, _, (List.dropLast_concat_getLast hane2).symm⟩
    simp only [List.append_assoc, List.singleton_append, List.length_append, List.length_singleton, Nat.add_right_cancel_iff] at hsa hra hral hrl
    have hx : frOk G3 m x := by
      have := hfs.mono hle13
      rw [hsa, hra] at this
      exact fsOk_mid hral this
    obtain ⟨xfn, xnd, xvars, xe, xsz, xdv, xn, xxs⟩ := x
    obtain ⟨x1, x2, x3, x4, x5, x6, x7⟩ := hx
    obtain ⟨d1, d2, d3, d4, d5, adx, capx, d6, d7⟩ := x7
    simp only at x1 x2 x5 x6 d1 d2 d3 d4 d5 d6
    subst x1 x2 d1 d2 d3 d6
    refine go_rowcases 5 rfl (fun _ h _ => by omega) ?_
    rintro g9 cap9' e9 hcap9' hlen9
    injection e9 with e1 _ e3
    subst e1 e3
    simp only [List.append_assoc, List.singleton_append]
    have hrsl : rs.length = ra'.length + 1 + lo.length := by rw [hra]; simp; omega
    have hel : (encF (ra' ++ ⟨m.fn, m.nd, xvars, ⟨42, 3, .slice adx m.done.length capx, m.done.length, xxs⟩⟩ :: lo)).length = (ra'.length + 1 + lo.length) * 4 := by rw [encF_len]; simp; omega
    by_cases htop : ra' = []
    · have ha0 : a' = [] := List.eq_nil_of_length_eq_zero (by rw [← hral, htop]; rfl)
      have hsa' : s.l = m :: c := by rw [hsa, ha0]; rfl
      have hra1 : rs = ⟨m.fn, m.nd, xvars, ⟨42, 3, .slice adx m.done.length capx, m.done.length, xxs⟩⟩ :: rc := by rw [hra, htop]; rfl
      have hds := Rp.S_mono hle13 (hdn m _ (by rw [hsa']; rfl) (by rw [hra1]; rfl))
      have hl0 : ra'.length = 0 := by rw [htop]; rfl
      refine rn_ ?_; intros
      refine x_heldP [(4, b8, .c 93 [.v (.pointer (some ⟨cb, 0, none⟩)), .v (.int .i64 s.st), .v (.int .i64 s.val.k), .v (.int .i64 s.val.n), .v (.slice vA s.val.l.length vC), .v (.slice (some ⟨g9, 0, none⟩) rs.length cap9)]), (5, b9, .row (.slice (some ⟨g9, 0, none⟩) rs.length cap9) 90 4 rs.length (encF (ra' ++ ⟨m.fn, m.nd, xvars, ⟨42, 3, .slice adx m.done.length capx, m.done.length, xxs⟩⟩ :: lo)))] 16 rfl (by rw [hP]; kernel_rfl) rfl rfl rfl ?_; refine st_ ?_
      refine hu_take 0 rfl (by kernel_rfl) (by kernel_rfl) (by kernel_rfl) (by kernel_rfl) rfl (fun c a w v => hQp c a w _ v) (by rw [hnt]; rfl) (allIn (by repeat (first | exact trivial | refine ⟨rfl, ?_⟩))) (by first | exact Le.refl _ | assumption) (quiet_op (by rw [hty]; first | rfl | (refine st_ ?_; rfl))) ?_; refine st_ ?_
      refine hu_take 1 rfl (by kernel_rfl) (by kernel_rfl) (by kernel_rfl) (by kernel_rfl) rfl (fun c a w v => hQp c a w _ v) (by rw [hnt]; rfl) (allIn (by repeat (first | exact trivial | refine ⟨rfl, ?_⟩))) (by first | exact Le.refl _ | assumption) (quiet_op (by rw [hty]; first | rfl | (refine st_ ?_; rfl))) ?_; refine st_ ?_
      refine hu_take 2 rfl (by kernel_rfl) (by kernel_rfl) (by kernel_rfl) (by kernel_rfl) rfl (fun c a w v => hQp c a w _ v) (by rw [hnt]; rfl) (allIn (by repeat (first | exact trivial | refine ⟨rfl, ?_⟩))) (by first | exact Le.refl _ | assumption) (quiet_op (by rw [hty]; first | rfl | (refine st_ ?_; rfl))) ?_; refine st_ ?_
      refine hu_take 3 rfl (by kernel_rfl) (by kernel_rfl) (by kernel_rfl) (by kernel_rfl) rfl (fun c a w v => hQp c a w _ v) (by rw [hnt]; rfl) (allIn (by repeat (first | exact trivial | refine ⟨rfl, ?_⟩))) (by first | exact Le.refl _ | assumption) (quiet_op (by rw [hty]; first | rfl | (refine st_ ?_; rfl))) ?_; refine st_ ?_
      refine hu_take 4 rfl (by kernel_rfl) (by kernel_rfl) (by kernel_rfl) (by kernel_rfl) rfl (fun c a w v => hQp c a w _ v) (by rw [hnt]; rfl) (allIn (by repeat (first | exact trivial | refine ⟨rfl, ?_⟩))) (by first | exact Le.refl _ | assumption) (quiet_op (by rw [hty]; first | rfl | (refine st_ ?_; rfl))) ?_; refine st_ ?_
      refine hu_take 5 rfl (by kernel_rfl) (by kernel_rfl) (by kernel_rfl) (by kernel_rfl) rfl (fun c a w v => hQp c a w _ v) (by rw [hnt]; rfl) (allIn (by repeat (first | exact trivial | refine ⟨rfl, ?_⟩))) (by first | exact Le.refl _ | assumption) (quiet_op (by rw [hty]; first | rfl | (refine st_ ?_; rfl))) ?_; refine st_ ?_
      refine hu_take 6 rfl (by kernel_rfl) (by kernel_rfl) (by kernel_rfl) (by kernel_rfl) rfl (fun c a w v => hQp c a w _ v) (by rw [hnt]; rfl) (allIn (by repeat (first | exact trivial | refine ⟨rfl, ?_⟩))) (by first | exact Le.refl _ | assumption) (quiet_op (by rw [hty]; first | rfl | (refine st_ ?_; rfl))) ?_; refine st_ ?_
      refine hu_take 7 rfl (by kernel_rfl) (by kernel_rfl) (by kernel_rfl) (by kernel_rfl) rfl (fun c a w v => hQp c a w _ v) (by rw [hnt]; rfl) (allIn (by repeat (first | exact trivial | refine ⟨rfl, ?_⟩))) (by first | exact Le.refl _ | assumption) (quiet_op (by rw [hty]; first | rfl | (refine st_ ?_; rfl))) ?_; refine st_ ?_
      refine hu_take 8 rfl (by kernel_rfl) (by kernel_rfl) (by kernel_rfl) (by kernel_rfl) rfl (fun c a w v => hQp c a w _ v) (by rw [hnt]; rfl) (allIn (by repeat (first | exact trivial | refine ⟨rfl, ?_⟩))) (by first | exact Le.refl _ | assumption) (quiet_op (by rw [hty]; first | rfl | (refine st_ ?_; rfl))) ?_; refine st_ ?_
      refine hu_take 9 rfl (by kernel_rfl) (by kernel_rfl) (by kernel_rfl) (by kernel_rfl) rfl (fun c a w v => hQp c a w _ v) (by rw [hnt]; rfl) (allIn (by repeat (first | exact trivial | refine ⟨rfl, ?_⟩))) (by first | exact Le.refl _ | assumption) (quiet_op (by rw [hty]; first | rfl | (refine st_ ?_; rfl))) ?_; refine st_ ?_
      refine hu_take 10 rfl (by kernel_rfl) (by kernel_rfl) (by kernel_rfl) (by kernel_rfl) rfl (fun c a w v => hQp c a w _ v) (by rw [hnt]; rfl) (allIn (by repeat (first | exact trivial | refine ⟨rfl, ?_⟩))) (by first | exact Le.refl _ | assumption) (x := .v (.pointer (some ⟨g9, lo.length * 4, none⟩))) ((quiet_index (by rw [hty]; rfl) (by rw [hty]; rfl) rfl rfl rfl (by omega) (by omega)).cast (by simp [SV.den])) ?_
      refine st_ ?_
      refine hu_take 11 rfl (by kernel_rfl) (by kernel_rfl) (by kernel_rfl) (by kernel_rfl) rfl (fun c a w v => hQp c a w _ v) (by rw [hnt]; rfl) (allIn (by repeat (first | exact trivial | refine ⟨rfl, ?_⟩))) (by first | exact Le.refl _ | assumption) (quiet_op (by rw [hty]; first | rfl | (refine st_ ?_; rfl))) ?_; refine st_ ?_
      refine hu_take 12 rfl (by kernel_rfl) (by kernel_rfl) (by kernel_rfl) (by kernel_rfl) rfl (fun c a w v => hQp c a w _ v) (by rw [hnt]; rfl) (allIn (by repeat (first | exact trivial | refine ⟨rfl, ?_⟩))) (by first | exact Le.refl _ | assumption) (x := .v (.slice adx m.done.length capx)) ((quiet_loadR (k := 5) (by rw [hty]; rfl) rfl (by simp [TK.agg]) rfl (by simp only []; omega)).cast (by exact encF_ldm (j := 3) (by omega) rfl)) ?_
      refine st_ ?_
      refine hu_one 13 rfl (by kernel_rfl) ?_
      refine go_call (by rw [hnt]; rfl) (by rw [hP]; kernel_rfl) rfl (hP ▸ cloneG_ok m.done _ G3 hds d5) ?_
      rintro v3 G4 (hle4 : Le G3 G4) ⟨hS4, hc4⟩
      obtain ⟨ad4, cap4, rfl⟩ := Rp.S_slice hS4
      obtain ⟨cs4, hcs4, _⟩ := Rp.srcS hS4
      refine rn_ ?_; intros
      refine hs_ ?_
      refine hu_takeB 14 [14, 15, 16] rfl (by kernel_rfl) (by kernel_rfl) (by kernel_rfl) (by kernel_rfl) (fun c a w v => hQp c a w _ v) (by rw [hnt]; rfl) (allIn (by repeat (first | exact trivial | refine ⟨rfl, ?_⟩))) (by first | exact Le.refl _ | assumption) (x := .v (.pointer (some ⟨g9, lo.length * 4, none⟩))) ((quiet_index (by rw [hty]; rfl) (by rw [hty]; rfl) rfl rfl rfl (by omega) (by omega)).cast (by simp [SV.den])) ?_
      refine st_ ?_
      refine hu_take 15 rfl (by kernel_rfl) (by kernel_rfl) (by kernel_rfl) (by kernel_rfl) rfl (fun c a w v => hQp c a w _ v) (by rw [hnt]; rfl) (allIn (by repeat (first | exact trivial | refine ⟨rfl, ?_⟩))) (by first | exact Le.refl _ | assumption) (quiet_op (by rw [hty]; first | rfl | (refine st_ ?_; rfl))) ?_; refine st_ ?_
      refine hu_last 16 [] rfl (by kernel_rfl) rfl ?_
      refine go_storeR (k := 5) (xs' := encF (ra' ++ ⟨m.fn, m.nd, xvars, ⟨42, 3, .slice ad4 m.done.length cap4, m.done.length, cs4⟩⟩ :: lo)) (by rw [hnt]; rfl) (by rw [hty]; rfl) rfl rfl rfl rfl rfl rfl (encF_laym (j := 3) (us := [.slice ad4 m.done.length cap4]) (by omega) rfl rfl) ?_
      refine rn_ ?_; intros
      refine h_end (by kernel_rfl) ?_
      refine rn_ ?_; intros
      rw [wr (n := (lo.length : Int) + 1) (by omega) (by omega)]
      refine go_keep [2, 3, 30, 31] [0, 1, 2, 3, 4, 5, 6, 7, 999] ?_
      refine st_ ?_
      refine ih (rs.length - (lo.length + 1)) _ (by omega) ⟨lo.length + 1, G4, ra' ++ ⟨m.fn, m.nd, xvars, ⟨42, 3, .slice ad4 m.done.length cap4, m.done.length, cs4⟩⟩ :: lo, lo.map (·.done), ZA, ZB, b7, by omega, rfl, hle3.trans hle4, by simp; omega, .inr ⟨by omega, ?_, ?_, ?_⟩, rfl⟩
      · rw [hsa', htop]
        exact ⟨_, _, rfl, ⟨rfl, rfl, x3, x4, x5, Rp.S_mono hle4 x6, ⟨rfl, rfl, rfl, hcs4, d5, _, _, rfl, hc4 _ _ _ rfl⟩⟩, hlo.mono hle4⟩
      · rw [htop]; rfl
      · intro m' x' q1 q2
        rw [hsa'] at q1
        rw [htop] at q2
        cases q1
        cases q2
        exact hS4
    · obtain ⟨y, ra2, hgr⟩ : ∃ y ra2, ra' = y :: ra2 := List.exists_cons_of_ne_nil htop
      have hz : ((rs.drop 1).map (·.done)).Perm (⟨42, 3, .slice adx m.done.length capx, m.done.length, xxs⟩ :: (ra2.map (·.done) ++ rc.map (·.done))) := by
        rw [hra, hgr]
        simp
      refine go_zperm 2 rfl hz ?_
      refine st_ ?_
      refine go_zpop 2 3 rfl rfl (by decide) (.inl ⟨by rw [hmh]; omega, by rw [hmh]; omega⟩) ?_
      intro ZA2
      refine st_ ?_
      refine rn_ ?_; intros
      refine x_heldP [(4, b8, .c 93 [.v (.pointer (some ⟨cb, 0, none⟩)), .v (.int .i64 s.st), .v (.int .i64 s.val.k), .v (.int .i64 s.val.n), .v (.slice vA s.val.l.length vC), .v (.slice (some ⟨g9, 0, none⟩) rs.length cap9)]), (5, b9, .row (.slice (some ⟨g9, 0, none⟩) rs.length cap9) 90 4 rs.length (encF (ra' ++ ⟨m.fn, m.nd, xvars, ⟨42, 3, .slice adx m.done.length capx, m.done.length, xxs⟩⟩ :: lo)))] 16 rfl (by rw [hP]; kernel_rfl) rfl rfl rfl ?_; refine st_ ?_
      refine hu_take 0 rfl (by kernel_rfl) (by kernel_rfl) (by kernel_rfl) (by kernel_rfl) rfl (fun c a w v => hQp c a w _ v) (by rw [hnt]; rfl) (allIn (by repeat (first | exact trivial | refine ⟨rfl, ?_⟩))) (by first | exact Le.refl _ | assumption) (quiet_op (by rw [hty]; first | rfl | (refine st_ ?_; rfl))) ?_; refine st_ ?_
      refine hu_take 1 rfl (by kernel_rfl) (by kernel_rfl) (by kernel_rfl) (by kernel_rfl) rfl (fun c a w v => hQp c a w _ v) (by rw [hnt]; rfl) (allIn (by repeat (first | exact trivial | refine ⟨rfl, ?_⟩))) (by first | exact Le.refl _ | assumption) (quiet_op (by rw [hty]; first | rfl | (refine st_ ?_; rfl))) ?_; refine st_ ?_
      refine hu_take 2 rfl (by kernel_rfl) (by kernel_rfl) (by kernel_rfl) (by kernel_rfl) rfl (fun c a w v => hQp c a w _ v) (by rw [hnt]; rfl) (allIn (by repeat (first | exact trivial | refine ⟨rfl, ?_⟩))) (by first | exact Le.refl _ | assumption) (quiet_op (by rw [hty]; first | rfl | (refine st_ ?_; rfl))) ?_; refine st_ ?_
      refine hu_take 3 rfl (by kernel_rfl) (by kernel_rfl) (by kernel_rfl) (by kernel_rfl) rfl (fun c a w v => hQp c a w _ v) (by rw [hnt]; rfl) (allIn (by repeat (first | exact trivial | refine ⟨rfl, ?_⟩))) (by first | exact Le.refl _ | assumption) (quiet_op (by rw [hty]; first | rfl | (refine st_ ?_; rfl))) ?_; refine st_ ?_
      refine hu_take 4 rfl (by kernel_rfl) (by kernel_rfl) (by kernel_rfl) (by kernel_rfl) rfl (fun c a w v => hQp c a w _ v) (by rw [hnt]; rfl) (allIn (by repeat (first | exact trivial | refine ⟨rfl, ?_⟩))) (by first | exact Le.refl _ | assumption) (quiet_op (by rw [hty]; first | rfl | (refine st_ ?_; rfl))) ?_; refine st_ ?_
      refine hu_take 5 rfl (by kernel_rfl) (by kernel_rfl) (by kernel_rfl) (by kernel_rfl) rfl (fun c a w v => hQp c a w _ v) (by rw [hnt]; rfl) (allIn (by repeat (first | exact trivial | refine ⟨rfl, ?_⟩))) (by first | exact Le.refl _ | assumption) (quiet_op (by rw [hty]; first | rfl | (refine st_ ?_; rfl))) ?_; refine st_ ?_
      refine hu_take 6 rfl (by kernel_rfl) (by kernel_rfl) (by kernel_rfl) (by kernel_rfl) rfl (fun c a w v => hQp c a w _ v) (by rw [hnt]; rfl) (allIn (by repeat (first | exact trivial | refine ⟨rfl, ?_⟩))) (by first | exact Le.refl _ | assumption) (quiet_op (by rw [hty]; first | rfl | (refine st_ ?_; rfl))) ?_; refine st_ ?_
      refine hu_take 7 rfl (by kernel_rfl) (by kernel_rfl) (by kernel_rfl) (by kernel_rfl) rfl (fun c a w v => hQp c a w _ v) (by rw [hnt]; rfl) (allIn (by repeat (first | exact trivial | refine ⟨rfl, ?_⟩))) (by first | exact Le.refl _ | assumption) (quiet_op (by rw [hty]; first | rfl | (refine st_ ?_; rfl))) ?_; refine st_ ?_
      refine hu_take 8 rfl (by kernel_rfl) (by kernel_rfl) (by kernel_rfl) (by kernel_rfl) rfl (fun c a w v => hQp c a w _ v) (by rw [hnt]; rfl) (allIn (by repeat (first | exact trivial | refine ⟨rfl, ?_⟩))) (by first | exact Le.refl _ | assumption) (quiet_op (by rw [hty]; first | rfl | (refine st_ ?_; rfl))) ?_; refine st_ ?_
      refine hu_take 9 rfl (by kernel_rfl) (by kernel_rfl) (by kernel_rfl) (by kernel_rfl) rfl (fun c a w v => hQp c a w _ v) (by rw [hnt]; rfl) (allIn (by repeat (first | exact trivial | refine ⟨rfl, ?_⟩))) (by first | exact Le.refl _ | assumption) (quiet_op (by rw [hty]; first | rfl | (refine st_ ?_; rfl))) ?_; refine st_ ?_
      refine hu_take 10 rfl (by kernel_rfl) (by kernel_rfl) (by kernel_rfl) (by kernel_rfl) rfl (fun c a w v => hQp c a w _ v) (by rw [hnt]; rfl) (allIn (by repeat (first | exact trivial | refine ⟨rfl, ?_⟩))) (by first | exact Le.refl _ | assumption) (x := .v (.pointer (some ⟨g9, lo.length * 4, none⟩))) ((quiet_index (by rw [hty]; rfl) (by rw [hty]; rfl) rfl rfl rfl (by omega) (by omega)).cast (by simp [SV.den])) ?_
      refine st_ ?_
      refine hu_take 11 rfl (by kernel_rfl) (by kernel_rfl) (by kernel_rfl) (by kernel_rfl) rfl (fun c a w v => hQp c a w _ v) (by rw [hnt]; rfl) (allIn (by repeat (first | exact trivial | refine ⟨rfl, ?_⟩))) (by first | exact Le.refl _ | assumption) (quiet_op (by rw [hty]; first | rfl | (refine st_ ?_; rfl))) ?_; refine st_ ?_
      refine hu_take 12 rfl (by kernel_rfl) (by kernel_rfl) (by kernel_rfl) (by kernel_rfl) rfl (fun c a w v => hQp c a w _ v) (by rw [hnt]; rfl) (allIn (by repeat (first | exact trivial | refine ⟨rfl, ?_⟩))) (by first | exact Le.refl _ | assumption) (x := .v (.slice adx m.done.length capx)) ((quiet_loadR (k := 5) (by rw [hty]; rfl) rfl (by simp [TK.agg]) rfl (by simp only []; omega)).cast (by exact encF_ldm (j := 3) (by omega) rfl)) ?_
      refine st_ ?_
      refine hu_one 13 rfl (by kernel_rfl) ?_
      refine go_callT [3, 7] (by rw [hnt]; rfl) (by rw [hP]; kernel_rfl) rfl rfl rfl (by rw [hmh]; simp) (by rw [hP]; exact cloneV_ok b3 b7 m.done.length _ xxs G3 (Rp.L_one d4) d5 (Rp.L_len d4) ⟨_, _, rfl⟩) ?_
      rintro v6 G4 ow6 (hle4 : Le G3 G4) ⟨b10, ad4, cap4, rfl, hcap4, rfl⟩
      simp only [setO, stk]
      refine rn_ ?_; intros
      refine hs_ ?_
      refine hu_takeB 14 [14, 15, 16] rfl (by kernel_rfl) (by kernel_rfl) (by kernel_rfl) (by kernel_rfl) (fun c a w v => hQp c a w _ v) (by rw [hnt]; rfl) (allIn (by repeat (first | exact trivial | refine ⟨rfl, ?_⟩))) (by first | exact Le.refl _ | assumption) (x := .v (.pointer (some ⟨g9, lo.length * 4, none⟩))) ((quiet_index (by rw [hty]; rfl) (by rw [hty]; rfl) rfl rfl rfl (by omega) (by omega)).cast (by simp [SV.den])) ?_
      refine st_ ?_
      refine hu_take 15 rfl (by kernel_rfl) (by kernel_rfl) (by kernel_rfl) (by kernel_rfl) rfl (fun c a w v => hQp c a w _ v) (by rw [hnt]; rfl) (allIn (by repeat (first | exact trivial | refine ⟨rfl, ?_⟩))) (by first | exact Le.refl _ | assumption) (quiet_op (by rw [hty]; first | rfl | (refine st_ ?_; rfl))) ?_; refine st_ ?_
      refine hu_last 16 [] rfl (by kernel_rfl) rfl ?_
      refine go_storeR (k := 5) (xs' := encF (ra' ++ ⟨m.fn, m.nd, xvars, ⟨42, 3, .slice ad4 m.done.length cap4, m.done.length, xxs⟩⟩ :: lo)) (by rw [hnt]; rfl) (by rw [hty]; rfl) rfl rfl rfl rfl rfl rfl (encF_laym (j := 3) (us := [.slice ad4 m.done.length cap4]) (by omega) rfl rfl) ?_
      refine rn_ ?_; intros
      refine h_end (by kernel_rfl) ?_
      refine go_zpush 2 3 rfl rfl (by decide) (.inl ⟨by rw [hmh]; omega, by rw [hmh]; omega⟩) ?_
      intro ZA3
      refine st_ ?_
      refine go_zperm 2 rfl hz.symm ?_
      refine st_ ?_
      refine go_zpush 6 7 rfl rfl (by decide) (.inl ⟨by rw [hmh]; omega, by rw [hmh]; omega⟩) ?_
      intro ZB3
      refine st_ ?_
      refine rn_ ?_; intros
      rw [wr (n := (lo.length : Int) + 1) (by omega) (by omega)]
      refine go_keep [2, 3, 30, 31] [0, 1, 2, 3, 4, 5, 6, 7, 999] ?_
      refine st_ ?_
      have hl0 : 1 ≤ ra'.length := by rw [hgr]; simp
      exact ih (rs.length - (lo.length + 1)) _ (by omega) ⟨lo.length + 1, G4, ra' ++ ⟨m.fn, m.nd, xvars, ⟨42, 3, .slice ad4 m.done.length cap4, m.done.length, xxs⟩⟩ :: lo, _, ZA3, ZB3, _, by omega, rfl, hle3.trans hle4, by simp; omega, .inl ⟨by omega, a', m :: c, ra', _, ⟨m.fn, m.nd, xvars, ⟨42, 3, .slice ad4 m.done.length cap4, m.done.length, xxs⟩⟩ :: lo, hsa, hra, hral, by simp, by simp; omega, rfl,
        ⟨_, _, rfl, ⟨rfl, rfl, x3, x4, x5, Rp.S_mono hle4 x6, ⟨rfl, rfl, rfl, Rp.L_mono hle4 d4, d5, _, _, rfl, hcap4⟩⟩, hlo.mono hle4⟩, rfl⟩, rfl⟩
  · have hie : i = rs.length := by simp at hil; omega
    rcases hinv with ⟨h, _⟩ | ⟨_, hfs', rfl, hdn'⟩
    · omega
    refine rn_ ?_; intros
    have hleA := hle13
    refine x_retT rfl hQ hmh hb0 rfl (by first | (simp; done) | decide) rfl (by rw [hty]; simp only [so, sq, zy, zz, tyE, SO', SQ', opQ, opStore, opAlloc, ev, putS, dOk, cv, SV.cs, SV.one, SV.bool?, eqB, Value.oneCell', ldOwn, binInt, binConst, binBool, binStr, isC, TK.agg, rv, rv1, ldV, resOne, resV, Nat.reduceAdd, Nat.reduceMul, Nat.reduceSub, Nat.reduceLT, Nat.reduceLeDiff, Nat.reduceEqDiff, Nat.reduceBEq, reduceIte, reduceCtorEq, eq_self]; try rfl) rfl (by rw [hrest]; rfl) (by first | exact Le.refl _ | assumption) rfl (by simp only [enumO]; exact (by repeat (first | exact plain_nil | refine plain_cons (fun _ h => h) ?_))) ?_; simp only [SV.den, resV, dens]
    refine ⟨b8, [fhO b cb s.st s.val.k s.val.n (.slice vA s.val.l.length vC) (.slice ad rs.length cap), frO b1 (.slice ad rs.length cap) rs, fzO b2 (rs.drop 1) ZA, fdO b3 rw0], [fhO b8 cb s.st s.val.k s.val.n (.slice vA s.val.l.length vC) (.slice ad9 rs.length cap9), frO b9 (.slice ad9 rs.length cap9) rs', fzO 0 (rs'.drop 1) ZB, fdO b7 rw0], rfl, ?_, ?_, ?_⟩
    · simp only [fhO, frO, fzO, fdO, rw0, List.cons_append, List.nil_append, hrl]
    · exact ⟨_, _, _, _, _, rs, ZA, VT.rep_mono hle13 hvl, htv, hfs.mono hle13, hl256, fun m x q1 q2 => Rp.S_mono hle13 (hdn m x q1 q2), rfl⟩
    · exact ⟨_, _, _, _, _, rs', ZB, VT.rep_mono hle13 hvl, htv, hfs', hl256, hdn', rfl⟩
end Go.Proofs.YtpppkednpamhbaaGreat
namespace Go.Sx
set_option linter.unusedSimpArgs false
set_option linter.unusedVariables false
open Go.RowKit
theorem Rp.src2 {α : Type} {r : Rp α} {G : Hp} {l : List α} {v : Value} (h : r.S G l v) : ∃ xs, r.L G l xs ∧ ((∃ c, v = .slice none 0 c ∧ l.length = 0 ∧ xs = []) ∨ ∃ a c, v = .slice (some a) l.length c ∧ ∀ (C : Ctx) (s : St), s.G = G → Src C s (.v v) l.length xs) := by
  obtain ⟨_, ad, cap, rfl, h⟩ := h
  rcases h with rfl | ⟨b, off, cs, rfl, ha, hr⟩
  · refine ⟨[], rfl, ?_⟩
    cases ad with
    | none => exact .inl ⟨cap, rfl, rfl, rfl⟩
    | some a => exact .inr ⟨a, cap, rfl, fun C s _ => src_empty rfl⟩
  · exact ⟨cs, hr, .inr ⟨_, cap, rfl, fun C s hs => src_at (by rw [hs]; exact ha)⟩⟩
end Go.Sx
namespace Go.Proofs.YtpppkednpamhbaaGreat
open Go.Sx
set_option maxHeartbeats 16000000
set_option maxRecDepth 20000
theorem cloneVS_ok (b2 n : Nat) (v : Value) (xs : List Value) (G : Hp) (hone : ∀ u ∈ xs, u.oneCell' = true) (hn : n ≤ 1000) (hxl : xs.length = n * 3) (hb : (∃ c, v = .slice none 0 c ∧ n = 0 ∧ xs = []) ∨ ∃ a c, v = .slice (some a) n c ∧ ∀ (C : Ctx) (s : St), s.G = G → Src C s (.v v) n xs) :
    PureT Tryz.prog 78 [v] G [(b2, .row (.slice none 0 0) 42 3 0 [])] (fun w _ ow => ∃ b1 ad cap, w = .slice ad n cap ∧ n ≤ cap ∧ ow = [(b1, .row w 42 3 n xs)]) := by
  obtain ⟨ad0, n0, cap0, rfl⟩ : ∃ ad m c, v = .slice ad m c := by rcases hb with ⟨c, rfl, _⟩ | ⟨a, c, rfl, _⟩ <;> exact ⟨_, _, _, rfl⟩
  refine enterT ty tyok Tryz.func78 rfl Tryz.ntmps78 [.v (.slice ad0 n0 cap0)] (by simp) (by simp) (plainL (by simp only [enumO]; exact (by repeat (first | exact plain_nil | refine plain_cons (fun _ h => h) ?_)))) ?_
  intro C w0 hP hQ hnt hty hmb hmh hro hG0 hb0; have hQp := qp_body hQ; refine st_ ?_
  generalize hrest : restB w0 _ G = Zr
  simp only [enumO, List.cons_append, List.nil_append]
  refine rn_ ?_; intros
  refine go_q (by rw [hnt]; rfl) (quiet_snil (by rw [hty]; rfl) rfl rfl) ?_
  rcases hb with ⟨c, e1, rfl, rfl⟩ | ⟨a, c, e1, hsrc⟩
  · injection e1 with e1 e2 e3
    subst e1 e2 e3
    refine rn_ ?_; intros
    refine go_slot 4 (.b true) rfl rfl ?_
    refine rn_ ?_; intros
    refine x_retT rfl hQ hmh hb0 rfl (by first | (simp; done) | decide) rfl (by rw [hty]; simp only [so, sq, zy, zz, tyE, SO', SQ', opQ, opStore, opAlloc, ev, putS, dOk, cv, SV.cs, SV.one, SV.bool?, eqB, Value.oneCell', ldOwn, binInt, binConst, binBool, binStr, isC, TK.agg, rv, rv1, ldV, resOne, resV, Nat.reduceAdd, Nat.reduceMul, Nat.reduceSub, Nat.reduceLT, Nat.reduceLeDiff, Nat.reduceEqDiff, Nat.reduceBEq, reduceIte, reduceCtorEq, eq_self]; try rfl) rfl (by rw [hrest]; rfl) (by first | exact Le.refl _ | assumption) rfl (by simp only [enumO]; exact (by repeat (first | exact plain_nil | refine plain_cons (fun _ h => h) ?_))) ?_; simp only [SV.den, resV, dens]
    exact ⟨b2, none, 0, rfl, by omega, rfl⟩
  · injection e1 with e1 e2 e3
    subst e1 e2 e3
    refine rn_ ?_; intros
    refine go_slot 4 (.b false) rfl rfl ?_
    refine rn_ ?_; intros
    refine go_litrow 1000 (n := 0) (size := 3) rfl (by omega) rfl (by omega) ?_
    refine st_ ?_
    refine go_append_any 1000 (by rw [hnt]; rfl) (by rw [hty]; rfl) (by rw [hty]; rfl) (by decide) rfl rfl rfl (by omega) rfl (.inr (hsrc _ _ rfl)) (by simp only []; omega) hone (by omega) (by simp only []; omega) ?_
    intro v'
    refine go_rowC 1000 rfl ?_
    intro ad5 cap5 e5 hcap5
    subst e5
    simp only [Nat.zero_add, List.nil_append]
    refine rn_ ?_; intros
    refine go_drop 0 ?_
    refine st_ ?_
    refine go_rekey 1000 0 rfl rfl (by rw [hmh]; omega) (by rw [hmh]; omega) ?_
    refine st_ ?_
    refine x_retT rfl hQ hmh hb0 rfl (by first | (simp; done) | decide) rfl (by rw [hty]; simp only [so, sq, zy, zz, tyE, SO', SQ', opQ, opStore, opAlloc, ev, putS, dOk, cv, SV.cs, SV.one, SV.bool?, eqB, Value.oneCell', ldOwn, binInt, binConst, binBool, binStr, isC, TK.agg, rv, rv1, ldV, resOne, resV, Nat.reduceAdd, Nat.reduceMul, Nat.reduceSub, Nat.reduceLT, Nat.reduceLeDiff, Nat.reduceEqDiff, Nat.reduceBEq, reduceIte, reduceCtorEq, eq_self]; try rfl) rfl (by rw [hrest]; rfl) (by first | exact Le.refl _ | assumption) rfl (by simp only [enumO]; exact (by repeat (first | exact plain_nil | refine plain_cons (fun _ h => h) ?_))) ?_; simp only [SV.den, resV, dens]
    exact ⟨_, _, _, rfl, by omega, rfl⟩
theorem cloneFS_ok (b2 n : Nat) (v : Value) (xs : List Value) (G : Hp) (hone : ∀ u ∈ xs, u.oneCell' = true) (hn : n ≤ 1000) (hxl : xs.length = n * 4) (hb : (∃ c, v = .slice none 0 c ∧ n = 0 ∧ xs = []) ∨ ∃ a c, v = .slice (some a) n c ∧ ∀ (C : Ctx) (s : St), s.G = G → Src C s (.v v) n xs) :
    PureT Tryz.prog 77 [v] G [(b2, .row (.slice none 0 0) 90 4 0 [])] (fun w _ ow => ∃ b1 ad cap, w = .slice ad n cap ∧ n ≤ cap ∧ ow = [(b1, .row w 90 4 n xs)]) := by
  obtain ⟨ad0, n0, cap0, rfl⟩ : ∃ ad m c, v = .slice ad m c := by rcases hb with ⟨c, rfl, _⟩ | ⟨a, c, rfl, _⟩ <;> exact ⟨_, _, _, rfl⟩
  refine enterT ty tyok Tryz.func77 rfl Tryz.ntmps77 [.v (.slice ad0 n0 cap0)] (by simp) (by simp) (plainL (by simp only [enumO]; exact (by repeat (first | exact plain_nil | refine plain_cons (fun _ h => h) ?_)))) ?_
  intro C w0 hP hQ hnt hty hmb hmh hro hG0 hb0; have hQp := qp_body hQ; refine st_ ?_
  generalize hrest : restB w0 _ G = Zr
  simp only [enumO, List.cons_append, List.nil_append]
  refine rn_ ?_; intros
  refine go_q (by rw [hnt]; rfl) (quiet_snil (by rw [hty]; rfl) rfl rfl) ?_
  rcases hb with ⟨c, e1, rfl, rfl⟩ | ⟨a, c, e1, hsrc⟩
  · injection e1 with e1 e2 e3
    subst e1 e2 e3
    refine rn_ ?_; intros
    refine go_slot 4 (.b true) rfl rfl ?_
    refine rn_ ?_; intros
    refine x_retT rfl hQ hmh hb0 rfl (by first | (simp; done) | decide) rfl (by rw [hty]; simp only [so, sq, zy, zz, tyE, SO', SQ', opQ, opStore, opAlloc, ev, putS, dOk, cv, SV.cs, SV.one, SV.bool?, eqB, Value.oneCell', ldOwn, binInt, binConst, binBool, binStr, isC, TK.agg, rv, rv1, ldV, resOne, resV, Nat.reduceAdd, Nat.reduceMul, Nat.reduceSub, Nat.reduceLT, Nat.reduceLeDiff, Nat.reduceEqDiff, Nat.reduceBEq, reduceIte, reduceCtorEq, eq_self]; try rfl) rfl (by rw [hrest]; rfl) (by first | exact Le.refl _ | assumption) rfl (by simp only [enumO]; exact (by repeat (first | exact plain_nil | refine plain_cons (fun _ h => h) ?_))) ?_; simp only [SV.den, resV, dens]
    exact ⟨b2, none, 0, rfl, by omega, rfl⟩
  · injection e1 with e1 e2 e3
    subst e1 e2 e3
    refine rn_ ?_; intros
    refine go_slot 4 (.b false) rfl rfl ?_
    refine rn_ ?_; intros
    refine go_litrow 1000 (n := 0) (size := 4) rfl (by omega) rfl (by omega) ?_
    refine st_ ?_
    refine go_append_any 1000 (by rw [hnt]; rfl) (by rw [hty]; rfl) (by rw [hty]; rfl) (by decide) rfl rfl rfl (by omega) rfl (.inr (hsrc _ _ rfl)) (by simp only []; omega) hone (by omega) (by simp only []; omega) ?_
    intro v'
    refine go_rowC 1000 rfl ?_
    intro ad5 cap5 e5 hcap5
    subst e5
    simp only [Nat.zero_add, List.nil_append]
    refine rn_ ?_; intros
    refine go_drop 0 ?_
    refine st_ ?_
    refine go_rekey 1000 0 rfl rfl (by rw [hmh]; omega) (by rw [hmh]; omega) ?_
    refine st_ ?_
    refine x_retT rfl hQ hmh hb0 rfl (by first | (simp; done) | decide) rfl (by rw [hty]; simp only [so, sq, zy, zz, tyE, SO', SQ', opQ, opStore, opAlloc, ev, putS, dOk, cv, SV.cs, SV.one, SV.bool?, eqB, Value.oneCell', ldOwn, binInt, binConst, binBool, binStr, isC, TK.agg, rv, rv1, ldV, resOne, resV, Nat.reduceAdd, Nat.reduceMul, Nat.reduceSub, Nat.reduceLT, Nat.reduceLeDiff, Nat.reduceEqDiff, Nat.reduceBEq, reduceIte, reduceCtorEq, eq_self]; try rfl) rfl (by rw [hrest]; rfl) (by first | exact Le.refl _ | assumption) rfl (by simp only [enumO]; exact (by repeat (first | exact plain_nil | refine plain_cons (fun _ h => h) ?_))) ?_; simp only [SV.den, resV, dens]
    exact ⟨_, _, _, rfl, by omega, rfl⟩
def fsD (G : Hp) : List Fm → List Fw → Prop
  | [], rs => rs = []
  | m :: l, rs => ∃ x r, rs = x :: r ∧ rW.S G m.done x.done.v ∧ fsD G l r
theorem fsD.mono {G G' : Hp} (hl : Le G G') : ∀ {l : List Fm} {rs : List Fw}, fsD G l rs → fsD G' l rs
  | [], rs, h => h
  | m :: l, rs, ⟨x, r, h1, h2, h3⟩ => ⟨x, r, h1, Rp.S_mono hl h2, h3.mono hl⟩
theorem fsD_mid {G : Hp} {m : Fm} {c : List Fm} {x : Fw} {rc : List Fw} : ∀ {a : List Fm} {ra : List Fw}, ra.length = a.length → fsD G (a ++ m :: c) (ra ++ x :: rc) → rW.S G m.done x.done.v
  | [], [], _, h => by
    obtain ⟨x', r, e, h1, h2⟩ := h
    injection e with e1 e2
    rw [e1]; exact h1
  | [], _ :: _, hl, _ => by simp at hl
  | _ :: _, [], hl, _ => by simp at hl
  | y :: a, z :: ra, hl, h => by
    obtain ⟨x', r, e, h1, h2⟩ := h
    injection e with e1 e2
    rw [← e2] at h2
    exact fsD_mid (by simpa using hl) h2
def fzG (G : Hp) (b cb : Nat) (s : Fb) : Prop := ∃ vl ad cap rs, At G b 0 [.pointer (some ⟨cb, 0, none⟩), .int .i64 s.st, .int .i64 s.val.k, .int .i64 s.val.n, vl, .slice ad rs.length cap] ∧ s.val.rep G vl ∧ tsz s.val ≤ 1000 ∧ fsOk G s.l rs ∧ fsD G s.l rs ∧ s.l.length ≤ 256 ∧ (rs = [] ∨ ∃ g, ad = some ⟨g, 0, none⟩ ∧ At G g 0 (encF rs))
theorem fzG.mono {G G' : Hp} {b cb : Nat} {s : Fb} (h : fzG G b cb s) (hl : Le G G') : fzG G' b cb s := by
  obtain ⟨vl, ad, cap, rs, h1, h2, h3, h4, h5, h6, h7⟩ := h
  exact ⟨vl, ad, cap, rs, h1.mono hl, VT.rep_mono hl h2, h3, h4.mono hl, h5.mono hl, h6, h7.imp id fun ⟨g, q1, q2⟩ => ⟨g, q1, q2.mono hl⟩⟩
theorem missG_ok (b cb : Nat) (cs : List Value) (G : Hp) (h : At G b 0 (.pointer (some ⟨cb, 0, none⟩) :: cs)) :
    Pure Tryz.prog 50 [.pointer (some ⟨b, 0, none⟩)] G (fun v _ => v = .bool false) := by
  have h0 : At G b 0 [.pointer (some ⟨cb, 0, none⟩)] := by simpa using h.sub 0 1 (by simp)
  refine enterX ty tyok Tryz.func50 rfl Tryz.ntmps50 [.v (.pointer (some ⟨b, 0, none⟩))] (by simp) ?_
  intro C hP hQ hnt hty hmb hmh hro; have hQp := qp_body hQ; refine st_ ?_
  refine rn_ ?_; intros
  refine go_q (v := .bool false) (by rw [hnt]; rfl) ((quiet_pnil (by rw [hty]; rfl) rfl rfl).cast (by rfl)) ?_
  refine rn_ ?_; intros
  refine go_slot 5 (.b false) rfl rfl ?_
  refine rn_ ?_; intros
  refine go_q (by rw [hnt]; rfl) (quiet_load (by rw [hty]; rfl) rfl (by simp [TK.agg]) h0 rfl) ?_; refine rn_ ?_; intros
  refine go_q (v := .bool false) (by rw [hnt]; rfl) ((quiet_pnil (by rw [hty]; rfl) rfl rfl).cast (by rfl)) ?_
  refine rn_ ?_; intros
  refine xc_ hQ hmb ?_; simp only [SV.den, resV, dens]
  try rfl
theorem copyG_ok (b cb : Nat) (s : Fb) (G : Hp) (hz : fzG G b cb s) :
    PureT Tryz.prog 44 [.pointer (some ⟨b, 0, none⟩)] G nilO (fun v G' ow' => ∃ b', v = .pointer (some ⟨b', 0, none⟩) ∧ fbO G' b' cb s ow') := by
  obtain ⟨vl, ad, cap, rs, hat, hvl, htv, hfs, hfd, hl256, hrs⟩ := hz
  obtain ⟨vA, vC, rfl⟩ := VT.rep_slice hvl
  have hlen := hfs.len
  have hmiss := missG_ok b cb _ G hat
  have hat0 : At G b 0 [.pointer (some ⟨cb, 0, none⟩)] := by simpa using hat.sub 0 1 (by simp)
  have hat1 : At G b 1 [.int .i64 s.st] := by simpa using hat.sub 1 1 (by simp)
  have hat2 : At G b 2 [.int .i64 s.val.k, .int .i64 s.val.n, .slice vA s.val.l.length vC] := by simpa using hat.sub 2 3 (by simp)
  have hat5 : At G b 5 [.slice ad rs.length cap] := by simpa using hat.sub 5 1 (by simp)
  have hsr : (∃ c, Value.slice ad rs.length cap = .slice none 0 c ∧ rs.length = 0 ∧ encF rs = []) ∨ ∃ a c, Value.slice ad rs.length cap = .slice (some a) rs.length c ∧ ∀ (C : Ctx) (s : St), s.G = G → Src C s (.v (.slice ad rs.length cap)) rs.length (encF rs) := by
    rcases hrs with rfl | ⟨g, rfl, hg⟩
    · cases ad with
      | none => exact .inl ⟨cap, rfl, rfl, rfl⟩
      | some a => exact .inr ⟨a, cap, rfl, fun C s _ => src_empty rfl⟩
    · exact .inr ⟨_, cap, rfl, fun C s hs => src_at (by rw [hs]; exact hg)⟩
  simp only [nilO]
  refine enterT ty tyok Tryz.func44 rfl Tryz.ntmps44 [.v (.pointer (some ⟨b, 0, none⟩))] (by simp) (by simp) (plainL (by simp only [enumO]; exact (by repeat (first | exact plain_nil | refine plain_cons (fun _ h => h) ?_)))) ?_
  intro C w0 hP hQ hnt hty hmb hmh hro hG0 hb0; have hQp := qp_body hQ; refine st_ ?_
  generalize hrest : restB w0 _ G = Zr
  simp only [enumO, rw0, List.cons_append, List.nil_append]
  refine rn_ ?_; intros
  refine go_callf (by rw [hnt]; rfl) (by rw [hP]; kernel_rfl) rfl (hP ▸ hmiss) ?_; refine rn_ ?_; intros
  (refine x_split rfl rfl rfl (fun hc => absurd hc (by first | decide +kernel | (simp; first | done | fail))) (fun _ => ?_); refine st_ ?_; (refine ru_ ?_; intros))
  refine rn_ ?_; intros
  refine x_held [] rfl (by rw [hP]; kernel_rfl) rfl rfl rfl ?_
  refine st_ ?_
  refine tq_ 0 rfl (quiet_op (by rw [hty]; first | rfl | (refine st_ ?_; rfl))) ?_; refine st_ ?_
  refine tq_ 1 rfl (quiet_op (by rw [hty]; first | rfl | (refine st_ ?_; rfl))) ?_; refine st_ ?_
  refine tq_ 2 rfl (quiet_op (by rw [hty]; first | rfl | (refine st_ ?_; rfl))) ?_; refine st_ ?_
  refine tq_ 3 rfl (x := .v (.pointer (some ⟨cb, 0, none⟩))) ((quiet_load (by rw [hty]; rfl) rfl (by simp [TK.agg]) hat0 rfl).cast (by rfl)) ?_
  refine st_ ?_
  refine tq_ 4 rfl (quiet_op (by rw [hty]; first | rfl | (refine st_ ?_; rfl))) ?_; refine st_ ?_
  refine tq_ 5 rfl (quiet_op (by rw [hty]; first | rfl | (refine st_ ?_; rfl))) ?_; refine st_ ?_
  refine tq_ 6 rfl (quiet_op (by rw [hty]; first | rfl | (refine st_ ?_; rfl))) ?_; refine st_ ?_
  refine tq_ 7 rfl (x := .v (.int .i64 s.st)) ((quiet_load (by rw [hty]; rfl) rfl (by simp [TK.agg]) hat1 rfl).cast (by rfl)) ?_
  refine st_ ?_
  refine tq_ 8 rfl (quiet_op (by rw [hty]; first | rfl | (refine st_ ?_; rfl))) ?_; refine st_ ?_
  refine tq_ 9 rfl (quiet_op (by rw [hty]; first | rfl | (refine st_ ?_; rfl))) ?_; refine st_ ?_
  refine tq_ 10 rfl (quiet_op (by rw [hty]; first | rfl | (refine st_ ?_; rfl))) ?_; refine st_ ?_
  refine tq_ 11 rfl (x := .a [.v (.int .i64 s.val.k), .v (.int .i64 s.val.n), .v (.slice vA s.val.l.length vC)]) ((quiet_load (by rw [hty]; rfl) rfl (by simp [TK.agg]) hat2 rfl).cast (by rfl)) ?_
  refine st_ ?_
  refine tq_ 12 rfl (quiet_op (by rw [hty]; first | rfl | (refine st_ ?_; rfl))) ?_; refine st_ ?_
  refine tq_ 13 rfl (quiet_op (by rw [hty]; first | rfl | (refine st_ ?_; rfl))) ?_; refine st_ ?_
  refine tq_ 14 rfl (quiet_op (by rw [hty]; first | rfl | (refine st_ ?_; rfl))) ?_; refine st_ ?_
  refine tq_ 15 rfl (x := .v (.slice ad rs.length cap)) ((quiet_load (by rw [hty]; rfl) rfl (by simp [TK.agg]) hat5 rfl).cast (by rfl)) ?_
  refine st_ ?_
  refine h_one 16 rfl (by kernel_rfl) ?_
  refine go_drop 1 ?_
  refine st_ ?_
  refine go_nilrow 1 90 4 rfl (by rw [hmh]; omega) ?_
  refine st_ ?_
  refine go_callT [1] (by rw [hnt]; rfl) (by rw [hP]; kernel_rfl) rfl rfl rfl (by rw [hmh]; simp) (by rw [hP]; exact cloneFS_ok 0 rs.length _ _ G (encF_one hfs) (by omega) (encF_len rs) hsr) ?_
  rintro v6 G2 ow6 (hle2 : Le G G2) ⟨b9, ad9, cap9, rfl, hcap9, rfl⟩
  simp only [setO, stk]
  refine rn_ ?_; intros
  refine hs_ ?_
  refine tq_ 17 rfl (quiet_op (by rw [hty]; first | rfl | (refine st_ ?_; rfl))) ?_; refine st_ ?_
  refine h_one 18 rfl (by kernel_rfl) ?_
  refine rn_ ?_; intros
  refine hs_ ?_
  refine h_one 19 rfl (by kernel_rfl) ?_
  refine rn_ ?_; intros
  refine hs_ ?_
  refine h_end (by kernel_rfl) ?_
  refine rn_ ?_; intros
  rename_i b8
  refine go_drop 0 ?_
  refine st_ ?_
  refine go_rekey 1000 0 rfl rfl (by rw [hmh]; omega) (by rw [hmh]; omega) ?_
  refine go_drop 2 ?_
  refine st_ ?_
  refine go_znil 2 rfl (by rw [hmh]; omega) ?_
  intro Z6
  refine st_ ?_
  refine go_slot 3 (.p 0 b8 0) rfl rfl ?_
  refine go_keep [2, 3, 30, 31] [0, 1, 2, 3, 999] ?_
  refine st_ ?_
  refine x_loop (n := rs.length) rfl (fun q s' => ∃ (i : Nat) (G3 : Hp) (rs' : List Fw) (zl : List Rw) (ZB : Nat → Prop) (b7 : Nat), i ≤ rs.length ∧ q = rs.length - i ∧ Le G2 G3 ∧ rs'.length = rs.length ∧
    ((i < rs.length ∧ ∃ (a c : List Fm) (ra rc lo : List Fw), s.l = a ++ c ∧ rs = ra ++ rc ∧ ra.length = a.length ∧ lo.length = i ∧ rc.length = i ∧ rs' = ra ++ lo ∧ fsOk G3 c lo ∧ zl = lo.map (·.done)) ∨
      (i = rs.length ∧ fsOk G3 s.l rs' ∧ zl = (rs'.drop 1).map (·.done) ∧ ∀ m x, s.l.head? = some m → rs'.head? = some x → rW.S G3 m.done x.done.v)) ∧
    s' = ⟨[(2, .v (.pointer none)), (3, .p 0 b8 0), (30, .v (.int .i64 rs.length)), (31, .v (.int .i64 i))], [(0, b8, .c 93 [.v (.pointer (some ⟨cb, 0, none⟩)), .v (.int .i64 s.st), .v (.int .i64 s.val.k), .v (.int .i64 s.val.n), .v (.slice vA s.val.l.length vC), .v (.slice ad9 rs.length cap9)]), (1, b9, .row (.slice ad9 rs.length cap9) 90 4 rs.length (encF rs')), (2, 0, .z (ZR zl) ZB ZB), (3, b7, .row (.slice none 0 0) 42 3 0 []), (999, 0, .z (ZRest w0) Zr Zr)], G3, []⟩) ?_ ?_
  · refine ⟨0, G2, rs, [], Z6, 0, by omega, rfl, Le.refl _, rfl, ?_, rfl⟩
    rcases Nat.eq_zero_or_pos rs.length with h0 | h0
    · have hr0 := List.eq_nil_of_length_eq_zero h0
      subst hr0
      exact .inr ⟨rfl, hfs.mono hle2, rfl, fun _ _ _ e => by simp at e⟩
    · exact .inl ⟨h0, s.l, [], rs, [], [], by simp, by simp, hlen, rfl, rfl, by simp, rfl, rfl⟩
  rintro q s' ⟨i, G3, rs', zl, ZB, b7, hi, hq, hle3, hrl, hinv, rfl⟩ ih
  have hle13 := hle2.trans hle3
  refine rn_ ?_; intros
  refine x_if rfl rfl rfl rfl (fun hil => ?_) (fun hil => ?_)
  · have hlt : i < rs.length := by simp at hil; omega
    rcases hinv with ⟨_, a, c, ra, rc, lo, hsa, hra, hral, hloi, hrci, rfl, hlo, rfl⟩ | ⟨h, _⟩
    rotate_left
    · omega
    subst hloi
    have hane : ra ≠ [] := by rintro rfl; simp at hra; rw [hra] at hlt; omega
    obtain ⟨ra', x, rfl⟩ : ∃ ra' x, ra = ra' ++ [x] := ⟨_, _, (List.dropLast_concat_getLast hane).symm⟩
    have hane2 : a ≠ [] := by rintro rfl; simp at hral
    obtain ⟨a', m, rfl⟩ : ∃ a' m, a = a' ++ [m] := ⟨_, _, (List.dropLast_concat_getLast hane2).symm⟩
    simp only [List.append_assoc, List.singleton_append, List.length_append, List.length_singleton, Nat.add_right_cancel_iff] at hsa hra hral hrl
    have hx : frOk G3 m x := by
      have := hfs.mono hle13
      rw [hsa, hra] at this
      exact fsOk_mid hral this
    have hds : rW.S G3 m.done x.done.v := by
      have := hfd.mono hle13
      rw [hsa, hra] at this
      exact fsD_mid hral this
    obtain ⟨xfn, xnd, xvars, xe, xsz, xdv, xn, xxs⟩ := x
    obtain ⟨x1, x2, x3, x4, x5, x6, x7⟩ := hx
    obtain ⟨d1, d2, d3, d4, d5, adx, capx, d6, d7⟩ := x7
    simp only at x1 x2 x5 x6 d1 d2 d3 d4 d5 d6 hds
    subst x1 x2 d1 d2 d3 d6
    refine go_rowcases 1 rfl (fun _ h _ => by omega) ?_
    rintro g9 cap9' e9 hcap9' hlen9
    injection e9 with e1 _ e3
    subst e1 e3
    simp only [List.append_assoc, List.singleton_append]
    have hrsl : rs.length = ra'.length + 1 + lo.length := by rw [hra]; simp; omega
    have hel : (encF (ra' ++ ⟨m.fn, m.nd, xvars, ⟨42, 3, .slice adx m.done.length capx, m.done.length, xxs⟩⟩ :: lo)).length = (ra'.length + 1 + lo.length) * 4 := by rw [encF_len]; simp; omega
    by_cases htop : ra' = []
    · have ha0 : a' = [] := List.eq_nil_of_length_eq_zero (by rw [← hral, htop]; rfl)
      have hsa' : s.l = m :: c := by rw [hsa, ha0]; rfl
      have hra1 : rs = ⟨m.fn, m.nd, xvars, ⟨42, 3, .slice adx m.done.length capx, m.done.length, xxs⟩⟩ :: rc := by rw [hra, htop]; rfl
      have hl0 : ra'.length = 0 := by rw [htop]; rfl
      refine rn_ ?_; intros
      refine x_heldP [(0, b8, .c 93 [.v (.pointer (some ⟨cb, 0, none⟩)), .v (.int .i64 s.st), .v (.int .i64 s.val.k), .v (.int .i64 s.val.n), .v (.slice vA s.val.l.length vC), .v (.slice (some ⟨g9, 0, none⟩) rs.length cap9)]), (1, b9, .row (.slice (some ⟨g9, 0, none⟩) rs.length cap9) 90 4 rs.length (encF (ra' ++ ⟨m.fn, m.nd, xvars, ⟨42, 3, .slice adx m.done.length capx, m.done.length, xxs⟩⟩ :: lo)))] 16 rfl (by rw [hP]; kernel_rfl) rfl rfl rfl ?_; refine st_ ?_
      refine hu_take 0 rfl (by kernel_rfl) (by kernel_rfl) (by kernel_rfl) (by kernel_rfl) rfl (fun c a w v => hQp c a w _ v) (by rw [hnt]; rfl) (allIn (by repeat (first | exact trivial | refine ⟨rfl, ?_⟩))) (by first | exact Le.refl _ | assumption) (quiet_op (by rw [hty]; first | rfl | (refine st_ ?_; rfl))) ?_; refine st_ ?_
      refine hu_take 1 rfl (by kernel_rfl) (by kernel_rfl) (by kernel_rfl) (by kernel_rfl) rfl (fun c a w v => hQp c a w _ v) (by rw [hnt]; rfl) (allIn (by repeat (first | exact trivial | refine ⟨rfl, ?_⟩))) (by first | exact Le.refl _ | assumption) (quiet_op (by rw [hty]; first | rfl | (refine st_ ?_; rfl))) ?_; refine st_ ?_
      refine hu_take 2 rfl (by kernel_rfl) (by kernel_rfl) (by kernel_rfl) (by kernel_rfl) rfl (fun c a w v => hQp c a w _ v) (by rw [hnt]; rfl) (allIn (by repeat (first | exact trivial | refine ⟨rfl, ?_⟩))) (by first | exact Le.refl _ | assumption) (quiet_op (by rw [hty]; first | rfl | (refine st_ ?_; rfl))) ?_; refine st_ ?_
      refine hu_take 3 rfl (by kernel_rfl) (by kernel_rfl) (by kernel_rfl) (by kernel_rfl) rfl (fun c a w v => hQp c a w _ v) (by rw [hnt]; rfl) (allIn (by repeat (first | exact trivial | refine ⟨rfl, ?_⟩))) (by first | exact Le.refl _ | assumption) (quiet_op (by rw [hty]; first | rfl | (refine st_ ?_; rfl))) ?_; refine st_ ?_
      refine hu_take 4 rfl (by kernel_rfl) (by kernel_rfl) (by kernel_rfl) (by kernel_rfl) rfl (fun c a w v => hQp c a w _ v) (by rw [hnt]; rfl) (allIn (by repeat (first | exact trivial | refine ⟨rfl, ?_⟩))) (by first | exact Le.refl _ | assumption) (quiet_op (by rw [hty]; first | rfl | (refine st_ ?_; rfl))) ?_; refine st_ ?_
      refine hu_take 5 rfl (by kernel_rfl) (by kernel_rfl) (by kernel_rfl) (by kernel_rfl) rfl (fun c a w v => hQp c a w _ v) (by rw [hnt]; rfl) (allIn (by repeat (first | exact trivial | refine ⟨rfl, ?_⟩))) (by first | exact Le.refl _ | assumption) (quiet_op (by rw [hty]; first | rfl | (refine st_ ?_; rfl))) ?_; refine st_ ?_
      refine hu_take 6 rfl (by kernel_rfl) (by kernel_rfl) (by kernel_rfl) (by kernel_rfl) rfl (fun c a w v => hQp c a w _ v) (by rw [hnt]; rfl) (allIn (by repeat (first | exact trivial | refine ⟨rfl, ?_⟩))) (by first | exact Le.refl _ | assumption) (quiet_op (by rw [hty]; first | rfl | (refine st_ ?_; rfl))) ?_; refine st_ ?_
      refine hu_take 7 rfl (by kernel_rfl) (by kernel_rfl) (by kernel_rfl) (by kernel_rfl) rfl (fun c a w v => hQp c a w _ v) (by rw [hnt]; rfl) (allIn (by repeat (first | exact trivial | refine ⟨rfl, ?_⟩))) (by first | exact Le.refl _ | assumption) (quiet_op (by rw [hty]; first | rfl | (refine st_ ?_; rfl))) ?_; refine st_ ?_
      refine hu_take 8 rfl (by kernel_rfl) (by kernel_rfl) (by kernel_rfl) (by kernel_rfl) rfl (fun c a w v => hQp c a w _ v) (by rw [hnt]; rfl) (allIn (by repeat (first | exact trivial | refine ⟨rfl, ?_⟩))) (by first | exact Le.refl _ | assumption) (quiet_op (by rw [hty]; first | rfl | (refine st_ ?_; rfl))) ?_; refine st_ ?_
      refine hu_take 9 rfl (by kernel_rfl) (by kernel_rfl) (by kernel_rfl) (by kernel_rfl) rfl (fun c a w v => hQp c a w _ v) (by rw [hnt]; rfl) (allIn (by repeat (first | exact trivial | refine ⟨rfl, ?_⟩))) (by first | exact Le.refl _ | assumption) (quiet_op (by rw [hty]; first | rfl | (refine st_ ?_; rfl))) ?_; refine st_ ?_
      refine hu_take 10 rfl (by kernel_rfl) (by kernel_rfl) (by kernel_rfl) (by kernel_rfl) rfl (fun c a w v => hQp c a w _ v) (by rw [hnt]; rfl) (allIn (by repeat (first | exact trivial | refine ⟨rfl, ?_⟩))) (by first | exact Le.refl _ | assumption) (x := .v (.pointer (some ⟨g9, lo.length * 4, none⟩))) ((quiet_index (by rw [hty]; rfl) (by rw [hty]; rfl) rfl rfl rfl (by omega) (by omega)).cast (by simp [SV.den])) ?_
      refine st_ ?_
      refine hu_take 11 rfl (by kernel_rfl) (by kernel_rfl) (by kernel_rfl) (by kernel_rfl) rfl (fun c a w v => hQp c a w _ v) (by rw [hnt]; rfl) (allIn (by repeat (first | exact trivial | refine ⟨rfl, ?_⟩))) (by first | exact Le.refl _ | assumption) (quiet_op (by rw [hty]; first | rfl | (refine st_ ?_; rfl))) ?_; refine st_ ?_
      refine hu_take 12 rfl (by kernel_rfl) (by kernel_rfl) (by kernel_rfl) (by kernel_rfl) rfl (fun c a w v => hQp c a w _ v) (by rw [hnt]; rfl) (allIn (by repeat (first | exact trivial | refine ⟨rfl, ?_⟩))) (by first | exact Le.refl _ | assumption) (x := .v (.slice adx m.done.length capx)) ((quiet_loadR (k := 1) (by rw [hty]; rfl) rfl (by simp [TK.agg]) rfl (by simp only []; omega)).cast (by exact encF_ldm (j := 3) (by omega) rfl)) ?_
      refine st_ ?_
      refine hu_one 13 rfl (by kernel_rfl) ?_
      refine go_call (by rw [hnt]; rfl) (by rw [hP]; kernel_rfl) rfl (hP ▸ cloneG_ok m.done _ G3 hds d5) ?_
      rintro v3 G4 (hle4 : Le G3 G4) ⟨hS4, hc4⟩
      obtain ⟨ad4, cap4, rfl⟩ := Rp.S_slice hS4
      obtain ⟨cs4, hcs4, _⟩ := Rp.srcS hS4
      refine rn_ ?_; intros
      refine hs_ ?_
      refine hu_takeB 14 [14, 15, 16] rfl (by kernel_rfl) (by kernel_rfl) (by kernel_rfl) (by kernel_rfl) (fun c a w v => hQp c a w _ v) (by rw [hnt]; rfl) (allIn (by repeat (first | exact trivial | refine ⟨rfl, ?_⟩))) (by first | exact Le.refl _ | assumption) (x := .v (.pointer (some ⟨g9, lo.length * 4, none⟩))) ((quiet_index (by rw [hty]; rfl) (by rw [hty]; rfl) rfl rfl rfl (by omega) (by omega)).cast (by simp [SV.den])) ?_
      refine st_ ?_
      refine hu_take 15 rfl (by kernel_rfl) (by kernel_rfl) (by kernel_rfl) (by kernel_rfl) rfl (fun c a w v => hQp c a w _ v) (by rw [hnt]; rfl) (allIn (by repeat (first | exact trivial | refine ⟨rfl, ?_⟩))) (by first | exact Le.refl _ | assumption) (quiet_op (by rw [hty]; first | rfl | (refine st_ ?_; rfl))) ?_; refine st_ ?_
      refine hu_last 16 [] rfl (by kernel_rfl) rfl ?_
      refine go_storeR (k := 1) (xs' := encF (ra' ++ ⟨m.fn, m.nd, xvars, ⟨42, 3, .slice ad4 m.done.length cap4, m.done.length, cs4⟩⟩ :: lo)) (by rw [hnt]; rfl) (by rw [hty]; rfl) rfl rfl rfl rfl rfl rfl (encF_laym (j := 3) (us := [.slice ad4 m.done.length cap4]) (by omega) rfl rfl) ?_
      refine rn_ ?_; intros
      refine h_end (by kernel_rfl) ?_
      refine rn_ ?_; intros
      rw [wr (n := (lo.length : Int) + 1) (by omega) (by omega)]
      refine go_keep [2, 3, 30, 31] [0, 1, 2, 3, 999] ?_
      refine st_ ?_
      refine ih (rs.length - (lo.length + 1)) _ (by omega) ⟨lo.length + 1, G4, ra' ++ ⟨m.fn, m.nd, xvars, ⟨42, 3, .slice ad4 m.done.length cap4, m.done.length, cs4⟩⟩ :: lo, lo.map (·.done), ZB, b7, by omega, rfl, hle3.trans hle4, by simp; omega, .inr ⟨by omega, ?_, ?_, ?_⟩, rfl⟩
      · rw [hsa', htop]
        exact ⟨_, _, rfl, ⟨rfl, rfl, x3, x4, x5, Rp.S_mono hle4 x6, ⟨rfl, rfl, rfl, hcs4, d5, _, _, rfl, hc4 _ _ _ rfl⟩⟩, hlo.mono hle4⟩
      · rw [htop]; rfl
      · intro m' x' q1 q2
        rw [hsa'] at q1
        rw [htop] at q2
        cases q1
        cases q2
        exact hS4
    · obtain ⟨y, ra2, hgr⟩ : ∃ y ra2, ra' = y :: ra2 := List.exists_cons_of_ne_nil htop
      obtain ⟨ys, hys, hsrc⟩ := Rp.src2 hds
      refine rn_ ?_; intros
      refine x_heldP [(0, b8, .c 93 [.v (.pointer (some ⟨cb, 0, none⟩)), .v (.int .i64 s.st), .v (.int .i64 s.val.k), .v (.int .i64 s.val.n), .v (.slice vA s.val.l.length vC), .v (.slice (some ⟨g9, 0, none⟩) rs.length cap9)]), (1, b9, .row (.slice (some ⟨g9, 0, none⟩) rs.length cap9) 90 4 rs.length (encF (ra' ++ ⟨m.fn, m.nd, xvars, ⟨42, 3, .slice adx m.done.length capx, m.done.length, xxs⟩⟩ :: lo)))] 16 rfl (by rw [hP]; kernel_rfl) rfl rfl rfl ?_; refine st_ ?_
      refine hu_take 0 rfl (by kernel_rfl) (by kernel_rfl) (by kernel_rfl) (by kernel_rfl) rfl (fun c a w v => hQp c a w _ v) (by rw [hnt]; rfl) (allIn (by repeat (first | exact trivial | refine ⟨rfl, ?_⟩))) (by first | exact Le.refl _ | assumption) (quiet_op (by rw [hty]; first | rfl | (refine st_ ?_; rfl))) ?_; refine st_ ?_
      refine hu_take 1 rfl (by kernel_rfl) (by kernel_rfl) (by kernel_rfl) (by kernel_rfl) rfl (fun c a w v => hQp c a w _ v) (by rw [hnt]; rfl) (allIn (by repeat (first | exact trivial | refine ⟨rfl, ?_⟩))) (by first | exact Le.refl _ | assumption) (quiet_op (by rw [hty]; first | rfl | (refine st_ ?_; rfl))) ?_; refine st_ ?_
      refine hu_take 2 rfl (by kernel_rfl) (by kernel_rfl) (by kernel_rfl) (by kernel_rfl) rfl (fun c a w v => hQp c a w _ v) (by rw [hnt]; rfl) (allIn (by repeat (first | exact trivial | refine ⟨rfl, ?_⟩))) (by first | exact Le.refl _ | assumption) (quiet_op (by rw [hty]; first | rfl | (refine st_ ?_; rfl))) ?_; refine st_ ?_
      refine hu_take 3 rfl (by kernel_rfl) (by kernel_rfl) (by kernel_rfl) (by kernel_rfl) rfl (fun c a w v => hQp c a w _ v) (by rw [hnt]; rfl) (allIn (by repeat (first | exact trivial | refine ⟨rfl, ?_⟩))) (by first | exact Le.refl _ | assumption) (quiet_op (by rw [hty]; first | rfl | (refine st_ ?_; rfl))) ?_; refine st_ ?_
      refine hu_take 4 rfl (by kernel_rfl) (by kernel_rfl) (by kernel_rfl) (by kernel_rfl) rfl (fun c a w v => hQp c a w _ v) (by rw [hnt]; rfl) (allIn (by repeat (first | exact trivial | refine ⟨rfl, ?_⟩))) (by first | exact Le.refl _ | assumption) (quiet_op (by rw [hty]; first | rfl | (refine st_ ?_; rfl))) ?_; refine st_ ?_
      refine hu_take 5 rfl (by kernel_rfl) (by kernel_rfl) (by kernel_rfl) (by kernel_rfl) rfl (fun c a w v => hQp c a w _ v) (by rw [hnt]; rfl) (allIn (by repeat (first | exact trivial | refine ⟨rfl, ?_⟩))) (by first | exact Le.refl _ | assumption) (quiet_op (by rw [hty]; first | rfl | (refine st_ ?_; rfl))) ?_; refine st_ ?_
      refine hu_take 6 rfl (by kernel_rfl) (by kernel_rfl) (by kernel_rfl) (by kernel_rfl) rfl (fun c a w v => hQp c a w _ v) (by rw [hnt]; rfl) (allIn (by repeat (first | exact trivial | refine ⟨rfl, ?_⟩))) (by first | exact Le.refl _ | assumption) (quiet_op (by rw [hty]; first | rfl | (refine st_ ?_; rfl))) ?_; refine st_ ?_
      refine hu_take 7 rfl (by kernel_rfl) (by kernel_rfl) (by kernel_rfl) (by kernel_rfl) rfl (fun c a w v => hQp c a w _ v) (by rw [hnt]; rfl) (allIn (by repeat (first | exact trivial | refine ⟨rfl, ?_⟩))) (by first | exact Le.refl _ | assumption) (quiet_op (by rw [hty]; first | rfl | (refine st_ ?_; rfl))) ?_; refine st_ ?_
      refine hu_take 8 rfl (by kernel_rfl) (by kernel_rfl) (by kernel_rfl) (by kernel_rfl) rfl (fun c a w v => hQp c a w _ v) (by rw [hnt]; rfl) (allIn (by repeat (first | exact trivial | refine ⟨rfl, ?_⟩))) (by first | exact Le.refl _ | assumption) (quiet_op (by rw [hty]; first | rfl | (refine st_ ?_; rfl))) ?_; refine st_ ?_
      refine hu_take 9 rfl (by kernel_rfl) (by kernel_rfl) (by kernel_rfl) (by kernel_rfl) rfl (fun c a w v => hQp c a w _ v) (by rw [hnt]; rfl) (allIn (by repeat (first | exact trivial | refine ⟨rfl, ?_⟩))) (by first | exact Le.refl _ | assumption) (quiet_op (by rw [hty]; first | rfl | (refine st_ ?_; rfl))) ?_; refine st_ ?_
      refine hu_take 10 rfl (by kernel_rfl) (by kernel_rfl) (by kernel_rfl) (by kernel_rfl) rfl (fun c a w v => hQp c a w _ v) (by rw [hnt]; rfl) (allIn (by repeat (first | exact trivial | refine ⟨rfl, ?_⟩))) (by first | exact Le.refl _ | assumption) (x := .v (.pointer (some ⟨g9, lo.length * 4, none⟩))) ((quiet_index (by rw [hty]; rfl) (by rw [hty]; rfl) rfl rfl rfl (by omega) (by omega)).cast (by simp [SV.den])) ?_
      refine st_ ?_
      refine hu_take 11 rfl (by kernel_rfl) (by kernel_rfl) (by kernel_rfl) (by kernel_rfl) rfl (fun c a w v => hQp c a w _ v) (by rw [hnt]; rfl) (allIn (by repeat (first | exact trivial | refine ⟨rfl, ?_⟩))) (by first | exact Le.refl _ | assumption) (quiet_op (by rw [hty]; first | rfl | (refine st_ ?_; rfl))) ?_; refine st_ ?_
      refine hu_take 12 rfl (by kernel_rfl) (by kernel_rfl) (by kernel_rfl) (by kernel_rfl) rfl (fun c a w v => hQp c a w _ v) (by rw [hnt]; rfl) (allIn (by repeat (first | exact trivial | refine ⟨rfl, ?_⟩))) (by first | exact Le.refl _ | assumption) (x := .v (.slice adx m.done.length capx)) ((quiet_loadR (k := 1) (by rw [hty]; rfl) rfl (by simp [TK.agg]) rfl (by simp only []; omega)).cast (by exact encF_ldm (j := 3) (by omega) rfl)) ?_
      refine st_ ?_
      refine hu_one 13 rfl (by kernel_rfl) ?_
      refine go_callT [3] (by rw [hnt]; rfl) (by rw [hP]; kernel_rfl) rfl rfl rfl (by rw [hmh]; simp) (by rw [hP]; exact cloneVS_ok b7 m.done.length _ ys G3 (Rp.L_one hys) d5 (Rp.L_len hys) hsrc) ?_
      rintro v6 G4 ow6 (hle4 : Le G3 G4) ⟨b10, ad4, cap4, rfl, hcap4, rfl⟩
      simp only [setO, stk]
      refine rn_ ?_; intros
      refine hs_ ?_
      refine hu_takeB 14 [14, 15, 16] rfl (by kernel_rfl) (by kernel_rfl) (by kernel_rfl) (by kernel_rfl) (fun c a w v => hQp c a w _ v) (by rw [hnt]; rfl) (allIn (by repeat (first | exact trivial | refine ⟨rfl, ?_⟩))) (by first | exact Le.refl _ | assumption) (x := .v (.pointer (some ⟨g9, lo.length * 4, none⟩))) ((quiet_index (by rw [hty]; rfl) (by rw [hty]; rfl) rfl rfl rfl (by omega) (by omega)).cast (by simp [SV.den])) ?_
      refine st_ ?_
      refine hu_take 15 rfl (by kernel_rfl) (by kernel_rfl) (by kernel_rfl) (by kernel_rfl) rfl (fun c a w v => hQp c a w _ v) (by rw [hnt]; rfl) (allIn (by repeat (first | exact trivial | refine ⟨rfl, ?_⟩))) (by first | exact Le.refl _ | assumption) (quiet_op (by rw [hty]; first | rfl | (refine st_ ?_; rfl))) ?_; refine st_ ?_
      refine hu_last 16 [] rfl (by kernel_rfl) rfl ?_
      refine go_storeR (k := 1) (xs' := encF (ra' ++ ⟨m.fn, m.nd, xvars, ⟨42, 3, .slice ad4 m.done.length cap4, m.done.length, ys⟩⟩ :: lo)) (by rw [hnt]; rfl) (by rw [hty]; rfl) rfl rfl rfl rfl rfl rfl (encF_laym (j := 3) (us := [.slice ad4 m.done.length cap4]) (by omega) rfl rfl) ?_
      refine rn_ ?_; intros
      refine h_end (by kernel_rfl) ?_
      refine go_zpush 2 3 rfl rfl (by decide) (.inl ⟨by rw [hmh]; omega, by rw [hmh]; omega⟩) ?_
      intro ZB3
      refine st_ ?_
      refine rn_ ?_; intros
      rw [wr (n := (lo.length : Int) + 1) (by omega) (by omega)]
      refine go_keep [2, 3, 30, 31] [0, 1, 2, 3, 999] ?_
      refine st_ ?_
      have hl0 : 1 ≤ ra'.length := by rw [hgr]; simp
      exact ih (rs.length - (lo.length + 1)) _ (by omega) ⟨lo.length + 1, G4, ra' ++ ⟨m.fn, m.nd, xvars, ⟨42, 3, .slice ad4 m.done.length cap4, m.done.length, ys⟩⟩ :: lo, _, ZB3, _, by omega, rfl, hle3.trans hle4, by simp; omega, .inl ⟨by omega, a', m :: c, ra', _, ⟨m.fn, m.nd, xvars, ⟨42, 3, .slice ad4 m.done.length cap4, m.done.length, ys⟩⟩ :: lo, hsa, hra, hral, by simp, by simp; omega, rfl,
        ⟨_, _, rfl, ⟨rfl, rfl, x3, x4, x5, Rp.S_mono hle4 x6, ⟨rfl, rfl, rfl, Rp.L_mono hle4 hys, d5, _, _, rfl, hcap4⟩⟩, hlo.mono hle4⟩, rfl⟩, rfl⟩
  · have hie : i = rs.length := by simp at hil; omega
    rcases hinv with ⟨h, _⟩ | ⟨_, hfs', rfl, hdn'⟩
    · omega
    refine rn_ ?_; intros
    have hleA := hle13
    refine x_retT rfl hQ hmh hb0 rfl (by first | (simp; done) | decide) rfl (by rw [hty]; simp only [so, sq, zy, zz, tyE, SO', SQ', opQ, opStore, opAlloc, ev, putS, dOk, cv, SV.cs, SV.one, SV.bool?, eqB, Value.oneCell', ldOwn, binInt, binConst, binBool, binStr, isC, TK.agg, rv, rv1, ldV, resOne, resV, Nat.reduceAdd, Nat.reduceMul, Nat.reduceSub, Nat.reduceLT, Nat.reduceLeDiff, Nat.reduceEqDiff, Nat.reduceBEq, reduceIte, reduceCtorEq, eq_self]; try rfl) rfl (by rw [hrest]; rfl) (by first | exact Le.refl _ | assumption) rfl (by simp only [enumO]; exact (by repeat (first | exact plain_nil | refine plain_cons (fun _ h => h) ?_))) ?_; simp only [SV.den, resV, dens]
    refine ⟨b8, rfl, .slice vA s.val.l.length vC, .slice ad9 rs.length cap9, b9, 0, b7, rs', ZB, VT.rep_mono hle13 hvl, htv, hfs', hl256, hdn', ?_⟩
    simp only [fhO, frO, fzO, fdO, rw0, hrl]
end Go.Proofs.YtpppkednpamhbaaGreat
namespace Go.Sx
set_option linter.unusedSimpArgs false
set_option linter.unusedVariables false
theorem PureW.weak {P : Program} {f : FuncId} {args : List Value} {G : Hp} {ow : Lds} {φ ψ : Value → Hp → Lds → Prop} (h : PureW P f args G ow φ) (hr : ∀ v G' ow', Le G G' → φ v G' ow' → ψ v G' ow') : PureW P f args G ow ψ := by
  intro w hw hl
  refine (h w hw hl).mono ?_
  rintro e w' ⟨u, G', ow', rfl, q1, q2, q3, q4, q5, q6, q7, q8, hφ⟩
  have hle : Le G G' := fun b o e => by rw [q4 b (lt_of_heap (hw b o e))]; exact e
  exact ⟨u, G', ow', rfl, q1, q2, q3, q4, q5, q6, q7, q8, hr _ _ _ hle hφ⟩
theorem PureT.weak {P : Program} {f : FuncId} {args : List Value} {G : Hp} {ow : Lds} {φ ψ : Value → Hp → Lds → Prop} (h : PureT P f args G ow φ) (hr : ∀ v G' ow', Le G G' → φ v G' ow' → ψ v G' ow') : PureT P f args G ow ψ := by
  intro w hw hl
  refine (h w hw hl).mono ?_
  rintro e w' ⟨u, G', ow', rfl, q1, q2, q3, q4, q5, q6, q7, q8, q9, hφ⟩
  exact ⟨u, G', ow', rfl, q1, q2, q3, q4, q5, q6, q7, q8, q9, hr _ _ _ q5 hφ⟩
end Go.Sx
namespace Go.Proofs.YtpppkednpamhbaaGreat
set_option linter.unusedSimpArgs false
set_option linter.unusedVariables false
open Go.Sx
set_option maxHeartbeats 8000000
set_option maxRecDepth 20000
def wantQ (p : Pr) (s : Fb) : Int × Int × List VT × Bool :=
  if s.st = 2 then
    match s.l with
    | [] => (0, 0, [], false)
    | m :: _ =>
      match ndAt p m.fn m.nd with
      | none => (0, 0, [], false)
      | some nd => ((wantP nd m.done).1, (wantP nd m.done).2.1, (wantP nd m.done).2.2, true)
  else (0, 0, [], false)
def wantA (G : Hp) (w : Int × Int × List VT × Bool) (v : Value) : Prop := ∃ sl, v = .tuple #[.agg #[.int .i64 w.1, .int .i64 w.2.1, sl], .bool w.2.2.2] ∧ rW.S G w.2.2.1 sl
def atQ (s : Fb) : Int × Int × Bool :=
  match s.l with
  | [] => (0, 0, false)
  | m :: _ => (m.fn, m.nd, true)
structure fbP (G : Hp) (s : Fb) (vl : Value) (rs : List Fw) : Prop where
  val : s.val.rep G vl
  sz : tsz s.val ≤ 1000
  fs : fsOk G s.l rs
  len : s.l.length ≤ 256
  top : ∀ m x, s.l.head? = some m → rs.head? = some x → rW.S G m.done x.done.v
theorem fbP.mono {G G' : Hp} {s : Fb} {vl : Value} {rs : List Fw} (h : fbP G s vl rs) (hl : Le G G') : fbP G' s vl rs :=
  ⟨VT.rep_mono hl h.val, h.sz, h.fs.mono hl, h.len, fun m x q q' => Rp.S_mono hl (h.top m x q q')⟩
theorem vf_two {p : Pr} {s : Fb} (h : VF p s) (h2 : s.st = 2) : ∃ m r nd, s.l = m :: r ∧ RX p 2 m nd ∧ r.length < 256 := by
  rcases h.1 with (h3 | ⟨x, r, nd, h3, h4, h5, h6⟩) | ⟨h3, _⟩
  · injection h3 with h3 _; omega
  · simp only [h2] at h3 h4
    exact ⟨x, r, nd, h3, h4, h6⟩
  · omega
theorem vf_top {p : Pr} {s : Fb} {m : Fm} {r : List Fm} (h : VF p s) (hs : s.l = m :: r) : ∃ nd, VX p m nd ∧ r.length < 256 := by
  rcases h.1 with (h3 | ⟨x, r', nd, h3, h4, h5, h6⟩) | ⟨_, h3⟩
  · injection h3 with _ h3; rw [hs] at h3; cases h3
  · simp only [hs] at h3
    cases h3
    exact ⟨nd, h4.1, h6⟩
  · rw [hs] at h3; cases h3
theorem vx_done {p : Pr} {m : Fm} {nd : Nd} (h : VX p m nd) : m.done.length ≤ 1000 := by
  have h1 := h.2.1
  have := (ben_len h.1.facts.2.1).2.2.2.2.2.2.1
  unfold many at h1
  split at h1 <;> omega
theorem want_q (b cb b1 : Nat) (vl fs ps : Value) (p : Pr) (s : Fb) (rs : List Fw) (G : Hp) (hc : At G cb 0 [ps]) (hp : rF.S G p ps) (hVF : VF p s) (hb : fbP G s vl rs) :
    PureW Tryz.prog 26 [.pointer (some ⟨b, 0, none⟩)] G [fhO b cb s.st s.val.k s.val.n vl fs, frO b1 fs rs] (fun v G' ow => ow = [fhO b cb s.st s.val.k s.val.n vl fs, frO b1 fs rs] ∧ wantA G' (wantQ p s) v) := by
  unfold wantQ
  by_cases h2 : s.st = 2
  · obtain ⟨m, r, nd, hs, hRX, hr⟩ := vf_two hVF h2
    have hnd := hRX.1.1.nd
    rw [if_pos h2, hs, h2]
    simp only [hnd]
    refine (want3_ok b cb b1 s.val.k s.val.n vl fs ps p m r rs nd G hc hp (by rw [← hs]; exact hb.fs) hnd (by omega) (fun x q => hb.top m x (by rw [hs]; rfl) q) (vx_done hRX.1) hRX.1.2.2.2).weak ?_
    rintro v G' ow _ ⟨rfl, sl, rfl, hS⟩
    exact ⟨rfl, sl, rfl, hS⟩
  · rw [if_neg h2]
    refine (wantN_ok b cb b1 s.st s.val.k s.val.n vl fs rs G h2).weak ?_
    rintro v G' ow _ ⟨rfl, rfl⟩
    exact ⟨rfl, _, rfl, Rp.S_nil none 0⟩
theorem at_q (b cb b1 : Nat) (vl ps : Value) (ad : Option Addr) (cap : Nat) (p : Pr) (s : Fb) (rs : List Fw) (G : Hp) (hc : At G cb 0 [ps]) (hp : rF.S G p ps) (hVF : VF p s) (hb : fbP G s vl rs) :
    PureW Tryz.prog 46 [.pointer (some ⟨b, 0, none⟩)] G [fhO b cb s.st s.val.k s.val.n vl (.slice ad rs.length cap), frO b1 (.slice ad rs.length cap) rs] (fun v _ ow => v = .tuple #[.int .i64 (atQ s).1, .int .i64 (atQ s).2.1, .bool (atQ s).2.2] ∧ ow = [fhO b cb s.st s.val.k s.val.n vl (.slice ad rs.length cap), frO b1 (.slice ad rs.length cap) rs]) := by
  unfold atQ
  cases hs : s.l with
  | nil =>
    have hfs := hb.fs
    rw [hs] at hfs
    simp only [fsOk] at hfs
    subst hfs
    exact at_none b cb b1 s.st s.val.k s.val.n vl ad cap G
  | cons m r =>
    obtain ⟨nd, hvx, hr⟩ := vf_top hVF hs
    exact at_ok b cb b1 s.st s.val.k s.val.n vl _ ps p m r rs nd G hc hp (by rw [← hs]; exact hb.fs) hvx.1.nd (by omega)
theorem value_q (b cb : Nat) (vl fs : Value) (p : Pr) (s : Fb) (rs : List Fw) (G : Hp) (hVF : VF p s) (hv : s.st ≠ 3 → s.val = vt0) (hb : fbP G s vl rs) :
    PureW Tryz.prog 24 [.pointer (some ⟨b, 0, none⟩)] G [fhO b cb s.st s.val.k s.val.n vl fs] (fun v G' ow => ow = [fhO b cb s.st s.val.k s.val.n vl fs] ∧ ∃ sl, v = .tuple #[.agg #[.int .i64 s.val.k, .int .i64 s.val.n, sl], .bool (decide (s.st = 3))] ∧ s.val.rep G' sl) := by
  have hsm : sml s.val = true := by
    by_cases h3 : s.st = 3
    · have := hVF.2 h3
      simp only [vld, Bool.and_eq_true] at this
      exact this.1
    · rw [hv h3]; rfl
  refine (value_ok b cb s.st s.val vl fs G hb.val hb.sz hsm).weak ?_
  rintro v G' ow _ ⟨rfl, ⟨h3, rfl⟩ | ⟨h3, sl, rfl, hr⟩⟩
  · refine ⟨rfl, .slice none 0 0, ?_, ?_⟩
    · rw [hv h3, decide_eq_false h3]; rfl
    · rw [hv h3]; exact ⟨by simp [isI64], by simp [isI64], by simp, none, 0, rfl, .inl rfl⟩
  · exact ⟨rfl, sl, by rw [decide_eq_true h3], hr⟩
end Go.Proofs.YtpppkednpamhbaaGreat
namespace Go.Proofs.YtpppkednpamhbaaGreat.R
set_option linter.unusedSimpArgs false
set_option linter.unusedVariables false
end Go.Proofs.YtpppkednpamhbaaGreat.R
namespace Go.Proofs.YtpppkednpamhbaaGreat.R
set_option linter.unusedSimpArgs false
set_option linter.unusedVariables false
open Go.Sx
set_option maxHeartbeats 16000000
set_option maxRecDepth 20000
def rFm : Rp Fm where
  size := 4
  e G x cs := ∃ sv sd, cs = [.int .i64 x.fn, .int .i64 x.nd, sv, sd] ∧ rW.S G x.vars sv ∧ rW.S G x.done sd ∧ isI64 x.fn ∧ isI64 x.nd
  mono hl h := by obtain ⟨sv, sd, h1, h2, h3, h4⟩ := h; exact ⟨sv, sd, h1, Rp.S_mono hl h2, Rp.S_mono hl h3, h4⟩
  len h := by obtain ⟨_, _, rfl, _⟩ := h; rfl
  one h u hu := by
    obtain ⟨sv, sd, rfl, h2, h3, _⟩ := h
    obtain ⟨_, _, rfl⟩ := Rp.S_slice h2
    obtain ⟨_, _, rfl⟩ := Rp.S_slice h3
    simp at hu
    rcases hu with rfl | rfl | rfl | rfl <;> rfl
def fmS (G : Hp) (l : List Fm) (v : Value) : Prop := rFm.S G l.reverse v ∧ CapOk v
theorem fmS.mono {G G' : Hp} {l : List Fm} {v : Value} (h : fmS G l v) (hl : Le G G') : fmS G' l v := ⟨Rp.S_mono hl h.1, h.2⟩
def fibV (ps lsl : Value) (st k n : Int) (vl : Value) : Value := .agg #[ps, lsl, .int .i64 st, .int .i64 k, .int .i64 n, vl]
theorem rFm_last {G : Hp} {m : Fm} {l : List Fm} {v : Value} (h : rFm.S G (m :: l).reverse v) : ∃ b off cap av cw ad cd, v = .slice (some ⟨b, off, none⟩) (l.length + 1) cap ∧ At G b (off + l.length * 4) [.int .i64 m.fn, .int .i64 m.nd, .slice av m.vars.length cw, .slice ad m.done.length cd] ∧
    rW.S G m.vars (.slice av m.vars.length cw) ∧ rW.S G m.done (.slice ad m.done.length cd) ∧ isI64 m.fn ∧ isI64 m.nd := by
  have hi : l.length < (m :: l).reverse.length := by simp
  obtain ⟨b, off, cap', c, hv, hat, sv, sd, rfl, h1, h2, h3, h4⟩ := Rp.S_get h hi
  have e : (m :: l).reverse[l.length] = m := by simp
  rw [e] at hat h1 h2 h3 h4
  obtain ⟨av, cw, rfl⟩ := Rp.S_slice h1
  obtain ⟨ad, cd, rfl⟩ := Rp.S_slice h2
  exact ⟨b, off, cap', av, cw, ad, cd, by rw [hv]; simp, hat, h1, h2, h3, h4⟩
def lastO (G : Hp) (m : Fm) (nd : Nd) (v : Value) : Prop := ∃ av cw ad cd an cn, v = .tuple #[.agg #[.int .i64 m.fn, .int .i64 m.nd, .slice av m.vars.length cw, .slice ad m.done.length cd], .agg #[.int .i64 nd.op, .int .i64 nd.n, .slice an nd.l.length cn]] ∧
    rW.S G m.vars (.slice av m.vars.length cw) ∧ rW.S G m.done (.slice ad m.done.length cd) ∧ rI.S G nd.l (.slice an nd.l.length cn) ∧ isI64 m.fn ∧ isI64 m.nd ∧ isI64 nd.op ∧ isI64 nd.n
theorem rlast_ok (ps lsl vl : Value) (st k n : Int) (p : Pr) (m : Fm) (l : List Fm) (nd : Nd) (G : Hp) (hp : rF.S G p ps) (hL : rFm.S G (m :: l).reverse lsl) (hvl : ∃ a b c, vl = .slice a b c) (hnd : ndAt p m.fn m.nd = some nd) (hlm : l.length ≤ 300) :
    Pure Tryz.prog 67 [fibV ps lsl st k n vl] G (fun v G' => lastO G' m nd v) := by
  obtain ⟨bF, oF, cF, mF, bN, oN, cN, kN, sl, rfl, hf0, hf1, ⟨pa, hat⟩, hn0, hn1, han, i1, i2, hrI⟩ := nd_at hp hnd
  obtain ⟨an, cn, rfl⟩ : ∃ ad c, sl = .slice ad nd.l.length c := Rp.S_slice hrI
  obtain ⟨bL, oL, cL, av, cw, ad, cd, rfl, hatL, hsv, hsd, g1, g2⟩ := rFm_last hL
  obtain ⟨vl1, vl2, vl3, rfl⟩ := hvl
  have hat1 : At G bF (oF + m.fn.toNat * 2 + 1) [.slice (some ⟨bN, oN, none⟩) kN cN] := by simpa using hat.sub 1 1 (by simp)
  have ew : IntKind.i64.wrap (((l.length + 1 : Nat) : Int) - 1) = (l.length : Int) := by rw [wr (by omega) (by omega)]; omega
  refine enterX ty tyok Tryz.func67 rfl Tryz.ntmps67 [.a [.v (.slice (some ⟨bF, oF, none⟩) mF cF), .v (.slice (some ⟨bL, oL, none⟩) (l.length + 1) cL), .v (.int .i64 st), .v (.int .i64 k), .v (.int .i64 n), .v (.slice vl1 vl2 vl3)]] (by simp) ?_
  intro C hP hQ hnt hty hmb hmh hro; have hQp := qp_body hQ; refine st_ ?_
  refine rn_ ?_; intros
  simp only [ew]
  refine go_q (v := .pointer (some ⟨bL, oL + l.length * 4, none⟩)) (by rw [hnt]; rfl) ((quiet_index (by rw [hty]; rfl) (by rw [hty]; rfl) rfl rfl rfl (by omega) (by omega)).cast (by simp)) ?_
  refine rn_ ?_; intros
  refine go_q (v := .agg #[.int .i64 m.fn, .int .i64 m.nd, .slice av m.vars.length cw, .slice ad m.done.length cd]) (by rw [hnt]; rfl) ((quiet_load (by rw [hty]; rfl) rfl (by simp [TK.agg]) hatL rfl).cast (by rfl)) ?_
  refine rn_ ?_; intros
  rename_i b1 b2 b3 b4
  refine x_held [(0, b1, .c 44 [.v (.slice (some ⟨bF, oF, none⟩) mF cF), .v (.slice (some ⟨bL, oL, none⟩) (l.length + 1) cL), .v (.int .i64 st), .v (.int .i64 k), .v (.int .i64 n), .v (.slice vl1 vl2 vl3)]), (3, b4, .c 96 [.v (.int .i64 m.fn), .v (.int .i64 m.nd), .v (.slice av m.vars.length cw), .v (.slice ad m.done.length cd)])] rfl (by rw [hP]; kernel_rfl) rfl rfl rfl ?_; refine st_ ?_
  refine tq_ 0 rfl (quiet_op (by rw [hty]; first | rfl | (refine st_ ?_; rfl))) ?_; refine st_ ?_
  refine tq_ 1 rfl (quiet_op (by rw [hty]; first | rfl | (refine st_ ?_; rfl))) ?_; refine st_ ?_
  refine tq_ 2 rfl (quiet_op (by rw [hty]; first | rfl | (refine st_ ?_; rfl))) ?_; refine st_ ?_
  refine tq_ 3 rfl (quiet_op (by rw [hty]; first | rfl | (refine st_ ?_; rfl))) ?_; refine st_ ?_
  refine tq_ 4 rfl (quiet_op (by rw [hty]; first | rfl | (refine st_ ?_; rfl))) ?_; refine st_ ?_
  refine tq_ 5 rfl (quiet_op (by rw [hty]; first | rfl | (refine st_ ?_; rfl))) ?_; refine st_ ?_
  refine tq_ 6 rfl (x := .v (.pointer (some ⟨bF, oF + m.fn.toNat * 2, none⟩))) ((quiet_index (by rw [hty]; rfl) (by rw [hty]; rfl) rfl rfl rfl (by omega) (by omega)).cast (by rfl)) ?_
  refine st_ ?_
  refine tq_ 7 rfl (quiet_op (by rw [hty]; first | rfl | (refine st_ ?_; rfl))) ?_; refine st_ ?_
  refine tq_ 8 rfl (x := .v (.slice (some ⟨bN, oN, none⟩) kN cN)) ((quiet_load (by rw [hty]; rfl) rfl (by simp [TK.agg]) hat1 rfl).cast (by rfl)) ?_
  refine st_ ?_
  refine tq_ 9 rfl (quiet_op (by rw [hty]; first | rfl | (refine st_ ?_; rfl))) ?_; refine st_ ?_
  refine tq_ 10 rfl (quiet_op (by rw [hty]; first | rfl | (refine st_ ?_; rfl))) ?_; refine st_ ?_
  refine tq_ 11 rfl (x := .v (.pointer (some ⟨bN, oN + m.nd.toNat * 3, none⟩))) ((quiet_index (by rw [hty]; rfl) (by rw [hty]; rfl) rfl rfl rfl (by omega) (by omega)).cast (by rfl)) ?_
  refine st_ ?_
  refine tq_ 12 rfl (x := .a [.v (.int .i64 nd.op), .v (.int .i64 nd.n), .v (.slice an nd.l.length cn)]) ((quiet_load (by rw [hty]; rfl) rfl (by simp [TK.agg]) han rfl).cast (by rfl)) ?_
  refine st_ ?_
  refine h_one 13 rfl (by kernel_rfl) ?_
  refine rn_ ?_; intros
  refine hs_ ?_
  refine h_one 14 rfl (by kernel_rfl) ?_
  refine rn_ ?_; intros
  refine hs_ ?_
  refine h_end (by kernel_rfl) ?_
  refine rn_ ?_; intros
  refine xc_ hQ hmb ?_; simp only [SV.den, resV, dens]
  exact ⟨_, _, _, _, _, _, rfl, hsv, hsd, hrI, g1, g2, i1, i2⟩
theorem rwrong_ok (ps lsl vl : Value) (st k n : Int) (G : Hp) (hps : ∃ a b c, ps = .slice a b c) (hls : ∃ a b c, lsl = .slice a b c) (hvl : ∃ a b c, vl = .slice a b c) :
    Pure Tryz.prog 70 [fibV ps lsl st k n vl] G (fun v _ => v = .agg #[ps, .slice none 0 0, .int .i64 4, .int .i64 0, .int .i64 0, .slice none 0 0]) := by
  obtain ⟨_, _, _, rfl⟩ := hps
  obtain ⟨_, _, _, rfl⟩ := hls
  obtain ⟨_, _, _, rfl⟩ := hvl
  refine enterX ty tyok Tryz.func70 rfl Tryz.ntmps70 [.a [.v _, .v _, .v (.int .i64 st), .v (.int .i64 k), .v (.int .i64 n), .v _]] (by simp) ?_
  intro C hP hQ hnt hty hmb hmh hro; have hQp := qp_body hQ; refine st_ ?_
  refine rn_ ?_; intros
  refine xc_ hQ hmb ?_; simp only [SV.den, resV, dens]
theorem rFm_push {G : Hp} {l : List Fm} {m : Fm} {cs : List Value} {sv sd : Value} (h : rFm.L G l.reverse cs) (hx : rW.S G m.vars sv) (hd : rW.S G m.done sd) (h1 : isI64 m.fn) (h2 : isI64 m.nd) : rFm.L G (m :: l).reverse (cs ++ [.int .i64 m.fn, .int .i64 m.nd, sv, sd]) := by
  rw [List.reverse_cons]
  exact Rp.L_append h (Rp.L_single ⟨sv, sd, rfl, hx, hd, h1, h2⟩)
theorem rFm_put {G : Hp} {l : List Fm} {m x : Fm} {cs : List Value} {sv sd : Value} (h : rFm.L G (m :: l).reverse cs) (hx : rW.S G x.vars sv) (hd : rW.S G x.done sd) (h1 : isI64 x.fn) (h2 : isI64 x.nd) :
    ∃ cs', lay cs (l.length * 4) [.int .i64 x.fn, .int .i64 x.nd, sv, sd] = some cs' ∧ rFm.L G (x :: l).reverse cs' := by
  have hl := Rp.L_len h
  simp only [List.length_reverse, List.length_cons, rFm] at hl
  have := Rp.L_set (i := l.length) (x := x) h ⟨sv, sd, rfl, hx, hd, h1, h2⟩ (by simp)
  refine ⟨_, lay_put (by simp; omega), ?_⟩
  have e : (m :: l).reverse.set l.length x = (x :: l).reverse := by simp [List.set_append]
  rw [e] at this
  exact this
theorem rwith_ok (ps lsl vl : Value) (st k n : Int) (m x : Fm) (l : List Fm) (sv sd : Value) (G : Hp) (hps : ∃ a b c, ps = .slice a b c) (hL : rFm.S G (m :: l).reverse lsl) (hvl : ∃ a b c, vl = .slice a b c) (hsv : rW.S G x.vars sv) (hsd : rW.S G x.done sd) (h1 : isI64 x.fn) (h2 : isI64 x.nd) (hlm : l.length ≤ 300) :
    Pure Tryz.prog 74 [fibV ps lsl st k n vl, .agg #[.int .i64 x.fn, .int .i64 x.nd, sv, sd]] G (fun v G' => ∃ lsl', v = fibV ps lsl' st k n vl ∧ fmS G' (x :: l) lsl') := by
  obtain ⟨a1, n1, c1, rfl⟩ := hps
  obtain ⟨a2, n2, c2, rfl⟩ := hvl
  obtain ⟨a3, c3, rfl⟩ := Rp.S_slice hsv
  obtain ⟨a4, c4, rfl⟩ := Rp.S_slice hsd
  obtain ⟨aL, cL, rfl⟩ := Rp.S_slice hL
  obtain ⟨cs, hcs, hsrc⟩ := Rp.srcS hL
  have hcl := Rp.L_len hcs
  simp only [rFm, List.length_reverse, List.length_cons] at hcl
  have ew : IntKind.i64.wrap (((m :: l).reverse.length : Int) - 1) = (l.length : Int) := by simp only [List.length_reverse, List.length_cons]; rw [wr (by omega) (by omega)]; omega
  refine enterX ty tyok Tryz.func74 rfl Tryz.ntmps74 [.a [.v (.slice a1 n1 c1), .v (.slice aL (m :: l).reverse.length cL), .v (.int .i64 st), .v (.int .i64 k), .v (.int .i64 n), .v (.slice a2 n2 c2)], .a [.v (.int .i64 x.fn), .v (.int .i64 x.nd), .v (.slice a3 x.vars.length c3), .v (.slice a4 x.done.length c4)]] (by simp) ?_
  intro C hP hQ hnt hty hmb hmh hro; have hQp := qp_body hQ; refine st_ ?_
  refine rn_ ?_; intros
  refine go_torowN 3 (n := 0) (size := 4) rfl rfl (by omega) ?_
  refine go_append_any 3 (by rw [hnt]; rfl) (by rw [hty]; rfl) (by rw [hty]; rfl) (by decide) rfl rfl rfl (by rw [hmh]; omega) rfl (hsrc.imp id fun f => f _ _ rfl) (by simp; try omega) (Rp.L_one hcs) (by simp; try omega) (by simp; try omega) ?_
  intro v6
  refine go_rowcases 3 rfl (fun _ h _ => by simp at h) ?_
  rintro g cap rfl hcap hlen
  refine rn_ ?_; intros
  simp only [ew]
  obtain ⟨cs', hlay, hcs'⟩ := rFm_put (x := x) hcs hsv hsd h1 h2
  refine go_q (v := .pointer (some ⟨g, l.length * 4, none⟩)) (by rw [hnt]; rfl) ((quiet_index (by rw [hty]; rfl) (by rw [hty]; rfl) rfl rfl rfl (by omega) (by simp; omega)).cast (by simp)) ?_
  refine rn_ ?_; intros
  refine go_storeR (k := 3) (xs' := cs') (by rw [hnt]; rfl) (by rw [hty]; rfl) rfl rfl rfl rfl rfl rfl (by simpa [dens, SV.den] using hlay) ?_
  refine rn_ ?_; intros
  refine go_pubL rFm 3 rfl (by rw [hmh]; omega) (ts := (x :: l).reverse) (by simp) (by simp; omega) hcs' ?_
  intro G5 ad8 cap8 (hle5 : Le G G5) e8 hS8
  injection e8 with q1 q2 q3
  subst q1 q3
  refine xc_ hQ hmb ?_; simp only [SV.den, resV, dens]
  exact ⟨_, rfl, by simpa using hS8, fun _ _ _ e => by cases e; simpa using hcap⟩
theorem rmoves_ok (ps lsl vl : Value) (st k n node : Int) (p : Pr) (m : Fm) (l : List Fm) (nd : Nd) (vars : List VT) (sv : Value) (G : Hp) (hp : rF.S G p ps) (hL : rFm.S G (m :: l).reverse lsl) (hvl : ∃ a b c, vl = .slice a b c) (hnd : ndAt p m.fn m.nd = some nd) (hlm : l.length ≤ 300) (hsv : rW.S G vars sv) (h2 : isI64 node) :
    Pure Tryz.prog 68 [fibV ps lsl st k n vl, .int .i64 node, sv] G (fun v G' => ∃ lsl', v = fibV ps lsl' st k n vl ∧ fmS G' (⟨m.fn, node, vars, []⟩ :: l) lsl') := by
  have hlast := rlast_ok ps lsl vl st k n p m l nd G hp hL hvl hnd hlm
  obtain ⟨a2, n2, c2, rfl⟩ := hvl
  obtain ⟨a1, c1, rfl⟩ := Rp.S_slice hp
  obtain ⟨a3, c3, rfl⟩ := Rp.S_slice hsv
  obtain ⟨aL, cL, rfl⟩ := Rp.S_slice hL
  refine enterX ty tyok Tryz.func68 rfl Tryz.ntmps68 [.a [.v (.slice a1 p.length c1), .v (.slice aL (m :: l).reverse.length cL), .v (.int .i64 st), .v (.int .i64 k), .v (.int .i64 n), .v (.slice a2 n2 c2)], .v (.int .i64 node), .v (.slice a3 vars.length c3)] (by simp) ?_
  intro C hP hQ hnt hty hmb hmh hro; have hQp := qp_body hQ; refine st_ ?_
  refine rn_ ?_; intros
  refine go_call (by rw [hnt]; rfl) (by rw [hP]; kernel_rfl) rfl (hP ▸ hlast) ?_
  rintro _ G1 (hle1 : Le G G1) ⟨av, cw, ad, cd, an, cn, rfl, _, _, hrI, g1, g2, i1, i2⟩
  refine rn_ ?_; intros
  refine go_call (by rw [hnt]; rfl) (by rw [hP]; kernel_rfl) rfl (hP ▸ rwith_ok _ _ _ st k n m ⟨m.fn, node, vars, []⟩ l _ (.slice none 0 0) G1 ⟨_, _, _, rfl⟩ (Rp.S_mono hle1 hL) ⟨_, _, _, rfl⟩ (Rp.S_mono hle1 hsv) (Rp.S_nil none 0) g1 h2 hlm) ?_
  rintro _ G2 (hle2 : Le G1 G2) ⟨lsl', rfl, hS2⟩
  obtain ⟨a5, c5, rfl⟩ := Rp.S_slice hS2.1
  simp only [fibV]
  refine rn_ ?_; intros
  refine xc_ hQ hmb ?_; simp only [SV.den, resV, dens]
  exact ⟨_, rfl, hS2⟩
def rmoreO (G : Hp) (ps vl : Value) (st k n node : Int) (m : Fm) (l : List Fm) (v : Value) : Prop :=
  if 256 ≤ l.length + 1 then v = .tuple #[fibV ps (.slice none 0 0) 4 0 0 (.slice none 0 0), .bool false] else ∃ lsl', v = .tuple #[fibV ps lsl' st k n vl, .bool true] ∧ fmS G (⟨m.fn, node, m.vars, []⟩ :: m :: l) lsl'
theorem rmore_ok (ps lsl vl : Value) (st k n node : Int) (p : Pr) (m : Fm) (l : List Fm) (nd : Nd) (G : Hp) (hp : rF.S G p ps) (hL : rFm.S G (m :: l).reverse lsl) (hvl : ∃ a b c, vl = .slice a b c) (hnd : ndAt p m.fn m.nd = some nd) (hlm : l.length ≤ 300) (h2 : isI64 node) :
    Pure Tryz.prog 72 [fibV ps lsl st k n vl, .int .i64 node] G (fun v G' => rmoreO G' ps vl st k n node m l v) := by
  have hlast := rlast_ok ps lsl vl st k n p m l nd G hp hL hvl hnd hlm
  obtain ⟨a2, n2, c2, rfl⟩ := hvl
  obtain ⟨a1, c1, rfl⟩ := Rp.S_slice hp
  obtain ⟨aL, cL, rfl⟩ := Rp.S_slice hL
  refine enterX ty tyok Tryz.func72 rfl Tryz.ntmps72 [.a [.v (.slice a1 p.length c1), .v (.slice aL (m :: l).reverse.length cL), .v (.int .i64 st), .v (.int .i64 k), .v (.int .i64 n), .v (.slice a2 n2 c2)], .v (.int .i64 node)] (by simp) ?_
  intro C hP hQ hnt hty hmb hmh hro; have hQp := qp_body hQ; refine st_ ?_
  refine rn_ ?_; intros
  refine go_call (by rw [hnt]; rfl) (by rw [hP]; kernel_rfl) rfl (hP ▸ hlast) ?_
  rintro _ G1 (hle1 : Le G G1) ⟨av, cw, ad, cd, an, cn, rfl, hsv, hsd, hrI, g1, g2, i1, i2⟩
  refine rn_ ?_; intros
  refine x_split rfl rfl rfl (fun h256 => ?_) (fun h256 => ?_) <;> (refine st_ ?_; (refine ru_ ?_; intros))
  · refine rn_ ?_; intros
    refine go_callf (by rw [hnt]; rfl) (by rw [hP]; kernel_rfl) rfl (hP ▸ rwrong_ok _ _ _ _ _ _ _ ⟨_, _, _, rfl⟩ ⟨_, _, _, rfl⟩ ⟨_, _, _, rfl⟩) ?_; refine rn_ ?_; intros
    refine xc_ hQ hmb ?_; simp only [SV.den, resV, dens]
    unfold rmoreO
    rw [if_pos (by simp at h256; omega)]
    rfl
  have h255 : ¬ 256 ≤ l.length + 1 := by simp at h256; omega
  have hL1 := Rp.S_mono hle1 hL
  obtain ⟨cs, hcs, hsrc⟩ := Rp.srcS hL1
  have hcl := Rp.L_len hcs
  simp only [rFm, List.length_reverse, List.length_cons] at hcl
  have hpush := rFm_push (m := ⟨m.fn, node, m.vars, []⟩) hcs hsv (Rp.S_nil none 0) g1 h2
  refine rn_ ?_; intros
  rename_i b1 b2 b3 b4
  refine x_heldP [(0, b1, .c 44 [.v (.slice a1 p.length c1), .v (.slice aL (m :: l).reverse.length cL), .v (.int .i64 st), .v (.int .i64 k), .v (.int .i64 n), .v (.slice a2 n2 c2)]), (2, b3, .c 96 [.v (.int .i64 m.fn), .v (.int .i64 m.nd), .v (.slice av m.vars.length cw), .v (.slice ad m.done.length cd)])] 13 rfl (by rw [hP]; kernel_rfl) rfl rfl rfl ?_; refine st_ ?_
  refine hu_take 1 rfl (by kernel_rfl) (by kernel_rfl) (by kernel_rfl) (by kernel_rfl) rfl (fun c a w v => hQp c a w _ v) (by rw [hnt]; rfl) (allIn (by repeat (first | exact trivial | refine ⟨rfl, ?_⟩))) (by first | exact Le.refl _ | assumption) (quiet_op (by rw [hty]; first | rfl | (refine st_ ?_; rfl))) ?_; refine st_ ?_
  refine hu_take 2 rfl (by kernel_rfl) (by kernel_rfl) (by kernel_rfl) (by kernel_rfl) rfl (fun c a w v => hQp c a w _ v) (by rw [hnt]; rfl) (allIn (by repeat (first | exact trivial | refine ⟨rfl, ?_⟩))) (by first | exact Le.refl _ | assumption) (quiet_op (by rw [hty]; first | rfl | (refine st_ ?_; rfl))) ?_; refine st_ ?_
  refine hu_take 4 rfl (by kernel_rfl) (by kernel_rfl) (by kernel_rfl) (by kernel_rfl) rfl (fun c a w v => hQp c a w _ v) (by rw [hnt]; rfl) (allIn (by repeat (first | exact trivial | refine ⟨rfl, ?_⟩))) (by first | exact Le.refl _ | assumption) (quiet_op (by rw [hty]; first | rfl | (refine st_ ?_; rfl))) ?_; refine st_ ?_
  refine hu_take 5 rfl (by kernel_rfl) (by kernel_rfl) (by kernel_rfl) (by kernel_rfl) rfl (fun c a w v => hQp c a w _ v) (by rw [hnt]; rfl) (allIn (by repeat (first | exact trivial | refine ⟨rfl, ?_⟩))) (by first | exact Le.refl _ | assumption) (quiet_op (by rw [hty]; first | rfl | (refine st_ ?_; rfl))) ?_; refine st_ ?_
  refine hu_take 6 rfl (by kernel_rfl) (by kernel_rfl) (by kernel_rfl) (by kernel_rfl) rfl (fun c a w v => hQp c a w _ v) (by rw [hnt]; rfl) (allIn (by repeat (first | exact trivial | refine ⟨rfl, ?_⟩))) (by first | exact Le.refl _ | assumption) (quiet_op (by rw [hty]; first | rfl | (refine st_ ?_; rfl))) ?_; refine st_ ?_
  refine hu_take 7 rfl (by kernel_rfl) (by kernel_rfl) (by kernel_rfl) (by kernel_rfl) rfl (fun c a w v => hQp c a w _ v) (by rw [hnt]; rfl) (allIn (by repeat (first | exact trivial | refine ⟨rfl, ?_⟩))) (by first | exact Le.refl _ | assumption) (quiet_op (by rw [hty]; first | rfl | (refine st_ ?_; rfl))) ?_; refine st_ ?_
  refine hu_take 8 rfl (by kernel_rfl) (by kernel_rfl) (by kernel_rfl) (by kernel_rfl) rfl (fun c a w v => hQp c a w _ v) (by rw [hnt]; rfl) (allIn (by repeat (first | exact trivial | refine ⟨rfl, ?_⟩))) (by first | exact Le.refl _ | assumption) (quiet_op (by rw [hty]; first | rfl | (refine st_ ?_; rfl))) ?_; refine st_ ?_
  refine hu_take 9 rfl (by kernel_rfl) (by kernel_rfl) (by kernel_rfl) (by kernel_rfl) rfl (fun c a w v => hQp c a w _ v) (by rw [hnt]; rfl) (allIn (by repeat (first | exact trivial | refine ⟨rfl, ?_⟩))) (by first | exact Le.refl _ | assumption) (quiet_op (by rw [hty]; first | rfl | (refine st_ ?_; rfl))) ?_; refine st_ ?_
  refine hu_two 0 10 rfl rfl (by kernel_rfl) ?_ ?_
  · refine rn_ ?_; intros
    refine hs_ ?_
    refine hu_two 3 10 rfl rfl (by kernel_rfl) ?_ ?_
    · refine go_torowN 4 (n := 0) (size := 4) rfl rfl (by omega) ?_
      refine go_append_any 4 (by rw [hnt]; rfl) (by rw [hty]; rfl) (by rw [hty]; rfl) (by decide) rfl rfl rfl (by rw [hmh]; omega) rfl (hsrc.imp id fun f => f _ _ rfl) (by simp; try omega) (Rp.L_one hcs) (by simp; try omega) (by simp; try omega) ?_
      intro v6
      refine go_rowcases 4 rfl (fun _ h _ => by simp at h) ?_
      rintro g cap rfl hcap hlen
      refine rn_ ?_; intros
      refine hs_ ?_
      refine hu_one 10 rfl (by kernel_rfl) ?_
      refine rn_ ?_; intros
      refine hs_ ?_
      refine hu_one 11 rfl (by kernel_rfl) ?_
      refine go_append 4 (by rw [hnt]; rfl) (by rw [hty]; rfl) (by rw [hty]; rfl) (by decide) rfl rfl rfl (by rw [hmh]; omega) rfl (src_own 4 rfl rfl) rfl (by simp [dens, SV.den, Value.oneCell']) (by simp; try omega) (by simp; try omega) ?_
      intro v7
      refine go_rowcases 4 rfl (fun _ h _ => by simp at h) ?_
      rintro g7 cap7 rfl hcap7 hlen7
      refine rn_ ?_; intros
      refine hs_ ?_
      refine hu_one 12 rfl (by kernel_rfl) ?_
      refine rn_ ?_; intros
      refine hs_ ?_
      refine hu_last 13 [] rfl (by kernel_rfl) rfl ?_
      refine rn_ ?_; intros
      refine h_end (by kernel_rfl) ?_
      refine rn_ ?_; intros
      refine go_pubL rFm 4 rfl (by rw [hmh]; omega) (ts := (⟨m.fn, node, m.vars, []⟩ :: m :: l).reverse) (by simp) (by simp; omega) hpush ?_
      intro G5 ad8 cap8 (hle5 : Le G1 G5) e8 hS8
      injection e8 with q1 q2 q3
      subst q1 q3
      refine xc_ hQ hmb ?_; simp only [SV.den, resV, dens]
      unfold rmoreO
      rw [if_neg h255]
      exact ⟨_, rfl, by simpa using hS8, fun _ _ _ e => by cases e; simpa using hcap7⟩
    · refine rn_ ?_; intros
      refine hs_ ?_
      refine hu_one 3 rfl (by kernel_rfl) ?_
      refine go_torowN 4 (n := 0) (size := 4) rfl rfl (by omega) ?_
      refine go_append_any 4 (by rw [hnt]; rfl) (by rw [hty]; rfl) (by rw [hty]; rfl) (by decide) rfl rfl rfl (by rw [hmh]; omega) rfl (hsrc.imp id fun f => f _ _ rfl) (by simp; try omega) (Rp.L_one hcs) (by simp; try omega) (by simp; try omega) ?_
      intro v6
      refine go_rowcases 4 rfl (fun _ h _ => by simp at h) ?_
      rintro g cap rfl hcap hlen
      refine rn_ ?_; intros
      refine hs_ ?_
      refine hu_one 11 rfl (by kernel_rfl) ?_
      refine go_append 4 (by rw [hnt]; rfl) (by rw [hty]; rfl) (by rw [hty]; rfl) (by decide) rfl rfl rfl (by rw [hmh]; omega) rfl (src_own 4 rfl rfl) rfl (by simp [dens, SV.den, Value.oneCell']) (by simp; try omega) (by simp; try omega) ?_
      intro v7
      refine go_rowcases 4 rfl (fun _ h _ => by simp at h) ?_
      rintro g7 cap7 rfl hcap7 hlen7
      refine rn_ ?_; intros
      refine hs_ ?_
      refine hu_one 12 rfl (by kernel_rfl) ?_
      refine rn_ ?_; intros
      refine hs_ ?_
      refine hu_last 13 [] rfl (by kernel_rfl) rfl ?_
      refine rn_ ?_; intros
      refine h_end (by kernel_rfl) ?_
      refine rn_ ?_; intros
      refine go_pubL rFm 4 rfl (by rw [hmh]; omega) (ts := (⟨m.fn, node, m.vars, []⟩ :: m :: l).reverse) (by simp) (by simp; omega) hpush ?_
      intro G5 ad8 cap8 (hle5 : Le G1 G5) e8 hS8
      injection e8 with q1 q2 q3
      subst q1 q3
      refine xc_ hQ hmb ?_; simp only [SV.den, resV, dens]
      unfold rmoreO
      rw [if_neg h255]
      exact ⟨_, rfl, by simpa using hS8, fun _ _ _ e => by cases e; simpa using hcap7⟩
  · refine rn_ ?_; intros
    refine hs_ ?_
    refine hu_one 0 rfl (by kernel_rfl) ?_
    refine rn_ ?_; intros
    refine hs_ ?_
    refine hu_one 3 rfl (by kernel_rfl) ?_
    refine go_torowN 5 (n := 0) (size := 4) rfl rfl (by omega) ?_
    refine go_append_any 5 (by rw [hnt]; rfl) (by rw [hty]; rfl) (by rw [hty]; rfl) (by decide) rfl rfl rfl (by rw [hmh]; omega) rfl (hsrc.imp id fun f => f _ _ rfl) (by simp; try omega) (Rp.L_one hcs) (by simp; try omega) (by simp; try omega) ?_
    intro v6
    refine go_rowcases 5 rfl (fun _ h _ => by simp at h) ?_
    rintro g cap rfl hcap hlen
    refine rn_ ?_; intros
    refine hs_ ?_
    refine hu_one 11 rfl (by kernel_rfl) ?_
    refine go_append 5 (by rw [hnt]; rfl) (by rw [hty]; rfl) (by rw [hty]; rfl) (by decide) rfl rfl rfl (by rw [hmh]; omega) rfl (src_own 4 rfl rfl) rfl (by simp [dens, SV.den, Value.oneCell']) (by simp; try omega) (by simp; try omega) ?_
    intro v7
    refine go_rowcases 5 rfl (fun _ h _ => by simp at h) ?_
    rintro g7 cap7 rfl hcap7 hlen7
    refine rn_ ?_; intros
    refine hs_ ?_
    refine hu_one 12 rfl (by kernel_rfl) ?_
    refine rn_ ?_; intros
    refine hs_ ?_
    refine hu_last 13 [] rfl (by kernel_rfl) rfl ?_
    refine rn_ ?_; intros
    refine h_end (by kernel_rfl) ?_
    refine rn_ ?_; intros
    refine go_pubL rFm 5 rfl (by rw [hmh]; omega) (ts := (⟨m.fn, node, m.vars, []⟩ :: m :: l).reverse) (by simp) (by simp; omega) hpush ?_
    intro G5 ad8 cap8 (hle5 : Le G1 G5) e8 hS8
    injection e8 with q1 q2 q3
    subst q1 q3
    refine xc_ hQ hmb ?_; simp only [SV.den, resV, dens]
    unfold rmoreO
    rw [if_neg h255]
    exact ⟨_, rfl, by simpa using hS8, fun _ _ _ e => by cases e; simpa using hcap7⟩
end Go.Proofs.YtpppkednpamhbaaGreat.R
namespace Go.Proofs.YtpppkednpamhbaaGreat.R
set_option linter.unusedSimpArgs false
set_option linter.unusedVariables false
open Go.Sx
set_option maxHeartbeats 8000000
set_option maxRecDepth 20000
theorem rtv_ok (t : Bool) (G : Hp) : Pure Tryz.prog 122 [.bool t] G (fun v _ => v = .agg #[.int .i64 2, .int .i64 (if t then 1 else 0), .slice none 0 0]) := by
  cases t
  · refine enterX ty tyok Tryz.func122 rfl Tryz.ntmps122 [.b false] (by simp) ?_
    intro C hP hQ hnt hty hmb hmh hro; have hQp := qp_body hQ; refine st_ ?_
    refine rn_ ?_; intros
    refine go_callf (by rw [hnt]; rfl) (by rw [hP]; kernel_rfl) rfl (hP ▸ refint_ok 0 G) ?_; refine rn_ ?_; intros
    refine xc_ hQ hmb ?_; simp only [SV.den, resV, dens]
    try rfl
  · refine enterX ty tyok Tryz.func122 rfl Tryz.ntmps122 [.b true] (by simp) ?_
    intro C hP hQ hnt hty hmb hmh hro; have hQp := qp_body hQ; refine st_ ?_
    refine rn_ ?_; intros
    refine go_callf (by rw [hnt]; rfl) (by rw [hP]; kernel_rfl) rfl (hP ▸ refint_ok 1 G) ?_; refine rn_ ?_; intros
    refine xc_ hQ hmb ?_; simp only [SV.den, resV, dens]
    try rfl
def rtwoF (x y : VT) : Int := if vld x && vld y then (if x.k == 2 && y.k == 2 then 0 else 41) else 40
theorem rtwo_ok (x y : VT) (sl sl' : Value) (G : Hp) (hr : x.rep G sl) (hr' : y.rep G sl') (hb : tsz x ≤ 2000000) (hb' : tsz y ≤ 2000000) :
    Pure Tryz.prog 96 [.agg #[.int .i64 x.k, .int .i64 x.n, sl], .agg #[.int .i64 y.k, .int .i64 y.n, sl']] G (fun v _ => v = .int .i64 (rtwoF x y)) := by
  obtain ⟨ad, cap, rfl⟩ := VT.rep_slice hr
  obtain ⟨ad', cap', rfl⟩ := VT.rep_slice hr'
  refine enterX ty tyok Tryz.func96 rfl Tryz.ntmps96 [.a [.v (.int .i64 x.k), .v (.int .i64 x.n), .v _], .a [.v (.int .i64 y.k), .v (.int .i64 y.n), .v _]] (by simp) ?_
  intro C hP hQ hnt hty hmb hmh hro; have hQp := qp_body hQ; refine st_ ?_
  refine rn_ ?_; intros
  refine go_callf (by rw [hnt]; rfl) (by rw [hP]; kernel_rfl) rfl (hP ▸ refright_ok x _ G hr hb) ?_; refine rn_ ?_; intros
  refine go_gsplit rfl rfl (fun g1 => ?_) (fun g1 => ?_) <;> (refine st_ ?_; (refine rn_ ?_; intros))
  · have hv : vld x = false := by simpa using g1
    refine xc_ hQ hmb ?_; simp only [SV.den, resV, dens]
    simp [rtwoF, hv]
  have hv : vld x = true := by simpa using g1
  refine go_callf (by rw [hnt]; rfl) (by rw [hP]; kernel_rfl) rfl (hP ▸ refright_ok y _ G hr' hb') ?_; refine rn_ ?_; intros
  refine x_split rfl rfl rfl (fun g2 => ?_) (fun g2 => ?_) <;> (refine st_ ?_; (refine ru_ ?_; intros))
  · have hv' : vld y = false := by simpa using g2
    refine xc_ hQ hmb ?_; simp only [SV.den, resV, dens]
    simp [rtwoF, hv']
  have hv' : vld y = true := by simpa using g2
  refine rn_ ?_; intros
  refine go_gsplit rfl rfl (fun g3 => ?_) (fun g3 => ?_) <;> (refine st_ ?_; (refine rn_ ?_; intros))
  · have hk : (x.k == 2) = false := by simpa using g3
    refine xc_ hQ hmb ?_; simp only [SV.den, resV, dens]
    simp [rtwoF, hv, hv', hk]
  have hk : (x.k == 2) = true := by simpa using g3
  refine x_split rfl rfl rfl (fun g4 => ?_) (fun g4 => ?_) <;> (refine st_ ?_; (refine ru_ ?_; intros))
  · have hk' : (y.k == 2) = false := by simpa using g4
    refine xc_ hQ hmb ?_; simp only [SV.den, resV, dens]
    simp [rtwoF, hv, hv', hk, hk']
  have hk' : (y.k == 2) = true := by simpa using g4
  refine rn_ ?_; intros
  refine xc_ hQ hmb ?_; simp only [SV.den, resV, dens]
  simp [rtwoF, hv, hv', hk, hk']
theorem two_cases (x y : VT) (g : Int → Int → Int) : (rtwoF x y = 0 ∧ numd x y g = .tuple #[.agg #[.int .i64 2, .int .i64 (g x.n y.n), .slice none 0 0], .int .i64 0]) ∨ (rtwoF x y ≠ 0 ∧ numd x y g = .tuple #[zeroV, .int .i64 (rtwoF x y)]) := by
  unfold rtwoF numd
  cases vld x && vld y with
  | false => exact .inr ⟨by simp, rfl⟩
  | true =>
    cases x.k == 2 && y.k == 2 with
    | false => exact .inr ⟨by simp, rfl⟩
    | true => exact .inl ⟨rfl, rfl⟩
theorem conv_add (a b : Int) : IntKind.i64.wrap (IntKind.u64.wrap (IntKind.u64.wrap a + IntKind.u64.wrap b)) = IntKind.i64.wrap (a + b) := by
  simp only [IntKind.wrap, IntKind.signed, IntKind.bits]
  simp <;> omega
theorem conv_sub (a b : Int) : IntKind.i64.wrap (IntKind.u64.wrap (IntKind.u64.wrap a - IntKind.u64.wrap b)) = IntKind.i64.wrap (a - b) := by
  simp only [IntKind.wrap, IntKind.signed, IntKind.bits]
  simp <;> omega
theorem radd_ok (x y : VT) (sl sl' : Value) (G : Hp) (hr : x.rep G sl) (hr' : y.rep G sl') (hb : tsz x ≤ 2000000) (hb' : tsz y ≤ 2000000) :
    Pure Tryz.prog 98 [.agg #[.int .i64 x.k, .int .i64 x.n, sl], .agg #[.int .i64 y.k, .int .i64 y.n, sl']] G (fun v _ => v = numd x y (fun a b => IntKind.i64.wrap (a + b))) := by
  obtain ⟨ad, cap, rfl⟩ := VT.rep_slice hr
  obtain ⟨ad', cap', rfl⟩ := VT.rep_slice hr'
  rcases two_cases x y (fun a b => IntKind.i64.wrap (a + b)) with ⟨h0, h1⟩ | ⟨h0, h1⟩
  · rw [h1]
    refine enterX ty tyok Tryz.func98 rfl Tryz.ntmps98 [.a [.v (.int .i64 x.k), .v (.int .i64 x.n), .v _], .a [.v (.int .i64 y.k), .v (.int .i64 y.n), .v _]] (by simp) ?_
    intro C hP hQ hnt hty hmb hmh hro; have hQp := qp_body hQ; refine st_ ?_
    refine rn_ ?_; intros
    refine go_callf (by rw [hnt]; rfl) (by rw [hP]; kernel_rfl) rfl (hP ▸ rtwo_ok x y _ _ G hr hr' hb hb') ?_; refine rn_ ?_; intros
    simp only [h0]
    refine rn_ ?_; intros
    (refine x_split rfl rfl rfl (fun hc => absurd hc (by first | decide +kernel | (simp; first | done | fail))) (fun _ => ?_); refine st_ ?_; (refine ru_ ?_; intros))
    refine rn_ ?_; intros
    rw [conv_add]
    refine go_callf (by rw [hnt]; rfl) (by rw [hP]; kernel_rfl) rfl (hP ▸ refint_ok _ G) ?_; refine rn_ ?_; intros
    refine xc_ hQ hmb ?_; simp only [SV.den, resV, dens]
    try rfl
  · rw [h1]
    refine enterX ty tyok Tryz.func98 rfl Tryz.ntmps98 [.a [.v (.int .i64 x.k), .v (.int .i64 x.n), .v _], .a [.v (.int .i64 y.k), .v (.int .i64 y.n), .v _]] (by simp) ?_
    intro C hP hQ hnt hty hmb hmh hro; have hQp := qp_body hQ; refine st_ ?_
    refine rn_ ?_; intros
    refine go_callf (by rw [hnt]; rfl) (by rw [hP]; kernel_rfl) rfl (hP ▸ rtwo_ok x y _ _ G hr hr' hb hb') ?_; refine rn_ ?_; intros
    refine x_split rfl rfl rfl (fun h5 => ?_) (fun h5 => ?_) <;> (refine st_ ?_; (refine ru_ ?_; intros))
    · refine rn_ ?_; intros
      refine xc_ hQ hmb ?_; simp only [SV.den, resV, dens]
      try rfl
    · exact absurd h0 (by simpa using h5)
theorem rsub_ok (x y : VT) (sl sl' : Value) (G : Hp) (hr : x.rep G sl) (hr' : y.rep G sl') (hb : tsz x ≤ 2000000) (hb' : tsz y ≤ 2000000) :
    Pure Tryz.prog 99 [.agg #[.int .i64 x.k, .int .i64 x.n, sl], .agg #[.int .i64 y.k, .int .i64 y.n, sl']] G (fun v _ => v = numd x y (fun a b => IntKind.i64.wrap (a - b))) := by
  obtain ⟨ad, cap, rfl⟩ := VT.rep_slice hr
  obtain ⟨ad', cap', rfl⟩ := VT.rep_slice hr'
  rcases two_cases x y (fun a b => IntKind.i64.wrap (a - b)) with ⟨h0, h1⟩ | ⟨h0, h1⟩
  · rw [h1]
    refine enterX ty tyok Tryz.func99 rfl Tryz.ntmps99 [.a [.v (.int .i64 x.k), .v (.int .i64 x.n), .v _], .a [.v (.int .i64 y.k), .v (.int .i64 y.n), .v _]] (by simp) ?_
    intro C hP hQ hnt hty hmb hmh hro; have hQp := qp_body hQ; refine st_ ?_
    refine rn_ ?_; intros
    refine go_callf (by rw [hnt]; rfl) (by rw [hP]; kernel_rfl) rfl (hP ▸ rtwo_ok x y _ _ G hr hr' hb hb') ?_; refine rn_ ?_; intros
    simp only [h0]
    refine rn_ ?_; intros
    (refine x_split rfl rfl rfl (fun hc => absurd hc (by first | decide +kernel | (simp; first | done | fail))) (fun _ => ?_); refine st_ ?_; (refine ru_ ?_; intros))
    refine rn_ ?_; intros
    rw [conv_sub]
    refine go_callf (by rw [hnt]; rfl) (by rw [hP]; kernel_rfl) rfl (hP ▸ refint_ok _ G) ?_; refine rn_ ?_; intros
    refine xc_ hQ hmb ?_; simp only [SV.den, resV, dens]
    try rfl
  · rw [h1]
    refine enterX ty tyok Tryz.func99 rfl Tryz.ntmps99 [.a [.v (.int .i64 x.k), .v (.int .i64 x.n), .v _], .a [.v (.int .i64 y.k), .v (.int .i64 y.n), .v _]] (by simp) ?_
    intro C hP hQ hnt hty hmb hmh hro; have hQp := qp_body hQ; refine st_ ?_
    refine rn_ ?_; intros
    refine go_callf (by rw [hnt]; rfl) (by rw [hP]; kernel_rfl) rfl (hP ▸ rtwo_ok x y _ _ G hr hr' hb hb') ?_; refine rn_ ?_; intros
    refine x_split rfl rfl rfl (fun h5 => ?_) (fun h5 => ?_) <;> (refine st_ ?_; (refine ru_ ?_; intros))
    · refine rn_ ?_; intros
      refine xc_ hQ hmb ?_; simp only [SV.den, resV, dens]
      try rfl
    · exact absurd h0 (by simpa using h5)
theorem rless_ok (x y : VT) (sl sl' : Value) (G : Hp) (hr : x.rep G sl) (hr' : y.rep G sl') (hb : tsz x ≤ 2000000) (hb' : tsz y ≤ 2000000) :
    Pure Tryz.prog 101 [.agg #[.int .i64 x.k, .int .i64 x.n, sl], .agg #[.int .i64 y.k, .int .i64 y.n, sl']] G (fun v _ => v = numd x y (fun a b => if decide (a < b) then 1 else 0)) := by
  obtain ⟨ad, cap, rfl⟩ := VT.rep_slice hr
  obtain ⟨ad', cap', rfl⟩ := VT.rep_slice hr'
  rcases two_cases x y (fun a b => if decide (a < b) then 1 else 0) with ⟨h0, h1⟩ | ⟨h0, h1⟩
  · rw [h1]
    refine enterX ty tyok Tryz.func101 rfl Tryz.ntmps101 [.a [.v (.int .i64 x.k), .v (.int .i64 x.n), .v _], .a [.v (.int .i64 y.k), .v (.int .i64 y.n), .v _]] (by simp) ?_
    intro C hP hQ hnt hty hmb hmh hro; have hQp := qp_body hQ; refine st_ ?_
    refine rn_ ?_; intros
    refine go_callf (by rw [hnt]; rfl) (by rw [hP]; kernel_rfl) rfl (hP ▸ rtwo_ok x y _ _ G hr hr' hb hb') ?_; refine rn_ ?_; intros
    simp only [h0]
    refine rn_ ?_; intros
    (refine x_split rfl rfl rfl (fun hc => absurd hc (by first | decide +kernel | (simp; first | done | fail))) (fun _ => ?_); refine st_ ?_; (refine ru_ ?_; intros))
    refine rn_ ?_; intros
    refine go_callf (by rw [hnt]; rfl) (by rw [hP]; kernel_rfl) rfl (hP ▸ rtv_ok _ G) ?_; refine rn_ ?_; intros
    refine xc_ hQ hmb ?_; simp only [SV.den, resV, dens]
    try rfl
  · rw [h1]
    refine enterX ty tyok Tryz.func101 rfl Tryz.ntmps101 [.a [.v (.int .i64 x.k), .v (.int .i64 x.n), .v _], .a [.v (.int .i64 y.k), .v (.int .i64 y.n), .v _]] (by simp) ?_
    intro C hP hQ hnt hty hmb hmh hro; have hQp := qp_body hQ; refine st_ ?_
    refine rn_ ?_; intros
    refine go_callf (by rw [hnt]; rfl) (by rw [hP]; kernel_rfl) rfl (hP ▸ rtwo_ok x y _ _ G hr hr' hb hb') ?_; refine rn_ ?_; intros
    refine x_split rfl rfl rfl (fun h5 => ?_) (fun h5 => ?_) <;> (refine st_ ?_; (refine ru_ ?_; intros))
    · refine rn_ ?_; intros
      refine xc_ hQ hmb ?_; simp only [SV.den, resV, dens]
      try rfl
    · exact absurd h0 (by simpa using h5)
theorem req_ok (x y : VT) (sl sl' : Value) (G : Hp) (hr : x.rep G sl) (hr' : y.rep G sl') (hb : tsz x ≤ 2000000) (hb' : tsz y ≤ 2000000) :
    Pure Tryz.prog 100 [.agg #[.int .i64 x.k, .int .i64 x.n, sl], .agg #[.int .i64 y.k, .int .i64 y.n, sl']] G (fun v _ => v = if vld x && vld y then .tuple #[.agg #[.int .i64 2, .int .i64 (if veq x y then 1 else 0), .slice none 0 0], .int .i64 0] else .tuple #[zeroV, .int .i64 40]) := by
  obtain ⟨ad, cap, rfl⟩ := VT.rep_slice hr
  obtain ⟨ad', cap', rfl⟩ := VT.rep_slice hr'
  refine enterX ty tyok Tryz.func100 rfl Tryz.ntmps100 [.a [.v (.int .i64 x.k), .v (.int .i64 x.n), .v _], .a [.v (.int .i64 y.k), .v (.int .i64 y.n), .v _]] (by simp) ?_
  intro C hP hQ hnt hty hmb hmh hro; have hQp := qp_body hQ; refine st_ ?_
  refine rn_ ?_; intros
  refine go_callf (by rw [hnt]; rfl) (by rw [hP]; kernel_rfl) rfl (hP ▸ refright_ok x _ G hr hb) ?_; refine rn_ ?_; intros
  refine go_gsplit rfl rfl (fun g1 => ?_) (fun g1 => ?_) <;> (refine st_ ?_; (refine rn_ ?_; intros))
  · have hv : vld x = false := by simpa using g1
    refine xc_ hQ hmb ?_; simp only [SV.den, resV, dens]
    simp [hv]
  have hv : vld x = true := by simpa using g1
  refine go_callf (by rw [hnt]; rfl) (by rw [hP]; kernel_rfl) rfl (hP ▸ refright_ok y _ G hr' hb') ?_; refine rn_ ?_; intros
  refine x_split rfl rfl rfl (fun g2 => ?_) (fun g2 => ?_) <;> (refine st_ ?_; (refine ru_ ?_; intros))
  · have hv' : vld y = false := by simpa using g2
    refine xc_ hQ hmb ?_; simp only [SV.den, resV, dens]
    simp [hv']
  have hv' : vld y = true := by simpa using g2
  refine rn_ ?_; intros
  refine go_callf (by rw [hnt]; rfl) (by rw [hP]; kernel_rfl) rfl (hP ▸ refsame_ok x y _ _ G hr hr') ?_; refine rn_ ?_; intros
  refine go_callf (by rw [hnt]; rfl) (by rw [hP]; kernel_rfl) rfl (hP ▸ rtv_ok _ G) ?_; refine rn_ ?_; intros
  refine xc_ hQ hmb ?_; simp only [SV.den, resV, dens]
  simp [hv, hv']
theorem half_at {G : Hp} {x : VT} {ad : Option Addr} {cap i : Nat} (hr : x.rep G (.slice ad x.l.length cap)) (hi : i < x.l.length) : ∃ bL oL sv, ad = some ⟨bL, oL, none⟩ ∧ At G bL (oL + i * 3) [.int .i64 (x.l.getD i x).k, .int .i64 (x.l.getD i x).n, sv] ∧ (x.l.getD i x).rep G sv := by
  obtain ⟨k, n, l⟩ := x
  rw [rep_iff] at hr
  obtain ⟨_, _, _, ad1, cap1, he1, h⟩ := hr
  simp only [VT.l] at he1 hi ⊢
  cases he1
  rcases h with rfl | ⟨b, off, cs, rfl, ha, hrV⟩
  · simp at hi
  obtain ⟨adx, capx, hat, hrx⟩ := At_get ha hrV hi
  have e : l.getD i (.mk k n l) = l[i] := by rw [List.getD_eq_getElem?_getD, List.getElem?_eq_getElem hi]; rfl
  rw [e]
  exact ⟨b, off, _, rfl, hat, hrx⟩
theorem rhalf_ok (x : VT) (sl : Value) (G : Hp) (i : Nat) (hi : i < 2) (hr : x.rep G sl) (hb : tsz x ≤ 2000000) :
    Pure Tryz.prog 123 [.agg #[.int .i64 x.k, .int .i64 x.n, sl], .int .i64 i] G (fun v G' => Made (vld x && x.k == 3) (x.l.getD i x) (if vld x then 41 else 40) v G') := by
  have hr0 := hr
  obtain ⟨ad, cap, rfl⟩ := VT.rep_slice hr
  refine enterX ty tyok Tryz.func123 rfl Tryz.ntmps123 [.a [.v (.int .i64 x.k), .v (.int .i64 x.n), .v _], .v (.int .i64 i)] (by simp) ?_
  intro C hP hQ hnt hty hmb hmh hro; have hQp := qp_body hQ; refine st_ ?_
  refine rn_ ?_; intros
  refine go_callf (by rw [hnt]; rfl) (by rw [hP]; kernel_rfl) rfl (hP ▸ refright_ok x _ G hr hb) ?_; refine rn_ ?_; intros
  refine x_split rfl rfl rfl (fun g1 => ?_) (fun g1 => ?_) <;> (refine st_ ?_; (refine ru_ ?_; intros))
  · have hv : vld x = false := by simpa using g1
    refine rn_ ?_; intros
    refine xc_ hQ hmb ?_; simp only [SV.den, resV, dens]
    exact .inr ⟨by simp [hv], by simp [hv]⟩
  have hv : vld x = true := by simpa using g1
  refine rn_ ?_; intros
  refine x_split rfl rfl rfl (fun g2 => ?_) (fun g2 => ?_) <;> (refine st_ ?_; (refine ru_ ?_; intros))
  · have hk : (x.k == 3) = false := by simpa using g2
    refine rn_ ?_; intros
    refine xc_ hQ hmb ?_; simp only [SV.den, resV, dens]
    exact .inr ⟨by simp [hk], by simp [hv]⟩
  have hk : (x.k == 3) = true := by simpa using g2
  have hl := vld_pair hv hk
  obtain ⟨bL, oL, sv, rfl, hat, hrx⟩ := half_at hr0 (i := i) (by omega)
  obtain ⟨a9, c9, rfl⟩ := VT.rep_slice hrx
  refine rn_ ?_; intros
  refine go_q (v := .pointer (some ⟨bL, oL + i * 3, none⟩)) (by rw [hnt]; rfl) ((quiet_index (by rw [hty]; rfl) (by rw [hty]; rfl) rfl rfl rfl (by omega) (by omega)).cast (by simp)) ?_
  refine rn_ ?_; intros
  refine go_q (v := .agg #[.int .i64 (x.l.getD i x).k, .int .i64 (x.l.getD i x).n, .slice a9 (x.l.getD i x).l.length c9]) (by rw [hnt]; rfl) ((quiet_load (by rw [hty]; rfl) rfl (by simp [TK.agg]) hat rfl).cast (by rfl)) ?_
  refine rn_ ?_; intros
  refine xc_ hQ hmb ?_; simp only [SV.den, resV, dens]
  exact .inl ⟨by simp [hv, hk], _, _, rfl, hrx⟩
theorem rfirst_ok (x : VT) (sl : Value) (G : Hp) (hr : x.rep G sl) (hb : tsz x ≤ 2000000) :
    Pure Tryz.prog 102 [.agg #[.int .i64 x.k, .int .i64 x.n, sl]] G (Made (vld x && x.k == 3) (x.l.getD 0 x) (if vld x then 41 else 40)) := by
  obtain ⟨ad, cap, rfl⟩ := VT.rep_slice hr
  refine enterX ty tyok Tryz.func102 rfl Tryz.ntmps102 [.a [.v (.int .i64 x.k), .v (.int .i64 x.n), .v _]] (by simp) ?_
  intro C hP hQ hnt hty hmb hmh hro; have hQp := qp_body hQ; refine st_ ?_
  refine rn_ ?_; intros
  refine go_call (by rw [hnt]; rfl) (by rw [hP]; kernel_rfl) rfl (hP ▸ rhalf_ok x _ G 0 (by omega) hr hb) ?_
  rintro v G2 (hle2 : Le _ G2) hv
  rcases hv with ⟨hc, adm, capm, rfl, hrm⟩ | ⟨hc, rfl⟩
  · refine rn_ ?_; intros
    refine xc_ hQ hmb ?_; simp only [SV.den, resV, dens]
    exact .inl ⟨hc, _, _, rfl, hrm⟩
  · refine rn_ ?_; intros
    refine xc_ hQ hmb ?_; simp only [SV.den, resV, dens]
    exact .inr ⟨hc, rfl⟩
theorem rsecond_ok (x : VT) (sl : Value) (G : Hp) (hr : x.rep G sl) (hb : tsz x ≤ 2000000) :
    Pure Tryz.prog 103 [.agg #[.int .i64 x.k, .int .i64 x.n, sl]] G (Made (vld x && x.k == 3) (x.l.getD 1 x) (if vld x then 41 else 40)) := by
  obtain ⟨ad, cap, rfl⟩ := VT.rep_slice hr
  refine enterX ty tyok Tryz.func103 rfl Tryz.ntmps103 [.a [.v (.int .i64 x.k), .v (.int .i64 x.n), .v _]] (by simp) ?_
  intro C hP hQ hnt hty hmb hmh hro; have hQp := qp_body hQ; refine st_ ?_
  refine rn_ ?_; intros
  refine go_call (by rw [hnt]; rfl) (by rw [hP]; kernel_rfl) rfl (hP ▸ rhalf_ok x _ G 1 (by omega) hr hb) ?_
  rintro v G2 (hle2 : Le _ G2) hv
  rcases hv with ⟨hc, adm, capm, rfl, hrm⟩ | ⟨hc, rfl⟩
  · refine rn_ ?_; intros
    refine xc_ hQ hmb ?_; simp only [SV.den, resV, dens]
    exact .inl ⟨hc, _, _, rfl, hrm⟩
  · refine rn_ ?_; intros
    refine xc_ hQ hmb ?_; simp only [SV.den, resV, dens]
    exact .inr ⟨hc, rfl⟩
theorem rtruth_ok (x : VT) (sl : Value) (G : Hp) (hr : x.rep G sl) (hb : tsz x ≤ 2000000) :
    Pure Tryz.prog 69 [.agg #[.int .i64 x.k, .int .i64 x.n, sl]] G (fun v _ => v = .tuple #[.bool (rtwoF x x == 0 && x.n != 0), .int .i64 (rtwoF x x)]) := by
  obtain ⟨ad, cap, rfl⟩ := VT.rep_slice hr
  refine enterX ty tyok Tryz.func69 rfl Tryz.ntmps69 [.a [.v (.int .i64 x.k), .v (.int .i64 x.n), .v _]] (by simp) ?_
  intro C hP hQ hnt hty hmb hmh hro; have hQp := qp_body hQ; refine st_ ?_
  refine rn_ ?_; intros
  refine go_callf (by rw [hnt]; rfl) (by rw [hP]; kernel_rfl) rfl (hP ▸ rtwo_ok x x _ _ G hr hr hb hb) ?_; refine rn_ ?_; intros
  refine go_gsplit rfl rfl (fun g1 => ?_) (fun g1 => ?_) <;> (refine st_ ?_; (refine rn_ ?_; intros))
  · refine xc_ hQ hmb ?_; simp only [SV.den, resV, dens]
    simp [show rtwoF x x = 0 by simpa using g1]
  · refine xc_ hQ hmb ?_; simp only [SV.den, resV, dens]
    simp [show ¬ rtwoF x x = 0 by simpa using g1]
end Go.Proofs.YtpppkednpamhbaaGreat.R
namespace Go.Proofs.YtpppkednpamhbaaGreat.R
set_option linter.unusedSimpArgs false
set_option linter.unusedVariables false
open Go.Sx
set_option maxHeartbeats 16000000
set_option maxRecDepth 20000
def rfO (G : Hp) (ps : Value) (st : Int) (val : VT) (l : List Fm) (v : Value) : Prop := ∃ lsl vl, v = fibV ps lsl st val.k val.n vl ∧ fmS G l lsl ∧ val.rep G vl ∧ tsz val ≤ 1000
theorem rfO.mono {G G' : Hp} {ps : Value} {st : Int} {val : VT} {l : List Fm} {v : Value} (h : rfO G ps st val l v) (hl : Le G G') : rfO G' ps st val l v := by
  obtain ⟨lsl, vl, h1, h2, h3, h4⟩ := h
  exact ⟨lsl, vl, h1, h2.mono hl, VT.rep_mono hl h3, h4⟩
theorem vt0_rep (G : Hp) : vt0.rep G (.slice none 0 0) := ⟨by simp [isI64], by simp [isI64], by simp, none, 0, rfl, .inl rfl⟩
theorem rfO_wrong (G : Hp) (ps : Value) : rfO G ps 4 vt0 [] (fibV ps (.slice none 0 0) 4 0 0 (.slice none 0 0)) := ⟨_, _, rfl, ⟨Rp.S_nil none 0, fun _ _ _ e => by cases e; simp⟩, vt0_rep G, by simp [vt0, tsz, tszL]⟩
theorem rready_ok (ps : Value) (st : Int) (p : Pr) (m : Fm) (l : List Fm) (nd : Nd) (v0 : Value) (o : Int × List Fm) (G : Hp) (hp : rF.S G p ps) (h0 : rfO G ps st vt0 (m :: l) v0) (hnd : ndAt p m.fn m.nd = some nd) (hlm : l.length ≤ 300) (ho : readyF nd m l = some o) :
    Pure Tryz.prog 71 [v0] G (fun v G' => rfO G' ps o.1 vt0 o.2 v) := by
  obtain ⟨lsl, vl, rfl, hL, hvl, _⟩ := h0
  obtain ⟨vA, vC, rfl⟩ := VT.rep_slice hvl
  obtain ⟨pA, pC, rfl⟩ := Rp.S_slice hp
  obtain ⟨aL, cL, rfl⟩ := Rp.S_slice hL.1
  have hlast := rlast_ok (.slice pA p.length pC) (.slice aL (m :: l).reverse.length cL) (.slice vA vt0.l.length vC) st vt0.k vt0.n p m l nd G hp hL.1 ⟨_, _, _, rfl⟩ hnd hlm
  unfold readyF at ho
  refine enterX ty tyok Tryz.func71 rfl Tryz.ntmps71 [.a [.v (.slice pA p.length pC), .v (.slice aL (m :: l).reverse.length cL), .v (.int .i64 st), .v (.int .i64 vt0.k), .v (.int .i64 vt0.n), .v (.slice vA vt0.l.length vC)]] (by simp) ?_
  intro C hP hQ hnt hty hmb hmh hro; have hQp := qp_body hQ; refine st_ ?_
  refine rn_ ?_; intros
  refine go_call (by rw [hnt]; rfl) (by rw [hP]; kernel_rfl) rfl (hP ▸ hlast) ?_
  rintro _ G1 (hle1 : Le G G1) ⟨av, cw, ad, cd, an, cn, rfl, hsv, hsd, hrI, g1, g2, i1, i2⟩
  refine rn_ ?_; intros
  refine x_split rfl rfl rfl (fun h14 => ?_) (fun h14 => ?_) <;> (refine st_ ?_; (refine ru_ ?_; intros))
  · have hop : nd.op = 14 := by simpa using h14
    simp only [hop, Int.reduceEq, if_false, or_true, if_true] at ho
    injection ho with ho
    subst ho
    refine rn_ ?_; intros
    refine xc_ hQ hmb ?_; simp only [SV.den, resV, dens]
    exact ⟨_, _, rfl, hL.mono hle1, VT.rep_mono hle1 hvl, by simp [vt0, tsz, tszL]⟩
  have h14 : ¬ nd.op = 14 := by simpa using h14
  refine rn_ ?_; intros
  refine x_split rfl rfl rfl (fun h15 => ?_) (fun h15 => ?_) <;> (refine st_ ?_; (refine ru_ ?_; intros))
  · have hop : nd.op = 15 := by simpa using h15
    simp only [hop, Int.reduceEq, if_false, true_or, if_true] at ho
    injection ho with ho
    subst ho
    refine rn_ ?_; intros
    refine xc_ hQ hmb ?_; simp only [SV.den, resV, dens]
    exact ⟨_, _, rfl, hL.mono hle1, VT.rep_mono hle1 hvl, by simp [vt0, tsz, tszL]⟩
  have h15 : ¬ nd.op = 15 := by simpa using h15
  refine rn_ ?_; intros
  refine x_split rfl rfl rfl (fun h24 => ?_) (fun h24 => ?_) <;> (refine st_ ?_; (refine ru_ ?_; intros))
  · have hop : nd.op = 24 := by simpa using h24
    rw [if_pos hop] at ho
    cases hdd : m.done with
    | nil => rw [hdd] at ho; cases ho
    | cons y t =>
    rw [hdd] at ho
    simp only [] at ho
    rw [hdd] at hsd
    obtain ⟨bD, oD, s0, rfl, hat0, hr0, ht0⟩ := rW_at hsd (i := 0) (by simp)
    simp only [List.getElem_cons_zero] at hat0 hr0 ht0
    obtain ⟨a8, c8, rfl⟩ := VT.rep_slice hr0
    refine rn_ ?_; intros
    refine go_q (v := .pointer (some ⟨bD, oD + 0 * 3, none⟩)) (by rw [hnt]; rfl) ((quiet_index (by rw [hty]; rfl) (by rw [hty]; rfl) rfl rfl rfl (by omega) (by simp)).cast (by rfl)) ?_
    refine rn_ ?_; intros
    refine go_q (v := .agg #[.int .i64 y.k, .int .i64 y.n, .slice a8 y.l.length c8]) (by rw [hnt]; rfl) ((quiet_load (by rw [hty]; rfl) rfl (by simp [TK.agg]) hat0 rfl).cast (by rfl)) ?_
    refine rn_ ?_; intros
    refine go_callf (by rw [hnt]; rfl) (by rw [hP]; kernel_rfl) rfl (hP ▸ refIsEvent_ok y _ G1 hr0 (by omega)) ?_; refine rn_ ?_; intros
    cases hev : (vld y && evk y.k) with
    | true =>
      rw [hev, if_pos rfl] at ho
      injection ho with ho
      subst ho
      (refine x_split rfl rfl rfl (fun hc => absurd hc (by first | decide +kernel | (simp; first | done | fail))) (fun _ => ?_); refine st_ ?_; (refine ru_ ?_; intros))
      refine rn_ ?_; intros
      refine xc_ hQ hmb ?_; simp only [SV.den, resV, dens]
      exact ⟨_, _, rfl, hL.mono hle1, VT.rep_mono hle1 hvl, by simp [vt0, tsz, tszL]⟩
    | false =>
      rw [hev, if_neg (by decide)] at ho
      injection ho with ho
      subst ho
      (refine x_split rfl rfl rfl (fun _ => ?_) (fun hc => absurd hc (by first | decide +kernel | (simp; first | done | fail))); refine st_ ?_; (refine ru_ ?_; intros))
      refine rn_ ?_; intros
      refine go_callf (by rw [hnt]; rfl) (by rw [hP]; kernel_rfl) rfl (hP ▸ rwrong_ok _ _ _ _ _ _ _ ⟨_, _, _, rfl⟩ ⟨_, _, _, rfl⟩ ⟨_, _, _, rfl⟩) ?_; refine rn_ ?_; intros
      refine rn_ ?_; intros
      refine xc_ hQ hmb ?_; simp only [SV.den, resV, dens]
      exact rfO_wrong _ _
  · have h24 : ¬ nd.op = 24 := by simpa using h24
    rw [if_neg h24, if_neg (by omega)] at ho
    injection ho with ho
    subst ho
    refine rn_ ?_; intros
    refine xc_ hQ hmb ?_; simp only [SV.den, resV, dens]
    exact ⟨_, _, rfl, hL.mono hle1, VT.rep_mono hle1 hvl, by simp [vt0, tsz, tszL]⟩
theorem rmoreO_cases {G : Hp} {ps : Value} {vA : Option Addr} {vC : Nat} {st node : Int} {m : Fm} {l : List Fm} {v : Value} (h : rmoreO G ps (.slice vA 0 vC) st 0 0 node m l v) : ∃ a c1 c2 st' a' b n1, v = .tuple #[.agg #[ps, .slice a n1 c1, .int .i64 st', .int .i64 0, .int .i64 0, .slice a' 0 c2], .bool b] ∧
    ((b = false ∧ 256 ≤ l.length + 1 ∧ st' = 4 ∧ a = none ∧ n1 = 0 ∧ c1 = 0 ∧ a' = none ∧ c2 = 0) ∨ (b = true ∧ ¬ 256 ≤ l.length + 1 ∧ st' = st ∧ a' = vA ∧ c2 = vC ∧ fmS G (⟨m.fn, node, m.vars, []⟩ :: m :: l) (.slice a n1 c1))) := by
  unfold rmoreO at h
  split at h
  · rename_i h2
    exact ⟨none, 0, 0, 4, none, false, 0, h, .inl ⟨rfl, h2, rfl, rfl, rfl, rfl, rfl, rfl⟩⟩
  · rename_i h2
    obtain ⟨lsl, rfl, h3⟩ := h
    obtain ⟨a, c, rfl⟩ := Rp.S_slice h3.1
    exact ⟨a, c, vC, st, vA, true, _, rfl, .inr ⟨rfl, h2, rfl, rfl, rfl, h3⟩⟩
theorem tr_two (v : VT) : (trF v = none ∧ rtwoF v v ≠ 0) ∨ (trF v = some (v.n != 0) ∧ rtwoF v v = 0) := by
  unfold trF rtwoF
  cases vld v with
  | false => exact .inl ⟨rfl, by simp⟩
  | true =>
    cases v.k == 2 with
    | false => exact .inl ⟨rfl, by simp⟩
    | true => exact .inr ⟨rfl, rfl⟩
theorem vx_let {p : Pr} {x : Fm} {nd : Nd} {k : Int} {v : VT} (h : VX p x nd) (h4 : nd.op = 4) (hd : v ∈ x.done) (hk : nd.l[1]? = some k) : ∃ y, VX p ⟨x.fn, k, x.vars ++ [v], []⟩ y := by
  obtain ⟨hpos, hdn, hvv, hvd⟩ := h
  obtain ⟨hlt, y, hy⟩ := hpos.kid hk
  rw [if_pos ⟨h4, rfl⟩] at hy
  refine ⟨y, by simpa using hy, by simp, fun w hw => ?_, by simp⟩
  rcases List.mem_append.1 hw with hw | hw
  · exact hvv w hw
  · simp at hw; subst hw; exact hvd _ hd
theorem vx_kid {p : Pr} {x : Fm} {nd : Nd} {k : Int} {i : Nat} (h : VX p x nd) (hk : nd.l[i]? = some k) (hn : ¬ (nd.op = 4 ∧ i = 1)) : ∃ y, VX p ⟨x.fn, k, x.vars, []⟩ y := by
  obtain ⟨hpos, hdn, hvv, hvd⟩ := h
  obtain ⟨hlt, y, hy⟩ := hpos.kid hk
  rw [if_neg hn] at hy
  exact ⟨y, hy, by simp, hvv, by simp⟩
theorem rdown_ok (ps : Value) (st : Int) (p : Pr) (q : Nat) (m : Fm) (l : List Fm) (nd : Nd) (v0 : Value) (o : Int × List Fm) (G : Hp) (hp : rF.S G p ps) (h0 : rfO G ps st vt0 (m :: l) v0) (hvx : VX p m nd) (hl : l.length ≤ 255) (ho : downF p q (m :: l) = some o) :
    Pure Tryz.prog 39 [v0] G (fun v G' => rfO G' ps o.1 vt0 o.2 v) := by
  obtain ⟨lsl, vl, rfl, hL, hvl, _⟩ := h0
  obtain ⟨vA, vC, rfl⟩ := VT.rep_slice hvl
  obtain ⟨pA, pC, rfl⟩ := Rp.S_slice hp
  obtain ⟨aL, cL, rfl⟩ := Rp.S_slice hL.1
  change Pure _ _ [fibV (.slice pA p.length pC) (.slice aL (m :: l).reverse.length cL) st 0 0 (.slice vA 0 vC)] G _
  change vt0.rep G (.slice vA 0 vC) at hvl
  refine enterX ty tyok Tryz.func39 rfl Tryz.ntmps39 [.a [.v (.slice pA p.length pC), .v (.slice aL (m :: l).reverse.length cL), .v (.int .i64 st), .v (.int .i64 0), .v (.int .i64 0), .v (.slice vA 0 vC)]] (by simp) ?_
  intro C hP hQ hnt hty hmb hmh hro; have hQp := qp_body hQ; refine st_ ?_
  refine rn_ ?_; intros
  rename_i b1 b2
  refine go_keep [1, 2] [0, 1] ?_
  refine st_ ?_
  refine x_loop rfl (fun q' s => ∃ (m : Fm) (l : List Fm) (nd : Nd) (lsl : Value) (vA : Option Addr) (vC : Nat) (G1 : Hp), Le G G1 ∧ VX p m nd ∧ l.length ≤ 255 ∧ downF p q' (m :: l) = some o ∧ fmS G1 (m :: l) lsl ∧ vt0.rep G1 (.slice vA 0 vC) ∧
    s = ⟨[(1, .p 0 b1 0), (2, .p 1 b2 0)], [(0, b1, .c 44 [.v (.slice pA p.length pC), .v lsl, .v (.int .i64 st), .v (.int .i64 0), .v (.int .i64 0), .v (.slice vA 0 vC)]), (1, b2, .c 44 [.v (.slice none 0 0), .v (.slice none 0 0), .v (.int .i64 0), .v (.int .i64 0), .v (.int .i64 0), .v (.slice none 0 0)])], G1, []⟩) ⟨m, l, nd, _, vA, vC, G, Le.refl _, hvx, hl, ho, hL, hvl, rfl⟩ ?_
  clear hvl hL hvx hl ho
  rintro q' s ⟨m, l, nd, lsl, vA, vC, G1, hle1, hvx, hl, ho, hL, hvl, rfl⟩ ih
  cases q' with
  | zero => rw [downF] at ho; cases ho
  | succ q' =>
  obtain ⟨aL, cL, rfl⟩ := Rp.S_slice hL.1
  obtain ⟨B4, B5, B24, B11, B6, B1, B16, bo1, bo2⟩ := ben_len hvx.1.facts.2.1
  have hmany := hvx.2.1
  rw [downF, hvx.1.nd] at ho
  simp only [] at ho
  have hp1 := Rp.S_mono hle1 hp
  refine rn_ ?_; intros
  refine go_call (by rw [hnt]; rfl) (by rw [hP]; kernel_rfl) rfl (hP ▸ rlast_ok _ _ _ st 0 0 p m l nd G1 hp1 hL.1 ⟨_, _, _, rfl⟩ hvx.1.nd (by omega)) ?_
  rintro _ G2 (hle2 : Le G1 G2) ⟨av, cw, ad, cd, an, cn, rfl, hsv, hsd, hrI, g1, g2, i1, i2⟩
  have hle12 := hle1.trans hle2
  have hL2 := hL.mono hle2
  have hvl2 := VT.rep_mono hle2 hvl
  have hp2 := Rp.S_mono hle12 hp
  refine rn_ ?_; intros
  rename_i b3 b4
  refine go_keep [1, 2, 3, 4, 34] [0, 1, 2, 3] ?_
  refine st_ ?_
  refine go_gsplit rfl rfl (fun h4 => ?_) (fun h4 => ?_) <;> (refine st_ ?_; (refine rn_ ?_; intros))
  · have hop : nd.op = 4 := by simpa using h4
    have hl2 := B4 hop
    have hm1 : m.done.length ≤ 1 := by simpa [many, hop] using hmany
    refine x_split rfl rfl rfl (fun h41 => ?_) (fun h41 => ?_) <;> (refine st_ ?_; (refine ru_ ?_; intros))
    · have hd1 : m.done.length = 1 := by simp at h41; omega
      obtain ⟨v, hdd⟩ : ∃ v, m.done = [v] := List.length_eq_one_iff.1 hd1
      obtain ⟨k, hk⟩ : ∃ k, nd.l[1]? = some k := ⟨_, List.getElem?_eq_getElem (by omega)⟩
      rw [if_pos ⟨hop, hd1⟩, hk, hdd] at ho
      simp only [] at ho
      split at ho
      rotate_left
      · cases ho
      rename_i hvars
      obtain ⟨y, hy⟩ := vx_let hvx hop (v := v) (by rw [hdd]; simp) hk
      obtain ⟨bD, oD, s0, rfl, hat0, hr0, ht0⟩ := rW_at hsd (i := 0) (by omega)
      have e0 : m.done[0]'(by omega) = v := by simp [hdd]
      rw [e0] at hat0 hr0 ht0
      obtain ⟨a8, c8, rfl⟩ := VT.rep_slice hr0
      obtain ⟨hki, hk64, bN, oN, cN, eN, hatN⟩ := rI_get hrI hk
      injection eN with e1 e2 e3
      subst e1 e3
      obtain ⟨cs, hcs, hsrc⟩ := Rp.srcS hsv
      have hcl := Rp.L_len hcs
      simp only [rW] at hcl
      refine go_keep [1, 2, 3, 4] [0, 1, 2, 3] ?_
      refine st_ ?_
      refine x_heldP [(0, b1, .c 44 [.v (.slice pA p.length pC), .v (.slice aL (m :: l).reverse.length cL), .v (.int .i64 st), .v (.int .i64 0), .v (.int .i64 0), .v (.slice vA 0 vC)]), (2, b3, .c 96 [.v (.int .i64 m.fn), .v (.int .i64 m.nd), .v (.slice av m.vars.length cw), .v (.slice (some ⟨bD, oD, none⟩) m.done.length cd)]), (3, b4, .c 110 [.v (.int .i64 nd.op), .v (.int .i64 nd.n), .v (.slice (some ⟨bN, oN, none⟩) nd.l.length cn)])] 16 rfl (by rw [hP]; kernel_rfl) rfl rfl rfl ?_; refine st_ ?_
      refine hu_take 0 rfl (by kernel_rfl) (by kernel_rfl) (by kernel_rfl) (by kernel_rfl) rfl (fun c a w v => hQp c a w _ v) (by rw [hnt]; rfl) (allIn (by repeat (first | exact trivial | refine ⟨rfl, ?_⟩))) (by first | exact Le.refl _ | assumption) (quiet_op (by rw [hty]; first | rfl | (refine st_ ?_; rfl))) ?_; refine st_ ?_
      refine hu_take 1 rfl (by kernel_rfl) (by kernel_rfl) (by kernel_rfl) (by kernel_rfl) rfl (fun c a w v => hQp c a w _ v) (by rw [hnt]; rfl) (allIn (by repeat (first | exact trivial | refine ⟨rfl, ?_⟩))) (by first | exact Le.refl _ | assumption) (quiet_op (by rw [hty]; first | rfl | (refine st_ ?_; rfl))) ?_; refine st_ ?_
      refine hu_take 2 rfl (by kernel_rfl) (by kernel_rfl) (by kernel_rfl) (by kernel_rfl) rfl (fun c a w v => hQp c a w _ v) (by rw [hnt]; rfl) (allIn (by repeat (first | exact trivial | refine ⟨rfl, ?_⟩))) (by first | exact Le.refl _ | assumption) (quiet_op (by rw [hty]; first | rfl | (refine st_ ?_; rfl))) ?_; refine st_ ?_
      refine hu_take 3 rfl (by kernel_rfl) (by kernel_rfl) (by kernel_rfl) (by kernel_rfl) rfl (fun c a w v => hQp c a w _ v) (by rw [hnt]; rfl) (allIn (by repeat (first | exact trivial | refine ⟨rfl, ?_⟩))) (by first | exact Le.refl _ | assumption) (x := .v (.pointer (some ⟨bN, oN + 1 * 1, none⟩))) ((quiet_index (by rw [hty]; rfl) (by rw [hty]; rfl) rfl rfl rfl (by omega) (by omega)).cast (by simp [SV.den])) ?_
      refine st_ ?_
      refine hu_take 4 rfl (by kernel_rfl) (by kernel_rfl) (by kernel_rfl) (by kernel_rfl) rfl (fun c a w v => hQp c a w _ v) (by rw [hnt]; rfl) (allIn (by repeat (first | exact trivial | refine ⟨rfl, ?_⟩))) (by first | exact Le.refl _ | assumption) (x := .v (.int .i64 k)) ((quiet_load (by rw [hty]; rfl) rfl (by simp [TK.agg]) hatN rfl).cast (by rfl)) ?_
      refine st_ ?_
      refine hu_take 6 rfl (by kernel_rfl) (by kernel_rfl) (by kernel_rfl) (by kernel_rfl) rfl (fun c a w v => hQp c a w _ v) (by rw [hnt]; rfl) (allIn (by repeat (first | exact trivial | refine ⟨rfl, ?_⟩))) (by first | exact Le.refl _ | assumption) (quiet_op (by rw [hty]; first | rfl | (refine st_ ?_; rfl))) ?_; refine st_ ?_
      refine hu_take 7 rfl (by kernel_rfl) (by kernel_rfl) (by kernel_rfl) (by kernel_rfl) rfl (fun c a w v => hQp c a w _ v) (by rw [hnt]; rfl) (allIn (by repeat (first | exact trivial | refine ⟨rfl, ?_⟩))) (by first | exact Le.refl _ | assumption) (quiet_op (by rw [hty]; first | rfl | (refine st_ ?_; rfl))) ?_; refine st_ ?_
      refine hu_take 9 rfl (by kernel_rfl) (by kernel_rfl) (by kernel_rfl) (by kernel_rfl) rfl (fun c a w v => hQp c a w _ v) (by rw [hnt]; rfl) (allIn (by repeat (first | exact trivial | refine ⟨rfl, ?_⟩))) (by first | exact Le.refl _ | assumption) (quiet_op (by rw [hty]; first | rfl | (refine st_ ?_; rfl))) ?_; refine st_ ?_
      refine hu_take 10 rfl (by kernel_rfl) (by kernel_rfl) (by kernel_rfl) (by kernel_rfl) rfl (fun c a w v => hQp c a w _ v) (by rw [hnt]; rfl) (allIn (by repeat (first | exact trivial | refine ⟨rfl, ?_⟩))) (by first | exact Le.refl _ | assumption) (quiet_op (by rw [hty]; first | rfl | (refine st_ ?_; rfl))) ?_; refine st_ ?_
      refine hu_take 11 rfl (by kernel_rfl) (by kernel_rfl) (by kernel_rfl) (by kernel_rfl) rfl (fun c a w v => hQp c a w _ v) (by rw [hnt]; rfl) (allIn (by repeat (first | exact trivial | refine ⟨rfl, ?_⟩))) (by first | exact Le.refl _ | assumption) (x := .v (.pointer (some ⟨bD, oD + 0 * 3, none⟩))) ((quiet_index (by rw [hty]; rfl) (by rw [hty]; rfl) rfl rfl rfl (by omega) (by omega)).cast (by rfl)) ?_
      refine st_ ?_
      refine hu_take 12 rfl (by kernel_rfl) (by kernel_rfl) (by kernel_rfl) (by kernel_rfl) rfl (fun c a w v => hQp c a w _ v) (by rw [hnt]; rfl) (allIn (by repeat (first | exact trivial | refine ⟨rfl, ?_⟩))) (by first | exact Le.refl _ | assumption) (x := .a [.v (.int .i64 v.k), .v (.int .i64 v.n), .v (.slice a8 v.l.length c8)]) ((quiet_load (by rw [hty]; rfl) rfl (by simp [TK.agg]) hat0 rfl).cast (by rfl)) ?_
      refine st_ ?_
      refine hu_two 5 13 rfl rfl (by kernel_rfl) ?_ ?_
      · refine rn_ ?_; intros
        refine hs_ ?_
        refine hu_two 8 13 rfl rfl (by kernel_rfl) ?_ ?_
        · refine go_torowN 4 (n := 0) (size := 3) rfl rfl (by omega) ?_
          refine go_append_any 4 (by rw [hnt]; rfl) (by rw [hty]; rfl) (by rw [hty]; rfl) (by decide) rfl rfl rfl (by rw [hmh]; omega) rfl (hsrc.imp id fun f => f _ _ rfl) (by simp only []; omega) (Rp.L_one hcs) (by omega) (by simp only []; omega) ?_
          intro v6
          refine go_rowS 4 rfl ?_
          rintro ad6 cap6 rfl
          refine rn_ ?_; intros
          refine hs_ ?_
          refine hu_one 13 rfl (by kernel_rfl) ?_
          refine rn_ ?_; intros
          refine hs_ ?_
          refine hu_one 14 rfl (by kernel_rfl) ?_
          refine go_append 4 (by rw [hnt]; rfl) (by rw [hty]; rfl) (by rw [hty]; rfl) (by decide) rfl rfl rfl (by rw [hmh]; omega) rfl (src_own 3 rfl rfl) rfl (by simp [dens, SV.den, Value.oneCell']) (by omega) (by simp only []; omega) ?_
          intro v7
          refine go_rowS 4 rfl ?_
          rintro ad7 cap7 rfl
          refine rn_ ?_; intros
          refine hs_ ?_
          refine go_pubL rW 4 rfl (by rw [hmh]; omega) (ts := m.vars ++ [v]) (by simp) (by omega) (Rp.L_append hcs (Rp.L_single ⟨_, rfl, hr0, ht0⟩)) ?_
          intro G5 ad8 cap8 (hle5 : Le G2 G5) e8 hS8
          injection e8 with q1 q2 q3
          subst q1 q3
          refine hu_one 15 rfl (by kernel_rfl) ?_
          refine go_call (by rw [hnt]; rfl) (by rw [hP]; kernel_rfl) rfl (hP ▸ rmoves_ok _ _ _ st 0 0 k p m l nd (m.vars ++ [v]) _ G5 (Rp.S_mono hle5 hp2) (Rp.S_mono hle5 hL2.1) ⟨_, _, _, rfl⟩ hvx.1.nd (by omega) (by simpa [SV.den] using hS8) hk64) ?_
          rintro _ G6 (hle6 : Le G5 G6) ⟨lsl', rfl, hS2⟩
          have hle26 := hle5.trans hle6
          obtain ⟨a5, c5, rfl⟩ := Rp.S_slice hS2.1
          simp only [fibV]
          refine rn_ ?_; intros
          refine hs_ ?_
          refine hu_last 16 [] rfl (by kernel_rfl) rfl ?_
          refine rn_ ?_; intros
          refine h_end (by kernel_rfl) ?_
          refine rn_ ?_; intros
          refine go_keep [1, 2] [0, 1] ?_
          refine st_ ?_
          exact ih q' _ (by omega) ⟨⟨m.fn, k, m.vars ++ [v], []⟩, l, y, _, _, _, G6, hle12.trans (hle5.trans hle6), hy, hl, ho, hS2, VT.rep_mono (hle5.trans hle6) hvl2, rfl⟩
        · refine rn_ ?_; intros
          refine hs_ ?_
          refine hu_one 8 rfl (by kernel_rfl) ?_
          refine go_torowN 4 (n := 0) (size := 3) rfl rfl (by omega) ?_
          refine go_append_any 4 (by rw [hnt]; rfl) (by rw [hty]; rfl) (by rw [hty]; rfl) (by decide) rfl rfl rfl (by rw [hmh]; omega) rfl (hsrc.imp id fun f => f _ _ rfl) (by simp only []; omega) (Rp.L_one hcs) (by omega) (by simp only []; omega) ?_
          intro v6
          refine go_rowS 4 rfl ?_
          rintro ad6 cap6 rfl
          refine rn_ ?_; intros
          refine hs_ ?_
          refine hu_one 14 rfl (by kernel_rfl) ?_
          refine go_append 4 (by rw [hnt]; rfl) (by rw [hty]; rfl) (by rw [hty]; rfl) (by decide) rfl rfl rfl (by rw [hmh]; omega) rfl (src_own 3 rfl rfl) rfl (by simp [dens, SV.den, Value.oneCell']) (by omega) (by simp only []; omega) ?_
          intro v7
          refine go_rowS 4 rfl ?_
          rintro ad7 cap7 rfl
          refine rn_ ?_; intros
          refine hs_ ?_
          refine go_pubL rW 4 rfl (by rw [hmh]; omega) (ts := m.vars ++ [v]) (by simp) (by omega) (Rp.L_append hcs (Rp.L_single ⟨_, rfl, hr0, ht0⟩)) ?_
          intro G5 ad8 cap8 (hle5 : Le G2 G5) e8 hS8
          injection e8 with q1 q2 q3
          subst q1 q3
          refine hu_one 15 rfl (by kernel_rfl) ?_
          refine go_call (by rw [hnt]; rfl) (by rw [hP]; kernel_rfl) rfl (hP ▸ rmoves_ok _ _ _ st 0 0 k p m l nd (m.vars ++ [v]) _ G5 (Rp.S_mono hle5 hp2) (Rp.S_mono hle5 hL2.1) ⟨_, _, _, rfl⟩ hvx.1.nd (by omega) (by simpa [SV.den] using hS8) hk64) ?_
          rintro _ G6 (hle6 : Le G5 G6) ⟨lsl', rfl, hS2⟩
          have hle26 := hle5.trans hle6
          obtain ⟨a5, c5, rfl⟩ := Rp.S_slice hS2.1
          simp only [fibV]
          refine rn_ ?_; intros
          refine hs_ ?_
          refine hu_last 16 [] rfl (by kernel_rfl) rfl ?_
          refine rn_ ?_; intros
          refine h_end (by kernel_rfl) ?_
          refine rn_ ?_; intros
          refine go_keep [1, 2] [0, 1] ?_
          refine st_ ?_
          exact ih q' _ (by omega) ⟨⟨m.fn, k, m.vars ++ [v], []⟩, l, y, _, _, _, G6, hle12.trans (hle5.trans hle6), hy, hl, ho, hS2, VT.rep_mono (hle5.trans hle6) hvl2, rfl⟩
      · refine rn_ ?_; intros
        refine hs_ ?_
        refine hu_one 5 rfl (by kernel_rfl) ?_
        refine rn_ ?_; intros
        refine hs_ ?_
        refine hu_one 8 rfl (by kernel_rfl) ?_
        refine go_torowN 5 (n := 0) (size := 3) rfl rfl (by omega) ?_
        refine go_append_any 5 (by rw [hnt]; rfl) (by rw [hty]; rfl) (by rw [hty]; rfl) (by decide) rfl rfl rfl (by rw [hmh]; omega) rfl (hsrc.imp id fun f => f _ _ rfl) (by simp only []; omega) (Rp.L_one hcs) (by omega) (by simp only []; omega) ?_
        intro v6
        refine go_rowS 5 rfl ?_
        rintro ad6 cap6 rfl
        refine rn_ ?_; intros
        refine hs_ ?_
        refine hu_one 14 rfl (by kernel_rfl) ?_
        refine go_append 5 (by rw [hnt]; rfl) (by rw [hty]; rfl) (by rw [hty]; rfl) (by decide) rfl rfl rfl (by rw [hmh]; omega) rfl (src_own 3 rfl rfl) rfl (by simp [dens, SV.den, Value.oneCell']) (by omega) (by simp only []; omega) ?_
        intro v7
        refine go_rowS 5 rfl ?_
        rintro ad7 cap7 rfl
        refine rn_ ?_; intros
        refine hs_ ?_
        refine go_pubL rW 5 rfl (by rw [hmh]; omega) (ts := m.vars ++ [v]) (by simp) (by omega) (Rp.L_append hcs (Rp.L_single ⟨_, rfl, hr0, ht0⟩)) ?_
        intro G5 ad8 cap8 (hle5 : Le G2 G5) e8 hS8
        injection e8 with q1 q2 q3
        subst q1 q3
        refine hu_one 15 rfl (by kernel_rfl) ?_
        refine go_call (by rw [hnt]; rfl) (by rw [hP]; kernel_rfl) rfl (hP ▸ rmoves_ok _ _ _ st 0 0 k p m l nd (m.vars ++ [v]) _ G5 (Rp.S_mono hle5 hp2) (Rp.S_mono hle5 hL2.1) ⟨_, _, _, rfl⟩ hvx.1.nd (by omega) (by simpa [SV.den] using hS8) hk64) ?_
        rintro _ G6 (hle6 : Le G5 G6) ⟨lsl', rfl, hS2⟩
        have hle26 := hle5.trans hle6
        obtain ⟨a5, c5, rfl⟩ := Rp.S_slice hS2.1
        simp only [fibV]
        refine rn_ ?_; intros
        refine hs_ ?_
        refine hu_last 16 [] rfl (by kernel_rfl) rfl ?_
        refine rn_ ?_; intros
        refine h_end (by kernel_rfl) ?_
        refine rn_ ?_; intros
        refine go_keep [1, 2] [0, 1] ?_
        refine st_ ?_
        exact ih q' _ (by omega) ⟨⟨m.fn, k, m.vars ++ [v], []⟩, l, y, _, _, _, G6, hle12.trans (hle5.trans hle6), hy, hl, ho, hS2, VT.rep_mono (hle5.trans hle6) hvl2, rfl⟩
    · have hd0 : m.done.length = 0 := by simp at h41; omega
      rw [if_neg (by omega), if_neg (by omega), if_neg (by omega)] at ho
      refine rn_ ?_; intros
      (refine go_gsplit rfl rfl (fun hc => absurd hc (by simp [hop])) (fun _ => ?_); refine st_ ?_; (refine rn_ ?_; intros))
      (refine go_gsplit rfl rfl (fun hc => absurd hc (by simp [hop])) (fun _ => ?_); refine st_ ?_; (refine rn_ ?_; intros))
      have hlt2 : m.done.length < nd.l.length := by omega
      have hn : ¬ (nd.op = 4 ∧ m.done.length = 1) := by omega
      refine go_keep [1, 2, 3, 4] [0, 1, 2, 3] ?_
      refine st_ ?_
      obtain ⟨k, hk⟩ : ∃ k, nd.l[m.done.length]? = some k := ⟨_, List.getElem?_eq_getElem hlt2⟩
      obtain ⟨hki, hk64, bN, oN, cN, eN, hatN⟩ := rI_get hrI hk
      injection eN with e1 e2 e3
      subst e1 e3
      rw [hk] at ho
      simp only [] at ho
      refine x_heldP [(0, b1, .c 44 [.v (.slice pA p.length pC), .v (.slice aL (m :: l).reverse.length cL), .v (.int .i64 st), .v (.int .i64 0), .v (.int .i64 0), .v (.slice vA 0 vC)]), (2, b3, .c 96 [.v (.int .i64 m.fn), .v (.int .i64 m.nd), .v (.slice av m.vars.length cw), .v (.slice ad m.done.length cd)]), (3, b4, .c 110 [.v (.int .i64 nd.op), .v (.int .i64 nd.n), .v (.slice (some ⟨bN, oN, none⟩) nd.l.length cn)])] 13 rfl (by rw [hP]; kernel_rfl) rfl rfl rfl ?_; refine st_ ?_
      refine hu_take 0 rfl (by kernel_rfl) (by kernel_rfl) (by kernel_rfl) (by kernel_rfl) rfl (fun c a w v => hQp c a w _ v) (by rw [hnt]; rfl) (allIn (by repeat (first | exact trivial | refine ⟨rfl, ?_⟩))) (by first | exact Le.refl _ | assumption) (quiet_op (by rw [hty]; first | rfl | (refine st_ ?_; rfl))) ?_; refine st_ ?_
      refine hu_take 1 rfl (by kernel_rfl) (by kernel_rfl) (by kernel_rfl) (by kernel_rfl) rfl (fun c a w v => hQp c a w _ v) (by rw [hnt]; rfl) (allIn (by repeat (first | exact trivial | refine ⟨rfl, ?_⟩))) (by first | exact Le.refl _ | assumption) (quiet_op (by rw [hty]; first | rfl | (refine st_ ?_; rfl))) ?_; refine st_ ?_
      refine hu_take 2 rfl (by kernel_rfl) (by kernel_rfl) (by kernel_rfl) (by kernel_rfl) rfl (fun c a w v => hQp c a w _ v) (by rw [hnt]; rfl) (allIn (by repeat (first | exact trivial | refine ⟨rfl, ?_⟩))) (by first | exact Le.refl _ | assumption) (quiet_op (by rw [hty]; first | rfl | (refine st_ ?_; rfl))) ?_; refine st_ ?_
      refine hu_take 3 rfl (by kernel_rfl) (by kernel_rfl) (by kernel_rfl) (by kernel_rfl) rfl (fun c a w v => hQp c a w _ v) (by rw [hnt]; rfl) (allIn (by repeat (first | exact trivial | refine ⟨rfl, ?_⟩))) (by first | exact Le.refl _ | assumption) (quiet_op (by rw [hty]; first | rfl | (refine st_ ?_; rfl))) ?_; refine st_ ?_
      refine hu_take 4 rfl (by kernel_rfl) (by kernel_rfl) (by kernel_rfl) (by kernel_rfl) rfl (fun c a w v => hQp c a w _ v) (by rw [hnt]; rfl) (allIn (by repeat (first | exact trivial | refine ⟨rfl, ?_⟩))) (by first | exact Le.refl _ | assumption) (quiet_op (by rw [hty]; first | rfl | (refine st_ ?_; rfl))) ?_; refine st_ ?_
      refine hu_take 5 rfl (by kernel_rfl) (by kernel_rfl) (by kernel_rfl) (by kernel_rfl) rfl (fun c a w v => hQp c a w _ v) (by rw [hnt]; rfl) (allIn (by repeat (first | exact trivial | refine ⟨rfl, ?_⟩))) (by first | exact Le.refl _ | assumption) (quiet_op (by rw [hty]; first | rfl | (refine st_ ?_; rfl))) ?_; refine st_ ?_
      refine hu_take 6 rfl (by kernel_rfl) (by kernel_rfl) (by kernel_rfl) (by kernel_rfl) rfl (fun c a w v => hQp c a w _ v) (by rw [hnt]; rfl) (allIn (by repeat (first | exact trivial | refine ⟨rfl, ?_⟩))) (by first | exact Le.refl _ | assumption) (x := .v (.pointer (some ⟨bN, oN + m.done.length * 1, none⟩))) ((quiet_index (by rw [hty]; rfl) (by rw [hty]; rfl) rfl rfl rfl (by omega) (by omega)).cast (by simp [SV.den])) ?_
      refine st_ ?_
      refine hu_take 7 rfl (by kernel_rfl) (by kernel_rfl) (by kernel_rfl) (by kernel_rfl) rfl (fun c a w v => hQp c a w _ v) (by rw [hnt]; rfl) (allIn (by repeat (first | exact trivial | refine ⟨rfl, ?_⟩))) (by first | exact Le.refl _ | assumption) (x := .v (.int .i64 k)) ((quiet_load (by rw [hty]; rfl) rfl (by simp [TK.agg]) hatN rfl).cast (by rfl)) ?_
      refine st_ ?_
      refine hu_two 8 12 rfl rfl (by kernel_rfl) ?_ ?_
      · refine go_call (by rw [hnt]; rfl) (by rw [hP]; kernel_rfl) rfl (hP ▸ rmore_ok _ _ _ st 0 0 k p m l nd G2 hp2 hL2.1 ⟨_, _, _, rfl⟩ hvx.1.nd (by omega) hk64) ?_
        rintro _ G3 (hle3 : Le G2 G3) hq9
        obtain ⟨a9, c9, c8, st9, a8, fine, n9, rfl, hcs⟩ := rmoreO_cases hq9
        refine rn_ ?_; intros
        refine hs_ ?_
        refine hu_take0 9 rfl (by kernel_rfl) (by kernel_rfl) (by kernel_rfl) (by decide) (fun c a w v => hQp c a w _ v) (by rw [hnt]; rfl) (allIn (by repeat (first | exact trivial | refine ⟨rfl, ?_⟩))) (by first | exact Le.refl _ | assumption) (quiet_op (by rw [hty]; first | rfl | (refine st_ ?_; rfl))) ?_; refine st_ ?_
        refine hu_take0 10 rfl (by kernel_rfl) (by kernel_rfl) (by kernel_rfl) (by decide) (fun c a w v => hQp c a w _ v) (by rw [hnt]; rfl) (allIn (by repeat (first | exact trivial | refine ⟨rfl, ?_⟩))) (by first | exact Le.refl _ | assumption) (quiet_op (by rw [hty]; first | rfl | (refine st_ ?_; rfl))) ?_; refine st_ ?_
        refine hu_take0 11 rfl (by kernel_rfl) (by kernel_rfl) (by kernel_rfl) (by decide) (fun c a w v => hQp c a w _ v) (by rw [hnt]; rfl) (allIn (by repeat (first | exact trivial | refine ⟨rfl, ?_⟩))) (by first | exact Le.refl _ | assumption) (quiet_op (by rw [hty]; first | rfl | (refine st_ ?_; rfl))) ?_; refine st_ ?_
        refine hu_one 12 rfl (by kernel_rfl) ?_
        refine rn_ ?_; intros
        refine hs_ ?_
        refine hu_last 13 [] rfl (by kernel_rfl) rfl ?_
        refine rn_ ?_; intros
        refine h_one 14 rfl (by kernel_rfl) ?_
        refine rn_ ?_; intros
        refine hs_ ?_
        refine h_end (by kernel_rfl) ?_
        refine rn_ ?_; intros
        rcases hcs with ⟨rfl, h256, rfl, rfl, rfl, rfl, rfl, rfl⟩ | ⟨rfl, h256, rfl, rfl, rfl, hS⟩
        · rw [if_pos h256] at ho
          injection ho with ho
          subst ho
          (refine x_split rfl rfl rfl (fun _ => ?_) (fun hc => absurd hc (by first | decide +kernel | (simp; first | done | fail))); refine st_ ?_; (refine ru_ ?_; intros))
          refine rn_ ?_; intros
          refine xc_ hQ hmb ?_; simp only [SV.den, resV, dens]
          exact rfO_wrong _ _
        · rw [if_neg h256] at ho
          (refine x_split rfl rfl rfl (fun hc => absurd hc (by first | decide +kernel | (simp; first | done | fail))) (fun _ => ?_); refine st_ ?_; (refine ru_ ?_; intros))
          refine rn_ ?_; intros
          refine go_keep [1, 2] [0, 1] ?_
          refine st_ ?_
          obtain ⟨y, hy⟩ := vx_kid hvx hk hn
          exact ih q' _ (by omega) ⟨⟨m.fn, k, m.vars, []⟩, m :: l, y, _, _, _, G3, hle12.trans hle3, hy, by simp; omega, ho, hS, VT.rep_mono hle3 hvl2, rfl⟩
      · refine rn_ ?_; intros
        refine hs_ ?_
        refine hu_one 8 rfl (by kernel_rfl) ?_
        refine go_call (by rw [hnt]; rfl) (by rw [hP]; kernel_rfl) rfl (hP ▸ rmore_ok _ _ _ st 0 0 k p m l nd G2 hp2 hL2.1 ⟨_, _, _, rfl⟩ hvx.1.nd (by omega) hk64) ?_
        rintro _ G3 (hle3 : Le G2 G3) hq9
        obtain ⟨a9, c9, c8, st9, a8, fine, n9, rfl, hcs⟩ := rmoreO_cases hq9
        refine rn_ ?_; intros
        refine hs_ ?_
        refine hu_take0 9 rfl (by kernel_rfl) (by kernel_rfl) (by kernel_rfl) (by decide) (fun c a w v => hQp c a w _ v) (by rw [hnt]; rfl) (allIn (by repeat (first | exact trivial | refine ⟨rfl, ?_⟩))) (by first | exact Le.refl _ | assumption) (quiet_op (by rw [hty]; first | rfl | (refine st_ ?_; rfl))) ?_; refine st_ ?_
        refine hu_take0 10 rfl (by kernel_rfl) (by kernel_rfl) (by kernel_rfl) (by decide) (fun c a w v => hQp c a w _ v) (by rw [hnt]; rfl) (allIn (by repeat (first | exact trivial | refine ⟨rfl, ?_⟩))) (by first | exact Le.refl _ | assumption) (quiet_op (by rw [hty]; first | rfl | (refine st_ ?_; rfl))) ?_; refine st_ ?_
        refine hu_take0 11 rfl (by kernel_rfl) (by kernel_rfl) (by kernel_rfl) (by decide) (fun c a w v => hQp c a w _ v) (by rw [hnt]; rfl) (allIn (by repeat (first | exact trivial | refine ⟨rfl, ?_⟩))) (by first | exact Le.refl _ | assumption) (quiet_op (by rw [hty]; first | rfl | (refine st_ ?_; rfl))) ?_; refine st_ ?_
        refine hu_last 13 [] rfl (by kernel_rfl) rfl ?_
        refine rn_ ?_; intros
        refine h_one 14 rfl (by kernel_rfl) ?_
        refine rn_ ?_; intros
        refine hs_ ?_
        refine h_end (by kernel_rfl) ?_
        refine rn_ ?_; intros
        rcases hcs with ⟨rfl, h256, rfl, rfl, rfl, rfl, rfl, rfl⟩ | ⟨rfl, h256, rfl, rfl, rfl, hS⟩
        · rw [if_pos h256] at ho
          injection ho with ho
          subst ho
          (refine x_split rfl rfl rfl (fun _ => ?_) (fun hc => absurd hc (by first | decide +kernel | (simp; first | done | fail))); refine st_ ?_; (refine ru_ ?_; intros))
          refine rn_ ?_; intros
          refine xc_ hQ hmb ?_; simp only [SV.den, resV, dens]
          exact rfO_wrong _ _
        · rw [if_neg h256] at ho
          (refine x_split rfl rfl rfl (fun hc => absurd hc (by first | decide +kernel | (simp; first | done | fail))) (fun _ => ?_); refine st_ ?_; (refine ru_ ?_; intros))
          refine rn_ ?_; intros
          refine go_keep [1, 2] [0, 1] ?_
          refine st_ ?_
          obtain ⟨y, hy⟩ := vx_kid hvx hk hn
          exact ih q' _ (by omega) ⟨⟨m.fn, k, m.vars, []⟩, m :: l, y, _, _, _, G3, hle12.trans hle3, hy, by simp; omega, ho, hS, VT.rep_mono hle3 hvl2, rfl⟩
  · have h4 : ¬ nd.op = 4 := by simpa using h4
    rw [if_neg (by omega)] at ho
    refine go_gsplit rfl rfl (fun h5 => ?_) (fun h5 => ?_) <;> (refine st_ ?_; (refine rn_ ?_; intros))
    · have hop : nd.op = 5 := by simpa using h5
      have hl3 := B5 hop
      have hm1 : m.done.length ≤ 1 := by simpa [many, hop] using hmany
      refine x_split rfl rfl rfl (fun h51 => ?_) (fun h51 => ?_) <;> (refine st_ ?_; (refine ru_ ?_; intros))
      · have hd1 : m.done.length = 1 := by simp at h51; omega
        obtain ⟨v, hdd⟩ : ∃ v, m.done = [v] := List.length_eq_one_iff.1 hd1
        obtain ⟨k1, hk1⟩ : ∃ k, nd.l[1]? = some k := ⟨_, List.getElem?_eq_getElem (by omega)⟩
        obtain ⟨k2, hk2⟩ : ∃ k, nd.l[2]? = some k := ⟨_, List.getElem?_eq_getElem (by omega)⟩
        rw [if_pos ⟨hop, hd1⟩, hdd, hk1, hk2] at ho
        simp only [] at ho
        obtain ⟨bD, oD, s0, rfl, hat0, hr0, ht0⟩ := rW_at hsd (i := 0) (by omega)
        have e0 : m.done[0]'(by omega) = v := by simp [hdd]
        rw [e0] at hat0 hr0 ht0
        obtain ⟨a8, c8, rfl⟩ := VT.rep_slice hr0
        refine rn_ ?_; intros
        refine go_q (v := .pointer (some ⟨bD, oD + 0 * 3, none⟩)) (by rw [hnt]; rfl) ((quiet_index (by rw [hty]; rfl) (by rw [hty]; rfl) rfl rfl rfl (by omega) (by omega)).cast (by rfl)) ?_
        refine rn_ ?_; intros
        refine go_q (v := .agg #[.int .i64 v.k, .int .i64 v.n, .slice a8 v.l.length c8]) (by rw [hnt]; rfl) ((quiet_load (by rw [hty]; rfl) rfl (by simp [TK.agg]) hat0 rfl).cast (by rfl)) ?_
        refine rn_ ?_; intros
        refine go_callf (by rw [hnt]; rfl) (by rw [hP]; kernel_rfl) rfl (hP ▸ rtruth_ok v _ G2 hr0 (by omega)) ?_; refine rn_ ?_; intros
        rcases tr_two v with ⟨q1, q2⟩ | ⟨q1, q2⟩
        · rw [q1] at ho
          simp only [] at ho
          injection ho with ho
          subst ho
          refine x_split rfl rfl rfl (fun h9 => ?_) (fun h9 => ?_) <;> (refine st_ ?_; (refine ru_ ?_; intros))
          rotate_left
          · exact absurd q2 (by simpa using h9)
          refine rn_ ?_; intros
          refine go_callf (by rw [hnt]; rfl) (by rw [hP]; kernel_rfl) rfl (hP ▸ rwrong_ok _ _ _ _ _ _ _ ⟨_, _, _, rfl⟩ ⟨_, _, _, rfl⟩ ⟨_, _, _, rfl⟩) ?_; refine rn_ ?_; intros
          refine xc_ hQ hmb ?_; simp only [SV.den, resV, dens]
          exact rfO_wrong _ _
        · rw [q1] at ho
          simp only [] at ho
          refine x_split rfl rfl rfl (fun h9 => ?_) (fun h9 => ?_) <;> (refine st_ ?_; (refine ru_ ?_; intros))
          · exact absurd q2 (by simpa using h9)
          refine rn_ ?_; intros
          refine x_split rfl rfl rfl (fun h7 => ?_) (fun h7 => ?_) <;> (refine st_ ?_; (refine ru_ ?_; intros))
          · have hb : (v.n != 0) = true := by rw [q2] at h7; simpa using h7
            rw [hb] at ho
            simp only [if_true] at ho
            obtain ⟨hki, hk64, bN, oN, cN, eN, hatN⟩ := rI_get hrI hk1
            injection eN with e1 e2 e3
            subst e1 e3
            refine go_keep [1, 2, 3, 4] [0, 1, 2, 3] ?_
            refine st_ ?_
            refine x_heldP [(0, b1, .c 44 [.v (.slice pA p.length pC), .v (.slice aL (m :: l).reverse.length cL), .v (.int .i64 st), .v (.int .i64 0), .v (.int .i64 0), .v (.slice vA 0 vC)]), (2, b3, .c 96 [.v (.int .i64 m.fn), .v (.int .i64 m.nd), .v (.slice av m.vars.length cw), .v (.slice (some ⟨bD, oD, none⟩) m.done.length cd)]), (3, b4, .c 110 [.v (.int .i64 nd.op), .v (.int .i64 nd.n), .v (.slice (some ⟨bN, oN, none⟩) nd.l.length cn)])] 8 rfl (by rw [hP]; kernel_rfl) rfl rfl rfl ?_; refine st_ ?_
            refine hu_take 0 rfl (by kernel_rfl) (by kernel_rfl) (by kernel_rfl) (by kernel_rfl) rfl (fun c a w v => hQp c a w _ v) (by rw [hnt]; rfl) (allIn (by repeat (first | exact trivial | refine ⟨rfl, ?_⟩))) (by first | exact Le.refl _ | assumption) (quiet_op (by rw [hty]; first | rfl | (refine st_ ?_; rfl))) ?_; refine st_ ?_
            refine hu_take 1 rfl (by kernel_rfl) (by kernel_rfl) (by kernel_rfl) (by kernel_rfl) rfl (fun c a w v => hQp c a w _ v) (by rw [hnt]; rfl) (allIn (by repeat (first | exact trivial | refine ⟨rfl, ?_⟩))) (by first | exact Le.refl _ | assumption) (quiet_op (by rw [hty]; first | rfl | (refine st_ ?_; rfl))) ?_; refine st_ ?_
            refine hu_take 2 rfl (by kernel_rfl) (by kernel_rfl) (by kernel_rfl) (by kernel_rfl) rfl (fun c a w v => hQp c a w _ v) (by rw [hnt]; rfl) (allIn (by repeat (first | exact trivial | refine ⟨rfl, ?_⟩))) (by first | exact Le.refl _ | assumption) (quiet_op (by rw [hty]; first | rfl | (refine st_ ?_; rfl))) ?_; refine st_ ?_
            refine hu_take 3 rfl (by kernel_rfl) (by kernel_rfl) (by kernel_rfl) (by kernel_rfl) rfl (fun c a w v => hQp c a w _ v) (by rw [hnt]; rfl) (allIn (by repeat (first | exact trivial | refine ⟨rfl, ?_⟩))) (by first | exact Le.refl _ | assumption) (x := .v (.pointer (some ⟨bN, oN + 1 * 1, none⟩))) ((quiet_index (by rw [hty]; rfl) (by rw [hty]; rfl) rfl rfl rfl (by omega) (by omega)).cast (by simp [SV.den])) ?_
            refine st_ ?_
            refine hu_take 4 rfl (by kernel_rfl) (by kernel_rfl) (by kernel_rfl) (by kernel_rfl) rfl (fun c a w v => hQp c a w _ v) (by rw [hnt]; rfl) (allIn (by repeat (first | exact trivial | refine ⟨rfl, ?_⟩))) (by first | exact Le.refl _ | assumption) (x := .v (.int .i64 k1)) ((quiet_load (by rw [hty]; rfl) rfl (by simp [TK.agg]) hatN rfl).cast (by rfl)) ?_
            refine st_ ?_
            refine hu_take 5 rfl (by kernel_rfl) (by kernel_rfl) (by kernel_rfl) (by kernel_rfl) rfl (fun c a w v => hQp c a w _ v) (by rw [hnt]; rfl) (allIn (by repeat (first | exact trivial | refine ⟨rfl, ?_⟩))) (by first | exact Le.refl _ | assumption) (quiet_op (by rw [hty]; first | rfl | (refine st_ ?_; rfl))) ?_; refine st_ ?_
            refine hu_take 6 rfl (by kernel_rfl) (by kernel_rfl) (by kernel_rfl) (by kernel_rfl) rfl (fun c a w v => hQp c a w _ v) (by rw [hnt]; rfl) (allIn (by repeat (first | exact trivial | refine ⟨rfl, ?_⟩))) (by first | exact Le.refl _ | assumption) (quiet_op (by rw [hty]; first | rfl | (refine st_ ?_; rfl))) ?_; refine st_ ?_
            refine hu_one 7 rfl (by kernel_rfl) ?_
            refine go_call (by rw [hnt]; rfl) (by rw [hP]; kernel_rfl) rfl (hP ▸ rmoves_ok _ _ _ st 0 0 k1 p m l nd m.vars _ G2 hp2 hL2.1 ⟨_, _, _, rfl⟩ hvx.1.nd (by omega) hsv hk64) ?_
            rintro _ G6 (hle6 : Le G2 G6) ⟨lsl', rfl, hS2⟩
            obtain ⟨a5, c5, rfl⟩ := Rp.S_slice hS2.1
            simp only [fibV]
            refine rn_ ?_; intros
            refine hs_ ?_
            refine hu_last 8 [] rfl (by kernel_rfl) rfl ?_
            refine rn_ ?_; intros
            refine h_end (by kernel_rfl) ?_
            refine rn_ ?_; intros
            refine go_keep [1, 2] [0, 1] ?_
            refine st_ ?_
            obtain ⟨y, hy⟩ := vx_kid hvx hk1 (by omega)
            exact ih q' _ (by omega) ⟨⟨m.fn, k1, m.vars, []⟩, l, y, _, _, _, G6, hle12.trans hle6, hy, hl, ho, hS2, VT.rep_mono hle6 hvl2, rfl⟩
          · have hb : (v.n != 0) = false := by rw [q2] at h7; simpa using h7
            rw [hb] at ho
            simp only [Bool.false_eq_true, if_false] at ho
            obtain ⟨hki, hk64, bN, oN, cN, eN, hatN⟩ := rI_get hrI hk2
            injection eN with e1 e2 e3
            subst e1 e3
            refine go_keep [1, 2, 3, 4] [0, 1, 2, 3] ?_
            refine st_ ?_
            refine x_heldP [(0, b1, .c 44 [.v (.slice pA p.length pC), .v (.slice aL (m :: l).reverse.length cL), .v (.int .i64 st), .v (.int .i64 0), .v (.int .i64 0), .v (.slice vA 0 vC)]), (2, b3, .c 96 [.v (.int .i64 m.fn), .v (.int .i64 m.nd), .v (.slice av m.vars.length cw), .v (.slice (some ⟨bD, oD, none⟩) m.done.length cd)]), (3, b4, .c 110 [.v (.int .i64 nd.op), .v (.int .i64 nd.n), .v (.slice (some ⟨bN, oN, none⟩) nd.l.length cn)])] 8 rfl (by rw [hP]; kernel_rfl) rfl rfl rfl ?_; refine st_ ?_
            refine hu_take 0 rfl (by kernel_rfl) (by kernel_rfl) (by kernel_rfl) (by kernel_rfl) rfl (fun c a w v => hQp c a w _ v) (by rw [hnt]; rfl) (allIn (by repeat (first | exact trivial | refine ⟨rfl, ?_⟩))) (by first | exact Le.refl _ | assumption) (quiet_op (by rw [hty]; first | rfl | (refine st_ ?_; rfl))) ?_; refine st_ ?_
            refine hu_take 1 rfl (by kernel_rfl) (by kernel_rfl) (by kernel_rfl) (by kernel_rfl) rfl (fun c a w v => hQp c a w _ v) (by rw [hnt]; rfl) (allIn (by repeat (first | exact trivial | refine ⟨rfl, ?_⟩))) (by first | exact Le.refl _ | assumption) (quiet_op (by rw [hty]; first | rfl | (refine st_ ?_; rfl))) ?_; refine st_ ?_
            refine hu_take 2 rfl (by kernel_rfl) (by kernel_rfl) (by kernel_rfl) (by kernel_rfl) rfl (fun c a w v => hQp c a w _ v) (by rw [hnt]; rfl) (allIn (by repeat (first | exact trivial | refine ⟨rfl, ?_⟩))) (by first | exact Le.refl _ | assumption) (quiet_op (by rw [hty]; first | rfl | (refine st_ ?_; rfl))) ?_; refine st_ ?_
            refine hu_take 3 rfl (by kernel_rfl) (by kernel_rfl) (by kernel_rfl) (by kernel_rfl) rfl (fun c a w v => hQp c a w _ v) (by rw [hnt]; rfl) (allIn (by repeat (first | exact trivial | refine ⟨rfl, ?_⟩))) (by first | exact Le.refl _ | assumption) (x := .v (.pointer (some ⟨bN, oN + 2 * 1, none⟩))) ((quiet_index (by rw [hty]; rfl) (by rw [hty]; rfl) rfl rfl rfl (by omega) (by omega)).cast (by simp [SV.den])) ?_
            refine st_ ?_
            refine hu_take 4 rfl (by kernel_rfl) (by kernel_rfl) (by kernel_rfl) (by kernel_rfl) rfl (fun c a w v => hQp c a w _ v) (by rw [hnt]; rfl) (allIn (by repeat (first | exact trivial | refine ⟨rfl, ?_⟩))) (by first | exact Le.refl _ | assumption) (x := .v (.int .i64 k2)) ((quiet_load (by rw [hty]; rfl) rfl (by simp [TK.agg]) hatN rfl).cast (by rfl)) ?_
            refine st_ ?_
            refine hu_take 5 rfl (by kernel_rfl) (by kernel_rfl) (by kernel_rfl) (by kernel_rfl) rfl (fun c a w v => hQp c a w _ v) (by rw [hnt]; rfl) (allIn (by repeat (first | exact trivial | refine ⟨rfl, ?_⟩))) (by first | exact Le.refl _ | assumption) (quiet_op (by rw [hty]; first | rfl | (refine st_ ?_; rfl))) ?_; refine st_ ?_
            refine hu_take 6 rfl (by kernel_rfl) (by kernel_rfl) (by kernel_rfl) (by kernel_rfl) rfl (fun c a w v => hQp c a w _ v) (by rw [hnt]; rfl) (allIn (by repeat (first | exact trivial | refine ⟨rfl, ?_⟩))) (by first | exact Le.refl _ | assumption) (quiet_op (by rw [hty]; first | rfl | (refine st_ ?_; rfl))) ?_; refine st_ ?_
            refine hu_one 7 rfl (by kernel_rfl) ?_
            refine go_call (by rw [hnt]; rfl) (by rw [hP]; kernel_rfl) rfl (hP ▸ rmoves_ok _ _ _ st 0 0 k2 p m l nd m.vars _ G2 hp2 hL2.1 ⟨_, _, _, rfl⟩ hvx.1.nd (by omega) hsv hk64) ?_
            rintro _ G6 (hle6 : Le G2 G6) ⟨lsl', rfl, hS2⟩
            obtain ⟨a5, c5, rfl⟩ := Rp.S_slice hS2.1
            simp only [fibV]
            refine rn_ ?_; intros
            refine hs_ ?_
            refine hu_last 8 [] rfl (by kernel_rfl) rfl ?_
            refine rn_ ?_; intros
            refine h_end (by kernel_rfl) ?_
            refine rn_ ?_; intros
            refine go_keep [1, 2] [0, 1] ?_
            refine st_ ?_
            obtain ⟨y, hy⟩ := vx_kid hvx hk2 (by omega)
            exact ih q' _ (by omega) ⟨⟨m.fn, k2, m.vars, []⟩, l, y, _, _, _, G6, hle12.trans hle6, hy, hl, ho, hS2, VT.rep_mono hle6 hvl2, rfl⟩
      · have hd0 : m.done.length = 0 := by simp at h51; omega
        rw [if_neg (by omega), if_neg (by omega)] at ho
        refine rn_ ?_; intros
        (refine go_gsplit rfl rfl (fun _ => ?_) (fun hc => absurd hc (by simp [hop])); refine st_ ?_; (refine rn_ ?_; intros))
        (refine go_gsplit rfl rfl (fun hc => absurd hc (by simp [hop])) (fun _ => ?_); refine st_ ?_; (refine rn_ ?_; intros))
        have hlt2 : m.done.length < nd.l.length := by omega
        have hn : ¬ (nd.op = 4 ∧ m.done.length = 1) := by omega
        refine go_keep [1, 2, 3, 4] [0, 1, 2, 3] ?_
        refine st_ ?_
        obtain ⟨k, hk⟩ : ∃ k, nd.l[m.done.length]? = some k := ⟨_, List.getElem?_eq_getElem hlt2⟩
        obtain ⟨hki, hk64, bN, oN, cN, eN, hatN⟩ := rI_get hrI hk
        injection eN with e1 e2 e3
        subst e1 e3
        rw [hk] at ho
        simp only [] at ho
        refine x_heldP [(0, b1, .c 44 [.v (.slice pA p.length pC), .v (.slice aL (m :: l).reverse.length cL), .v (.int .i64 st), .v (.int .i64 0), .v (.int .i64 0), .v (.slice vA 0 vC)]), (2, b3, .c 96 [.v (.int .i64 m.fn), .v (.int .i64 m.nd), .v (.slice av m.vars.length cw), .v (.slice ad m.done.length cd)]), (3, b4, .c 110 [.v (.int .i64 nd.op), .v (.int .i64 nd.n), .v (.slice (some ⟨bN, oN, none⟩) nd.l.length cn)])] 13 rfl (by rw [hP]; kernel_rfl) rfl rfl rfl ?_; refine st_ ?_
        refine hu_take 0 rfl (by kernel_rfl) (by kernel_rfl) (by kernel_rfl) (by kernel_rfl) rfl (fun c a w v => hQp c a w _ v) (by rw [hnt]; rfl) (allIn (by repeat (first | exact trivial | refine ⟨rfl, ?_⟩))) (by first | exact Le.refl _ | assumption) (quiet_op (by rw [hty]; first | rfl | (refine st_ ?_; rfl))) ?_; refine st_ ?_
        refine hu_take 1 rfl (by kernel_rfl) (by kernel_rfl) (by kernel_rfl) (by kernel_rfl) rfl (fun c a w v => hQp c a w _ v) (by rw [hnt]; rfl) (allIn (by repeat (first | exact trivial | refine ⟨rfl, ?_⟩))) (by first | exact Le.refl _ | assumption) (quiet_op (by rw [hty]; first | rfl | (refine st_ ?_; rfl))) ?_; refine st_ ?_
        refine hu_take 2 rfl (by kernel_rfl) (by kernel_rfl) (by kernel_rfl) (by kernel_rfl) rfl (fun c a w v => hQp c a w _ v) (by rw [hnt]; rfl) (allIn (by repeat (first | exact trivial | refine ⟨rfl, ?_⟩))) (by first | exact Le.refl _ | assumption) (quiet_op (by rw [hty]; first | rfl | (refine st_ ?_; rfl))) ?_; refine st_ ?_
        refine hu_take 3 rfl (by kernel_rfl) (by kernel_rfl) (by kernel_rfl) (by kernel_rfl) rfl (fun c a w v => hQp c a w _ v) (by rw [hnt]; rfl) (allIn (by repeat (first | exact trivial | refine ⟨rfl, ?_⟩))) (by first | exact Le.refl _ | assumption) (quiet_op (by rw [hty]; first | rfl | (refine st_ ?_; rfl))) ?_; refine st_ ?_
        refine hu_take 4 rfl (by kernel_rfl) (by kernel_rfl) (by kernel_rfl) (by kernel_rfl) rfl (fun c a w v => hQp c a w _ v) (by rw [hnt]; rfl) (allIn (by repeat (first | exact trivial | refine ⟨rfl, ?_⟩))) (by first | exact Le.refl _ | assumption) (quiet_op (by rw [hty]; first | rfl | (refine st_ ?_; rfl))) ?_; refine st_ ?_
        refine hu_take 5 rfl (by kernel_rfl) (by kernel_rfl) (by kernel_rfl) (by kernel_rfl) rfl (fun c a w v => hQp c a w _ v) (by rw [hnt]; rfl) (allIn (by repeat (first | exact trivial | refine ⟨rfl, ?_⟩))) (by first | exact Le.refl _ | assumption) (quiet_op (by rw [hty]; first | rfl | (refine st_ ?_; rfl))) ?_; refine st_ ?_
        refine hu_take 6 rfl (by kernel_rfl) (by kernel_rfl) (by kernel_rfl) (by kernel_rfl) rfl (fun c a w v => hQp c a w _ v) (by rw [hnt]; rfl) (allIn (by repeat (first | exact trivial | refine ⟨rfl, ?_⟩))) (by first | exact Le.refl _ | assumption) (x := .v (.pointer (some ⟨bN, oN + m.done.length * 1, none⟩))) ((quiet_index (by rw [hty]; rfl) (by rw [hty]; rfl) rfl rfl rfl (by omega) (by omega)).cast (by simp [SV.den])) ?_
        refine st_ ?_
        refine hu_take 7 rfl (by kernel_rfl) (by kernel_rfl) (by kernel_rfl) (by kernel_rfl) rfl (fun c a w v => hQp c a w _ v) (by rw [hnt]; rfl) (allIn (by repeat (first | exact trivial | refine ⟨rfl, ?_⟩))) (by first | exact Le.refl _ | assumption) (x := .v (.int .i64 k)) ((quiet_load (by rw [hty]; rfl) rfl (by simp [TK.agg]) hatN rfl).cast (by rfl)) ?_
        refine st_ ?_
        refine hu_two 8 12 rfl rfl (by kernel_rfl) ?_ ?_
        · refine go_call (by rw [hnt]; rfl) (by rw [hP]; kernel_rfl) rfl (hP ▸ rmore_ok _ _ _ st 0 0 k p m l nd G2 hp2 hL2.1 ⟨_, _, _, rfl⟩ hvx.1.nd (by omega) hk64) ?_
          rintro _ G3 (hle3 : Le G2 G3) hq9
          obtain ⟨a9, c9, c8, st9, a8, fine, n9, rfl, hcs⟩ := rmoreO_cases hq9
          refine rn_ ?_; intros
          refine hs_ ?_
          refine hu_take0 9 rfl (by kernel_rfl) (by kernel_rfl) (by kernel_rfl) (by decide) (fun c a w v => hQp c a w _ v) (by rw [hnt]; rfl) (allIn (by repeat (first | exact trivial | refine ⟨rfl, ?_⟩))) (by first | exact Le.refl _ | assumption) (quiet_op (by rw [hty]; first | rfl | (refine st_ ?_; rfl))) ?_; refine st_ ?_
          refine hu_take0 10 rfl (by kernel_rfl) (by kernel_rfl) (by kernel_rfl) (by decide) (fun c a w v => hQp c a w _ v) (by rw [hnt]; rfl) (allIn (by repeat (first | exact trivial | refine ⟨rfl, ?_⟩))) (by first | exact Le.refl _ | assumption) (quiet_op (by rw [hty]; first | rfl | (refine st_ ?_; rfl))) ?_; refine st_ ?_
          refine hu_take0 11 rfl (by kernel_rfl) (by kernel_rfl) (by kernel_rfl) (by decide) (fun c a w v => hQp c a w _ v) (by rw [hnt]; rfl) (allIn (by repeat (first | exact trivial | refine ⟨rfl, ?_⟩))) (by first | exact Le.refl _ | assumption) (quiet_op (by rw [hty]; first | rfl | (refine st_ ?_; rfl))) ?_; refine st_ ?_
          refine hu_one 12 rfl (by kernel_rfl) ?_
          refine rn_ ?_; intros
          refine hs_ ?_
          refine hu_last 13 [] rfl (by kernel_rfl) rfl ?_
          refine rn_ ?_; intros
          refine h_one 14 rfl (by kernel_rfl) ?_
          refine rn_ ?_; intros
          refine hs_ ?_
          refine h_end (by kernel_rfl) ?_
          refine rn_ ?_; intros
          rcases hcs with ⟨rfl, h256, rfl, rfl, rfl, rfl, rfl, rfl⟩ | ⟨rfl, h256, rfl, rfl, rfl, hS⟩
          · rw [if_pos h256] at ho
            injection ho with ho
            subst ho
            (refine x_split rfl rfl rfl (fun _ => ?_) (fun hc => absurd hc (by first | decide +kernel | (simp; first | done | fail))); refine st_ ?_; (refine ru_ ?_; intros))
            refine rn_ ?_; intros
            refine xc_ hQ hmb ?_; simp only [SV.den, resV, dens]
            exact rfO_wrong _ _
          · rw [if_neg h256] at ho
            (refine x_split rfl rfl rfl (fun hc => absurd hc (by first | decide +kernel | (simp; first | done | fail))) (fun _ => ?_); refine st_ ?_; (refine ru_ ?_; intros))
            refine rn_ ?_; intros
            refine go_keep [1, 2] [0, 1] ?_
            refine st_ ?_
            obtain ⟨y, hy⟩ := vx_kid hvx hk hn
            exact ih q' _ (by omega) ⟨⟨m.fn, k, m.vars, []⟩, m :: l, y, _, _, _, G3, hle12.trans hle3, hy, by simp; omega, ho, hS, VT.rep_mono hle3 hvl2, rfl⟩
        · refine rn_ ?_; intros
          refine hs_ ?_
          refine hu_one 8 rfl (by kernel_rfl) ?_
          refine go_call (by rw [hnt]; rfl) (by rw [hP]; kernel_rfl) rfl (hP ▸ rmore_ok _ _ _ st 0 0 k p m l nd G2 hp2 hL2.1 ⟨_, _, _, rfl⟩ hvx.1.nd (by omega) hk64) ?_
          rintro _ G3 (hle3 : Le G2 G3) hq9
          obtain ⟨a9, c9, c8, st9, a8, fine, n9, rfl, hcs⟩ := rmoreO_cases hq9
          refine rn_ ?_; intros
          refine hs_ ?_
          refine hu_take0 9 rfl (by kernel_rfl) (by kernel_rfl) (by kernel_rfl) (by decide) (fun c a w v => hQp c a w _ v) (by rw [hnt]; rfl) (allIn (by repeat (first | exact trivial | refine ⟨rfl, ?_⟩))) (by first | exact Le.refl _ | assumption) (quiet_op (by rw [hty]; first | rfl | (refine st_ ?_; rfl))) ?_; refine st_ ?_
          refine hu_take0 10 rfl (by kernel_rfl) (by kernel_rfl) (by kernel_rfl) (by decide) (fun c a w v => hQp c a w _ v) (by rw [hnt]; rfl) (allIn (by repeat (first | exact trivial | refine ⟨rfl, ?_⟩))) (by first | exact Le.refl _ | assumption) (quiet_op (by rw [hty]; first | rfl | (refine st_ ?_; rfl))) ?_; refine st_ ?_
          refine hu_take0 11 rfl (by kernel_rfl) (by kernel_rfl) (by kernel_rfl) (by decide) (fun c a w v => hQp c a w _ v) (by rw [hnt]; rfl) (allIn (by repeat (first | exact trivial | refine ⟨rfl, ?_⟩))) (by first | exact Le.refl _ | assumption) (quiet_op (by rw [hty]; first | rfl | (refine st_ ?_; rfl))) ?_; refine st_ ?_
          refine hu_last 13 [] rfl (by kernel_rfl) rfl ?_
          refine rn_ ?_; intros
          refine h_one 14 rfl (by kernel_rfl) ?_
          refine rn_ ?_; intros
          refine hs_ ?_
          refine h_end (by kernel_rfl) ?_
          refine rn_ ?_; intros
          rcases hcs with ⟨rfl, h256, rfl, rfl, rfl, rfl, rfl, rfl⟩ | ⟨rfl, h256, rfl, rfl, rfl, hS⟩
          · rw [if_pos h256] at ho
            injection ho with ho
            subst ho
            (refine x_split rfl rfl rfl (fun _ => ?_) (fun hc => absurd hc (by first | decide +kernel | (simp; first | done | fail))); refine st_ ?_; (refine ru_ ?_; intros))
            refine rn_ ?_; intros
            refine xc_ hQ hmb ?_; simp only [SV.den, resV, dens]
            exact rfO_wrong _ _
          · rw [if_neg h256] at ho
            (refine x_split rfl rfl rfl (fun hc => absurd hc (by first | decide +kernel | (simp; first | done | fail))) (fun _ => ?_); refine st_ ?_; (refine ru_ ?_; intros))
            refine rn_ ?_; intros
            refine go_keep [1, 2] [0, 1] ?_
            refine st_ ?_
            obtain ⟨y, hy⟩ := vx_kid hvx hk hn
            exact ih q' _ (by omega) ⟨⟨m.fn, k, m.vars, []⟩, m :: l, y, _, _, _, G3, hle12.trans hle3, hy, by simp; omega, ho, hS, VT.rep_mono hle3 hvl2, rfl⟩
    · have h5 : ¬ nd.op = 5 := by simpa using h5
      rw [if_neg (by omega)] at ho
      have hmn : many nd = nd.l.length := by simp [many, h4, h5]
      (refine go_gsplit rfl rfl (fun _ => ?_) (fun hc => absurd hc (by simp [h4])); refine st_ ?_; (refine rn_ ?_; intros))
      (refine go_gsplit rfl rfl (fun _ => ?_) (fun hc => absurd hc (by simp [h5])); refine st_ ?_; (refine rn_ ?_; intros))
      refine x_split rfl rfl rfl (fun hle => ?_) (fun hle => ?_) <;> (refine st_ ?_; (refine ru_ ?_; intros))
      · have hle' : m.done.length = nd.l.length := by simp at hle; omega
        rw [if_pos hle'] at ho
        refine rn_ ?_; intros
        refine go_call (by rw [hnt]; rfl) (by rw [hP]; kernel_rfl) rfl (hP ▸ rready_ok _ st p m l nd _ o G2 hp2 ⟨_, _, rfl, hL2, hvl2, by simp [vt0, tsz, tszL]⟩ hvx.1.nd (by omega) ho) ?_
        rintro _ G3 (hle3 : Le G2 G3) ⟨lsl3, vl3, rfl, hL3, hv3, ht3⟩
        obtain ⟨a5, c5, rfl⟩ := Rp.S_slice hL3.1
        obtain ⟨a6, c6, rfl⟩ := VT.rep_slice hv3
        simp only [fibV]
        refine rn_ ?_; intros
        refine xc_ hQ hmb ?_; simp only [SV.den, resV, dens]
        exact ⟨_, _, rfl, hL3, hv3, ht3⟩
      · have hle' : ¬ m.done.length = nd.l.length := by simp at hle; omega
        rw [if_neg hle'] at ho
        refine rn_ ?_; intros
        have hlt2 : m.done.length < nd.l.length := by omega
        have hn : ¬ (nd.op = 4 ∧ m.done.length = 1) := by omega
        refine go_keep [1, 2, 3, 4] [0, 1, 2, 3] ?_
        refine st_ ?_
        obtain ⟨k, hk⟩ : ∃ k, nd.l[m.done.length]? = some k := ⟨_, List.getElem?_eq_getElem hlt2⟩
        obtain ⟨hki, hk64, bN, oN, cN, eN, hatN⟩ := rI_get hrI hk
        injection eN with e1 e2 e3
        subst e1 e3
        rw [hk] at ho
        simp only [] at ho
        refine x_heldP [(0, b1, .c 44 [.v (.slice pA p.length pC), .v (.slice aL (m :: l).reverse.length cL), .v (.int .i64 st), .v (.int .i64 0), .v (.int .i64 0), .v (.slice vA 0 vC)]), (2, b3, .c 96 [.v (.int .i64 m.fn), .v (.int .i64 m.nd), .v (.slice av m.vars.length cw), .v (.slice ad m.done.length cd)]), (3, b4, .c 110 [.v (.int .i64 nd.op), .v (.int .i64 nd.n), .v (.slice (some ⟨bN, oN, none⟩) nd.l.length cn)])] 13 rfl (by rw [hP]; kernel_rfl) rfl rfl rfl ?_; refine st_ ?_
        refine hu_take 0 rfl (by kernel_rfl) (by kernel_rfl) (by kernel_rfl) (by kernel_rfl) rfl (fun c a w v => hQp c a w _ v) (by rw [hnt]; rfl) (allIn (by repeat (first | exact trivial | refine ⟨rfl, ?_⟩))) (by first | exact Le.refl _ | assumption) (quiet_op (by rw [hty]; first | rfl | (refine st_ ?_; rfl))) ?_; refine st_ ?_
        refine hu_take 1 rfl (by kernel_rfl) (by kernel_rfl) (by kernel_rfl) (by kernel_rfl) rfl (fun c a w v => hQp c a w _ v) (by rw [hnt]; rfl) (allIn (by repeat (first | exact trivial | refine ⟨rfl, ?_⟩))) (by first | exact Le.refl _ | assumption) (quiet_op (by rw [hty]; first | rfl | (refine st_ ?_; rfl))) ?_; refine st_ ?_
        refine hu_take 2 rfl (by kernel_rfl) (by kernel_rfl) (by kernel_rfl) (by kernel_rfl) rfl (fun c a w v => hQp c a w _ v) (by rw [hnt]; rfl) (allIn (by repeat (first | exact trivial | refine ⟨rfl, ?_⟩))) (by first | exact Le.refl _ | assumption) (quiet_op (by rw [hty]; first | rfl | (refine st_ ?_; rfl))) ?_; refine st_ ?_
        refine hu_take 3 rfl (by kernel_rfl) (by kernel_rfl) (by kernel_rfl) (by kernel_rfl) rfl (fun c a w v => hQp c a w _ v) (by rw [hnt]; rfl) (allIn (by repeat (first | exact trivial | refine ⟨rfl, ?_⟩))) (by first | exact Le.refl _ | assumption) (quiet_op (by rw [hty]; first | rfl | (refine st_ ?_; rfl))) ?_; refine st_ ?_
        refine hu_take 4 rfl (by kernel_rfl) (by kernel_rfl) (by kernel_rfl) (by kernel_rfl) rfl (fun c a w v => hQp c a w _ v) (by rw [hnt]; rfl) (allIn (by repeat (first | exact trivial | refine ⟨rfl, ?_⟩))) (by first | exact Le.refl _ | assumption) (quiet_op (by rw [hty]; first | rfl | (refine st_ ?_; rfl))) ?_; refine st_ ?_
        refine hu_take 5 rfl (by kernel_rfl) (by kernel_rfl) (by kernel_rfl) (by kernel_rfl) rfl (fun c a w v => hQp c a w _ v) (by rw [hnt]; rfl) (allIn (by repeat (first | exact trivial | refine ⟨rfl, ?_⟩))) (by first | exact Le.refl _ | assumption) (quiet_op (by rw [hty]; first | rfl | (refine st_ ?_; rfl))) ?_; refine st_ ?_
        refine hu_take 6 rfl (by kernel_rfl) (by kernel_rfl) (by kernel_rfl) (by kernel_rfl) rfl (fun c a w v => hQp c a w _ v) (by rw [hnt]; rfl) (allIn (by repeat (first | exact trivial | refine ⟨rfl, ?_⟩))) (by first | exact Le.refl _ | assumption) (x := .v (.pointer (some ⟨bN, oN + m.done.length * 1, none⟩))) ((quiet_index (by rw [hty]; rfl) (by rw [hty]; rfl) rfl rfl rfl (by omega) (by omega)).cast (by simp [SV.den])) ?_
        refine st_ ?_
        refine hu_take 7 rfl (by kernel_rfl) (by kernel_rfl) (by kernel_rfl) (by kernel_rfl) rfl (fun c a w v => hQp c a w _ v) (by rw [hnt]; rfl) (allIn (by repeat (first | exact trivial | refine ⟨rfl, ?_⟩))) (by first | exact Le.refl _ | assumption) (x := .v (.int .i64 k)) ((quiet_load (by rw [hty]; rfl) rfl (by simp [TK.agg]) hatN rfl).cast (by rfl)) ?_
        refine st_ ?_
        refine hu_two 8 12 rfl rfl (by kernel_rfl) ?_ ?_
        · refine go_call (by rw [hnt]; rfl) (by rw [hP]; kernel_rfl) rfl (hP ▸ rmore_ok _ _ _ st 0 0 k p m l nd G2 hp2 hL2.1 ⟨_, _, _, rfl⟩ hvx.1.nd (by omega) hk64) ?_
          rintro _ G3 (hle3 : Le G2 G3) hq9
          obtain ⟨a9, c9, c8, st9, a8, fine, n9, rfl, hcs⟩ := rmoreO_cases hq9
          refine rn_ ?_; intros
          refine hs_ ?_
          refine hu_take0 9 rfl (by kernel_rfl) (by kernel_rfl) (by kernel_rfl) (by decide) (fun c a w v => hQp c a w _ v) (by rw [hnt]; rfl) (allIn (by repeat (first | exact trivial | refine ⟨rfl, ?_⟩))) (by first | exact Le.refl _ | assumption) (quiet_op (by rw [hty]; first | rfl | (refine st_ ?_; rfl))) ?_; refine st_ ?_
          refine hu_take0 10 rfl (by kernel_rfl) (by kernel_rfl) (by kernel_rfl) (by decide) (fun c a w v => hQp c a w _ v) (by rw [hnt]; rfl) (allIn (by repeat (first | exact trivial | refine ⟨rfl, ?_⟩))) (by first | exact Le.refl _ | assumption) (quiet_op (by rw [hty]; first | rfl | (refine st_ ?_; rfl))) ?_; refine st_ ?_
          refine hu_take0 11 rfl (by kernel_rfl) (by kernel_rfl) (by kernel_rfl) (by decide) (fun c a w v => hQp c a w _ v) (by rw [hnt]; rfl) (allIn (by repeat (first | exact trivial | refine ⟨rfl, ?_⟩))) (by first | exact Le.refl _ | assumption) (quiet_op (by rw [hty]; first | rfl | (refine st_ ?_; rfl))) ?_; refine st_ ?_
          refine hu_one 12 rfl (by kernel_rfl) ?_
          refine rn_ ?_; intros
          refine hs_ ?_
          refine hu_last 13 [] rfl (by kernel_rfl) rfl ?_
          refine rn_ ?_; intros
          refine h_one 14 rfl (by kernel_rfl) ?_
          refine rn_ ?_; intros
          refine hs_ ?_
          refine h_end (by kernel_rfl) ?_
          refine rn_ ?_; intros
          rcases hcs with ⟨rfl, h256, rfl, rfl, rfl, rfl, rfl, rfl⟩ | ⟨rfl, h256, rfl, rfl, rfl, hS⟩
          · rw [if_pos h256] at ho
            injection ho with ho
            subst ho
            (refine x_split rfl rfl rfl (fun _ => ?_) (fun hc => absurd hc (by first | decide +kernel | (simp; first | done | fail))); refine st_ ?_; (refine ru_ ?_; intros))
            refine rn_ ?_; intros
            refine xc_ hQ hmb ?_; simp only [SV.den, resV, dens]
            exact rfO_wrong _ _
          · rw [if_neg h256] at ho
            (refine x_split rfl rfl rfl (fun hc => absurd hc (by first | decide +kernel | (simp; first | done | fail))) (fun _ => ?_); refine st_ ?_; (refine ru_ ?_; intros))
            refine rn_ ?_; intros
            refine go_keep [1, 2] [0, 1] ?_
            refine st_ ?_
            obtain ⟨y, hy⟩ := vx_kid hvx hk hn
            exact ih q' _ (by omega) ⟨⟨m.fn, k, m.vars, []⟩, m :: l, y, _, _, _, G3, hle12.trans hle3, hy, by simp; omega, ho, hS, VT.rep_mono hle3 hvl2, rfl⟩
        · refine rn_ ?_; intros
          refine hs_ ?_
          refine hu_one 8 rfl (by kernel_rfl) ?_
          refine go_call (by rw [hnt]; rfl) (by rw [hP]; kernel_rfl) rfl (hP ▸ rmore_ok _ _ _ st 0 0 k p m l nd G2 hp2 hL2.1 ⟨_, _, _, rfl⟩ hvx.1.nd (by omega) hk64) ?_
          rintro _ G3 (hle3 : Le G2 G3) hq9
          obtain ⟨a9, c9, c8, st9, a8, fine, n9, rfl, hcs⟩ := rmoreO_cases hq9
          refine rn_ ?_; intros
          refine hs_ ?_
          refine hu_take0 9 rfl (by kernel_rfl) (by kernel_rfl) (by kernel_rfl) (by decide) (fun c a w v => hQp c a w _ v) (by rw [hnt]; rfl) (allIn (by repeat (first | exact trivial | refine ⟨rfl, ?_⟩))) (by first | exact Le.refl _ | assumption) (quiet_op (by rw [hty]; first | rfl | (refine st_ ?_; rfl))) ?_; refine st_ ?_
          refine hu_take0 10 rfl (by kernel_rfl) (by kernel_rfl) (by kernel_rfl) (by decide) (fun c a w v => hQp c a w _ v) (by rw [hnt]; rfl) (allIn (by repeat (first | exact trivial | refine ⟨rfl, ?_⟩))) (by first | exact Le.refl _ | assumption) (quiet_op (by rw [hty]; first | rfl | (refine st_ ?_; rfl))) ?_; refine st_ ?_
          refine hu_take0 11 rfl (by kernel_rfl) (by kernel_rfl) (by kernel_rfl) (by decide) (fun c a w v => hQp c a w _ v) (by rw [hnt]; rfl) (allIn (by repeat (first | exact trivial | refine ⟨rfl, ?_⟩))) (by first | exact Le.refl _ | assumption) (quiet_op (by rw [hty]; first | rfl | (refine st_ ?_; rfl))) ?_; refine st_ ?_
          refine hu_last 13 [] rfl (by kernel_rfl) rfl ?_
          refine rn_ ?_; intros
          refine h_one 14 rfl (by kernel_rfl) ?_
          refine rn_ ?_; intros
          refine hs_ ?_
          refine h_end (by kernel_rfl) ?_
          refine rn_ ?_; intros
          rcases hcs with ⟨rfl, h256, rfl, rfl, rfl, rfl, rfl, rfl⟩ | ⟨rfl, h256, rfl, rfl, rfl, hS⟩
          · rw [if_pos h256] at ho
            injection ho with ho
            subst ho
            (refine x_split rfl rfl rfl (fun _ => ?_) (fun hc => absurd hc (by first | decide +kernel | (simp; first | done | fail))); refine st_ ?_; (refine ru_ ?_; intros))
            refine rn_ ?_; intros
            refine xc_ hQ hmb ?_; simp only [SV.den, resV, dens]
            exact rfO_wrong _ _
          · rw [if_neg h256] at ho
            (refine x_split rfl rfl rfl (fun hc => absurd hc (by first | decide +kernel | (simp; first | done | fail))) (fun _ => ?_); refine st_ ?_; (refine ru_ ?_; intros))
            refine rn_ ?_; intros
            refine go_keep [1, 2] [0, 1] ?_
            refine st_ ?_
            obtain ⟨y, hy⟩ := vx_kid hvx hk hn
            exact ih q' _ (by omega) ⟨⟨m.fn, k, m.vars, []⟩, m :: l, y, _, _, _, G3, hle12.trans hle3, hy, by simp; omega, ho, hS, VT.rep_mono hle3 hvl2, rfl⟩
end Go.Proofs.YtpppkednpamhbaaGreat.R
