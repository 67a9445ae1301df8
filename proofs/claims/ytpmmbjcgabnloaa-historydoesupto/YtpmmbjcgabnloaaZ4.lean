/-
  Package history, layer 29: Do: the walk.
-/
import Derived.Test.YtpmmbjcgabnloaaZ3
set_option linter.unusedSimpArgs false
set_option linter.unusedVariables false
namespace Go.Proofs.Ytpmmbjcgabnloaa
set_option linter.unusedSimpArgs false
set_option linter.unusedVariables false
open Go.Sx
set_option maxHeartbeats 8000000
set_option maxRecDepth 20000
theorem doRes {sl : List (Nat × SV)} {own : List (Nat × Nat × OO)} {be bt bv bc : Nat} {tv tp vk vn vl : Value} {can : Bool} {e : Int} {T : TypeId → Option TI} (hT : T = ty) (h6 : lk 6 sl = some (.p 2 bt 0)) (h7 : lk 7 sl = some (.p 3 bv 0)) (h8 : lk 8 sl = some (.p 4 bc 0)) (h9 : lk 9 sl = some (.p 5 be 0))
    (o0 : lk 5 own = some (be, .c 32 [.v (.int .i64 e)])) (o1 : lk 2 own = some (bt, .c 44 [.v tv, .v tp])) (o2 : lk 3 own = some (bv, .c 28 [.v vk, .v vn, .v vl])) (o3 : lk 4 own = some (bc, .c 4 [.v (.bool can)])) :
    resAll sl T own Try.f17.results.toList = some [.a [.v tv, .v tp], .a [.v vk, .v vn, .v vl], .v (.bool can), .v (.int .i64 e)] := by
  have e : Try.f17.results.toList = [.cell 6 44, .cell 7 28, .cell 8 4, .cell 9 32] := rfl
  subst hT
  rw [e]
  simp only [resAll, resOne, h6, h7, h8, h9, o0, o1, o2, o3, if_true]
  refine st_ ?_
  simp only [o0, o1, o2, o3, if_true]
  rfl
theorem doRes4 (tmps : Array Value) (v : Value) (d : Nat) (h : d < 6 ∨ 9 < d) : results Try.f17 (tmps.setIfInBounds d v) = results Try.f17 tmps := by
  have e : Try.f17.results = #[.cell 6 44, .cell 7 28, .cell 8 4, .cell 9 32] := rfl
  simp only [results, e]
  have h6 : d ≠ 6 := by omega
  have h7 : d ≠ 7 := by omega
  have h8 : d ≠ 8 := by omega
  have h9 : d ≠ 9 := by omega
  simp [Array.getElem?_setIfInBounds, h6, h7, h8, h9]
def doRet (r : MS × VT × Bool × Int) (v : Value) (G : Hp) (rs : List Rw) : Prop := ∃ v1 v2 sl xs ys, v = .tuple #[.agg #[v1, v2], .agg #[.int .i64 r.2.1.k, .int .i64 r.2.1.n, sl], .bool r.2.2.1, .int .i64 r.2.2.2] ∧ rs = stRows v1 r.1.vals.length xs v2 r.1.ps.length ys ∧ rV.L G r.1.vals xs ∧ rPo.L G r.1.ps ys ∧ r.2.1.rep G sl ∧ tsz r.2.1 ≤ 1048576
theorem hDo_ok (m : Int) (s : MS) (sv sp : Value) (o : Op) (sa sr : Value) (G : Hp) (hs : s.rep G sv sp) (ho : o.rep G sa sr) (hl : s.vals.length ≤ 100) (hlp : s.ps.length ≤ 100) :
    PureV Try.prog 17 [.int .i64 m, .agg #[sv, sp], .agg (opL o sa sr).toArray] G (doRet (doR m s o)) := by
  obtain ⟨ada, capa, rfl⟩ := VT.rep_slice ho.a
  obtain ⟨adr, capr, rfl⟩ := VT.rep_slice ho.r
  obtain ⟨ad1, cap1, rfl⟩ := Rp.S_slice hs.v
  obtain ⟨ad2, cap2, rfl⟩ := Rp.S_slice hs.p
  refine enterDV ty tyok Try.func17 rfl Try.ntmps17 [.v (.int .i64 m), .a [.v (.slice ad1 s.vals.length cap1), .v (.slice ad2 s.ps.length cap2)], .a (opC o (.slice ada o.arg.l.length capa) (.slice adr o.res.l.length capr))] (by simp) ?_
  simp only [opC]
  intro C hP hQ hnt hty hmb hmh hro; refine st_ ?_
  refine rn_ ?_; intros
  refine go_defer hro (by rw [hnt]; rfl) rfl rfl ?_
  refine rn_ ?_; intros
  rename_i bs bo bt bv bc be
  have hQD : ∀ d, d < 6 ∨ 9 < d → QPd C (some d) := fun d h => qpd_bodyD hQ fun tmps v => doRes4 tmps v d h
  refine go_call (by rw [hnt]; rfl) (by rw [hP]; kernel_rfl) rfl (hP ▸ effects_ok G) ?_
  rintro v G1 (hle1 : Le G G1) ⟨mp, rfl, hmp⟩
  refine rn_ ?_; intros
  rcases eff_of m with ⟨hk0, hg0⟩ | ⟨K, mo, pt, f, he⟩
  · refine go_q (v := .tuple #[.agg #[.int .i64 0, .int .i64 0, .bool false, .nilFunc], .bool false]) (by rw [hnt]; rfl) ((quiet_lookupG (ok := true) (z := .agg #[.int .i64 0, .int .i64 0, .bool false, .nilFunc]) (by rw [hty]; rfl) (by rw [hty]; rfl) (by rw [hP]; exact ⟨_, (by kernel_rfl : Try.prog.info? 89 = some Try.t89), rfl⟩) rfl rfl hmp).cast (by rw [hg0]; rfl)) ?_
    refine rn_ ?_; intros
    repeat (first | (refine go_gsplit rfl rfl (fun hc => absurd hc (by first | decide +kernel | (simp; first | done | fail))) (fun _ => ?_); refine st_ ?_; (refine rn_ ?_; intros)) | (refine go_gsplit rfl rfl (fun _ => ?_) (fun hc => absurd hc (by first | decide +kernel | (simp; first | done | fail))); refine st_ ?_; (refine rn_ ?_; intros)) | (refine x_split rfl rfl rfl (fun hc => absurd hc (by first | decide +kernel | (simp; first | done | fail))) (fun _ => ?_); refine st_ ?_; (refine ru_ ?_; intros)) | (refine x_split rfl rfl rfl (fun _ => ?_) (fun hc => absurd hc (by first | decide +kernel | (simp; first | done | fail))); refine st_ ?_; (refine ru_ ?_; intros)))
    repeat (refine go_gundef rfl (by rw [hnt]; rfl) rfl ?_; (refine st_ ?_; (refine rn_ ?_; intros)))
    repeat (first | (refine go_gsplit rfl rfl (fun hc => absurd hc (by first | decide +kernel | (simp; first | done | fail))) (fun _ => ?_); refine st_ ?_; (refine rn_ ?_; intros)) | (refine go_gsplit rfl rfl (fun _ => ?_) (fun hc => absurd hc (by first | decide +kernel | (simp; first | done | fail))); refine st_ ?_; (refine rn_ ?_; intros)) | (refine x_split rfl rfl rfl (fun hc => absurd hc (by first | decide +kernel | (simp; first | done | fail))) (fun _ => ?_); refine st_ ?_; (refine ru_ ?_; intros)) | (refine x_split rfl rfl rfl (fun _ => ?_) (fun hc => absurd hc (by first | decide +kernel | (simp; first | done | fail))); refine st_ ?_; (refine ru_ ?_; intros)))
    repeat (refine go_gundef rfl (by rw [hnt]; rfl) rfl ?_; (refine st_ ?_; (refine rn_ ?_; intros)))
    refine rn_ ?_; intros
    refine go_callWP [] (ow := []) (by rw [hnt]; rfl) rfl (by rw [hP]; kernel_rfl) rfl rfl rfl (.inl (by intro k hk; cases hk)) (hP ▸ need_ok false 2 G1) ?_ ?_
    · rintro v G' ow' _ ⟨h, _⟩
      cases h
    rintro v ⟨rfl, _⟩
    have e : doR m s o = (⟨[], []⟩, noneV, false, 2) := by rw [doR, kns0_rgt hk0]; rfl
    rw [e] at hQ
    refine x_panDV 60 hQ hmb hmh rfl (by rw [hP]; kernel_rfl) (ks := [5, 2, 3, 4]) (ow := doC be bt bv bc 0 (.slice none 0 0) (.slice none 0 0) (.int .i64 0) (.int .i64 0) (.slice none 0 0) false) rfl rfl (.inl (by intro k hk; omega)) (hP ▸ doClo_catch be bt bv bc _ _ _ _ _ _ 0 2 (by omega) _) ?_
    rintro u' G' ow' _ ⟨hs', rfl⟩
    refine ⟨hs', _, stRows (.slice none 0 0) 0 [] (.slice none 0 0) 0 [], doRes hty rfl rfl rfl rfl rfl rfl rfl rfl, .inr ?_, ?_⟩
    · intro r hr
      simp only [stRows, List.mem_cons, List.not_mem_nil, or_false] at hr
      rcases hr with rfl | rfl <;> exact ⟨rfl, rfl, rfl⟩
    · exact ⟨_, _, _, _, _, rfl, rfl, rfl, rfl, rep_leaf _ 0 0 (by simp [isI64]) (by simp [isI64]), by simp [noneV, tsz, tszL]⟩
  · refine go_q (v := .tuple #[effV K mo pt f, .bool true]) (by rw [hnt]; rfl) ((quiet_lookupG (ok := true) (z := .agg #[.int .i64 0, .int .i64 0, .bool false, .nilFunc]) (by rw [hty]; rfl) (by rw [hty]; rfl) (by rw [hP]; exact ⟨_, (by kernel_rfl : Try.prog.info? 89 = some Try.t89), rfl⟩) rfl rfl hmp).cast (by rw [he.get]; rfl)) ?_
    simp only [effV]
    refine rn_ ?_; intros
    repeat (first | (refine go_gsplit rfl rfl (fun hc => absurd hc (by first | decide +kernel | (simp; first | done | fail))) (fun _ => ?_); refine st_ ?_; (refine rn_ ?_; intros)) | (refine go_gsplit rfl rfl (fun _ => ?_) (fun hc => absurd hc (by first | decide +kernel | (simp; first | done | fail))); refine st_ ?_; (refine rn_ ?_; intros)) | (refine x_split rfl rfl rfl (fun hc => absurd hc (by first | decide +kernel | (simp; first | done | fail))) (fun _ => ?_); refine st_ ?_; (refine ru_ ?_; intros)) | (refine x_split rfl rfl rfl (fun _ => ?_) (fun hc => absurd hc (by first | decide +kernel | (simp; first | done | fail))); refine st_ ?_; (refine ru_ ?_; intros)))
    refine go_callf (by rw [hnt]; rfl) (by rw [hP]; kernel_rfl) rfl (hP ▸ valid_ok2 K mo pt _ o _ _ G1 rfl (ho.mono hle1)) ?_; refine rn_ ?_; intros
    have hK := he.kn
    have hno : (rgtO K o && stOk m s) = false → doR m s o = (⟨[], []⟩, noneV, false, 2) := fun h => by rw [doR, ← hK, h]; rfl
    refine go_gsplit rfl rfl (fun hv => ?_) (fun hv => ?_) <;> (refine st_ ?_; (refine rn_ ?_; intros))
    · -- valid
      refine go_callf (by rw [hnt]; rfl) (by rw [hP]; kernel_rfl) rfl (hP ▸ fits_ok K mo pt _ s _ _ m G1 rfl (hs.mono hle1) he.fit) ?_; refine rn_ ?_; intros
      cases hst : stOk m s
      · refine go_callWP [] (ow := []) (by rw [hnt]; rfl) rfl (by rw [hP]; kernel_rfl) rfl rfl rfl (.inl (by intro k hk; cases hk)) (hP ▸ need_ok _ 2 G1) ?_ ?_
        · rintro v G' ow' _ ⟨h, _⟩
          cases h
        rintro v ⟨rfl, _⟩
        rw [hno (by rw [hst, Bool.and_false])] at hQ
        refine x_panDV 60 hQ hmb hmh rfl (by rw [hP]; kernel_rfl) (ks := [5, 2, 3, 4]) (ow := doC be bt bv bc 0 (.slice none 0 0) (.slice none 0 0) (.int .i64 0) (.int .i64 0) (.slice none 0 0) false) rfl rfl (.inl (by intro k hk; omega)) (hP ▸ doClo_catch be bt bv bc _ _ _ _ _ _ 0 2 (by omega) _) ?_
        rintro u' G' ow' _ ⟨hs', rfl⟩
        refine ⟨hs', _, stRows (.slice none 0 0) 0 [] (.slice none 0 0) 0 [], doRes hty rfl rfl rfl rfl rfl rfl rfl rfl, .inr ?_, ?_⟩
        · intro r hr
          simp only [stRows, List.mem_cons, List.not_mem_nil, or_false] at hr
          rcases hr with rfl | rfl <;> exact ⟨rfl, rfl, rfl⟩
        · exact ⟨_, _, _, _, _, rfl, rfl, rfl, rfl, rep_leaf _ 0 0 (by simp [isI64]) (by simp [isI64]), by simp [noneV, tsz, tszL]⟩
      refine go_callWP [] (ow := []) (by rw [hnt]; rfl) rfl (by rw [hP]; kernel_rfl) rfl rfl rfl (.inl (by intro k hk; cases hk)) (hP ▸ need_ok _ 2 G1) ?_ ?_
      rotate_left
      · rintro v ⟨_, h⟩
        cases h
      rintro v G2 ow' (hle2 : Le G1 G2) ⟨_, rfl⟩
      simp only [setO]
      rename_i bf
      refine go_keep [4, 5, 6, 7, 8, 9, 10] [0, 1, 2, 3, 4, 5, 6] ?_
      refine st_ ?_
      clear v
      refine rn_ ?_; intros
      obtain ⟨⟨hvv, hvp⟩, hwf⟩ := stOk_vd hst
      have hle02 := hle1.trans hle2
      refine go_callV 60 (by rw [hnt]; rfl) (by rw [hP]; kernel_rfl) rfl rfl (by omega) (hP ▸ copyState_ok s _ _ G2 (hs.mono hle02) (fun x hx => vld_sml (hvv x hx)) (fun p hp => vld_sml (hvp p hp)) (by omega) (by omega)) ?_
      rintro v G3 rs Z (hle3 : Le G2 G3) ⟨v1, v2, xs, ys, rfl, rfl, hL, hM⟩
      refine go_ztake 60 61 0 rfl rfl rfl (by omega) (by omega) ?_
      intro Z1
      refine go_ztake 60 62 1 rfl rfl rfl (by omega) (by omega) ?_
      intro Z2
      refine go_drop 60 ?_
      simp only [stRows]
      refine st_ ?_
      refine go_qrow (G0 := G3) 61 rfl ?_
      intro Zv bz
      refine st_ ?_
      refine go_qval 61 rfl ?_
      rintro a1 c1 rfl _ _ _
      refine go_rowS 62 rfl ?_
      rintro a2 c2 rfl
      refine rn_ ?_; intros
      refine go_callWv [2, 61, 62] (f := f) (cap := []) (by rw [hnt]; rfl) (hP ▸ he.can) rfl rfl rfl rfl rfl (.inl (by intro k hk; omega)) (hP ▸ he.run s o _ _ bt _ G3 G3 (Le.refl _) ⟨_, _, bz, Zv, 0, xs, ys, rfl, hL, hM, by omega, by omega⟩ (ho.mono (hle02.trans hle3)) (by omega) (by omega) hwf) ?_
      rintro v G4 ow' (hle4 : Le G3 G4) ⟨slr, rfl, hrr, hrb, vv, pv, bz2, Z2, b2, xs2, ys2, rfl, hL2, hM2, hn1, hn2⟩
      simp only [setO]
      refine st_ ?_
      refine go_qval 61 rfl ?_
      rintro a3 c3 rfl _ _ _
      refine go_rowS 62 rfl ?_
      rintro a4 c4 rfl
      obtain ⟨asr, csr, rfl⟩ := VT.rep_slice hrr
      refine rn_ ?_; intros
      refine go_qpub rV 61 rfl hle4 (by omega) rfl (by omega) hL2 ?_
      intro G5 (hle5 : Le G4 G5) hS5
      refine st_ ?_
      refine go_pubL rPo 62 rfl (by omega) rfl (by omega) (Rp.L_mono hle5 hM2) ?_
      intro G6 ad6 cap6 (hle6 : Le G5 G6) he6 hS6
      rw [← he6] at hS6
      have hdv := do_vd (m := m) (s := s) (o := o) ⟨hvv, hvp⟩ (rgt_vld hv).1 (rgt_vld hv).2
      have hdR : doR m s o = ((doP m s o).1, (doP m s o).2.1, (doP m s o).2.2, 0) := by rw [doR, ← hK, hv, hst]; rfl
      rw [hdR] at hQ
      generalize doP m s o = r at *
      have hSv := Rp.S_mono hle6 hS5
      refine go_keep [6, 7, 8, 9] [2, 3, 4, 5] ?_
      refine st_ ?_
      refine x_held [(4, bc, .c 4 [.v (.bool r.2.2)])] rfl (by rw [hP]; kernel_rfl) rfl rfl rfl ?_; refine st_ ?_
      refine h_takeD 4 rfl (by kernel_rfl) (by kernel_rfl) (by kernel_rfl) (hQD _ (by decide)) (by rw [hnt]; rfl) (allIn (by repeat (first | exact trivial | refine ⟨rfl, ?_⟩))) (by first | exact Le.refl _ | assumption) (quiet_op (by rw [hty]; first | rfl | (refine st_ ?_; rfl))) ?_; refine st_ ?_
      refine h_two 0 2 rfl rfl (by kernel_rfl) ?_ ?_
      · refine rn_ ?_; intros
        refine h_hs (allIn (by repeat (first | exact trivial | refine ⟨rfl, ?_⟩))) (by first | exact Le.refl _ | assumption) ?_
        refine h_two 1 2 rfl rfl (by kernel_rfl) ?_ ?_
        · refine go_callV 60 (by rw [hnt]; rfl) (by rw [hP]; kernel_rfl) rfl rfl (by omega) (hP ▸ copyState_ok r.1 _ _ G6 ⟨hSv, hS6⟩ (fun x hx => vld_sml (hdv.vd.v x hx)) (fun p hp => vld_sml (hdv.vd.p p hp)) (by omega) (by omega)) ?_
          rintro v G7 rs Z7 (hle7 : Le G6 G7) ⟨v1, v2, xs3, ys3, rfl, rfl, hL3, hM3⟩
          refine go_ztake 60 61 0 rfl rfl rfl (by omega) (by omega) ?_
          intro Z3
          refine go_ztake 60 62 1 rfl rfl rfl (by omega) (by omega) ?_
          intro Z4
          refine go_drop 60 ?_
          simp only [stRows]
          refine st_ ?_
          refine go_rowS 61 rfl ?_
          rintro a5 c5 rfl
          refine go_rowS 62 rfl ?_
          rintro a6 c6 rfl
          refine rn_ ?_; intros
          refine h_hs (allIn (by repeat (first | exact trivial | refine ⟨rfl, ?_⟩))) (by first | exact Le.refl _ | assumption) ?_
          refine h_one 2 rfl (by kernel_rfl) ?_
          refine rn_ ?_; intros
          refine h_hs (allIn (by repeat (first | exact trivial | refine ⟨rfl, ?_⟩))) (by first | exact Le.refl _ | assumption) ?_
          refine h_one 3 rfl (by kernel_rfl) ?_
          refine go_call (by rw [hnt]; rfl) (by rw [hP]; kernel_rfl) rfl (hP ▸ copy_ok r.2.1 _ _ (VT.rep_mono (hle5.trans (hle6.trans hle7)) hrr) (by omega)) ?_
          rintro v G8 (hle8 : Le G7 G8) hv0
          obtain ⟨_, hv0⟩ | ⟨hsm, _⟩ := hv0
          rotate_left
          · rw [hdv.sm] at hsm; cases hsm
          obtain ⟨sl8, rfl, hr8⟩ := copied_cells hv0
          clear hv0
          have hle68 : Le G6 G8 := hle7.trans hle8
          obtain ⟨asl8, csl8, rfl⟩ := VT.rep_slice hr8
          refine rn_ ?_; intros
          refine h_hs (allIn (by repeat (first | exact trivial | refine ⟨rfl, ?_⟩))) (by first | exact Le.refl _ | assumption) ?_
          refine h_one 5 rfl (by kernel_rfl) ?_
          refine rn_ ?_; intros
          refine h_hs (allIn (by repeat (first | exact trivial | refine ⟨rfl, ?_⟩))) (by first | exact Le.refl _ | assumption) ?_
          refine h_one 6 rfl (by kernel_rfl) ?_
          refine rn_ ?_; intros
          refine h_hs (allIn (by repeat (first | exact trivial | refine ⟨rfl, ?_⟩))) (by first | exact Le.refl _ | assumption) ?_
          refine h_one 7 rfl (by kernel_rfl) ?_
          refine rn_ ?_; intros
          refine h_hs (allIn (by repeat (first | exact trivial | refine ⟨rfl, ?_⟩))) (by first | exact Le.refl _ | assumption) ?_
          refine h_one 8 rfl (by kernel_rfl) ?_
          refine rn_ ?_; intros
          refine h_hs (allIn (by repeat (first | exact trivial | refine ⟨rfl, ?_⟩))) (by first | exact Le.refl _ | assumption) ?_
          refine h_end (by kernel_rfl) ?_
          refine go_znil 60 rfl (by omega) ?_
          intro Z0
          refine go_zadd 60 61 rfl rfl (by omega) (by omega) (by omega) ?_
          intro Z1
          refine st_ ?_
          refine go_zadd 60 62 rfl rfl (by omega) (by omega) (by omega) ?_
          intro Z2
          refine st_ ?_
          refine rn_ ?_; intros
          refine x_retDV 60 rfl hQ hmb hmh rfl (by rw [hP]; kernel_rfl) (ks := [5, 2, 3, 4]) (ow := doC be bt bv bc 0 _ _ _ _ _ _) rfl rfl (.inl (by intro k hk; omega)) (hP ▸ doClo_idle be bt bv bc _ _ _ _ _ _ _) ?_
          rintro u' G' ow' (hle9 : Le G8 G') ⟨hs', rfl⟩
          refine ⟨hs', _, _, doRes hty rfl rfl rfl rfl rfl rfl rfl rfl, .inl ⟨_, _, rfl⟩, ?_⟩
          exact ⟨_, _, _, _, _, rfl, rfl, Rp.L_mono (hle8.trans hle9) hL3, Rp.L_mono (hle8.trans hle9) hM3, VT.rep_mono hle9 hr8, hrb⟩
        · refine rn_ ?_; intros
          refine h_hs (allIn (by repeat (first | exact trivial | refine ⟨rfl, ?_⟩))) (by first | exact Le.refl _ | assumption) ?_
          refine h_one 1 rfl (by kernel_rfl) ?_
          refine go_callV 60 (by rw [hnt]; rfl) (by rw [hP]; kernel_rfl) rfl rfl (by omega) (hP ▸ copyState_ok r.1 _ _ G6 ⟨hSv, hS6⟩ (fun x hx => vld_sml (hdv.vd.v x hx)) (fun p hp => vld_sml (hdv.vd.p p hp)) (by omega) (by omega)) ?_
          rintro v G7 rs Z7 (hle7 : Le G6 G7) ⟨v1, v2, xs3, ys3, rfl, rfl, hL3, hM3⟩
          refine go_ztake 60 61 0 rfl rfl rfl (by omega) (by omega) ?_
          intro Z3
          refine go_ztake 60 62 1 rfl rfl rfl (by omega) (by omega) ?_
          intro Z4
          refine go_drop 60 ?_
          simp only [stRows]
          refine st_ ?_
          refine go_rowS 61 rfl ?_
          rintro a5 c5 rfl
          refine go_rowS 62 rfl ?_
          rintro a6 c6 rfl
          refine rn_ ?_; intros
          refine h_hs (allIn (by repeat (first | exact trivial | refine ⟨rfl, ?_⟩))) (by first | exact Le.refl _ | assumption) ?_
          refine h_one 3 rfl (by kernel_rfl) ?_
          refine go_call (by rw [hnt]; rfl) (by rw [hP]; kernel_rfl) rfl (hP ▸ copy_ok r.2.1 _ _ (VT.rep_mono (hle5.trans (hle6.trans hle7)) hrr) (by omega)) ?_
          rintro v G8 (hle8 : Le G7 G8) hv0
          obtain ⟨_, hv0⟩ | ⟨hsm, _⟩ := hv0
          rotate_left
          · rw [hdv.sm] at hsm; cases hsm
          obtain ⟨sl8, rfl, hr8⟩ := copied_cells hv0
          clear hv0
          have hle68 : Le G6 G8 := hle7.trans hle8
          obtain ⟨asl8, csl8, rfl⟩ := VT.rep_slice hr8
          refine rn_ ?_; intros
          refine h_hs (allIn (by repeat (first | exact trivial | refine ⟨rfl, ?_⟩))) (by first | exact Le.refl _ | assumption) ?_
          refine h_one 5 rfl (by kernel_rfl) ?_
          refine rn_ ?_; intros
          refine h_hs (allIn (by repeat (first | exact trivial | refine ⟨rfl, ?_⟩))) (by first | exact Le.refl _ | assumption) ?_
          refine h_one 6 rfl (by kernel_rfl) ?_
          refine rn_ ?_; intros
          refine h_hs (allIn (by repeat (first | exact trivial | refine ⟨rfl, ?_⟩))) (by first | exact Le.refl _ | assumption) ?_
          refine h_one 7 rfl (by kernel_rfl) ?_
          refine rn_ ?_; intros
          refine h_hs (allIn (by repeat (first | exact trivial | refine ⟨rfl, ?_⟩))) (by first | exact Le.refl _ | assumption) ?_
          refine h_one 8 rfl (by kernel_rfl) ?_
          refine rn_ ?_; intros
          refine h_hs (allIn (by repeat (first | exact trivial | refine ⟨rfl, ?_⟩))) (by first | exact Le.refl _ | assumption) ?_
          refine h_end (by kernel_rfl) ?_
          refine go_znil 60 rfl (by omega) ?_
          intro Z0
          refine go_zadd 60 61 rfl rfl (by omega) (by omega) (by omega) ?_
          intro Z1
          refine st_ ?_
          refine go_zadd 60 62 rfl rfl (by omega) (by omega) (by omega) ?_
          intro Z2
          refine st_ ?_
          refine rn_ ?_; intros
          refine x_retDV 60 rfl hQ hmb hmh rfl (by rw [hP]; kernel_rfl) (ks := [5, 2, 3, 4]) (ow := doC be bt bv bc 0 _ _ _ _ _ _) rfl rfl (.inl (by intro k hk; omega)) (hP ▸ doClo_idle be bt bv bc _ _ _ _ _ _ _) ?_
          rintro u' G' ow' (hle9 : Le G8 G') ⟨hs', rfl⟩
          refine ⟨hs', _, _, doRes hty rfl rfl rfl rfl rfl rfl rfl rfl, .inl ⟨_, _, rfl⟩, ?_⟩
          exact ⟨_, _, _, _, _, rfl, rfl, Rp.L_mono (hle8.trans hle9) hL3, Rp.L_mono (hle8.trans hle9) hM3, VT.rep_mono hle9 hr8, hrb⟩
      · refine rn_ ?_; intros
        refine h_hs (allIn (by repeat (first | exact trivial | refine ⟨rfl, ?_⟩))) (by first | exact Le.refl _ | assumption) ?_
        refine h_one 0 rfl (by kernel_rfl) ?_
        refine rn_ ?_; intros
        refine h_hs (allIn (by repeat (first | exact trivial | refine ⟨rfl, ?_⟩))) (by first | exact Le.refl _ | assumption) ?_
        refine h_one 1 rfl (by kernel_rfl) ?_
        refine go_callV 60 (by rw [hnt]; rfl) (by rw [hP]; kernel_rfl) rfl rfl (by omega) (hP ▸ copyState_ok r.1 _ _ G6 ⟨hSv, hS6⟩ (fun x hx => vld_sml (hdv.vd.v x hx)) (fun p hp => vld_sml (hdv.vd.p p hp)) (by omega) (by omega)) ?_
        rintro v G7 rs Z7 (hle7 : Le G6 G7) ⟨v1, v2, xs3, ys3, rfl, rfl, hL3, hM3⟩
        refine go_ztake 60 61 0 rfl rfl rfl (by omega) (by omega) ?_
        intro Z3
        refine go_ztake 60 62 1 rfl rfl rfl (by omega) (by omega) ?_
        intro Z4
        refine go_drop 60 ?_
        simp only [stRows]
        refine st_ ?_
        refine go_rowS 61 rfl ?_
        rintro a5 c5 rfl
        refine go_rowS 62 rfl ?_
        rintro a6 c6 rfl
        refine rn_ ?_; intros
        refine h_hs (allIn (by repeat (first | exact trivial | refine ⟨rfl, ?_⟩))) (by first | exact Le.refl _ | assumption) ?_
        refine h_one 3 rfl (by kernel_rfl) ?_
        refine go_call (by rw [hnt]; rfl) (by rw [hP]; kernel_rfl) rfl (hP ▸ copy_ok r.2.1 _ _ (VT.rep_mono (hle5.trans (hle6.trans hle7)) hrr) (by omega)) ?_
        rintro v G8 (hle8 : Le G7 G8) hv0
        obtain ⟨_, hv0⟩ | ⟨hsm, _⟩ := hv0
        rotate_left
        · rw [hdv.sm] at hsm; cases hsm
        obtain ⟨sl8, rfl, hr8⟩ := copied_cells hv0
        clear hv0
        have hle68 : Le G6 G8 := hle7.trans hle8
        obtain ⟨asl8, csl8, rfl⟩ := VT.rep_slice hr8
        refine rn_ ?_; intros
        refine h_hs (allIn (by repeat (first | exact trivial | refine ⟨rfl, ?_⟩))) (by first | exact Le.refl _ | assumption) ?_
        refine h_one 5 rfl (by kernel_rfl) ?_
        refine rn_ ?_; intros
        refine h_hs (allIn (by repeat (first | exact trivial | refine ⟨rfl, ?_⟩))) (by first | exact Le.refl _ | assumption) ?_
        refine h_one 6 rfl (by kernel_rfl) ?_
        refine rn_ ?_; intros
        refine h_hs (allIn (by repeat (first | exact trivial | refine ⟨rfl, ?_⟩))) (by first | exact Le.refl _ | assumption) ?_
        refine h_one 7 rfl (by kernel_rfl) ?_
        refine rn_ ?_; intros
        refine h_hs (allIn (by repeat (first | exact trivial | refine ⟨rfl, ?_⟩))) (by first | exact Le.refl _ | assumption) ?_
        refine h_one 8 rfl (by kernel_rfl) ?_
        refine rn_ ?_; intros
        refine h_hs (allIn (by repeat (first | exact trivial | refine ⟨rfl, ?_⟩))) (by first | exact Le.refl _ | assumption) ?_
        refine h_end (by kernel_rfl) ?_
        refine go_znil 60 rfl (by omega) ?_
        intro Z0
        refine go_zadd 60 61 rfl rfl (by omega) (by omega) (by omega) ?_
        intro Z1
        refine st_ ?_
        refine go_zadd 60 62 rfl rfl (by omega) (by omega) (by omega) ?_
        intro Z2
        refine st_ ?_
        refine rn_ ?_; intros
        refine x_retDV 60 rfl hQ hmb hmh rfl (by rw [hP]; kernel_rfl) (ks := [5, 2, 3, 4]) (ow := doC be bt bv bc 0 _ _ _ _ _ _) rfl rfl (.inl (by intro k hk; omega)) (hP ▸ doClo_idle be bt bv bc _ _ _ _ _ _ _) ?_
        rintro u' G' ow' (hle9 : Le G8 G') ⟨hs', rfl⟩
        refine ⟨hs', _, _, doRes hty rfl rfl rfl rfl rfl rfl rfl rfl, .inl ⟨_, _, rfl⟩, ?_⟩
        exact ⟨_, _, _, _, _, rfl, rfl, Rp.L_mono (hle8.trans hle9) hL3, Rp.L_mono (hle8.trans hle9) hM3, VT.rep_mono hle9 hr8, hrb⟩
    · refine go_callWP [] (ow := []) (by rw [hnt]; rfl) rfl (by rw [hP]; kernel_rfl) rfl rfl rfl (.inl (by intro k hk; cases hk)) (hP ▸ need_ok _ 2 G1) ?_ ?_
      · rintro v G' ow' _ ⟨h, _⟩
        cases h
      rintro v ⟨rfl, _⟩
      rw [hno (by rw [hv]; rfl)] at hQ
      refine x_panDV 60 hQ hmb hmh rfl (by rw [hP]; kernel_rfl) (ks := [5, 2, 3, 4]) (ow := doC be bt bv bc 0 (.slice none 0 0) (.slice none 0 0) (.int .i64 0) (.int .i64 0) (.slice none 0 0) false) rfl rfl (.inl (by intro k hk; omega)) (hP ▸ doClo_catch be bt bv bc _ _ _ _ _ _ 0 2 (by omega) _) ?_
      rintro u' G' ow' _ ⟨hs', rfl⟩
      refine ⟨hs', _, stRows (.slice none 0 0) 0 [] (.slice none 0 0) 0 [], doRes hty rfl rfl rfl rfl rfl rfl rfl rfl, .inr ?_, ?_⟩
      · intro r hr
        simp only [stRows, List.mem_cons, List.not_mem_nil, or_false] at hr
        rcases hr with rfl | rfl <;> exact ⟨rfl, rfl, rfl⟩
      · exact ⟨_, _, _, _, _, rfl, rfl, rfl, rfl, rep_leaf _ 0 0 (by simp [isI64]) (by simp [isI64]), by simp [noneV, tsz, tszL]⟩
end Go.Proofs.Ytpmmbjcgabnloaa
namespace Go.Sx
set_option linter.unusedSimpArgs false
set_option linter.unusedVariables false
open Go.RowKit
section
variable {P : Program} {ro : Option Nat} {ops : Array Oper} {md : Region.Mode}
theorem wpAnyHU_first {S : World → Prop} {Q : Exit → Act → World → Prop} {i p : Nat} {oi op : Oper} {v : Value} (hi : ops[i]? = some oi) (hsel : ∀ (j : Nat) (o : Oper) cs b, ops[j]? = some o → o.op ≠ .select cs b)
    (hQ : ∀ c a w, Q (.panic c) (a.put oi.dst v) w → Q (.panic c) a w) (hop : ops[p]? = some op) (hpi : p ≠ i) (hpe : ∃ e ∈ op.after, Region.binds md e = true ∧ e.on = i) :
    ∀ (fuel : Nat) (listed : Array Bool) (a : Act) (w : World),
      (∀ j oj, ops[j]? = some oj → j ≠ i → listed.getD j true = false → (∀ e ∈ oj.after, Region.binds md e = true → e.on ≠ i) → oi.apart ops oj = true) →
      i ∈ Region.ready md ops listed → YieldsIf P ops S oi v a → S w → listed.getD p true = false →
      wpAnyHU P ro md ops Q S p fuel (listed.setIfInBounds i true) (a.put oi.dst v) w → wpAnyHU P ro md ops Q S p (fuel + 1) listed a w := by
  intro fuel
  induction fuel with
  | zero =>
    intro listed a w _ hr hy hS hpl H
    refine ⟨fun h => (by rw [h] at hr; cases hr), fun j hj => ?_⟩
    by_cases hji : j = i
    · subst hji; exact yieldsIf_wpOpIn hi hy hS ⟨fun _ => hS, H⟩
    · have := ready_mono hj hji
      rw [H.1] at this
      cases this
  | succ fuel ih =>
    intro listed a w hfree hr hy hS hpl H
    refine ⟨fun h => (by rw [h] at hr; cases hr), fun j hj => ?_⟩
    by_cases hji : j = i
    · subst hji; exact yieldsIf_wpOpIn hi hy hS ⟨fun _ => hS, H⟩
    · have h1 := H.2 j (ready_mono hj hji)
      obtain ⟨hjun, oj, hoj, hall⟩ := mem_ready.1 hj
      have hnot : ∀ e ∈ oj.after, Region.binds md e = true → e.on ≠ i := fun e he hb heq => by
        have h1 := hall e he hb
        have h0 := (mem_ready.1 hr).1
        rw [heq] at h1
        rcases Nat.lt_or_ge i listed.size with h' | h'
        · simp [h'] at h0 h1; rw [h0] at h1; cases h1
        · simp [Array.getElem?_eq_none h'] at h1
      have hjp : j ≠ p := fun q => by
        subst q
        rw [hop] at hoj
        cases hoj
        obtain ⟨e, he, hb, heq⟩ := hpe
        exact hnot e he hb heq
      have hg1 : ((listed.setIfInBounds i true).setIfInBounds j true).getD p true = false := by
        rw [getD_set_ne true hjp, getD_set_ne true (Ne.symm hpi)]; exact hpl
      have hg2 : (listed.setIfInBounds j true).getD p true = false := by
        rw [getD_set_ne true hjp]; exact hpl
      have h2 := wpOpIn_putIf hoj (hfree j oj hoj hji hjun hnot) (fun cs b => hsel i oi cs b hi) (fun cs b => hsel j oj cs b hoj) hQ hy h1
      have hfree' : ∀ k ok, ops[k]? = some ok → k ≠ i → (listed.setIfInBounds j true).getD k true = false →
          (∀ e ∈ ok.after, Region.binds md e = true → e.on ≠ i) → oi.apart ops ok = true := fun k ok hk hki hun hno => by
        refine hfree k ok hk hki ?_ hno
        by_cases hjk : j = k
        · subst hjk; exact hjun
        · rw [getD_set_ne true hjk] at hun; exact hun
      refine wpOpIn_mono (fun a' w' h3 => ⟨fun _ => h3.2.1 hg1, ih (listed.setIfInBounds j true) a' w' hfree' (ready_mono hr (Ne.symm hji)) h3.1 (h3.2.1 hg1) hg2 ?_⟩) h2
      rw [Array.setIfInBounds_comm _ _ hji]
      exact h3.2.2
def behind (ops : Array Oper) (p i : Nat) : Bool := match ops[p]? with
  | some o => p != i && o.after.any fun e => Region.binds .any e && e.on == i
  | none => false
theorem behind_ok {p i : Nat} (h : behind ops p i = true) : ∃ op, ops[p]? = some op ∧ p ≠ i ∧ ∃ e ∈ op.after, Region.binds .any e = true ∧ e.on = i := by
  rw [behind] at h
  split at h
  · rename_i o ho
    simp only [Bool.and_eq_true, bne_iff_ne, ne_eq, Array.any_eq_true'] at h
    obtain ⟨h1, e, h2, h3⟩ := h
    exact ⟨o, ho, h1, e, h2, by simpa using h3⟩
  · cases h
theorem wpAnyIn_of_hu {S : World → Prop} {Q : Exit → Act → World → Prop} {p : Nat} : ∀ (fuel : Nat) (listed : Array Bool) (a : Act) (w : World), wpAnyHU P ro md ops Q S p fuel listed a w → wpAnyIn (FR ro) 0 P md ops Q fuel listed a w
  | 0, _, _, _, h => h
  | fuel + 1, _, _, _, h => ⟨h.1, fun i hi => wpOpIn_mono (fun a' w' h' => wpAnyIn_of_hu fuel _ a' w' h'.2) (h.2 i hi)⟩
theorem wpIn_region_hu {S : World → Prop} {Q : Exit → Act → World → Prop} {p id : Nat} {a : Act} {w : World} (hm : P.follows .mixedOrders = true)
    (h : wpAnyHU P ro .any ops Q S p ops.size (Array.replicate ops.size false) a { w with drawn := w.drawn + 1 }) : (Code.region id ops true).wpIn (FR ro) 0 P Q a w :=
  wpIn_region_any hm (wpAnyIn_of_hu _ _ _ _ h)
theorem hu_of_hi {S S' : World → Prop} {Q : Exit → Act → World → Prop} {p : Nat} : ∀ (fuel : Nat) (listed : Array Bool) (a : Act) (w : World), listed.getD p true = true → wpAnyHI P ro md ops Q S' fuel listed a w → wpAnyHU P ro md ops Q S p fuel listed a w
  | 0, _, _, _, _, h => h
  | fuel + 1, listed, _, _, hl, h => ⟨h.1, fun i hi => wpOpIn_mono (fun a' w' h' => by
      have hg : (listed.setIfInBounds i true).getD p true = true := by
        by_cases hip : i = p
        · subst hip
          rcases Nat.lt_or_ge i listed.size with q | q
          · simp [q]
          · simp [Array.getD_eq_getD_getElem?, Array.getElem?_setIfInBounds]; rw [if_neg (by omega)]; rfl
        · rw [getD_set_ne true hip]; exact hl
      exact ⟨fun q => (by rw [hg] at q; cases q), hu_of_hi fuel _ a' w' hg h'.2⟩) (h.2 i hi)⟩
end
section
variable {C : Ctx} {K : List KI} {s : St} {R : Array Oper} {l : List Oper} {d : Option Tmp} {t : TypeId} {pos : String} {aft : Array Edge}
theorem x_heldP (own0 : List (Nat × Nat × OO)) (p : Nat) {k : Code} (ht : tag k = 9) (hm : C.P.follows .mixedOrders = true) {o : Oper} (hR : cops k = (o :: l).toArray) {n : Nat} (hn : (o :: l).length = n) {ls : List Bool} (hls : List.replicate n false = ls) (h : SGo C (.hu (Hold C own0 s.G) p (o :: l).toArray n ls.toArray :: K) s) : SGo C (.code k :: K) s := by
  subst hls hn
  cases k <;> simp [tag] at ht
  rename_i a b c
  cases c <;> simp at ht
  simp only [cops] at hR
  subst hR
  intro a w hS
  have := h a _ (⟨hS.sl, hS.nt, hS.df, hS.mem.drew⟩ : Sat C s a w.drew)
  simp only [wpK] at this ⊢
  exact wpIn_region_hu (S := Hold C own0 s.G) hm (by simpa using this)
theorem hu_take (i : Nat) {own0 : List (Nat × Nat × OO)} {G0 : Hp} {n p : Nat} {listed : Array Bool} {op : Op} {x : SV} (hi : R[i]? = some ⟨d, op, t, pos, aft, none⟩) (hs : Region.noSelect R = true) (hf : Region.free .any R listed i = true)
    (hr : (Region.ready .any R listed).contains i = true) (hp : behind R p i = true) (hpl : listed.getD p true = false) (hQ : QPd C d) (hd : dOk C.nt d = true) (ho : ∀ j y, lk j own0 = some y → lk j s.own = some y) (hG : Le G0 s.G)
    (hq : Quiet C s.sl own0 G0 op x.den) (h : SGo C (.hu (Hold C own0 G0) p R n (listed.setIfInBounds i true) :: K) ⟨putS d x s.sl, s.own, s.G, s.df⟩) :
    SGo C (.hu (Hold C own0 G0) p R (n + 1) listed :: K) s := by
  intro a w hS
  have hhold : Hold C own0 G0 w := ⟨fun k b o e => (hS.mem.own k b o (ho _ _ e)).1, fun b o e => hS.mem.has b o (hG b o e)⟩
  have := h _ _ (hS.put hd x hS.mem)
  simp only [wpK] at this ⊢
  obtain ⟨op', h1, h2, h3⟩ := behind_ok hp
  refine wpAnyHU_first (i := i) (v := x.den) hi (Region.noSelect_spec hs) ?_ h1 h2 h3 n listed a w (Region.free_spec hi hf) (by simpa using hr) (.inl ⟨by simp [Region.wanted], fun w' hw' => hq a w' d t pos aft none hS.sl hw'⟩) hhold hpl this
  intro c a' w' hp
  exact wpK_panic c d x.den (fun a w => hQ c a w x.den) K a' w' hp
theorem hu_step {own0 : List (Nat × Nat × OO)} {G0 : Hp} {n p : Nat} {listed : Array Bool} {i : Nat} {o : Oper} {a : Act} {w : World} (hi : R[i]? = some o) {Ks : List KI}
    (hks : Ks = .hs (Hold C own0 G0) :: .hu (Hold C own0 G0) p R n (listed.setIfInBounds i true) :: K ∨ ∃ own1, (Ks = .h (Hold C own1 G0) R n (listed.setIfInBounds i true) :: K ∧ (listed.setIfInBounds i true).getD p true = true))
    (this : wpK C.P C.ro C.Q (.ops R [o] :: Ks) .normal a w) :
    wpOpIn (FR C.ro) 0 C.P R (wpK C.P C.ro C.Q K) i (fun a' w' => ((listed.setIfInBounds i true).getD p true = false → Hold C own0 G0 w') ∧ wpAnyHU C.P C.ro .any R (wpK C.P C.ro C.Q K) (Hold C own0 G0) p n (listed.setIfInBounds i true) a' w') a w := by
  have hK : ∀ a' w', wpK C.P C.ro C.Q Ks .normal a' w' → ((listed.setIfInBounds i true).getD p true = false → Hold C own0 G0 w') ∧ wpAnyHU C.P C.ro .any R (wpK C.P C.ro C.Q K) (Hold C own0 G0) p n (listed.setIfInBounds i true) a' w' := by
    intro a' w' q
    rcases hks with rfl | ⟨own1, rfl, hl⟩
    · simp only [wpK] at q; exact ⟨fun _ => q.1, q.2⟩
    · simp only [wpK] at q; exact ⟨fun z => (by rw [hl] at z; cases z), hu_of_hi _ _ _ _ hl q⟩
  have hE : ∀ e a' w', (∀ (q : e = Exit.normal), False) → wpK C.P C.ro C.Q Ks e a' w' → wpK C.P C.ro C.Q K e a' w' := by
    intro e a' w' hn q
    cases e with
    | normal => exact (hn rfl).elim
    | _ => rcases hks with rfl | ⟨own1, rfl, hl⟩ <;> simpa only [wpK] using q
  simp only [wpK] at this
  unfold wpOpIn
  simp only [hi]
  simp only [wpListIn] at this
  split
  · rename_i hw
    rw [if_pos hw] at this
    refine ⟨this.1, ?_⟩
    have q := this.2
    generalize (o.semAt (FR C.ro).round a.eval).run C.P w = r at q ⊢
    cases r with
    | ok nx w' =>
      cases nx <;> simp only [Oper.uponIn] at q ⊢
      case value u => exact hK _ _ q
      case skip => exact hK _ _ q
      case defer u => exact hK _ _ q
      case enter f args =>
        refine ⟨q.1, q.2.mono fun e w'' he => ?_⟩
        cases e with
        | returned u => exact hK _ _ he
        | panicked c => exact hE _ _ _ (fun q => by cases q) he
        | outgrown => rcases hks with rfl | ⟨own1, rfl, hl⟩ <;> simpa only [LetsOut, wpK] using he
      case row row args => exact ⟨q.1, q.2.mono fun u w'' he => hK _ _ he⟩
      case round l f tmps assign body =>
        refine ⟨q.1, q.2.mono fun e w'' he => ?_⟩
        cases e with
        | returned u => exact hK _ _ he
        | panicked c => exact hE _ _ _ (fun q => by cases q) he
        | outgrown => rcases hks with rfl | ⟨own1, rfl, hl⟩ <;> simpa only [LetsOut, wpK] using he
    | halt x w' =>
      cases x <;> simp only [Oper.uponIn] at q ⊢
      case panic u => exact hE _ _ _ (fun q => by cases q) q
  · rename_i hw
    rw [if_neg hw] at this
    exact ⟨this.1, hK _ _ this.2⟩
theorem hu_one (i : Nat) {own0 : List (Nat × Nat × OO)} {G0 : Hp} {n p : Nat} {listed : Array Bool} {op : Op} {g : Option (Nat × Bool)} (hi : R[i]? = some ⟨d, op, t, pos, aft, g⟩) (hr : Region.ready .any R listed = [i])
    (h : SGo C (.ops R [⟨d, op, t, pos, aft, g⟩] :: .hs (Hold C own0 G0) :: .hu (Hold C own0 G0) p R n (listed.setIfInBounds i true) :: K) s) : SGo C (.hu (Hold C own0 G0) p R (n + 1) listed :: K) s := by
  intro a w hS
  have := h a w hS
  show wpAnyHU _ _ _ _ _ _ _ _ _ _ _
  refine ⟨fun q => (by rw [hr] at q; cases q), fun j hj => ?_⟩
  rw [hr] at hj
  simp only [List.mem_singleton] at hj
  subst hj
  exact hu_step hi (.inl rfl) this
theorem hu_two (i j : Nat) {own0 : List (Nat × Nat × OO)} {G0 : Hp} {n p : Nat} {listed : Array Bool} {op op' : Op} {g g' : Option (Nat × Bool)} {d' : Option Tmp} {t' : TypeId} {pos' : String} {aft' : Array Edge} (hi : R[i]? = some ⟨d, op, t, pos, aft, g⟩) (hj : R[j]? = some ⟨d', op', t', pos', aft', g'⟩) (hr : Region.ready .any R listed = [i, j])
    (h : SGo C (.ops R [⟨d, op, t, pos, aft, g⟩] :: .hs (Hold C own0 G0) :: .hu (Hold C own0 G0) p R n (listed.setIfInBounds i true) :: K) s)
    (h' : SGo C (.ops R [⟨d', op', t', pos', aft', g'⟩] :: .hs (Hold C own0 G0) :: .hu (Hold C own0 G0) p R n (listed.setIfInBounds j true) :: K) s) : SGo C (.hu (Hold C own0 G0) p R (n + 1) listed :: K) s := by
  intro a w hS
  have h1 := h a w hS
  have h2 := h' a w hS
  show wpAnyHU _ _ _ _ _ _ _ _ _ _ _
  refine ⟨fun q => (by rw [hr] at q; cases q), fun q hq => ?_⟩
  rw [hr] at hq
  simp only [List.mem_cons, List.not_mem_nil, or_false] at hq
  rcases hq with rfl | rfl
  · exact hu_step hi (.inl rfl) h1
  · exact hu_step hj (.inl rfl) h2
theorem hu_last (i : Nat) (own1 : List (Nat × Nat × OO)) {own0 : List (Nat × Nat × OO)} {G0 : Hp} {n p : Nat} {listed : Array Bool} {op : Op} {g : Option (Nat × Bool)} (hi : R[i]? = some ⟨d, op, t, pos, aft, g⟩) (hr : Region.ready .any R listed = [i]) (hl : (listed.setIfInBounds i true).getD p true = true)
    (h : SGo C (.ops R [⟨d, op, t, pos, aft, g⟩] :: .h (Hold C own1 G0) R n (listed.setIfInBounds i true) :: K) s) : SGo C (.hu (Hold C own0 G0) p R (n + 1) listed :: K) s := by
  intro a w hS
  have := h a w hS
  show wpAnyHU _ _ _ _ _ _ _ _ _ _ _
  refine ⟨fun q => (by rw [hr] at q; cases q), fun j hj => ?_⟩
  rw [hr] at hj
  simp only [List.mem_singleton] at hj
  subst hj
  exact hu_step hi (.inr ⟨own1, rfl, hl⟩) this
end
end Go.Sx
namespace Go.Proofs.Ytpmmbjcgabnloaa
set_option linter.unusedSimpArgs false
set_option linter.unusedVariables false
open Go.Sx
set_option maxHeartbeats 8000000
set_option maxRecDepth 20000
def CapOk (v : Value) : Prop := ∀ ad n c, v = .slice ad n c → n ≤ c
theorem put_ok (s : MS) (v : VT) (sv sp sl : Value) (G : Hp) (hs : s.rep G sv sp) (hv : v.rep G sl) (hb : tsz v ≤ 1048576) (hl : s.vals.length ≤ 100000) :
    Pure Try.prog 68 [.agg #[sv, sp], .agg #[.int .i64 v.k, .int .i64 v.n, sl]] G (fun r G' => ∃ sv', r = .agg #[sv', sp] ∧ (⟨s.vals ++ [v], s.ps⟩ : MS).rep G' sv' sp ∧ CapOk sv') := by
  obtain ⟨ad1, cap1, rfl⟩ := Rp.S_slice hs.v
  obtain ⟨ad2, cap2, rfl⟩ := Rp.S_slice hs.p
  obtain ⟨ad3, cap3, rfl⟩ := VT.rep_slice hv
  obtain ⟨cs, hcs, hsrc⟩ := Rp.srcS hs.v
  refine enterX ty tyok Try.func68 rfl Try.ntmps68 [.a [.v (.slice ad1 s.vals.length cap1), .v (.slice ad2 s.ps.length cap2)], .a [.v (.int .i64 v.k), .v (.int .i64 v.n), .v (.slice ad3 v.l.length cap3)]] (by simp) ?_
  intro C hP hQ hnt hty hmb hmh hro; have hQp := qp_body hQ; refine st_ ?_
  refine rn_ ?_; intros
  rename_i b0 b1 b2
  refine x_heldP [(0, b0, .c 44 [.v (.slice ad1 s.vals.length cap1), .v (.slice ad2 s.ps.length cap2)]), (1, b1, .c 28 [.v (.int .i64 v.k), .v (.int .i64 v.n), .v (.slice ad3 v.l.length cap3)])] 8 rfl (by rw [hP]; kernel_rfl) rfl rfl rfl ?_; refine st_ ?_
  refine hu_take 1 rfl (by kernel_rfl) (by kernel_rfl) (by kernel_rfl) (by kernel_rfl) rfl (fun c a w v => hQp c a w _ v) (by rw [hnt]; rfl) (allIn (by repeat (first | exact trivial | refine ⟨rfl, ?_⟩))) (by first | exact Le.refl _ | assumption) (quiet_op (by rw [hty]; first | rfl | (refine st_ ?_; rfl))) ?_; refine st_ ?_
  refine hu_take 2 rfl (by kernel_rfl) (by kernel_rfl) (by kernel_rfl) (by kernel_rfl) rfl (fun c a w v => hQp c a w _ v) (by rw [hnt]; rfl) (allIn (by repeat (first | exact trivial | refine ⟨rfl, ?_⟩))) (by first | exact Le.refl _ | assumption) (quiet_op (by rw [hty]; first | rfl | (refine st_ ?_; rfl))) ?_; refine st_ ?_
  refine hu_take 4 rfl (by kernel_rfl) (by kernel_rfl) (by kernel_rfl) (by kernel_rfl) rfl (fun c a w v => hQp c a w _ v) (by rw [hnt]; rfl) (allIn (by repeat (first | exact trivial | refine ⟨rfl, ?_⟩))) (by first | exact Le.refl _ | assumption) (quiet_op (by rw [hty]; first | rfl | (refine st_ ?_; rfl))) ?_; refine st_ ?_
  refine hu_two 0 5 rfl rfl (by kernel_rfl) ?_ ?_
  · refine rn_ ?_; intros
    refine h_hs (allIn (by repeat (first | exact trivial | refine ⟨rfl, ?_⟩))) (by first | exact Le.refl _ | assumption) ?_
    refine hu_two 3 5 rfl rfl (by kernel_rfl) ?_ ?_
    · refine go_litrow 3 (n := 0) (size := 3) rfl (by omega) rfl (by omega) ?_
      refine st_ ?_
      refine go_append_any 3 (by rw [hnt]; rfl) (by rw [hty]; rfl) (by rw [hty]; rfl) (by decide) rfl rfl rfl (by omega) rfl (hsrc.imp id fun f => f _ _ rfl) (Rp.L_len hcs) (Rp.L_one hcs) (by omega) (by simp only []; omega) ?_
      intro v1
      refine go_rowS 3 rfl ?_
      rintro a3 c3 rfl
      refine rn_ ?_; intros
      refine h_hs (allIn (by repeat (first | exact trivial | refine ⟨rfl, ?_⟩))) (by first | exact Le.refl _ | assumption) ?_
      refine hu_one 5 rfl (by kernel_rfl) ?_
      refine rn_ ?_; intros
      refine h_hs (allIn (by repeat (first | exact trivial | refine ⟨rfl, ?_⟩))) (by first | exact Le.refl _ | assumption) ?_
      refine hu_one 6 rfl (by kernel_rfl) ?_
      refine go_append_any 3 (by rw [hnt]; rfl) (by rw [hty]; rfl) (by rw [hty]; rfl) (by decide) rfl rfl rfl (by omega) rfl (.inr (src_own 3 rfl rfl)) rfl (by simp [dens, SV.den, Value.oneCell']) (by omega) (by simp only []; omega) ?_
      intro v2
      refine go_rowC 3 rfl ?_
      rintro a4 c4 rfl hc4
      refine rn_ ?_; intros
      refine h_hs (allIn (by repeat (first | exact trivial | refine ⟨rfl, ?_⟩))) (by first | exact Le.refl _ | assumption) ?_
      refine hu_one 7 rfl (by kernel_rfl) ?_
      refine rn_ ?_; intros
      refine h_hs (allIn (by repeat (first | exact trivial | refine ⟨rfl, ?_⟩))) (by first | exact Le.refl _ | assumption) ?_
      refine hu_last 8 [] rfl (by kernel_rfl) rfl ?_
      refine rn_ ?_; intros
      refine h_end (by kernel_rfl) ?_
      refine go_pubL rV 3 rfl (by omega) (ts := s.vals ++ [v]) (by simp) (by omega) (Rp.L_append (by simpa using hcs) (Rp.L_single ⟨_, rfl, hv, hb⟩)) ?_
      intro G6 ad6 cap6 (hle6 : Le G G6) he6 hS6
      rw [← he6] at hS6
      refine st_ ?_
      refine rn_ ?_; intros
      refine x_retc rfl hQ hmb rfl (by rw [hty]; simp only [so, sq, zy, zz, tyE, SO', SQ', opQ, opStore, opAlloc, ev, putS, dOk, cv, SV.cs, SV.one, SV.bool?, eqB, Value.oneCell', ldOwn, binInt, binConst, binBool, binStr, isC, TK.agg, rv, rv1, ldV, resOne, resV, Nat.reduceAdd, Nat.reduceMul, Nat.reduceSub, Nat.reduceLT, Nat.reduceLeDiff, Nat.reduceEqDiff, Nat.reduceBEq, reduceIte, reduceCtorEq, eq_self]; try rfl) rfl ?_; simp only [SV.den, resV, dens]
      exact ⟨_, rfl, ⟨hS6, Rp.S_mono hle6 hs.p⟩, fun ad n c h => by cases h; simpa using hc4⟩
    · refine rn_ ?_; intros
      refine h_hs (allIn (by repeat (first | exact trivial | refine ⟨rfl, ?_⟩))) (by first | exact Le.refl _ | assumption) ?_
      refine hu_one 3 rfl (by kernel_rfl) ?_
      refine go_litrow 3 (n := 0) (size := 3) rfl (by omega) rfl (by omega) ?_
      refine st_ ?_
      refine go_append_any 3 (by rw [hnt]; rfl) (by rw [hty]; rfl) (by rw [hty]; rfl) (by decide) rfl rfl rfl (by omega) rfl (hsrc.imp id fun f => f _ _ rfl) (Rp.L_len hcs) (Rp.L_one hcs) (by omega) (by simp only []; omega) ?_
      intro v1
      refine go_rowS 3 rfl ?_
      rintro a3 c3 rfl
      refine rn_ ?_; intros
      refine h_hs (allIn (by repeat (first | exact trivial | refine ⟨rfl, ?_⟩))) (by first | exact Le.refl _ | assumption) ?_
      refine hu_one 6 rfl (by kernel_rfl) ?_
      refine go_append_any 3 (by rw [hnt]; rfl) (by rw [hty]; rfl) (by rw [hty]; rfl) (by decide) rfl rfl rfl (by omega) rfl (.inr (src_own 3 rfl rfl)) rfl (by simp [dens, SV.den, Value.oneCell']) (by omega) (by simp only []; omega) ?_
      intro v2
      refine go_rowC 3 rfl ?_
      rintro a4 c4 rfl hc4
      refine rn_ ?_; intros
      refine h_hs (allIn (by repeat (first | exact trivial | refine ⟨rfl, ?_⟩))) (by first | exact Le.refl _ | assumption) ?_
      refine hu_one 7 rfl (by kernel_rfl) ?_
      refine rn_ ?_; intros
      refine h_hs (allIn (by repeat (first | exact trivial | refine ⟨rfl, ?_⟩))) (by first | exact Le.refl _ | assumption) ?_
      refine hu_last 8 [] rfl (by kernel_rfl) rfl ?_
      refine rn_ ?_; intros
      refine h_end (by kernel_rfl) ?_
      refine go_pubL rV 3 rfl (by omega) (ts := s.vals ++ [v]) (by simp) (by omega) (Rp.L_append (by simpa using hcs) (Rp.L_single ⟨_, rfl, hv, hb⟩)) ?_
      intro G6 ad6 cap6 (hle6 : Le G G6) he6 hS6
      rw [← he6] at hS6
      refine st_ ?_
      refine rn_ ?_; intros
      refine x_retc rfl hQ hmb rfl (by rw [hty]; simp only [so, sq, zy, zz, tyE, SO', SQ', opQ, opStore, opAlloc, ev, putS, dOk, cv, SV.cs, SV.one, SV.bool?, eqB, Value.oneCell', ldOwn, binInt, binConst, binBool, binStr, isC, TK.agg, rv, rv1, ldV, resOne, resV, Nat.reduceAdd, Nat.reduceMul, Nat.reduceSub, Nat.reduceLT, Nat.reduceLeDiff, Nat.reduceEqDiff, Nat.reduceBEq, reduceIte, reduceCtorEq, eq_self]; try rfl) rfl ?_; simp only [SV.den, resV, dens]
      exact ⟨_, rfl, ⟨hS6, Rp.S_mono hle6 hs.p⟩, fun ad n c h => by cases h; simpa using hc4⟩
  · refine rn_ ?_; intros
    refine h_hs (allIn (by repeat (first | exact trivial | refine ⟨rfl, ?_⟩))) (by first | exact Le.refl _ | assumption) ?_
    refine hu_one 0 rfl (by kernel_rfl) ?_
    refine rn_ ?_; intros
    refine h_hs (allIn (by repeat (first | exact trivial | refine ⟨rfl, ?_⟩))) (by first | exact Le.refl _ | assumption) ?_
    refine hu_one 3 rfl (by kernel_rfl) ?_
    refine go_litrow 4 (n := 0) (size := 3) rfl (by omega) rfl (by omega) ?_
    refine st_ ?_
    refine go_append_any 4 (by rw [hnt]; rfl) (by rw [hty]; rfl) (by rw [hty]; rfl) (by decide) rfl rfl rfl (by omega) rfl (hsrc.imp id fun f => f _ _ rfl) (Rp.L_len hcs) (Rp.L_one hcs) (by omega) (by simp only []; omega) ?_
    intro v1
    refine go_rowS 4 rfl ?_
    rintro a3 c3 rfl
    refine rn_ ?_; intros
    refine h_hs (allIn (by repeat (first | exact trivial | refine ⟨rfl, ?_⟩))) (by first | exact Le.refl _ | assumption) ?_
    refine hu_one 6 rfl (by kernel_rfl) ?_
    refine go_append_any 4 (by rw [hnt]; rfl) (by rw [hty]; rfl) (by rw [hty]; rfl) (by decide) rfl rfl rfl (by omega) rfl (.inr (src_own 3 rfl rfl)) rfl (by simp [dens, SV.den, Value.oneCell']) (by omega) (by simp only []; omega) ?_
    intro v2
    refine go_rowC 4 rfl ?_
    rintro a4 c4 rfl hc4
    refine rn_ ?_; intros
    refine h_hs (allIn (by repeat (first | exact trivial | refine ⟨rfl, ?_⟩))) (by first | exact Le.refl _ | assumption) ?_
    refine hu_one 7 rfl (by kernel_rfl) ?_
    refine rn_ ?_; intros
    refine h_hs (allIn (by repeat (first | exact trivial | refine ⟨rfl, ?_⟩))) (by first | exact Le.refl _ | assumption) ?_
    refine hu_last 8 [] rfl (by kernel_rfl) rfl ?_
    refine rn_ ?_; intros
    refine h_end (by kernel_rfl) ?_
    refine go_pubL rV 4 rfl (by omega) (ts := s.vals ++ [v]) (by simp) (by omega) (Rp.L_append (by simpa using hcs) (Rp.L_single ⟨_, rfl, hv, hb⟩)) ?_
    intro G6 ad6 cap6 (hle6 : Le G G6) he6 hS6
    rw [← he6] at hS6
    refine st_ ?_
    refine rn_ ?_; intros
    refine x_retc rfl hQ hmb rfl (by rw [hty]; simp only [so, sq, zy, zz, tyE, SO', SQ', opQ, opStore, opAlloc, ev, putS, dOk, cv, SV.cs, SV.one, SV.bool?, eqB, Value.oneCell', ldOwn, binInt, binConst, binBool, binStr, isC, TK.agg, rv, rv1, ldV, resOne, resV, Nat.reduceAdd, Nat.reduceMul, Nat.reduceSub, Nat.reduceLT, Nat.reduceLeDiff, Nat.reduceEqDiff, Nat.reduceBEq, reduceIte, reduceCtorEq, eq_self]; try rfl) rfl ?_; simp only [SV.den, resV, dens]
    exact ⟨_, rfl, ⟨hS6, Rp.S_mono hle6 hs.p⟩, fun ad n c h => by cases h; simpa using hc4⟩
end Go.Proofs.Ytpmmbjcgabnloaa
namespace Go.Proofs.Ytpmmbjcgabnloaa
set_option linter.unusedSimpArgs false
set_option linter.unusedVariables false
open Go.Sx
set_option maxHeartbeats 8000000
set_option maxRecDepth 20000
def rdRet (r : MS × VT × Bool) (v : Value) (G : Hp) : Prop := ∃ v1 v2 sl, v = .tuple #[.agg #[v1, v2], .agg #[.int .i64 r.2.1.k, .int .i64 r.2.1.n, sl], .bool r.2.2] ∧ r.1.rep G v1 v2 ∧ r.2.1.rep G sl ∧ tsz r.2.1 ≤ 1048576 ∧ CapOk v1
theorem does10_ok (th : Int) (arg res : VT) (fr to : Int) (dn : Bool) (s : MS) (sv sp sa sr : Value) (G : Hp) (hs : s.rep G sv sp) (ho : (⟨th, 0, arg, res, fr, to, dn⟩ : Op).rep G sa sr) (hl : s.vals.length ≤ 100000) (hc : CapOk sv) :
    Pure Try.prog 47 [.int .i64 1, .agg #[sv, sp], .agg (opL ⟨th, 0, arg, res, fr, to, dn⟩ sa sr).toArray] G (rdRet (varP s ⟨th, 0, arg, res, fr, to, dn⟩)) := by
  obtain ⟨ada, capa, rfl⟩ := VT.rep_slice ho.a
  obtain ⟨adr, capr, rfl⟩ := VT.rep_slice ho.r
  obtain ⟨ad1, cap1, rfl⟩ := Rp.S_slice hs.v
  obtain ⟨ad2, cap2, rfl⟩ := Rp.S_slice hs.p
  refine enterX ty tyok Try.func47 rfl Try.ntmps47 [.v (.int .i64 1), .a [.v (.slice ad1 s.vals.length cap1), .v (.slice ad2 s.ps.length cap2)], .a (opC ⟨th, 0, arg, res, fr, to, dn⟩ (.slice ada arg.l.length capa) (.slice adr res.l.length capr))] (by simp) ?_
  simp only [opC]
  intro C hP hQ hnt hty hmb hmh hro; have hQp := qp_body hQ; refine st_ ?_
  refine rn_ ?_; intros
  rename_i b0 b1 b2 b3 b4 b5
  (refine x_split rfl rfl rfl (fun _ => ?_) (fun hc => absurd hc (by first | decide +kernel | (simp; first | done | fail))); refine st_ ?_; (refine ru_ ?_; intros))
  refine rn_ ?_; intros
  refine x_split rfl rfl rfl (fun hv => ?_) (fun hv => ?_) <;> (refine st_ ?_; (refine ru_ ?_; intros))
  · have e : varP s ⟨th, 0, arg, res, fr, to, dn⟩ = (s, intV 0, true) := by
      rw [varP]
      split
      · rename_i q; rw [q] at hv; simp at hv
      · rfl
    refine x_held [(0, b0, .c 44 [.v (.slice ad1 s.vals.length cap1), .v (.slice ad2 s.ps.length cap2)])] rfl (by rw [hP]; kernel_rfl) rfl rfl rfl ?_; refine st_ ?_
    refine h_take 0 rfl (by kernel_rfl) (by kernel_rfl) (by kernel_rfl) hQp (by rw [hnt]; rfl) (allIn (by repeat (first | exact trivial | refine ⟨rfl, ?_⟩))) (by first | exact Le.refl _ | assumption) (quiet_op (by rw [hty]; first | rfl | (refine st_ ?_; rfl))) ?_; refine st_ ?_
    refine h_one 1 rfl (by kernel_rfl) ?_
    refine go_callf (by rw [hnt]; rfl) (by rw [hP]; kernel_rfl) rfl (hP ▸ refint_ok 0 _) ?_; refine rn_ ?_; intros
    refine h_hs (allIn (by repeat (first | exact trivial | refine ⟨rfl, ?_⟩))) (by first | exact Le.refl _ | assumption) ?_
    refine h_one 2 rfl (by kernel_rfl) ?_
    refine rn_ ?_; intros
    refine h_hs (allIn (by repeat (first | exact trivial | refine ⟨rfl, ?_⟩))) (by first | exact Le.refl _ | assumption) ?_
    refine h_one 3 rfl (by kernel_rfl) ?_
    refine rn_ ?_; intros
    refine h_hs (allIn (by repeat (first | exact trivial | refine ⟨rfl, ?_⟩))) (by first | exact Le.refl _ | assumption) ?_
    refine h_one 4 rfl (by kernel_rfl) ?_
    refine rn_ ?_; intros
    refine h_hs (allIn (by repeat (first | exact trivial | refine ⟨rfl, ?_⟩))) (by first | exact Le.refl _ | assumption) ?_
    refine h_end (by kernel_rfl) ?_
    refine rn_ ?_; intros
    refine x_retc rfl hQ hmb rfl (by rw [hty]; simp only [so, sq, zy, zz, tyE, SO', SQ', opQ, opStore, opAlloc, ev, putS, dOk, cv, SV.cs, SV.one, SV.bool?, eqB, Value.oneCell', ldOwn, binInt, binConst, binBool, binStr, isC, TK.agg, rv, rv1, ldV, resOne, resV, Nat.reduceAdd, Nat.reduceMul, Nat.reduceSub, Nat.reduceLT, Nat.reduceLeDiff, Nat.reduceEqDiff, Nat.reduceBEq, reduceIte, reduceCtorEq, eq_self]; try rfl) rfl ?_; simp only [SV.den, resV, dens]
    rw [e]
    exact ⟨_, _, _, rfl, hs, rep_leaf _ 2 0 (by simp [isI64]) (by simp [isI64]), by simp [intV, tsz, tszL], hc⟩
  have hv' : s.vals = [] := by simpa using hv
  have e : varP s ⟨th, 0, arg, res, fr, to, dn⟩ = (⟨s.vals ++ [arg], s.ps⟩, intV 1, true) := by rw [varP, hv']; rfl
  refine rn_ ?_; intros
  refine go_call (by rw [hnt]; rfl) (by rw [hP]; kernel_rfl) rfl (hP ▸ put_ok s arg _ _ _ _ hs ho.a ho.ok.ba hl) ?_
  rintro v G1 (hle1 : Le G G1) ⟨sv', rfl, hs1, hc1⟩
  obtain ⟨ad7, cap7, e7⟩ := Rp.S_slice hs1.v
  simp only at e7
  subst e7
  refine rn_ ?_; intros
  refine go_callf (by rw [hnt]; rfl) (by rw [hP]; kernel_rfl) rfl (hP ▸ refint_ok 1 _) ?_; refine rn_ ?_; intros
  refine x_retc rfl hQ hmb rfl (by rw [hty]; simp only [so, sq, zy, zz, tyE, SO', SQ', opQ, opStore, opAlloc, ev, putS, dOk, cv, SV.cs, SV.one, SV.bool?, eqB, Value.oneCell', ldOwn, binInt, binConst, binBool, binStr, isC, TK.agg, rv, rv1, ldV, resOne, resV, Nat.reduceAdd, Nat.reduceMul, Nat.reduceSub, Nat.reduceLT, Nat.reduceLeDiff, Nat.reduceEqDiff, Nat.reduceBEq, reduceIte, reduceCtorEq, eq_self]; try rfl) rfl ?_; simp only [SV.den, resV, dens]
  rw [e]
  exact ⟨_, _, _, rfl, hs1, rep_leaf _ 2 1 (by simp [isI64]) (by simp [isI64]), by simp [intV, tsz, tszL], hc1⟩
theorem does11_ok (th : Int) (arg res : VT) (fr to : Int) (dn : Bool) (s : MS) (sv sp sa sr : Value) (G : Hp) (hs : s.rep G sv sp) (ho : (⟨th, 1, arg, res, fr, to, dn⟩ : Op).rep G sa sr) (hl : s.vals.length ≤ 100000) (hc : CapOk sv) :
    Pure Try.prog 47 [.int .i64 1, .agg #[sv, sp], .agg (opL ⟨th, 1, arg, res, fr, to, dn⟩ sa sr).toArray] G (rdRet (varP s ⟨th, 1, arg, res, fr, to, dn⟩)) := by
  obtain ⟨ada, capa, rfl⟩ := VT.rep_slice ho.a
  obtain ⟨adr, capr, rfl⟩ := VT.rep_slice ho.r
  obtain ⟨ad1, cap1, rfl⟩ := Rp.S_slice hs.v
  obtain ⟨ad2, cap2, rfl⟩ := Rp.S_slice hs.p
  refine enterX ty tyok Try.func47 rfl Try.ntmps47 [.v (.int .i64 1), .a [.v (.slice ad1 s.vals.length cap1), .v (.slice ad2 s.ps.length cap2)], .a (opC ⟨th, 1, arg, res, fr, to, dn⟩ (.slice ada arg.l.length capa) (.slice adr res.l.length capr))] (by simp) ?_
  simp only [opC]
  intro C hP hQ hnt hty hmb hmh hro; have hQp := qp_body hQ; refine st_ ?_
  refine rn_ ?_; intros
  rename_i b0 b1 b2 b3 b4 b5
  (refine x_split rfl rfl rfl (fun hc => absurd hc (by first | decide +kernel | (simp; first | done | fail))) (fun _ => ?_); refine st_ ?_; (refine ru_ ?_; intros))
  refine rn_ ?_; intros
  (refine x_split rfl rfl rfl (fun _ => ?_) (fun hc => absurd hc (by first | decide +kernel | (simp; first | done | fail))); refine st_ ?_; (refine ru_ ?_; intros))
  refine rn_ ?_; intros
  refine x_split rfl rfl rfl (fun hv => ?_) (fun hv => ?_) <;> (refine st_ ?_; (refine ru_ ?_; intros))
  · obtain ⟨x, r, hx⟩ : ∃ x r, s.vals = x :: r := by
      rcases h : s.vals with _ | ⟨x, r⟩
      · rw [h] at hv; simp at hv
      · exact ⟨x, r, rfl⟩
    have h0 : 0 < s.vals.length := by rw [hx]; simp
    have hx0 : s.vals[0] = x := by simp [hx]
    have e : varP s ⟨th, 1, arg, res, fr, to, dn⟩ = (s, s.vals[0], true) := by rw [hx0]; simp only [varP, hx]; rfl
    obtain ⟨c1, o1, slx, rfl, hat, hrep, hb⟩ := rV_at hs.v (i := 0) h0
    obtain ⟨asl, csl, rfl⟩ := VT.rep_slice hrep
    refine x_held [(0, b0, .c 44 [.v (.slice (some ⟨c1, o1, none⟩) s.vals.length cap1), .v (.slice ad2 s.ps.length cap2)])] rfl (by rw [hP]; kernel_rfl) rfl rfl rfl ?_; refine st_ ?_
    refine h_take 0 rfl (by kernel_rfl) (by kernel_rfl) (by kernel_rfl) hQp (by rw [hnt]; rfl) (allIn (by repeat (first | exact trivial | refine ⟨rfl, ?_⟩))) (by first | exact Le.refl _ | assumption) (quiet_op (by rw [hty]; first | rfl | (refine st_ ?_; rfl))) ?_; refine st_ ?_
    refine h_take 1 rfl (by kernel_rfl) (by kernel_rfl) (by kernel_rfl) hQp (by rw [hnt]; rfl) (allIn (by repeat (first | exact trivial | refine ⟨rfl, ?_⟩))) (by first | exact Le.refl _ | assumption) (quiet_op (by rw [hty]; first | rfl | (refine st_ ?_; rfl))) ?_; refine st_ ?_
    refine h_take 2 rfl (by kernel_rfl) (by kernel_rfl) (by kernel_rfl) hQp (by rw [hnt]; rfl) (allIn (by repeat (first | exact trivial | refine ⟨rfl, ?_⟩))) (by first | exact Le.refl _ | assumption) (quiet_op (by rw [hty]; first | rfl | (refine st_ ?_; rfl))) ?_; refine st_ ?_
    refine h_take 3 rfl (by kernel_rfl) (by kernel_rfl) (by kernel_rfl) hQp (by rw [hnt]; rfl) (allIn (by repeat (first | exact trivial | refine ⟨rfl, ?_⟩))) (by first | exact Le.refl _ | assumption) (x := .v (.pointer (some ⟨c1, o1 + 0 * 3, none⟩))) ((quiet_index (k := .i64) (n := 0) (by rw [hty]; rfl) (by rw [hty]; rfl) rfl rfl rfl (by omega) (by omega)).cast rfl) ?_
    refine st_ ?_
    refine h_take 4 rfl (by kernel_rfl) (by kernel_rfl) (by kernel_rfl) hQp (by rw [hnt]; rfl) (allIn (by repeat (first | exact trivial | refine ⟨rfl, ?_⟩))) (by first | exact Le.refl _ | assumption) (x := .a [.v (.int .i64 s.vals[0].k), .v (.int .i64 s.vals[0].n), .v (.slice asl s.vals[0].l.length csl)]) ((quiet_load (by rw [hty]; rfl) rfl (fun q => by cases q) hat rfl).cast (by simp only [ldV, SV.den, dens]; rfl)) ?_
    refine st_ ?_
    refine h_one 5 rfl (by kernel_rfl) ?_
    refine rn_ ?_; intros
    refine h_hs (allIn (by repeat (first | exact trivial | refine ⟨rfl, ?_⟩))) (by first | exact Le.refl _ | assumption) ?_
    refine h_one 6 rfl (by kernel_rfl) ?_
    refine rn_ ?_; intros
    refine h_hs (allIn (by repeat (first | exact trivial | refine ⟨rfl, ?_⟩))) (by first | exact Le.refl _ | assumption) ?_
    refine h_one 7 rfl (by kernel_rfl) ?_
    refine rn_ ?_; intros
    refine h_hs (allIn (by repeat (first | exact trivial | refine ⟨rfl, ?_⟩))) (by first | exact Le.refl _ | assumption) ?_
    refine h_end (by kernel_rfl) ?_
    refine rn_ ?_; intros
    refine x_retc rfl hQ hmb rfl (by rw [hty]; simp only [so, sq, zy, zz, tyE, SO', SQ', opQ, opStore, opAlloc, ev, putS, dOk, cv, SV.cs, SV.one, SV.bool?, eqB, Value.oneCell', ldOwn, binInt, binConst, binBool, binStr, isC, TK.agg, rv, rv1, ldV, resOne, resV, Nat.reduceAdd, Nat.reduceMul, Nat.reduceSub, Nat.reduceLT, Nat.reduceLeDiff, Nat.reduceEqDiff, Nat.reduceBEq, reduceIte, reduceCtorEq, eq_self]; try rfl) rfl ?_; simp only [SV.den, resV, dens]
    rw [e]
    exact ⟨_, _, _, rfl, hs, hrep, hb, hc⟩
  have e : varP s ⟨th, 1, arg, res, fr, to, dn⟩ = (s, noneV, false) := by
    have hv' : s.vals = [] := by simpa using hv
    rw [varP, hv']; rfl
  refine rn_ ?_; intros
  refine x_held [(0, b0, .c 44 [.v (.slice ad1 s.vals.length cap1), .v (.slice ad2 s.ps.length cap2)]), (5, b5, .c 28 [.v (.int .i64 0), .v (.int .i64 0), .v (.slice none 0 0)])] rfl (by rw [hP]; kernel_rfl) rfl rfl rfl ?_; refine st_ ?_
  refine h_take 0 rfl (by kernel_rfl) (by kernel_rfl) (by kernel_rfl) hQp (by rw [hnt]; rfl) (allIn (by repeat (first | exact trivial | refine ⟨rfl, ?_⟩))) (by first | exact Le.refl _ | assumption) (quiet_op (by rw [hty]; first | rfl | (refine st_ ?_; rfl))) ?_; refine st_ ?_
  refine h_take 1 rfl (by kernel_rfl) (by kernel_rfl) (by kernel_rfl) hQp (by rw [hnt]; rfl) (allIn (by repeat (first | exact trivial | refine ⟨rfl, ?_⟩))) (by first | exact Le.refl _ | assumption) (quiet_op (by rw [hty]; first | rfl | (refine st_ ?_; rfl))) ?_; refine st_ ?_
  refine h_one 2 rfl (by kernel_rfl) ?_
  refine rn_ ?_; intros
  refine h_hs (allIn (by repeat (first | exact trivial | refine ⟨rfl, ?_⟩))) (by first | exact Le.refl _ | assumption) ?_
  refine h_one 3 rfl (by kernel_rfl) ?_
  refine rn_ ?_; intros
  refine h_hs (allIn (by repeat (first | exact trivial | refine ⟨rfl, ?_⟩))) (by first | exact Le.refl _ | assumption) ?_
  refine h_one 4 rfl (by kernel_rfl) ?_
  refine rn_ ?_; intros
  refine h_hs (allIn (by repeat (first | exact trivial | refine ⟨rfl, ?_⟩))) (by first | exact Le.refl _ | assumption) ?_
  refine h_end (by kernel_rfl) ?_
  refine rn_ ?_; intros
  refine x_retc rfl hQ hmb rfl (by rw [hty]; simp only [so, sq, zy, zz, tyE, SO', SQ', opQ, opStore, opAlloc, ev, putS, dOk, cv, SV.cs, SV.one, SV.bool?, eqB, Value.oneCell', ldOwn, binInt, binConst, binBool, binStr, isC, TK.agg, rv, rv1, ldV, resOne, resV, Nat.reduceAdd, Nat.reduceMul, Nat.reduceSub, Nat.reduceLT, Nat.reduceLeDiff, Nat.reduceEqDiff, Nat.reduceBEq, reduceIte, reduceCtorEq, eq_self]; try rfl) rfl ?_; simp only [SV.den, resV, dens]
  rw [e]
  exact ⟨_, _, _, rfl, hs, rep_leaf _ 0 0 (by simp [isI64]) (by simp [isI64]), by simp [noneV, tsz, tszL], hc⟩
theorem does20_ok (th : Int) (arg res : VT) (fr to : Int) (dn : Bool) (s : MS) (sv sp sa sr : Value) (G : Hp) (hs : s.rep G sv sp) (ho : (⟨th, 0, arg, res, fr, to, dn⟩ : Op).rep G sa sr) (hl : s.vals.length ≤ 100000) (hc : CapOk sv) :
    Pure Try.prog 47 [.int .i64 2, .agg #[sv, sp], .agg (opL ⟨th, 0, arg, res, fr, to, dn⟩ sa sr).toArray] G (rdRet (slotP s ⟨th, 0, arg, res, fr, to, dn⟩)) := by
  obtain ⟨ada, capa, rfl⟩ := VT.rep_slice ho.a
  obtain ⟨adr, capr, rfl⟩ := VT.rep_slice ho.r
  obtain ⟨ad1, cap1, rfl⟩ := Rp.S_slice hs.v
  obtain ⟨ad2, cap2, rfl⟩ := Rp.S_slice hs.p
  refine enterX ty tyok Try.func47 rfl Try.ntmps47 [.v (.int .i64 2), .a [.v (.slice ad1 s.vals.length cap1), .v (.slice ad2 s.ps.length cap2)], .a (opC ⟨th, 0, arg, res, fr, to, dn⟩ (.slice ada arg.l.length capa) (.slice adr res.l.length capr))] (by simp) ?_
  simp only [opC]
  intro C hP hQ hnt hty hmb hmh hro; have hQp := qp_body hQ; refine st_ ?_
  refine rn_ ?_; intros
  rename_i b0 b1 b2 b3 b4 b5
  (refine x_split rfl rfl rfl (fun hc => absurd hc (by first | decide +kernel | (simp; first | done | fail))) (fun _ => ?_); refine st_ ?_; (refine ru_ ?_; intros))
  refine rn_ ?_; intros
  (refine x_split rfl rfl rfl (fun hc => absurd hc (by first | decide +kernel | (simp; first | done | fail))) (fun _ => ?_); refine st_ ?_; (refine ru_ ?_; intros))
  refine rn_ ?_; intros
  (refine x_split rfl rfl rfl (fun _ => ?_) (fun hc => absurd hc (by first | decide +kernel | (simp; first | done | fail))); refine st_ ?_; (refine ru_ ?_; intros))
  refine rn_ ?_; intros
  refine x_split rfl rfl rfl (fun hv => ?_) (fun hv => ?_) <;> (refine st_ ?_; (refine ru_ ?_; intros))
  · have hv' : s.vals = [] := by simpa using hv
    have e : slotP s ⟨th, 0, arg, res, fr, to, dn⟩ = (⟨s.vals ++ [arg], s.ps⟩, unitV, true) := by rw [slotP, hv']; simp [boxP, hv']
    refine x_held [(0, b0, .c 44 [.v (.slice ad1 s.vals.length cap1), .v (.slice ad2 s.ps.length cap2)]), (1, b1, .c 40 [.v (.int .i64 th), .v (.int .i64 0), .v (.int .i64 arg.k), .v (.int .i64 arg.n), .v (.slice ada arg.l.length capa), .v (.int .i64 res.k), .v (.int .i64 res.n), .v (.slice adr res.l.length capr), .v (.int .i64 fr), .v (.int .i64 to), .v (.bool dn)]), (4, b4, .c 28 [.v (.int .i64 1), .v (.int .i64 0), .v (.slice none 0 0)])] rfl (by rw [hP]; kernel_rfl) rfl rfl rfl ?_; refine st_ ?_
    refine h_take 0 rfl (by kernel_rfl) (by kernel_rfl) (by kernel_rfl) hQp (by rw [hnt]; rfl) (allIn (by repeat (first | exact trivial | refine ⟨rfl, ?_⟩))) (by first | exact Le.refl _ | assumption) (quiet_op (by rw [hty]; first | rfl | (refine st_ ?_; rfl))) ?_; refine st_ ?_
    refine h_take 1 rfl (by kernel_rfl) (by kernel_rfl) (by kernel_rfl) hQp (by rw [hnt]; rfl) (allIn (by repeat (first | exact trivial | refine ⟨rfl, ?_⟩))) (by first | exact Le.refl _ | assumption) (quiet_op (by rw [hty]; first | rfl | (refine st_ ?_; rfl))) ?_; refine st_ ?_
    refine h_take 2 rfl (by kernel_rfl) (by kernel_rfl) (by kernel_rfl) hQp (by rw [hnt]; rfl) (allIn (by repeat (first | exact trivial | refine ⟨rfl, ?_⟩))) (by first | exact Le.refl _ | assumption) (quiet_op (by rw [hty]; first | rfl | (refine st_ ?_; rfl))) ?_; refine st_ ?_
    refine h_take 4 rfl (by kernel_rfl) (by kernel_rfl) (by kernel_rfl) hQp (by rw [hnt]; rfl) (allIn (by repeat (first | exact trivial | refine ⟨rfl, ?_⟩))) (by first | exact Le.refl _ | assumption) (quiet_op (by rw [hty]; first | rfl | (refine st_ ?_; rfl))) ?_; refine st_ ?_
    refine h_one 3 rfl (by kernel_rfl) ?_
    refine go_call (by rw [hnt]; rfl) (by rw [hP]; kernel_rfl) rfl (hP ▸ put_ok s arg _ _ _ _ hs ho.a ho.ok.ba hl) ?_
    rintro v G1 (hle1 : Le G G1) ⟨sv', rfl, hs1, hc1⟩
    obtain ⟨ad7, cap7, e7⟩ := Rp.S_slice hs1.v
    simp only at e7
    subst e7
    refine rn_ ?_; intros
    refine h_hs (allIn (by repeat (first | exact trivial | refine ⟨rfl, ?_⟩))) (by first | exact Le.refl _ | assumption) ?_
    refine h_one 5 rfl (by kernel_rfl) ?_
    refine rn_ ?_; intros
    refine h_hs (allIn (by repeat (first | exact trivial | refine ⟨rfl, ?_⟩))) (by first | exact Le.refl _ | assumption) ?_
    refine h_one 6 rfl (by kernel_rfl) ?_
    refine rn_ ?_; intros
    refine h_hs (allIn (by repeat (first | exact trivial | refine ⟨rfl, ?_⟩))) (by first | exact Le.refl _ | assumption) ?_
    refine h_one 7 rfl (by kernel_rfl) ?_
    refine rn_ ?_; intros
    refine h_hs (allIn (by repeat (first | exact trivial | refine ⟨rfl, ?_⟩))) (by first | exact Le.refl _ | assumption) ?_
    refine h_end (by kernel_rfl) ?_
    refine rn_ ?_; intros
    refine x_retc rfl hQ hmb rfl (by rw [hty]; simp only [so, sq, zy, zz, tyE, SO', SQ', opQ, opStore, opAlloc, ev, putS, dOk, cv, SV.cs, SV.one, SV.bool?, eqB, Value.oneCell', ldOwn, binInt, binConst, binBool, binStr, isC, TK.agg, rv, rv1, ldV, resOne, resV, Nat.reduceAdd, Nat.reduceMul, Nat.reduceSub, Nat.reduceLT, Nat.reduceLeDiff, Nat.reduceEqDiff, Nat.reduceBEq, reduceIte, reduceCtorEq, eq_self]; try rfl) rfl ?_; simp only [SV.den, resV, dens]
    rw [e]
    exact ⟨_, _, _, rfl, hs1, rep_leaf _ 1 0 (by simp [isI64]) (by simp [isI64]), by simp [unitV, tsz, tszL], hc1⟩
  have e : slotP s ⟨th, 0, arg, res, fr, to, dn⟩ = (s, noneV, false) := by
    rw [slotP, if_pos ⟨rfl, by simpa using hv⟩]
  refine rn_ ?_; intros
  refine x_held [(0, b0, .c 44 [.v (.slice ad1 s.vals.length cap1), .v (.slice ad2 s.ps.length cap2)]), (5, b5, .c 28 [.v (.int .i64 0), .v (.int .i64 0), .v (.slice none 0 0)])] rfl (by rw [hP]; kernel_rfl) rfl rfl rfl ?_; refine st_ ?_
  refine h_take 0 rfl (by kernel_rfl) (by kernel_rfl) (by kernel_rfl) hQp (by rw [hnt]; rfl) (allIn (by repeat (first | exact trivial | refine ⟨rfl, ?_⟩))) (by first | exact Le.refl _ | assumption) (quiet_op (by rw [hty]; first | rfl | (refine st_ ?_; rfl))) ?_; refine st_ ?_
  refine h_take 1 rfl (by kernel_rfl) (by kernel_rfl) (by kernel_rfl) hQp (by rw [hnt]; rfl) (allIn (by repeat (first | exact trivial | refine ⟨rfl, ?_⟩))) (by first | exact Le.refl _ | assumption) (quiet_op (by rw [hty]; first | rfl | (refine st_ ?_; rfl))) ?_; refine st_ ?_
  refine h_one 2 rfl (by kernel_rfl) ?_
  refine rn_ ?_; intros
  refine h_hs (allIn (by repeat (first | exact trivial | refine ⟨rfl, ?_⟩))) (by first | exact Le.refl _ | assumption) ?_
  refine h_one 3 rfl (by kernel_rfl) ?_
  refine rn_ ?_; intros
  refine h_hs (allIn (by repeat (first | exact trivial | refine ⟨rfl, ?_⟩))) (by first | exact Le.refl _ | assumption) ?_
  refine h_one 4 rfl (by kernel_rfl) ?_
  refine rn_ ?_; intros
  refine h_hs (allIn (by repeat (first | exact trivial | refine ⟨rfl, ?_⟩))) (by first | exact Le.refl _ | assumption) ?_
  refine h_end (by kernel_rfl) ?_
  refine rn_ ?_; intros
  refine x_retc rfl hQ hmb rfl (by rw [hty]; simp only [so, sq, zy, zz, tyE, SO', SQ', opQ, opStore, opAlloc, ev, putS, dOk, cv, SV.cs, SV.one, SV.bool?, eqB, Value.oneCell', ldOwn, binInt, binConst, binBool, binStr, isC, TK.agg, rv, rv1, ldV, resOne, resV, Nat.reduceAdd, Nat.reduceMul, Nat.reduceSub, Nat.reduceLT, Nat.reduceLeDiff, Nat.reduceEqDiff, Nat.reduceBEq, reduceIte, reduceCtorEq, eq_self]; try rfl) rfl ?_; simp only [SV.den, resV, dens]
  rw [e]
  exact ⟨_, _, _, rfl, hs, rep_leaf _ 0 0 (by simp [isI64]) (by simp [isI64]), by simp [noneV, tsz, tszL], hc⟩
end Go.Proofs.Ytpmmbjcgabnloaa
namespace Go.Proofs.Ytpmmbjcgabnloaa
set_option linter.unusedSimpArgs false
set_option linter.unusedVariables false
open Go.Sx
set_option maxHeartbeats 8000000
set_option maxRecDepth 20000
theorem does21_ok (th : Int) (arg res : VT) (fr to : Int) (dn : Bool) (s : MS) (sv sp sa sr : Value) (G : Hp) (hs : s.rep G sv sp) (ho : (⟨th, 1, arg, res, fr, to, dn⟩ : Op).rep G sa sr) (hl : s.vals.length ≤ 100000) (hc : CapOk sv) :
    Pure Try.prog 47 [.int .i64 2, .agg #[sv, sp], .agg (opL ⟨th, 1, arg, res, fr, to, dn⟩ sa sr).toArray] G (rdRet (slotP s ⟨th, 1, arg, res, fr, to, dn⟩)) := by
  have hP0 : slotP s ⟨th, 1, arg, res, fr, to, dn⟩ = boxP s ⟨th, 1, arg, res, fr, to, dn⟩ := by simp [slotP]
  rw [hP0]
  obtain ⟨ada, capa, rfl⟩ := VT.rep_slice ho.a
  obtain ⟨adr, capr, rfl⟩ := VT.rep_slice ho.r
  obtain ⟨ad1, cap1, rfl⟩ := Rp.S_slice hs.v
  obtain ⟨ad2, cap2, rfl⟩ := Rp.S_slice hs.p
  refine enterX ty tyok Try.func47 rfl Try.ntmps47 [.v (.int .i64 2), .a [.v (.slice ad1 s.vals.length cap1), .v (.slice ad2 s.ps.length cap2)], .a (opC ⟨th, 1, arg, res, fr, to, dn⟩ (.slice ada arg.l.length capa) (.slice adr res.l.length capr))] (by simp) ?_
  simp only [opC]
  intro C hP hQ hnt hty hmb hmh hro; have hQp := qp_body hQ; refine st_ ?_
  refine rn_ ?_; intros
  rename_i b0 b1 b2 b3 b4 b5
  (refine x_split rfl rfl rfl (fun hc => absurd hc (by first | decide +kernel | (simp; first | done | fail))) (fun _ => ?_); refine st_ ?_; (refine ru_ ?_; intros))
  refine rn_ ?_; intros
  (refine x_split rfl rfl rfl (fun hc => absurd hc (by first | decide +kernel | (simp; first | done | fail))) (fun _ => ?_); refine st_ ?_; (refine ru_ ?_; intros))
  refine rn_ ?_; intros
  (refine x_split rfl rfl rfl (fun hc => absurd hc (by first | decide +kernel | (simp; first | done | fail))) (fun _ => ?_); refine st_ ?_; (refine ru_ ?_; intros))
  refine rn_ ?_; intros
  (refine x_split rfl rfl rfl (fun _ => ?_) (fun hc => absurd hc (by first | decide +kernel | (simp; first | done | fail))); refine st_ ?_; (refine ru_ ?_; intros))
  refine rn_ ?_; intros
  refine x_split rfl rfl rfl (fun hv => ?_) (fun hv => ?_) <;> (refine st_ ?_; (refine ru_ ?_; intros))
  · obtain ⟨x, r, hx⟩ : ∃ x r, s.vals = x :: r := by
      rcases h : s.vals with _ | ⟨x, r⟩
      · rw [h] at hv; simp at hv
      · exact ⟨x, r, rfl⟩
    have h0 : 0 < s.vals.length := by rw [hx]; simp
    have hx0 : s.vals[0] = x := by simp [hx]
    have hx1 : s.vals.drop 1 = r := by simp [hx]
    have e : boxP s ⟨th, 1, arg, res, fr, to, dn⟩ = (⟨s.vals.drop 1, s.ps⟩, s.vals[0], true) := by rw [hx0, hx1]; simp only [boxP, hx]; rfl
    have hcv := hc _ _ _ rfl
    obtain ⟨c1, o1, slx, rfl, hat, hrep, hb⟩ := rV_at hs.v (i := 0) h0
    obtain ⟨asl, csl, rfl⟩ := VT.rep_slice hrep
    refine rn_ ?_; intros
    refine go_q (by rw [hnt]; rfl) (quiet_index (by rw [hty]; rfl) (by rw [hty]; rfl) rfl rfl rfl (by omega) (by omega)) ?_
    refine rn_ ?_; intros
    refine go_q (v := .agg #[.int .i64 s.vals[0].k, .int .i64 s.vals[0].n, .slice asl s.vals[0].l.length csl]) (by rw [hnt]; rfl) ((quiet_load (by rw [hty]; rfl) rfl (fun q => by cases q) hat rfl).cast (by simp only [ldV]; rfl)) ?_
    refine rn_ ?_; intros
    rename_i b6 b7
    obtain ⟨cs, hcs, hsrc⟩ := Rp.srcS (Rp.S_lo hs.v (a := 1) (by omega) hcv)
    have hcl := Rp.L_len hcs
    have hco := Rp.L_one hcs
    have hr3 : rV.size = 3 := rfl
    simp only [List.length_drop, hr3] at hcl hsrc
    refine go_litrow 7 (n := 0) (size := 3) rfl (by omega) rfl (by omega) ?_
    refine st_ ?_
    refine go_q (v := Sx.sliced (some ⟨c1, o1, none⟩) cap1 1 s.vals.length 3) (by rw [hnt]; rfl) ((quiet_sliceLo (k := .i64) (n := 1) (by rw [hty]; rfl) (by rw [hty]; rfl) rfl rfl rfl (by omega) (by omega)).cast rfl) ?_
    refine st_ ?_
    obtain ⟨a8, c8, e8⟩ := sliced_len (some ⟨c1, o1, none⟩) cap1 1 s.vals.length 3
    rw [e8] at hsrc ⊢
    refine st_ ?_
    refine go_append_any 7 (by rw [hnt]; rfl) (by rw [hty]; rfl) (by rw [hty]; rfl) (by decide) rfl rfl rfl (by omega) rfl (hsrc.imp id fun f => f _ _ rfl) hcl hco (by omega) (by simp only []; omega) ?_
    intro v1
    refine go_rowC 7 rfl ?_
    rintro a9 c9 rfl hc9
    refine rn_ ?_; intros
    refine go_pubL rV 7 rfl (by omega) (ts := s.vals.drop 1) (by simp) (by omega) (by simpa using hcs) ?_
    intro G6 ad6 cap6 (hle6 : Le G G6) he6 hS6
    rw [← he6] at hS6
    refine st_ ?_
    refine go_keep [4, 6, 7, 8, 12] [0, 2, 3, 6] ?_
    refine st_ ?_
    refine x_held [(0, b0, .c 44 [.v (.slice a9 (0 + (s.vals.length - 1)) c9), .v (.slice ad2 s.ps.length cap2)]), (6, b6, .c 28 [.v (.int .i64 s.vals[0].k), .v (.int .i64 s.vals[0].n), .v (.slice asl s.vals[0].l.length csl)])] rfl (by rw [hP]; kernel_rfl) rfl rfl rfl ?_; refine st_ ?_
    refine h_take 0 rfl (by kernel_rfl) (by kernel_rfl) (by kernel_rfl) hQp (by rw [hnt]; rfl) (allIn (by repeat (first | exact trivial | refine ⟨rfl, ?_⟩))) (by first | exact Le.refl _ | assumption) (quiet_op (by rw [hty]; first | rfl | (refine st_ ?_; rfl))) ?_; refine st_ ?_
    refine h_take 1 rfl (by kernel_rfl) (by kernel_rfl) (by kernel_rfl) hQp (by rw [hnt]; rfl) (allIn (by repeat (first | exact trivial | refine ⟨rfl, ?_⟩))) (by first | exact Le.refl _ | assumption) (quiet_op (by rw [hty]; first | rfl | (refine st_ ?_; rfl))) ?_; refine st_ ?_
    refine h_one 2 rfl (by kernel_rfl) ?_
    refine rn_ ?_; intros
    refine h_hs (allIn (by repeat (first | exact trivial | refine ⟨rfl, ?_⟩))) (by first | exact Le.refl _ | assumption) ?_
    refine h_one 3 rfl (by kernel_rfl) ?_
    refine rn_ ?_; intros
    refine h_hs (allIn (by repeat (first | exact trivial | refine ⟨rfl, ?_⟩))) (by first | exact Le.refl _ | assumption) ?_
    refine h_one 4 rfl (by kernel_rfl) ?_
    refine rn_ ?_; intros
    refine h_hs (allIn (by repeat (first | exact trivial | refine ⟨rfl, ?_⟩))) (by first | exact Le.refl _ | assumption) ?_
    refine h_end (by kernel_rfl) ?_
    refine rn_ ?_; intros
    refine x_retc rfl hQ hmb rfl (by rw [hty]; simp only [so, sq, zy, zz, tyE, SO', SQ', opQ, opStore, opAlloc, ev, putS, dOk, cv, SV.cs, SV.one, SV.bool?, eqB, Value.oneCell', ldOwn, binInt, binConst, binBool, binStr, isC, TK.agg, rv, rv1, ldV, resOne, resV, Nat.reduceAdd, Nat.reduceMul, Nat.reduceSub, Nat.reduceLT, Nat.reduceLeDiff, Nat.reduceEqDiff, Nat.reduceBEq, reduceIte, reduceCtorEq, eq_self]; try rfl) rfl ?_; simp only [SV.den, resV, dens]
    rw [e]
    exact ⟨_, _, _, rfl, ⟨hS6, Rp.S_mono hle6 hs.p⟩, VT.rep_mono hle6 hrep, hb, fun ad n c h => by cases h; omega⟩
  have e : boxP s ⟨th, 1, arg, res, fr, to, dn⟩ = (s, noneV, false) := by
    have hv' : s.vals = [] := by simpa using hv
    simp only [boxP, hv']; rfl
  refine rn_ ?_; intros
  refine x_held [(0, b0, .c 44 [.v (.slice ad1 s.vals.length cap1), .v (.slice ad2 s.ps.length cap2)]), (5, b5, .c 28 [.v (.int .i64 0), .v (.int .i64 0), .v (.slice none 0 0)])] rfl (by rw [hP]; kernel_rfl) rfl rfl rfl ?_; refine st_ ?_
  refine h_take 0 rfl (by kernel_rfl) (by kernel_rfl) (by kernel_rfl) hQp (by rw [hnt]; rfl) (allIn (by repeat (first | exact trivial | refine ⟨rfl, ?_⟩))) (by first | exact Le.refl _ | assumption) (quiet_op (by rw [hty]; first | rfl | (refine st_ ?_; rfl))) ?_; refine st_ ?_
  refine h_take 1 rfl (by kernel_rfl) (by kernel_rfl) (by kernel_rfl) hQp (by rw [hnt]; rfl) (allIn (by repeat (first | exact trivial | refine ⟨rfl, ?_⟩))) (by first | exact Le.refl _ | assumption) (quiet_op (by rw [hty]; first | rfl | (refine st_ ?_; rfl))) ?_; refine st_ ?_
  refine h_one 2 rfl (by kernel_rfl) ?_
  refine rn_ ?_; intros
  refine h_hs (allIn (by repeat (first | exact trivial | refine ⟨rfl, ?_⟩))) (by first | exact Le.refl _ | assumption) ?_
  refine h_one 3 rfl (by kernel_rfl) ?_
  refine rn_ ?_; intros
  refine h_hs (allIn (by repeat (first | exact trivial | refine ⟨rfl, ?_⟩))) (by first | exact Le.refl _ | assumption) ?_
  refine h_one 4 rfl (by kernel_rfl) ?_
  refine rn_ ?_; intros
  refine h_hs (allIn (by repeat (first | exact trivial | refine ⟨rfl, ?_⟩))) (by first | exact Le.refl _ | assumption) ?_
  refine h_end (by kernel_rfl) ?_
  refine rn_ ?_; intros
  refine x_retc rfl hQ hmb rfl (by rw [hty]; simp only [so, sq, zy, zz, tyE, SO', SQ', opQ, opStore, opAlloc, ev, putS, dOk, cv, SV.cs, SV.one, SV.bool?, eqB, Value.oneCell', ldOwn, binInt, binConst, binBool, binStr, isC, TK.agg, rv, rv1, ldV, resOne, resV, Nat.reduceAdd, Nat.reduceMul, Nat.reduceSub, Nat.reduceLT, Nat.reduceLeDiff, Nat.reduceEqDiff, Nat.reduceBEq, reduceIte, reduceCtorEq, eq_self]; try rfl) rfl ?_; simp only [SV.den, resV, dens]
  rw [e]
  exact ⟨_, _, _, rfl, hs, rep_leaf _ 0 0 (by simp [isI64]) (by simp [isI64]), by simp [noneV, tsz, tszL], hc⟩
theorem does31_ok (th : Int) (arg res : VT) (fr to : Int) (dn : Bool) (s : MS) (sv sp sa sr : Value) (G : Hp) (hs : s.rep G sv sp) (ho : (⟨th, 1, arg, res, fr, to, dn⟩ : Op).rep G sa sr) (hl : s.vals.length ≤ 100000) (hc : CapOk sv) :
    Pure Try.prog 47 [.int .i64 3, .agg #[sv, sp], .agg (opL ⟨th, 1, arg, res, fr, to, dn⟩ sa sr).toArray] G (rdRet (boxP s ⟨th, 1, arg, res, fr, to, dn⟩)) := by
  have hP0 : boxP s ⟨th, 1, arg, res, fr, to, dn⟩ = boxP s ⟨th, 1, arg, res, fr, to, dn⟩ := by rfl
  rw [hP0]
  obtain ⟨ada, capa, rfl⟩ := VT.rep_slice ho.a
  obtain ⟨adr, capr, rfl⟩ := VT.rep_slice ho.r
  obtain ⟨ad1, cap1, rfl⟩ := Rp.S_slice hs.v
  obtain ⟨ad2, cap2, rfl⟩ := Rp.S_slice hs.p
  refine enterX ty tyok Try.func47 rfl Try.ntmps47 [.v (.int .i64 3), .a [.v (.slice ad1 s.vals.length cap1), .v (.slice ad2 s.ps.length cap2)], .a (opC ⟨th, 1, arg, res, fr, to, dn⟩ (.slice ada arg.l.length capa) (.slice adr res.l.length capr))] (by simp) ?_
  simp only [opC]
  intro C hP hQ hnt hty hmb hmh hro; have hQp := qp_body hQ; refine st_ ?_
  refine rn_ ?_; intros
  rename_i b0 b1 b2 b3 b4 b5
  (refine x_split rfl rfl rfl (fun hc => absurd hc (by first | decide +kernel | (simp; first | done | fail))) (fun _ => ?_); refine st_ ?_; (refine ru_ ?_; intros))
  refine rn_ ?_; intros
  (refine x_split rfl rfl rfl (fun hc => absurd hc (by first | decide +kernel | (simp; first | done | fail))) (fun _ => ?_); refine st_ ?_; (refine ru_ ?_; intros))
  refine rn_ ?_; intros
  (refine x_split rfl rfl rfl (fun hc => absurd hc (by first | decide +kernel | (simp; first | done | fail))) (fun _ => ?_); refine st_ ?_; (refine ru_ ?_; intros))
  refine rn_ ?_; intros
  (refine x_split rfl rfl rfl (fun hc => absurd hc (by first | decide +kernel | (simp; first | done | fail))) (fun _ => ?_); refine st_ ?_; (refine ru_ ?_; intros))
  refine rn_ ?_; intros
  (refine x_split rfl rfl rfl (fun _ => ?_) (fun hc => absurd hc (by first | decide +kernel | (simp; first | done | fail))); refine st_ ?_; (refine ru_ ?_; intros))
  refine rn_ ?_; intros
  refine x_split rfl rfl rfl (fun hv => ?_) (fun hv => ?_) <;> (refine st_ ?_; (refine ru_ ?_; intros))
  · obtain ⟨x, r, hx⟩ : ∃ x r, s.vals = x :: r := by
      rcases h : s.vals with _ | ⟨x, r⟩
      · rw [h] at hv; simp at hv
      · exact ⟨x, r, rfl⟩
    have h0 : 0 < s.vals.length := by rw [hx]; simp
    have hx0 : s.vals[0] = x := by simp [hx]
    have hx1 : s.vals.drop 1 = r := by simp [hx]
    have e : boxP s ⟨th, 1, arg, res, fr, to, dn⟩ = (⟨s.vals.drop 1, s.ps⟩, s.vals[0], true) := by rw [hx0, hx1]; simp only [boxP, hx]; rfl
    have hcv := hc _ _ _ rfl
    obtain ⟨c1, o1, slx, rfl, hat, hrep, hb⟩ := rV_at hs.v (i := 0) h0
    obtain ⟨asl, csl, rfl⟩ := VT.rep_slice hrep
    refine rn_ ?_; intros
    refine go_q (by rw [hnt]; rfl) (quiet_index (by rw [hty]; rfl) (by rw [hty]; rfl) rfl rfl rfl (by omega) (by omega)) ?_
    refine rn_ ?_; intros
    refine go_q (v := .agg #[.int .i64 s.vals[0].k, .int .i64 s.vals[0].n, .slice asl s.vals[0].l.length csl]) (by rw [hnt]; rfl) ((quiet_load (by rw [hty]; rfl) rfl (fun q => by cases q) hat rfl).cast (by simp only [ldV]; rfl)) ?_
    refine rn_ ?_; intros
    rename_i b6 b7
    obtain ⟨cs, hcs, hsrc⟩ := Rp.srcS (Rp.S_lo hs.v (a := 1) (by omega) hcv)
    have hcl := Rp.L_len hcs
    have hco := Rp.L_one hcs
    have hr3 : rV.size = 3 := rfl
    simp only [List.length_drop, hr3] at hcl hsrc
    refine go_litrow 7 (n := 0) (size := 3) rfl (by omega) rfl (by omega) ?_
    refine st_ ?_
    refine go_q (v := Sx.sliced (some ⟨c1, o1, none⟩) cap1 1 s.vals.length 3) (by rw [hnt]; rfl) ((quiet_sliceLo (k := .i64) (n := 1) (by rw [hty]; rfl) (by rw [hty]; rfl) rfl rfl rfl (by omega) (by omega)).cast rfl) ?_
    refine st_ ?_
    obtain ⟨a8, c8, e8⟩ := sliced_len (some ⟨c1, o1, none⟩) cap1 1 s.vals.length 3
    rw [e8] at hsrc ⊢
    refine st_ ?_
    refine go_append_any 7 (by rw [hnt]; rfl) (by rw [hty]; rfl) (by rw [hty]; rfl) (by decide) rfl rfl rfl (by omega) rfl (hsrc.imp id fun f => f _ _ rfl) hcl hco (by omega) (by simp only []; omega) ?_
    intro v1
    refine go_rowC 7 rfl ?_
    rintro a9 c9 rfl hc9
    refine rn_ ?_; intros
    refine go_pubL rV 7 rfl (by omega) (ts := s.vals.drop 1) (by simp) (by omega) (by simpa using hcs) ?_
    intro G6 ad6 cap6 (hle6 : Le G G6) he6 hS6
    rw [← he6] at hS6
    refine st_ ?_
    refine go_keep [4, 6, 7, 8, 12] [0, 2, 3, 6] ?_
    refine st_ ?_
    refine x_held [(0, b0, .c 44 [.v (.slice a9 (0 + (s.vals.length - 1)) c9), .v (.slice ad2 s.ps.length cap2)]), (6, b6, .c 28 [.v (.int .i64 s.vals[0].k), .v (.int .i64 s.vals[0].n), .v (.slice asl s.vals[0].l.length csl)])] rfl (by rw [hP]; kernel_rfl) rfl rfl rfl ?_; refine st_ ?_
    refine h_take 0 rfl (by kernel_rfl) (by kernel_rfl) (by kernel_rfl) hQp (by rw [hnt]; rfl) (allIn (by repeat (first | exact trivial | refine ⟨rfl, ?_⟩))) (by first | exact Le.refl _ | assumption) (quiet_op (by rw [hty]; first | rfl | (refine st_ ?_; rfl))) ?_; refine st_ ?_
    refine h_take 1 rfl (by kernel_rfl) (by kernel_rfl) (by kernel_rfl) hQp (by rw [hnt]; rfl) (allIn (by repeat (first | exact trivial | refine ⟨rfl, ?_⟩))) (by first | exact Le.refl _ | assumption) (quiet_op (by rw [hty]; first | rfl | (refine st_ ?_; rfl))) ?_; refine st_ ?_
    refine h_one 2 rfl (by kernel_rfl) ?_
    refine rn_ ?_; intros
    refine h_hs (allIn (by repeat (first | exact trivial | refine ⟨rfl, ?_⟩))) (by first | exact Le.refl _ | assumption) ?_
    refine h_one 3 rfl (by kernel_rfl) ?_
    refine rn_ ?_; intros
    refine h_hs (allIn (by repeat (first | exact trivial | refine ⟨rfl, ?_⟩))) (by first | exact Le.refl _ | assumption) ?_
    refine h_one 4 rfl (by kernel_rfl) ?_
    refine rn_ ?_; intros
    refine h_hs (allIn (by repeat (first | exact trivial | refine ⟨rfl, ?_⟩))) (by first | exact Le.refl _ | assumption) ?_
    refine h_end (by kernel_rfl) ?_
    refine rn_ ?_; intros
    refine x_retc rfl hQ hmb rfl (by rw [hty]; simp only [so, sq, zy, zz, tyE, SO', SQ', opQ, opStore, opAlloc, ev, putS, dOk, cv, SV.cs, SV.one, SV.bool?, eqB, Value.oneCell', ldOwn, binInt, binConst, binBool, binStr, isC, TK.agg, rv, rv1, ldV, resOne, resV, Nat.reduceAdd, Nat.reduceMul, Nat.reduceSub, Nat.reduceLT, Nat.reduceLeDiff, Nat.reduceEqDiff, Nat.reduceBEq, reduceIte, reduceCtorEq, eq_self]; try rfl) rfl ?_; simp only [SV.den, resV, dens]
    rw [e]
    exact ⟨_, _, _, rfl, ⟨hS6, Rp.S_mono hle6 hs.p⟩, VT.rep_mono hle6 hrep, hb, fun ad n c h => by cases h; omega⟩
  have e : boxP s ⟨th, 1, arg, res, fr, to, dn⟩ = (s, noneV, false) := by
    have hv' : s.vals = [] := by simpa using hv
    simp only [boxP, hv']; rfl
  refine rn_ ?_; intros
  refine x_held [(0, b0, .c 44 [.v (.slice ad1 s.vals.length cap1), .v (.slice ad2 s.ps.length cap2)]), (5, b5, .c 28 [.v (.int .i64 0), .v (.int .i64 0), .v (.slice none 0 0)])] rfl (by rw [hP]; kernel_rfl) rfl rfl rfl ?_; refine st_ ?_
  refine h_take 0 rfl (by kernel_rfl) (by kernel_rfl) (by kernel_rfl) hQp (by rw [hnt]; rfl) (allIn (by repeat (first | exact trivial | refine ⟨rfl, ?_⟩))) (by first | exact Le.refl _ | assumption) (quiet_op (by rw [hty]; first | rfl | (refine st_ ?_; rfl))) ?_; refine st_ ?_
  refine h_take 1 rfl (by kernel_rfl) (by kernel_rfl) (by kernel_rfl) hQp (by rw [hnt]; rfl) (allIn (by repeat (first | exact trivial | refine ⟨rfl, ?_⟩))) (by first | exact Le.refl _ | assumption) (quiet_op (by rw [hty]; first | rfl | (refine st_ ?_; rfl))) ?_; refine st_ ?_
  refine h_one 2 rfl (by kernel_rfl) ?_
  refine rn_ ?_; intros
  refine h_hs (allIn (by repeat (first | exact trivial | refine ⟨rfl, ?_⟩))) (by first | exact Le.refl _ | assumption) ?_
  refine h_one 3 rfl (by kernel_rfl) ?_
  refine rn_ ?_; intros
  refine h_hs (allIn (by repeat (first | exact trivial | refine ⟨rfl, ?_⟩))) (by first | exact Le.refl _ | assumption) ?_
  refine h_one 4 rfl (by kernel_rfl) ?_
  refine rn_ ?_; intros
  refine h_hs (allIn (by repeat (first | exact trivial | refine ⟨rfl, ?_⟩))) (by first | exact Le.refl _ | assumption) ?_
  refine h_end (by kernel_rfl) ?_
  refine rn_ ?_; intros
  refine x_retc rfl hQ hmb rfl (by rw [hty]; simp only [so, sq, zy, zz, tyE, SO', SQ', opQ, opStore, opAlloc, ev, putS, dOk, cv, SV.cs, SV.one, SV.bool?, eqB, Value.oneCell', ldOwn, binInt, binConst, binBool, binStr, isC, TK.agg, rv, rv1, ldV, resOne, resV, Nat.reduceAdd, Nat.reduceMul, Nat.reduceSub, Nat.reduceLT, Nat.reduceLeDiff, Nat.reduceEqDiff, Nat.reduceBEq, reduceIte, reduceCtorEq, eq_self]; try rfl) rfl ?_; simp only [SV.den, resV, dens]
  rw [e]
  exact ⟨_, _, _, rfl, hs, rep_leaf _ 0 0 (by simp [isI64]) (by simp [isI64]), by simp [noneV, tsz, tszL], hc⟩
end Go.Proofs.Ytpmmbjcgabnloaa
namespace Go.Proofs.Ytpmmbjcgabnloaa
set_option linter.unusedSimpArgs false
set_option linter.unusedVariables false
open Go.Sx
set_option maxHeartbeats 8000000
set_option maxRecDepth 20000
theorem does30_ok (th : Int) (arg res : VT) (fr to : Int) (dn : Bool) (s : MS) (sv sp sa sr : Value) (G : Hp) (hs : s.rep G sv sp) (ho : (⟨th, 0, arg, res, fr, to, dn⟩ : Op).rep G sa sr) (hl : s.vals.length ≤ 100000) (hc : CapOk sv) :
    Pure Try.prog 47 [.int .i64 3, .agg #[sv, sp], .agg (opL ⟨th, 0, arg, res, fr, to, dn⟩ sa sr).toArray] G (rdRet (boxP s ⟨th, 0, arg, res, fr, to, dn⟩)) := by
  have e : boxP s ⟨th, 0, arg, res, fr, to, dn⟩ = (⟨s.vals ++ [arg], s.ps⟩, unitV, true) := rfl
  obtain ⟨ada, capa, rfl⟩ := VT.rep_slice ho.a
  obtain ⟨adr, capr, rfl⟩ := VT.rep_slice ho.r
  obtain ⟨ad1, cap1, rfl⟩ := Rp.S_slice hs.v
  obtain ⟨ad2, cap2, rfl⟩ := Rp.S_slice hs.p
  refine enterX ty tyok Try.func47 rfl Try.ntmps47 [.v (.int .i64 3), .a [.v (.slice ad1 s.vals.length cap1), .v (.slice ad2 s.ps.length cap2)], .a (opC ⟨th, 0, arg, res, fr, to, dn⟩ (.slice ada arg.l.length capa) (.slice adr res.l.length capr))] (by simp) ?_
  simp only [opC]
  intro C hP hQ hnt hty hmb hmh hro; have hQp := qp_body hQ; refine st_ ?_
  refine rn_ ?_; intros
  rename_i b0 b1 b2 b3 b4 b5
  (refine x_split rfl rfl rfl (fun hc => absurd hc (by first | decide +kernel | (simp; first | done | fail))) (fun _ => ?_); refine st_ ?_; (refine ru_ ?_; intros))
  refine rn_ ?_; intros
  (refine x_split rfl rfl rfl (fun hc => absurd hc (by first | decide +kernel | (simp; first | done | fail))) (fun _ => ?_); refine st_ ?_; (refine ru_ ?_; intros))
  refine rn_ ?_; intros
  (refine x_split rfl rfl rfl (fun hc => absurd hc (by first | decide +kernel | (simp; first | done | fail))) (fun _ => ?_); refine st_ ?_; (refine ru_ ?_; intros))
  refine rn_ ?_; intros
  (refine x_split rfl rfl rfl (fun hc => absurd hc (by first | decide +kernel | (simp; first | done | fail))) (fun _ => ?_); refine st_ ?_; (refine ru_ ?_; intros))
  refine rn_ ?_; intros
  (refine x_split rfl rfl rfl (fun hc => absurd hc (by first | decide +kernel | (simp; first | done | fail))) (fun _ => ?_); refine st_ ?_; (refine ru_ ?_; intros))
  refine rn_ ?_; intros
  (refine x_split rfl rfl rfl (fun _ => ?_) (fun hc => absurd hc (by first | decide +kernel | (simp; first | done | fail))); refine st_ ?_; (refine ru_ ?_; intros))
  refine rn_ ?_; intros
  refine x_held [(0, b0, .c 44 [.v (.slice ad1 s.vals.length cap1), .v (.slice ad2 s.ps.length cap2)]), (1, b1, .c 40 [.v (.int .i64 th), .v (.int .i64 0), .v (.int .i64 arg.k), .v (.int .i64 arg.n), .v (.slice ada arg.l.length capa), .v (.int .i64 res.k), .v (.int .i64 res.n), .v (.slice adr res.l.length capr), .v (.int .i64 fr), .v (.int .i64 to), .v (.bool dn)]), (4, b4, .c 28 [.v (.int .i64 1), .v (.int .i64 0), .v (.slice none 0 0)])] rfl (by rw [hP]; kernel_rfl) rfl rfl rfl ?_; refine st_ ?_
  refine h_take 0 rfl (by kernel_rfl) (by kernel_rfl) (by kernel_rfl) hQp (by rw [hnt]; rfl) (allIn (by repeat (first | exact trivial | refine ⟨rfl, ?_⟩))) (by first | exact Le.refl _ | assumption) (quiet_op (by rw [hty]; first | rfl | (refine st_ ?_; rfl))) ?_; refine st_ ?_
  refine h_take 1 rfl (by kernel_rfl) (by kernel_rfl) (by kernel_rfl) hQp (by rw [hnt]; rfl) (allIn (by repeat (first | exact trivial | refine ⟨rfl, ?_⟩))) (by first | exact Le.refl _ | assumption) (quiet_op (by rw [hty]; first | rfl | (refine st_ ?_; rfl))) ?_; refine st_ ?_
  refine h_take 2 rfl (by kernel_rfl) (by kernel_rfl) (by kernel_rfl) hQp (by rw [hnt]; rfl) (allIn (by repeat (first | exact trivial | refine ⟨rfl, ?_⟩))) (by first | exact Le.refl _ | assumption) (quiet_op (by rw [hty]; first | rfl | (refine st_ ?_; rfl))) ?_; refine st_ ?_
  refine h_take 4 rfl (by kernel_rfl) (by kernel_rfl) (by kernel_rfl) hQp (by rw [hnt]; rfl) (allIn (by repeat (first | exact trivial | refine ⟨rfl, ?_⟩))) (by first | exact Le.refl _ | assumption) (quiet_op (by rw [hty]; first | rfl | (refine st_ ?_; rfl))) ?_; refine st_ ?_
  refine h_one 3 rfl (by kernel_rfl) ?_
  refine go_call (by rw [hnt]; rfl) (by rw [hP]; kernel_rfl) rfl (hP ▸ put_ok s arg _ _ _ _ hs ho.a ho.ok.ba hl) ?_
  rintro v G1 (hle1 : Le G G1) ⟨sv', rfl, hs1, hc1⟩
  obtain ⟨ad7, cap7, e7⟩ := Rp.S_slice hs1.v
  simp only at e7
  subst e7
  refine rn_ ?_; intros
  refine h_hs (allIn (by repeat (first | exact trivial | refine ⟨rfl, ?_⟩))) (by first | exact Le.refl _ | assumption) ?_
  refine h_one 5 rfl (by kernel_rfl) ?_
  refine rn_ ?_; intros
  refine h_hs (allIn (by repeat (first | exact trivial | refine ⟨rfl, ?_⟩))) (by first | exact Le.refl _ | assumption) ?_
  refine h_one 6 rfl (by kernel_rfl) ?_
  refine rn_ ?_; intros
  refine h_hs (allIn (by repeat (first | exact trivial | refine ⟨rfl, ?_⟩))) (by first | exact Le.refl _ | assumption) ?_
  refine h_one 7 rfl (by kernel_rfl) ?_
  refine rn_ ?_; intros
  refine h_hs (allIn (by repeat (first | exact trivial | refine ⟨rfl, ?_⟩))) (by first | exact Le.refl _ | assumption) ?_
  refine h_end (by kernel_rfl) ?_
  refine rn_ ?_; intros
  refine x_retc rfl hQ hmb rfl (by rw [hty]; simp only [so, sq, zy, zz, tyE, SO', SQ', opQ, opStore, opAlloc, ev, putS, dOk, cv, SV.cs, SV.one, SV.bool?, eqB, Value.oneCell', ldOwn, binInt, binConst, binBool, binStr, isC, TK.agg, rv, rv1, ldV, resOne, resV, Nat.reduceAdd, Nat.reduceMul, Nat.reduceSub, Nat.reduceLT, Nat.reduceLeDiff, Nat.reduceEqDiff, Nat.reduceBEq, reduceIte, reduceCtorEq, eq_self]; try rfl) rfl ?_; simp only [SV.den, resV, dens]
  rw [e]
  exact ⟨_, _, _, rfl, hs1, rep_leaf _ 1 0 (by simp [isI64]) (by simp [isI64]), by simp [unitV, tsz, tszL], hc1⟩
theorem does41_ok (th : Int) (arg res : VT) (fr to : Int) (dn : Bool) (s : MS) (sv sp sa sr : Value) (G : Hp) (hs : s.rep G sv sp) (ho : (⟨th, 1, arg, res, fr, to, dn⟩ : Op).rep G sa sr) (hl : s.vals.length ≤ 100000) (hc : CapOk sv) :
    Pure Try.prog 47 [.int .i64 4, .agg #[sv, sp], .agg (opL ⟨th, 1, arg, res, fr, to, dn⟩ sa sr).toArray] G (rdRet (castP s ⟨th, 1, arg, res, fr, to, dn⟩)) := by
  have e : castP s ⟨th, 1, arg, res, fr, to, dn⟩ = (⟨s.vals ++ [arg], s.ps⟩, unitV, true) := rfl
  obtain ⟨ada, capa, rfl⟩ := VT.rep_slice ho.a
  obtain ⟨adr, capr, rfl⟩ := VT.rep_slice ho.r
  obtain ⟨ad1, cap1, rfl⟩ := Rp.S_slice hs.v
  obtain ⟨ad2, cap2, rfl⟩ := Rp.S_slice hs.p
  refine enterX ty tyok Try.func47 rfl Try.ntmps47 [.v (.int .i64 4), .a [.v (.slice ad1 s.vals.length cap1), .v (.slice ad2 s.ps.length cap2)], .a (opC ⟨th, 1, arg, res, fr, to, dn⟩ (.slice ada arg.l.length capa) (.slice adr res.l.length capr))] (by simp) ?_
  simp only [opC]
  intro C hP hQ hnt hty hmb hmh hro; have hQp := qp_body hQ; refine st_ ?_
  refine rn_ ?_; intros
  rename_i b0 b1 b2 b3 b4 b5
  (refine x_split rfl rfl rfl (fun hc => absurd hc (by first | decide +kernel | (simp; first | done | fail))) (fun _ => ?_); refine st_ ?_; (refine ru_ ?_; intros))
  refine rn_ ?_; intros
  (refine x_split rfl rfl rfl (fun hc => absurd hc (by first | decide +kernel | (simp; first | done | fail))) (fun _ => ?_); refine st_ ?_; (refine ru_ ?_; intros))
  refine rn_ ?_; intros
  (refine x_split rfl rfl rfl (fun hc => absurd hc (by first | decide +kernel | (simp; first | done | fail))) (fun _ => ?_); refine st_ ?_; (refine ru_ ?_; intros))
  refine rn_ ?_; intros
  (refine x_split rfl rfl rfl (fun hc => absurd hc (by first | decide +kernel | (simp; first | done | fail))) (fun _ => ?_); refine st_ ?_; (refine ru_ ?_; intros))
  refine rn_ ?_; intros
  (refine x_split rfl rfl rfl (fun hc => absurd hc (by first | decide +kernel | (simp; first | done | fail))) (fun _ => ?_); refine st_ ?_; (refine ru_ ?_; intros))
  refine rn_ ?_; intros
  (refine x_split rfl rfl rfl (fun hc => absurd hc (by first | decide +kernel | (simp; first | done | fail))) (fun _ => ?_); refine st_ ?_; (refine ru_ ?_; intros))
  refine rn_ ?_; intros
  (refine x_split rfl rfl rfl (fun _ => ?_) (fun hc => absurd hc (by first | decide +kernel | (simp; first | done | fail))); refine st_ ?_; (refine ru_ ?_; intros))
  refine rn_ ?_; intros
  refine x_held [(0, b0, .c 44 [.v (.slice ad1 s.vals.length cap1), .v (.slice ad2 s.ps.length cap2)]), (1, b1, .c 40 [.v (.int .i64 th), .v (.int .i64 1), .v (.int .i64 arg.k), .v (.int .i64 arg.n), .v (.slice ada arg.l.length capa), .v (.int .i64 res.k), .v (.int .i64 res.n), .v (.slice adr res.l.length capr), .v (.int .i64 fr), .v (.int .i64 to), .v (.bool dn)]), (4, b4, .c 28 [.v (.int .i64 1), .v (.int .i64 0), .v (.slice none 0 0)])] rfl (by rw [hP]; kernel_rfl) rfl rfl rfl ?_; refine st_ ?_
  refine h_take 0 rfl (by kernel_rfl) (by kernel_rfl) (by kernel_rfl) hQp (by rw [hnt]; rfl) (allIn (by repeat (first | exact trivial | refine ⟨rfl, ?_⟩))) (by first | exact Le.refl _ | assumption) (quiet_op (by rw [hty]; first | rfl | (refine st_ ?_; rfl))) ?_; refine st_ ?_
  refine h_take 1 rfl (by kernel_rfl) (by kernel_rfl) (by kernel_rfl) hQp (by rw [hnt]; rfl) (allIn (by repeat (first | exact trivial | refine ⟨rfl, ?_⟩))) (by first | exact Le.refl _ | assumption) (quiet_op (by rw [hty]; first | rfl | (refine st_ ?_; rfl))) ?_; refine st_ ?_
  refine h_take 2 rfl (by kernel_rfl) (by kernel_rfl) (by kernel_rfl) hQp (by rw [hnt]; rfl) (allIn (by repeat (first | exact trivial | refine ⟨rfl, ?_⟩))) (by first | exact Le.refl _ | assumption) (quiet_op (by rw [hty]; first | rfl | (refine st_ ?_; rfl))) ?_; refine st_ ?_
  refine h_take 4 rfl (by kernel_rfl) (by kernel_rfl) (by kernel_rfl) hQp (by rw [hnt]; rfl) (allIn (by repeat (first | exact trivial | refine ⟨rfl, ?_⟩))) (by first | exact Le.refl _ | assumption) (quiet_op (by rw [hty]; first | rfl | (refine st_ ?_; rfl))) ?_; refine st_ ?_
  refine h_one 3 rfl (by kernel_rfl) ?_
  refine go_call (by rw [hnt]; rfl) (by rw [hP]; kernel_rfl) rfl (hP ▸ put_ok s arg _ _ _ _ hs ho.a ho.ok.ba hl) ?_
  rintro v G1 (hle1 : Le G G1) ⟨sv', rfl, hs1, hc1⟩
  obtain ⟨ad7, cap7, e7⟩ := Rp.S_slice hs1.v
  simp only at e7
  subst e7
  refine rn_ ?_; intros
  refine h_hs (allIn (by repeat (first | exact trivial | refine ⟨rfl, ?_⟩))) (by first | exact Le.refl _ | assumption) ?_
  refine h_one 5 rfl (by kernel_rfl) ?_
  refine rn_ ?_; intros
  refine h_hs (allIn (by repeat (first | exact trivial | refine ⟨rfl, ?_⟩))) (by first | exact Le.refl _ | assumption) ?_
  refine h_one 6 rfl (by kernel_rfl) ?_
  refine rn_ ?_; intros
  refine h_hs (allIn (by repeat (first | exact trivial | refine ⟨rfl, ?_⟩))) (by first | exact Le.refl _ | assumption) ?_
  refine h_one 7 rfl (by kernel_rfl) ?_
  refine rn_ ?_; intros
  refine h_hs (allIn (by repeat (first | exact trivial | refine ⟨rfl, ?_⟩))) (by first | exact Le.refl _ | assumption) ?_
  refine h_end (by kernel_rfl) ?_
  refine rn_ ?_; intros
  refine x_retc rfl hQ hmb rfl (by rw [hty]; simp only [so, sq, zy, zz, tyE, SO', SQ', opQ, opStore, opAlloc, ev, putS, dOk, cv, SV.cs, SV.one, SV.bool?, eqB, Value.oneCell', ldOwn, binInt, binConst, binBool, binStr, isC, TK.agg, rv, rv1, ldV, resOne, resV, Nat.reduceAdd, Nat.reduceMul, Nat.reduceSub, Nat.reduceLT, Nat.reduceLeDiff, Nat.reduceEqDiff, Nat.reduceBEq, reduceIte, reduceCtorEq, eq_self]; try rfl) rfl ?_; simp only [SV.den, resV, dens]
  rw [e]
  exact ⟨_, _, _, rfl, hs1, rep_leaf _ 1 0 (by simp [isI64]) (by simp [isI64]), by simp [unitV, tsz, tszL], hc1⟩
end Go.Proofs.Ytpmmbjcgabnloaa
namespace Go.Proofs.Ytpmmbjcgabnloaa
set_option linter.unusedSimpArgs false
set_option linter.unusedVariables false
open Go.Sx
set_option maxHeartbeats 8000000
set_option maxRecDepth 20000
theorem does40_ok (th : Int) (arg res : VT) (fr to : Int) (dn : Bool) (s : MS) (sv sp sa sr : Value) (G : Hp) (hs : s.rep G sv sp) (ho : (⟨th, 0, arg, res, fr, to, dn⟩ : Op).rep G sa sr) (hl : s.vals.length ≤ 100000) (hlp : s.ps.length ≤ 100000) (hc : CapOk sv) (hr : if dn then vld res = true else zer res = true) :
    Pure Try.prog 47 [.int .i64 4, .agg #[sv, sp], .agg (opL ⟨th, 0, arg, res, fr, to, dn⟩ sa sr).toArray] G (rdRet (castP s ⟨th, 0, arg, res, fr, to, dn⟩)) := by
  have hno : ((pix res s.ps 0).isSome || !dn || res.k != 4) = true → castP s ⟨th, 0, arg, res, fr, to, dn⟩ = (s, noneV, false) := fun h => by rw [castP, if_pos rfl, if_pos h]
  have hso : ((pix res s.ps 0).isSome || !dn || res.k != 4) = false → castP s ⟨th, 0, arg, res, fr, to, dn⟩ = (⟨s.vals, s.ps ++ [⟨res, s.vals.length⟩]⟩, res, true) := fun h => by rw [castP, if_pos rfl, if_neg (by rw [h]; decide)]
  obtain ⟨ada, capa, rfl⟩ := VT.rep_slice ho.a
  obtain ⟨adr, capr, rfl⟩ := VT.rep_slice ho.r
  obtain ⟨ad1, cap1, rfl⟩ := Rp.S_slice hs.v
  obtain ⟨ad2, cap2, rfl⟩ := Rp.S_slice hs.p
  refine enterX ty tyok Try.func47 rfl Try.ntmps47 [.v (.int .i64 4), .a [.v (.slice ad1 s.vals.length cap1), .v (.slice ad2 s.ps.length cap2)], .a (opC ⟨th, 0, arg, res, fr, to, dn⟩ (.slice ada arg.l.length capa) (.slice adr res.l.length capr))] (by simp) ?_
  simp only [opC]
  intro C hP hQ hnt hty hmb hmh hro; have hQp := qp_body hQ; refine st_ ?_
  refine rn_ ?_; intros
  rename_i b0 b1 b2 b3 b4 b5
  (refine x_split rfl rfl rfl (fun hc => absurd hc (by first | decide +kernel | (simp; first | done | fail))) (fun _ => ?_); refine st_ ?_; (refine ru_ ?_; intros))
  refine rn_ ?_; intros
  (refine x_split rfl rfl rfl (fun hc => absurd hc (by first | decide +kernel | (simp; first | done | fail))) (fun _ => ?_); refine st_ ?_; (refine ru_ ?_; intros))
  refine rn_ ?_; intros
  (refine x_split rfl rfl rfl (fun hc => absurd hc (by first | decide +kernel | (simp; first | done | fail))) (fun _ => ?_); refine st_ ?_; (refine ru_ ?_; intros))
  refine rn_ ?_; intros
  (refine x_split rfl rfl rfl (fun hc => absurd hc (by first | decide +kernel | (simp; first | done | fail))) (fun _ => ?_); refine st_ ?_; (refine ru_ ?_; intros))
  refine rn_ ?_; intros
  (refine x_split rfl rfl rfl (fun hc => absurd hc (by first | decide +kernel | (simp; first | done | fail))) (fun _ => ?_); refine st_ ?_; (refine ru_ ?_; intros))
  refine rn_ ?_; intros
  (refine x_split rfl rfl rfl (fun hc => absurd hc (by first | decide +kernel | (simp; first | done | fail))) (fun _ => ?_); refine st_ ?_; (refine ru_ ?_; intros))
  refine rn_ ?_; intros
  (refine x_split rfl rfl rfl (fun hc => absurd hc (by first | decide +kernel | (simp; first | done | fail))) (fun _ => ?_); refine st_ ?_; (refine ru_ ?_; intros))
  refine rn_ ?_; intros
  (refine x_split rfl rfl rfl (fun _ => ?_) (fun hc => absurd hc (by first | decide +kernel | (simp; first | done | fail))); refine st_ ?_; (refine ru_ ?_; intros))
  refine rn_ ?_; intros
  refine go_callf (by rw [hnt]; rfl) (by rw [hP]; kernel_rfl) rfl (hP ▸ refright_ok res _ G ho.r (by have h : tsz res ≤ 1048576 := ho.ok.br; omega)) ?_; refine rn_ ?_; intros
  have hdn : dn = true ∧ vld res = true ∨ dn = false ∧ zer res = true := by
    cases dn
    · exact .inr ⟨rfl, by simpa using hr⟩
    · exact .inl ⟨rfl, by simpa using hr⟩
  have hz4 : dn = false → (res.k != 4) = true := fun h => by
    rcases hdn with ⟨h1, _⟩ | ⟨_, h2⟩
    · rw [h] at h1; cases h1
    · simp only [zer, Bool.and_eq_true, beq_iff_eq] at h2
      rw [bne_iff_ne, h2.1.1]; decide
  refine go_gsplit rfl rfl (fun hvr => ?_) (fun hvr => ?_) <;> (refine st_ ?_; (refine rn_ ?_; intros))
  · refine go_gsplit rfl rfl (fun hk4 => ?_) (fun hk4 => ?_) <;> (refine st_ ?_; (refine rn_ ?_; intros))
    · have hd : dn = true := by
        cases hd : dn
        · have := hz4 hd
          rw [bne_iff_ne] at this
          exact absurd (by simpa using hk4) this
        · rfl
      refine go_callf (by rw [hnt]; rfl) (by rw [hP]; kernel_rfl) rfl (hP ▸ rport_ok s.ps res _ _ _ rfl G hs.p ho.r ho.ok.br) ?_; refine rn_ ?_; intros
      refine x_split rfl rfl rfl (fun hport => ?_) (fun hport => ?_) <;> (refine st_ ?_; (refine ru_ ?_; intros))
      · have hns : (pix res s.ps 0).isSome = false := by
          cases hp : pix res s.ps 0 with
          | none => rfl
          | some i => rw [hp] at hport; simp at hport; omega
        have e := hso (by rw [hns, hd, show (res.k != 4) = false by rw [bne_eq_false_iff_eq]; simpa using hk4]; rfl)
        refine go_keep [4, 5, 6, 7, 8] [0, 1, 2, 3] ?_
        refine st_ ?_
        refine rn_ ?_; intros
        obtain ⟨cs, hcs, hsrc⟩ := Rp.srcS hs.p
        refine x_heldP [(0, b0, .c 44 [.v (.slice ad1 s.vals.length cap1), .v (.slice ad2 s.ps.length cap2)]), (1, b1, .c 40 [.v (.int .i64 th), .v (.int .i64 0), .v (.int .i64 arg.k), .v (.int .i64 arg.n), .v (.slice ada arg.l.length capa), .v (.int .i64 res.k), .v (.int .i64 res.n), .v (.slice adr res.l.length capr), .v (.int .i64 fr), .v (.int .i64 to), .v (.bool dn)])] 13 rfl (by rw [hP]; kernel_rfl) rfl rfl rfl ?_; refine st_ ?_
        refine hu_take 1 rfl (by kernel_rfl) (by kernel_rfl) (by kernel_rfl) (by kernel_rfl) rfl (fun c a w v => hQp c a w _ v) (by rw [hnt]; rfl) (allIn (by repeat (first | exact trivial | refine ⟨rfl, ?_⟩))) (by first | exact Le.refl _ | assumption) (quiet_op (by rw [hty]; first | rfl | (refine st_ ?_; rfl))) ?_; refine st_ ?_
        refine hu_take 2 rfl (by kernel_rfl) (by kernel_rfl) (by kernel_rfl) (by kernel_rfl) rfl (fun c a w v => hQp c a w _ v) (by rw [hnt]; rfl) (allIn (by repeat (first | exact trivial | refine ⟨rfl, ?_⟩))) (by first | exact Le.refl _ | assumption) (quiet_op (by rw [hty]; first | rfl | (refine st_ ?_; rfl))) ?_; refine st_ ?_
        refine hu_take 4 rfl (by kernel_rfl) (by kernel_rfl) (by kernel_rfl) (by kernel_rfl) rfl (fun c a w v => hQp c a w _ v) (by rw [hnt]; rfl) (allIn (by repeat (first | exact trivial | refine ⟨rfl, ?_⟩))) (by first | exact Le.refl _ | assumption) (quiet_op (by rw [hty]; first | rfl | (refine st_ ?_; rfl))) ?_; refine st_ ?_
        refine hu_take 5 rfl (by kernel_rfl) (by kernel_rfl) (by kernel_rfl) (by kernel_rfl) rfl (fun c a w v => hQp c a w _ v) (by rw [hnt]; rfl) (allIn (by repeat (first | exact trivial | refine ⟨rfl, ?_⟩))) (by first | exact Le.refl _ | assumption) (quiet_op (by rw [hty]; first | rfl | (refine st_ ?_; rfl))) ?_; refine st_ ?_
        refine hu_take 6 rfl (by kernel_rfl) (by kernel_rfl) (by kernel_rfl) (by kernel_rfl) rfl (fun c a w v => hQp c a w _ v) (by rw [hnt]; rfl) (allIn (by repeat (first | exact trivial | refine ⟨rfl, ?_⟩))) (by first | exact Le.refl _ | assumption) (quiet_op (by rw [hty]; first | rfl | (refine st_ ?_; rfl))) ?_; refine st_ ?_
        refine hu_take 7 rfl (by kernel_rfl) (by kernel_rfl) (by kernel_rfl) (by kernel_rfl) rfl (fun c a w v => hQp c a w _ v) (by rw [hnt]; rfl) (allIn (by repeat (first | exact trivial | refine ⟨rfl, ?_⟩))) (by first | exact Le.refl _ | assumption) (quiet_op (by rw [hty]; first | rfl | (refine st_ ?_; rfl))) ?_; refine st_ ?_
        refine hu_take 8 rfl (by kernel_rfl) (by kernel_rfl) (by kernel_rfl) (by kernel_rfl) rfl (fun c a w v => hQp c a w _ v) (by rw [hnt]; rfl) (allIn (by repeat (first | exact trivial | refine ⟨rfl, ?_⟩))) (by first | exact Le.refl _ | assumption) (quiet_op (by rw [hty]; first | rfl | (refine st_ ?_; rfl))) ?_; refine st_ ?_
        refine hu_take 9 rfl (by kernel_rfl) (by kernel_rfl) (by kernel_rfl) (by kernel_rfl) rfl (fun c a w v => hQp c a w _ v) (by rw [hnt]; rfl) (allIn (by repeat (first | exact trivial | refine ⟨rfl, ?_⟩))) (by first | exact Le.refl _ | assumption) (quiet_op (by rw [hty]; first | rfl | (refine st_ ?_; rfl))) ?_; refine st_ ?_
        refine hu_two 0 10 rfl rfl (by kernel_rfl) ?_ ?_
        · refine rn_ ?_; intros
          refine h_hs (allIn (by repeat (first | exact trivial | refine ⟨rfl, ?_⟩))) (by first | exact Le.refl _ | assumption) ?_
          refine hu_two 3 10 rfl rfl (by kernel_rfl) ?_ ?_
          · refine go_litrow 4 (n := 0) (size := 4) rfl (by omega) rfl (by omega) ?_
            refine st_ ?_
            refine go_append_any 4 (by rw [hnt]; rfl) (by rw [hty]; rfl) (by rw [hty]; rfl) (by decide) rfl rfl rfl (by omega) rfl (hsrc.imp id fun f => f _ _ rfl) (Rp.L_len hcs) (Rp.L_one hcs) (by omega) (by simp only []; omega) ?_
            intro v1
            refine go_rowS 4 rfl ?_
            rintro a3 c3 rfl
            refine rn_ ?_; intros
            refine h_hs (allIn (by repeat (first | exact trivial | refine ⟨rfl, ?_⟩))) (by first | exact Le.refl _ | assumption) ?_
            refine hu_one 10 rfl (by kernel_rfl) ?_
            refine rn_ ?_; intros
            refine h_hs (allIn (by repeat (first | exact trivial | refine ⟨rfl, ?_⟩))) (by first | exact Le.refl _ | assumption) ?_
            refine hu_one 11 rfl (by kernel_rfl) ?_
            refine go_append_any 4 (by rw [hnt]; rfl) (by rw [hty]; rfl) (by rw [hty]; rfl) (by decide) rfl rfl rfl (by omega) rfl (.inr (src_own 4 rfl rfl)) rfl (by simp [dens, SV.den, Value.oneCell']) (by omega) (by simp only []; omega) ?_
            intro v2
            refine go_rowS 4 rfl ?_
            rintro a4 c4 rfl
            refine rn_ ?_; intros
            refine h_hs (allIn (by repeat (first | exact trivial | refine ⟨rfl, ?_⟩))) (by first | exact Le.refl _ | assumption) ?_
            refine hu_one 12 rfl (by kernel_rfl) ?_
            refine rn_ ?_; intros
            refine h_hs (allIn (by repeat (first | exact trivial | refine ⟨rfl, ?_⟩))) (by first | exact Le.refl _ | assumption) ?_
            refine hu_last 13 [] rfl (by kernel_rfl) rfl ?_
            refine rn_ ?_; intros
            refine h_end (by kernel_rfl) ?_
            refine go_pubL rPo 4 rfl (by omega) (ts := s.ps ++ [⟨res, s.vals.length⟩]) (by simp) (by omega) (Rp.L_append (by simpa using hcs) (Rp.L_single ⟨_, rfl, ho.r, ho.ok.br, by simp only [isI64]; omega⟩)) ?_
            intro G6 ad6 cap6 (hle6 : Le G G6) he6 hS6
            rw [← he6] at hS6
            refine go_keep [4, 5, 6, 7, 8] [0, 1, 2, 3] ?_
            refine st_ ?_
            refine rn_ ?_; intros
            refine x_held [(0, b0, .c 44 [.v (.slice ad1 s.vals.length cap1), .v (.slice a4 (0 + s.ps.length + 1) c4)]), (1, b1, .c 40 [.v (.int .i64 th), .v (.int .i64 0), .v (.int .i64 arg.k), .v (.int .i64 arg.n), .v (.slice ada arg.l.length capa), .v (.int .i64 res.k), .v (.int .i64 res.n), .v (.slice adr res.l.length capr), .v (.int .i64 fr), .v (.int .i64 to), .v (.bool dn)])] rfl (by rw [hP]; kernel_rfl) rfl rfl rfl ?_; refine st_ ?_
            refine h_take 0 rfl (by kernel_rfl) (by kernel_rfl) (by kernel_rfl) hQp (by rw [hnt]; rfl) (allIn (by repeat (first | exact trivial | refine ⟨rfl, ?_⟩))) (by first | exact Le.refl _ | assumption) (quiet_op (by rw [hty]; first | rfl | (refine st_ ?_; rfl))) ?_; refine st_ ?_
            refine h_take 1 rfl (by kernel_rfl) (by kernel_rfl) (by kernel_rfl) hQp (by rw [hnt]; rfl) (allIn (by repeat (first | exact trivial | refine ⟨rfl, ?_⟩))) (by first | exact Le.refl _ | assumption) (quiet_op (by rw [hty]; first | rfl | (refine st_ ?_; rfl))) ?_; refine st_ ?_
            refine h_take 2 rfl (by kernel_rfl) (by kernel_rfl) (by kernel_rfl) hQp (by rw [hnt]; rfl) (allIn (by repeat (first | exact trivial | refine ⟨rfl, ?_⟩))) (by first | exact Le.refl _ | assumption) (quiet_op (by rw [hty]; first | rfl | (refine st_ ?_; rfl))) ?_; refine st_ ?_
            refine h_one 3 rfl (by kernel_rfl) ?_
            refine rn_ ?_; intros
            refine h_hs (allIn (by repeat (first | exact trivial | refine ⟨rfl, ?_⟩))) (by first | exact Le.refl _ | assumption) ?_
            refine h_one 4 rfl (by kernel_rfl) ?_
            refine rn_ ?_; intros
            refine h_hs (allIn (by repeat (first | exact trivial | refine ⟨rfl, ?_⟩))) (by first | exact Le.refl _ | assumption) ?_
            refine h_one 5 rfl (by kernel_rfl) ?_
            refine rn_ ?_; intros
            refine h_hs (allIn (by repeat (first | exact trivial | refine ⟨rfl, ?_⟩))) (by first | exact Le.refl _ | assumption) ?_
            refine h_end (by kernel_rfl) ?_
            refine rn_ ?_; intros
            refine x_retc rfl hQ hmb rfl (by rw [hty]; simp only [so, sq, zy, zz, tyE, SO', SQ', opQ, opStore, opAlloc, ev, putS, dOk, cv, SV.cs, SV.one, SV.bool?, eqB, Value.oneCell', ldOwn, binInt, binConst, binBool, binStr, isC, TK.agg, rv, rv1, ldV, resOne, resV, Nat.reduceAdd, Nat.reduceMul, Nat.reduceSub, Nat.reduceLT, Nat.reduceLeDiff, Nat.reduceEqDiff, Nat.reduceBEq, reduceIte, reduceCtorEq, eq_self]; try rfl) rfl ?_; simp only [SV.den, resV, dens]
            rw [e]
            exact ⟨_, _, _, rfl, ⟨Rp.S_mono hle6 hs.v, hS6⟩, VT.rep_mono hle6 ho.r, ho.ok.br, hc⟩
          · refine rn_ ?_; intros
            refine h_hs (allIn (by repeat (first | exact trivial | refine ⟨rfl, ?_⟩))) (by first | exact Le.refl _ | assumption) ?_
            refine hu_one 3 rfl (by kernel_rfl) ?_
            refine go_litrow 4 (n := 0) (size := 4) rfl (by omega) rfl (by omega) ?_
            refine st_ ?_
            refine go_append_any 4 (by rw [hnt]; rfl) (by rw [hty]; rfl) (by rw [hty]; rfl) (by decide) rfl rfl rfl (by omega) rfl (hsrc.imp id fun f => f _ _ rfl) (Rp.L_len hcs) (Rp.L_one hcs) (by omega) (by simp only []; omega) ?_
            intro v1
            refine go_rowS 4 rfl ?_
            rintro a3 c3 rfl
            refine rn_ ?_; intros
            refine h_hs (allIn (by repeat (first | exact trivial | refine ⟨rfl, ?_⟩))) (by first | exact Le.refl _ | assumption) ?_
            refine hu_one 11 rfl (by kernel_rfl) ?_
            refine go_append_any 4 (by rw [hnt]; rfl) (by rw [hty]; rfl) (by rw [hty]; rfl) (by decide) rfl rfl rfl (by omega) rfl (.inr (src_own 4 rfl rfl)) rfl (by simp [dens, SV.den, Value.oneCell']) (by omega) (by simp only []; omega) ?_
            intro v2
            refine go_rowS 4 rfl ?_
            rintro a4 c4 rfl
            refine rn_ ?_; intros
            refine h_hs (allIn (by repeat (first | exact trivial | refine ⟨rfl, ?_⟩))) (by first | exact Le.refl _ | assumption) ?_
            refine hu_one 12 rfl (by kernel_rfl) ?_
            refine rn_ ?_; intros
            refine h_hs (allIn (by repeat (first | exact trivial | refine ⟨rfl, ?_⟩))) (by first | exact Le.refl _ | assumption) ?_
            refine hu_last 13 [] rfl (by kernel_rfl) rfl ?_
            refine rn_ ?_; intros
            refine h_end (by kernel_rfl) ?_
            refine go_pubL rPo 4 rfl (by omega) (ts := s.ps ++ [⟨res, s.vals.length⟩]) (by simp) (by omega) (Rp.L_append (by simpa using hcs) (Rp.L_single ⟨_, rfl, ho.r, ho.ok.br, by simp only [isI64]; omega⟩)) ?_
            intro G6 ad6 cap6 (hle6 : Le G G6) he6 hS6
            rw [← he6] at hS6
            refine go_keep [4, 5, 6, 7, 8] [0, 1, 2, 3] ?_
            refine st_ ?_
            refine rn_ ?_; intros
            refine x_held [(0, b0, .c 44 [.v (.slice ad1 s.vals.length cap1), .v (.slice a4 (0 + s.ps.length + 1) c4)]), (1, b1, .c 40 [.v (.int .i64 th), .v (.int .i64 0), .v (.int .i64 arg.k), .v (.int .i64 arg.n), .v (.slice ada arg.l.length capa), .v (.int .i64 res.k), .v (.int .i64 res.n), .v (.slice adr res.l.length capr), .v (.int .i64 fr), .v (.int .i64 to), .v (.bool dn)])] rfl (by rw [hP]; kernel_rfl) rfl rfl rfl ?_; refine st_ ?_
            refine h_take 0 rfl (by kernel_rfl) (by kernel_rfl) (by kernel_rfl) hQp (by rw [hnt]; rfl) (allIn (by repeat (first | exact trivial | refine ⟨rfl, ?_⟩))) (by first | exact Le.refl _ | assumption) (quiet_op (by rw [hty]; first | rfl | (refine st_ ?_; rfl))) ?_; refine st_ ?_
            refine h_take 1 rfl (by kernel_rfl) (by kernel_rfl) (by kernel_rfl) hQp (by rw [hnt]; rfl) (allIn (by repeat (first | exact trivial | refine ⟨rfl, ?_⟩))) (by first | exact Le.refl _ | assumption) (quiet_op (by rw [hty]; first | rfl | (refine st_ ?_; rfl))) ?_; refine st_ ?_
            refine h_take 2 rfl (by kernel_rfl) (by kernel_rfl) (by kernel_rfl) hQp (by rw [hnt]; rfl) (allIn (by repeat (first | exact trivial | refine ⟨rfl, ?_⟩))) (by first | exact Le.refl _ | assumption) (quiet_op (by rw [hty]; first | rfl | (refine st_ ?_; rfl))) ?_; refine st_ ?_
            refine h_one 3 rfl (by kernel_rfl) ?_
            refine rn_ ?_; intros
            refine h_hs (allIn (by repeat (first | exact trivial | refine ⟨rfl, ?_⟩))) (by first | exact Le.refl _ | assumption) ?_
            refine h_one 4 rfl (by kernel_rfl) ?_
            refine rn_ ?_; intros
            refine h_hs (allIn (by repeat (first | exact trivial | refine ⟨rfl, ?_⟩))) (by first | exact Le.refl _ | assumption) ?_
            refine h_one 5 rfl (by kernel_rfl) ?_
            refine rn_ ?_; intros
            refine h_hs (allIn (by repeat (first | exact trivial | refine ⟨rfl, ?_⟩))) (by first | exact Le.refl _ | assumption) ?_
            refine h_end (by kernel_rfl) ?_
            refine rn_ ?_; intros
            refine x_retc rfl hQ hmb rfl (by rw [hty]; simp only [so, sq, zy, zz, tyE, SO', SQ', opQ, opStore, opAlloc, ev, putS, dOk, cv, SV.cs, SV.one, SV.bool?, eqB, Value.oneCell', ldOwn, binInt, binConst, binBool, binStr, isC, TK.agg, rv, rv1, ldV, resOne, resV, Nat.reduceAdd, Nat.reduceMul, Nat.reduceSub, Nat.reduceLT, Nat.reduceLeDiff, Nat.reduceEqDiff, Nat.reduceBEq, reduceIte, reduceCtorEq, eq_self]; try rfl) rfl ?_; simp only [SV.den, resV, dens]
            rw [e]
            exact ⟨_, _, _, rfl, ⟨Rp.S_mono hle6 hs.v, hS6⟩, VT.rep_mono hle6 ho.r, ho.ok.br, hc⟩
        · refine rn_ ?_; intros
          refine h_hs (allIn (by repeat (first | exact trivial | refine ⟨rfl, ?_⟩))) (by first | exact Le.refl _ | assumption) ?_
          refine hu_one 0 rfl (by kernel_rfl) ?_
          refine rn_ ?_; intros
          refine h_hs (allIn (by repeat (first | exact trivial | refine ⟨rfl, ?_⟩))) (by first | exact Le.refl _ | assumption) ?_
          refine hu_one 3 rfl (by kernel_rfl) ?_
          refine go_litrow 5 (n := 0) (size := 4) rfl (by omega) rfl (by omega) ?_
          refine st_ ?_
          refine go_append_any 5 (by rw [hnt]; rfl) (by rw [hty]; rfl) (by rw [hty]; rfl) (by decide) rfl rfl rfl (by omega) rfl (hsrc.imp id fun f => f _ _ rfl) (Rp.L_len hcs) (Rp.L_one hcs) (by omega) (by simp only []; omega) ?_
          intro v1
          refine go_rowS 5 rfl ?_
          rintro a3 c3 rfl
          refine rn_ ?_; intros
          refine h_hs (allIn (by repeat (first | exact trivial | refine ⟨rfl, ?_⟩))) (by first | exact Le.refl _ | assumption) ?_
          refine hu_one 11 rfl (by kernel_rfl) ?_
          refine go_append_any 5 (by rw [hnt]; rfl) (by rw [hty]; rfl) (by rw [hty]; rfl) (by decide) rfl rfl rfl (by omega) rfl (.inr (src_own 4 rfl rfl)) rfl (by simp [dens, SV.den, Value.oneCell']) (by omega) (by simp only []; omega) ?_
          intro v2
          refine go_rowS 5 rfl ?_
          rintro a4 c4 rfl
          refine rn_ ?_; intros
          refine h_hs (allIn (by repeat (first | exact trivial | refine ⟨rfl, ?_⟩))) (by first | exact Le.refl _ | assumption) ?_
          refine hu_one 12 rfl (by kernel_rfl) ?_
          refine rn_ ?_; intros
          refine h_hs (allIn (by repeat (first | exact trivial | refine ⟨rfl, ?_⟩))) (by first | exact Le.refl _ | assumption) ?_
          refine hu_last 13 [] rfl (by kernel_rfl) rfl ?_
          refine rn_ ?_; intros
          refine h_end (by kernel_rfl) ?_
          refine go_pubL rPo 5 rfl (by omega) (ts := s.ps ++ [⟨res, s.vals.length⟩]) (by simp) (by omega) (Rp.L_append (by simpa using hcs) (Rp.L_single ⟨_, rfl, ho.r, ho.ok.br, by simp only [isI64]; omega⟩)) ?_
          intro G6 ad6 cap6 (hle6 : Le G G6) he6 hS6
          rw [← he6] at hS6
          refine go_keep [4, 5, 6, 7, 8] [0, 1, 2, 3] ?_
          refine st_ ?_
          refine rn_ ?_; intros
          refine x_held [(0, b0, .c 44 [.v (.slice ad1 s.vals.length cap1), .v (.slice a4 (0 + s.ps.length + 1) c4)]), (1, b1, .c 40 [.v (.int .i64 th), .v (.int .i64 0), .v (.int .i64 arg.k), .v (.int .i64 arg.n), .v (.slice ada arg.l.length capa), .v (.int .i64 res.k), .v (.int .i64 res.n), .v (.slice adr res.l.length capr), .v (.int .i64 fr), .v (.int .i64 to), .v (.bool dn)])] rfl (by rw [hP]; kernel_rfl) rfl rfl rfl ?_; refine st_ ?_
          refine h_take 0 rfl (by kernel_rfl) (by kernel_rfl) (by kernel_rfl) hQp (by rw [hnt]; rfl) (allIn (by repeat (first | exact trivial | refine ⟨rfl, ?_⟩))) (by first | exact Le.refl _ | assumption) (quiet_op (by rw [hty]; first | rfl | (refine st_ ?_; rfl))) ?_; refine st_ ?_
          refine h_take 1 rfl (by kernel_rfl) (by kernel_rfl) (by kernel_rfl) hQp (by rw [hnt]; rfl) (allIn (by repeat (first | exact trivial | refine ⟨rfl, ?_⟩))) (by first | exact Le.refl _ | assumption) (quiet_op (by rw [hty]; first | rfl | (refine st_ ?_; rfl))) ?_; refine st_ ?_
          refine h_take 2 rfl (by kernel_rfl) (by kernel_rfl) (by kernel_rfl) hQp (by rw [hnt]; rfl) (allIn (by repeat (first | exact trivial | refine ⟨rfl, ?_⟩))) (by first | exact Le.refl _ | assumption) (quiet_op (by rw [hty]; first | rfl | (refine st_ ?_; rfl))) ?_; refine st_ ?_
          refine h_one 3 rfl (by kernel_rfl) ?_
          refine rn_ ?_; intros
          refine h_hs (allIn (by repeat (first | exact trivial | refine ⟨rfl, ?_⟩))) (by first | exact Le.refl _ | assumption) ?_
          refine h_one 4 rfl (by kernel_rfl) ?_
          refine rn_ ?_; intros
          refine h_hs (allIn (by repeat (first | exact trivial | refine ⟨rfl, ?_⟩))) (by first | exact Le.refl _ | assumption) ?_
          refine h_one 5 rfl (by kernel_rfl) ?_
          refine rn_ ?_; intros
          refine h_hs (allIn (by repeat (first | exact trivial | refine ⟨rfl, ?_⟩))) (by first | exact Le.refl _ | assumption) ?_
          refine h_end (by kernel_rfl) ?_
          refine rn_ ?_; intros
          refine x_retc rfl hQ hmb rfl (by rw [hty]; simp only [so, sq, zy, zz, tyE, SO', SQ', opQ, opStore, opAlloc, ev, putS, dOk, cv, SV.cs, SV.one, SV.bool?, eqB, Value.oneCell', ldOwn, binInt, binConst, binBool, binStr, isC, TK.agg, rv, rv1, ldV, resOne, resV, Nat.reduceAdd, Nat.reduceMul, Nat.reduceSub, Nat.reduceLT, Nat.reduceLeDiff, Nat.reduceEqDiff, Nat.reduceBEq, reduceIte, reduceCtorEq, eq_self]; try rfl) rfl ?_; simp only [SV.den, resV, dens]
          rw [e]
          exact ⟨_, _, _, rfl, ⟨Rp.S_mono hle6 hs.v, hS6⟩, VT.rep_mono hle6 ho.r, ho.ok.br, hc⟩
      · have e := hno (by
          cases hp : pix res s.ps 0 with
          | none => rw [hp] at hport; simp at hport
          | some i => rfl)
        refine rn_ ?_; intros
        refine x_held [(0, b0, .c 44 [.v (.slice ad1 s.vals.length cap1), .v (.slice ad2 s.ps.length cap2)]), (5, b5, .c 28 [.v (.int .i64 0), .v (.int .i64 0), .v (.slice none 0 0)])] rfl (by rw [hP]; kernel_rfl) rfl rfl rfl ?_; refine st_ ?_
        refine h_take 0 rfl (by kernel_rfl) (by kernel_rfl) (by kernel_rfl) hQp (by rw [hnt]; rfl) (allIn (by repeat (first | exact trivial | refine ⟨rfl, ?_⟩))) (by first | exact Le.refl _ | assumption) (quiet_op (by rw [hty]; first | rfl | (refine st_ ?_; rfl))) ?_; refine st_ ?_
        refine h_take 1 rfl (by kernel_rfl) (by kernel_rfl) (by kernel_rfl) hQp (by rw [hnt]; rfl) (allIn (by repeat (first | exact trivial | refine ⟨rfl, ?_⟩))) (by first | exact Le.refl _ | assumption) (quiet_op (by rw [hty]; first | rfl | (refine st_ ?_; rfl))) ?_; refine st_ ?_
        refine h_one 2 rfl (by kernel_rfl) ?_
        refine rn_ ?_; intros
        refine h_hs (allIn (by repeat (first | exact trivial | refine ⟨rfl, ?_⟩))) (by first | exact Le.refl _ | assumption) ?_
        refine h_one 3 rfl (by kernel_rfl) ?_
        refine rn_ ?_; intros
        refine h_hs (allIn (by repeat (first | exact trivial | refine ⟨rfl, ?_⟩))) (by first | exact Le.refl _ | assumption) ?_
        refine h_one 4 rfl (by kernel_rfl) ?_
        refine rn_ ?_; intros
        refine h_hs (allIn (by repeat (first | exact trivial | refine ⟨rfl, ?_⟩))) (by first | exact Le.refl _ | assumption) ?_
        refine h_end (by kernel_rfl) ?_
        refine rn_ ?_; intros
        refine x_retc rfl hQ hmb rfl (by rw [hty]; simp only [so, sq, zy, zz, tyE, SO', SQ', opQ, opStore, opAlloc, ev, putS, dOk, cv, SV.cs, SV.one, SV.bool?, eqB, Value.oneCell', ldOwn, binInt, binConst, binBool, binStr, isC, TK.agg, rv, rv1, ldV, resOne, resV, Nat.reduceAdd, Nat.reduceMul, Nat.reduceSub, Nat.reduceLT, Nat.reduceLeDiff, Nat.reduceEqDiff, Nat.reduceBEq, reduceIte, reduceCtorEq, eq_self]; try rfl) rfl ?_; simp only [SV.den, resV, dens]
        rw [e]
        exact ⟨_, _, _, rfl, hs, rep_leaf _ 0 0 (by simp [isI64]) (by simp [isI64]), by simp [noneV, tsz, tszL], hc⟩
    · have e := hno (by rw [show (res.k != 4) = true by rw [bne_iff_ne]; simpa using hk4]; simp)
      refine x_held [(0, b0, .c 44 [.v (.slice ad1 s.vals.length cap1), .v (.slice ad2 s.ps.length cap2)]), (5, b5, .c 28 [.v (.int .i64 0), .v (.int .i64 0), .v (.slice none 0 0)])] rfl (by rw [hP]; kernel_rfl) rfl rfl rfl ?_; refine st_ ?_
      refine h_take 0 rfl (by kernel_rfl) (by kernel_rfl) (by kernel_rfl) hQp (by rw [hnt]; rfl) (allIn (by repeat (first | exact trivial | refine ⟨rfl, ?_⟩))) (by first | exact Le.refl _ | assumption) (quiet_op (by rw [hty]; first | rfl | (refine st_ ?_; rfl))) ?_; refine st_ ?_
      refine h_take 1 rfl (by kernel_rfl) (by kernel_rfl) (by kernel_rfl) hQp (by rw [hnt]; rfl) (allIn (by repeat (first | exact trivial | refine ⟨rfl, ?_⟩))) (by first | exact Le.refl _ | assumption) (quiet_op (by rw [hty]; first | rfl | (refine st_ ?_; rfl))) ?_; refine st_ ?_
      refine h_one 2 rfl (by kernel_rfl) ?_
      refine rn_ ?_; intros
      refine h_hs (allIn (by repeat (first | exact trivial | refine ⟨rfl, ?_⟩))) (by first | exact Le.refl _ | assumption) ?_
      refine h_one 3 rfl (by kernel_rfl) ?_
      refine rn_ ?_; intros
      refine h_hs (allIn (by repeat (first | exact trivial | refine ⟨rfl, ?_⟩))) (by first | exact Le.refl _ | assumption) ?_
      refine h_one 4 rfl (by kernel_rfl) ?_
      refine rn_ ?_; intros
      refine h_hs (allIn (by repeat (first | exact trivial | refine ⟨rfl, ?_⟩))) (by first | exact Le.refl _ | assumption) ?_
      refine h_end (by kernel_rfl) ?_
      refine rn_ ?_; intros
      refine x_retc rfl hQ hmb rfl (by rw [hty]; simp only [so, sq, zy, zz, tyE, SO', SQ', opQ, opStore, opAlloc, ev, putS, dOk, cv, SV.cs, SV.one, SV.bool?, eqB, Value.oneCell', ldOwn, binInt, binConst, binBool, binStr, isC, TK.agg, rv, rv1, ldV, resOne, resV, Nat.reduceAdd, Nat.reduceMul, Nat.reduceSub, Nat.reduceLT, Nat.reduceLeDiff, Nat.reduceEqDiff, Nat.reduceBEq, reduceIte, reduceCtorEq, eq_self]; try rfl) rfl ?_; simp only [SV.den, resV, dens]
      rw [e]
      exact ⟨_, _, _, rfl, hs, rep_leaf _ 0 0 (by simp [isI64]) (by simp [isI64]), by simp [noneV, tsz, tszL], hc⟩
  · have hd : dn = false := by
      rcases hdn with ⟨_, h⟩ | ⟨h, _⟩
      · rw [h] at hvr; cases hvr
      · exact h
    have e := hno (by rw [hd]; simp)
    refine x_held [(0, b0, .c 44 [.v (.slice ad1 s.vals.length cap1), .v (.slice ad2 s.ps.length cap2)]), (5, b5, .c 28 [.v (.int .i64 0), .v (.int .i64 0), .v (.slice none 0 0)])] rfl (by rw [hP]; kernel_rfl) rfl rfl rfl ?_; refine st_ ?_
    refine h_take 0 rfl (by kernel_rfl) (by kernel_rfl) (by kernel_rfl) hQp (by rw [hnt]; rfl) (allIn (by repeat (first | exact trivial | refine ⟨rfl, ?_⟩))) (by first | exact Le.refl _ | assumption) (quiet_op (by rw [hty]; first | rfl | (refine st_ ?_; rfl))) ?_; refine st_ ?_
    refine h_take 1 rfl (by kernel_rfl) (by kernel_rfl) (by kernel_rfl) hQp (by rw [hnt]; rfl) (allIn (by repeat (first | exact trivial | refine ⟨rfl, ?_⟩))) (by first | exact Le.refl _ | assumption) (quiet_op (by rw [hty]; first | rfl | (refine st_ ?_; rfl))) ?_; refine st_ ?_
    refine h_one 2 rfl (by kernel_rfl) ?_
    refine rn_ ?_; intros
    refine h_hs (allIn (by repeat (first | exact trivial | refine ⟨rfl, ?_⟩))) (by first | exact Le.refl _ | assumption) ?_
    refine h_one 3 rfl (by kernel_rfl) ?_
    refine rn_ ?_; intros
    refine h_hs (allIn (by repeat (first | exact trivial | refine ⟨rfl, ?_⟩))) (by first | exact Le.refl _ | assumption) ?_
    refine h_one 4 rfl (by kernel_rfl) ?_
    refine rn_ ?_; intros
    refine h_hs (allIn (by repeat (first | exact trivial | refine ⟨rfl, ?_⟩))) (by first | exact Le.refl _ | assumption) ?_
    refine h_end (by kernel_rfl) ?_
    refine rn_ ?_; intros
    refine x_retc rfl hQ hmb rfl (by rw [hty]; simp only [so, sq, zy, zz, tyE, SO', SQ', opQ, opStore, opAlloc, ev, putS, dOk, cv, SV.cs, SV.one, SV.bool?, eqB, Value.oneCell', ldOwn, binInt, binConst, binBool, binStr, isC, TK.agg, rv, rv1, ldV, resOne, resV, Nat.reduceAdd, Nat.reduceMul, Nat.reduceSub, Nat.reduceLT, Nat.reduceLeDiff, Nat.reduceEqDiff, Nat.reduceBEq, reduceIte, reduceCtorEq, eq_self]; try rfl) rfl ?_; simp only [SV.den, resV, dens]
    rw [e]
    exact ⟨_, _, _, rfl, hs, rep_leaf _ 0 0 (by simp [isI64]) (by simp [isI64]), by simp [noneV, tsz, tszL], hc⟩
end Go.Proofs.Ytpmmbjcgabnloaa
namespace Go.Proofs.Ytpmmbjcgabnloaa
set_option linter.unusedSimpArgs false
set_option linter.unusedVariables false
open Go.Sx
set_option maxHeartbeats 8000000
set_option maxRecDepth 20000
theorem does42_ok (th : Int) (arg res : VT) (fr to : Int) (dn : Bool) (s : MS) (sv sp sa sr : Value) (G : Hp) (hs : s.rep G sv sp) (ho : (⟨th, 2, arg, res, fr, to, dn⟩ : Op).rep G sa sr) (hl : s.vals.length ≤ 100000) (hlp : s.ps.length ≤ 100000) (hc : CapOk sv) (hwf : s.wf) :
    Pure Try.prog 47 [.int .i64 4, .agg #[sv, sp], .agg (opL ⟨th, 2, arg, res, fr, to, dn⟩ sa sr).toArray] G (rdRet (castP s ⟨th, 2, arg, res, fr, to, dn⟩)) := by
  obtain ⟨ada, capa, rfl⟩ := VT.rep_slice ho.a
  obtain ⟨adr, capr, rfl⟩ := VT.rep_slice ho.r
  obtain ⟨ad1, cap1, rfl⟩ := Rp.S_slice hs.v
  obtain ⟨ad2, cap2, rfl⟩ := Rp.S_slice hs.p
  refine enterX ty tyok Try.func47 rfl Try.ntmps47 [.v (.int .i64 4), .a [.v (.slice ad1 s.vals.length cap1), .v (.slice ad2 s.ps.length cap2)], .a (opC ⟨th, 2, arg, res, fr, to, dn⟩ (.slice ada arg.l.length capa) (.slice adr res.l.length capr))] (by simp) ?_
  simp only [opC]
  intro C hP hQ hnt hty hmb hmh hro; have hQp := qp_body hQ; refine st_ ?_
  refine rn_ ?_; intros
  rename_i b0 b1 b2 b3 b4 b5
  (refine x_split rfl rfl rfl (fun hc => absurd hc (by first | decide +kernel | (simp; first | done | fail))) (fun _ => ?_); refine st_ ?_; (refine ru_ ?_; intros))
  refine rn_ ?_; intros
  (refine x_split rfl rfl rfl (fun hc => absurd hc (by first | decide +kernel | (simp; first | done | fail))) (fun _ => ?_); refine st_ ?_; (refine ru_ ?_; intros))
  refine rn_ ?_; intros
  (refine x_split rfl rfl rfl (fun hc => absurd hc (by first | decide +kernel | (simp; first | done | fail))) (fun _ => ?_); refine st_ ?_; (refine ru_ ?_; intros))
  refine rn_ ?_; intros
  (refine x_split rfl rfl rfl (fun hc => absurd hc (by first | decide +kernel | (simp; first | done | fail))) (fun _ => ?_); refine st_ ?_; (refine ru_ ?_; intros))
  refine rn_ ?_; intros
  (refine x_split rfl rfl rfl (fun hc => absurd hc (by first | decide +kernel | (simp; first | done | fail))) (fun _ => ?_); refine st_ ?_; (refine ru_ ?_; intros))
  refine rn_ ?_; intros
  (refine x_split rfl rfl rfl (fun hc => absurd hc (by first | decide +kernel | (simp; first | done | fail))) (fun _ => ?_); refine st_ ?_; (refine ru_ ?_; intros))
  refine rn_ ?_; intros
  (refine x_split rfl rfl rfl (fun hc => absurd hc (by first | decide +kernel | (simp; first | done | fail))) (fun _ => ?_); refine st_ ?_; (refine ru_ ?_; intros))
  refine rn_ ?_; intros
  (refine x_split rfl rfl rfl (fun hc => absurd hc (by first | decide +kernel | (simp; first | done | fail))) (fun _ => ?_); refine st_ ?_; (refine ru_ ?_; intros))
  refine rn_ ?_; intros
  (refine x_split rfl rfl rfl (fun _ => ?_) (fun hc => absurd hc (by first | decide +kernel | (simp; first | done | fail))); refine st_ ?_; (refine ru_ ?_; intros))
  refine rn_ ?_; intros
  refine go_keep [4, 5, 6, 7, 8, 10, 113, 115] [0, 1, 2, 3, 5] ?_
  refine st_ ?_
  refine go_callf (by rw [hnt]; rfl) (by rw [hP]; kernel_rfl) rfl (hP ▸ rport_ok s.ps arg _ _ _ rfl G hs.p ho.a ho.ok.ba) ?_; refine rn_ ?_; intros
  have hcs0 : castP s ⟨th, 2, arg, res, fr, to, dn⟩ = match pix arg s.ps 0 with
      | none => (s, noneV, false)
      | some i => if (s.vals.length : Int) ≤ (s.ps.getD i ⟨noneV, 0⟩).pt then (s, noneV, false) else (⟨s.vals, s.ps.set i ⟨(s.ps.getD i ⟨noneV, 0⟩).nm, (s.ps.getD i ⟨noneV, 0⟩).pt + 1⟩⟩, s.vals.getD (s.ps.getD i ⟨noneV, 0⟩).pt.toNat noneV, true) := rfl
  rcases hpi : pix arg s.ps 0 with _ | i
  · have e : castP s ⟨th, 2, arg, res, fr, to, dn⟩ = (s, noneV, false) := by rw [hcs0, hpi]
    refine x_draw rfl (by rw [hP]; kernel_rfl) rfl (by kernel_rfl) ?_
    refine runq 400 hty hnt ?_; refine st_ ?_
    (refine go_qsplit rfl rfl (fun hc => absurd hc (by simp)) (fun _ => ?_); refine st_ ?_; (try (refine runq 400 hty hnt ?_; refine st_ ?_)))
    repeat (refine q_gundef rfl (by rw [hnt]; rfl) rfl ?_; (refine st_ ?_; (try (refine runq 400 hty hnt ?_; refine st_ ?_))))
    refine q_end ?_; refine rn_ ?_; intros
    refine rn_ ?_; intros
    refine x_held [(0, b0, .c 44 [.v (.slice ad1 s.vals.length cap1), .v (.slice ad2 s.ps.length cap2)]), (5, b5, .c 28 [.v (.int .i64 0), .v (.int .i64 0), .v (.slice none 0 0)])] rfl (by rw [hP]; kernel_rfl) rfl rfl rfl ?_; refine st_ ?_
    refine h_take 0 rfl (by kernel_rfl) (by kernel_rfl) (by kernel_rfl) hQp (by rw [hnt]; rfl) (allIn (by repeat (first | exact trivial | refine ⟨rfl, ?_⟩))) (by first | exact Le.refl _ | assumption) (quiet_op (by rw [hty]; first | rfl | (refine st_ ?_; rfl))) ?_; refine st_ ?_
    refine h_take 1 rfl (by kernel_rfl) (by kernel_rfl) (by kernel_rfl) hQp (by rw [hnt]; rfl) (allIn (by repeat (first | exact trivial | refine ⟨rfl, ?_⟩))) (by first | exact Le.refl _ | assumption) (quiet_op (by rw [hty]; first | rfl | (refine st_ ?_; rfl))) ?_; refine st_ ?_
    refine h_one 2 rfl (by kernel_rfl) ?_
    refine rn_ ?_; intros
    refine h_hs (allIn (by repeat (first | exact trivial | refine ⟨rfl, ?_⟩))) (by first | exact Le.refl _ | assumption) ?_
    refine h_one 3 rfl (by kernel_rfl) ?_
    refine rn_ ?_; intros
    refine h_hs (allIn (by repeat (first | exact trivial | refine ⟨rfl, ?_⟩))) (by first | exact Le.refl _ | assumption) ?_
    refine h_one 4 rfl (by kernel_rfl) ?_
    refine rn_ ?_; intros
    refine h_hs (allIn (by repeat (first | exact trivial | refine ⟨rfl, ?_⟩))) (by first | exact Le.refl _ | assumption) ?_
    refine h_end (by kernel_rfl) ?_
    refine rn_ ?_; intros
    refine x_retc rfl hQ hmb rfl (by rw [hty]; simp only [so, sq, zy, zz, tyE, SO', SQ', opQ, opStore, opAlloc, ev, putS, dOk, cv, SV.cs, SV.one, SV.bool?, eqB, Value.oneCell', ldOwn, binInt, binConst, binBool, binStr, isC, TK.agg, rv, rv1, ldV, resOne, resV, Nat.reduceAdd, Nat.reduceMul, Nat.reduceSub, Nat.reduceLT, Nat.reduceLeDiff, Nat.reduceEqDiff, Nat.reduceBEq, reduceIte, reduceCtorEq, eq_self]; try rfl) rfl ?_; simp only [SV.den, resV, dens]
    rw [e]
    exact ⟨_, _, _, rfl, hs, rep_leaf _ 0 0 (by simp [isI64]) (by simp [isI64]), by simp [noneV, tsz, tszL], hc⟩
  · have hi := (pix_lt hpi).2
    rw [Nat.zero_add] at hi
    obtain ⟨c1, o1, sl1, rfl, hat, hrep, hbp, h64⟩ := rPo_at hs.p hi
    have hwfi := hwf _ (List.getElem_mem hi)
    have hgd : s.ps.getD i ⟨noneV, 0⟩ = s.ps[i] := by rw [List.getD_eq_getElem?_getD, List.getElem?_eq_getElem hi]; rfl
    rw [hpi] at hcs0
    simp only [hgd] at hcs0
    have hatp : At G c1 (o1 + i * 4 + 3) [.int .i64 s.ps[i].pt] := by simpa using hat.sub 3 1 (by simp)
    refine x_draw rfl (by rw [hP]; kernel_rfl) rfl (by kernel_rfl) ?_
    refine runq 400 hty hnt ?_; refine st_ ?_
    (refine go_qsplit rfl rfl (fun _ => ?_) (fun hc => absurd hc (by simp)); refine st_ ?_; (try (refine runq 400 hty hnt ?_; refine st_ ?_)))
    refine q_q (by rw [hnt]; rfl) (quiet_index (by rw [hty]; rfl) (by rw [hty]; rfl) rfl rfl rfl (by omega) (by omega)) ?_; refine runq 400 hty hnt ?_; refine st_ ?_
    refine q_q (v := .int .i64 s.ps[i].pt) (by rw [hnt]; rfl) ((quiet_load (vs := [.int .i64 s.ps[i].pt]) (by rw [hty]; rfl) rfl (by simp [TK.agg]) (by simpa only [Int.toNat_natCast] using hatp) rfl).cast (by rfl)) ?_
    refine runq 400 hty hnt ?_; refine st_ ?_
    refine q_end ?_; refine rn_ ?_; intros
    refine x_split rfl rfl rfl (fun hlt => ?_) (fun hlt => ?_) <;> (refine st_ ?_; (refine ru_ ?_; intros))
    · have hlt' : ¬ (s.vals.length : Int) ≤ s.ps[i].pt := by simp at hlt; omega
      rw [if_neg hlt'] at hcs0
      refine go_keep [4, 5, 6, 7, 8, 13] [0, 1, 2, 3] ?_
      refine st_ ?_
      refine rn_ ?_; intros
      obtain ⟨p, hpe⟩ : ∃ p : Nat, s.ps[i].pt = p := ⟨s.ps[i].pt.toNat, by omega⟩
      have hpl : p < s.vals.length := by omega
      rw [hpe] at hcs0 hatp
      have hgv : s.vals.getD ((p : Int)).toNat noneV = s.vals[p] := by rw [Int.toNat_natCast, List.getD_eq_getElem?_getD, List.getElem?_eq_getElem hpl]; rfl
      rw [hgv] at hcs0
      obtain ⟨c2, o2, sl2, hx2, hatv, hrv, hbv⟩ := rV_at hs.v hpl
      subst hx2
      obtain ⟨asv, csv, rfl⟩ := VT.rep_slice hrv
      obtain ⟨cs, hcs, hsrc⟩ := Rp.srcS hs.p
      refine x_held [(0, b0, .c 44 [.v (.slice (some ⟨c2, o2, none⟩) s.vals.length cap1), .v (.slice (some ⟨c1, o1, none⟩) s.ps.length cap2)])] rfl (by rw [hP]; kernel_rfl) rfl rfl rfl ?_; refine st_ ?_
      refine h_take 0 rfl (by kernel_rfl) (by kernel_rfl) (by kernel_rfl) hQp (by rw [hnt]; rfl) (allIn (by repeat (first | exact trivial | refine ⟨rfl, ?_⟩))) (by first | exact Le.refl _ | assumption) (quiet_op (by rw [hty]; first | rfl | (refine st_ ?_; rfl))) ?_; refine st_ ?_
      refine h_take 1 rfl (by kernel_rfl) (by kernel_rfl) (by kernel_rfl) hQp (by rw [hnt]; rfl) (allIn (by repeat (first | exact trivial | refine ⟨rfl, ?_⟩))) (by first | exact Le.refl _ | assumption) (quiet_op (by rw [hty]; first | rfl | (refine st_ ?_; rfl))) ?_; refine st_ ?_
      refine h_take 2 rfl (by kernel_rfl) (by kernel_rfl) (by kernel_rfl) hQp (by rw [hnt]; rfl) (allIn (by repeat (first | exact trivial | refine ⟨rfl, ?_⟩))) (by first | exact Le.refl _ | assumption) (quiet_op (by rw [hty]; first | rfl | (refine st_ ?_; rfl))) ?_; refine st_ ?_
      refine h_take 3 rfl (by kernel_rfl) (by kernel_rfl) (by kernel_rfl) hQp (by rw [hnt]; rfl) (allIn (by repeat (first | exact trivial | refine ⟨rfl, ?_⟩))) (by first | exact Le.refl _ | assumption) (quiet_op (by rw [hty]; first | rfl | (refine st_ ?_; rfl))) ?_; refine st_ ?_
      refine h_take 4 rfl (by kernel_rfl) (by kernel_rfl) (by kernel_rfl) hQp (by rw [hnt]; rfl) (allIn (by repeat (first | exact trivial | refine ⟨rfl, ?_⟩))) (by first | exact Le.refl _ | assumption) (quiet_op (by rw [hty]; first | rfl | (refine st_ ?_; rfl))) ?_; refine st_ ?_
      refine h_take 5 rfl (by kernel_rfl) (by kernel_rfl) (by kernel_rfl) hQp (by rw [hnt]; rfl) (allIn (by repeat (first | exact trivial | refine ⟨rfl, ?_⟩))) (by first | exact Le.refl _ | assumption) (x := .v (.pointer (some ⟨c1, o1 + i * 4, none⟩))) ((quiet_index (by rw [hty]; rfl) (by rw [hty]; rfl) rfl rfl rfl (by omega) (by omega)).cast (by simp [SV.den])) ?_
      refine st_ ?_
      refine h_take 6 rfl (by kernel_rfl) (by kernel_rfl) (by kernel_rfl) hQp (by rw [hnt]; rfl) (allIn (by repeat (first | exact trivial | refine ⟨rfl, ?_⟩))) (by first | exact Le.refl _ | assumption) (quiet_op (by rw [hty]; first | rfl | (refine st_ ?_; rfl))) ?_; refine st_ ?_
      refine h_take 7 rfl (by kernel_rfl) (by kernel_rfl) (by kernel_rfl) hQp (by rw [hnt]; rfl) (allIn (by repeat (first | exact trivial | refine ⟨rfl, ?_⟩))) (by first | exact Le.refl _ | assumption) (x := .v (.int .i64 (p : Int))) ((quiet_load (vs := [.int .i64 (p : Int)]) (by rw [hty]; rfl) rfl (by simp [TK.agg]) hatp rfl).cast (by rfl)) ?_
      refine st_ ?_
      refine h_take 8 rfl (by kernel_rfl) (by kernel_rfl) (by kernel_rfl) hQp (by rw [hnt]; rfl) (allIn (by repeat (first | exact trivial | refine ⟨rfl, ?_⟩))) (by first | exact Le.refl _ | assumption) (x := .v (.pointer (some ⟨c2, o2 + p * 3, none⟩))) ((quiet_index (by rw [hty]; rfl) (by rw [hty]; rfl) rfl rfl rfl (by omega) (by omega)).cast (by simp [SV.den])) ?_
      refine st_ ?_
      refine h_take 9 rfl (by kernel_rfl) (by kernel_rfl) (by kernel_rfl) hQp (by rw [hnt]; rfl) (allIn (by repeat (first | exact trivial | refine ⟨rfl, ?_⟩))) (by first | exact Le.refl _ | assumption) (x := .a [.v (.int .i64 s.vals[p].k), .v (.int .i64 s.vals[p].n), .v (.slice asv s.vals[p].l.length csv)]) ((quiet_load (by rw [hty]; rfl) rfl (fun q => by cases q) hatv rfl).cast (by simp only [ldV, SV.den, dens]; rfl)) ?_
      refine st_ ?_
      refine h_one 10 rfl (by kernel_rfl) ?_
      refine rn_ ?_; intros
      refine h_hs (allIn (by repeat (first | exact trivial | refine ⟨rfl, ?_⟩))) (by first | exact Le.refl _ | assumption) ?_
      refine h_one 11 rfl (by kernel_rfl) ?_
      refine rn_ ?_; intros
      refine h_hs (allIn (by repeat (first | exact trivial | refine ⟨rfl, ?_⟩))) (by first | exact Le.refl _ | assumption) ?_
      refine h_end (by kernel_rfl) ?_
      rename_i b6
      refine go_keep [4, 5, 6, 7, 8, 13, 14] [0, 1, 2, 3, 4] ?_
      refine st_ ?_
      refine rn_ ?_; intros
      rename_i b7
      refine go_litrow 5 (n := 0) (size := 4) rfl (by omega) rfl (by omega) ?_
      refine st_ ?_
      refine go_append_any 5 (by rw [hnt]; rfl) (by rw [hty]; rfl) (by rw [hty]; rfl) (by decide) rfl rfl rfl (by omega) rfl (hsrc.imp id fun f => f _ _ rfl) (Rp.L_len hcs) (Rp.L_one hcs) (by omega) (by simp only []; omega) ?_
      intro v1
      refine go_rowE2 5 rfl ?_
      simp only [Nat.zero_add, List.nil_append, dens]
      rintro adp capp rfl hcp hposp
      have hcl := Rp.L_len hcs
      have hr4 : rPo.size = 4 := rfl
      rw [hr4] at hcl
      obtain ⟨g, rfl⟩ : ∃ g, adp = some ⟨g, 0, none⟩ := by
        rcases hposp with ⟨h0, _⟩ | h0
        · rw [h0] at hcl; simp at hcl; omega
        · exact h0
      obtain ⟨cc, hc1, slq, rfl, hrp, hbp2, h642⟩ := Rp.L_get hcs hi
      rw [hr4] at hc1
      obtain ⟨hd1, htk, hm4⟩ := cut4 hc1
      refine rn_ ?_; intros
      refine go_q (by rw [hnt]; rfl) (quiet_index (by rw [hty]; rfl) (by rw [hty]; rfl) rfl rfl rfl (by omega) (by omega)) ?_
      refine rn_ ?_; intros
      refine go_q (v := .int .i64 (p : Int)) (by rw [hnt]; rfl) ((quiet_loadR (k := 5) (by rw [hty]; rfl) rfl (by simp [TK.agg]) rfl (by simp; omega)).cast (by simp only [ldV, Nat.zero_add, Int.toNat_natCast]; rw [hd1, hpe]; rfl)) ?_
      refine rn_ ?_; intros
      rw [wr (n := (p : Int) + 1) (by omega) (by omega)]
      refine go_q (by rw [hnt]; rfl) (quiet_index (by rw [hty]; rfl) (by rw [hty]; rfl) rfl rfl rfl (by omega) (by omega)) ?_
      refine rn_ ?_; intros
      have hlay : lay cs (i * 4 + 3) (dens [.v (.int .i64 ((p : Int) + 1))]) = some (cs.take (i * 4) ++ [.int .i64 s.ps[i].nm.k, .int .i64 s.ps[i].nm.n, slq, .int .i64 ((p : Int) + 1)] ++ cs.drop (i * 4 + 4)) := by
        simp only [dens, SV.den]
        rw [lay_put (by simp; omega), htk]
        simp
      refine go_storeR 5 (by rw [hnt]; rfl) (by rw [hty]; rfl) rfl rfl rfl rfl rfl rfl hlay ?_
      refine rn_ ?_; intros
      have hMs : rPo.L G (s.ps.set i ⟨s.ps[i].nm, (p : Int) + 1⟩) (cs.take (i * 4) ++ [.int .i64 s.ps[i].nm.k, .int .i64 s.ps[i].nm.n, slq, .int .i64 ((p : Int) + 1)] ++ cs.drop (i * 4 + 4)) :=
        Rp.L_set (r := rPo) hcs ⟨slq, rfl, hrp, hbp2, by simp only [isI64]; omega⟩ hi
      generalize cs.take (i * 4) ++ [.int .i64 s.ps[i].nm.k, .int .i64 s.ps[i].nm.n, slq, .int .i64 ((p : Int) + 1)] ++ cs.drop (i * 4 + 4) = zs at *
      refine go_pubL rPo 5 rfl (by omega) (ts := s.ps.set i ⟨s.ps[i].nm, (p : Int) + 1⟩) (by simp) (by omega) hMs ?_
      intro G6 ad6 cap6 (hle6 : Le G G6) he6 hS6
      have e3 : (s.ps.set i ⟨s.ps[i].nm, (p : Int) + 1⟩).length = s.ps.length := List.length_set
      rw [e3] at he6 hS6
      rw [← he6] at hS6
      refine go_keep [4, 6, 7, 8, 14] [0, 2, 3, 4] ?_
      refine st_ ?_
      refine x_held [(0, b0, .c 44 [.v (.slice (some ⟨c2, o2, none⟩) s.vals.length cap1), .v (.slice (some ⟨g, 0, none⟩) s.ps.length capp)]), (4, b6, .c 28 [.v (.int .i64 s.vals[p].k), .v (.int .i64 s.vals[p].n), .v (.slice asv s.vals[p].l.length csv)])] rfl (by rw [hP]; kernel_rfl) rfl rfl rfl ?_; refine st_ ?_
      refine h_take 0 rfl (by kernel_rfl) (by kernel_rfl) (by kernel_rfl) hQp (by rw [hnt]; rfl) (allIn (by repeat (first | exact trivial | refine ⟨rfl, ?_⟩))) (by first | exact Le.refl _ | assumption) (quiet_op (by rw [hty]; first | rfl | (refine st_ ?_; rfl))) ?_; refine st_ ?_
      refine h_take 1 rfl (by kernel_rfl) (by kernel_rfl) (by kernel_rfl) hQp (by rw [hnt]; rfl) (allIn (by repeat (first | exact trivial | refine ⟨rfl, ?_⟩))) (by first | exact Le.refl _ | assumption) (quiet_op (by rw [hty]; first | rfl | (refine st_ ?_; rfl))) ?_; refine st_ ?_
      refine h_one 2 rfl (by kernel_rfl) ?_
      refine rn_ ?_; intros
      refine h_hs (allIn (by repeat (first | exact trivial | refine ⟨rfl, ?_⟩))) (by first | exact Le.refl _ | assumption) ?_
      refine h_one 3 rfl (by kernel_rfl) ?_
      refine rn_ ?_; intros
      refine h_hs (allIn (by repeat (first | exact trivial | refine ⟨rfl, ?_⟩))) (by first | exact Le.refl _ | assumption) ?_
      refine h_one 4 rfl (by kernel_rfl) ?_
      refine rn_ ?_; intros
      refine h_hs (allIn (by repeat (first | exact trivial | refine ⟨rfl, ?_⟩))) (by first | exact Le.refl _ | assumption) ?_
      refine h_end (by kernel_rfl) ?_
      refine rn_ ?_; intros
      refine x_retc rfl hQ hmb rfl (by rw [hty]; simp only [so, sq, zy, zz, tyE, SO', SQ', opQ, opStore, opAlloc, ev, putS, dOk, cv, SV.cs, SV.one, SV.bool?, eqB, Value.oneCell', ldOwn, binInt, binConst, binBool, binStr, isC, TK.agg, rv, rv1, ldV, resOne, resV, Nat.reduceAdd, Nat.reduceMul, Nat.reduceSub, Nat.reduceLT, Nat.reduceLeDiff, Nat.reduceEqDiff, Nat.reduceBEq, reduceIte, reduceCtorEq, eq_self]; try rfl) rfl ?_; simp only [SV.den, resV, dens]
      rw [hcs0]
      exact ⟨_, _, _, rfl, ⟨Rp.S_mono hle6 hs.v, hS6⟩, VT.rep_mono hle6 hrv, hbv, hc⟩
    · have e : castP s ⟨th, 2, arg, res, fr, to, dn⟩ = (s, noneV, false) := by rw [hcs0, if_pos (by simp at hlt; omega)]
      refine rn_ ?_; intros
      refine x_held [(0, b0, .c 44 [.v (.slice ad1 s.vals.length cap1), .v (.slice (some ⟨c1, o1, none⟩) s.ps.length cap2)]), (5, b5, .c 28 [.v (.int .i64 0), .v (.int .i64 0), .v (.slice none 0 0)])] rfl (by rw [hP]; kernel_rfl) rfl rfl rfl ?_; refine st_ ?_
      refine h_take 0 rfl (by kernel_rfl) (by kernel_rfl) (by kernel_rfl) hQp (by rw [hnt]; rfl) (allIn (by repeat (first | exact trivial | refine ⟨rfl, ?_⟩))) (by first | exact Le.refl _ | assumption) (quiet_op (by rw [hty]; first | rfl | (refine st_ ?_; rfl))) ?_; refine st_ ?_
      refine h_take 1 rfl (by kernel_rfl) (by kernel_rfl) (by kernel_rfl) hQp (by rw [hnt]; rfl) (allIn (by repeat (first | exact trivial | refine ⟨rfl, ?_⟩))) (by first | exact Le.refl _ | assumption) (quiet_op (by rw [hty]; first | rfl | (refine st_ ?_; rfl))) ?_; refine st_ ?_
      refine h_one 2 rfl (by kernel_rfl) ?_
      refine rn_ ?_; intros
      refine h_hs (allIn (by repeat (first | exact trivial | refine ⟨rfl, ?_⟩))) (by first | exact Le.refl _ | assumption) ?_
      refine h_one 3 rfl (by kernel_rfl) ?_
      refine rn_ ?_; intros
      refine h_hs (allIn (by repeat (first | exact trivial | refine ⟨rfl, ?_⟩))) (by first | exact Le.refl _ | assumption) ?_
      refine h_one 4 rfl (by kernel_rfl) ?_
      refine rn_ ?_; intros
      refine h_hs (allIn (by repeat (first | exact trivial | refine ⟨rfl, ?_⟩))) (by first | exact Le.refl _ | assumption) ?_
      refine h_end (by kernel_rfl) ?_
      refine rn_ ?_; intros
      refine x_retc rfl hQ hmb rfl (by rw [hty]; simp only [so, sq, zy, zz, tyE, SO', SQ', opQ, opStore, opAlloc, ev, putS, dOk, cv, SV.cs, SV.one, SV.bool?, eqB, Value.oneCell', ldOwn, binInt, binConst, binBool, binStr, isC, TK.agg, rv, rv1, ldV, resOne, resV, Nat.reduceAdd, Nat.reduceMul, Nat.reduceSub, Nat.reduceLT, Nat.reduceLeDiff, Nat.reduceEqDiff, Nat.reduceBEq, reduceIte, reduceCtorEq, eq_self]; try rfl) rfl ?_; simp only [SV.den, resV, dens]
      rw [e]
      exact ⟨_, _, _, rfl, hs, rep_leaf _ 0 0 (by simp [isI64]) (by simp [isI64]), by simp [noneV, tsz, tszL], hc⟩
end Go.Proofs.Ytpmmbjcgabnloaa
namespace Go.Proofs.Ytpmmbjcgabnloaa
set_option linter.unusedSimpArgs false
set_option linter.unusedVariables false
open Go.Sx
set_option maxHeartbeats 8000000
set_option maxRecDepth 20000
theorem rgt_cases {m : Int} {o : Op} (h : rgtO (kns m) o = true) : (m = 1 ∧ (o.kd = 0 ∨ o.kd = 1)) ∨ (m = 2 ∧ (o.kd = 0 ∨ o.kd = 1)) ∨ (m = 3 ∧ (o.kd = 0 ∨ o.kd = 1)) ∨ (m = 4 ∧ (o.kd = 0 ∨ o.kd = 1 ∨ o.kd = 2)) := by
  simp only [rgtO, Bool.and_eq_true, decide_eq_true_eq] at h
  obtain ⟨⟨⟨⟨⟨_, h1⟩, h2⟩, _⟩, _⟩, _⟩ := h
  rw [kns] at h2
  by_cases h3 : m = 1 ∨ m = 2 ∨ m = 3
  · rw [if_pos h3] at h2
    omega
  · rw [if_neg h3] at h2
    by_cases h4 : m = 4
    · rw [if_pos h4] at h2; omega
    · rw [if_neg h4] at h2; omega
theorem rgt_res {K : Int} {o : Op} (h : rgtO K o = true) : if o.dn then vld o.res = true else zer o.res = true := by
  simp only [rgtO, Bool.and_eq_true] at h
  have := h.2
  split at this
  · rename_i hd; rw [if_pos hd]; simp only [Bool.and_eq_true] at this; exact this.1
  · rename_i hd; rw [if_neg hd]; simp only [Bool.and_eq_true] at this; exact this.1
theorem rdoes_ok (m : Int) (s : MS) (o : Op) (sv sp sa sr : Value) (G : Hp) (hs : s.rep G sv sp) (ho : o.rep G sa sr) (hl : s.vals.length ≤ 100000) (hlp : s.ps.length ≤ 100000) (hc : CapOk sv) (hwf : s.wf) (hr : rgtO (kns m) o = true) :
    Pure Try.prog 47 [.int .i64 m, .agg #[sv, sp], .agg (opL o sa sr).toArray] G (rdRet (doP m s o)) := by
  have hc1 := rgt_cases hr
  have hc2 := rgt_res hr
  obtain ⟨th, kd, arg, res, fr, to, dn⟩ := o
  simp only at hc1 hc2
  rcases hc1 with ⟨rfl, rfl | rfl⟩ | ⟨rfl, rfl | rfl⟩ | ⟨rfl, rfl | rfl⟩ | ⟨rfl, rfl | rfl | rfl⟩
  · exact does10_ok th arg res fr to dn s sv sp sa sr G hs ho hl hc
  · exact does11_ok th arg res fr to dn s sv sp sa sr G hs ho hl hc
  · exact does20_ok th arg res fr to dn s sv sp sa sr G hs ho hl hc
  · exact does21_ok th arg res fr to dn s sv sp sa sr G hs ho hl hc
  · exact does30_ok th arg res fr to dn s sv sp sa sr G hs ho hl hc
  · exact does31_ok th arg res fr to dn s sv sp sa sr G hs ho hl hc
  · exact does40_ok th arg res fr to dn s sv sp sa sr G hs ho hl hlp hc hc2
  · exact does41_ok th arg res fr to dn s sv sp sa sr G hs ho hl hc
  · exact does42_ok th arg res fr to dn s sv sp sa sr G hs ho hl hlp hc hwf
def rdoRet (r : MS × VT × Bool × Int) (v : Value) (G : Hp) : Prop := ∃ v1 v2 sl, v = .tuple #[.agg #[v1, v2], .agg #[.int .i64 r.2.1.k, .int .i64 r.2.1.n, sl], .bool r.2.2.1, .int .i64 r.2.2.2] ∧ r.1.rep G v1 v2 ∧ r.2.1.rep G sl ∧ tsz r.2.1 ≤ 1048576
theorem rDo_ok (m : Int) (s : MS) (o : Op) (sv sp sa sr : Value) (G : Hp) (hs : s.rep G sv sp) (ho : o.rep G sa sr) (hl : s.vals.length ≤ 100) (hlp : s.ps.length ≤ 100) (hc : CapOk sv) :
    Pure Try.prog 18 [.int .i64 m, .agg #[sv, sp], .agg (opL o sa sr).toArray] G (rdoRet (doR m s o)) := by
  obtain ⟨ada, capa, rfl⟩ := VT.rep_slice ho.a
  obtain ⟨adr, capr, rfl⟩ := VT.rep_slice ho.r
  obtain ⟨ad1, cap1, rfl⟩ := Rp.S_slice hs.v
  obtain ⟨ad2, cap2, rfl⟩ := Rp.S_slice hs.p
  refine enterX ty tyok Try.func18 rfl Try.ntmps18 [.v (.int .i64 m), .a [.v (.slice ad1 s.vals.length cap1), .v (.slice ad2 s.ps.length cap2)], .a (opC o (.slice ada o.arg.l.length capa) (.slice adr o.res.l.length capr))] (by simp) ?_
  simp only [opC]
  intro C hP hQ hnt hty hmb hmh hro; have hQp := qp_body hQ; refine st_ ?_
  refine rn_ ?_; intros
  refine go_callf (by rw [hnt]; rfl) (by rw [hP]; kernel_rfl) rfl (hP ▸ rright_ok2 m o _ _ G ho) ?_; refine rn_ ?_; intros
  have hno : (rgtO (kns m) o && stOk m s) = false → rdoRet (doR m s o) (.tuple #[.agg #[.slice none 0 0, .slice none 0 0], .agg #[.int .i64 0, .int .i64 0, .slice none 0 0], .bool false, .int .i64 2]) G := fun h => by
    rw [doR, h]
    exact ⟨_, _, _, rfl, ⟨Rp.S_nil _ _, Rp.S_nil _ _⟩, rep_leaf _ 0 0 (by simp [isI64]) (by simp [isI64]), by simp [noneV, tsz, tszL]⟩
  cases hv : rgtO (kns m) o
  · repeat (first | (refine go_gsplit rfl rfl (fun hc => absurd hc (by first | decide +kernel | (simp; first | done | fail))) (fun _ => ?_); refine st_ ?_; (refine rn_ ?_; intros)) | (refine go_gsplit rfl rfl (fun _ => ?_) (fun hc => absurd hc (by first | decide +kernel | (simp; first | done | fail))); refine st_ ?_; (refine rn_ ?_; intros)) | (refine x_split rfl rfl rfl (fun hc => absurd hc (by first | decide +kernel | (simp; first | done | fail))) (fun _ => ?_); refine st_ ?_; (refine ru_ ?_; intros)) | (refine x_split rfl rfl rfl (fun _ => ?_) (fun hc => absurd hc (by first | decide +kernel | (simp; first | done | fail))); refine st_ ?_; (refine ru_ ?_; intros)))
    repeat (refine go_gundef rfl (by rw [hnt]; rfl) rfl ?_; (refine st_ ?_; (refine rn_ ?_; intros)))
    repeat (first | (refine go_gsplit rfl rfl (fun hc => absurd hc (by first | decide +kernel | (simp; first | done | fail))) (fun _ => ?_); refine st_ ?_; (refine rn_ ?_; intros)) | (refine go_gsplit rfl rfl (fun _ => ?_) (fun hc => absurd hc (by first | decide +kernel | (simp; first | done | fail))); refine st_ ?_; (refine rn_ ?_; intros)) | (refine x_split rfl rfl rfl (fun hc => absurd hc (by first | decide +kernel | (simp; first | done | fail))) (fun _ => ?_); refine st_ ?_; (refine ru_ ?_; intros)) | (refine x_split rfl rfl rfl (fun _ => ?_) (fun hc => absurd hc (by first | decide +kernel | (simp; first | done | fail))); refine st_ ?_; (refine ru_ ?_; intros)))
    refine rn_ ?_; intros
    refine x_retc rfl hQ hmb rfl (by rw [hty]; simp only [so, sq, zy, zz, tyE, SO', SQ', opQ, opStore, opAlloc, ev, putS, dOk, cv, SV.cs, SV.one, SV.bool?, eqB, Value.oneCell', ldOwn, binInt, binConst, binBool, binStr, isC, TK.agg, rv, rv1, ldV, resOne, resV, Nat.reduceAdd, Nat.reduceMul, Nat.reduceSub, Nat.reduceLT, Nat.reduceLeDiff, Nat.reduceEqDiff, Nat.reduceBEq, reduceIte, reduceCtorEq, eq_self]; try rfl) rfl ?_; simp only [SV.den, resV, dens]
    exact hno (by rw [hv]; rfl)
  · have hk : decide (kns m ≠ 0) = true := by
      rw [decide_eq_true_eq]
      intro h0
      rw [kns0_rgt h0] at hv; cases hv
    repeat (first | (refine go_gsplit rfl rfl (fun hc => absurd hc (by first | decide +kernel | (simp; first | done | fail))) (fun _ => ?_); refine st_ ?_; (refine rn_ ?_; intros)) | (refine go_gsplit rfl rfl (fun _ => ?_) (fun hc => absurd hc (by first | decide +kernel | (simp; first | done | fail))); refine st_ ?_; (refine rn_ ?_; intros)) | (refine x_split rfl rfl rfl (fun hc => absurd hc (by first | decide +kernel | (simp; first | done | fail))) (fun _ => ?_); refine st_ ?_; (refine ru_ ?_; intros)) | (refine x_split rfl rfl rfl (fun _ => ?_) (fun hc => absurd hc (by first | decide +kernel | (simp; first | done | fail))); refine st_ ?_; (refine ru_ ?_; intros)))
    refine go_callf (by rw [hnt]; rfl) (by rw [hP]; kernel_rfl) rfl (hP ▸ rstate_ok s _ _ m G hs) ?_; refine rn_ ?_; intros
    rw [hk, Bool.true_and]
    cases hst : stOk m s
    · repeat (first | (refine go_gsplit rfl rfl (fun hc => absurd hc (by first | decide +kernel | (simp; first | done | fail))) (fun _ => ?_); refine st_ ?_; (refine rn_ ?_; intros)) | (refine go_gsplit rfl rfl (fun _ => ?_) (fun hc => absurd hc (by first | decide +kernel | (simp; first | done | fail))); refine st_ ?_; (refine rn_ ?_; intros)) | (refine x_split rfl rfl rfl (fun hc => absurd hc (by first | decide +kernel | (simp; first | done | fail))) (fun _ => ?_); refine st_ ?_; (refine ru_ ?_; intros)) | (refine x_split rfl rfl rfl (fun _ => ?_) (fun hc => absurd hc (by first | decide +kernel | (simp; first | done | fail))); refine st_ ?_; (refine ru_ ?_; intros)))
      refine rn_ ?_; intros
      refine x_retc rfl hQ hmb rfl (by rw [hty]; simp only [so, sq, zy, zz, tyE, SO', SQ', opQ, opStore, opAlloc, ev, putS, dOk, cv, SV.cs, SV.one, SV.bool?, eqB, Value.oneCell', ldOwn, binInt, binConst, binBool, binStr, isC, TK.agg, rv, rv1, ldV, resOne, resV, Nat.reduceAdd, Nat.reduceMul, Nat.reduceSub, Nat.reduceLT, Nat.reduceLeDiff, Nat.reduceEqDiff, Nat.reduceBEq, reduceIte, reduceCtorEq, eq_self]; try rfl) rfl ?_; simp only [SV.den, resV, dens]
      exact hno (by rw [hst, Bool.and_false])
    · repeat (first | (refine go_gsplit rfl rfl (fun hc => absurd hc (by first | decide +kernel | (simp; first | done | fail))) (fun _ => ?_); refine st_ ?_; (refine rn_ ?_; intros)) | (refine go_gsplit rfl rfl (fun _ => ?_) (fun hc => absurd hc (by first | decide +kernel | (simp; first | done | fail))); refine st_ ?_; (refine rn_ ?_; intros)) | (refine x_split rfl rfl rfl (fun hc => absurd hc (by first | decide +kernel | (simp; first | done | fail))) (fun _ => ?_); refine st_ ?_; (refine ru_ ?_; intros)) | (refine x_split rfl rfl rfl (fun _ => ?_) (fun hc => absurd hc (by first | decide +kernel | (simp; first | done | fail))); refine st_ ?_; (refine ru_ ?_; intros)))
      obtain ⟨⟨hvv, hvp⟩, hwf⟩ := stOk_vd hst
      refine go_call (by rw [hnt]; rfl) (by rw [hP]; kernel_rfl) rfl (hP ▸ rdoes_ok m s o _ _ _ _ G hs ho (by omega) (by omega) hc hwf hv) ?_
      rintro v G1 (hle1 : Le G G1) ⟨v1, v2, sl, rfl, hs1, hr1, hb1, hc1⟩
      obtain ⟨a1, c1, e1⟩ := Rp.S_slice hs1.v
      subst e1
      obtain ⟨a2, c2, e2⟩ := Rp.S_slice hs1.p
      subst e2
      obtain ⟨a3, c3, rfl⟩ := VT.rep_slice hr1
      refine rn_ ?_; intros
      have hdR : doR m s o = ((doP m s o).1, (doP m s o).2.1, (doP m s o).2.2, 0) := by rw [doR, hv, hst]; rfl
      rw [hdR] at hQ
      generalize doP m s o = r at *
      rename_i b0 b1 b2 b3 b4 b5
      refine go_keep [6, 7, 8, 9, 10, 11, 12] [2, 3, 4, 5] ?_
      refine st_ ?_
      refine x_held [(4, b4, .c 44 [.v (.slice a1 r.1.vals.length c1), .v (.slice a2 r.1.ps.length c2)]), (5, b5, .c 28 [.v (.int .i64 r.2.1.k), .v (.int .i64 r.2.1.n), .v (.slice a3 r.2.1.l.length c3)])] rfl (by rw [hP]; kernel_rfl) rfl rfl rfl ?_; refine st_ ?_
      refine h_take 0 rfl (by kernel_rfl) (by kernel_rfl) (by kernel_rfl) hQp (by rw [hnt]; rfl) (allIn (by repeat (first | exact trivial | refine ⟨rfl, ?_⟩))) (by first | exact Le.refl _ | assumption) (quiet_op (by rw [hty]; first | rfl | (refine st_ ?_; rfl))) ?_; refine st_ ?_
      refine h_take 1 rfl (by kernel_rfl) (by kernel_rfl) (by kernel_rfl) hQp (by rw [hnt]; rfl) (allIn (by repeat (first | exact trivial | refine ⟨rfl, ?_⟩))) (by first | exact Le.refl _ | assumption) (quiet_op (by rw [hty]; first | rfl | (refine st_ ?_; rfl))) ?_; refine st_ ?_
      refine h_take 2 rfl (by kernel_rfl) (by kernel_rfl) (by kernel_rfl) hQp (by rw [hnt]; rfl) (allIn (by repeat (first | exact trivial | refine ⟨rfl, ?_⟩))) (by first | exact Le.refl _ | assumption) (quiet_op (by rw [hty]; first | rfl | (refine st_ ?_; rfl))) ?_; refine st_ ?_
      refine h_one 3 rfl (by kernel_rfl) ?_
      refine rn_ ?_; intros
      refine h_hs (allIn (by repeat (first | exact trivial | refine ⟨rfl, ?_⟩))) (by first | exact Le.refl _ | assumption) ?_
      refine h_one 4 rfl (by kernel_rfl) ?_
      refine rn_ ?_; intros
      refine h_hs (allIn (by repeat (first | exact trivial | refine ⟨rfl, ?_⟩))) (by first | exact Le.refl _ | assumption) ?_
      refine h_one 5 rfl (by kernel_rfl) ?_
      refine rn_ ?_; intros
      refine h_hs (allIn (by repeat (first | exact trivial | refine ⟨rfl, ?_⟩))) (by first | exact Le.refl _ | assumption) ?_
      refine h_one 6 rfl (by kernel_rfl) ?_
      refine rn_ ?_; intros
      refine h_hs (allIn (by repeat (first | exact trivial | refine ⟨rfl, ?_⟩))) (by first | exact Le.refl _ | assumption) ?_
      refine h_end (by kernel_rfl) ?_
      refine rn_ ?_; intros
      refine x_retc rfl hQ hmb rfl (by rw [hty]; simp only [so, sq, zy, zz, tyE, SO', SQ', opQ, opStore, opAlloc, ev, putS, dOk, cv, SV.cs, SV.one, SV.bool?, eqB, Value.oneCell', ldOwn, binInt, binConst, binBool, binStr, isC, TK.agg, rv, rv1, ldV, resOne, resV, Nat.reduceAdd, Nat.reduceMul, Nat.reduceSub, Nat.reduceLT, Nat.reduceLeDiff, Nat.reduceEqDiff, Nat.reduceBEq, reduceIte, reduceCtorEq, eq_self]; try rfl) rfl ?_; simp only [SV.den, resV, dens]
      exact ⟨_, _, _, rfl, hs1, hr1, hb1⟩
end Go.Proofs.Ytpmmbjcgabnloaa
namespace Go.Proofs.Ytpmmbjcgabnloaa
set_option linter.unusedSimpArgs false
set_option linter.unusedVariables false
open Go.Sx
set_option maxHeartbeats 8000000
set_option maxRecDepth 20000
structure Mk where
  st : Int
  th : Int
  v : VT
def rMk : Rp Mk where
  size := 5
  e G x cs := ∃ sl, cs = [.int .i64 x.st, .int .i64 x.th, .int .i64 x.v.k, .int .i64 x.v.n, sl] ∧ x.v.rep G sl ∧ tsz x.v ≤ 1048576 ∧ isI64 x.st ∧ isI64 x.th
  mono hl h := by obtain ⟨sl, h1, h2, h3⟩ := h; exact ⟨sl, h1, VT.rep_mono hl h2, h3⟩
  len h := by obtain ⟨sl, rfl, _⟩ := h; rfl
  one h u hu := by
    obtain ⟨sl, rfl, h2, _⟩ := h
    obtain ⟨_, _, rfl⟩ := VT.rep_slice h2
    simp at hu
    rcases hu with rfl | rfl | rfl | rfl | rfl <;> rfl
theorem rMk_at {G : Hp} {l : List Mk} {ad : Option Addr} {n cap : Nat} (h : rMk.S G l (.slice ad n cap)) {i : Nat} (hi : i < l.length) : ∃ b off sl, ad = some ⟨b, off, none⟩ ∧ At G b (off + i * 5) [.int .i64 l[i].st, .int .i64 l[i].th, .int .i64 l[i].v.k, .int .i64 l[i].v.n, sl] ∧ l[i].v.rep G sl ∧ tsz l[i].v ≤ 1048576 ∧ isI64 l[i].st ∧ isI64 l[i].th := by
  obtain ⟨b, off, cap', c, hv, hat, sl, rfl, h1, h2⟩ := Rp.S_get h hi
  cases hv
  exact ⟨b, off, sl, rfl, by simpa [rMk] using hat, h1, h2⟩
theorem kEq (k n : Int) (l : List VT) : (VT.mk k n l).k = k := rfl
theorem nEq (k n : Int) (l : List VT) : (VT.mk k n l).n = n := rfl
theorem lEq (k n : Int) (l : List VT) : (VT.mk k n l).l = l := rfl
def sdP (v : VT) : Option (Int × VT) := match v.l with
  | [a, b] => if v.k = 3 ∧ vld v = true ∧ a.k = 2 ∧ 0 ≤ a.n then some (a.n, b) else none
  | _ => none
theorem sd_no {v : VT} (h : v.k = 3 → vld v = true → False) : sdP v = none := by
  rw [sdP]
  split
  · rw [if_neg]; rintro ⟨h1, h2, _⟩; exact h h1 h2
  · rfl
theorem sd_pair {v : VT} (hk : v.k = 3) (hv : vld v = true) : ∃ a b, v.l = [a, b] ∧ sdP v = if a.k = 2 ∧ 0 ≤ a.n then some (a.n, b) else none := by
  have h2 := vld_pair hv (by rw [hk]; rfl)
  obtain ⟨a, b, hl⟩ : ∃ a b, v.l = [a, b] := by
    rcases hl : v.l with _ | ⟨a, _ | ⟨b, _ | _⟩⟩ <;> rw [hl] at h2 <;> simp at h2
    exact ⟨a, b, rfl⟩
  refine ⟨a, b, hl, ?_⟩
  rw [sdP, hl]
  simp only
  by_cases h : a.k = 2 ∧ 0 ≤ a.n
  · rw [if_pos h, if_pos ⟨hk, hv, h⟩]
  · rw [if_neg h, if_neg]; rintro ⟨_, _, h'⟩; exact h h'
def dntOp (x : Mk) (n : Int) (y : VT) : Op := if n % 2 = 1 then ⟨x.th, n / 2, noneV, y, 0, x.st, true⟩ else ⟨x.th, n / 2, y, noneV, x.st, 0, false⟩
def dnRet (x : Mk) (v : Value) (G : Hp) : Prop := match sdP x.v with
  | none => v = .tuple #[.agg #[.int .i64 0, .int .i64 0, .int .i64 0, .int .i64 0, .slice none 0 0, .int .i64 0, .int .i64 0, .slice none 0 0, .int .i64 0, .int .i64 0, .bool false, .bool false], .bool false]
  | some (n, y) => ∃ sa sr, v = .tuple #[.agg (opL (dntOp x n y) sa sr ++ [Value.bool (n % 2 == 1)]).toArray, .bool true] ∧ (dntOp x n y).rep G sa sr
theorem tmod_nn {n : Int} (h : 0 ≤ n) : n.tmod 2 = n % 2 := by rw [Int.tmod_eq_emod_of_nonneg h]
theorem tdiv_nn {n : Int} (h : 0 ≤ n) : n.tdiv 2 = n / 2 := by rw [Int.tdiv_eq_ediv_of_nonneg h]
theorem quo2 {n : Int} (h : 0 ≤ n) (h2 : n ≤ 9223372036854775807) : binConst .quo .i64 .i64 n 2 = some (.int .i64 (n / 2)) := by
  simp only [binConst]
  rw [if_pos trivial, if_neg (by decide), tdiv_nn h, wr (by omega) (by omega)]
theorem denoted_ok (x : Mk) (sl : Value) (G : Hp) (hx : x.v.rep G sl) (hb : tsz x.v ≤ 1048576) (hst : isI64 x.st) (hth : isI64 x.th) :
    Pure Try.prog 37 [.agg #[.int .i64 x.st, .int .i64 x.th, .int .i64 x.v.k, .int .i64 x.v.n, sl]] G (dnRet x) := by
  obtain ⟨st, th, v⟩ := x
  simp only at hx hb hst hth
  obtain ⟨ad, cap, rfl⟩ := VT.rep_slice hx
  refine enterX ty tyok Try.func37 rfl Try.ntmps37 [.a [.v (.int .i64 st), .v (.int .i64 th), .v (.int .i64 v.k), .v (.int .i64 v.n), .v (.slice ad v.l.length cap)]] (by simp) ?_
  intro C hP hQ hnt hty hmb hmh hro; have hQp := qp_body hQ; refine st_ ?_
  refine rn_ ?_; intros
  rename_i b0 b1
  have hnone : sdP v = none → dnRet ⟨st, th, v⟩ (.tuple #[.agg #[.int .i64 0, .int .i64 0, .int .i64 0, .int .i64 0, .slice none 0 0, .int .i64 0, .int .i64 0, .slice none 0 0, .int .i64 0, .int .i64 0, .bool false, .bool false], .bool false]) G := fun h => by
    rw [dnRet]
    simp only [h]
  by_cases hk : v.k = 3
  rotate_left
  · have h1 : (v.k != 3) = true := by rw [bne_iff_ne]; exact hk
    simp only [h1]
    repeat (first | (refine go_gsplit rfl rfl (fun hc => absurd hc (by first | decide +kernel | (simp; first | done | fail))) (fun _ => ?_); refine st_ ?_; (refine rn_ ?_; intros)) | (refine go_gsplit rfl rfl (fun _ => ?_) (fun hc => absurd hc (by first | decide +kernel | (simp; first | done | fail))); refine st_ ?_; (refine rn_ ?_; intros)) | (refine x_split rfl rfl rfl (fun hc => absurd hc (by first | decide +kernel | (simp; first | done | fail))) (fun _ => ?_); refine st_ ?_; (refine ru_ ?_; intros)) | (refine x_split rfl rfl rfl (fun _ => ?_) (fun hc => absurd hc (by first | decide +kernel | (simp; first | done | fail))); refine st_ ?_; (refine ru_ ?_; intros)))
    repeat (refine go_gundef rfl (by rw [hnt]; rfl) rfl ?_; (refine st_ ?_; (refine rn_ ?_; intros)))
    refine rn_ ?_; intros
    refine x_retc rfl hQ hmb rfl (by rw [hty]; simp only [so, sq, zy, zz, tyE, SO', SQ', opQ, opStore, opAlloc, ev, putS, dOk, cv, SV.cs, SV.one, SV.bool?, eqB, Value.oneCell', ldOwn, binInt, binConst, binBool, binStr, isC, TK.agg, rv, rv1, ldV, resOne, resV, Nat.reduceAdd, Nat.reduceMul, Nat.reduceSub, Nat.reduceLT, Nat.reduceLeDiff, Nat.reduceEqDiff, Nat.reduceBEq, reduceIte, reduceCtorEq, eq_self]; try rfl) rfl ?_; simp only [SV.den, resV, dens]
    exact hnone (sd_no fun h _ => hk h)
  have h1 : (v.k != 3) = false := by rw [bne_eq_false_iff_eq]; exact hk
  simp only [h1]
  repeat (first | (refine go_gsplit rfl rfl (fun hc => absurd hc (by first | decide +kernel | (simp; first | done | fail))) (fun _ => ?_); refine st_ ?_; (refine rn_ ?_; intros)) | (refine go_gsplit rfl rfl (fun _ => ?_) (fun hc => absurd hc (by first | decide +kernel | (simp; first | done | fail))); refine st_ ?_; (refine rn_ ?_; intros)) | (refine x_split rfl rfl rfl (fun hc => absurd hc (by first | decide +kernel | (simp; first | done | fail))) (fun _ => ?_); refine st_ ?_; (refine ru_ ?_; intros)) | (refine x_split rfl rfl rfl (fun _ => ?_) (fun hc => absurd hc (by first | decide +kernel | (simp; first | done | fail))); refine st_ ?_; (refine ru_ ?_; intros)))
  refine go_callf (by rw [hnt]; rfl) (by rw [hP]; kernel_rfl) rfl (hP ▸ check_ok v _ G hx) ?_; refine rn_ ?_; intros
  rw [chk_ne0]
  cases hv : vld v
  · (refine x_split rfl rfl rfl (fun _ => ?_) (fun hc => absurd hc (by first | decide +kernel | (simp; first | done | fail))); refine st_ ?_; (refine ru_ ?_; intros))
    refine rn_ ?_; intros
    refine x_retc rfl hQ hmb rfl (by rw [hty]; simp only [so, sq, zy, zz, tyE, SO', SQ', opQ, opStore, opAlloc, ev, putS, dOk, cv, SV.cs, SV.one, SV.bool?, eqB, Value.oneCell', ldOwn, binInt, binConst, binBool, binStr, isC, TK.agg, rv, rv1, ldV, resOne, resV, Nat.reduceAdd, Nat.reduceMul, Nat.reduceSub, Nat.reduceLT, Nat.reduceLeDiff, Nat.reduceEqDiff, Nat.reduceBEq, reduceIte, reduceCtorEq, eq_self]; try rfl) rfl ?_; simp only [SV.den, resV, dens]
    exact hnone (sd_no fun _ h => by rw [hv] at h; cases h)
  (refine x_split rfl rfl rfl (fun hc => absurd hc (by first | decide +kernel | (simp; first | done | fail))) (fun _ => ?_); refine st_ ?_; (refine ru_ ?_; intros))
  refine rn_ ?_; intros
  obtain ⟨a, y, hl, hsd⟩ := sd_pair hk hv
  obtain ⟨k, n, l⟩ := v
  simp only [kEq, nEq, lEq] at *
  subst hl
  have hxr := hx
  rw [rep_iff] at hx
  obtain ⟨_, _, _, ad', cap', hc, hr⟩ := hx
  cases hc
  rcases hr with hr | ⟨b, off, cs, rfl, hat, hrV⟩
  · cases hr
  obtain ⟨ada, capa, hata, hra⟩ := At_get hat hrV (i := 0) (by simp)
  obtain ⟨ady, capy, haty, hry⟩ := At_get hat hrV (i := 1) (by simp)
  simp only [List.getElem_cons_zero, List.getElem_cons_succ, Nat.zero_mul, Nat.one_mul, Nat.add_zero] at hata hra haty hry
  have hby : tsz y ≤ 1048576 := by simp only [tsz, tszL] at hb; omega
  simp only [List.length_cons, List.length_nil, Nat.zero_add, Nat.reduceAdd]
  refine go_q (by rw [hnt]; rfl) (quiet_index (by rw [hty]; rfl) (by rw [hty]; rfl) rfl rfl rfl (by omega) (by omega)) ?_
  refine rn_ ?_; intros
  refine go_q (v := .agg #[.int .i64 a.k, .int .i64 a.n, .slice ada a.l.length capa]) (by rw [hnt]; rfl) ((quiet_load (by rw [hty]; rfl) rfl (fun q => by cases q) (by simpa using hata) rfl).cast (by simp only [ldV]; rfl)) ?_
  refine rn_ ?_; intros
  rename_i b2
  by_cases hak : a.k = 2
  rotate_left
  · have h1 : (a.k != 2) = true := by rw [bne_iff_ne]; exact hak
    simp only [h1]
    repeat (first | (refine go_gsplit rfl rfl (fun hc => absurd hc (by first | decide +kernel | (simp; first | done | fail))) (fun _ => ?_); refine st_ ?_; (refine rn_ ?_; intros)) | (refine go_gsplit rfl rfl (fun _ => ?_) (fun hc => absurd hc (by first | decide +kernel | (simp; first | done | fail))); refine st_ ?_; (refine rn_ ?_; intros)) | (refine x_split rfl rfl rfl (fun hc => absurd hc (by first | decide +kernel | (simp; first | done | fail))) (fun _ => ?_); refine st_ ?_; (refine ru_ ?_; intros)) | (refine x_split rfl rfl rfl (fun _ => ?_) (fun hc => absurd hc (by first | decide +kernel | (simp; first | done | fail))); refine st_ ?_; (refine ru_ ?_; intros)))
    repeat (refine go_gundef rfl (by rw [hnt]; rfl) rfl ?_; (refine st_ ?_; (refine rn_ ?_; intros)))
    refine rn_ ?_; intros
    refine x_retc rfl hQ hmb rfl (by rw [hty]; simp only [so, sq, zy, zz, tyE, SO', SQ', opQ, opStore, opAlloc, ev, putS, dOk, cv, SV.cs, SV.one, SV.bool?, eqB, Value.oneCell', ldOwn, binInt, binConst, binBool, binStr, isC, TK.agg, rv, rv1, ldV, resOne, resV, Nat.reduceAdd, Nat.reduceMul, Nat.reduceSub, Nat.reduceLT, Nat.reduceLeDiff, Nat.reduceEqDiff, Nat.reduceBEq, reduceIte, reduceCtorEq, eq_self]; try rfl) rfl ?_; simp only [SV.den, resV, dens]
    exact hnone (by rw [hsd, if_neg (fun h => hak h.1)])
  have h1 : (a.k != 2) = false := by rw [bne_eq_false_iff_eq]; exact hak
  simp only [h1]
  repeat (first | (refine go_gsplit rfl rfl (fun hc => absurd hc (by first | decide +kernel | (simp; first | done | fail))) (fun _ => ?_); refine st_ ?_; (refine rn_ ?_; intros)) | (refine go_gsplit rfl rfl (fun _ => ?_) (fun hc => absurd hc (by first | decide +kernel | (simp; first | done | fail))); refine st_ ?_; (refine rn_ ?_; intros)) | (refine x_split rfl rfl rfl (fun hc => absurd hc (by first | decide +kernel | (simp; first | done | fail))) (fun _ => ?_); refine st_ ?_; (refine ru_ ?_; intros)) | (refine x_split rfl rfl rfl (fun _ => ?_) (fun hc => absurd hc (by first | decide +kernel | (simp; first | done | fail))); refine st_ ?_; (refine ru_ ?_; intros)))
  by_cases han : 0 ≤ a.n
  rotate_left
  · (refine x_split rfl rfl rfl (fun _ => ?_) (fun hc => absurd hc (by simp; omega)); refine st_ ?_; (refine ru_ ?_; intros))
    refine rn_ ?_; intros
    refine x_retc rfl hQ hmb rfl (by rw [hty]; simp only [so, sq, zy, zz, tyE, SO', SQ', opQ, opStore, opAlloc, ev, putS, dOk, cv, SV.cs, SV.one, SV.bool?, eqB, Value.oneCell', ldOwn, binInt, binConst, binBool, binStr, isC, TK.agg, rv, rv1, ldV, resOne, resV, Nat.reduceAdd, Nat.reduceMul, Nat.reduceSub, Nat.reduceLT, Nat.reduceLeDiff, Nat.reduceEqDiff, Nat.reduceBEq, reduceIte, reduceCtorEq, eq_self]; try rfl) rfl ?_; simp only [SV.den, resV, dens]
    exact hnone (by rw [hsd, if_neg (fun h => han h.2)])
  (refine x_split rfl rfl rfl (fun hc => absurd hc (by simpa using han)) (fun _ => ?_); simp only [so, sq, zy, zz, tyE, SO', SQ', opQ, opStore, opAlloc, ev, putS, dOk, cv, SV.cs, SV.one, SV.bool?, eqB, Value.oneCell', ldOwn, binInt, binConst, binBool, binStr, isC, TK.agg, rv, rv1, ldV, resOne, resV, Nat.reduceAdd, Nat.reduceMul, Nat.reduceSub, Nat.reduceLT, Nat.reduceLeDiff, Nat.reduceEqDiff, Nat.reduceBEq, Int.reduceEq, reduceIte, reduceCtorEq, eq_self]; (repeat (first | refine x_seq rfl ?_ | refine go_ops ?_ | refine go_blk ?_ | refine x_skip rfl ?_ | refine x_blk rfl rfl ?_ | refine x_exit rfl rfl rfl ?_ | refine x_ift rfl rfl rfl ?_ | refine x_iff rfl rfl rfl ?_ | refine x_label rfl ?_ | ((first | refine x_reg rfl rfl ?_ | (refine go_newx hty hnt hmh rfl rfl ?_; intro _)); refine runo0 400 hty hnt hmh ?_; simp only [so, sq, zy, zz, tyE, SO', SQ', opQ, opStore, opAlloc, ev, putS, dOk, cv, SV.cs, SV.one, SV.bool?, eqB, Value.oneCell', ldOwn, binInt, binConst, binBool, binStr, isC, TK.agg, rv, rv1, ldV, resOne, resV, Nat.reduceAdd, Nat.reduceMul, Nat.reduceSub, Nat.reduceLT, Nat.reduceLeDiff, Nat.reduceEqDiff, Nat.reduceBEq, Int.reduceEq, reduceIte, reduceCtorEq, eq_self]))))
  rename_i b3
  rw [if_pos ⟨hak, han⟩] at hsd
  have hQ2 : dnRet ⟨st, th, .mk k n [a, y]⟩ = fun v G => ∃ sa sr, v = .tuple #[.agg (opL (dntOp ⟨st, th, .mk k n [a, y]⟩ a.n y) sa sr ++ [Value.bool (a.n % 2 == 1)]).toArray, .bool true] ∧ (dntOp ⟨st, th, .mk k n [a, y]⟩ a.n y).rep G sa sr := by
    funext v G
    rw [dnRet]
    simp only [hsd]
  rw [hQ2] at hQ
  clear hQ2 hnone
  have h64 : isI64 a.n := (VT.rep_k hra).2
  simp only [isI64] at h64 hst hth
  simp only [tmod_nn han]
  refine go_keep [1, 2, 4, 5] [0, 1, 2, 3] ?_
  refine st_ ?_
  refine rn_ ?_; intros
  refine x_held [(0, b0, .c 30 [.v (.int .i64 st), .v (.int .i64 th), .v (.int .i64 k), .v (.int .i64 n), .v (.slice (some ⟨b, off, none⟩) 2 cap)]), (2, b2, .c 28 [.v (.int .i64 a.k), .v (.int .i64 a.n), .v (.slice ada a.l.length capa)])] rfl (by rw [hP]; kernel_rfl) rfl rfl rfl ?_; refine st_ ?_
  refine h_take 0 rfl (by kernel_rfl) (by kernel_rfl) (by kernel_rfl) hQp (by rw [hnt]; rfl) (allIn (by repeat (first | exact trivial | refine ⟨rfl, ?_⟩))) (by first | exact Le.refl _ | assumption) (quiet_op (by rw [hty]; first | rfl | (refine st_ ?_; rfl))) ?_; refine st_ ?_
  refine h_take 1 rfl (by kernel_rfl) (by kernel_rfl) (by kernel_rfl) hQp (by rw [hnt]; rfl) (allIn (by repeat (first | exact trivial | refine ⟨rfl, ?_⟩))) (by first | exact Le.refl _ | assumption) (quiet_op (by rw [hty]; first | rfl | (refine st_ ?_; rfl))) ?_; refine st_ ?_
  refine h_take 2 rfl (by kernel_rfl) (by kernel_rfl) (by kernel_rfl) hQp (by rw [hnt]; rfl) (allIn (by repeat (first | exact trivial | refine ⟨rfl, ?_⟩))) (by first | exact Le.refl _ | assumption) (quiet_op (by rw [hty]; first | rfl | (refine st_ ?_; rfl))) ?_; refine st_ ?_
  refine h_take 3 rfl (by kernel_rfl) (by kernel_rfl) (by kernel_rfl) hQp (by rw [hnt]; rfl) (allIn (by repeat (first | exact trivial | refine ⟨rfl, ?_⟩))) (by first | exact Le.refl _ | assumption) (quiet_op (by rw [hty]; first | rfl | (refine st_ ?_; rfl))) ?_; refine st_ ?_
  refine h_take 4 rfl (by kernel_rfl) (by kernel_rfl) (by kernel_rfl) hQp (by rw [hnt]; rfl) (allIn (by repeat (first | exact trivial | refine ⟨rfl, ?_⟩))) (by first | exact Le.refl _ | assumption) (x := .v (.int .i64 (a.n / 2))) ((quiet_bin rfl rfl rfl rfl (quo2 han (by omega))).cast rfl) ?_
  refine st_ ?_
  refine h_take 5 rfl (by kernel_rfl) (by kernel_rfl) (by kernel_rfl) hQp (by rw [hnt]; rfl) (allIn (by repeat (first | exact trivial | refine ⟨rfl, ?_⟩))) (by first | exact Le.refl _ | assumption) (quiet_op (by rw [hty]; first | rfl | (refine st_ ?_; rfl))) ?_; refine st_ ?_
  refine h_take 6 rfl (by kernel_rfl) (by kernel_rfl) (by kernel_rfl) hQp (by rw [hnt]; rfl) (allIn (by repeat (first | exact trivial | refine ⟨rfl, ?_⟩))) (by first | exact Le.refl _ | assumption) (quiet_op (by rw [hty]; first | rfl | (refine st_ ?_; rfl))) ?_; refine st_ ?_
  refine h_one 7 rfl (by kernel_rfl) ?_
  refine rn_ ?_; intros
  refine h_hs (allIn (by repeat (first | exact trivial | refine ⟨rfl, ?_⟩))) (by first | exact Le.refl _ | assumption) ?_
  refine h_take 8 rfl (by kernel_rfl) (by kernel_rfl) (by kernel_rfl) hQp (by rw [hnt]; rfl) (allIn (by repeat (first | exact trivial | refine ⟨rfl, ?_⟩))) (by first | exact Le.refl _ | assumption) (quiet_op (by rw [hty]; first | rfl | (refine st_ ?_; rfl))) ?_; refine st_ ?_
  refine h_take 9 rfl (by kernel_rfl) (by kernel_rfl) (by kernel_rfl) hQp (by rw [hnt]; rfl) (allIn (by repeat (first | exact trivial | refine ⟨rfl, ?_⟩))) (by first | exact Le.refl _ | assumption) (quiet_op (by rw [hty]; first | rfl | (refine st_ ?_; rfl))) ?_; refine st_ ?_
  refine h_one 10 rfl (by kernel_rfl) ?_
  refine rn_ ?_; intros
  refine h_hs (allIn (by repeat (first | exact trivial | refine ⟨rfl, ?_⟩))) (by first | exact Le.refl _ | assumption) ?_
  refine h_end (by kernel_rfl) ?_
  refine rn_ ?_; intros
  have hsy : sml y = true := by
    have h2 := vld_sml hv
    simp only [sml, decide_eq_true_eq] at h2 ⊢
    rw [cnt_eq _ 0 (by omega)] at h2 ⊢
    simp only [tsz, tszL] at h2
    omega
  cases hodd : a.n % 2 == 1
  · have ho : ¬ a.n % 2 = 1 := by simpa using hodd
    rw [hodd] at hQ
    (refine x_split rfl rfl rfl (fun hc => absurd hc (by first | decide +kernel | (simp; first | done | fail))) (fun _ => ?_); refine st_ ?_; (refine ru_ ?_; intros))
    refine rn_ ?_; intros
    refine x_held [(0, b0, .c 30 [.v (.int .i64 st), .v (.int .i64 th), .v (.int .i64 k), .v (.int .i64 n), .v (.slice (some ⟨b, off, none⟩) 2 cap)])] rfl (by rw [hP]; kernel_rfl) rfl rfl rfl ?_; refine st_ ?_
    refine h_take 0 rfl (by kernel_rfl) (by kernel_rfl) (by kernel_rfl) hQp (by rw [hnt]; rfl) (allIn (by repeat (first | exact trivial | refine ⟨rfl, ?_⟩))) (by first | exact Le.refl _ | assumption) (quiet_op (by rw [hty]; first | rfl | (refine st_ ?_; rfl))) ?_; refine st_ ?_
    refine h_take 1 rfl (by kernel_rfl) (by kernel_rfl) (by kernel_rfl) hQp (by rw [hnt]; rfl) (allIn (by repeat (first | exact trivial | refine ⟨rfl, ?_⟩))) (by first | exact Le.refl _ | assumption) (quiet_op (by rw [hty]; first | rfl | (refine st_ ?_; rfl))) ?_; refine st_ ?_
    refine h_take 2 rfl (by kernel_rfl) (by kernel_rfl) (by kernel_rfl) hQp (by rw [hnt]; rfl) (allIn (by repeat (first | exact trivial | refine ⟨rfl, ?_⟩))) (by first | exact Le.refl _ | assumption) (quiet_op (by rw [hty]; first | rfl | (refine st_ ?_; rfl))) ?_; refine st_ ?_
    refine h_take 3 rfl (by kernel_rfl) (by kernel_rfl) (by kernel_rfl) hQp (by rw [hnt]; rfl) (allIn (by repeat (first | exact trivial | refine ⟨rfl, ?_⟩))) (by first | exact Le.refl _ | assumption) (x := .v (.pointer (some ⟨b, off + 3, none⟩))) ((quiet_index (k := .i64) (n := 1) (by rw [hty]; rfl) (by rw [hty]; rfl) rfl rfl rfl (by omega) (by omega)).cast (by simp [SV.den])) ?_
    refine st_ ?_
    refine h_take 4 rfl (by kernel_rfl) (by kernel_rfl) (by kernel_rfl) hQp (by rw [hnt]; rfl) (allIn (by repeat (first | exact trivial | refine ⟨rfl, ?_⟩))) (by first | exact Le.refl _ | assumption) (x := .a [.v (.int .i64 y.k), .v (.int .i64 y.n), .v (.slice ady y.l.length capy)]) ((quiet_load (by rw [hty]; rfl) rfl (fun q => by cases q) haty rfl).cast (by simp only [ldV, SV.den, dens]; rfl)) ?_
    refine st_ ?_
    refine h_take 6 rfl (by kernel_rfl) (by kernel_rfl) (by kernel_rfl) hQp (by rw [hnt]; rfl) (allIn (by repeat (first | exact trivial | refine ⟨rfl, ?_⟩))) (by first | exact Le.refl _ | assumption) (quiet_op (by rw [hty]; first | rfl | (refine st_ ?_; rfl))) ?_; refine st_ ?_
    refine h_take 7 rfl (by kernel_rfl) (by kernel_rfl) (by kernel_rfl) hQp (by rw [hnt]; rfl) (allIn (by repeat (first | exact trivial | refine ⟨rfl, ?_⟩))) (by first | exact Le.refl _ | assumption) (quiet_op (by rw [hty]; first | rfl | (refine st_ ?_; rfl))) ?_; refine st_ ?_
    refine h_one 5 rfl (by kernel_rfl) ?_
    refine go_call (by rw [hnt]; rfl) (by rw [hP]; kernel_rfl) rfl (hP ▸ copy_ok y _ _ hry (by omega)) ?_
    rintro v G2 (hle2 : Le G G2) hv0
    obtain ⟨_, hv0⟩ | ⟨hsm, _⟩ := hv0
    rotate_left
    · rw [hsy] at hsm; cases hsm
    obtain ⟨sl2, rfl, hr2⟩ := copied_cells hv0
    clear hv0
    obtain ⟨asl2, csl2, rfl⟩ := VT.rep_slice hr2
    refine rn_ ?_; intros
    refine h_hs (allIn (by repeat (first | exact trivial | refine ⟨rfl, ?_⟩))) (by first | exact Le.refl _ | assumption) ?_
    refine h_take 8 rfl (by kernel_rfl) (by kernel_rfl) (by kernel_rfl) hQp (by rw [hnt]; rfl) (allIn (by repeat (first | exact trivial | refine ⟨rfl, ?_⟩))) (by first | exact Le.refl _ | assumption) (quiet_op (by rw [hty]; first | rfl | (refine st_ ?_; rfl))) ?_; refine st_ ?_
    refine h_take 9 rfl (by kernel_rfl) (by kernel_rfl) (by kernel_rfl) hQp (by rw [hnt]; rfl) (allIn (by repeat (first | exact trivial | refine ⟨rfl, ?_⟩))) (by first | exact Le.refl _ | assumption) (quiet_op (by rw [hty]; first | rfl | (refine st_ ?_; rfl))) ?_; refine st_ ?_
    refine h_one 10 rfl (by kernel_rfl) ?_
    refine rn_ ?_; intros
    refine h_hs (allIn (by repeat (first | exact trivial | refine ⟨rfl, ?_⟩))) (by first | exact Le.refl _ | assumption) ?_
    refine h_take 11 rfl (by kernel_rfl) (by kernel_rfl) (by kernel_rfl) hQp (by rw [hnt]; rfl) (allIn (by repeat (first | exact trivial | refine ⟨rfl, ?_⟩))) (by first | exact Le.refl _ | assumption) (quiet_op (by rw [hty]; first | rfl | (refine st_ ?_; rfl))) ?_; refine st_ ?_
    refine h_take 12 rfl (by kernel_rfl) (by kernel_rfl) (by kernel_rfl) hQp (by rw [hnt]; rfl) (allIn (by repeat (first | exact trivial | refine ⟨rfl, ?_⟩))) (by first | exact Le.refl _ | assumption) (quiet_op (by rw [hty]; first | rfl | (refine st_ ?_; rfl))) ?_; refine st_ ?_
    refine h_one 13 rfl (by kernel_rfl) ?_
    refine rn_ ?_; intros
    refine h_hs (allIn (by repeat (first | exact trivial | refine ⟨rfl, ?_⟩))) (by first | exact Le.refl _ | assumption) ?_
    refine h_end (by kernel_rfl) ?_
    refine rn_ ?_; intros
    refine x_retc rfl hQ hmb rfl (by rw [hty]; simp only [so, sq, zy, zz, tyE, SO', SQ', opQ, opStore, opAlloc, ev, putS, dOk, cv, SV.cs, SV.one, SV.bool?, eqB, Value.oneCell', ldOwn, binInt, binConst, binBool, binStr, isC, TK.agg, rv, rv1, ldV, resOne, resV, Nat.reduceAdd, Nat.reduceMul, Nat.reduceSub, Nat.reduceLT, Nat.reduceLeDiff, Nat.reduceEqDiff, Nat.reduceBEq, reduceIte, reduceCtorEq, eq_self]; try rfl) rfl ?_; simp only [SV.den, resV, dens]
    rw [dntOp, if_neg ho]
    exact ⟨_, .slice none 0 0, rfl, ⟨by simp only [isI64]; omega, by simp only [isI64]; omega, by simp only [isI64]; omega, by simp only [isI64]; omega, hby, by simp [noneV, tsz, tszL]⟩, hr2, rep_leaf _ 0 0 (by simp [isI64]) (by simp [isI64])⟩
  · have ho : a.n % 2 = 1 := by simpa using hodd
    rw [hodd] at hQ
    (refine x_split rfl rfl rfl (fun _ => ?_) (fun hc => absurd hc (by first | decide +kernel | (simp; first | done | fail))); refine st_ ?_; (refine ru_ ?_; intros))
    refine rn_ ?_; intros
    refine x_held [(0, b0, .c 30 [.v (.int .i64 st), .v (.int .i64 th), .v (.int .i64 k), .v (.int .i64 n), .v (.slice (some ⟨b, off, none⟩) 2 cap)])] rfl (by rw [hP]; kernel_rfl) rfl rfl rfl ?_; refine st_ ?_
    refine h_take 0 rfl (by kernel_rfl) (by kernel_rfl) (by kernel_rfl) hQp (by rw [hnt]; rfl) (allIn (by repeat (first | exact trivial | refine ⟨rfl, ?_⟩))) (by first | exact Le.refl _ | assumption) (quiet_op (by rw [hty]; first | rfl | (refine st_ ?_; rfl))) ?_; refine st_ ?_
    refine h_take 1 rfl (by kernel_rfl) (by kernel_rfl) (by kernel_rfl) hQp (by rw [hnt]; rfl) (allIn (by repeat (first | exact trivial | refine ⟨rfl, ?_⟩))) (by first | exact Le.refl _ | assumption) (quiet_op (by rw [hty]; first | rfl | (refine st_ ?_; rfl))) ?_; refine st_ ?_
    refine h_take 2 rfl (by kernel_rfl) (by kernel_rfl) (by kernel_rfl) hQp (by rw [hnt]; rfl) (allIn (by repeat (first | exact trivial | refine ⟨rfl, ?_⟩))) (by first | exact Le.refl _ | assumption) (quiet_op (by rw [hty]; first | rfl | (refine st_ ?_; rfl))) ?_; refine st_ ?_
    refine h_take 3 rfl (by kernel_rfl) (by kernel_rfl) (by kernel_rfl) hQp (by rw [hnt]; rfl) (allIn (by repeat (first | exact trivial | refine ⟨rfl, ?_⟩))) (by first | exact Le.refl _ | assumption) (x := .v (.pointer (some ⟨b, off + 3, none⟩))) ((quiet_index (k := .i64) (n := 1) (by rw [hty]; rfl) (by rw [hty]; rfl) rfl rfl rfl (by omega) (by omega)).cast (by simp [SV.den])) ?_
    refine st_ ?_
    refine h_take 4 rfl (by kernel_rfl) (by kernel_rfl) (by kernel_rfl) hQp (by rw [hnt]; rfl) (allIn (by repeat (first | exact trivial | refine ⟨rfl, ?_⟩))) (by first | exact Le.refl _ | assumption) (x := .a [.v (.int .i64 y.k), .v (.int .i64 y.n), .v (.slice ady y.l.length capy)]) ((quiet_load (by rw [hty]; rfl) rfl (fun q => by cases q) haty rfl).cast (by simp only [ldV, SV.den, dens]; rfl)) ?_
    refine st_ ?_
    refine h_take 6 rfl (by kernel_rfl) (by kernel_rfl) (by kernel_rfl) hQp (by rw [hnt]; rfl) (allIn (by repeat (first | exact trivial | refine ⟨rfl, ?_⟩))) (by first | exact Le.refl _ | assumption) (quiet_op (by rw [hty]; first | rfl | (refine st_ ?_; rfl))) ?_; refine st_ ?_
    refine h_take 7 rfl (by kernel_rfl) (by kernel_rfl) (by kernel_rfl) hQp (by rw [hnt]; rfl) (allIn (by repeat (first | exact trivial | refine ⟨rfl, ?_⟩))) (by first | exact Le.refl _ | assumption) (quiet_op (by rw [hty]; first | rfl | (refine st_ ?_; rfl))) ?_; refine st_ ?_
    refine h_one 5 rfl (by kernel_rfl) ?_
    refine go_call (by rw [hnt]; rfl) (by rw [hP]; kernel_rfl) rfl (hP ▸ copy_ok y _ _ hry (by omega)) ?_
    rintro v G2 (hle2 : Le G G2) hv0
    obtain ⟨_, hv0⟩ | ⟨hsm, _⟩ := hv0
    rotate_left
    · rw [hsy] at hsm; cases hsm
    obtain ⟨sl2, rfl, hr2⟩ := copied_cells hv0
    clear hv0
    obtain ⟨asl2, csl2, rfl⟩ := VT.rep_slice hr2
    refine rn_ ?_; intros
    refine h_hs (allIn (by repeat (first | exact trivial | refine ⟨rfl, ?_⟩))) (by first | exact Le.refl _ | assumption) ?_
    refine h_take 8 rfl (by kernel_rfl) (by kernel_rfl) (by kernel_rfl) hQp (by rw [hnt]; rfl) (allIn (by repeat (first | exact trivial | refine ⟨rfl, ?_⟩))) (by first | exact Le.refl _ | assumption) (quiet_op (by rw [hty]; first | rfl | (refine st_ ?_; rfl))) ?_; refine st_ ?_
    refine h_take 9 rfl (by kernel_rfl) (by kernel_rfl) (by kernel_rfl) hQp (by rw [hnt]; rfl) (allIn (by repeat (first | exact trivial | refine ⟨rfl, ?_⟩))) (by first | exact Le.refl _ | assumption) (quiet_op (by rw [hty]; first | rfl | (refine st_ ?_; rfl))) ?_; refine st_ ?_
    refine h_one 10 rfl (by kernel_rfl) ?_
    refine rn_ ?_; intros
    refine h_hs (allIn (by repeat (first | exact trivial | refine ⟨rfl, ?_⟩))) (by first | exact Le.refl _ | assumption) ?_
    refine h_take 11 rfl (by kernel_rfl) (by kernel_rfl) (by kernel_rfl) hQp (by rw [hnt]; rfl) (allIn (by repeat (first | exact trivial | refine ⟨rfl, ?_⟩))) (by first | exact Le.refl _ | assumption) (quiet_op (by rw [hty]; first | rfl | (refine st_ ?_; rfl))) ?_; refine st_ ?_
    refine h_take 12 rfl (by kernel_rfl) (by kernel_rfl) (by kernel_rfl) hQp (by rw [hnt]; rfl) (allIn (by repeat (first | exact trivial | refine ⟨rfl, ?_⟩))) (by first | exact Le.refl _ | assumption) (quiet_op (by rw [hty]; first | rfl | (refine st_ ?_; rfl))) ?_; refine st_ ?_
    refine h_one 13 rfl (by kernel_rfl) ?_
    refine rn_ ?_; intros
    refine h_hs (allIn (by repeat (first | exact trivial | refine ⟨rfl, ?_⟩))) (by first | exact Le.refl _ | assumption) ?_
    refine h_take 14 rfl (by kernel_rfl) (by kernel_rfl) (by kernel_rfl) hQp (by rw [hnt]; rfl) (allIn (by repeat (first | exact trivial | refine ⟨rfl, ?_⟩))) (by first | exact Le.refl _ | assumption) (quiet_op (by rw [hty]; first | rfl | (refine st_ ?_; rfl))) ?_; refine st_ ?_
    refine h_take 15 rfl (by kernel_rfl) (by kernel_rfl) (by kernel_rfl) hQp (by rw [hnt]; rfl) (allIn (by repeat (first | exact trivial | refine ⟨rfl, ?_⟩))) (by first | exact Le.refl _ | assumption) (quiet_op (by rw [hty]; first | rfl | (refine st_ ?_; rfl))) ?_; refine st_ ?_
    refine h_one 16 rfl (by kernel_rfl) ?_
    refine rn_ ?_; intros
    refine h_hs (allIn (by repeat (first | exact trivial | refine ⟨rfl, ?_⟩))) (by first | exact Le.refl _ | assumption) ?_
    refine h_end (by kernel_rfl) ?_
    refine rn_ ?_; intros
    refine x_retc rfl hQ hmb rfl (by rw [hty]; simp only [so, sq, zy, zz, tyE, SO', SQ', opQ, opStore, opAlloc, ev, putS, dOk, cv, SV.cs, SV.one, SV.bool?, eqB, Value.oneCell', ldOwn, binInt, binConst, binBool, binStr, isC, TK.agg, rv, rv1, ldV, resOne, resV, Nat.reduceAdd, Nat.reduceMul, Nat.reduceSub, Nat.reduceLT, Nat.reduceLeDiff, Nat.reduceEqDiff, Nat.reduceBEq, reduceIte, reduceCtorEq, eq_self]; try rfl) rfl ?_; simp only [SV.den, resV, dens]
    rw [dntOp, if_pos ho]
    exact ⟨.slice none 0 0, _, rfl, ⟨by simp only [isI64]; omega, by simp only [isI64]; omega, by simp only [isI64]; omega, by simp only [isI64]; omega, by simp [noneV, tsz, tszL], hby⟩, rep_leaf _ 0 0 (by simp [isI64]) (by simp [isI64]), hr2⟩
end Go.Proofs.Ytpmmbjcgabnloaa
namespace Go.Proofs.Ytpmmbjcgabnloaa
set_option linter.unusedSimpArgs false
set_option linter.unusedVariables false
open Go.Sx
set_option maxHeartbeats 8000000
set_option maxRecDepth 20000
end Go.Proofs.Ytpmmbjcgabnloaa
namespace Go.Sx
set_option linter.unusedSimpArgs false
set_option linter.unusedVariables false
open Go.RowKit
def mdel (k : Int) : MEs → MEs
  | [] => []
  | x :: l => if x.1 = k then l else x :: mdel k l
theorem mdel_none {k : Int} : ∀ {l : MEs}, mget k l = none → mdel k l = l
  | [], _ => rfl
  | x :: l, h => by
    simp only [mget] at h
    split at h
    · cases h
    · rename_i hne; rw [mdel, if_neg hne, mdel_none h]
theorem findNow_del {q kd : IntKind} {k : Int} {v : Value} : ∀ {l : MEs} (i : Nat), mget k l = some v → ∃ j, Instr.findNow (.int q) (.int kd k) (l.map (mEnt kd)) i = some (some (i + j, v)) ∧ mdel k l = l.eraseIdx j
  | [], i, h => by simp [mget] at h
  | x :: l, i, h => by
    simp only [mget] at h
    split at h
    · rename_i he
      cases h
      refine ⟨0, ?_, ?_⟩
      · have : (k == x.1) = true := by simp [he]
        simp only [List.map_cons, Instr.findNow, mEnt, Instr.sameNow, if_true, this, Nat.add_zero]
      · simp [mdel, he]
    · rename_i hne
      obtain ⟨j, h1, h2⟩ := findNow_del (l := l) (q := q) (kd := kd) (i + 1) h
      refine ⟨j + 1, ?_, ?_⟩
      · have : (k == x.1) = false := by simp; omega
        simp only [List.map_cons, Instr.findNow, mEnt, Instr.sameNow, if_true, this]
        rw [show i + (j + 1) = i + 1 + j by omega]
        exact h1
      · simp [mdel, hne, h2]
theorem map_er {α β : Type} (f : α → β) : ∀ (l : List α) (j : Nat), (l.eraseIdx j).map f = (l.map f).eraseIdx j
  | [], _ => rfl
  | x :: l, 0 => rfl
  | x :: l, j + 1 => by simp [map_er f l j]
def mUq (l : MEs) : Prop := (l.map (·.1)).Nodup
theorem mget_mem {k : Int} : ∀ {l : MEs}, (mget k l).isSome = true ↔ k ∈ l.map (·.1)
  | [] => by simp [mget]
  | x :: l => by
    simp only [mget, List.map_cons, List.mem_cons]
    split
    · rename_i h; simp [h]
    · rename_i h; rw [mget_mem]; simp [Ne.symm h]
theorem mget_del {k k' : Int} : ∀ {l : MEs}, mUq l → mget k' (mdel k l) = if k' = k then none else mget k' l
  | [], _ => by simp [mdel, mget]
  | x :: l, h => by
    simp only [mUq, List.map_cons, List.nodup_cons] at h
    by_cases hx : x.1 = k
    · rw [mdel, if_pos hx]
      by_cases hk : k' = k
      · rw [if_pos hk]
        cases hm : mget k' l with
        | none => rfl
        | some v =>
          have : k' ∈ l.map (·.1) := mget_mem.1 (by rw [hm]; rfl)
          rw [hk, ← hx] at this
          exact absurd this h.1
      · rw [if_neg hk, mget, if_neg (by omega)]
    · rw [mdel, if_neg hx]
      simp only [mget]
      by_cases hk : k' = k
      · rw [if_pos hk, if_neg (by omega), mget_del h.2, if_pos hk]
      · rw [if_neg hk, mget_del h.2, if_neg hk]
theorem mdel_sub {k : Int} : ∀ {l : MEs} {y : Int}, y ∈ (mdel k l).map (·.1) → y ∈ l.map (·.1)
  | [], y, h => h
  | x :: l, y, h => by
    rw [mdel] at h
    split at h
    · exact List.mem_cons_of_mem _ h
    · simp only [List.map_cons, List.mem_cons] at h ⊢
      exact h.imp id fun q => mdel_sub q
theorem mUq_del {k : Int} : ∀ {l : MEs}, mUq l → mUq (mdel k l)
  | [], h => h
  | x :: l, h => by
    simp only [mUq, List.map_cons, List.nodup_cons] at h
    rw [mdel]
    split
    · exact h.2
    · simp only [mUq, List.map_cons, List.nodup_cons]
      exact ⟨fun q => h.1 (mdel_sub q), mUq_del h.2⟩
theorem mget_put {k k' : Int} {v : Value} {c : Nat} : ∀ {l : MEs}, mget k' (mput k v c l) = if k' = k then some v else mget k' l
  | [] => by
    simp only [mput, mget]
    by_cases h : k = k'
    · rw [if_pos h, if_pos h.symm]
    · rw [if_neg h, if_neg (fun q => h q.symm)]
  | x :: l => by
    rw [mput]
    split
    · rename_i hx
      simp only [mget]
      by_cases h : k' = k
      · rw [if_pos h.symm, if_pos h]
      · rw [if_neg (fun q => h q.symm), if_neg h, if_neg (by omega)]
    · rename_i hx
      simp only [mget, mget_put]
      by_cases h : k' = k
      · rw [if_pos h, if_neg (by omega), if_pos h]
      · rw [if_neg h, if_neg h]
theorem mUq_put {k : Int} {v : Value} {c : Nat} : ∀ {l : MEs}, mUq l → mUq (mput k v c l)
  | [], _ => by simp [mput, mUq]
  | x :: l, h => by
    simp only [mUq, List.map_cons, List.nodup_cons] at h
    rw [mput]
    split
    · rename_i hx
      simp only [mUq, List.map_cons, List.nodup_cons]
      rw [← hx]; exact h
    · rename_i hx
      simp only [mUq, List.map_cons, List.nodup_cons]
      refine ⟨fun q => ?_, mUq_put h.2⟩
      have : (mget x.1 (mput k v c l)).isSome = true := mget_mem.2 q
      rw [mget_put, if_neg hx] at this
      exact h.1 (mget_mem.1 this)
section
variable {P : Program} {w : World} {q kd : IntKind} {K E T : TypeId} {b c : Nat} {l : MEs} {z : Value} {k : Int}
theorem run_mdelete (hT : P.underlying T = some (.map K E)) (hK : P.underlying K = some (.int q)) (hb : w.heap[b]? = some (mObj kd l c)) (k : Int) (t : TypeId) :
    (Builtin.delete_ #[T, K] t #[.map (some b), .int kd k]).run P w = .ok (.tuple #[]) (setBlk w b (mObj kd (mdel k l) c)) := by
  have hb' : w.heap[b]? = some (.map (l.map (mEnt kd)).toArray c) := hb
  have e0 : (#[T, K] : Array TypeId)[0]? = some T := rfl
  have e1 : (#[Value.map (some b), Value.int kd k] : Array Value)[0]? = some (.map (some b)) := rfl
  have e2 : (#[Value.map (some b), Value.int kd k] : Array Value)[1]? = some (.int kd k) := rfl
  simp only [Builtin.delete_, e0, e1, e2, Sem.run_bind, run_und w hT, Result.andThen_ok, Go.MapKept.run_getObj_map hb', run_checkKey hK, Instr.findKey, run_und w hK]
  cases hm : mget k l with
  | none =>
    simp only [findNow_none (q := q) (kd := kd) 0 hm, Sem.run_pure, Sem.run_bind, Result.andThen_ok, Go.MapKept.run_setObj_map _ hb', mdel_none hm]
    rfl
  | some v0 =>
    obtain ⟨j, h1, h2⟩ := findNow_del (q := q) (kd := kd) 0 hm
    have he : ((l.map (mEnt kd)).toArray.eraseIdxIfInBounds j) = ((l.eraseIdx j).map (mEnt kd)).toArray := by
      apply Array.ext'
      rw [map_er]
      simp
    simp only [h1, Sem.run_pure, Sem.run_bind, Result.andThen_ok, h2, Nat.zero_add, he, Go.MapKept.run_setObj_map _ hb']
    rfl
end
section
variable {C : Ctx} {K : List KI} {s : St} {R : Array Oper} {l : List Oper} {d : Option Tmp} {t : TypeId} {pos : String} {aft : Array Edge} {sz by' sz2 by2 : Nat} {ze ze2 : List Value} {fl fl2 : List (Nat × Nat × Bool)} {q kd : IntKind} {T KT E : TypeId} {x i : Operand} {b c : Nat} {es : MEs} {n : Int}
theorem go_mdel (k : Nat) (hd : dOk C.nt d = true) (hT : C.ty T = some ⟨.map KT E, sz, by', ze, fl⟩) (hK : C.ty KT = some ⟨.int q, sz2, by2, ze2, fl2⟩) (hx : ev s.sl x = some (.v (.map (some b)))) (hi : ev s.sl i = some (.v (.int kd n))) (hk : lk k s.own = some (b, .o (mObj kd es c)))
    (h : SGo C (.ops R l :: K) ⟨putS d (.v (.tuple #[])) s.sl, stk k (b, .o (mObj kd (mdel n es) c)) s.own, s.G, s.df⟩) : SGo C (.ops R (⟨d, .call ⟨.builtin .delete, #[x, i], #[T, KT]⟩, t, pos, aft, none⟩ :: l) :: K) s := by
  intro a w hS
  have hxv := ev_ok hS.sl hx
  have hiv := ev_ok hS.sl hi
  simp only [SV.den] at hxv hiv
  have h1 := (C.tyok _ _ hT).k
  have h2 := (C.tyok _ _ hK).k
  simp only [TK.fits] at h1 h2
  have hb := (hS.mem.own _ _ _ hk).1
  simp only [OO.holds] at hb
  have hrun : (execOp a.eval ⟨d, .call ⟨.builtin .delete, #[x, i], #[T, KT]⟩, t, pos, aft, none⟩).run C.P w = .ok (.value (.tuple #[])) (setBlk w b (mObj kd (mdel n es) c)) := by
    simp [execOp, resolve, hxv, hiv, Deferred.ofValue, invoke, builtin, run_mdelete h1 h2 hb]
  refine K_value rfl hrun ?_
  have hlt := lt_of_heap hb
  have hm : Mem C (stk k (b, .o (mObj kd (mdel n es) c)) s.own) s.G (setBlk w b (mObj kd (mdel n es) c)) :=
    hS.mem.put hk rfl rfl rfl (by rw [setBlk_size]; exact Nat.le_refl _) (fun j _ hj => setBlk_ne (fun e => hj e) _) (setBlk_same hlt _) (fun g => ⟨.inl, .inl⟩)
  have hS' := hS.put hd (.v (.tuple #[])) hm
  simp only [SV.den] at hS'
  exact h _ _ hS'
end
end Go.Sx
namespace Go.Proofs.Ytpmmbjcgabnloaa
set_option linter.unusedSimpArgs false
set_option linter.unusedVariables false
open Go.Sx
def opnK (out : List Op) (th : Int) : Nat → Option Nat
  | 0 => none
  | k + 1 => match out[k]? with
    | some o => if o.th = th ∧ o.dn = false then some k else opnK out th k
    | none => opnK out th k
def opn (out : List Op) (th : Int) : Option Nat := opnK out th out.length
theorem opnK_some {out : List Op} {th : Int} : ∀ {k j : Nat}, opnK out th k = some j → j < k ∧ ∃ o, out[j]? = some o ∧ o.th = th ∧ o.dn = false
  | 0, j, h => by cases h
  | k + 1, j, h => by
    rw [opnK] at h
    split at h
    · rename_i o ho
      split at h
      · rename_i hc; cases h; exact ⟨by omega, o, ho, hc⟩
      · obtain ⟨h1, h2⟩ := opnK_some h; exact ⟨by omega, h2⟩
    · obtain ⟨h1, h2⟩ := opnK_some h; exact ⟨by omega, h2⟩
theorem opnK_none {out : List Op} {th : Int} : ∀ {k : Nat}, opnK out th k = none → ∀ {j : Nat} {o : Op}, j < k → out[j]? = some o → ¬ (o.th = th ∧ o.dn = false)
  | 0, _, j, o, hj, _ => by omega
  | k + 1, h, j, o, hj, ho => by
    rw [opnK] at h
    by_cases hjk : j = k
    · subst hjk
      rw [ho] at h
      simp only at h
      split at h
      · cases h
      · rename_i hc; exact hc
    · split at h
      · split at h
        · cases h
        · exact opnK_none h (by omega) ho
      · exact opnK_none h (by omega) ho
def Uq (out : List Op) : Prop := ∀ (i j : Nat) (a b : Op), out[i]? = some a → out[j]? = some b → a.dn = false → b.dn = false → a.th = b.th → i = j
theorem opn_eq {out : List Op} {th : Int} (hu : Uq out) {j : Nat} {o : Op} (ho : out[j]? = some o) (ht : o.th = th) (hd : o.dn = false) : opn out th = some j := by
  have hj : j < out.length := (List.getElem?_eq_some_iff.1 ho).1
  rw [opn]
  cases h : opnK out th out.length with
  | none => exact absurd ⟨ht, hd⟩ (opnK_none h hj ho)
  | some i =>
    obtain ⟨_, a, ha, h1, h2⟩ := opnK_some h
    rw [hu i j a o ha ho h2 hd (h1.trans ht.symm)]
theorem opn_no {out : List Op} {th : Int} (h : ∀ (j : Nat) (o : Op), out[j]? = some o → o.th = th → o.dn = false → False) : opn out th = none := by
  rw [opn]
  cases hk : opnK out th out.length with
  | none => rfl
  | some i =>
    obtain ⟨_, a, ha, h1, h2⟩ := opnK_some hk
    exact (h i a ha h1 h2).elim
theorem opn_some {out : List Op} {th : Int} {j : Nat} (h : opn out th = some j) : ∃ hj : j < out.length, out[j].th = th ∧ out[j].dn = false := by
  obtain ⟨h1, o, h2, h3, h4⟩ := opnK_some h
  obtain ⟨hj, rfl⟩ := List.getElem?_eq_some_iff.1 h2
  exact ⟨hj, h3, h4⟩
theorem opn_free {out : List Op} {th : Int} (h : opn out th = none) {j : Nat} {o : Op} (ho : out[j]? = some o) (ht : o.th = th) (hd : o.dn = false) : False :=
  opnK_none h (List.getElem?_eq_some_iff.1 ho).1 ho ⟨ht, hd⟩
theorem uq_add {out : List Op} {x : Op} (hu : Uq out) (hn : opn out x.th = none) : Uq (out ++ [x]) := by
  intro i j a b ha hb h1 h2 h3
  have hs : ∀ {i : Nat} {a : Op}, (out ++ [x])[i]? = some a → out[i]? = some a ∨ (i = out.length ∧ a = x) := fun {i a} h => by
    rcases Nat.lt_or_ge i out.length with q | q
    · rw [List.getElem?_append_left q] at h; exact .inl h
    · rw [List.getElem?_append_right q] at h
      rcases Nat.eq_zero_or_pos (i - out.length) with z | z
      · rw [z] at h; simp at h; exact .inr ⟨by omega, h.symm⟩
      · rw [List.getElem?_eq_none (by simp; omega)] at h; cases h
  rcases hs ha with qa | ⟨qa, ea⟩ <;> rcases hs hb with qb | ⟨qb, eb⟩
  · exact hu i j a b qa qb h1 h2 h3
  · rw [eb] at h3; exact (opn_free hn qa h3 h1).elim
  · rw [ea] at h3; exact (opn_free hn qb h3.symm h2).elim
  · omega
theorem opn_add {out : List Op} {x : Op} (hu : Uq out) (hn : opn out x.th = none) (hx : x.dn = false) (th : Int) : opn (out ++ [x]) th = if th = x.th then some out.length else opn out th := by
  have hu2 := uq_add hu hn
  split
  · rename_i h
    exact opn_eq hu2 (o := x) (by simp) h.symm hx
  · rename_i h
    cases ho : opn out th with
    | none =>
      refine opn_no fun j o hj ht hd => ?_
      rcases Nat.lt_or_ge j out.length with q | q
      · rw [List.getElem?_append_left q] at hj; exact opn_free ho hj ht hd
      · rw [List.getElem?_append_right q] at hj
        rcases Nat.eq_zero_or_pos (j - out.length) with z | z
        · rw [z] at hj; simp at hj; subst hj; exact h ht.symm
        · rw [List.getElem?_eq_none (by simp; omega)] at hj; cases hj
    | some j =>
      obtain ⟨hj, h1, h2⟩ := opn_some ho
      exact opn_eq hu2 (o := out[j]) (by rw [List.getElem?_append_left hj, List.getElem?_eq_getElem hj]) h1 h2
theorem uq_set {out : List Op} {k : Nat} {y : Op} (hu : Uq out) (hy : y.dn = true) : Uq (out.set k y) := by
  intro i j a b ha hb h1 h2 h3
  have hs : ∀ {i : Nat} {a : Op}, (out.set k y)[i]? = some a → a.dn = false → out[i]? = some a := fun {i a} h hd => by
    rw [List.getElem?_set] at h
    split at h
    · split at h
      · cases h; rw [hy] at hd; cases hd
      · cases h
    · exact h
  exact hu i j a b (hs ha h1) (hs hb h2) h1 h2 h3
theorem opn_set {out : List Op} {k : Nat} {y : Op} (hu : Uq out) (hy : y.dn = true) {t0 : Int} (hk : opn out t0 = some k) (th : Int) : opn (out.set k y) th = if th = t0 then none else opn out th := by
  have hu2 := uq_set (k := k) hu hy
  obtain ⟨hkl, hk1, hk2⟩ := opn_some hk
  have hs : ∀ {i : Nat} {a : Op}, (out.set k y)[i]? = some a → a.dn = false → out[i]? = some a ∧ i ≠ k := fun {i a} h hd => by
    rw [List.getElem?_set] at h
    by_cases q : k = i
    · rw [if_pos q, if_pos hkl] at h
      cases h; rw [hy] at hd; cases hd
    · rw [if_neg q] at h; exact ⟨h, fun e => q e.symm⟩
  split
  · rename_i h
    refine opn_no fun j o hj ht hd => ?_
    obtain ⟨h1, h2⟩ := hs hj hd
    exact h2 (hu j k o out[k] h1 (List.getElem?_eq_getElem hkl) hd hk2 (by rw [ht, hk1, h]))
  · rename_i h
    cases ho : opn out th with
    | none => exact opn_no fun j o hj ht hd => opn_free ho (hs hj hd).1 ht hd
    | some j =>
      obtain ⟨hj, h1, h2⟩ := opn_some ho
      have hne : k ≠ j := fun q => by subst q; exact h (h1.symm.trans hk1)
      exact opn_eq hu2 (o := out[j]) (by rw [List.getElem?_set_ne hne, List.getElem?_eq_getElem hj]) h1 h2
def retOp (o : Op) (y : VT) (st : Int) : Op := ⟨o.th, o.kd, o.arg, y, o.fr, st, true⟩
def ofStep (last : Int) (out : List Op) (x : Mk) : Option (List Op) :=
  if x.th < 0 ∨ x.st < last then none else
  match sdP x.v with
  | none => some out
  | some (n, y) =>
    if n % 2 = 1 then (match opn out x.th with
      | none => none
      | some k => match out[k]? with
        | none => none
        | some o => if o.kd = n / 2 then some (out.set k (retOp o y x.st)) else none)
    else (match opn out x.th with
      | none => some (out ++ [dntOp x n y])
      | some _ => none)
def ofP : List Mk → Int → List Op → Option (List Op)
  | [], _, out => some out
  | x :: r, last, out => match ofStep last out x with
    | none => none
    | some out' => ofP r x.st out'
def ofRet (r : Option (List Op)) (v : Value) (G : Hp) : Prop := match r with
  | none => v = .tuple #[.slice none 0 0, .int .i64 290]
  | some out => ∃ sl, v = .tuple #[sl, .int .i64 0] ∧ rO.S G out sl
theorem ofP_step {l : List Mk} {k : Nat} {last : Int} {out : List Op} (hk : k < l.length) : ofP (l.drop k) last out = match ofStep last out l[k] with
    | none => none
    | some out' => ofP (l.drop (k + 1)) l[k].st out' := by
  rw [List.drop_eq_getElem_cons hk, ofP]
end Go.Proofs.Ytpmmbjcgabnloaa
namespace Go.Proofs.Ytpmmbjcgabnloaa
set_option linter.unusedSimpArgs false
set_option linter.unusedVariables false
open Go.Sx
set_option maxHeartbeats 8000000
set_option maxRecDepth 20000
theorem cut1 {xs c : List Value} {m i : Nat} {v : Value} (h : (xs.drop m).take 11 = c) (hv : c[i]? = some v) (hi : i < 11) : (xs.drop (m + i)).take 1 = [v] := by
  have h1 : xs[m + i]? = some v := by
    have := congrArg (fun l => l[i]?) h
    simp only [List.getElem?_take, List.getElem?_drop] at this
    rw [if_pos hi] at this
    rw [this, hv]
  obtain ⟨hl, rfl⟩ := List.getElem?_eq_some_iff.1 h1
  rw [List.drop_eq_getElem_cons hl]
  rfl
theorem layA (A B : List Value) (c0 c1 c2 c3 c4 c5 c6 c7 c8 c9 c10 n0 n1 n2 : Value) : lay (A ++ [c0, c1, c2, c3, c4, c5, c6, c7, c8, c9, c10] ++ B) (A.length + 5) [n0, n1, n2] = some (A ++ [c0, c1, c2, c3, c4, n0, n1, n2, c8, c9, c10] ++ B) := by
  have := lay_at (A ++ [c0, c1, c2, c3, c4]) [c5, c6, c7] [n0, n1, n2] ([c8, c9, c10] ++ B) rfl
  simpa using this
theorem layB (A B : List Value) (c0 c1 c2 c3 c4 c5 c6 c7 c8 c9 c10 n0 : Value) : lay (A ++ [c0, c1, c2, c3, c4, c5, c6, c7, c8, c9, c10] ++ B) (A.length + 9) [n0] = some (A ++ [c0, c1, c2, c3, c4, c5, c6, c7, c8, n0, c10] ++ B) := by
  have := lay_at (A ++ [c0, c1, c2, c3, c4, c5, c6, c7, c8]) [c9] [n0] ([c10] ++ B) rfl
  simpa using this
theorem layC (A B : List Value) (c0 c1 c2 c3 c4 c5 c6 c7 c8 c9 c10 n0 : Value) : lay (A ++ [c0, c1, c2, c3, c4, c5, c6, c7, c8, c9, c10] ++ B) (A.length + 10) [n0] = some (A ++ [c0, c1, c2, c3, c4, c5, c6, c7, c8, c9, n0] ++ B) := by
  have := lay_at (A ++ [c0, c1, c2, c3, c4, c5, c6, c7, c8, c9]) [c10] [n0] B rfl
  simpa using this
end Go.Proofs.Ytpmmbjcgabnloaa
namespace Go.Sx
set_option linter.unusedSimpArgs false
set_option linter.unusedVariables false
open Go.RowKit
section
variable {C : Ctx} {K : List KI} {s : St} {R : Array Oper} {l : List Oper} {d : Option Tmp} {t : TypeId} {pos : String} {aft : Array Edge}
theorem h_takeGD (i : Nat) {own0 : List (Nat × Nat × OO)} {G0 : Hp} {n j g : Nat} {want : Bool} {listed : Array Bool} {op : Op} {x : SV} (hi : R[i]? = some ⟨d, op, t, pos, aft, some (j, want)⟩) (hj : (R[j]?).bind (·.dst) = some g) (hg : lk g s.sl = some (.b want)) (hs : Region.noSelect R = true) (hf : Region.free .any R listed i = true)
    (hr : (Region.ready .any R listed).contains i = true) (hQ : QPd C d) (hd : dOk C.nt d = true) (ho : ∀ j y, lk j own0 = some y → lk j s.own = some y) (hG : Le G0 s.G)
    (hq : Quiet C s.sl own0 G0 op x.den) (h : SGo C (.h (Hold C own0 G0) R n (listed.setIfInBounds i true) :: K) ⟨putS d x s.sl, s.own, s.G, s.df⟩) :
    SGo C (.h (Hold C own0 G0) R (n + 1) listed :: K) s := by
  intro a w hS
  have hhold : Hold C own0 G0 w := ⟨fun k b o e => (hS.mem.own k b o (ho _ _ e)).1, fun b o e => hS.mem.has b o (hG b o e)⟩
  have := h _ _ (hS.put hd x hS.mem)
  have hy : yielded R a.tmps j = some want := yielded_ok hS hj ⟨_, hg, rfl⟩
  simp only [wpK] at this ⊢
  refine wpAnyHI_take (i := i) (v := x.den) hi hs hf hr ?_ (.inl ⟨by simp [Region.wanted, hy], fun w' hw' => hq a w' d t pos aft (some (j, want)) hS.sl hw'⟩) hhold this
  intro c a' w' hp
  exact wpK_panic c d x.den (fun a w => hQ c a w x.den) K a' w' hp
theorem h_takeUD (i : Nat) {own0 : List (Nat × Nat × OO)} {G0 : Hp} {n j g : Nat} {want u : Bool} {listed : Array Bool} {op : Op} (hi : R[i]? = some ⟨d, op, t, pos, aft, some (j, want)⟩) (hj : (R[j]?).bind (·.dst) = some g) (hg : lk g s.sl = some (.b u)) (hu : eqB u want = false) (hs : Region.noSelect R = true) (hf : Region.free .any R listed i = true)
    (hr : (Region.ready .any R listed).contains i = true) (hQ : QPd C d) (hd : dOk C.nt d = true) (ho : ∀ j y, lk j own0 = some y → lk j s.own = some y) (hG : Le G0 s.G)
    (h : SGo C (.h (Hold C own0 G0) R n (listed.setIfInBounds i true) :: K) ⟨putS d (.v undef) s.sl, s.own, s.G, s.df⟩) :
    SGo C (.h (Hold C own0 G0) R (n + 1) listed :: K) s := by
  intro a w hS
  have hhold : Hold C own0 G0 w := ⟨fun k b o e => (hS.mem.own k b o (ho _ _ e)).1, fun b o e => hS.mem.has b o (hG b o e)⟩
  have := h _ _ (hS.put hd (.v undef) hS.mem)
  have hy : yielded R a.tmps j = some u := yielded_ok hS hj ⟨_, hg, rfl⟩
  have hne : u ≠ want := fun e => by rw [e, eqB_self] at hu; cases hu
  simp only [wpK] at this ⊢
  refine wpAnyHI_take (i := i) (v := undef) hi hs hf hr ?_ (.inr ⟨by simp [Region.wanted, hy, hne], rfl⟩) hhold this
  intro c a' w' hp
  exact wpK_panic c d undef (fun a w => hQ c a w undef) K a' w' hp
end
end Go.Sx
