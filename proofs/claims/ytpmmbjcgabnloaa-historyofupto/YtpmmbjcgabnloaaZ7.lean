/-
  Rows.HistoryOfUptoSaid is proved here: for arguments of bulk at most 1048576.
-/
import Derived.Test.YtpmmbjcgabnloaaZ6
set_option linter.unusedSimpArgs false
set_option linter.unusedVariables false
namespace Go.Proofs.Ytpmmbjcgabnloaa
set_option linter.unusedSimpArgs false
set_option linter.unusedVariables false
open Go.Sx
set_option maxHeartbeats 8000000
set_option maxRecDepth 20000
theorem sd_sml {v : VT} {n : Int} {y : VT} (h : sdP v = some (n, y)) : sml y = true := by
  rw [sdP] at h
  split at h
  · rename_i a b hl
    split at h
    · rename_i hc
      obtain ⟨_, hv, _⟩ := hc
      cases h
      have h1 : sml v = true := by rw [vld] at hv; exact (Bool.and_eq_true _ _ ▸ hv).1
      simp only [sml, decide_eq_true_eq] at h1 ⊢
      have e1 := cnt_eq v 0 (by omega)
      have e2 := cnt_eq y 0 (by omega)
      have e3 := tsz_l v
      rw [hl] at e3
      simp only [tszL] at e3
      omega
    · cases h
  · cases h
def SmO (o : Op) : Prop := sml o.arg = true ∧ sml o.res = true
theorem ofStep_sml {last : Int} {out out' : List Op} {x : Mk} (h : ofStep last out x = some out') (hs : ∀ o ∈ out, SmO o) : ∀ o ∈ out', SmO o := by
  have hn : sml noneV = true := by kernel_rfl
  rw [ofStep] at h
  split at h
  · cases h
  split at h
  · cases h; exact hs
  rename_i n y hsd
  have hy := sd_sml hsd
  split at h
  · split at h
    · cases h
    · split at h
      · cases h
      · rename_i k _ o ho
        split at h
        · cases h
          intro q hq
          rcases List.mem_or_eq_of_mem_set hq with hq | rfl
          · exact hs q hq
          · exact ⟨(hs o (List.mem_of_getElem? ho)).1, hy⟩
        · cases h
  · rename_i hodd
    split at h
    · cases h
      intro q hq
      rcases List.mem_append.1 hq with hq | hq
      · exact hs q hq
      · rw [List.mem_singleton] at hq
        subst hq
        rw [dntOp, if_neg hodd]
        exact ⟨hy, hn⟩
    · cases h
theorem ofP_sml : ∀ {l : List Mk} {last : Int} {out out' : List Op}, ofP l last out = some out' → (∀ o ∈ out, SmO o) → ∀ o ∈ out', SmO o
  | [], _, _, _, h, hs => by rw [ofP] at h; cases h; exact hs
  | x :: r, last, out, out', h, hs => by
    rw [ofP] at h
    split at h
    · cases h
    · rename_i o1 h1
      exact ofP_sml h (ofStep_sml h1 hs)
mutual
theorem veq_refl' : ∀ (x : VT), veq x x = true
  | .mk k n l => by simp [veq, veqL_refl' l]
theorem veqL_refl' : ∀ (l : List VT), veqL l l = true
  | [] => by simp [veqL]
  | x :: l => by simp [veqL, veq_refl' x, veqL_refl' l]
end
theorem opEq_self {o : Op} (h : SmO o) : opEq o o = true := by simp [opEq, vsm, h.1, h.2, veq_refl']
theorem historyOf_ok (l : List Mk) (sl : Value) (G : Hp) (hl : rMk.S G l sl) : Pure Try.prog 3 [sl] G (fun v _ => v = .bool true) := by
  have h10 := hl
  obtain ⟨ad1, cap1, rfl⟩ := Rp.S_slice hl
  have h63 := Rp.S_len hl
  refine enterX ty tyok Try.func3 rfl Try.ntmps3 [.v (.slice ad1 l.length cap1)] (by simp) ?_
  intro C hP hQ hnt hty hmb hmh hro; have hQp := qp_body hQ; refine st_ ?_
  refine rn_ ?_; intros
  refine x_split rfl rfl rfl (fun h1 => ?_) (fun h1 => ?_) <;> (refine st_ ?_; (refine ru_ ?_; intros))
  · refine rn_ ?_; intros
    refine go_callf (by rw [hnt]; rfl) (by rw [hP]; kernel_rfl) rfl (hP ▸ works29_ok G) ?_; refine rn_ ?_; intros
    refine x_retc rfl hQ hmb rfl (by rw [hty]; simp only [so, sq, zy, zz, tyE, SO', SQ', opQ, opStore, opAlloc, ev, putS, dOk, cv, SV.cs, SV.one, SV.bool?, eqB, Value.oneCell', ldOwn, binInt, binConst, binBool, binStr, isC, TK.agg, rv, rv1, ldV, resOne, resV, Nat.reduceAdd, Nat.reduceMul, Nat.reduceSub, Nat.reduceLT, Nat.reduceLeDiff, Nat.reduceEqDiff, Nat.reduceBEq, reduceIte, reduceCtorEq, eq_self]; try rfl) rfl ?_; simp only [SV.den, resV, dens]
  have h1' := of_decide_eq_false h1
  refine rn_ ?_; intros
  refine go_keep [0, 3] [] ?_
  refine st_ ?_
  refine x_loop rfl (fun q s => ∃ (k : Nat) (G' : Hp), k ≤ l.length ∧ q = l.length - k ∧ Le G G' ∧
    s = ⟨[(0, .v (.slice ad1 l.length cap1)), (3, .v (.int .i64 k))], [], G', []⟩) ⟨0, G, by omega, rfl, Le.refl _, rfl⟩ ?_
  rintro q s ⟨k, G1, hk, hq, hle, rfl⟩ ih
  refine rn_ ?_; intros
  refine x_if rfl rfl rfl rfl (fun hjl => ?_) (fun hjl => ?_)
  · have hlt : k < l.length := by simp at hjl; omega
    obtain ⟨bm, om, sa, rfl, hat, hra, hba, _⟩ := rMk_at h10 (i := k) hlt
    refine rn_ ?_; intros
    refine go_q (by rw [hnt]; rfl) (quiet_index (by rw [hty]; rfl) (by rw [hty]; rfl) rfl rfl rfl (by omega) (by omega)) ?_
    refine rn_ ?_; intros
    refine go_q (by rw [hnt]; rfl) (quiet_load (by rw [hty]; rfl) rfl (by simp [TK.agg]) ((hat.sub 2 3 (by simp)).mono hle) rfl) ?_
    refine rn_ ?_; intros
    refine go_call (by rw [hnt]; rfl) (by rw [hP]; kernel_rfl) rfl (hP ▸ refsize_ok l[k].v sa G1 (VT.rep_mono hle hra) (by omega)) ?_
    rintro v G2 (hle2 : Le G1 G2) rfl
    refine rn_ ?_; intros
    refine x_split rfl rfl rfl (fun ha => ?_) (fun ha => ?_) <;> (refine st_ ?_; (refine ru_ ?_; intros))
    · refine rn_ ?_; intros
      refine go_callf (by rw [hnt]; rfl) (by rw [hP]; kernel_rfl) rfl (hP ▸ works29_ok G2) ?_; refine rn_ ?_; intros
      refine x_retc rfl hQ hmb rfl (by rw [hty]; simp only [so, sq, zy, zz, tyE, SO', SQ', opQ, opStore, opAlloc, ev, putS, dOk, cv, SV.cs, SV.one, SV.bool?, eqB, Value.oneCell', ldOwn, binInt, binConst, binBool, binStr, isC, TK.agg, rv, rv1, ldV, resOne, resV, Nat.reduceAdd, Nat.reduceMul, Nat.reduceSub, Nat.reduceLT, Nat.reduceLeDiff, Nat.reduceEqDiff, Nat.reduceBEq, reduceIte, reduceCtorEq, eq_self]; try rfl) rfl ?_; simp only [SV.den, resV, dens]
    refine rn_ ?_; intros
    rw [wr (n := (k : Int) + 1) (by omega) (by omega)]
    refine go_keep [0, 3] [] ?_
    refine st_ ?_
    exact ih (l.length - (k + 1)) _ (by omega) ⟨k + 1, G2, by omega, rfl, hle.trans hle2, by simp [SV.den]⟩
  refine rn_ ?_; intros
  have hrep := Rp.S_mono hle h10
  cases hof : ofP l 0 [] with
  | none =>
    refine go_callf (v := .tuple #[.slice none 0 0, .int .i64 290]) (by rw [hnt]; rfl) (by rw [hP]; kernel_rfl) rfl (hP ▸ (hOf_ok l _ G1 hrep (by omega)).mono fun v G' hle hv => by rw [hof] at hv; exact hv) ?_
    refine rn_ ?_; intros
    refine go_callf (v := .tuple #[.slice none 0 0, .int .i64 290]) (by rw [hnt]; rfl) (by rw [hP]; kernel_rfl) rfl (hP ▸ (rOf_ok l _ G1 hrep (by omega)).mono fun v G' hle hv => by rw [hof] at hv; exact hv) ?_
    refine rn_ ?_; intros
    refine go_callf (by rw [hnt]; rfl) (by rw [hP]; kernel_rfl) rfl (hP ▸ num_ok 290 _) ?_; refine rn_ ?_; intros
    repeat (first | (refine go_gsplit rfl rfl (fun hc => absurd hc (by first | decide +kernel | (simp; first | done | fail))) (fun _ => ?_); refine st_ ?_; (refine rn_ ?_; intros)) | (refine go_gsplit rfl rfl (fun _ => ?_) (fun hc => absurd hc (by first | decide +kernel | (simp; first | done | fail))); refine st_ ?_; (refine rn_ ?_; intros)) | (refine x_split rfl rfl rfl (fun hc => absurd hc (by first | decide +kernel | (simp; first | done | fail))) (fun _ => ?_); refine st_ ?_; (refine ru_ ?_; intros)) | (refine x_split rfl rfl rfl (fun _ => ?_) (fun hc => absurd hc (by first | decide +kernel | (simp; first | done | fail))); refine st_ ?_; (refine ru_ ?_; intros)))
    refine go_keep [4, 6, 8] [] ?_
    refine st_ ?_
    refine x_loop rfl (fun q s => q = 0 ∧ s = ⟨[(4, .v (.slice none 0 0)), (6, .v (.slice none 0 0)), (8, .v (.int .i64 0))], [], G1, []⟩) ⟨rfl, rfl⟩ ?_
    rintro q s ⟨_, rfl⟩ ih
    refine rn_ ?_; intros
    (refine x_split rfl rfl rfl (fun hc => absurd hc (by first | decide +kernel | (simp; first | done | fail))) (fun _ => ?_); refine st_ ?_; (refine ru_ ?_; intros))
    refine rn_ ?_; intros
    refine go_callf (by rw [hnt]; rfl) (by rw [hP]; kernel_rfl) rfl (hP ▸ works29_ok G1) ?_; refine rn_ ?_; intros
    refine x_retc rfl hQ hmb rfl (by rw [hty]; simp only [so, sq, zy, zz, tyE, SO', SQ', opQ, opStore, opAlloc, ev, putS, dOk, cv, SV.cs, SV.one, SV.bool?, eqB, Value.oneCell', ldOwn, binInt, binConst, binBool, binStr, isC, TK.agg, rv, rv1, ldV, resOne, resV, Nat.reduceAdd, Nat.reduceMul, Nat.reduceSub, Nat.reduceLT, Nat.reduceLeDiff, Nat.reduceEqDiff, Nat.reduceBEq, reduceIte, reduceCtorEq, eq_self]; try rfl) rfl ?_; simp only [SV.den, resV, dens]
  | some out =>
    have hsm := ofP_sml hof (by simp)
    refine go_call (by rw [hnt]; rfl) (by rw [hP]; kernel_rfl) rfl (hP ▸ hOf_ok l _ G1 hrep (by omega)) ?_
    rintro v G2 (hle2 : Le G1 G2) hv
    rw [hof] at hv
    obtain ⟨s1, rfl, hS1⟩ := hv
    obtain ⟨ax, cx, rfl⟩ := Rp.S_slice hS1
    refine rn_ ?_; intros
    refine go_call (by rw [hnt]; rfl) (by rw [hP]; kernel_rfl) rfl (hP ▸ rOf_ok l _ G2 (Rp.S_mono hle2 hrep) (by omega)) ?_
    rintro v G3 (hle3 : Le G2 G3) hv
    rw [hof] at hv
    obtain ⟨s2, rfl, hS2⟩ := hv
    obtain ⟨ay, cy, rfl⟩ := Rp.S_slice hS2
    refine rn_ ?_; intros
    refine go_callf (by rw [hnt]; rfl) (by rw [hP]; kernel_rfl) rfl (hP ▸ num_ok 0 _) ?_; refine rn_ ?_; intros
    repeat (first | (refine go_gsplit rfl rfl (fun hc => absurd hc (by first | decide +kernel | (simp; first | done | fail))) (fun _ => ?_); refine st_ ?_; (refine rn_ ?_; intros)) | (refine go_gsplit rfl rfl (fun _ => ?_) (fun hc => absurd hc (by first | decide +kernel | (simp; first | done | fail))); refine st_ ?_; (refine rn_ ?_; intros)) | (refine x_split rfl rfl rfl (fun hc => absurd hc (by first | decide +kernel | (simp; first | done | fail))) (fun _ => ?_); refine st_ ?_; (refine ru_ ?_; intros)) | (refine x_split rfl rfl rfl (fun _ => ?_) (fun hc => absurd hc (by first | decide +kernel | (simp; first | done | fail))); refine st_ ?_; (refine ru_ ?_; intros)))
    have h64 := Rp.S_len hS2
    refine go_keep [4, 6, 8] [] ?_
    refine st_ ?_
    refine x_loop rfl (fun q s => ∃ (k : Nat), k ≤ out.length ∧ q = out.length - k ∧ s = ⟨[(4, .v (.slice ax out.length cx)), (6, .v (.slice ay out.length cy)), (8, .v (.int .i64 k))], [], G3, []⟩) ⟨0, by omega, rfl, rfl⟩ ?_
    rintro q s ⟨k, hk, hq, rfl⟩ ih
    refine rn_ ?_; intros
    refine x_if rfl rfl rfl rfl (fun hjl => ?_) (fun hjl => ?_)
    · have hlt : k < out.length := by simp at hjl; omega
      obtain ⟨b1, o1, sa1, sr1, rfl, hat1, hr1⟩ := rO_at (Rp.S_mono hle3 hS1) (i := k) hlt
      obtain ⟨b2, o2, sa2, sr2, rfl, hat2, hr2⟩ := rO_at hS2 (i := k) hlt
      refine rn_ ?_; intros
      obtain ⟨aA, cA, rfl⟩ := VT.rep_slice hr1.a
      obtain ⟨aB, cB, rfl⟩ := VT.rep_slice hr1.r
      obtain ⟨aD, cD, rfl⟩ := VT.rep_slice hr2.a
      obtain ⟨aE, cE, rfl⟩ := VT.rep_slice hr2.r
      refine x_draw rfl (by rw [hP]; kernel_rfl) rfl (by kernel_rfl) ?_
      refine runq 400 hty hnt ?_; refine st_ ?_
      refine q_q (by rw [hnt]; rfl) (quiet_index (by rw [hty]; rfl) (by rw [hty]; rfl) rfl rfl rfl (by omega) (by omega)) ?_; refine runq 400 hty hnt ?_; refine st_ ?_
      refine q_q (v := .agg (opL out[k] (.slice aA out[k].arg.l.length cA) (.slice aB out[k].res.l.length cB)).toArray) (by rw [hnt]; rfl) ((quiet_load (by rw [hty]; rfl) rfl (fun q => by cases q) hat1 rfl).cast (by simp only [ldV]; rfl)) ?_
      simp only [opL]
      refine runq 400 hty hnt ?_; refine st_ ?_
      refine q_q (by rw [hnt]; rfl) (quiet_index (by rw [hty]; rfl) (by rw [hty]; rfl) rfl rfl rfl (by omega) (by omega)) ?_; refine runq 400 hty hnt ?_; refine st_ ?_
      refine q_q (v := .agg (opL out[k] (.slice aD out[k].arg.l.length cD) (.slice aE out[k].res.l.length cE)).toArray) (by rw [hnt]; rfl) ((quiet_load (by rw [hty]; rfl) rfl (fun q => by cases q) hat2 rfl).cast (by simp only [ldV]; rfl)) ?_
      simp only [opL]
      refine runq 400 hty hnt ?_; refine st_ ?_
      refine q_callf (v := .bool true) (by rw [hnt]; rfl) (by rw [hP]; kernel_rfl) rfl (hP ▸ (rsame_ok out[k] out[k] _ _ _ _ G3 hr1 hr2).val (by rw [opEq_self (hsm _ (List.getElem_mem _))])) ?_
      refine runq 400 hty hnt ?_; refine st_ ?_
      refine q_end ?_; refine rn_ ?_; intros
      (refine x_split rfl rfl rfl (fun hc => absurd hc (by first | decide +kernel | (simp; first | done | fail))) (fun _ => ?_); refine st_ ?_; (refine ru_ ?_; intros))
      refine rn_ ?_; intros
      rw [wr (n := (k : Int) + 1) (by omega) (by omega)]
      refine go_keep [4, 6, 8] [] ?_
      refine st_ ?_
      exact ih (out.length - (k + 1)) _ (by omega) ⟨k + 1, by omega, rfl, by simp [SV.den]⟩
    refine rn_ ?_; intros
    refine go_callf (by rw [hnt]; rfl) (by rw [hP]; kernel_rfl) rfl (hP ▸ works29_ok G3) ?_; refine rn_ ?_; intros
    refine x_retc rfl hQ hmb rfl (by rw [hty]; simp only [so, sq, zy, zz, tyE, SO', SQ', opQ, opStore, opAlloc, ev, putS, dOk, cv, SV.cs, SV.one, SV.bool?, eqB, Value.oneCell', ldOwn, binInt, binConst, binBool, binStr, isC, TK.agg, rv, rv1, ldV, resOne, resV, Nat.reduceAdd, Nat.reduceMul, Nat.reduceSub, Nat.reduceLT, Nat.reduceLeDiff, Nat.reduceEqDiff, Nat.reduceBEq, reduceIte, reduceCtorEq, eq_self]; try rfl) rfl ?_; simp only [SV.den, resV, dens]
end Go.Proofs.Ytpmmbjcgabnloaa
namespace Go.Proofs.Ytpmmbjcgabnloaa.historyOf
set_option linter.unusedSimpArgs false
set_option linter.unusedVariables false
open Go.ChangeShapes Go.WideShapes Go.ChangeAt Go.RowKit

set_option maxRecDepth 100000
theorem contract (H : Type) (enc : TypeId × Value → H) (W : World) (base : Nat) (args : Array Value) (ds gs : List (DataW H)) (before : List MemPlace)
    (hval : ∀ (j : Nat) t v, Try.f3.params[j]? = some t → args[j]? = some v → Value.okWide Try.prog W .any base t v)
    (hW : DataW.Whole enc Try.prog Try.f3.params.toList Rows.historyOfSpec.vars false W args.toList ds gs before) (hk : Rows.uptoSmall H (ds ++ gs) = true) :
    Calls Try.prog 3 args W fun e W' => ∃ v, e = .returned v ∧ Rows.historyOfSpec.post enc Try.prog Try.f3 false true false false W args v W' := by
  have hW' := hW
  obtain ⟨p, q, hA0, hV, rfl, hfz, hnd⟩ := hW
  have hA : DataW.TrodAll enc Try.prog W 0 (fun _ => true) true Try.f3.params.toList args.toList ds p := hA0
  rw [Try.params3] at hA hval
  obtain ⟨v0, vs0, d0, ds0, p0, q0, hargs, rfl, rfl, h0, r0⟩ := trodAll_cons hA
  obtain ⟨rfl, rfl, rfl⟩ := trodAll_nil r0
  obtain rfl : args = #[v0] := by cases args; simp_all
  obtain ⟨rfl, rfl⟩ := trodVars_none hV
  clear hA0
  simp only [List.append_nil, List.nil_append] at hW' hk
  have hbulk : Rows.uptoBulkAll [d0] ≤ 1048576 := of_decide_eq_true hk
  simp only [Rows.uptoBulkAll, Rows.uptoBulk, Nat.add_zero] at hbulk
  have h0k := h0
  obtain ⟨n0, hf0⟩ := h0
  obtain ⟨ad0, len0, cap0, rfl⟩ := okWide_slice Try.underlying22 (hval 0 22 v0 rfl rfl)
  obtain ⟨ns0, f0, hcs0, hr0⟩ := open_marks (w := W) (by omega) hf0
  obtain rfl : (Value.slice ad0 len0 cap0) = ns0 := by simpa [Value.cells] using hcs0
  have hlt0 : ∀ x ∈ p0, x.block < W.heap.size := fun x hx => by simpa using hW'.lt x (by simp [hx])
  refine (historyOf_ok f0 _ (hp W) hr0 W (has_hp W)).mono ?_
  rintro e W' ⟨v, G', rfl, hg, rfl⟩
  have hb := hg.below
  exact ⟨_, rfl, post_below rfl rfl hW' (fun _ _ _ => (trodAll_cons_mk (shut_bool Try.underlying4 _) trodAll_mk0))
    (fun sp hsp => by have this := (trodAll_cons_mk (WideElems.Trod_stays laidOut (by kernel_rfl) (of_decide_eq_true (by kernel_rfl)) h0k (fun x hx => hb.same (hlt0 x hx)) (fun x hx => hsp x (by simp [hx]))) trodAll_mk0); simp only [List.append_nil, List.nil_append] at this; exact this)
    hb (ok_one (by kernel_rfl) rfl (okWide_bool_mk Try.underlying4 _))⟩

set_option maxRecDepth 100000 in
theorem lifted (os : Os) (started : os.Started) (H : Type) (enc : TypeId × Value → H) (F : Stop.Interp) :
    ReturnsInHanded {} Try.checked os 3 .any ((Rows.OpenSpec.upto Rows.historyOfSpec).pre6 enc Try.prog Try.f3 Rows.historyOfUptoRow.domain false) (((Rows.OpenSpec.upto Rows.historyOfSpec).at F).post enc Try.prog Try.f3 false true false false) := by
  refine returnsInHanded_of_cond (C := Try.checked) (s := Rows.OpenSpec.upto Rows.historyOfSpec) (k := Rows.uptoSmall) rfl own started (by kernel_rfl) Try.func3
    (OpenSpec.witness (enc := enc) (C := Try.checked) (s := Rows.OpenSpec.upto Rows.historyOfSpec) (k := Rows.uptoSmall) rfl false ⟨#[], #[.slice none 0 0], []⟩ 8 (by kernel_rfl) (by kernel_rfl) (by kernel_rfl)
      (x := ([.nil], [], [])) (by kernel_rfl) rfl (by kernel_rfl)) ?_
  intro W base args ds gs before hval hW _ hk _
  exact contract H enc W base args ds gs before hval hW hk

theorem over : Rows.historyOfUptoRow.holds Try.pinned (Rows.OpenSpec.upto Rows.historyOfSpec) :=
  OpenClaim.holds_of_cond 3 Try.f3 rfl rfl rfl rfl rfl rfl rfl ⟨rfl, rfl, rfl, rfl, rfl⟩ rfl rfl rfl rfl rfl (by kernel_rfl) Try.func3 (by kernel_rfl)
    (of_decide_eq_true (by kernel_rfl)) (by unfold Func.isWrapper; first | (rw [if_pos (by decide +kernel)]; kernel_rfl) | (rw [if_neg (by decide +kernel)]; exact ⟨rfl, rfl⟩))
    (fun os started H enc _ F => lifted os started H enc F)

theorem proved : Rows.HistoryOfUptoSaid := over
end Go.Proofs.Ytpmmbjcgabnloaa.historyOf

