/-
  Rows.ImageSumsSaid is proved here.
-/
import Derived.Test.YtpopbkiphdcilaaZ5
set_option linter.unusedSimpArgs false
set_option linter.unusedVariables false
namespace Go.Proofs.Ytpopbkiphdcilaa
set_option linter.unusedSimpArgs false
set_option linter.unusedVariables false
open Go.Sx
set_option maxHeartbeats 4000000
theorem rB_sub {G : Hp} {l : List Int} {ad : Option Addr} {n cap : Nat} (h : rB.S G l (.slice ad n cap)) (hcap : l.length ≤ cap) {i k : Nat} (hk : i + k ≤ l.length) : rB.S G ((l.drop i).take k) (Sx.sliced ad cap i (i + k) 1) := by
  obtain ⟨h63, ad', cap', hse, h1⟩ := h
  cases hse
  have hl : ((l.drop i).take k).length = k := by simp; omega
  refine ⟨by omega, _, _, by rw [hl, Sx.sliced, Nat.add_sub_cancel_left], ?_⟩
  rcases Nat.eq_zero_or_pos k with h0 | h0
  · left; exact List.length_eq_zero_iff.1 (by rw [hl, h0])
  rcases h1 with rfl | ⟨b, off, cs, rfl, hat, hL⟩
  · simp at hk; omega
  · obtain ⟨rfl, hok⟩ := rB_L.1 hL
    by_cases hc : cap = i
    · omega
    · right
      refine ⟨b, off + i, bZ ((l.drop i).take k), by rw [if_neg hc]; simp [add_none], ?_, rB_L.2 ⟨rfl, fun x hx => hok x (List.mem_of_mem_drop (List.mem_of_mem_take hx))⟩⟩
      have := hat.sub i k (by rw [bZ_len]; omega)
      simpa [bZ, List.map_take, List.map_drop] using this
theorem imageSums_ok (b : List Int) (sb : Value) (u : List Int) (su : Value) (G : Hp) (hb : rBS G b sb) (hu : rBS G u su) (hpb : ∀ ad n c, sb = .slice ad n c → plainA ad) : Pure Try.prog 4 [sb, su] G (fun r _ => r = .bool true) := by
  obtain ⟨hb0, adb, capb, rfl, hcb⟩ := hb
  obtain ⟨hu0, adu, capu, rfl, hcu⟩ := hu
  have hok := rB_ok hb0
  have hpb := hpb _ _ _ rfl
  refine enterX ty tyok Try.func4 rfl Try.ntmps4 [.v (.slice adb b.length capb), .v (.slice adu u.length capu)] (by simp) ?_
  intro C hP hQ hnt hty hmb hmh hro; have hQp := qp_body hQ; refine st_ ?_
  refine rn_ ?_; intros
  refine go_gsplit rfl rfl (fun h1 => ?_) (fun h1 => ?_) <;> (refine st_ ?_; (refine rn_ ?_; intros))
  · repeat (refine go_gundef rfl (by rw [hnt]; rfl) rfl ?_; (refine st_ ?_; (refine rn_ ?_; intros)))
    refine rn_ ?_; intros
    refine go_callf (by rw [hnt]; rfl) (by rw [hP]; kernel_rfl) rfl (hP ▸ works_ok _) ?_; refine rn_ ?_; intros
    refine x_retc rfl hQ hmb rfl (by rw [hty]; simp only [so, sq, zy, zz, tyE, SO', SQ', opQ, opStore, opAlloc, ev, putS, dOk, cv, SV.cs, SV.one, SV.bool?, eqB, Value.oneCell', ldOwn, binInt, binConst, binBool, binStr, isC, TK.agg, rv, rv1, ldV, resOne, resV, Nat.reduceAdd, Nat.reduceMul, Nat.reduceSub, Nat.reduceLT, Nat.reduceLeDiff, Nat.reduceEqDiff, Nat.reduceBEq, reduceIte, reduceCtorEq, eq_self]; try rfl) rfl ?_; simp only [SV.den, resV, dens]
  refine x_split rfl rfl rfl (fun h2 => ?_) (fun h2 => ?_) <;> (refine st_ ?_; (refine ru_ ?_; intros))
  · refine go_callf (by rw [hnt]; rfl) (by rw [hP]; kernel_rfl) rfl (hP ▸ works_ok _) ?_; refine rn_ ?_; intros
    refine x_retc rfl hQ hmb rfl (by rw [hty]; simp only [so, sq, zy, zz, tyE, SO', SQ', opQ, opStore, opAlloc, ev, putS, dOk, cv, SV.cs, SV.one, SV.bool?, eqB, Value.oneCell', ldOwn, binInt, binConst, binBool, binStr, isC, TK.agg, rv, rv1, ldV, resOne, resV, Nat.reduceAdd, Nat.reduceMul, Nat.reduceSub, Nat.reduceLT, Nat.reduceLeDiff, Nat.reduceEqDiff, Nat.reduceBEq, reduceIte, reduceCtorEq, eq_self]; try rfl) rfl ?_; simp only [SV.den, resV, dens]
  have h1' : b.length ≤ 600 := by have := of_decide_eq_false h1; omega
  have h2' : u.length ≤ 40 := by have := of_decide_eq_false h2; omega
  refine rn_ ?_; intros
  rename_i bl
  refine go_litrow 0 (n := 0) (size := 1) rfl (by omega) rfl (by omega) ?_
  refine st_ ?_
  have hsb := Rp.src (r := rB) (cap := capb) (by obtain ⟨_, a', c', hse, h⟩ := hb0; cases hse; exact h)
  obtain ⟨csb, hcb1, hsb'⟩ := hsb
  obtain ⟨rfl, _⟩ := rB_L.1 hcb1
  refine go_append_any 0 (by rw [hnt]; rfl) (by rw [hty]; rfl) (by rw [hty]; rfl) (by decide) rfl rfl rfl (by omega) rfl (hsb'.imp id fun h => h C _ rfl) (by simp [bZ]) (Rp.L_one hcb1) (by omega) (by simp only []; omega) ?_
  intro v'
  refine go_rowD 0 rfl ?_
  rintro adc capc rfl hcc hpc
  rw [Nat.zero_add] at hcc
  refine st_ ?_
  refine go_pubL rB 0 rfl (by omega) (ts := b) (by omega) (by omega) hcb1 ?_
  rintro G1 adc1 capc1 (hle1 : Le G G1) hse hS1
  injection hse with e1 _ e3
  subst e1 e3
  refine st_ ?_
  refine rn_ ?_; intros
  refine go_nilrow 42 27 1 rfl (by omega) ?_
  refine go_keep [0, 1, 4, 5, 6, 7, 8] [42] ?_
  refine st_ ?_
  refine x_loop rfl (fun q s => ∃ (i at' : Nat) (L : List (List Int)) (xs : List Value) (vp : Value), i ≤ u.length ∧ q = u.length - i ∧ at' ≤ b.length ∧ L.length = i ∧ L.flatten = b.take at' ∧ rBB.L G1 L xs ∧
    s = ⟨[(0, .v (.slice adb b.length capb)), (1, .v (.slice adu u.length capu)), (4, .b false), (5, .v (.slice adc b.length capc)), (6, .v vp), (7, .v (.int .i64 at')), (8, .v (.int .i64 i))],
      [(42, 0, .row vp 27 1 L.length xs)], G1, []⟩) ⟨0, 0, [], [], .slice none 0 0, by omega, rfl, by omega, rfl, rfl, rfl, rfl⟩ ?_
  rintro q s ⟨i, at', L, xs, vp, hiu, hq, hat, hLl, hLf, hxs, rfl⟩ ih
  refine go_rowS 42 rfl ?_
  rintro adp capp rfl
  refine rn_ ?_; intros
  refine x_if rfl rfl rfl rfl (fun hil => ?_) (fun hil => ?_)
  · have hlt : i < u.length := by simp at hil; omega
    obtain ⟨bu, offu, rfl, hatu, hu1, hu2⟩ := rB_at (Rp.S_mono hle1 hu0) hlt
    refine rn_ ?_; intros
    refine go_q (by rw [hnt]; rfl) (quiet_index (by rw [hty]; rfl) (by rw [hty]; rfl) rfl rfl rfl (by omega) (by omega)) ?_
    refine rn_ ?_; intros
    refine go_q (by rw [hnt]; rfl) (quiet_load (by rw [hty]; rfl) rfl (by simp [TK.agg]) (by simpa using hatu) rfl) ?_; refine rn_ ?_; intros
    simp only [Int.reduceLT, Int.reduceLE, Int.reduceEq, Int.reduceNeg, Int.le_refl, Int.reduceToNat, if_false, if_true, and_self]; refine st_ ?_; refine rn_ ?_; intros
    have hw1 := wr (n := (b.length : Int) - (at' : Int)) (by omega) (by omega)
    have hw2 := wr (n := u[i]) (by omega) (by omega)
    obtain ⟨k, hk, hkb⟩ : ∃ k : Nat, (if IntKind.i64.wrap ((b.length : Int) - (at' : Int)) < (IntKind.i64.wrap u[i]).tmod 60 then IntKind.i64.wrap ((b.length : Int) - (at' : Int)) else (IntKind.i64.wrap u[i]).tmod 60) = (k : Int) ∧ at' + k ≤ b.length := by
      rw [hw1, hw2, Int.tmod_eq_emod_of_nonneg (by omega)]
      exact ⟨(if (b.length : Int) - (at' : Int) < u[i] % 60 then (b.length : Int) - (at' : Int) else u[i] % 60).toNat, by split <;> omega, by split <;> omega⟩
    rw [hk, wr (n := (at' : Int) + (k : Int)) (by omega) (by omega), show (at' : Int) + (k : Int) = ((at' + k : Nat) : Int) by omega]
    refine go_q (v := Sx.sliced adc capc at' (at' + k) 1) (by rw [hnt]; rfl) ((quiet_sliceLoHi (by rw [hty]; rfl) (by rw [hty]; rfl) rfl rfl rfl rfl (by omega) (by omega) (by omega)).cast (by simp only [Int.toNat_natCast])) ?_
    have hsub := rB_sub hS1 hcc (i := at') (k := k) hkb
    obtain ⟨ads, caps, hse⟩ := Rp.S_slice hsub
    rw [hse] at hsub ⊢
    refine st_ ?_
    refine rn_ ?_; intros
    refine go_append 42 (by rw [hnt]; rfl) (by rw [hty]; rfl) (by rw [hty]; rfl) (by decide) rfl rfl rfl (by omega) rfl (src_own 1 rfl rfl) rfl (by simp [dens, SV.den, Value.oneCell']) (by omega) (by simp only []; omega) ?_
    intro v'
    refine go_rowS 42 rfl ?_
    rintro ad4 cap4 rfl
    refine rn_ ?_; intros
    rw [wr (n := (i : Int) + 1) (by omega) (by omega), wr (n := (at' : Int) + (k : Int)) (by omega) (by omega), show (at' : Int) + (k : Int) = ((at' + k : Nat) : Int) by omega]
    refine go_keep [0, 1, 4, 5, 6, 7, 8] [42] ?_
    refine st_ ?_
    exact ih (u.length - (i + 1)) _ (by omega) ⟨i + 1, at' + k, L ++ [(b.drop at').take k], xs ++ [.slice ads ((b.drop at').take k).length caps], .slice ad4 (L.length + 1) cap4, by omega, rfl, hkb, by simp [hLl], by rw [List.flatten_append, hLf, List.take_add]; simp, Rp.L_append hxs (Rp.L_single ⟨_, rfl, hsub⟩), by simp [dens, SV.den]⟩
  have hge : i = u.length := by simp at hil; omega
  subst hge
  refine rn_ ?_; intros
  have hkb : at' + (b.length - at') ≤ b.length := by omega
  refine go_q (v := Sx.sliced adc capc at' (at' + (b.length - at')) 1) (by rw [hnt]; rfl) ((quiet_sliceLo (by rw [hty]; rfl) (by rw [hty]; rfl) rfl rfl rfl (by omega) (by omega)).cast (by
    simp only [Int.toNat_natCast]; congr 1; omega)) ?_
  have hsub := rB_sub hS1 hcc (i := at') (k := b.length - at') hkb
  obtain ⟨ads, caps, hse⟩ := Rp.S_slice hsub
  rw [hse] at hsub ⊢
  refine st_ ?_
  refine rn_ ?_; intros
  refine go_append 42 (by rw [hnt]; rfl) (by rw [hty]; rfl) (by rw [hty]; rfl) (by decide) rfl rfl rfl (by omega) rfl (src_own 1 rfl rfl) rfl (by simp [dens, SV.den, Value.oneCell']) (by omega) (by simp only []; omega) ?_
  intro v'
  refine go_pubL rBB 42 rfl (by omega) (ts := L ++ [(b.drop at').take (b.length - at')]) (by simp) (by omega) (Rp.L_append hxs (Rp.L_single ⟨_, rfl, hsub⟩)) ?_
  rintro G2 adp2 capp2 (hle2 : Le G1 G2) hse2 hS2
  subst hse2
  have hflat : (L ++ [(b.drop at').take (b.length - at')]).flatten = b := by
    rw [List.flatten_append, hLf, List.flatten_singleton, ← List.take_add, show at' + (b.length - at') = b.length by omega, List.take_length]
  refine st_ ?_
  refine rn_ ?_; intros
  have hc := iSum_ok _ _ G2 hS2
  rw [hflat] at hc
  refine go_callf (by rw [hnt]; rfl) (by rw [hP]; kernel_rfl) rfl (hP ▸ hc) ?_; refine rn_ ?_; intros
  refine go_callf (by rw [hnt]; rfl) (by rw [hP]; kernel_rfl) rfl (hP ▸ rsum_ok b _ _ (Rp.S_mono (hle1.trans hle2) hb0)) ?_; refine rn_ ?_; intros
  (refine go_gsplit rfl rfl (fun _ => ?_) (fun hc => absurd hc (by first | decide +kernel | simp)); refine st_ ?_; (refine rn_ ?_; intros))
  refine go_q (v := .string (strOfNums b)) (by rw [hnt]; rfl) (quiet_strG (by rw [hty]; rfl) (by rw [hty]; rfl) (by rw [hty]; rfl) rfl rfl rfl (str_hat (Rp.S_mono hle2 hS1) hpc)) ?_
  refine rn_ ?_; intros
  refine go_q (v := .string (strOfNums b)) (by rw [hnt]; rfl) (quiet_strG (by rw [hty]; rfl) (by rw [hty]; rfl) (by rw [hty]; rfl) rfl rfl rfl (str_hat (Rp.S_mono (hle1.trans hle2) hb0) hpb)) ?_
  refine rn_ ?_; intros
  try simp only [beq_self_eq_true]
  (refine go_gsplit rfl rfl (fun _ => ?_) (fun hc => absurd hc (by first | decide +kernel | simp)); refine st_ ?_; (refine rn_ ?_; intros))
  refine go_callf (by rw [hnt]; rfl) (by rw [hP]; kernel_rfl) rfl (hP ▸ works_ok _) ?_; refine rn_ ?_; intros
  refine x_retc rfl hQ hmb rfl (by rw [hty]; simp only [so, sq, zy, zz, tyE, SO', SQ', opQ, opStore, opAlloc, ev, putS, dOk, cv, SV.cs, SV.one, SV.bool?, eqB, Value.oneCell', ldOwn, binInt, binConst, binBool, binStr, isC, TK.agg, rv, rv1, ldV, resOne, resV, Nat.reduceAdd, Nat.reduceMul, Nat.reduceSub, Nat.reduceLT, Nat.reduceLeDiff, Nat.reduceEqDiff, Nat.reduceBEq, reduceIte, reduceCtorEq, eq_self]; try rfl) rfl ?_; simp only [SV.den, resV, dens]
end Go.Proofs.Ytpopbkiphdcilaa
namespace Go.Proofs.Ytpopbkiphdcilaa.imageSums
set_option linter.unusedSimpArgs false
set_option linter.unusedVariables false
open Go.ChangeShapes Go.WideShapes Go.ChangeAt Go.RowKit Go.Sx

set_option maxRecDepth 100000
theorem contract (H : Type) (enc : TypeId × Value → H) (W : World) (base : Nat) (args : Array Value) (ds gs : List (DataW H)) (before : List MemPlace)
    (hval : ∀ (j : Nat) t v, Try.f4.params[j]? = some t → args[j]? = some v → Value.okWide Try.prog W .any base t v)
    (hW : DataW.Whole enc Try.prog Try.f4.params.toList Rows.imageSumsSpec.vars false W args.toList ds gs before) :
    Calls Try.prog 4 args W fun e W' => ∃ v, e = .returned v ∧ Rows.imageSumsSpec.post enc Try.prog Try.f4 false true false false W args v W' := by
  have hW' := hW
  obtain ⟨p, q, hA0, hV, rfl, hfz, hnd⟩ := hW
  have hA : DataW.TrodAll enc Try.prog W 0 (fun _ => true) true Try.f4.params.toList args.toList ds p := hA0
  rw [Try.params4] at hA hval
  obtain ⟨v0, vs0, d0, ds0, p0, q0, hargs, rfl, rfl, h0, r0⟩ := trodAll_cons hA
  obtain ⟨v1, vs1, d1, ds1, p1, q1, rfl, rfl, rfl, h1, r1⟩ := trodAll_cons r0
  obtain ⟨rfl, rfl, rfl⟩ := trodAll_nil r1
  obtain rfl : args = #[v0, v1] := by cases args; simp_all
  obtain ⟨rfl, rfl⟩ := trodVars_none hV
  clear hA0
  simp only [List.append_nil, List.nil_append] at hW'
  have h0k := h0
  obtain ⟨n0, hf0⟩ := h0
  obtain ⟨ad0, len0, cap0, rfl⟩ := okWide_slice Try.underlying27 (hval 0 27 v0 rfl rfl)
  obtain ⟨ns0, f0, hcs0, hr0⟩ := open_bytes (w := W) hf0
  obtain rfl : (Value.slice ad0 len0 cap0) = ns0 := by simpa [Value.cells] using hcs0
  have h1k := h1
  obtain ⟨n1, hf1⟩ := h1
  obtain ⟨ad1, len1, cap1, rfl⟩ := okWide_slice Try.underlying27 (hval 1 27 v1 rfl rfl)
  obtain ⟨ns1, f1, hcs1, hr1⟩ := open_bytes (w := W) hf1
  obtain rfl : (Value.slice ad1 len1 cap1) = ns1 := by simpa [Value.cells] using hcs1
  have hlt0 : ∀ x ∈ p0, x.block < W.heap.size := fun x hx => by simpa using hW'.lt x (by simp [hx])
  have hlt1 : ∀ x ∈ p1, x.block < W.heap.size := fun x hx => by simpa using hW'.lt x (by simp [hx])
  refine (imageSums_ok f0 _ f1 _ (hp W) hr0 hr1 (fun _ _ _ e => by cases e; exact plain_slice Try.underlying27 (hval 0 27 _ rfl rfl)) W (has_hp W)).mono ?_
  rintro e W' ⟨v, G', rfl, hg, rfl⟩
  have hb := hg.below
  exact ⟨_, rfl, post_below rfl rfl hW' (fun _ _ _ => (trodAll_cons_mk (shut_bool Try.underlying4 _) trodAll_mk0))
    (fun sp hsp => by have this := (trodAll_cons_mk (WideElems.Trod_stays laidOut (by kernel_rfl) (of_decide_eq_true (by kernel_rfl)) h0k (fun x hx => hb.same (hlt0 x hx)) (fun x hx => hsp x (by simp [hx]))) (trodAll_cons_mk (WideElems.Trod_stays laidOut (by kernel_rfl) (of_decide_eq_true (by kernel_rfl)) h1k (fun x hx => hb.same (hlt1 x hx)) (fun x hx => hsp x (by simp [hx]))) trodAll_mk0)); simp only [List.append_nil, List.nil_append] at this; exact this)
    hb (ok_one (by kernel_rfl) rfl (okWide_bool_mk Try.underlying4 _))⟩

set_option maxRecDepth 100000 in
theorem lifted (os : Os) (started : os.Started) (H : Type) (enc : TypeId × Value → H) :
    ReturnsInHanded {} Try.checked os 4 .any (Rows.imageSumsSpec.pre6 enc Try.prog Try.f4 Rows.imageSumsRow.domain false) (Rows.imageSumsSpec.post enc Try.prog Try.f4 false true false false) := by
  refine returnsInHanded_of_change (C := Try.checked) own started (by kernel_rfl) Try.func4
    (ChangeSpec.witness6 (enc := enc) (C := Try.checked) false ⟨#[], #[.slice none 0 0, .slice none 0 0], []⟩ 8 (by kernel_rfl) (by kernel_rfl) (by kernel_rfl) (by kernel_rfl)) ?_
  intro W base args ds gs before hval hW _ _
  exact contract H enc W base args ds gs before hval hW

theorem over : Rows.imageSumsRow.holds Try.pinned (OpenSpec.ofChange Rows.imageSumsSpec) :=
  OpenClaim.holds_of_wide 4 Try.f4 rfl rfl rfl rfl rfl rfl rfl ⟨rfl, rfl, rfl, rfl, rfl⟩ rfl rfl rfl rfl rfl (by kernel_rfl) Try.func4 (by kernel_rfl)
    (of_decide_eq_true (by kernel_rfl)) (by unfold Func.isWrapper; first | (rw [if_pos (by decide +kernel)]; kernel_rfl) | (rw [if_neg (by decide +kernel)]; exact ⟨rfl, rfl⟩))
    (fun os started H enc _ => lifted os started H enc)

theorem proved : Rows.ImageSumsSaid := over
end Go.Proofs.Ytpopbkiphdcilaa.imageSums

