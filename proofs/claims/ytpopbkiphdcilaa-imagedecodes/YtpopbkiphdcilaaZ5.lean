/-
  The reference's reader: Read (begin).
-/
import Derived.Test.YtpopbkiphdcilaaZ4
import Derived.Lib.Bytes
set_option linter.unusedSimpArgs false
set_option linter.unusedVariables false
namespace Go.Proofs.Ytpopbkiphdcilaa
set_option linter.unusedSimpArgs false
set_option linter.unusedVariables false
open Go.Sx
theorem rB_src2 {G : Hp} {l : List Int} {ad : Option Addr} {n cap : Nat} (h : rB.S G l (.slice ad n cap)) (h0 : l ≠ []) : ∃ b off, ad = some ⟨b, off, none⟩ ∧ At G b off (bZ l) := by
  obtain ⟨_, ad', cap', hse, h | ⟨b, off, cs, hb, hat, hL⟩⟩ := h
  · exact absurd h h0
  · cases hse
    obtain ⟨rfl, _⟩ := rB_L.1 hL
    exact ⟨b, off, hb, hat⟩
theorem str_eq {a b : List Int} (ha : okB a) (hb : okB b) : ((strOfNums a).toList == (strOfNums b).toList) = decide (a = b) := by
  have key : ∀ {l : List Int}, okB l → (strOfNums l).toList.map (fun c => ((c.toNat : Nat) : Int)) = l := fun {l} hl => by
    rw [Lib.strOfNums_toList, Lib.bytesOf, List.map_map]
    conv => rhs; rw [← List.map_id l]
    apply List.map_congr_left
    intro x hx
    have := hl x hx
    simp only [Function.comp, id, UInt8.toNat_ofNat']
    omega
  by_cases h : a = b
  · subst h; simp
  · rw [decide_eq_false h, beq_eq_false_iff_ne]
    exact fun q => h (by rw [← key ha, ← key hb, q])
theorem seal_iff {b : List Int} (hb : okB b) (h4 : 4 ≤ b.length) : sealB (b.take (b.length - 4)) = b ↔ sumE b = sumB (b.take (b.length - 4)) := by
  obtain ⟨l, t, hlt, rfl⟩ : ∃ l t, t.length = 4 ∧ b = l ++ t := ⟨b.take (b.length - 4), b.drop (b.length - 4), by simp; omega, (List.take_append_drop _ _).symm⟩
  have e : (l ++ t).take ((l ++ t).length - 4) = l := by rw [List.length_append, hlt, Nat.add_sub_cancel]; simp
  rw [e]
  match t, hlt with
  | [x0, x1, x2, x3], _ =>
    have q0 := hb x0 (by simp)
    have q1 := hb x1 (by simp)
    have q2 := hb x2 (by simp)
    have q3 := hb x3 (by simp)
    have hs := sm_lt l 1 (by omega)
    have hS : sumE (l ++ [x0, x1, x2, x3]) = x0.toNat + x1.toNat * 256 + x2.toNat * 65536 + x3.toNat * 16777216 := by
      simp only [sumE, List.getD_eq_getElem?_getD, List.length_append, List.length_cons, List.length_nil]
      rw [List.getElem?_append_right (by omega), List.getElem?_append_right (by omega), List.getElem?_append_right (by omega), List.getElem?_append_right (by omega)]
      rw [show l.length + (0 + 1 + 1 + 1 + 1) - 4 - l.length = 0 by omega, show l.length + (0 + 1 + 1 + 1 + 1) - 3 - l.length = 1 by omega, show l.length + (0 + 1 + 1 + 1 + 1) - 2 - l.length = 2 by omega, show l.length + (0 + 1 + 1 + 1 + 1) - 1 - l.length = 3 by omega]
      rfl
    rw [hS, sealB]
    change sumB l < 4294967296 at hs
    constructor
    · intro h
      have := List.append_cancel_left h
      simp only [le4, List.cons.injEq, and_true] at this
      omega
    · intro h
      congr 1
      simp only [le4, List.cons.injEq, and_true]
      omega
set_option maxHeartbeats 8000000
theorem rread_ok (b0 : List Int) (sl : Value) (G : Hp) (hl : rBS G b0 sl) : Pure Try.prog 36 [sl] G (readQ G b0) := by
  have hl0 := hl
  obtain ⟨hl1, ad, cap, rfl, hcap⟩ := hl
  have h63 := Rp.S_len hl1
  have hb := rB_ok hl1
  refine enterX ty tyok Try.func36 rfl Try.ntmps36 [.v (.slice ad b0.length cap)] (by simp) ?_
  intro C hP hQ hnt hty hmb hmh hro; have hQp := qp_body hQ; refine st_ ?_
  refine rn_ ?_; intros
  rename_i b1 b2
  refine x_split rfl rfl rfl (fun hlong => ?_) (fun hlong => ?_) <;> (refine st_ ?_; (refine ru_ ?_; intros))
  · refine rn_ ?_; intros
    refine x_retc rfl hQ hmb rfl (by rw [hty]; simp only [so, sq, zy, zz, tyE, SO', SQ', opQ, opStore, opAlloc, ev, putS, dOk, cv, SV.cs, SV.one, SV.bool?, eqB, Value.oneCell', ldOwn, binInt, binConst, binBool, binStr, isC, TK.agg, rv, rv1, ldV, resOne, resV, Nat.reduceAdd, Nat.reduceMul, Nat.reduceSub, Nat.reduceLT, Nat.reduceLeDiff, Nat.reduceEqDiff, Nat.reduceBEq, reduceIte, reduceCtorEq, eq_self]; try rfl) rfl ?_; simp only [SV.den, resV, dens]
    exact ⟨none, 0, 0, none, 0, 0, 3, rfl, fun _ => rfl, fun h => by have := of_decide_eq_true hlong; omega⟩
  have hlong' : ¬ 1048576 < b0.length := by have := of_decide_eq_false hlong; omega
  have hrd : rdS b0 = if b0.length < 4 then none else match rdL (b0.take (b0.length - 4)) with
      | none => none
      | some r => if sumE b0 = sumB (b0.take (b0.length - 4)) then some r else none := by rw [rdS]; try rfl
  refine go_keep [0, 2, 3, 4, 5, 6] [0, 1] ?_
  refine st_ ?_
  rcases Nat.lt_or_ge b0.length 7 with h7 | h7
  · have hno : rdS b0 = none := by
      rw [hrd]
      by_cases h4 : b0.length < 4
      · rw [if_pos h4]
      · rw [if_neg h4]
        rcases Nat.lt_or_ge (b0.length - 4) 3 with q | q
        · rw [rdL_no (j := b0.length - 4) q (by rw [List.getElem?_eq_none (by simp)]; simp)]
        · omega
    refine x_draw rfl (by rw [hP]; kernel_rfl) rfl (by kernel_rfl) ?_
    refine runq 400 hty hnt ?_; refine st_ ?_
    (refine go_qsplit rfl rfl (fun _ => ?_) (fun hc => absurd hc (by (have h1 := of_decide_eq_false hc; omega))); refine st_ ?_; (try (refine runq 400 hty hnt ?_; refine st_ ?_)))
    refine q_end ?_; refine rn_ ?_; intros
    refine x_retc rfl hQ hmb rfl (by rw [hty]; simp only [so, sq, zy, zz, tyE, SO', SQ', opQ, opStore, opAlloc, ev, putS, dOk, cv, SV.cs, SV.one, SV.bool?, eqB, Value.oneCell', ldOwn, binInt, binConst, binBool, binStr, isC, TK.agg, rv, rv1, ldV, resOne, resV, Nat.reduceAdd, Nat.reduceMul, Nat.reduceSub, Nat.reduceLT, Nat.reduceLeDiff, Nat.reduceEqDiff, Nat.reduceBEq, reduceIte, reduceCtorEq, eq_self]; try rfl) rfl ?_; simp only [SV.den, resV, dens]
    exact ⟨none, 0, 0, none, 0, 0, 80, rfl, fun h => by omega, fun _ => by rw [hno]⟩
  · have hd7 : decide ((b0.length : Int) < 7) = false := decide_eq_false (by omega)
    have hne : b0 ≠ [] := by intro h; rw [h] at h7; simp at h7
    rw [if_neg (by omega)] at hrd
    obtain ⟨bb, off, rfl, hat⟩ := rB_src2 hl1 hne
    have hld : ∀ i, i < b0.length → At G bb (off + i) [.int .u8 (b0.getD i 0)] := fun i hi => by
      have e : ((bZ b0).drop i).take 1 = [.int .u8 (b0.getD i 0)] := by
        rw [bZ, ← List.map_drop, List.drop_eq_getElem_cons hi, List.getD_eq_getElem?_getD, List.getElem?_eq_getElem hi]; rfl
      exact e ▸ hat.sub i 1 (by rw [bZ_len]; omega)
    refine x_held [] rfl (by rw [hP]; kernel_rfl) rfl rfl rfl ?_
    refine st_ ?_
    refine h_take 0 rfl (by kernel_rfl) (by kernel_rfl) (by kernel_rfl) hQp (by rw [hnt]; rfl) (allIn (by repeat (first | exact trivial | refine ⟨rfl, ?_⟩))) (by first | exact Le.refl _ | assumption) (quiet_op (by rw [hty]; first | rfl | (refine st_ ?_; rfl))) ?_; refine st_ ?_
    refine h_take 1 rfl (by kernel_rfl) (by kernel_rfl) (by kernel_rfl) hQp (by rw [hnt]; rfl) (allIn (by repeat (first | exact trivial | refine ⟨rfl, ?_⟩))) (by first | exact Le.refl _ | assumption) (quiet_op (by rw [hty]; first | rfl | (refine st_ ?_; rfl))) ?_; refine st_ ?_
    refine h_take 2 rfl (by kernel_rfl) (by kernel_rfl) (by kernel_rfl) hQp (by rw [hnt]; rfl) (allIn (by repeat (first | exact trivial | refine ⟨rfl, ?_⟩))) (by first | exact Le.refl _ | assumption) (quiet_op (by rw [hty]; first | rfl | (refine st_ ?_; rfl))) ?_; refine st_ ?_
    rw [hd7]
    refine h_take 3 rfl (by kernel_rfl) (by kernel_rfl) (by kernel_rfl) hQp (by rw [hnt]; rfl) (allIn (by repeat (first | exact trivial | refine ⟨rfl, ?_⟩))) (by first | exact Le.refl _ | assumption) (quiet_op (by rw [hty]; first | rfl | (refine st_ ?_; rfl))) ?_; refine st_ ?_
    refine go_slot 24 (.b false) rfl (by simp [SV.den]) ?_
    refine st_ ?_
    refine h_takeG 4 rfl rfl rfl (by kernel_rfl) (by kernel_rfl) (by kernel_rfl) hQp (by rw [hnt]; rfl) (allIn (by repeat (first | exact trivial | refine ⟨rfl, ?_⟩))) (by first | exact Le.refl _ | assumption) (quiet_op (by rw [hty]; first | rfl | (refine st_ ?_; rfl))) ?_; refine st_ ?_
    refine h_takeG 7 rfl rfl rfl (by kernel_rfl) (by kernel_rfl) (by kernel_rfl) hQp (by rw [hnt]; rfl) (allIn (by repeat (first | exact trivial | refine ⟨rfl, ?_⟩))) (by first | exact Le.refl _ | assumption) (quiet_op (by rw [hty]; first | rfl | (refine st_ ?_; rfl))) ?_; refine st_ ?_
    refine h_takeG 8 rfl rfl rfl (by kernel_rfl) (by kernel_rfl) (by kernel_rfl) hQp (by rw [hnt]; rfl) (allIn (by repeat (first | exact trivial | refine ⟨rfl, ?_⟩))) (by first | exact Le.refl _ | assumption) (x := .v (.string (strOfNums b0))) ((quiet_strG (by rw [hty]; rfl) (by rw [hty]; rfl) (by rw [hty]; rfl) rfl rfl rfl (.inr ⟨_, _, rfl, .inl hat⟩)).cast rfl) ?_; refine st_ ?_
    refine h_one 5 rfl (by kernel_rfl) ?_
    refine rn_ ?_; intros
    refine go_call (by rw [hnt]; rfl) (by rw [hP]; kernel_rfl) rfl (hP ▸ Sealed_ok b0 _ _ hl0 (by omega)) ?_
    rintro v G1 (hle1 : Le G G1) hS
    rw [if_neg (by omega)] at hS
    obtain ⟨hS1, ad1, cap1, rfl, _⟩ := hS
    have hX : okB (sealB (b0.take (b0.length - 4))) := rB_ok hS1
    have hsi := seal_iff hb (show 4 ≤ b0.length by omega)
    have hX0 : sealB (b0.take (b0.length - 4)) ≠ [] := by simp [sealB, le4]
    generalize sealB (b0.take (b0.length - 4)) = X at *
    obtain ⟨bx, offx, rfl, hatx⟩ := rB_src2 hS1 hX0
    refine st_ ?_
    refine rn_ ?_; intros
    refine h_hs (allIn (by repeat (first | exact trivial | refine ⟨rfl, ?_⟩))) (by first | exact Le.refl _ | assumption) ?_
    refine h_one 6 rfl (by kernel_rfl) ?_
    refine rn_ ?_; intros
    refine go_q (v := .string (strOfNums X)) (by rw [hnt]; rfl) (quiet_strG (by rw [hty]; rfl) (by rw [hty]; rfl) (by rw [hty]; rfl) rfl rfl rfl (.inr ⟨_, _, rfl, .inl hatx⟩)) ?_
    refine rn_ ?_; intros
    refine h_hs (allIn (by repeat (first | exact trivial | refine ⟨rfl, ?_⟩))) (by first | exact Le.refl _ | assumption) ?_
    refine h_takeG 9 rfl rfl rfl (by kernel_rfl) (by kernel_rfl) (by kernel_rfl) hQp (by rw [hnt]; rfl) (allIn (by repeat (first | exact trivial | refine ⟨rfl, ?_⟩))) (by first | exact Le.refl _ | assumption) (quiet_op (by rw [hty]; first | rfl | (refine st_ ?_; rfl))) ?_; refine st_ ?_
    by_cases hs : X = b0
    rotate_left
    · have hstr : (!(strOfNums X).toList == (strOfNums b0).toList) = true := by rw [str_eq hX hb, decide_eq_false hs]; rfl
      have hne' : ¬ sumE b0 = sumB (b0.take (b0.length - 4)) := fun q => hs (hsi.2 q)
      have hno : rdS b0 = none := by
        rw [hrd]
        cases rdL (b0.take (b0.length - 4)) with
        | none => rfl
        | some r => simp only [if_neg hne']
      rw [hstr]
      refine go_slot 30 (.b true) rfl (by simp [SV.den]) ?_
      refine st_ ?_
      refine h_take 10 rfl (by kernel_rfl) (by kernel_rfl) (by kernel_rfl) hQp (by rw [hnt]; rfl) (allIn (by repeat (first | exact trivial | refine ⟨rfl, ?_⟩))) (by first | exact Le.refl _ | assumption) (quiet_op (by rw [hty]; first | rfl | (refine st_ ?_; rfl))) ?_; refine st_ ?_
      refine h_take 11 rfl (by kernel_rfl) (by kernel_rfl) (by kernel_rfl) hQp (by rw [hnt]; rfl) (allIn (by repeat (first | exact trivial | refine ⟨rfl, ?_⟩))) (by first | exact Le.refl _ | assumption) (quiet_op (by rw [hty]; first | rfl | (refine st_ ?_; rfl))) ?_; refine st_ ?_
      refine go_slot 32 (.b true) rfl (by simp [SV.den]) ?_
      refine st_ ?_
      refine h_takeU 12 rfl rfl rfl rfl (by kernel_rfl) (by kernel_rfl) (by kernel_rfl) hQp (by rw [hnt]; rfl) (allIn (by repeat (first | exact trivial | refine ⟨rfl, ?_⟩))) (by first | exact Le.refl _ | assumption) ?_; refine st_ ?_
      refine h_takeU 13 rfl rfl rfl rfl (by kernel_rfl) (by kernel_rfl) (by kernel_rfl) hQp (by rw [hnt]; rfl) (allIn (by repeat (first | exact trivial | refine ⟨rfl, ?_⟩))) (by first | exact Le.refl _ | assumption) ?_; refine st_ ?_
      refine h_takeU 14 rfl rfl rfl rfl (by kernel_rfl) (by kernel_rfl) (by kernel_rfl) hQp (by rw [hnt]; rfl) (allIn (by repeat (first | exact trivial | refine ⟨rfl, ?_⟩))) (by first | exact Le.refl _ | assumption) ?_; refine st_ ?_
      refine h_takeU 15 rfl rfl rfl rfl (by kernel_rfl) (by kernel_rfl) (by kernel_rfl) hQp (by rw [hnt]; rfl) (allIn (by repeat (first | exact trivial | refine ⟨rfl, ?_⟩))) (by first | exact Le.refl _ | assumption) ?_; refine st_ ?_
      refine h_take 16 rfl (by kernel_rfl) (by kernel_rfl) (by kernel_rfl) hQp (by rw [hnt]; rfl) (allIn (by repeat (first | exact trivial | refine ⟨rfl, ?_⟩))) (by first | exact Le.refl _ | assumption) (quiet_op (by rw [hty]; first | rfl | (refine st_ ?_; rfl))) ?_; refine st_ ?_
      refine h_take 17 rfl (by kernel_rfl) (by kernel_rfl) (by kernel_rfl) hQp (by rw [hnt]; rfl) (allIn (by repeat (first | exact trivial | refine ⟨rfl, ?_⟩))) (by first | exact Le.refl _ | assumption) (quiet_op (by rw [hty]; first | rfl | (refine st_ ?_; rfl))) ?_; refine st_ ?_
      refine go_slot 38 (.b true) rfl (by simp [SV.den]) ?_
      refine st_ ?_
      refine h_takeU 18 rfl rfl rfl rfl (by kernel_rfl) (by kernel_rfl) (by kernel_rfl) hQp (by rw [hnt]; rfl) (allIn (by repeat (first | exact trivial | refine ⟨rfl, ?_⟩))) (by first | exact Le.refl _ | assumption) ?_; refine st_ ?_
      refine h_takeU 19 rfl rfl rfl rfl (by kernel_rfl) (by kernel_rfl) (by kernel_rfl) hQp (by rw [hnt]; rfl) (allIn (by repeat (first | exact trivial | refine ⟨rfl, ?_⟩))) (by first | exact Le.refl _ | assumption) ?_; refine st_ ?_
      refine h_takeU 20 rfl rfl rfl rfl (by kernel_rfl) (by kernel_rfl) (by kernel_rfl) hQp (by rw [hnt]; rfl) (allIn (by repeat (first | exact trivial | refine ⟨rfl, ?_⟩))) (by first | exact Le.refl _ | assumption) ?_; refine st_ ?_
      refine h_takeU 21 rfl rfl rfl rfl (by kernel_rfl) (by kernel_rfl) (by kernel_rfl) hQp (by rw [hnt]; rfl) (allIn (by repeat (first | exact trivial | refine ⟨rfl, ?_⟩))) (by first | exact Le.refl _ | assumption) ?_; refine st_ ?_
      refine h_take 22 rfl (by kernel_rfl) (by kernel_rfl) (by kernel_rfl) hQp (by rw [hnt]; rfl) (allIn (by repeat (first | exact trivial | refine ⟨rfl, ?_⟩))) (by first | exact Le.refl _ | assumption) (quiet_op (by rw [hty]; first | rfl | (refine st_ ?_; rfl))) ?_; refine st_ ?_
      refine h_take 23 rfl (by kernel_rfl) (by kernel_rfl) (by kernel_rfl) hQp (by rw [hnt]; rfl) (allIn (by repeat (first | exact trivial | refine ⟨rfl, ?_⟩))) (by first | exact Le.refl _ | assumption) (quiet_op (by rw [hty]; first | rfl | (refine st_ ?_; rfl))) ?_; refine st_ ?_
      refine go_slot 44 (.b true) rfl (by simp [SV.den]) ?_
      refine st_ ?_
      refine h_takeU 24 rfl rfl rfl rfl (by kernel_rfl) (by kernel_rfl) (by kernel_rfl) hQp (by rw [hnt]; rfl) (allIn (by repeat (first | exact trivial | refine ⟨rfl, ?_⟩))) (by first | exact Le.refl _ | assumption) ?_; refine st_ ?_
      refine h_takeU 25 rfl rfl rfl rfl (by kernel_rfl) (by kernel_rfl) (by kernel_rfl) hQp (by rw [hnt]; rfl) (allIn (by repeat (first | exact trivial | refine ⟨rfl, ?_⟩))) (by first | exact Le.refl _ | assumption) ?_; refine st_ ?_
      refine h_takeU 26 rfl rfl rfl rfl (by kernel_rfl) (by kernel_rfl) (by kernel_rfl) hQp (by rw [hnt]; rfl) (allIn (by repeat (first | exact trivial | refine ⟨rfl, ?_⟩))) (by first | exact Le.refl _ | assumption) ?_; refine st_ ?_
      refine h_takeU 27 rfl rfl rfl rfl (by kernel_rfl) (by kernel_rfl) (by kernel_rfl) hQp (by rw [hnt]; rfl) (allIn (by repeat (first | exact trivial | refine ⟨rfl, ?_⟩))) (by first | exact Le.refl _ | assumption) ?_; refine st_ ?_
      refine h_take 28 rfl (by kernel_rfl) (by kernel_rfl) (by kernel_rfl) hQp (by rw [hnt]; rfl) (allIn (by repeat (first | exact trivial | refine ⟨rfl, ?_⟩))) (by first | exact Le.refl _ | assumption) (quiet_op (by rw [hty]; first | rfl | (refine st_ ?_; rfl))) ?_; refine st_ ?_
      refine h_end (by kernel_rfl) ?_
      refine rn_ ?_; intros
      refine x_retc rfl hQ hmb rfl (by rw [hty]; simp only [so, sq, zy, zz, tyE, SO', SQ', opQ, opStore, opAlloc, ev, putS, dOk, cv, SV.cs, SV.one, SV.bool?, eqB, Value.oneCell', ldOwn, binInt, binConst, binBool, binStr, isC, TK.agg, rv, rv1, ldV, resOne, resV, Nat.reduceAdd, Nat.reduceMul, Nat.reduceSub, Nat.reduceLT, Nat.reduceLeDiff, Nat.reduceEqDiff, Nat.reduceBEq, reduceIte, reduceCtorEq, eq_self]; try rfl) rfl ?_; simp only [SV.den, resV, dens]
      exact ⟨none, 0, 0, none, 0, 0, 80, rfl, fun h => by omega, fun _ => by rw [hno]⟩
    have hstr : (!(strOfNums X).toList == (strOfNums b0).toList) = false := by rw [str_eq hX hb, decide_eq_true hs]; rfl
    have hrd2 : rdS b0 = rdL (b0.take (b0.length - 4)) := by
      rw [hrd]
      cases rdL (b0.take (b0.length - 4)) with
      | none => rfl
      | some r => simp only [if_pos (hsi.1 hs)]
    clear hrd
    rw [hstr]
    refine h_take 10 rfl (by kernel_rfl) (by kernel_rfl) (by kernel_rfl) hQp (by rw [hnt]; rfl) (allIn (by repeat (first | exact trivial | refine ⟨rfl, ?_⟩))) (by first | exact Le.refl _ | assumption) (quiet_op (by rw [hty]; first | rfl | (refine st_ ?_; rfl))) ?_; refine st_ ?_
    refine h_take 11 rfl (by kernel_rfl) (by kernel_rfl) (by kernel_rfl) hQp (by rw [hnt]; rfl) (allIn (by repeat (first | exact trivial | refine ⟨rfl, ?_⟩))) (by first | exact Le.refl _ | assumption) (quiet_op (by rw [hty]; first | rfl | (refine st_ ?_; rfl))) ?_; refine st_ ?_
    refine go_slot 32 (.b false) rfl (by simp [SV.den]) ?_
    refine st_ ?_
    have hlg : ∀ j, j < 3 → (b0.take (b0.length - 4))[j]? = some (b0.getD j 0) := fun j hj => by
      rw [List.getElem?_take, if_pos (by omega), List.getD_eq_getElem?_getD, List.getElem?_eq_getElem (by omega)]; rfl
    refine h_takeG 12 rfl rfl rfl (by kernel_rfl) (by kernel_rfl) (by kernel_rfl) hQp (by rw [hnt]; rfl) (allIn (by repeat (first | exact trivial | refine ⟨rfl, ?_⟩))) (by first | exact Le.refl _ | assumption) (quiet_op (by rw [hty]; first | rfl | (refine st_ ?_; rfl))) ?_; refine st_ ?_
    refine h_takeG 13 rfl rfl rfl (by kernel_rfl) (by kernel_rfl) (by kernel_rfl) hQp (by rw [hnt]; rfl) (allIn (by repeat (first | exact trivial | refine ⟨rfl, ?_⟩))) (by first | exact Le.refl _ | assumption) (x := .v (.pointer (some ⟨bb, off + 0, none⟩))) ((quiet_index (by rw [hty]; rfl) (by rw [hty]; rfl) rfl rfl rfl (by omega) (by omega)).cast (by simp [SV.den])) ?_; refine st_ ?_
    refine h_takeG 14 rfl rfl rfl (by kernel_rfl) (by kernel_rfl) (by kernel_rfl) hQp (by rw [hnt]; rfl) (allIn (by repeat (first | exact trivial | refine ⟨rfl, ?_⟩))) (by first | exact Le.refl _ | assumption) (x := .v (.int .u8 (b0.getD 0 0))) ((quiet_load (by rw [hty]; rfl) rfl (by simp [TK.agg]) (hld 0 (by omega)) rfl).cast rfl) ?_; refine st_ ?_
    refine h_takeG 15 rfl rfl rfl (by kernel_rfl) (by kernel_rfl) (by kernel_rfl) hQp (by rw [hnt]; rfl) (allIn (by repeat (first | exact trivial | refine ⟨rfl, ?_⟩))) (by first | exact Le.refl _ | assumption) (quiet_op (by rw [hty]; first | rfl | (refine st_ ?_; rfl))) ?_; refine st_ ?_
    by_cases g0 : b0.getD 0 0 = 66
    rotate_left
    · have hno : rdS b0 = none := by rw [hrd2, rdL_no (j := 0) (by omega) (by rw [hlg 0 (by omega)]; simpa using g0)]
      rw [show (b0.getD 0 0 != 66) = true by rw [bne_iff_ne]; exact g0]
      refine go_slot 36 (.b true) rfl (by simp [SV.den]) ?_
      refine st_ ?_
      refine h_take 16 rfl (by kernel_rfl) (by kernel_rfl) (by kernel_rfl) hQp (by rw [hnt]; rfl) (allIn (by repeat (first | exact trivial | refine ⟨rfl, ?_⟩))) (by first | exact Le.refl _ | assumption) (quiet_op (by rw [hty]; first | rfl | (refine st_ ?_; rfl))) ?_; refine st_ ?_
      refine h_take 17 rfl (by kernel_rfl) (by kernel_rfl) (by kernel_rfl) hQp (by rw [hnt]; rfl) (allIn (by repeat (first | exact trivial | refine ⟨rfl, ?_⟩))) (by first | exact Le.refl _ | assumption) (quiet_op (by rw [hty]; first | rfl | (refine st_ ?_; rfl))) ?_; refine st_ ?_
      refine go_slot 38 (.b true) rfl (by simp [SV.den]) ?_
      refine st_ ?_
      refine h_takeU 18 rfl rfl rfl rfl (by kernel_rfl) (by kernel_rfl) (by kernel_rfl) hQp (by rw [hnt]; rfl) (allIn (by repeat (first | exact trivial | refine ⟨rfl, ?_⟩))) (by first | exact Le.refl _ | assumption) ?_; refine st_ ?_
      refine h_takeU 19 rfl rfl rfl rfl (by kernel_rfl) (by kernel_rfl) (by kernel_rfl) hQp (by rw [hnt]; rfl) (allIn (by repeat (first | exact trivial | refine ⟨rfl, ?_⟩))) (by first | exact Le.refl _ | assumption) ?_; refine st_ ?_
      refine h_takeU 20 rfl rfl rfl rfl (by kernel_rfl) (by kernel_rfl) (by kernel_rfl) hQp (by rw [hnt]; rfl) (allIn (by repeat (first | exact trivial | refine ⟨rfl, ?_⟩))) (by first | exact Le.refl _ | assumption) ?_; refine st_ ?_
      refine h_takeU 21 rfl rfl rfl rfl (by kernel_rfl) (by kernel_rfl) (by kernel_rfl) hQp (by rw [hnt]; rfl) (allIn (by repeat (first | exact trivial | refine ⟨rfl, ?_⟩))) (by first | exact Le.refl _ | assumption) ?_; refine st_ ?_
      refine h_take 22 rfl (by kernel_rfl) (by kernel_rfl) (by kernel_rfl) hQp (by rw [hnt]; rfl) (allIn (by repeat (first | exact trivial | refine ⟨rfl, ?_⟩))) (by first | exact Le.refl _ | assumption) (quiet_op (by rw [hty]; first | rfl | (refine st_ ?_; rfl))) ?_; refine st_ ?_
      refine h_take 23 rfl (by kernel_rfl) (by kernel_rfl) (by kernel_rfl) hQp (by rw [hnt]; rfl) (allIn (by repeat (first | exact trivial | refine ⟨rfl, ?_⟩))) (by first | exact Le.refl _ | assumption) (quiet_op (by rw [hty]; first | rfl | (refine st_ ?_; rfl))) ?_; refine st_ ?_
      refine go_slot 44 (.b true) rfl (by simp [SV.den]) ?_
      refine st_ ?_
      refine h_takeU 24 rfl rfl rfl rfl (by kernel_rfl) (by kernel_rfl) (by kernel_rfl) hQp (by rw [hnt]; rfl) (allIn (by repeat (first | exact trivial | refine ⟨rfl, ?_⟩))) (by first | exact Le.refl _ | assumption) ?_; refine st_ ?_
      refine h_takeU 25 rfl rfl rfl rfl (by kernel_rfl) (by kernel_rfl) (by kernel_rfl) hQp (by rw [hnt]; rfl) (allIn (by repeat (first | exact trivial | refine ⟨rfl, ?_⟩))) (by first | exact Le.refl _ | assumption) ?_; refine st_ ?_
      refine h_takeU 26 rfl rfl rfl rfl (by kernel_rfl) (by kernel_rfl) (by kernel_rfl) hQp (by rw [hnt]; rfl) (allIn (by repeat (first | exact trivial | refine ⟨rfl, ?_⟩))) (by first | exact Le.refl _ | assumption) ?_; refine st_ ?_
      refine h_takeU 27 rfl rfl rfl rfl (by kernel_rfl) (by kernel_rfl) (by kernel_rfl) hQp (by rw [hnt]; rfl) (allIn (by repeat (first | exact trivial | refine ⟨rfl, ?_⟩))) (by first | exact Le.refl _ | assumption) ?_; refine st_ ?_
      refine h_take 28 rfl (by kernel_rfl) (by kernel_rfl) (by kernel_rfl) hQp (by rw [hnt]; rfl) (allIn (by repeat (first | exact trivial | refine ⟨rfl, ?_⟩))) (by first | exact Le.refl _ | assumption) (quiet_op (by rw [hty]; first | rfl | (refine st_ ?_; rfl))) ?_; refine st_ ?_
      refine h_end (by kernel_rfl) ?_
      refine rn_ ?_; intros
      refine x_retc rfl hQ hmb rfl (by rw [hty]; simp only [so, sq, zy, zz, tyE, SO', SQ', opQ, opStore, opAlloc, ev, putS, dOk, cv, SV.cs, SV.one, SV.bool?, eqB, Value.oneCell', ldOwn, binInt, binConst, binBool, binStr, isC, TK.agg, rv, rv1, ldV, resOne, resV, Nat.reduceAdd, Nat.reduceMul, Nat.reduceSub, Nat.reduceLT, Nat.reduceLeDiff, Nat.reduceEqDiff, Nat.reduceBEq, reduceIte, reduceCtorEq, eq_self]; try rfl) rfl ?_; simp only [SV.den, resV, dens]
      exact ⟨none, 0, 0, none, 0, 0, 80, rfl, fun h => by omega, fun _ => by rw [hno]⟩
    rw [show (b0.getD 0 0 != 66) = false by rw [g0]; rfl]
    refine h_take 16 rfl (by kernel_rfl) (by kernel_rfl) (by kernel_rfl) hQp (by rw [hnt]; rfl) (allIn (by repeat (first | exact trivial | refine ⟨rfl, ?_⟩))) (by first | exact Le.refl _ | assumption) (quiet_op (by rw [hty]; first | rfl | (refine st_ ?_; rfl))) ?_; refine st_ ?_
    refine h_take 17 rfl (by kernel_rfl) (by kernel_rfl) (by kernel_rfl) hQp (by rw [hnt]; rfl) (allIn (by repeat (first | exact trivial | refine ⟨rfl, ?_⟩))) (by first | exact Le.refl _ | assumption) (quiet_op (by rw [hty]; first | rfl | (refine st_ ?_; rfl))) ?_; refine st_ ?_
    refine go_slot 38 (.b false) rfl (by simp [SV.den]) ?_
    refine st_ ?_
    refine h_takeG 18 rfl rfl rfl (by kernel_rfl) (by kernel_rfl) (by kernel_rfl) hQp (by rw [hnt]; rfl) (allIn (by repeat (first | exact trivial | refine ⟨rfl, ?_⟩))) (by first | exact Le.refl _ | assumption) (quiet_op (by rw [hty]; first | rfl | (refine st_ ?_; rfl))) ?_; refine st_ ?_
    refine h_takeG 19 rfl rfl rfl (by kernel_rfl) (by kernel_rfl) (by kernel_rfl) hQp (by rw [hnt]; rfl) (allIn (by repeat (first | exact trivial | refine ⟨rfl, ?_⟩))) (by first | exact Le.refl _ | assumption) (x := .v (.pointer (some ⟨bb, off + 1, none⟩))) ((quiet_index (by rw [hty]; rfl) (by rw [hty]; rfl) rfl rfl rfl (by omega) (by omega)).cast (by simp [SV.den])) ?_; refine st_ ?_
    refine h_takeG 20 rfl rfl rfl (by kernel_rfl) (by kernel_rfl) (by kernel_rfl) hQp (by rw [hnt]; rfl) (allIn (by repeat (first | exact trivial | refine ⟨rfl, ?_⟩))) (by first | exact Le.refl _ | assumption) (x := .v (.int .u8 (b0.getD 1 0))) ((quiet_load (by rw [hty]; rfl) rfl (by simp [TK.agg]) (hld 1 (by omega)) rfl).cast rfl) ?_; refine st_ ?_
    refine h_takeG 21 rfl rfl rfl (by kernel_rfl) (by kernel_rfl) (by kernel_rfl) hQp (by rw [hnt]; rfl) (allIn (by repeat (first | exact trivial | refine ⟨rfl, ?_⟩))) (by first | exact Le.refl _ | assumption) (quiet_op (by rw [hty]; first | rfl | (refine st_ ?_; rfl))) ?_; refine st_ ?_
    by_cases g1 : b0.getD 1 0 = 84
    rotate_left
    · have hno : rdS b0 = none := by rw [hrd2, rdL_no (j := 1) (by omega) (by rw [hlg 1 (by omega)]; simpa using g1)]
      rw [show (b0.getD 1 0 != 84) = true by rw [bne_iff_ne]; exact g1]
      refine go_slot 42 (.b true) rfl (by simp [SV.den]) ?_
      refine st_ ?_
      refine h_take 22 rfl (by kernel_rfl) (by kernel_rfl) (by kernel_rfl) hQp (by rw [hnt]; rfl) (allIn (by repeat (first | exact trivial | refine ⟨rfl, ?_⟩))) (by first | exact Le.refl _ | assumption) (quiet_op (by rw [hty]; first | rfl | (refine st_ ?_; rfl))) ?_; refine st_ ?_
      refine h_take 23 rfl (by kernel_rfl) (by kernel_rfl) (by kernel_rfl) hQp (by rw [hnt]; rfl) (allIn (by repeat (first | exact trivial | refine ⟨rfl, ?_⟩))) (by first | exact Le.refl _ | assumption) (quiet_op (by rw [hty]; first | rfl | (refine st_ ?_; rfl))) ?_; refine st_ ?_
      refine go_slot 44 (.b true) rfl (by simp [SV.den]) ?_
      refine st_ ?_
      refine h_takeU 24 rfl rfl rfl rfl (by kernel_rfl) (by kernel_rfl) (by kernel_rfl) hQp (by rw [hnt]; rfl) (allIn (by repeat (first | exact trivial | refine ⟨rfl, ?_⟩))) (by first | exact Le.refl _ | assumption) ?_; refine st_ ?_
      refine h_takeU 25 rfl rfl rfl rfl (by kernel_rfl) (by kernel_rfl) (by kernel_rfl) hQp (by rw [hnt]; rfl) (allIn (by repeat (first | exact trivial | refine ⟨rfl, ?_⟩))) (by first | exact Le.refl _ | assumption) ?_; refine st_ ?_
      refine h_takeU 26 rfl rfl rfl rfl (by kernel_rfl) (by kernel_rfl) (by kernel_rfl) hQp (by rw [hnt]; rfl) (allIn (by repeat (first | exact trivial | refine ⟨rfl, ?_⟩))) (by first | exact Le.refl _ | assumption) ?_; refine st_ ?_
      refine h_takeU 27 rfl rfl rfl rfl (by kernel_rfl) (by kernel_rfl) (by kernel_rfl) hQp (by rw [hnt]; rfl) (allIn (by repeat (first | exact trivial | refine ⟨rfl, ?_⟩))) (by first | exact Le.refl _ | assumption) ?_; refine st_ ?_
      refine h_take 28 rfl (by kernel_rfl) (by kernel_rfl) (by kernel_rfl) hQp (by rw [hnt]; rfl) (allIn (by repeat (first | exact trivial | refine ⟨rfl, ?_⟩))) (by first | exact Le.refl _ | assumption) (quiet_op (by rw [hty]; first | rfl | (refine st_ ?_; rfl))) ?_; refine st_ ?_
      refine h_end (by kernel_rfl) ?_
      refine rn_ ?_; intros
      refine x_retc rfl hQ hmb rfl (by rw [hty]; simp only [so, sq, zy, zz, tyE, SO', SQ', opQ, opStore, opAlloc, ev, putS, dOk, cv, SV.cs, SV.one, SV.bool?, eqB, Value.oneCell', ldOwn, binInt, binConst, binBool, binStr, isC, TK.agg, rv, rv1, ldV, resOne, resV, Nat.reduceAdd, Nat.reduceMul, Nat.reduceSub, Nat.reduceLT, Nat.reduceLeDiff, Nat.reduceEqDiff, Nat.reduceBEq, reduceIte, reduceCtorEq, eq_self]; try rfl) rfl ?_; simp only [SV.den, resV, dens]
      exact ⟨none, 0, 0, none, 0, 0, 80, rfl, fun h => by omega, fun _ => by rw [hno]⟩
    rw [show (b0.getD 1 0 != 84) = false by rw [g1]; rfl]
    refine h_take 22 rfl (by kernel_rfl) (by kernel_rfl) (by kernel_rfl) hQp (by rw [hnt]; rfl) (allIn (by repeat (first | exact trivial | refine ⟨rfl, ?_⟩))) (by first | exact Le.refl _ | assumption) (quiet_op (by rw [hty]; first | rfl | (refine st_ ?_; rfl))) ?_; refine st_ ?_
    refine h_take 23 rfl (by kernel_rfl) (by kernel_rfl) (by kernel_rfl) hQp (by rw [hnt]; rfl) (allIn (by repeat (first | exact trivial | refine ⟨rfl, ?_⟩))) (by first | exact Le.refl _ | assumption) (quiet_op (by rw [hty]; first | rfl | (refine st_ ?_; rfl))) ?_; refine st_ ?_
    refine go_slot 44 (.b false) rfl (by simp [SV.den]) ?_
    refine st_ ?_
    refine h_takeG 24 rfl rfl rfl (by kernel_rfl) (by kernel_rfl) (by kernel_rfl) hQp (by rw [hnt]; rfl) (allIn (by repeat (first | exact trivial | refine ⟨rfl, ?_⟩))) (by first | exact Le.refl _ | assumption) (quiet_op (by rw [hty]; first | rfl | (refine st_ ?_; rfl))) ?_; refine st_ ?_
    refine h_takeG 25 rfl rfl rfl (by kernel_rfl) (by kernel_rfl) (by kernel_rfl) hQp (by rw [hnt]; rfl) (allIn (by repeat (first | exact trivial | refine ⟨rfl, ?_⟩))) (by first | exact Le.refl _ | assumption) (x := .v (.pointer (some ⟨bb, off + 2, none⟩))) ((quiet_index (by rw [hty]; rfl) (by rw [hty]; rfl) rfl rfl rfl (by omega) (by omega)).cast (by simp [SV.den])) ?_; refine st_ ?_
    refine h_takeG 26 rfl rfl rfl (by kernel_rfl) (by kernel_rfl) (by kernel_rfl) hQp (by rw [hnt]; rfl) (allIn (by repeat (first | exact trivial | refine ⟨rfl, ?_⟩))) (by first | exact Le.refl _ | assumption) (x := .v (.int .u8 (b0.getD 2 0))) ((quiet_load (by rw [hty]; rfl) rfl (by simp [TK.agg]) (hld 2 (by omega)) rfl).cast rfl) ?_; refine st_ ?_
    refine h_takeG 27 rfl rfl rfl (by kernel_rfl) (by kernel_rfl) (by kernel_rfl) hQp (by rw [hnt]; rfl) (allIn (by repeat (first | exact trivial | refine ⟨rfl, ?_⟩))) (by first | exact Le.refl _ | assumption) (quiet_op (by rw [hty]; first | rfl | (refine st_ ?_; rfl))) ?_; refine st_ ?_
    by_cases g2 : b0.getD 2 0 = 1
    rotate_left
    · have hno : rdS b0 = none := by rw [hrd2, rdL_no (j := 2) (by omega) (by rw [hlg 2 (by omega)]; simpa using g2)]
      rw [show (b0.getD 2 0 != 1) = true by rw [bne_iff_ne]; exact g2]
      refine go_slot 48 (.b true) rfl (by simp [SV.den]) ?_
      refine st_ ?_
      refine h_take 28 rfl (by kernel_rfl) (by kernel_rfl) (by kernel_rfl) hQp (by rw [hnt]; rfl) (allIn (by repeat (first | exact trivial | refine ⟨rfl, ?_⟩))) (by first | exact Le.refl _ | assumption) (quiet_op (by rw [hty]; first | rfl | (refine st_ ?_; rfl))) ?_; refine st_ ?_
      refine h_end (by kernel_rfl) ?_
      refine rn_ ?_; intros
      refine x_retc rfl hQ hmb rfl (by rw [hty]; simp only [so, sq, zy, zz, tyE, SO', SQ', opQ, opStore, opAlloc, ev, putS, dOk, cv, SV.cs, SV.one, SV.bool?, eqB, Value.oneCell', ldOwn, binInt, binConst, binBool, binStr, isC, TK.agg, rv, rv1, ldV, resOne, resV, Nat.reduceAdd, Nat.reduceMul, Nat.reduceSub, Nat.reduceLT, Nat.reduceLeDiff, Nat.reduceEqDiff, Nat.reduceBEq, reduceIte, reduceCtorEq, eq_self]; try rfl) rfl ?_; simp only [SV.den, resV, dens]
      exact ⟨none, 0, 0, none, 0, 0, 80, rfl, fun h => by omega, fun _ => by rw [hno]⟩
    rw [show (b0.getD 2 0 != 1) = false by rw [g2]; rfl]
    refine h_take 28 rfl (by kernel_rfl) (by kernel_rfl) (by kernel_rfl) hQp (by rw [hnt]; rfl) (allIn (by repeat (first | exact trivial | refine ⟨rfl, ?_⟩))) (by first | exact Le.refl _ | assumption) (quiet_op (by rw [hty]; first | rfl | (refine st_ ?_; rfl))) ?_; refine st_ ?_
    refine h_end (by kernel_rfl) ?_
    refine rn_ ?_; intros
    have hrd3 := hlg 0 (by omega)
    rw [g0] at hrd3
    have hrd4 := hlg 1 (by omega)
    rw [g1] at hrd4
    have hrd5 := hlg 2 (by omega)
    rw [g2] at hrd5
    refine go_keep [0, 2, 3, 4, 5, 6, 49] [0, 1] ?_
    refine st_ ?_
    refine x_if rfl rfl rfl rfl (fun hc => absurd hc (by decide)) (fun _ => ?_)
    refine x_skip rfl ?_
    refine go_keep [0, 2, 3, 4, 5, 6] [0, 1] ?_
    refine st_ ?_
    exact rread_tail b0 (some ⟨bb, off, none⟩) cap b1 b2 G1 G hle1 C hP hQ hnt hty hmb hmh hro (Rp.S_mono hle1 hl1) hcap hlong' (by omega) hrd3 hrd4 hrd5 hrd2
end Go.Proofs.Ytpopbkiphdcilaa
namespace Go.Proofs.Ytpopbkiphdcilaa
set_option linter.unusedSimpArgs false
set_option linter.unusedVariables false
open Go.Sx
set_option maxHeartbeats 4000000
theorem rdecode_ok (b0 : List Int) (sl : Value) (G : Hp) (hl : rBS G b0 sl) : Pure Try.prog 19 [sl] G (fun r G' => ∃ (a1 : Option Addr) (n1 c1 : Nat), r = .tuple #[.agg #[.slice a1 n1 c1], .int .i64 (decR b0).2] ∧ rF.S G' ((decR b0).1.map (·.2)) (.slice a1 n1 c1)) := by
  have hl0 := hl
  obtain ⟨_, ad, cap, rfl, _⟩ := hl
  refine enterX ty tyok Try.func19 rfl Try.ntmps19 [.v (.slice ad b0.length cap)] (by simp) ?_
  intro C hP hQ hnt hty hmb hmh hro; have hQp := qp_body hQ; refine st_ ?_
  refine rn_ ?_; intros
  refine go_call (by rw [hnt]; rfl) (by rw [hP]; kernel_rfl) rfl (hP ▸ rread_ok b0 _ G hl0) ?_
  rintro v G1 (hle1 : Le G G1) ⟨a1, n1, c1, a2, n2, c2, no, rfl, hlo, hno⟩
  refine st_ ?_
  refine rn_ ?_; intros
  by_cases hlong : 1048576 < b0.length
  · have hd : decR b0 = ([], 3) := by rw [decR, if_pos hlong]
    rw [hlo hlong]
    (refine x_split rfl rfl rfl (fun _ => ?_) (fun hc => absurd hc (by first | decide +kernel | simp)); refine st_ ?_; (refine ru_ ?_; intros))
    refine rn_ ?_; intros
    refine x_retc rfl hQ hmb rfl (by rw [hty]; simp only [so, sq, zy, zz, tyE, SO', SQ', opQ, opStore, opAlloc, ev, putS, dOk, cv, SV.cs, SV.one, SV.bool?, eqB, Value.oneCell', ldOwn, binInt, binConst, binBool, binStr, isC, TK.agg, rv, rv1, ldV, resOne, resV, Nat.reduceAdd, Nat.reduceMul, Nat.reduceSub, Nat.reduceLT, Nat.reduceLeDiff, Nat.reduceEqDiff, Nat.reduceBEq, reduceIte, reduceCtorEq, eq_self]; try rfl) rfl ?_; simp only [SV.den, resV, dens]
    exact ⟨none, 0, 0, by rw [hd], by rw [hd]; exact Rp.S_nil _ _⟩
  have hno2 := hno hlong
  have hd0 : decR b0 = match rdS b0 with
    | none => ([], 80)
    | some r => if rgtP (r.map (·.2)) then (r, 0) else ([], 70) := by rw [decR, if_neg hlong]; try rfl
  cases hr : rdS b0 with
  | none =>
    rw [hr] at hno2 hd0
    subst hno2
    (refine x_split rfl rfl rfl (fun _ => ?_) (fun hc => absurd hc (by first | decide +kernel | simp)); refine st_ ?_; (refine ru_ ?_; intros))
    refine rn_ ?_; intros
    refine x_retc rfl hQ hmb rfl (by rw [hty]; simp only [so, sq, zy, zz, tyE, SO', SQ', opQ, opStore, opAlloc, ev, putS, dOk, cv, SV.cs, SV.one, SV.bool?, eqB, Value.oneCell', ldOwn, binInt, binConst, binBool, binStr, isC, TK.agg, rv, rv1, ldV, resOne, resV, Nat.reduceAdd, Nat.reduceMul, Nat.reduceSub, Nat.reduceLT, Nat.reduceLeDiff, Nat.reduceEqDiff, Nat.reduceBEq, reduceIte, reduceCtorEq, eq_self]; try rfl) rfl ?_; simp only [SV.den, resV, dens]
    exact ⟨none, 0, 0, by rw [hd0], by rw [hd0]; exact Rp.S_nil _ _⟩
  | some ps =>
    rw [hr] at hno2 hd0
    obtain ⟨rfl, hF, hI⟩ := hno2
    simp only at hd0
    (refine x_split rfl rfl rfl (fun hc => absurd hc (by first | decide +kernel | simp)) (fun _ => ?_); refine st_ ?_; (refine ru_ ?_; intros))
    refine rn_ ?_; intros
    refine go_callf (by rw [hnt]; rfl) (by rw [hP]; kernel_rfl) rfl (hP ▸ rrightp_ok _ _ _ hF) ?_; refine rn_ ?_; intros
    rcases Bool.eq_false_or_eq_true (rgtP (ps.map (·.2))) with hg | hg
    · rw [hg]
      rw [if_pos hg] at hd0
      (refine x_split rfl rfl rfl (fun hc => absurd hc (by first | decide +kernel | simp)) (fun _ => ?_); refine st_ ?_; (refine ru_ ?_; intros))
      refine rn_ ?_; intros
      refine x_retc rfl hQ hmb rfl (by rw [hty]; simp only [so, sq, zy, zz, tyE, SO', SQ', opQ, opStore, opAlloc, ev, putS, dOk, cv, SV.cs, SV.one, SV.bool?, eqB, Value.oneCell', ldOwn, binInt, binConst, binBool, binStr, isC, TK.agg, rv, rv1, ldV, resOne, resV, Nat.reduceAdd, Nat.reduceMul, Nat.reduceSub, Nat.reduceLT, Nat.reduceLeDiff, Nat.reduceEqDiff, Nat.reduceBEq, reduceIte, reduceCtorEq, eq_self]; try rfl) rfl ?_; simp only [SV.den, resV, dens]
      exact ⟨a1, n1, c1, by rw [hd0], by rw [hd0]; exact hF⟩
    · rw [hg]
      rw [hg] at hd0
      (refine x_split rfl rfl rfl (fun _ => ?_) (fun hc => absurd hc (by first | decide +kernel | simp)); refine st_ ?_; (refine ru_ ?_; intros))
      refine rn_ ?_; intros
      refine x_retc rfl hQ hmb rfl (by rw [hty]; simp only [so, sq, zy, zz, tyE, SO', SQ', opQ, opStore, opAlloc, ev, putS, dOk, cv, SV.cs, SV.one, SV.bool?, eqB, Value.oneCell', ldOwn, binInt, binConst, binBool, binStr, isC, TK.agg, rv, rv1, ldV, resOne, resV, Nat.reduceAdd, Nat.reduceMul, Nat.reduceSub, Nat.reduceLT, Nat.reduceLeDiff, Nat.reduceEqDiff, Nat.reduceBEq, reduceIte, reduceCtorEq, eq_self]; try rfl) rfl ?_; simp only [SV.den, resV, dens]
      exact ⟨none, 0, 0, by rw [hd0]; rfl, by rw [hd0]; exact Rp.S_nil _ _⟩
theorem decR_nil {b : List Int} (h : (decR b).2 ≠ 0) : (decR b).1 = [] := by
  unfold decR at h ⊢
  split at h
  · rename_i q; rw [if_pos q]
  · rename_i q
    rw [if_neg q]
    cases hr : rdS b with
    | none => rfl
    | some r =>
      rw [hr] at h
      simp only at h ⊢
      split at h
      · exact absurd rfl h
      · rename_i q2; rw [if_neg q2]
theorem decR_yes {b : List Int} (h : (decR b).2 = 0) : ¬ 1048576 < b.length ∧ rdS b = some (decR b).1 := by
  unfold decR at h ⊢
  split at h
  · simp at h
  · rename_i q
    refine ⟨q, ?_⟩
    rw [if_neg q]
    cases hr : rdS b with
    | none => rw [hr] at h; simp at h
    | some r =>
      rw [hr] at h
      simp only at h ⊢
      split at h
      · rename_i q2; rw [if_pos q2]
      · simp at h
theorem rplaces_ok (b0 : List Int) (sl : Value) (G : Hp) (hl : rBS G b0 sl) : Pure Try.prog 21 [sl] G (fun r G' => rI.S (diff G' G) ((decR b0).1.map (·.1)) r) := by
  have hl0 := hl
  obtain ⟨_, ad, cap, rfl, _⟩ := hl
  refine enterX ty tyok Try.func21 rfl Try.ntmps21 [.v (.slice ad b0.length cap)] (by simp) ?_
  intro C hP hQ hnt hty hmb hmh hro; have hQp := qp_body hQ; refine st_ ?_
  refine rn_ ?_; intros
  refine go_call (by rw [hnt]; rfl) (by rw [hP]; kernel_rfl) rfl (hP ▸ rdecode_ok b0 _ G hl0) ?_
  rintro v G1 (hle1 : Le G G1) ⟨a0, n0, c0, rfl, hF0⟩
  refine st_ ?_
  refine rn_ ?_; intros
  refine x_split rfl rfl rfl (fun hn0 => ?_) (fun hn0 => ?_) <;> (refine st_ ?_; (refine ru_ ?_; intros))
  · have hn0' : (decR b0).2 ≠ 0 := by have h1 : ((decR b0).2 != 0) = true := hn0; simpa using h1
    refine rn_ ?_; intros
    refine x_retc rfl hQ hmb rfl (by rw [hty]; simp only [so, sq, zy, zz, tyE, SO', SQ', opQ, opStore, opAlloc, ev, putS, dOk, cv, SV.cs, SV.one, SV.bool?, eqB, Value.oneCell', ldOwn, binInt, binConst, binBool, binStr, isC, TK.agg, rv, rv1, ldV, resOne, resV, Nat.reduceAdd, Nat.reduceMul, Nat.reduceSub, Nat.reduceLT, Nat.reduceLeDiff, Nat.reduceEqDiff, Nat.reduceBEq, reduceIte, reduceCtorEq, eq_self]; try rfl) rfl ?_; simp only [SV.den, resV, dens]
    rw [decR_nil hn0']
    exact Rp.S_nil _ _
  have hn0' : (decR b0).2 = 0 := by have h1 : ((decR b0).2 != 0) = false := hn0; simpa using h1
  obtain ⟨hlong, hr⟩ := decR_yes hn0'
  refine rn_ ?_; intros
  refine go_call (by rw [hnt]; rfl) (by rw [hP]; kernel_rfl) rfl (hP ▸ rread_ok b0 _ _ (rBS_mono hle1 hl0)) ?_
  rintro v G2 (hle2 : Le G1 G2) ⟨a1, n1, c1, a2, n2, c2, no, rfl, hlo, hno⟩
  have hno2 := hno hlong
  rw [hr] at hno2
  obtain ⟨rfl, hF, hI⟩ := hno2
  refine st_ ?_
  refine rn_ ?_; intros
  refine x_retc rfl hQ hmb rfl (by rw [hty]; simp only [so, sq, zy, zz, tyE, SO', SQ', opQ, opStore, opAlloc, ev, putS, dOk, cv, SV.cs, SV.one, SV.bool?, eqB, Value.oneCell', ldOwn, binInt, binConst, binBool, binStr, isC, TK.agg, rv, rv1, ldV, resOne, resV, Nat.reduceAdd, Nat.reduceMul, Nat.reduceSub, Nat.reduceLT, Nat.reduceLeDiff, Nat.reduceEqDiff, Nat.reduceBEq, reduceIte, reduceCtorEq, eq_self]; try rfl) rfl ?_; simp only [SV.den, resV, dens]
  exact Rp.S_mono (diff_mono hle1 (Le.refl _)) hI
end Go.Proofs.Ytpopbkiphdcilaa
namespace Go.Proofs.Ytpopbkiphdcilaa
set_option linter.unusedSimpArgs false
set_option linter.unusedVariables false
open Go.Sx
def plainA (ad : Option Addr) : Prop := ad = none ∨ ∃ b off, ad = some ⟨b, off, none⟩
section
variable {C : Ctx} {K : List KI} {s : St}
theorem go_rowD (k : Nat) {b n size : Nat} {e : TypeId} {v : Value} {xs : List Value} (hk : lk k s.own = some (b, .row v e size n xs)) (h : ∀ ad cap, v = .slice ad n cap → n ≤ cap → plainA ad → SGo C K s) : SGo C K s :=
  go_rowcases k hk (fun hv hn0 _ => h none 0 (by rw [hv, hn0]) (by omega) (.inl rfl)) (fun g cap hv hc _ => h _ cap hv hc (.inr ⟨_, _, rfl⟩))
theorem go_rowE (k : Nat) {b n size : Nat} {e : TypeId} {v : Value} {xs : List Value} (hk : lk k s.own = some (b, .row v e size n xs)) (h : ∀ ad cap, v = .slice ad n cap → n ≤ cap → ((xs = [] ∧ ad = none) ∨ ∃ g, ad = some ⟨g, 0, none⟩) → SGo C K s) : SGo C K s :=
  go_rowcases k hk (fun hv hn0 hx => h none 0 (by rw [hv, hn0]) (by omega) (.inl ⟨hx, rfl⟩)) (fun g cap hv hc _ => h _ cap hv hc (.inr ⟨_, rfl⟩))
theorem str_hatO {own : Owns} {G : Hp} {l : List Int} {ad : Option Addr} {b' n cap size : Nat} {e : TypeId} (k : Nat) (hk : lk k own = some (b', .row (.slice ad n cap) e size n (bZ l))) (hp : (bZ l = [] ∧ ad = none) ∨ ∃ g, ad = some ⟨g, 0, none⟩) :
    (l = [] ∧ (ad = none ∨ ∃ b off, ad = some ⟨b, off, none⟩)) ∨ ∃ b off, ad = some ⟨b, off, none⟩ ∧ ((At G b off (l.map (Value.int .u8 ·))) ∨ (off = 0 ∧ ∃ k b' e' size cap, lk k own = some (b', .row (.slice (some ⟨b, 0, none⟩) n cap) e' size n (l.map (Value.int .u8 ·))))) := by
  rcases hp with ⟨h0, rfl⟩ | ⟨g, rfl⟩
  · exact .inl ⟨by simpa [bZ] using h0, .inl rfl⟩
  · exact .inr ⟨g, 0, rfl, .inr ⟨rfl, k, b', e, size, cap, hk⟩⟩
theorem go_lendB {R : Array Oper} {l : List Oper} {d : Option Tmp} {t : TypeId} {pos : String} {aft : Array Edge} (k : Nat) {f : FuncId} {args : Array Operand} {tys : Array TypeId} {vs : List SV} {b n : Nat} {e : TypeId} {u : Value} {ts : List Int} {ψ : Value → Hp → Prop} (hd : dOk C.nt d = true) (hf : canCall C.P f = true) (ha : evs s.sl args.toList = some vs)
    (hk : lk k s.own = some (b, .row u e 1 n (bZ ts))) (hmh : C.mh ≤ k) (hn : n = ts.length) (h63 : n ≤ 9223372036854775807) (hok : okB ts) (hc : ∀ G1, Le s.G G1 → rBS G1 ts u → Pure C.P f (dens vs) G1 (fun v G' => ψ v (diff G' G1))) (hψ : ∀ v H H', Le H H' → ψ v H → ψ v H')
    (h : ∀ v G', Le s.G G' → ψ v G' → SGo C (.ops R l :: K) ⟨putS d (rv v) s.sl, s.own, G', s.df⟩) : SGo C (.ops R (⟨d, .call ⟨.value (.func f), args, tys⟩, t, pos, aft, none⟩ :: l) :: K) s := by
  subst hn
  refine go_rowcases k hk (fun hv hn0 hx => ?_) (fun g cap hv hcc hl => ?_)
  · have h0 : ts = [] := List.length_eq_zero_iff.1 hn0
    refine go_call hd hf ha (hc s.G (Le.refl _) ⟨⟨h63, none, 0, by rw [hv, h0]; rfl, .inl h0⟩, none, 0, by rw [hv, h0]; rfl, by omega⟩) ?_
    intro v G' hle hp
    exact h v G' hle (hψ v _ _ (diff_le _ _) hp)
  · subst hv
    exact go_lendRF k hd hf ha hk hmh (fun G1 hle hat => hc G1 hle ⟨⟨h63, _, _, rfl, .inr ⟨g, 0, _, rfl, hat, rB_L.2 ⟨rfl, hok⟩⟩⟩, _, _, rfl, hcc⟩) hψ h
theorem str_hat {own : Owns} {G : Hp} {l : List Int} {ad : Option Addr} {n cap : Nat} (h : rB.S G l (.slice ad n cap)) (hp : plainA ad) :
    (l = [] ∧ (ad = none ∨ ∃ b off, ad = some ⟨b, off, none⟩)) ∨ ∃ b off, ad = some ⟨b, off, none⟩ ∧ ((At G b off (l.map (Value.int .u8 ·))) ∨ (off = 0 ∧ ∃ k b' e' size cap, lk k own = some (b', .row (.slice (some ⟨b, 0, none⟩) n cap) e' size n (l.map (Value.int .u8 ·))))) := by
  by_cases h0 : l = []
  · exact .inl ⟨h0, hp⟩
  · obtain ⟨b, off, e, hat⟩ := rB_src2 h h0
    exact .inr ⟨b, off, e, .inl hat⟩
end
theorem plain_slice {P : Program} {w : World} {r : Reach} {base : Nat} {t e : TypeId} {ad : Option Addr} {n cap : Nat} (ht : P.underlying t = some (.slice e)) (h : Value.okWide P w r base t (.slice ad n cap)) : plainA ad := by
  simp only [Value.okWide, ht, Cell.okWide, Cell.ok] at h
  cases ad with
  | none => exact .inl rfl
  | some a =>
    obtain ⟨b, off, spot⟩ := a
    simp only at h
    obtain ⟨_, _, _, hs, _⟩ := h
    simp only at hs
    exact .inr ⟨b, off, by rw [hs]⟩
end Go.Proofs.Ytpopbkiphdcilaa
namespace Go.Sx
set_option linter.unusedSimpArgs false
set_option linter.unusedVariables false
open Go.RowKit
section
variable {C : Ctx} {K : List KI} {s : St} {R : Array Oper} {l : List Oper} {d : Option Tmp} {t : TypeId} {pos : String} {aft : Array Edge}
theorem go_strB (k : Nat) {S T e : TypeId} {x : Operand} {y : SV} {sz by' sz2 by2 sz3 by3 : Nat} {ze ze2 ze3 : List Value} {fl fl2 fl3 : List (Nat × Nat × Bool)} {xs : List Int}
    (hd : dOk C.nt d = true) (hT : C.ty T = some ⟨.slice e, sz, by', ze, fl⟩) (he : C.ty e = some ⟨.int .u8, sz2, by2, ze2, fl2⟩) (hS : C.ty S = some ⟨.str, sz3, by3, ze3, fl3⟩) (hx : ev s.sl x = some y) (hy : y.den = .string (strOfNums xs))
    (hok : ∀ n ∈ xs, 0 ≤ n ∧ n < 256) (hk : lk k s.own = none) (hmh : C.mh ≤ k)
    (h : ∀ G' b cap, Le s.G G' → s.G b = none → xs.length ≤ cap → At G' b 0 (xs.map (Value.int .u8 ·)) → SGo C (.ops R l :: K) ⟨putS d (.v (.slice (some ⟨b, 0, none⟩) xs.length cap)) s.sl, s.own, G', s.df⟩) : SGo C (.ops R (⟨d, .convert S T x, t, pos, aft, none⟩ :: l) :: K) s := by
  intro a w hSt
  have hxv := ev_ok hSt.sl hx
  rw [hy] at hxv
  have g1 := (C.tyok _ _ hT).k
  have g2 := (C.tyok _ _ he).k
  have g3 := (C.tyok _ _ hS).k
  simp only [TK.fits] at g1 g2 g3
  have hconv := run_bytes_of_string (P := C.P) w S T e (strOfNums xs) g3 g1 g2
  have hge := grownCap_ge w (strOfNums xs).size 0 e
  rw [strOfNums_size] at hconv hge
  generalize grownCap w xs.length 0 e = cap at *
  have hds : (strOfNums xs).data.size = xs.length := by simp [strOfNums]
  have hget : ∀ i : Nat, i < xs.length → (bytesRow (strOfNums xs) cap)[i]? = (xs.map (Value.int .u8 ·))[i]? := fun i hi => by
    have hi' : i < (strOfNums xs).data.size := by rw [hds]; exact hi
    have e1 : ((strOfNums xs).data[i]).toNat = xs[i].toNat := by
      have : (strOfNums xs).data[i] = UInt8.ofNat xs[i].toNat := by
        have h2 : (strOfNums xs).data.toList[i]? = some (UInt8.ofNat xs[i].toNat) := by rw [strOfNums_data, List.getElem?_map, List.getElem?_eq_getElem hi]; rfl
        rw [List.getElem?_eq_getElem (by simpa using hi')] at h2
        simpa using h2
      rw [this]
      have := hok xs[i] (List.getElem_mem hi)
      simp only [UInt8.toNat_ofNat']
      omega
    rw [bytesRow_at _ _ _ hi', e1, List.getElem?_map, List.getElem?_eq_getElem hi]
    have := hok xs[i] (List.getElem_mem hi)
    simp only [Option.map_some]
    congr 2; omega
  have hsize : xs.length ≤ (bytesRow (strOfNums xs) cap).size := by
    simp only [bytesRow, Array.size_append, Array.size_map, Array.size_replicate]
    omega
  generalize bytesRow (strOfNums xs) cap = row at *
  obtain ⟨o, ho⟩ : ∃ o, o = Obj.cells row e (row.size, row.size + 1) := ⟨_, rfl⟩
  rw [← ho] at hconv
  have hrun : (execOp a.eval ⟨d, .convert S T x, t, pos, aft, none⟩).run C.P w = .ok (.value (.slice (some ⟨w.heap.size, 0, none⟩) xs.length cap)) (w.drew.alloc o) := by
    simp only [execOp, hxv, Sem.run_bind, hconv, Result.andThen_ok, Sem.run_pure]
  have hnone : s.G w.heap.size = none := by
    cases hq : s.G w.heap.size with
    | none => rfl
    | some o' => have := lt_of_heap (hSt.mem.has _ _ hq); omega
  have hm : Mem C (stk k (w.heap.size, .o o) s.own) s.G (w.drew.alloc o) := by
    have hdr := hSt.mem.drew
    refine hdr.new hk hmh rfl rfl rfl (by show w.heap.size ≤ (w.heap.push o).size; simp) (fun j hj => alloc_old w.drew o hj) (alloc_new w.drew o) (fun g hg => ?_)
    simp only [OO.blks] at hg
    show w.heap.size ≤ g
    omega
  refine K_value rfl hrun ?_
  have hS' := hSt.put hd (.v (.slice (some ⟨w.heap.size, 0, none⟩) xs.length cap)) hm
  have key : SGo C (.ops R l :: K) ⟨putS d (.v (.slice (some ⟨w.heap.size, 0, none⟩) xs.length cap)) s.sl, stk k (w.heap.size, .o o) s.own, s.G, s.df⟩ := by
    refine go_pubx k (b := w.heap.size) (g := w.heap.size) (o := .o o) (x := o) (by simp only []; rw [lk_stk, if_pos rfl]) hmh rfl (fun _ h => h) ?_
    intro G' hle hG'
    refine SGo.weaken (s' := ⟨putS d (.v (.slice (some ⟨w.heap.size, 0, none⟩) xs.length cap)) s.sl, s.own, G', s.df⟩) rfl rfl (fun i x h => .inl h) (fun i x h => ?_) (h G' w.heap.size cap hle hnone hge ⟨row, e, (row.size, row.size + 1), by rw [← ho]; exact hG', by simp only [List.length_map]; omega, fun i hi => by rw [Nat.zero_add]; exact hget i (by simpa using hi)⟩)
    simp only [] at h ⊢
    rw [lk_rmk, lk_stk]
    split
    · rename_i hik; subst hik; rw [hk] at h; cases h
    · exact h
  exact key _ _ hS'
theorem go_ren (k k' : Nat) {b : Nat} {o : OO} (hk : lk k s.own = some (b, o)) (h1 : C.mh ≤ k) (h : SGo C K ⟨s.sl, [(k', b, o)], s.G, s.df⟩) : SGo C K s := by
  intro a w hS
  refine h a w ⟨hS.sl, hS.nt, hS.df, ⟨fun i b' o' e => ?_, fun i j b' b2 o' o2 g e e2 _ _ => ?_, hS.mem.grow⟩⟩
  · have e' : lk k s.own = some (b', o') := by
      simp only [lk] at e
      split at e
      · rw [hk]; exact e
      · cases e
    obtain ⟨f1, f2⟩ := hS.mem.own k b' o' e'
    exact ⟨f1, fun g hg => ⟨(f2 g hg).1, fun _ => (f2 g hg).2.1 h1, fun _ => .inr ((f2 g hg).2.1 h1)⟩⟩
  · simp only [lk] at e e2
    split at e
    · split at e2
      · simp_all
      · cases e2
    · cases e
end
end Go.Sx
