/-
  Rows.HistorySameUptoSaid is proved here: for arguments of bulk at most 1048576.
-/
import Derived.Test.YtpmmbjcgabnloaaZ6
set_option linter.unusedSimpArgs false
set_option linter.unusedVariables false
namespace Go.Proofs.Ytpmmbjcgabnloaa
set_option linter.unusedSimpArgs false
set_option linter.unusedVariables false
open Go.Sx
set_option maxHeartbeats 8000000
set_option maxRecDepth 20000
mutual
theorem veq_refl : ∀ (x : VT), veq x x = true
  | .mk k n l => by simp [veq, veqL_refl l]
theorem veqL_refl : ∀ (l : List VT), veqL l l = true
  | [] => by simp [veqL]
  | x :: l => by simp [veqL, veq_refl x, veqL_refl l]
end
mutual
theorem veq_comm : ∀ (x y : VT), veq x y = veq y x
  | .mk k n l, .mk k' n' l' => by
    simp only [veq]
    rw [veqL_comm l l', show (k == k') = (k' == k) from BEq.comm, show (n == n') = (n' == n) from BEq.comm]
theorem veqL_comm : ∀ (l l' : List VT), veqL l l' = veqL l' l
  | [], [] => rfl
  | [], _ :: _ => by simp [veqL]
  | _ :: _, [] => by simp [veqL]
  | x :: l, y :: l' => by simp only [veqL]; rw [veq_comm x y, veqL_comm l l']
end
theorem opEq_comm (a b : Op) : opEq a b = opEq b a := by
  have hv : ∀ x y : VT, vsm x y = vsm y x := fun x y => by simp only [vsm]; rw [veq_comm x y, Bool.and_comm (sml x)]
  simp only [opEq, hv a.arg, hv a.res, show (a.th == b.th) = (b.th == a.th) from BEq.comm, show (a.kd == b.kd) = (b.kd == a.kd) from BEq.comm, show (a.fr == b.fr) = (b.fr == a.fr) from BEq.comm, show (a.to == b.to) = (b.to == a.to) from BEq.comm, show (a.dn == b.dn) = (b.dn == a.dn) from BEq.comm]
theorem historySame_ok (a b : Op) (n : Int) (sa sr ta tr : Value) (G : Hp) (ha : a.rep G sa sr) (hb : b.rep G ta tr) (hn : isI64 n) : Pure Try.prog 6 [.agg (opL a sa sr).toArray, .agg (opL b ta tr).toArray, .int .i64 n] G (fun v _ => v = .bool true) := by
  obtain ⟨ada, capa, rfl⟩ := VT.rep_slice ha.a
  obtain ⟨adr, capr, rfl⟩ := VT.rep_slice ha.r
  obtain ⟨bda, cbpa, rfl⟩ := VT.rep_slice hb.a
  obtain ⟨bdr, cbpr, rfl⟩ := VT.rep_slice hb.r
  refine enterX ty tyok Try.func6 rfl Try.ntmps6 [.a (opC a (.slice ada a.arg.l.length capa) (.slice adr a.res.l.length capr)), .a (opC b (.slice bda b.arg.l.length cbpa) (.slice bdr b.res.l.length cbpr)), .v (.int .i64 n)] (by simp) ?_
  simp only [opC]
  intro C hP hQ hnt hty hmb hmh hro; have hQp := qp_body hQ; refine st_ ?_
  refine rn_ ?_; intros
  rename_i bx
  refine go_pub 2 rfl (by omega) ?_
  intro G1 (hle1 : Le G G1) hG
  have hat := at_block hG
  simp only [dens, SV.den] at hat
  refine go_slot 10 (.v (.slice (some ⟨bx, 0, none⟩) 2 2)) rfl (by simp [SV.den]) ?_
  refine st_ ?_
  have ha1 := ha.mono hle1
  have hb1 := hb.mono hle1
  have hM1 : rO.S G1 [a, b] (.slice (some ⟨bx, 0, none⟩) 2 2) := ⟨by simp, _, _, rfl, .inr ⟨_, _, _, rfl, hat, [_, _, _, _, _, _, _, _, _, _, _], _, rfl, ⟨_, _, rfl, ha1⟩, [_, _, _, _, _, _, _, _, _, _, _], [], rfl, ⟨_, _, rfl, hb1⟩, rfl⟩⟩
  refine go_callf (by rw [hnt]; rfl) (by rw [hP]; kernel_rfl) rfl (hP ▸ few_ok [a, b] _ 2 G1 hM1) ?_; refine rn_ ?_; intros
  clear hM1 hat
  refine x_if rfl rfl rfl rfl (fun hx => ?_) (fun hx => ?_)
  · refine rn_ ?_; intros
    refine go_callf (by rw [hnt]; rfl) (by rw [hP]; kernel_rfl) rfl (hP ▸ works29_ok G1) ?_; refine rn_ ?_; intros
    refine x_retc rfl hQ hmb rfl (by rw [hty]; simp only [so, sq, zy, zz, tyE, SO', SQ', opQ, opStore, opAlloc, ev, putS, dOk, cv, SV.cs, SV.one, SV.bool?, eqB, Value.oneCell', ldOwn, binInt, binConst, binBool, binStr, isC, TK.agg, rv, rv1, ldV, resOne, resV, Nat.reduceAdd, Nat.reduceMul, Nat.reduceSub, Nat.reduceLT, Nat.reduceLeDiff, Nat.reduceEqDiff, Nat.reduceBEq, reduceIte, reduceCtorEq, eq_self]; try rfl) rfl ?_; simp only [SV.den, resV, dens]
  refine rn_ ?_; intros
  have hself : opEq a a = true := by
    have hf : fewO [a, b] 2 = true := by simpa using hx
    simp only [fewO, List.all_cons, Bool.and_eq_true, decide_eq_true_eq] at hf
    have s1 : sml a.arg = true := by simp only [sml, decide_eq_true_eq]; omega
    have s2 : sml a.res = true := by simp only [sml, decide_eq_true_eq]; omega
    simp [opEq, vsm, s1, s2, veq_refl]
  refine go_callf (by rw [hnt]; rfl) (by rw [hP]; kernel_rfl) rfl (hP ▸ rsame_ok a b _ _ _ _ G1 ha1 hb1) ?_; refine rn_ ?_; intros
  refine go_keep [2, 3, 4, 7] [0, 1] ?_
  refine st_ ?_
  refine x_draw rfl (by rw [hP]; kernel_rfl) rfl (by kernel_rfl) ?_
  refine runq 400 hty hnt ?_; refine st_ ?_
  refine q_callf (by rw [hnt]; rfl) (by rw [hP]; kernel_rfl) rfl (hP ▸ hsame_ok a b _ _ _ _ G1 ha1 hb1) ?_; refine runq 400 hty hnt ?_; refine st_ ?_
  refine go_slot 22 (.b true) rfl rfl ?_
  refine runq 400 hty hnt ?_; refine st_ ?_
  refine q_callf (v := .bool (opEq a b)) (by rw [hnt]; rfl) (by rw [hP]; kernel_rfl) rfl (hP ▸ (hsame_ok b a _ _ _ _ G1 hb1 ha1).val (by rw [opEq_comm])) ?_
  refine runq 400 hty hnt ?_; refine st_ ?_
  refine go_slot 29 (.b true) rfl rfl ?_
  refine runq 400 hty hnt ?_; refine st_ ?_
  refine q_callf (v := .bool true) (by rw [hnt]; rfl) (by rw [hP]; kernel_rfl) rfl (hP ▸ (hsame_ok a a _ _ _ _ G1 ha1 ha1).val (by rw [hself])) ?_
  refine runq 400 hty hnt ?_; refine st_ ?_
  refine go_slot 34 (.b true) rfl rfl ?_
  refine runq 400 hty hnt ?_; refine st_ ?_
  refine q_callf (by rw [hnt]; rfl) (by rw [hP]; kernel_rfl) rfl (hP ▸ ahead_ok a b _ _ _ _ G1 ha1 hb1) ?_; refine runq 400 hty hnt ?_; refine st_ ?_
  refine q_callf (by rw [hnt]; rfl) (by rw [hP]; kernel_rfl) rfl (hP ▸ rahead_ok a b _ _ _ _ G1 ha1 hb1) ?_; refine runq 400 hty hnt ?_; refine st_ ?_
  refine go_slot 43 (.b true) rfl rfl ?_
  refine runq 400 hty hnt ?_; refine st_ ?_
  refine q_callf (by rw [hnt]; rfl) (by rw [hP]; kernel_rfl) rfl (hP ▸ ahead_ok b a _ _ _ _ G1 hb1 ha1) ?_; refine runq 400 hty hnt ?_; refine st_ ?_
  refine q_callf (by rw [hnt]; rfl) (by rw [hP]; kernel_rfl) rfl (hP ▸ rahead_ok b a _ _ _ _ G1 hb1 ha1) ?_; refine runq 400 hty hnt ?_; refine st_ ?_
  refine go_slot 52 (.b true) rfl rfl ?_
  refine runq 400 hty hnt ?_; refine st_ ?_
  refine q_callf (by rw [hnt]; rfl) (by rw [hP]; kernel_rfl) rfl (hP ▸ name_ok n G1) ?_; refine runq 400 hty hnt ?_; refine st_ ?_
  refine q_callf (by rw [hnt]; rfl) (by rw [hP]; kernel_rfl) rfl (hP ▸ rname_ok n G1 hn) ?_; refine runq 400 hty hnt ?_; refine st_ ?_
  refine go_slot 59 (.b true) rfl rfl ?_
  refine runq 400 hty hnt ?_; refine st_ ?_
  refine q_callf (by rw [hnt]; rfl) (by rw [hP]; kernel_rfl) rfl (hP ▸ works29_ok G1) ?_; refine runq 400 hty hnt ?_; refine st_ ?_
  refine q_end ?_; refine rn_ ?_; intros
  refine x_retc rfl hQ hmb rfl (by rw [hty]; simp only [so, sq, zy, zz, tyE, SO', SQ', opQ, opStore, opAlloc, ev, putS, dOk, cv, SV.cs, SV.one, SV.bool?, eqB, Value.oneCell', ldOwn, binInt, binConst, binBool, binStr, isC, TK.agg, rv, rv1, ldV, resOne, resV, Nat.reduceAdd, Nat.reduceMul, Nat.reduceSub, Nat.reduceLT, Nat.reduceLeDiff, Nat.reduceEqDiff, Nat.reduceBEq, reduceIte, reduceCtorEq, eq_self]; try rfl) rfl ?_; simp only [SV.den, resV, dens]
end Go.Proofs.Ytpmmbjcgabnloaa
namespace Go.Proofs.Ytpmmbjcgabnloaa.historySame
set_option linter.unusedSimpArgs false
set_option linter.unusedVariables false
open Go.ChangeShapes Go.WideShapes Go.ChangeAt Go.RowKit

set_option maxRecDepth 100000
theorem contract (H : Type) (enc : TypeId × Value → H) (W : World) (base : Nat) (args : Array Value) (ds gs : List (DataW H)) (before : List MemPlace)
    (hval : ∀ (j : Nat) t v, Try.f6.params[j]? = some t → args[j]? = some v → Value.okWide Try.prog W .any base t v)
    (hW : DataW.Whole enc Try.prog Try.f6.params.toList Rows.historySameSpec.vars false W args.toList ds gs before) (hk : Rows.uptoSmall H (ds ++ gs) = true) :
    Calls Try.prog 6 args W fun e W' => ∃ v, e = .returned v ∧ Rows.historySameSpec.post enc Try.prog Try.f6 false true false false W args v W' := by
  have hW' := hW
  obtain ⟨p, q, hA0, hV, rfl, hfz, hnd⟩ := hW
  have hA : DataW.TrodAll enc Try.prog W 0 (fun _ => true) true Try.f6.params.toList args.toList ds p := hA0
  rw [Try.params6] at hA hval
  obtain ⟨v0, vs0, d0, ds0, p0, q0, hargs, rfl, rfl, h0, r0⟩ := trodAll_cons hA
  obtain ⟨v1, vs1, d1, ds1, p1, q1, rfl, rfl, rfl, h1, r1⟩ := trodAll_cons r0
  obtain ⟨v2, vs2, d2, ds2, p2, q2, rfl, rfl, rfl, h2, r2⟩ := trodAll_cons r1
  obtain ⟨rfl, rfl, rfl⟩ := trodAll_nil r2
  obtain rfl : args = #[v0, v1, v2] := by cases args; simp_all
  obtain ⟨rfl, rfl⟩ := trodVars_none hV
  clear hA0
  obtain ⟨a2, rfl, rfl, rfl, w2⟩ := open_int Try.underlying3 (hval 2 3 v2 rfl rfl) h2
  simp only [List.append_nil, List.nil_append] at hW' hk
  have hbulk : Rows.uptoBulkAll [d0, d1, _] ≤ 1048576 := of_decide_eq_true hk
  simp only [Rows.uptoBulkAll, Rows.uptoBulk, Nat.add_zero] at hbulk
  have h0k := h0
  obtain ⟨n0, hf0⟩ := h0
  obtain ⟨cs0, rfl, hsz0⟩ := okWide_struct Try.underlying40 (hval 0 40 v0 rfl rfl)
  obtain ⟨t0, sa0, sb0, hcs0, hr0⟩ := open_op (w := W) (by omega) hf0
  have hcs0' : cs0 = (opL t0 sa0 sb0).toArray := by
    apply Array.ext'
    simpa [Value.cells] using hcs0
  subst hcs0'
  have h1k := h1
  obtain ⟨n1, hf1⟩ := h1
  obtain ⟨cs1, rfl, hsz1⟩ := okWide_struct Try.underlying40 (hval 1 40 v1 rfl rfl)
  obtain ⟨t1, sa1, sb1, hcs1, hr1⟩ := open_op (w := W) (by omega) hf1
  have hcs1' : cs1 = (opL t1 sa1 sb1).toArray := by
    apply Array.ext'
    simpa [Value.cells] using hcs1
  subst hcs1'
  have hlt0 : ∀ x ∈ p0, x.block < W.heap.size := fun x hx => by simpa using hW'.lt x (by simp [hx])
  have hlt1 : ∀ x ∈ p1, x.block < W.heap.size := fun x hx => by simpa using hW'.lt x (by simp [hx])
  refine (historySame_ok t0 t1 a2 sa0 sb0 sa1 sb1 (hp W) hr0 hr1 (wf_i64 w2) W (has_hp W)).mono ?_
  rintro e W' ⟨v, G', rfl, hg, rfl⟩
  have hb := hg.below
  exact ⟨_, rfl, post_below rfl rfl hW' (fun _ _ _ => (trodAll_cons_mk (shut_bool Try.underlying4 _) trodAll_mk0))
    (fun sp hsp => by have this := (trodAll_cons_mk (WideElems.Trod_stays laidOut (by kernel_rfl) (of_decide_eq_true (by kernel_rfl)) h0k (fun x hx => hb.same (hlt0 x hx)) (fun x hx => hsp x (by simp [hx]))) (trodAll_cons_mk (WideElems.Trod_stays laidOut (by kernel_rfl) (of_decide_eq_true (by kernel_rfl)) h1k (fun x hx => hb.same (hlt1 x hx)) (fun x hx => hsp x (by simp [hx]))) (trodAll_cons_mk (shut_int Try.underlying3 w2) trodAll_mk0))); simp only [List.append_nil, List.nil_append] at this; exact this)
    hb (ok_one (by kernel_rfl) rfl (okWide_bool_mk Try.underlying4 _))⟩

set_option maxRecDepth 100000 in
theorem lifted (os : Os) (started : os.Started) (H : Type) (enc : TypeId × Value → H) (F : Stop.Interp) :
    ReturnsInHanded {} Try.checked os 6 .any ((Rows.OpenSpec.upto Rows.historySameSpec).pre6 enc Try.prog Try.f6 Rows.historySameUptoRow.domain false) (((Rows.OpenSpec.upto Rows.historySameSpec).at F).post enc Try.prog Try.f6 false true false false) := by
  refine returnsInHanded_of_cond (C := Try.checked) (s := Rows.OpenSpec.upto Rows.historySameSpec) (k := Rows.uptoSmall) rfl own started (by kernel_rfl) Try.func6
    (OpenSpec.witness (enc := enc) (C := Try.checked) (s := Rows.OpenSpec.upto Rows.historySameSpec) (k := Rows.uptoSmall) rfl false ⟨#[], #[.agg #[.int .i64 0, .int .i64 0, .int .i64 0, .int .i64 0, .slice none 0 0, .int .i64 0, .int .i64 0, .slice none 0 0, .int .i64 0, .int .i64 0, .bool false], .agg #[.int .i64 0, .int .i64 0, .int .i64 0, .int .i64 0, .slice none 0 0, .int .i64 0, .int .i64 0, .slice none 0 0, .int .i64 0, .int .i64 0, .bool false], .int .i64 0], []⟩ 8 (by kernel_rfl) (by kernel_rfl) (by kernel_rfl)
      (x := ([.agg [.lit (.int .i64 0), .lit (.int .i64 0), .agg [.lit (.int .i64 0), .lit (.int .i64 0), .nil], .agg [.lit (.int .i64 0), .lit (.int .i64 0), .nil], .lit (.int .i64 0), .lit (.int .i64 0), .lit (.bool false)], .agg [.lit (.int .i64 0), .lit (.int .i64 0), .agg [.lit (.int .i64 0), .lit (.int .i64 0), .nil], .agg [.lit (.int .i64 0), .lit (.int .i64 0), .nil], .lit (.int .i64 0), .lit (.int .i64 0), .lit (.bool false)], .lit (.int .i64 0)], [], [])) (by kernel_rfl) rfl (by kernel_rfl)) ?_
  intro W base args ds gs before hval hW _ hk _
  exact contract H enc W base args ds gs before hval hW hk

theorem over : Rows.historySameUptoRow.holds Try.pinned (Rows.OpenSpec.upto Rows.historySameSpec) :=
  OpenClaim.holds_of_cond 6 Try.f6 rfl rfl rfl rfl rfl rfl rfl ⟨rfl, rfl, rfl, rfl, rfl⟩ rfl rfl rfl rfl rfl (by kernel_rfl) Try.func6 (by kernel_rfl)
    (of_decide_eq_true (by kernel_rfl)) (by unfold Func.isWrapper; first | (rw [if_pos (by decide +kernel)]; kernel_rfl) | (rw [if_neg (by decide +kernel)]; exact ⟨rfl, rfl⟩))
    (fun os started H enc _ F => lifted os started H enc F)

theorem proved : Rows.HistorySameUptoSaid := over
end Go.Proofs.Ytpmmbjcgabnloaa.historySame

