/-
  Rows.PickHoldsSaid is proved here.
-/
import Derived.Test.YtcaohcmlicbjhaaZ3
set_option linter.unusedSimpArgs false
set_option linter.unusedVariables false
namespace Go.Proofs.Ytcaohcmlicbjhaa
set_option linter.unusedSimpArgs false
set_option linter.unusedVariables false
open Go.Sx
def lst (n last : Int) : Int := if last < 0 ∨ n ≤ last then -1 else last
def dst (n last t : Int) : Int := if lst n last < t then t - lst n last - 1 else t + n - lst n last - 1
theorem lst_bd {n last : Int} (hn : 1 ≤ n) : -1 ≤ lst n last ∧ lst n last < n := by
  rw [lst]; split <;> omega
theorem dst_bd {n last t : Int} (hn : 1 ≤ n) (h0 : 0 ≤ t) (h1 : t < n) : 0 ≤ dst n last t ∧ dst n last t ≤ n - 1 := by
  have := lst_bd (last := last) hn
  rw [dst]; split <;> omega
theorem next_le {last u t : Int} : ∀ {l : List Int}, l.Pairwise (· < ·) → l.find? (fun t => decide (last < t)) = some u → t ∈ l → last < t → u ≤ t
  | [], _, h, _, _ => by simp at h
  | x :: l, hs, h, ht, hlt => by
    rw [List.find?_cons] at h
    rw [List.pairwise_cons] at hs
    by_cases hx : last < x
    · simp only [hx, decide_true] at h
      cases h
      rcases List.mem_cons.1 ht with rfl | ht
      · omega
      · have := hs.1 t ht; omega
    · simp only [hx, decide_false] at h
      rcases List.mem_cons.1 ht with rfl | ht
      · omega
      · exact next_le hs.2 h ht hlt
theorem nxt_some {last u : Int} {l : List Int} (h : l.find? (fun t => decide (last < t)) = some u) : nxt last l = (u, true) := by
  unfold nxt; rw [h]
theorem nxt_nil (last : Int) : nxt last [] = (0, false) := rfl
theorem nxt_none {last x : Int} {r : List Int} (h : (x :: r).find? (fun t => decide (last < t)) = none) : nxt last (x :: r) = (x, true) := by
  unfold nxt; rw [h]
theorem nxt_mem {last : Int} {l : List Int} (h : (nxt last l).2 = true) : (nxt last l).1 ∈ l := by
  cases hf : l.find? (fun t => decide (last < t)) with
  | some t => rw [nxt_some hf]; exact List.mem_of_find?_eq_some hf
  | none =>
    cases l with
    | nil => simp [nxt_nil] at h
    | cons x r => rw [nxt_none hf]; simp
theorem nxt_has (last : Int) (l : List Int) : (nxt last l).2 = decide ((0 : Int) < l.length) := by
  cases hf : l.find? (fun t => decide (last < t)) with
  | some t =>
    have := List.mem_of_find?_eq_some hf
    rw [nxt_some hf]
    cases l with
    | nil => simp at this
    | cons x r => simp <;> omega
  | none =>
    cases l with
    | nil => simp [nxt_nil]
    | cons x r => rw [nxt_none hf]; simp <;> omega
theorem dst_lt {n last t : Int} {l : List Int} (hn : 1 ≤ n) (hs : l.Pairwise (· < ·)) (hb : ∀ x ∈ l, 0 ≤ x ∧ x < n) (ht : t ∈ l) (hne : (nxt last l).1 ≠ t) : dst n (nxt last l).1 t < dst n last t := by
  have hl := lst_bd (last := last) hn
  have htb := hb t ht
  cases hf : l.find? (fun t => decide (last < t)) with
  | some u =>
    rw [nxt_some hf] at hne ⊢
    have hu := hb u (List.mem_of_find?_eq_some hf)
    have hlu : last < u := by have := List.find?_some hf; simpa using this
    have hlu' : lst n u = u := by rw [lst, if_neg (by omega)]
    have hlast : lst n last < u := by rw [lst]; split <;> omega
    simp only [] at hne ⊢
    rw [dst, dst, hlu']
    by_cases h1 : lst n last < t
    · have h2 : last < t := by
        rw [lst] at h1
        split at h1
        · rename_i h; rcases h with h | h <;> omega
        · exact h1
      have := next_le hs hf ht h2
      rw [if_pos h1, if_pos (by omega)]; omega
    · rw [if_neg h1, if_neg (by omega)]; omega
  | none =>
    have hnone := List.find?_eq_none.1 hf t ht
    simp only [decide_eq_true_eq] at hnone
    cases l with
    | nil => simp at ht
    | cons x r =>
      rw [nxt_none hf] at hne ⊢
      simp only [] at hne ⊢
      have hx := hb x (by simp)
      have hlx : lst n x = x := by rw [lst, if_neg (by omega)]
      rw [List.pairwise_cons] at hs
      have hxt : x < t := by
        rcases List.mem_cons.1 ht with rfl | ht
        · exact absurd rfl hne
        · exact hs.1 t ht
      rw [dst, dst, hlx, if_pos hxt]
      by_cases h1 : lst n last < t
      · rw [if_pos h1]
        rw [lst] at h1 ⊢
        split at h1
        · rename_i h; rw [if_pos h]; omega
        · omega
      · rw [if_neg h1]; omega
structure RR (n : Int) (run : List Tn) (last : Int) : Prop where
  right : ∀ x ∈ run, rightT x = true
  w1 : ∀ t, ((waitF run t).1 : Int) ≤ n - 1
  w2 : ∀ t, 0 ≤ t → t < n → ((waitF run t).2 : Int) + dst n last t ≤ n - 1
  w3 : ∀ t, ¬ (0 ≤ t ∧ t < n) → (waitF run t).2 = 0
theorem RR.nil {n last : Int} (hn : 1 ≤ n) : RR n [] last :=
  ⟨by simp, fun t => by simp [waitF]; omega, fun t h0 h1 => by have := dst_bd (last := last) hn h0 h1; simp [waitF]; omega, fun t _ => by simp [waitF]⟩
theorem risG_of : ∀ {l : List Int} {m : Int}, l.Pairwise (· < ·) → (∀ x ∈ l, m < x) → risG m l = true
  | [], _, _, _ => rfl
  | x :: l, m, hs, hm => by
    rw [List.pairwise_cons] at hs
    rw [risG, decide_eq_true (hm x (by simp)), Bool.true_and]
    exact risG_of hs.2 hs.1
theorem RR.step {n last : Int} {run : List Tn} {l : List Int} (h : RR n run last) (hn : 1 ≤ n) (hs : l.Pairwise (· < ·)) (hb : ∀ x ∈ l, 0 ≤ x ∧ x < n) (hh : (nxt last l).2 = true) : RR n (run ++ [⟨l, (nxt last l).1⟩]) (nxt last l).1 := by
  have hw : ∀ t, waitF (run ++ [⟨l, (nxt last l).1⟩]) t = wSt t (waitF run t) ⟨l, (nxt last l).1⟩ := fun t => by rw [waitF, List.foldl_append]; rfl
  refine ⟨fun x hx => ?_, fun t => ?_, fun t h0 h1 => ?_, fun t ht => ?_⟩
  · rcases List.mem_append.1 hx with hx | hx
    · exact h.right x hx
    · simp only [List.mem_singleton] at hx
      subst hx
      rw [rightT, risG_of hs (fun x hx => by have := hb x hx; omega), Bool.true_and, inB_iff]
      exact nxt_mem hh
  · rw [hw, wSt]
    simp only []
    have h1 := h.w1 t
    split
    · rename_i hc
      simp only [Bool.and_eq_true, bne_iff_ne, ne_eq] at hc
      have hm := inB_iff.1 hc.1
      have hbt := hb t hm
      have := dst_lt hn hs hb hm hc.2
      have h2 := h.w2 t hbt.1 hbt.2
      have := dst_bd (last := (nxt last l).1) hn hbt.1 hbt.2
      omega
    · omega
  · rw [hw, wSt]
    simp only []
    have hd := dst_bd (last := (nxt last l).1) hn h0 h1
    split
    · rename_i hc
      simp only [Bool.and_eq_true, bne_iff_ne, ne_eq] at hc
      have hm := inB_iff.1 hc.1
      have := dst_lt hn hs hb hm hc.2
      have h2 := h.w2 t h0 h1
      omega
    · omega
  · rw [hw, wSt]
    simp only []
    rw [if_neg]
    simp only [Bool.and_eq_true, not_and]
    intro hc
    have := hb t (inB_iff.1 hc)
    exact absurd this ht
theorem badT_of : ∀ {l : List Tn} {i : Nat}, (∀ x ∈ l, rightT x = true) → badT l i = none
  | [], _, _ => rfl
  | x :: l, i, h => by rw [badT, if_pos (h x (by simp))]; exact badT_of fun y hy => h y (by simp [hy])
theorem RR.fair {n last : Int} {run : List Tn} (h : RR n run last) (hn : 1 ≤ n) : fairB n run = true := by
  have hc : chk run = (0, 0) := chk_none (badT_of h.right)
  rw [fairB, hc, decide_eq_true hn]
  simp only [Bool.and_true, beq_self_eq_true, Bool.true_and, List.all_eq_true, decide_eq_true_eq]
  intro x hx
  rw [(tal_ok h.right hx).1]
  have := h.w1 x.1
  omega
theorem fair_seq {w : Int} {l : List Tn} (hw : 1 ≤ w) (hc : (chk l).2 = 0) : fairB w l = (seqW l).all fun x => decide (x.2 < w) := by
  rw [fairB, hc, decide_eq_true hw]
  simp only [beq_self_eq_true, Bool.true_and]
  rw [Bool.eq_iff_iff]
  simp only [List.all_eq_true, decide_eq_true_eq]
  constructor
  · intro h x hx
    rw [seqW, seqT, if_pos hc] at hx
    obtain ⟨t, ht, rfl⟩ := List.mem_map.1 hx
    rw [srt, List.mem_mergeSort] at ht
    obtain ⟨y, hy, rfl⟩ := List.mem_map.1 ht
    simp only [tg_get (cntL_nd l) hy, Option.map_some, Option.getD_some]
    exact h y hy
  · intro h x hx
    have := h (x.1, (x.2.most : Int)) (by
      rw [seqW, seqT, if_pos hc]
      refine List.mem_map.2 ⟨x.1, by rw [srt, List.mem_mergeSort]; exact List.mem_map.2 ⟨x, hx, rfl⟩, ?_⟩
      simp only [tg_get (cntL_nd l) hx, Option.map_some, Option.getD_some])
    exact this
end Go.Proofs.Ytcaohcmlicbjhaa
namespace Go.Proofs.Ytcaohcmlicbjhaa
set_option linter.unusedSimpArgs false
set_option linter.unusedVariables false
open Go.Sx
set_option maxHeartbeats 8000000
set_option maxRecDepth 20000
theorem pickHolds_ok (n : Int) (could : List Int) (s1 : Value) (last : Int) (l : List Tn) (s2 : Value) (w : Int) (G : Hp) (hn : isI64 n) (h1 : rU.S G could s1) (hla : isI64 last) (h2 : rT.S G l s2) (hw : isI64 w) :
    Pure Try.prog 5 [.int .i64 n, s1, .int .i64 last, s2, .int .i64 w] G (fun r _ => r = .bool true) := by
  have h10 := h1
  have h20 := h2
  obtain ⟨ad1, cap1, rfl⟩ := Rp.S_slice h1
  obtain ⟨ad2, cap2, rfl⟩ := Rp.S_slice h2
  have h63 := Rp.S_len h1
  refine enterM ty tyok Try.func5 rfl Try.ntmps5 [.v (.int .i64 n), .v (.slice ad1 could.length cap1), .v (.int .i64 last), .v (.slice ad2 l.length cap2), .v (.int .i64 w)] (by simp) ?_
  intro C hP hQ hnt hty hmb hmh hro; have hQp := qp_bodyM hQ; refine st_ ?_
  refine rn_ ?_; intros
  rename_i b9
  refine go_marks 5 rfl (by omega) ?_
  refine st_ ?_
  refine cut_tail 2 (fun s' => 1 ≤ n ∧ n ≤ 12 ∧ could.length ≤ 40 ∧ fewQ l 25 = true ∧ 1 ≤ w ∧ s' = ⟨[(0, .v (.int .i64 n)), (1, .v (.slice ad1 could.length cap1)), (2, .v (.int .i64 last)), (3, .v (.slice ad2 l.length cap2)), (9, .p 0 b9 0)], [(0, b9, .c 3 [.v (.int .i64 w)]), (5, 0, dzO [])], G, []⟩) ?_ (fun key => ?_)
  rotate_left
  · simp only [List.drop_succ_cons, List.drop_zero] at key
    refine go_gsplit rfl rfl (fun q1 => ?_) (fun q1 => ?_) <;> (refine st_ ?_; (try (refine runo0 400 hty hnt hmh ?_; refine st_ ?_)))
    · repeat (refine go_gundef rfl (by rw [hnt]; rfl) rfl ?_; (refine st_ ?_; (try (refine runo0 400 hty hnt hmh ?_; refine st_ ?_))))
      refine go_ops ?_
      refine x_ift rfl rfl rfl ?_
      refine rn_ ?_; intros
      refine go_callf (by rw [hnt]; rfl) (by rw [hP]; kernel_rfl) rfl (hP ▸ works_ok G) ?_; refine rn_ ?_; intros
      refine x_retM 5 rfl hQ hmb rfl rfl rfl (by rw [hty]; simp only [so, sq, zy, zz, tyE, SO', SQ', opQ, opStore, opAlloc, ev, putS, dOk, cv, SV.cs, SV.one, SV.bool?, eqB, Value.oneCell', ldOwn, binInt, binConst, binBool, binStr, isC, TK.agg, rv, rv1, ldV, resOne, resV, Nat.reduceAdd, Nat.reduceMul, Nat.reduceSub, Nat.reduceLT, Nat.reduceLeDiff, Nat.reduceEqDiff, Nat.reduceBEq, reduceIte, reduceCtorEq, eq_self]; try rfl) ?_; simp only [SV.den, resV, dens]
    refine go_gsplit rfl rfl (fun q2 => ?_) (fun q2 => ?_) <;> (refine st_ ?_; (try (refine runo0 400 hty hnt hmh ?_; refine st_ ?_)))
    · repeat (refine go_gundef rfl (by rw [hnt]; rfl) rfl ?_; (refine st_ ?_; (try (refine runo0 400 hty hnt hmh ?_; refine st_ ?_))))
      refine go_ops ?_
      refine x_ift rfl rfl rfl ?_
      refine rn_ ?_; intros
      refine go_callf (by rw [hnt]; rfl) (by rw [hP]; kernel_rfl) rfl (hP ▸ works_ok G) ?_; refine rn_ ?_; intros
      refine x_retM 5 rfl hQ hmb rfl rfl rfl (by rw [hty]; simp only [so, sq, zy, zz, tyE, SO', SQ', opQ, opStore, opAlloc, ev, putS, dOk, cv, SV.cs, SV.one, SV.bool?, eqB, Value.oneCell', ldOwn, binInt, binConst, binBool, binStr, isC, TK.agg, rv, rv1, ldV, resOne, resV, Nat.reduceAdd, Nat.reduceMul, Nat.reduceSub, Nat.reduceLT, Nat.reduceLeDiff, Nat.reduceEqDiff, Nat.reduceBEq, reduceIte, reduceCtorEq, eq_self]; try rfl) ?_; simp only [SV.den, resV, dens]
    refine go_gsplit rfl rfl (fun q3 => ?_) (fun q3 => ?_) <;> (refine st_ ?_; (try (refine runo0 400 hty hnt hmh ?_; refine st_ ?_)))
    · repeat (refine go_gundef rfl (by rw [hnt]; rfl) rfl ?_; (refine st_ ?_; (try (refine runo0 400 hty hnt hmh ?_; refine st_ ?_))))
      refine go_ops ?_
      refine x_ift rfl rfl rfl ?_
      refine rn_ ?_; intros
      refine go_callf (by rw [hnt]; rfl) (by rw [hP]; kernel_rfl) rfl (hP ▸ works_ok G) ?_; refine rn_ ?_; intros
      refine x_retM 5 rfl hQ hmb rfl rfl rfl (by rw [hty]; simp only [so, sq, zy, zz, tyE, SO', SQ', opQ, opStore, opAlloc, ev, putS, dOk, cv, SV.cs, SV.one, SV.bool?, eqB, Value.oneCell', ldOwn, binInt, binConst, binBool, binStr, isC, TK.agg, rv, rv1, ldV, resOne, resV, Nat.reduceAdd, Nat.reduceMul, Nat.reduceSub, Nat.reduceLT, Nat.reduceLeDiff, Nat.reduceEqDiff, Nat.reduceBEq, reduceIte, reduceCtorEq, eq_self]; try rfl) ?_; simp only [SV.den, resV, dens]
    refine go_callf (by rw [hnt]; rfl) (by rw [hP]; kernel_rfl) rfl (hP ▸ few_ok l _ 25 (by omega) G h20) ?_; refine rn_ ?_; intros
    refine go_gsplit rfl rfl (fun q4 => ?_) (fun q4 => ?_) <;> (refine st_ ?_; (try (refine runo0 400 hty hnt hmh ?_; refine st_ ?_)))
    · repeat (refine go_gundef rfl (by rw [hnt]; rfl) rfl ?_; (refine st_ ?_; (try (refine runo0 400 hty hnt hmh ?_; refine st_ ?_))))
      refine go_ops ?_
      refine x_ift rfl rfl rfl ?_
      refine rn_ ?_; intros
      refine go_callf (by rw [hnt]; rfl) (by rw [hP]; kernel_rfl) rfl (hP ▸ works_ok G) ?_; refine rn_ ?_; intros
      refine x_retM 5 rfl hQ hmb rfl rfl rfl (by rw [hty]; simp only [so, sq, zy, zz, tyE, SO', SQ', opQ, opStore, opAlloc, ev, putS, dOk, cv, SV.cs, SV.one, SV.bool?, eqB, Value.oneCell', ldOwn, binInt, binConst, binBool, binStr, isC, TK.agg, rv, rv1, ldV, resOne, resV, Nat.reduceAdd, Nat.reduceMul, Nat.reduceSub, Nat.reduceLT, Nat.reduceLeDiff, Nat.reduceEqDiff, Nat.reduceBEq, reduceIte, reduceCtorEq, eq_self]; try rfl) ?_; simp only [SV.den, resV, dens]
    refine go_ops ?_
    refine x_if rfl rfl rfl rfl (fun q5 => ?_) (fun q5 => ?_)
    · refine rn_ ?_; intros
      refine go_callf (by rw [hnt]; rfl) (by rw [hP]; kernel_rfl) rfl (hP ▸ works_ok G) ?_; refine rn_ ?_; intros
      refine x_retM 5 rfl hQ hmb rfl rfl rfl (by rw [hty]; simp only [so, sq, zy, zz, tyE, SO', SQ', opQ, opStore, opAlloc, ev, putS, dOk, cv, SV.cs, SV.one, SV.bool?, eqB, Value.oneCell', ldOwn, binInt, binConst, binBool, binStr, isC, TK.agg, rv, rv1, ldV, resOne, resV, Nat.reduceAdd, Nat.reduceMul, Nat.reduceSub, Nat.reduceLT, Nat.reduceLeDiff, Nat.reduceEqDiff, Nat.reduceBEq, reduceIte, reduceCtorEq, eq_self]; try rfl) ?_; simp only [SV.den, resV, dens]
    refine x_skip rfl ?_
    refine go_keep [0, 1, 2, 3, 9] [0, 5] ?_
    refine st_ ?_
    have p1 := of_decide_eq_false q1
    have p2 := of_decide_eq_false q2
    have p3 := of_decide_eq_false q3
    have p5 : ¬ w < 1 := by simpa using q5
    exact key _ ⟨by omega, by omega, by omega, by simpa using q4, by omega, rfl⟩
  rintro s' ⟨hn1, hn12, hc40, hf, hw1, rfl⟩
  simp only [List.drop_succ_cons, List.drop_zero]
  refine rn_ ?_; intros
  obtain ⟨N, rfl⟩ : ∃ N : Nat, n = N := ⟨n.toNat, by omega⟩
  refine go_nilrow 42 46 2 rfl (by omega) ?_
  refine go_keep [0, 1, 2, 3, 9, 11, 12] [0, 5, 42] ?_
  refine st_ ?_
  refine x_loop rfl (fun q s => ∃ (i : Nat) (run : List Tn) (last : Int) (xs : List Value) (v : Value) (G' : Hp), i ≤ could.length ∧ q = could.length - i ∧ Le G G' ∧ RR N run last ∧ isI64 last ∧ run.length ≤ i ∧ (∀ x ∈ run, x.runs.length ≤ 12) ∧ rT.L G' run xs ∧
    s = ⟨[(0, .v (.int .i64 N)), (1, .v (.slice ad1 could.length cap1)), (2, .v (.int .i64 last)), (3, .v (.slice ad2 l.length cap2)), (9, .p 0 b9 0), (11, .v v), (12, .v (.int .i64 i))], [(0, b9, .c 3 [.v (.int .i64 w)]), (5, 0, dzO []), (42, 0, .row v 46 2 run.length xs)], G', []⟩)
    ⟨0, [], last, [], _, G, by omega, rfl, Le.refl _, RR.nil hn1, hla, by simp, by simp, rfl, rfl⟩ ?_
  clear hla last
  rintro q s ⟨i, run, last, xs, v, G1, hi, hq, hle1, hRR, hla, hrl, hr12, hL, rfl⟩ ih
  have hxl := Rp.L_len hL
  refine go_rowS 42 rfl ?_
  rintro adr capr rfl
  refine rn_ ?_; intros
  refine x_if rfl rfl rfl rfl (fun hil => ?_) (fun hil => ?_)
  · have hlt : i < could.length := by simp at hil; omega
    obtain ⟨c1, o1, rfl, ha1, hu0, hu1⟩ := rU_at h10 (i := i) hlt
    have ha1 := ha1.mono hle1
    refine rn_ ?_; intros
    refine go_nilrow 41 3 1 rfl (by omega) ?_
    refine go_keep [0, 1, 2, 3, 9, 11, 12, 13, 14] [0, 5, 42, 41] ?_
    refine st_ ?_
    refine x_loop rfl (fun q s => ∃ (t : Nat) (rs : List Int) (u : Value), t ≤ N ∧ q = N - t ∧ rs.Pairwise (· < ·) ∧ (∀ x ∈ rs, 0 ≤ x ∧ x < t) ∧ rs.length ≤ t ∧
      s = ⟨[(0, .v (.int .i64 N)), (1, .v (.slice (some ⟨c1, o1, none⟩) could.length cap1)), (2, .v (.int .i64 last)), (3, .v (.slice ad2 l.length cap2)), (9, .p 0 b9 0), (11, .v (.slice adr run.length capr)), (12, .v (.int .i64 i)), (13, .v u), (14, .v (.int .i64 t))], [(0, b9, .c 3 [.v (.int .i64 w)]), (5, 0, dzO []), (42, 0, .row (.slice adr run.length capr) 46 2 run.length xs), (41, 0, .row u 3 1 rs.length (rs.map (Value.int .i64 ·)))], G1, []⟩)
      ⟨0, [], _, by omega, rfl, List.Pairwise.nil, by simp, by simp, rfl⟩ ?_
    rintro q s ⟨t, rs, u, ht, hq, hrs, hrb, hrt, rfl⟩ iht
    refine go_rowS 41 rfl ?_
    rintro ads caps rfl
    refine rn_ ?_; intros
    refine x_if rfl rfl rfl rfl (fun htl => ?_) (fun htl => ?_)
    · have htlt : t < N := by simp at htl; omega
      refine rn_ ?_; intros
      refine go_q (by rw [hnt]; rfl) (quiet_index (by rw [hty]; rfl) (by rw [hty]; rfl) rfl rfl rfl (by omega) (by omega)) ?_
      refine rn_ ?_; intros
      refine go_q (by rw [hnt]; rfl) (quiet_load (vs := [.int .u16 could[i]]) (by rw [hty]; rfl) rfl (by simp [TK.agg]) (by simpa using ha1) rfl) ?_
      refine rn_ ?_; intros
      refine go_q (by rw [hnt]; rfl) (quiet_bin rfl rfl rfl rfl (shr_ok (by omega))) ?_
      refine rn_ ?_; intros
      refine x_split rfl rfl rfl (fun hbit => ?_) (fun hbit => ?_) <;> (refine st_ ?_; (refine ru_ ?_; intros))
      · refine rn_ ?_; intros
        refine go_append 41 (by rw [hnt]; rfl) (by rw [hty]; rfl) (by rw [hty]; rfl) (by decide) rfl rfl rfl (by omega) rfl (src_own 1 rfl rfl) rfl (by simp [dens, SV.den, Value.oneCell']) (by omega) (by simp only []; omega) ?_
        intro v'
        refine rn_ ?_; intros
        rw [wr (n := (t : Int) + 1) (by omega) (by omega)]
        refine go_keep [0, 1, 2, 3, 9, 11, 12, 13, 14] [0, 5, 42, 41] ?_
        refine st_ ?_
        exact iht (N - (t + 1)) _ (by omega) ⟨t + 1, rs ++ [(t : Int)], v', by omega, rfl, List.pairwise_append.2 ⟨hrs, by simp, fun a ha b hb => by simp only [List.mem_singleton] at hb; subst hb; have := hrb a ha; omega⟩,
          fun x hx => by
            rcases List.mem_append.1 hx with hx | hx
            · have := hrb x hx; omega
            · simp only [List.mem_singleton] at hx; omega, by simp; omega, by simp [dens, SV.den]⟩
      · rw [wr (n := (t : Int) + 1) (by omega) (by omega)]
        refine go_keep [0, 1, 2, 3, 9, 11, 12, 13, 14] [0, 5, 42, 41] ?_
        refine st_ ?_
        exact iht (N - (t + 1)) _ (by omega) ⟨t + 1, rs, .slice ads rs.length caps, by omega, rfl, hrs, fun x hx => by have := hrb x hx; omega, by omega, by simp⟩
    · have hge : t = N := by simp at htl; omega
      subst hge
      clear iht htl hq ht
      refine go_pubL rI 41 rfl (by omega) (ts := rs) rfl (by omega) (rI_L.2 ⟨rfl, fun x hx => by have := hrb x hx; simp only [isI64]; omega⟩) ?_
      rintro G2 ad3 cap3 (hle2 : Le G1 G2) hse hS2
      injection hse with e1 _ e3
      subst e1 e3
      refine rn_ ?_; intros
      refine go_call (by rw [hnt]; rfl) (by rw [hP]; kernel_rfl) rfl (hP ▸ next_ok last rs _ G2 hS2) ?_
      rintro v G3 (hle3 : Le G2 G3) rfl
      have hhas := nxt_has last rs
      refine st_ ?_
      refine rn_ ?_; intros
      rw [show ((nxt last rs).2 != decide ((0 : Int) < (rs.length : Int))) = false by rw [hhas]; simp]
      repeat (first | (refine go_gsplit rfl rfl (fun hc => absurd hc (by first | decide +kernel | (simp; first | done | fail))) (fun _ => ?_); refine st_ ?_; (refine rn_ ?_; intros)) | (refine go_gsplit rfl rfl (fun _ => ?_) (fun hc => absurd hc (by first | decide +kernel | (simp; first | done | fail))); refine st_ ?_; (refine rn_ ?_; intros)) | (refine x_split rfl rfl rfl (fun hc => absurd hc (by first | decide +kernel | (simp; first | done | fail))) (fun _ => ?_); refine st_ ?_; (refine ru_ ?_; intros)) | (refine x_split rfl rfl rfl (fun _ => ?_) (fun hc => absurd hc (by first | decide +kernel | (simp; first | done | fail))); refine st_ ?_; (refine ru_ ?_; intros)))
      refine x_if rfl rfl rfl rfl (fun hnx => ?_) (fun hnx => ?_)
      · have hnx' : (nxt last rs).2 = true := by simpa using hnx
        have hu := hrb _ (nxt_mem hnx')
        refine rn_ ?_; intros
        refine go_append 42 (by rw [hnt]; rfl) (by rw [hty]; rfl) (by rw [hty]; rfl) (by decide) rfl rfl rfl (by omega) rfl (src_own 2 rfl rfl) rfl (by simp [dens, SV.den, Value.oneCell']) (by omega) (by simp only []; omega) ?_
        intro v'
        refine rn_ ?_; intros
        rw [wr (n := (i : Int) + 1) (by omega) (by omega)]
        refine go_keep [0, 1, 2, 3, 9, 11, 12] [0, 5, 42] ?_
        refine st_ ?_
        exact ih (could.length - (i + 1)) _ (by omega) ⟨i + 1, run ++ [⟨rs, (nxt last rs).1⟩], (nxt last rs).1, xs ++ [.slice ads rs.length caps, .int .i64 (nxt last rs).1], v', G3, by omega, rfl, hle1.trans (hle2.trans hle3), hRR.step hn1 hrs hrb hnx', by simp only [isI64]; omega, by simp; omega,
          fun x hx => by
            rcases List.mem_append.1 hx with hx | hx
            · exact hr12 x hx
            · simp only [List.mem_singleton] at hx
              subst hx
              simp only []
              omega,
          Rp.L_append (Rp.L_mono (hle2.trans hle3) hL) (Rp.L_single ⟨_, rfl, by simp only [isI64]; omega, Rp.S_mono hle3 hS2⟩), by simp [dens, SV.den]⟩
      · refine x_skip rfl ?_
        refine rn_ ?_; intros
        rw [wr (n := (i : Int) + 1) (by omega) (by omega)]
        refine go_keep [0, 1, 2, 3, 9, 11, 12] [0, 5, 42] ?_
        refine st_ ?_
        exact ih (could.length - (i + 1)) _ (by omega) ⟨i + 1, run, last, xs, .slice adr run.length capr, G3, by omega, rfl, hle1.trans (hle2.trans hle3), hRR, hla, by omega, hr12, Rp.L_mono (hle2.trans hle3) hL, by simp⟩
  have hge : i = could.length := by simp at hil; omega
  subst hge
  clear ih hil hq hi
  refine rn_ ?_; intros
  refine go_pubL rT 42 rfl (by omega) (ts := run) (by omega) (by omega) hL ?_
  rintro G2 ad3 cap3 (hle2 : Le G1 G2) hse hS2
  injection hse with e1 _ e3
  subst e1 e3
  obtain ⟨hl25, hl12⟩ := fewQ_le hf
  have hl : l.length ≤ 1000 := by omega
  have hr : ∀ x ∈ l, x.runs.length ≤ 1000 := fun x hx => by have := hl12 x hx; omega
  have hT2 := Rp.S_mono (hle1.trans hle2) h20
  refine go_callf (by rw [hnt]; rfl) (by rw [hP]; kernel_rfl) rfl (hP ▸ fair_ok (N : Int) run _ _ hS2 (by omega) (fun x hx => by have := hr12 x hx; omega)) ?_; refine rn_ ?_; intros
  rw [hRR.fair hn1]
  repeat (first | (refine go_gsplit rfl rfl (fun hc => absurd hc (by first | decide +kernel | (simp; first | done | fail))) (fun _ => ?_); refine st_ ?_; (refine rn_ ?_; intros)) | (refine go_gsplit rfl rfl (fun _ => ?_) (fun hc => absurd hc (by first | decide +kernel | (simp; first | done | fail))); refine st_ ?_; (refine rn_ ?_; intros)) | (refine x_split rfl rfl rfl (fun hc => absurd hc (by first | decide +kernel | (simp; first | done | fail))) (fun _ => ?_); refine st_ ?_; (refine ru_ ?_; intros)) | (refine x_split rfl rfl rfl (fun _ => ?_) (fun hc => absurd hc (by first | decide +kernel | (simp; first | done | fail))); refine st_ ?_; (refine ru_ ?_; intros)))
  refine go_callf (by rw [hnt]; rfl) (by rw [hP]; kernel_rfl) rfl (hP ▸ check_ok l _ _ hT2) ?_; refine rn_ ?_; intros
  refine go_callf (by rw [hnt]; rfl) (by rw [hP]; kernel_rfl) rfl (hP ▸ num_ok (chk l).2 _) ?_; refine rn_ ?_; intros
  refine x_split rfl rfl rfl (fun hc => ?_) (fun hc => ?_) <;> (refine st_ ?_; (refine ru_ ?_; intros))
  · have hc' : (chk l).2 ≠ 0 := by have h : ((chk l).2 != 0) = true := hc; simpa using h
    refine go_callf (by rw [hnt]; rfl) (by rw [hP]; kernel_rfl) rfl (hP ▸ fair_ok w l _ _ hT2 hl hr) ?_; refine rn_ ?_; intros
    rw [show fairB w l = false by rw [fairB, show ((chk l).2 == 0) = false by simpa using hc']; rfl]
    repeat (first | (refine go_gsplit rfl rfl (fun hc => absurd hc (by first | decide +kernel | (simp; first | done | fail))) (fun _ => ?_); refine st_ ?_; (refine rn_ ?_; intros)) | (refine go_gsplit rfl rfl (fun _ => ?_) (fun hc => absurd hc (by first | decide +kernel | (simp; first | done | fail))); refine st_ ?_; (refine rn_ ?_; intros)) | (refine x_split rfl rfl rfl (fun hc => absurd hc (by first | decide +kernel | (simp; first | done | fail))) (fun _ => ?_); refine st_ ?_; (refine ru_ ?_; intros)) | (refine x_split rfl rfl rfl (fun _ => ?_) (fun hc => absurd hc (by first | decide +kernel | (simp; first | done | fail))); refine st_ ?_; (refine ru_ ?_; intros)))
    refine go_callf (by rw [hnt]; rfl) (by rw [hP]; kernel_rfl) rfl (hP ▸ works_ok _) ?_; refine rn_ ?_; intros
    refine x_retM 5 rfl hQ hmb rfl rfl rfl (by rw [hty]; simp only [so, sq, zy, zz, tyE, SO', SQ', opQ, opStore, opAlloc, ev, putS, dOk, cv, SV.cs, SV.one, SV.bool?, eqB, Value.oneCell', ldOwn, binInt, binConst, binBool, binStr, isC, TK.agg, rv, rv1, ldV, resOne, resV, Nat.reduceAdd, Nat.reduceMul, Nat.reduceSub, Nat.reduceLT, Nat.reduceLeDiff, Nat.reduceEqDiff, Nat.reduceBEq, reduceIte, reduceCtorEq, eq_self]; try rfl) ?_; simp only [SV.den, resV, dens]
  have hc' : (chk l).2 = 0 := by have h : ((chk l).2 != 0) = false := hc; simpa using h
  refine rn_ ?_; intros
  refine go_call (by rw [hnt]; rfl) (by rw [hP]; kernel_rfl) rfl (hP ▸ waits_ok l _ G2 hT2 hl hr) ?_
  rintro v G3 (hle3 : Le G2 G3) ⟨f1, p1, rfl, hf1, hi1⟩
  refine st_ ?_
  refine rn_ ?_; intros
  refine go_q (by rw [hnt]; rfl) (quiet_feq (by rw [hty]; rfl) rfl rfl) ?_
  refine rn_ ?_; intros
  repeat (first | (refine go_gsplit rfl rfl (fun hc => absurd hc (by first | decide +kernel | (simp; first | done | fail))) (fun _ => ?_); refine st_ ?_; (refine rn_ ?_; intros)) | (refine go_gsplit rfl rfl (fun _ => ?_) (fun hc => absurd hc (by first | decide +kernel | (simp; first | done | fail))); refine st_ ?_; (refine rn_ ?_; intros)) | (refine x_split rfl rfl rfl (fun hc => absurd hc (by first | decide +kernel | (simp; first | done | fail))) (fun _ => ?_); refine st_ ?_; (refine ru_ ?_; intros)) | (refine x_split rfl rfl rfl (fun _ => ?_) (fun hc => absurd hc (by first | decide +kernel | (simp; first | done | fail))); refine st_ ?_; (refine ru_ ?_; intros)))
  refine rn_ ?_; intros
  rename_i b20
  refine go_keep [3, 9, 20, 109] [0, 5, 6] ?_
  refine st_ ?_
  refine go_see 6 [.v (.bool true)] rfl rfl ?_
  refine st_ ?_
  have hT3 := Rp.S_mono hle3 hT2
  refine x_range 5 rfl rfl (ps := #[110, 111]) rfl hro hmh rfl rfl hf1 (by rw [hnt]; decide) hi1 (encII_mono _) (fun _ _ _ h => by obtain ⟨_, _, rfl⟩ := h; rfl)
    (fun i own => own = [(0, b9, .c 3 [.v (.int .i64 w)]), (5, 0, dzO []), (6, b20, .c 4 [.v (.bool (((seqW l).take i).all fun x => decide (x.2 < w)))])]) (fun c own => False)
    (fun i own h => by subst h; exact ⟨keys_lt rfl, (by repeat (first | exact plain_nil | refine plain_cons (fun _ h => h) ?_)), rfl⟩) (fun _ _ h => h.elim) (by rfl) ?_ ?_ ?_
  · rintro C' C0 i own vs G7 lp D r hiN rfl (hle7 : Le G3 G7) ⟨x, hLi, rfl⟩ hR
    rw [List.getElem?_eq_getElem hiN] at hLi
    simp only [Option.some.injEq] at hLi
    have hsn : ((seqW l).take (i + 1)).all (fun x => decide (x.2 < w)) = (((seqW l).take i).all (fun x => decide (x.2 < w)) && decide (x.2 < w)) := by
      rw [← List.take_append_getElem hiN, List.all_append, hLi]; simp
    generalize (((seqW l).take i).all fun x => decide (x.2 < w)) = bi at *
    have hnt2 := hR.nt.trans hnt; have hty2 := hR.ty.trans hty; have hP2 := hR.P.trans hP; clear hQ hQp hnt hty hP hmh hmb hro; have hnt := hnt2; have hty := hty2; have hP := hP2; have hmh := hR.mh; have hQp := hR.qp; simp only [putsS, List.toList_toArray]; refine st_ ?_
    refine rn_ ?_; intros
    refine go_br rfl hR.ready ?_
    refine st_ ?_
    refine rn_ ?_; intros
    refine go_gsplit rfl rfl (fun hb => ?_) (fun hb => ?_) <;> (refine st_ ?_; (refine rn_ ?_; intros))
    · refine rn_ ?_; intros
      refine go_rend hR rfl rfl ?_
      simp only [rmk, reduceIte, Nat.reduceEqDiff]
      rw [hsn, hb, Bool.true_and]
    · refine rn_ ?_; intros
      refine go_see 6 [.v (.bool false)] rfl rfl ?_
      refine st_ ?_
      refine go_rend hR rfl rfl ?_
      simp only [rmk, reduceIte, Nat.reduceEqDiff]
      rw [hsn, hb, Bool.false_and]
  · rintro D own G4 rfl (hle4 : Le G3 G4)
    refine st_ ?_
    rw [List.take_length, ← fair_seq hw1 hc']
    refine go_keep [3, 9, 20] [0, 5, 6] ?_
    refine st_ ?_
    have hT4 := Rp.S_mono hle4 hT3
    refine x_seq rfl ?_
    refine x_draw rfl (by rw [hP]; kernel_rfl) rfl (by kernel_rfl) ?_
    refine runq 400 hty hnt ?_; refine st_ ?_
    refine q_callf (by rw [hnt]; rfl) (by rw [hP]; kernel_rfl) rfl (hP ▸ fair_ok w l _ _ hT4 hl hr) ?_; refine runq 400 hty hnt ?_; refine st_ ?_
    (refine go_qsplit rfl rfl (fun _ => ?_) (fun hc => absurd hc (by simp)); refine st_ ?_; (try (refine runq 400 hty hnt ?_; refine st_ ?_)))
    refine q_callf (by rw [hnt]; rfl) (by rw [hP]; kernel_rfl) rfl (hP ▸ works_ok _) ?_; refine runq 400 hty hnt ?_; refine st_ ?_
    refine q_end ?_; refine rn_ ?_; intros
    refine x_retM 5 rfl hQ hmb rfl rfl rfl (by rw [hty]; simp only [so, sq, zy, zz, tyE, SO', SQ', opQ, opStore, opAlloc, ev, putS, dOk, cv, SV.cs, SV.one, SV.bool?, eqB, Value.oneCell', ldOwn, binInt, binConst, binBool, binStr, isC, TK.agg, rv, rv1, ldV, resOne, resV, Nat.reduceAdd, Nat.reduceMul, Nat.reduceSub, Nat.reduceLT, Nat.reduceLeDiff, Nat.reduceEqDiff, Nat.reduceBEq, reduceIte, reduceCtorEq, eq_self]; try rfl) ?_; simp only [SV.den, resV, dens]
  · rintro D c own G' h
    exact h.elim
end Go.Proofs.Ytcaohcmlicbjhaa
namespace Go.Proofs.Ytcaohcmlicbjhaa.pickHolds
set_option linter.unusedSimpArgs false
set_option linter.unusedVariables false
open Go.ChangeShapes Go.WideShapes Go.ChangeAt Go.RowKit Go.Sx

set_option maxRecDepth 100000
theorem contract (H : Type) (enc : TypeId × Value → H) (W : World) (base : Nat) (args : Array Value) (ds gs : List (DataW H)) (before : List MemPlace)
    (hval : ∀ (j : Nat) t v, Try.f5.params[j]? = some t → args[j]? = some v → Value.okWide Try.prog W .any base t v)
    (hW : DataW.Whole enc Try.prog Try.f5.params.toList Rows.pickHoldsSpec.vars false W args.toList ds gs before) :
    Calls Try.prog 5 args W fun e W' => ∃ v, e = .returned v ∧ Rows.pickHoldsSpec.post enc Try.prog Try.f5 false true false false W args v W' := by
  have hW' := hW
  obtain ⟨p, q, hA0, hV, rfl, hfz, hnd⟩ := hW
  have hA : DataW.TrodAll enc Try.prog W 0 (fun _ => true) true Try.f5.params.toList args.toList ds p := hA0
  rw [Try.params5] at hA hval
  obtain ⟨v0, vs0, d0, ds0, p0, q0, hargs, rfl, rfl, h0, r0⟩ := trodAll_cons hA
  obtain ⟨v1, vs1, d1, ds1, p1, q1, rfl, rfl, rfl, h1, r1⟩ := trodAll_cons r0
  obtain ⟨v2, vs2, d2, ds2, p2, q2, rfl, rfl, rfl, h2, r2⟩ := trodAll_cons r1
  obtain ⟨v3, vs3, d3, ds3, p3, q3, rfl, rfl, rfl, h3, r3⟩ := trodAll_cons r2
  obtain ⟨v4, vs4, d4, ds4, p4, q4, rfl, rfl, rfl, h4, r4⟩ := trodAll_cons r3
  obtain ⟨rfl, rfl, rfl⟩ := trodAll_nil r4
  obtain rfl : args = #[v0, v1, v2, v3, v4] := by cases args; simp_all
  obtain ⟨rfl, rfl⟩ := trodVars_none hV
  clear hA0
  obtain ⟨a0, rfl, rfl, rfl, w0⟩ := open_int Try.underlying3 (hval 0 3 v0 rfl rfl) h0
  obtain ⟨a2, rfl, rfl, rfl, w2⟩ := open_int Try.underlying3 (hval 2 3 v2 rfl rfl) h2
  obtain ⟨a4, rfl, rfl, rfl, w4⟩ := open_int Try.underlying3 (hval 4 3 v4 rfl rfl) h4
  simp only [List.append_nil, List.nil_append] at hW'
  have h1k := h1
  obtain ⟨n1, hf1⟩ := h1
  obtain ⟨ad1, len1, cap1, rfl⟩ := okWide_slice Try.underlying41 (hval 1 41 v1 rfl rfl)
  obtain ⟨ns1, f1, hcs1, hr1⟩ := open_u16s (w := W) hf1
  obtain rfl : (Value.slice ad1 len1 cap1) = ns1 := by simpa [Value.cells] using hcs1
  have h3k := h3
  obtain ⟨n3, hf3⟩ := h3
  obtain ⟨ad3, len3, cap3, rfl⟩ := okWide_slice Try.underlying22 (hval 3 22 v3 rfl rfl)
  obtain ⟨ns3, f3, hcs3, hr3⟩ := open_turns (w := W) hf3
  obtain rfl : (Value.slice ad3 len3 cap3) = ns3 := by simpa [Value.cells] using hcs3
  have hlt1 : ∀ x ∈ p1, x.block < W.heap.size := fun x hx => by simpa using hW'.lt x (by simp [hx])
  have hlt3 : ∀ x ∈ p3, x.block < W.heap.size := fun x hx => by simpa using hW'.lt x (by simp [hx])
  refine (pickHolds_ok a0 f1 _ a2 f3 _ a4 (hp W) (wf_i64 w0) hr1 (wf_i64 w2) hr3 (wf_i64 w4) W (has_hp W)).mono ?_
  rintro e W' ⟨v, G', rfl, hg, rfl⟩
  have hb := hg.below
  exact ⟨_, rfl, post_below rfl rfl hW' (fun _ _ _ => (trodAll_cons_mk (shut_bool Try.underlying4 _) trodAll_mk0))
    (fun sp hsp => by have this := (trodAll_cons_mk (shut_int Try.underlying3 w0) (trodAll_cons_mk (WideElems.Trod_stays laidOut (by kernel_rfl) (of_decide_eq_true (by kernel_rfl)) h1k (fun x hx => hb.same (hlt1 x hx)) (fun x hx => hsp x (by simp [hx]))) (trodAll_cons_mk (shut_int Try.underlying3 w2) (trodAll_cons_mk (WideElems.Trod_stays laidOut (by kernel_rfl) (of_decide_eq_true (by kernel_rfl)) h3k (fun x hx => hb.same (hlt3 x hx)) (fun x hx => hsp x (by simp [hx]))) (trodAll_cons_mk (shut_int Try.underlying3 w4) trodAll_mk0))))); simp only [List.append_nil, List.nil_append] at this; exact this)
    hb (ok_one (by kernel_rfl) rfl (okWide_bool_mk Try.underlying4 _))⟩

set_option maxRecDepth 100000 in
theorem lifted (os : Os) (started : os.Started) (H : Type) (enc : TypeId × Value → H) :
    ReturnsInHanded {} Try.checked os 5 .any (Rows.pickHoldsSpec.pre6 enc Try.prog Try.f5 Rows.pickHoldsRow.domain false) (Rows.pickHoldsSpec.post enc Try.prog Try.f5 false true false false) := by
  refine returnsInHanded_of_change (C := Try.checked) own started (by kernel_rfl) Try.func5
    (ChangeSpec.witness6 (enc := enc) (C := Try.checked) false ⟨#[], #[.int .i64 0, .slice none 0 0, .int .i64 0, .slice none 0 0, .int .i64 0], []⟩ 8 (by kernel_rfl) (by kernel_rfl) (by kernel_rfl) (by kernel_rfl)) ?_
  intro W base args ds gs before hval hW _ _
  exact contract H enc W base args ds gs before hval hW

theorem over : Rows.pickHoldsRow.holds Try.pinned (OpenSpec.ofChange Rows.pickHoldsSpec) :=
  OpenClaim.holds_of_wide 5 Try.f5 rfl rfl rfl rfl rfl rfl rfl ⟨rfl, rfl, rfl, rfl, rfl⟩ rfl rfl rfl rfl rfl (by kernel_rfl) Try.func5 (by kernel_rfl)
    (of_decide_eq_true (by kernel_rfl)) (by unfold Func.isWrapper; first | (rw [if_pos (by decide +kernel)]; kernel_rfl) | (rw [if_neg (by decide +kernel)]; exact ⟨rfl, rfl⟩))
    (fun os started H enc _ => lifted os started H enc)

theorem proved : Rows.PickHoldsSaid := over
end Go.Proofs.Ytcaohcmlicbjhaa.pickHolds

