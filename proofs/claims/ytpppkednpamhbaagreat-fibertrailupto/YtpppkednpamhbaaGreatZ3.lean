/-
  (*view).right: is a node not wrong? The rows of the view are written.
-/
import Derived.Test.YtpppkednpamhbaaGreatZ2
import Derived.RecoverIn
import Derived.DefersIn
import Derived.ArgAppend
import Derived.Laws.BytesArg
import Derived.Laws.IdiomStrings
import Derived.WideLaws
set_option linter.unusedSimpArgs false
set_option linter.unusedVariables false
namespace Go.Proofs.YtpppkednpamhbaaGreat
set_option linter.unusedSimpArgs false
set_option linter.unusedVariables false
open Go.Sx
set_option maxHeartbeats 4000000
def fp (x : Int × Int) : Value := .int .i64 x.1
def fd (x : Int × Int) : Value := .int .i64 x.2
theorem ldp {A : Pl} {i off : Nat} (h : i < A.length) (ho : off = i) : ldV false (((A.map fp).drop off).take 1) = .int .i64 (pa A i) := by rw [ld1 h ho, pa_eq h]; rfl
theorem ldd {A : Pl} {i off : Nat} (h : i < A.length) (ho : off = i) : ldV false (((A.map fd).drop off).take 1) = .int .i64 (de A i) := by rw [ld1 h ho, de_eq h]; rfl
def rows (n b1 b2 c1 c2 : Nat) (A : Pl) : Lds :=
  [(b1, .row (.slice (some ⟨b1, 0, none⟩) n c1) 3 1 n (A.map fp)), (b2, .row (.slice (some ⟨b2, 0, none⟩) n c2) 3 1 n (A.map fd))]
theorem right_ok (f : Fu) (i n : Nat) (A : Pl) (ns : Value) (bv b1 b2 c1 c2 : Nat) (G : Hp) (hns : rN.S G f.nodes ns) (hfn : f.nodes.length = n) (h200 : n ≤ 200) (hi : i < f.nodes.length) (hA : okA A) (hl : A.length = n)
    (hv : At G bv 0 [.int .i64 f.params, ns, .slice (some ⟨b1, 0, none⟩) n c1, .slice (some ⟨b2, 0, none⟩) n c2]) :
    PureW Tryz.prog 124 [.pointer (some ⟨bv, 0, none⟩), .int .i64 i] G (rows n b1 b2 c1 c2 A)
      (fun r _ ow => r = .bool (nodeStep n i f.nodes[i] A).isSome ∧ ∃ B, B.length = n ∧ ow = rows n b1 b2 c1 c2 B ∧ ∀ B', nodeStep n i f.nodes[i] A = some B' → B = B') := by
  have hv0 : At G bv 1 [ns] := by simpa using hv.sub 1 1 (by simp)
  have hv1 : At G bv 2 [.slice (some ⟨b1, 0, none⟩) n c1] := by simpa using hv.sub 2 1 (by simp)
  have hv2 : At G bv 3 [.slice (some ⟨b2, 0, none⟩) n c2] := by simpa using hv.sub 3 1 (by simp)
  obtain ⟨bn, offn, capn, cn, rfl, hatn, sl, rfl, hop, hnn, hsl⟩ := Rp.S_get hns hi
  rw [hfn] at hv0
  obtain ⟨h63, ad, cap, rfl, hsrc⟩ := hsl
  have hatn' : At G bn (offn + i * 3) [.int .i64 f.nodes[i].op, .int .i64 f.nodes[i].n, .slice ad f.nodes[i].l.length cap] := by simpa [rN] using hatn
  clear hatn hns
  generalize hx : f.nodes[i] = x at *
  have hi2 : i < n := by omega
  refine enterW ty tyok Tryz.func124 rfl Tryz.ntmps124 [.v (.pointer (some ⟨bv, 0, none⟩)), .v (.int .i64 i)] (by simp) (mh := 2) rfl ?_
  intro C hP hQ hnt hty hmb hmh hro hG0 hmub; have hQp := qp_body hQ; refine st_ ?_
  simp only [rows, enumO]
  refine rn_ ?_; intros
  have ret : ∀ B : Pl, B.length = n → nodeStep n i x A = none → Value.bool false = Value.bool (nodeStep n i x A).isSome ∧ ∃ B', B'.length = n ∧ rows n b1 b2 c1 c2 B = rows n b1 b2 c1 c2 B' ∧ ∀ B'', nodeStep n i x A = some B'' → B' = B'' :=
    fun B hB h => ⟨by rw [h]; rfl, B, hB, rfl, fun B'' h' => by rw [h] at h'; cases h'⟩
  refine cut_tail 2 (fun s' => ¬ (0 < i ∧ pa A i < 0) ∧ ¬ 64 < de A i ∧ s' = ⟨[(0, .v (.pointer (some ⟨bv, 0, none⟩))), (1, .v (.int .i64 i)), (4, .b false)], [(0, b1, .row (.slice (some ⟨b1, 0, none⟩) n c1) 3 1 n (A.map fp)), (1, b2, .row (.slice (some ⟨b2, 0, none⟩) n c2) 3 1 n (A.map fd))], G, []⟩) ?_ ?_
  rotate_left
  · intro key
    simp only [List.drop_succ_cons, List.drop_zero] at key
    refine go_gsplit rfl rfl (fun h1 => ?_) (fun h1 => ?_) <;> (refine st_ ?_; (refine rn_ ?_; intros))
    · have h1' : 0 < i := by simpa using h1
      refine go_q (by rw [hnt]; rfl) (quiet_load (by rw [hty]; rfl) rfl (by simp [TK.agg]) hv1 rfl) ?_; refine rn_ ?_; intros; refine go_q (by rw [hnt]; rfl) (quiet_index (by rw [hty]; rfl) (by rw [hty]; rfl) rfl rfl rfl (by omega) (by omega)) ?_; refine rn_ ?_; intros; refine go_q (v := .int .i64 (pa A i)) (by rw [hnt]; rfl) ((quiet_loadR (k := 0) (by rw [hty]; rfl) rfl (by simp [TK.agg]) rfl (by simp; omega)).cast (by exact ldp (by omega) (by simp))) ?_; refine rn_ ?_; intros
      refine go_gsplit rfl rfl (fun h2 => ?_) (fun h2 => ?_) <;> (refine st_ ?_; (refine rn_ ?_; intros))
      · refine x_retW rfl hQ hmb hmh hG0 hmub rfl rfl (by rw [hty]; simp only [so, sq, zy, zz, tyE, SO', SQ', opQ, opStore, opAlloc, ev, putS, dOk, cv, SV.cs, SV.one, SV.bool?, eqB, Value.oneCell', ldOwn, binInt, binConst, binBool, binStr, isC, TK.agg, rv, rv1, ldV, resOne, resV, Nat.reduceAdd, Nat.reduceMul, Nat.reduceSub, Nat.reduceLT, Nat.reduceLeDiff, Nat.reduceEqDiff, Nat.reduceBEq, reduceIte, reduceCtorEq, eq_self]; try rfl) rfl rfl (by simp only [enumO]; exact (by repeat (first | exact plain_nil | refine plain_cons (fun _ h => h) ?_))) ?_; simp only [SV.den, resV, dens]
        exact ret A hl (if_pos (.inl ⟨h1', by simpa using h2⟩))
      · refine go_q (by rw [hnt]; rfl) (quiet_load (by rw [hty]; rfl) rfl (by simp [TK.agg]) hv2 rfl) ?_; refine rn_ ?_; intros; refine go_q (by rw [hnt]; rfl) (quiet_index (by rw [hty]; rfl) (by rw [hty]; rfl) rfl rfl rfl (by omega) (by omega)) ?_; refine rn_ ?_; intros; refine go_q (v := .int .i64 (de A i)) (by rw [hnt]; rfl) ((quiet_loadR (k := 1) (by rw [hty]; rfl) rfl (by simp [TK.agg]) rfl (by simp; omega)).cast (by exact ldd (by omega) (by simp))) ?_; refine rn_ ?_; intros
        refine x_if rfl rfl rfl rfl (fun h3 => ?_) (fun h3 => ?_)
        · refine rn_ ?_; intros
          refine x_retW rfl hQ hmb hmh hG0 hmub rfl rfl (by rw [hty]; simp only [so, sq, zy, zz, tyE, SO', SQ', opQ, opStore, opAlloc, ev, putS, dOk, cv, SV.cs, SV.one, SV.bool?, eqB, Value.oneCell', ldOwn, binInt, binConst, binBool, binStr, isC, TK.agg, rv, rv1, ldV, resOne, resV, Nat.reduceAdd, Nat.reduceMul, Nat.reduceSub, Nat.reduceLT, Nat.reduceLeDiff, Nat.reduceEqDiff, Nat.reduceBEq, reduceIte, reduceCtorEq, eq_self]; try rfl) rfl rfl (by simp only [enumO]; exact (by repeat (first | exact plain_nil | refine plain_cons (fun _ h => h) ?_))) ?_; simp only [SV.den, resV, dens]
          exact ret A hl (if_pos (.inr (.inl (by simpa using h3))))
        · refine x_skip rfl ?_
          refine go_keep [0, 1, 4] [0, 1] ?_
          refine st_ ?_
          exact key _ ⟨by simp at h2; omega, by simp at h3; omega, rfl⟩
    · have h1' : ¬ 0 < i := by simpa using h1
      refine go_q (by rw [hnt]; rfl) (quiet_load (by rw [hty]; rfl) rfl (by simp [TK.agg]) hv2 rfl) ?_; refine rn_ ?_; intros; refine go_q (by rw [hnt]; rfl) (quiet_index (by rw [hty]; rfl) (by rw [hty]; rfl) rfl rfl rfl (by omega) (by omega)) ?_; refine rn_ ?_; intros; refine go_q (v := .int .i64 (de A i)) (by rw [hnt]; rfl) ((quiet_loadR (k := 1) (by rw [hty]; rfl) rfl (by simp [TK.agg]) rfl (by simp; omega)).cast (by exact ldd (by omega) (by simp))) ?_; refine rn_ ?_; intros
      refine x_if rfl rfl rfl rfl (fun h3 => ?_) (fun h3 => ?_)
      · refine rn_ ?_; intros
        refine x_retW rfl hQ hmb hmh hG0 hmub rfl rfl (by rw [hty]; simp only [so, sq, zy, zz, tyE, SO', SQ', opQ, opStore, opAlloc, ev, putS, dOk, cv, SV.cs, SV.one, SV.bool?, eqB, Value.oneCell', ldOwn, binInt, binConst, binBool, binStr, isC, TK.agg, rv, rv1, ldV, resOne, resV, Nat.reduceAdd, Nat.reduceMul, Nat.reduceSub, Nat.reduceLT, Nat.reduceLeDiff, Nat.reduceEqDiff, Nat.reduceBEq, reduceIte, reduceCtorEq, eq_self]; try rfl) rfl rfl (by simp only [enumO]; exact (by repeat (first | exact plain_nil | refine plain_cons (fun _ h => h) ?_))) ?_; simp only [SV.den, resV, dens]
        exact ret A hl (if_pos (.inr (.inl (by simpa using h3))))
      · refine x_skip rfl ?_
        refine go_keep [0, 1, 4] [0, 1] ?_
        refine st_ ?_
        exact key _ ⟨by omega, by simp at h3; omega, rfl⟩
  · rintro s' ⟨hb1, hb2, rfl⟩
    simp only [List.drop_succ_cons, List.drop_zero]
    refine rn_ ?_; intros
    refine go_q (by rw [hnt]; rfl) (quiet_load (by rw [hty]; rfl) rfl (by simp [TK.agg]) hv0 rfl) ?_; refine rn_ ?_; intros
    refine go_q (by rw [hnt]; rfl) (quiet_index (by rw [hty]; rfl) (by rw [hty]; rfl) rfl rfl rfl (by omega) (by omega)) ?_
    refine rn_ ?_; intros
    refine go_q (by rw [hnt]; rfl) (quiet_load (by rw [hty]; rfl) rfl (by simp [TK.agg]) hatn' rfl) ?_
    refine rn_ ?_; intros
    rename_i b5
    refine go_callf (by rw [hnt]; rfl) (by rw [hP]; kernel_rfl) rfl (hP ▸ children_ok x.op G) ?_; refine rn_ ?_; intros
    refine go_keep [0, 1, 4, 5, 6, 7, 8] [0, 1, 2] ?_
    refine st_ ?_
    refine x_draw rfl (by rw [hP]; kernel_rfl) rfl (by kernel_rfl) ?_
    refine runq 400 hty hnt ?_; refine st_ ?_
    have nb : ben x.op x.l.length = false → nodeStep n i x A = none := fun h => if_pos (.inr (.inr (.inl h)))
    refine go_qsplit rfl rfl (fun h3 => ?_) (fun h3 => ?_) <;> (refine st_ ?_; (try (refine runq 400 hty hnt ?_; refine st_ ?_)))
    · (first | refine q_end ?_; refine rn_ ?_; intros | skip)
      refine rn_ ?_; intros
      refine x_retW rfl hQ hmb hmh hG0 hmub rfl rfl (by rw [hty]; simp only [so, sq, zy, zz, tyE, SO', SQ', opQ, opStore, opAlloc, ev, putS, dOk, cv, SV.cs, SV.one, SV.bool?, eqB, Value.oneCell', ldOwn, binInt, binConst, binBool, binStr, isC, TK.agg, rv, rv1, ldV, resOne, resV, Nat.reduceAdd, Nat.reduceMul, Nat.reduceSub, Nat.reduceLT, Nat.reduceLeDiff, Nat.reduceEqDiff, Nat.reduceBEq, reduceIte, reduceCtorEq, eq_self]; try rfl) rfl rfl (by simp only [enumO]; exact (by repeat (first | exact plain_nil | refine plain_cons (fun _ h => h) ?_))) ?_; simp only [SV.den, resV, dens]
      exact ret A hl (nb (by simp [ben]; simp_all))
    refine go_qsplit rfl rfl (fun h4 => ?_) (fun h4 => ?_) <;> (refine st_ ?_; (try (refine runq 400 hty hnt ?_; refine st_ ?_)))
    · (first | refine q_end ?_; refine rn_ ?_; intros | skip)
      refine rn_ ?_; intros
      refine x_retW rfl hQ hmb hmh hG0 hmub rfl rfl (by rw [hty]; simp only [so, sq, zy, zz, tyE, SO', SQ', opQ, opStore, opAlloc, ev, putS, dOk, cv, SV.cs, SV.one, SV.bool?, eqB, Value.oneCell', ldOwn, binInt, binConst, binBool, binStr, isC, TK.agg, rv, rv1, ldV, resOne, resV, Nat.reduceAdd, Nat.reduceMul, Nat.reduceSub, Nat.reduceLT, Nat.reduceLeDiff, Nat.reduceEqDiff, Nat.reduceBEq, reduceIte, reduceCtorEq, eq_self]; try rfl) rfl rfl (by simp only [enumO]; exact (by repeat (first | exact plain_nil | refine plain_cons (fun _ h => h) ?_))) ?_; simp only [SV.den, resV, dens]
      exact ret A hl (nb (by simp [ben]; simp at h4; omega))
    refine go_qsplit rfl rfl (fun h5 => ?_) (fun h5 => ?_) <;> (refine st_ ?_; (try (refine runq 400 hty hnt ?_; refine st_ ?_)))
    · (first | refine q_end ?_; refine rn_ ?_; intros | skip)
      refine rn_ ?_; intros
      refine x_retW rfl hQ hmb hmh hG0 hmub rfl rfl (by rw [hty]; simp only [so, sq, zy, zz, tyE, SO', SQ', opQ, opStore, opAlloc, ev, putS, dOk, cv, SV.cs, SV.one, SV.bool?, eqB, Value.oneCell', ldOwn, binInt, binConst, binBool, binStr, isC, TK.agg, rv, rv1, ldV, resOne, resV, Nat.reduceAdd, Nat.reduceMul, Nat.reduceSub, Nat.reduceLT, Nat.reduceLeDiff, Nat.reduceEqDiff, Nat.reduceBEq, reduceIte, reduceCtorEq, eq_self]; try rfl) rfl rfl (by simp only [enumO]; exact (by repeat (first | exact plain_nil | refine plain_cons (fun _ h => h) ?_))) ?_; simp only [SV.den, resV, dens]
      exact ret A hl (nb (by simp [ben]; simp at h5; omega))
    have hben : ben x.op x.l.length = true := by simp at h3 h4 h5; simp [ben, h3]; omega
    refine q_q (by rw [hnt]; rfl) (quiet_load (by rw [hty]; rfl) rfl (by simp [TK.agg]) hv2 rfl) ?_
    refine runq 400 hty hnt ?_; refine st_ ?_
    refine q_q (by rw [hnt]; rfl) (quiet_index (by rw [hty]; rfl) (by rw [hty]; rfl) rfl rfl rfl (by omega) (by omega)) ?_
    refine runq 400 hty hnt ?_; refine st_ ?_
    refine q_q (v := .int .i64 (de A i)) (by rw [hnt]; rfl) ((quiet_loadR (k := 1) (by rw [hty]; rfl) rfl (by simp [TK.agg]) rfl (by simp; omega)).cast (by exact ldd (by omega) (by simp))) ?_
    refine runq 400 hty hnt ?_; refine st_ ?_
    refine q_callf (by rw [hnt]; rfl) (by rw [hP]; kernel_rfl) rfl (hP ▸ number_ok x _ (de A i) G ⟨h63, ad, cap, rfl, hsrc⟩) ?_
    refine runq 400 hty hnt ?_; refine st_ ?_
    refine q_end ?_; refine rn_ ?_; intros
    refine rn_ ?_; intros
    refine x_split rfl rfl rfl (fun h6 => ?_) (fun h6 => ?_) <;> (refine st_ ?_; (refine ru_ ?_; intros))
    · refine x_retW rfl hQ hmb hmh hG0 hmub rfl rfl (by rw [hty]; simp only [so, sq, zy, zz, tyE, SO', SQ', opQ, opStore, opAlloc, ev, putS, dOk, cv, SV.cs, SV.one, SV.bool?, eqB, Value.oneCell', ldOwn, binInt, binConst, binBool, binStr, isC, TK.agg, rv, rv1, ldV, resOne, resV, Nat.reduceAdd, Nat.reduceMul, Nat.reduceSub, Nat.reduceLT, Nat.reduceLeDiff, Nat.reduceEqDiff, Nat.reduceBEq, reduceIte, reduceCtorEq, eq_self]; try rfl) rfl rfl (by simp only [enumO]; exact (by repeat (first | exact plain_nil | refine plain_cons (fun _ h => h) ?_))) ?_; simp only [SV.den, resV, dens]
      exact ret A hl (if_pos (.inr (.inr (.inr (by simpa using h6)))))
    have hnb : nodeStep n i x A = kids n x.op i 0 x.l A := if_neg (by
      rintro (h | h | h | h)
      · exact hb1 h
      · exact hb2 h
      · rw [hben] at h; cases h
      · simp at h6; rw [h6] at h; cases h)
    refine go_keep [0, 1, 4, 5, 77, 78, 79] [0, 1, 2] ?_
    refine st_ ?_
    have hdk := de_ok hA (show i < A.length by omega)
    refine x_loop rfl (fun q s => ∃ (k : Nat) (B : Pl), k ≤ x.l.length ∧ q = x.l.length - k ∧ B.length = n ∧ de B i = de A i ∧ kids n x.op i 0 x.l A = kids n x.op i k (x.l.drop k) B ∧
      s = ⟨[(0, .v (.pointer (some ⟨bv, 0, none⟩))), (1, .v (.int .i64 i)), (4, .b false), (5, .p 2 b5 0), (77, .v (.slice ad x.l.length cap)), (78, .v (.int .i64 x.l.length)), (79, .v (.int .i64 k))],
        [(0, b1, .row (.slice (some ⟨b1, 0, none⟩) n c1) 3 1 n (B.map fp)), (1, b2, .row (.slice (some ⟨b2, 0, none⟩) n c2) 3 1 n (B.map fd)),
         (2, b5, .c 110 [.v (.int .i64 x.op), .v (.int .i64 x.n), .v (.slice ad x.l.length cap)])], G, []⟩) ⟨0, A, by omega, rfl, hl, rfl, by simp, by simp⟩ ?_
    rintro q s ⟨k, B, hk, hq, hB, hdB, hkid, rfl⟩ ih
    refine rn_ ?_; intros
    refine x_if rfl rfl rfl rfl (fun hjl => ?_) (fun hjl => ?_)
    · have hlt : k < x.l.length := by simp at hjl; omega
      rcases hsrc with h0 | ⟨bl, offl, csl, rfl, hal, hrl⟩
      · simp [h0] at hlt
      obtain ⟨c0, hat, rfl, hc64⟩ := Rp.at_get hal hrl (i := k) hlt
      have hat' : At G bl (offl + k) [.int .i64 x.l[k]] := by simpa [rI] using hat
      rw [List.drop_eq_getElem_cons hlt] at hkid
      simp only [kids] at hkid
      generalize hce : x.l[k] = c at *
      refine rn_ ?_; intros
      refine go_q (by rw [hnt]; rfl) (quiet_index (by rw [hty]; rfl) (by rw [hty]; rfl) rfl rfl rfl (by omega) (by omega)) ?_
      refine rn_ ?_; intros
      refine go_q (by rw [hnt]; rfl) (quiet_load (vs := [.int .i64 c]) (by rw [hty]; rfl) rfl (by simp [TK.agg]) (by simpa using hat') rfl) ?_
      refine rn_ ?_; intros
      have kn : (c ≤ i ∨ (n : Int) ≤ c ∨ 0 ≤ pa B c.toNat) → nodeStep n i x A = none := fun h => by rw [hnb, hkid, if_pos h]
      refine go_gsplit rfl rfl (fun hc1 => ?_) (fun hc1 => ?_) <;> (refine st_ ?_; (refine rn_ ?_; intros))
      · refine x_retW rfl hQ hmb hmh hG0 hmub rfl rfl (by rw [hty]; simp only [so, sq, zy, zz, tyE, SO', SQ', opQ, opStore, opAlloc, ev, putS, dOk, cv, SV.cs, SV.one, SV.bool?, eqB, Value.oneCell', ldOwn, binInt, binConst, binBool, binStr, isC, TK.agg, rv, rv1, ldV, resOne, resV, Nat.reduceAdd, Nat.reduceMul, Nat.reduceSub, Nat.reduceLT, Nat.reduceLeDiff, Nat.reduceEqDiff, Nat.reduceBEq, reduceIte, reduceCtorEq, eq_self]; try rfl) rfl rfl (by simp only [enumO]; exact (by repeat (first | exact plain_nil | refine plain_cons (fun _ h => h) ?_))) ?_; simp only [SV.den, resV, dens]
        exact ret B hB (kn (.inl (by simpa using hc1)))
      have hc1' : (i : Int) < c := by simp at hc1; omega
      refine go_q (by rw [hnt]; rfl) (quiet_load (by rw [hty]; rfl) rfl (by simp [TK.agg]) hv0 rfl) ?_; refine rn_ ?_; intros
      refine go_gsplit rfl rfl (fun hc2 => ?_) (fun hc2 => ?_) <;> (refine st_ ?_; (refine rn_ ?_; intros))
      · refine x_retW rfl hQ hmb hmh hG0 hmub rfl rfl (by rw [hty]; simp only [so, sq, zy, zz, tyE, SO', SQ', opQ, opStore, opAlloc, ev, putS, dOk, cv, SV.cs, SV.one, SV.bool?, eqB, Value.oneCell', ldOwn, binInt, binConst, binBool, binStr, isC, TK.agg, rv, rv1, ldV, resOne, resV, Nat.reduceAdd, Nat.reduceMul, Nat.reduceSub, Nat.reduceLT, Nat.reduceLeDiff, Nat.reduceEqDiff, Nat.reduceBEq, reduceIte, reduceCtorEq, eq_self]; try rfl) rfl rfl (by simp only [enumO]; exact (by repeat (first | exact plain_nil | refine plain_cons (fun _ h => h) ?_))) ?_; simp only [SV.den, resV, dens]
        exact ret B hB (kn (.inr (.inl (by simpa using hc2))))
      have hc2' : c < (n : Int) := by simp at hc2; omega
      obtain ⟨c, rfl⟩ : ∃ c' : Nat, c = c' := ⟨c.toNat, by omega⟩
      simp only [Int.toNat_natCast] at kn hkid
      refine go_q (by rw [hnt]; rfl) (quiet_load (by rw [hty]; rfl) rfl (by simp [TK.agg]) hv1 rfl) ?_; refine rn_ ?_; intros; refine go_q (by rw [hnt]; rfl) (quiet_index (by rw [hty]; rfl) (by rw [hty]; rfl) rfl rfl rfl (by omega) (by omega)) ?_; refine rn_ ?_; intros; refine go_q (v := .int .i64 (pa B c)) (by rw [hnt]; rfl) ((quiet_loadR (k := 0) (by rw [hty]; rfl) rfl (by simp [TK.agg]) rfl (by simp; omega)).cast (by exact ldp (by omega) (by simp))) ?_; refine rn_ ?_; intros
      refine x_split rfl rfl rfl (fun hc3 => ?_) (fun hc3 => ?_) <;> (refine st_ ?_; (refine ru_ ?_; intros))
      · refine x_retW rfl hQ hmb hmh hG0 hmub rfl rfl (by rw [hty]; simp only [so, sq, zy, zz, tyE, SO', SQ', opQ, opStore, opAlloc, ev, putS, dOk, cv, SV.cs, SV.one, SV.bool?, eqB, Value.oneCell', ldOwn, binInt, binConst, binBool, binStr, isC, TK.agg, rv, rv1, ldV, resOne, resV, Nat.reduceAdd, Nat.reduceMul, Nat.reduceSub, Nat.reduceLT, Nat.reduceLeDiff, Nat.reduceEqDiff, Nat.reduceBEq, reduceIte, reduceCtorEq, eq_self]; try rfl) rfl rfl (by simp only [enumO]; exact (by repeat (first | exact plain_nil | refine plain_cons (fun _ h => h) ?_))) ?_; simp only [SV.den, resV, dens]
        exact ret B hB (kn (.inr (.inr (by simpa using hc3))))
      have hc3' : ¬ 0 ≤ pa B c := by simp at hc3; omega
      rw [if_neg (by omega)] at hkid
      refine go_q (by rw [hnt]; rfl) (quiet_load (by rw [hty]; rfl) rfl (by simp [TK.agg]) hv1 rfl) ?_; refine rn_ ?_; intros
      refine go_q (by rw [hnt]; rfl) (quiet_index (by rw [hty]; rfl) (by rw [hty]; rfl) rfl rfl rfl (by omega) (by omega)) ?_
      refine rn_ ?_; intros
      refine go_storeR 0 rfl (by rw [hty]; rfl) rfl rfl rfl rfl rfl rfl (lay1 (i := c) ((i : Int), de A i + more x.op k) (by omega) (by simp) rfl) ?_
      refine rn_ ?_; intros
      refine x_held [] rfl (by rw [hP]; kernel_rfl) rfl rfl rfl ?_
      refine st_ ?_
      refine tq_ 0 rfl (quiet_op (by rw [hty]; first | rfl | (refine st_ ?_; rfl))) ?_; refine st_ ?_
      refine tq_ 1 rfl (quiet_op (by rw [hty]; first | rfl | (refine st_ ?_; rfl))) ?_; refine st_ ?_
      refine tq_ 2 rfl (quiet_op (by rw [hty]; first | rfl | (refine st_ ?_; rfl))) ?_; refine st_ ?_
      refine tq_ 3 rfl (x := .v (.slice (some ⟨b2, 0, none⟩) n c2)) ((quiet_load (by rw [hty]; rfl) rfl (by simp [TK.agg]) hv2 rfl).cast rfl) ?_
      refine st_ ?_
      refine tq_ 4 rfl (quiet_op (by rw [hty]; first | rfl | (refine st_ ?_; rfl))) ?_; refine st_ ?_
      refine tq_ 5 rfl (quiet_op (by rw [hty]; first | rfl | (refine st_ ?_; rfl))) ?_; refine st_ ?_
      refine tq_ 6 rfl (quiet_op (by rw [hty]; first | rfl | (refine st_ ?_; rfl))) ?_; refine st_ ?_
      refine tq_ 7 rfl (quiet_op (by rw [hty]; first | rfl | (refine st_ ?_; rfl))) ?_; refine st_ ?_
      refine tq_ 8 rfl (x := .v (.slice (some ⟨b2, 0, none⟩) n c2)) ((quiet_load (by rw [hty]; rfl) rfl (by simp [TK.agg]) hv2 rfl).cast rfl) ?_
      refine st_ ?_
      refine tq_ 9 rfl (quiet_op (by rw [hty]; first | rfl | (refine st_ ?_; rfl))) ?_; refine st_ ?_
      refine tq_ 10 rfl (x := .v (.pointer (some ⟨b2, i, none⟩))) ((quiet_index (by rw [hty]; rfl) (by rw [hty]; rfl) rfl rfl rfl (by omega) (by omega)).cast (by simp [SV.den])) ?_
      refine st_ ?_
      refine h_one 11 rfl (by kernel_rfl) ?_
      refine go_q (v := .int .i64 (de A i)) (by rw [hnt]; rfl) ((quiet_loadR (k := 1) (by rw [hty]; rfl) rfl (by simp [TK.agg]) rfl (by simp; omega)).cast (by rw [← hdB]; exact ldd (by omega) (by simp))) ?_
      refine rn_ ?_; intros
      refine hs_ ?_
      refine tq_ 12 rfl (x := .v (.pointer (some ⟨b2, c, none⟩))) ((quiet_index (by rw [hty]; rfl) (by rw [hty]; rfl) rfl rfl rfl (by omega) (by omega)).cast (by simp [SV.den])) ?_
      refine st_ ?_
      refine h_one 13 rfl (by kernel_rfl) ?_
      refine go_storeR 1 rfl (by rw [hty]; rfl) rfl rfl rfl rfl rfl rfl (lay1 (i := c) ((i : Int), de A i) (by omega) (by simp) rfl) ?_
      refine rn_ ?_; intros
      refine hs_ ?_
      refine h_end (by kernel_rfl) ?_
      refine rn_ ?_; intros
      have fin : ∀ D, D = de A i + more x.op k → SGo C _ _ := fun D hD => ih (x.l.length - (k + 1)) ⟨[(0, .v (.pointer (some ⟨bv, 0, none⟩))), (1, .v (.int .i64 i)), (4, .b false), (5, .p 2 b5 0), (77, .v (.slice (some ⟨bl, offl, none⟩) x.l.length cap)), (78, .v (.int .i64 x.l.length)), (79, .v (.int .i64 ((k : Int) + 1)))],
        [(0, b1, .row (.slice (some ⟨b1, 0, none⟩) n c1) 3 1 n ((B.set c ((i : Int), de A i + more x.op k)).map fp)), (1, b2, .row (.slice (some ⟨b2, 0, none⟩) n c2) 3 1 n ((B.set c ((i : Int), D)).map fd)),
         (2, b5, .c 110 [.v (.int .i64 x.op), .v (.int .i64 x.n), .v (.slice (some ⟨bl, offl, none⟩) x.l.length cap)])], G, []⟩ (by omega)
        ⟨k + 1, B.set c ((i : Int), de A i + more x.op k), by omega, rfl, by simp [hB], by rw [de_set (by omega), if_neg (by omega)]; exact hdB, by rw [hkid, hdB], by subst hD; simp⟩
      simp only [isI64] at hdk
      have hset : ∀ D E : Int, (B.set c ((i : Int), D)).set c ((i : Int), E) = B.set c ((i : Int), E) := fun D E => by rw [List.set_set]
      refine go_gsplit rfl rfl (fun hm1 => ?_) (fun hm1 => ?_) <;> (refine st_ ?_; (refine rn_ ?_; intros))
      · have hm1' : x.op = 4 := by simpa using hm1
        refine x_split rfl rfl rfl (fun hm2 => ?_) (fun hm2 => ?_) <;> (refine st_ ?_; (refine ru_ ?_; intros))
        · have hm2' : k = 1 := by simp at hm2; omega
          refine go_q (by rw [hnt]; rfl) (quiet_load (by rw [hty]; rfl) rfl (by simp [TK.agg]) hv2 rfl) ?_; refine rn_ ?_; intros
          refine go_q (by rw [hnt]; rfl) (quiet_index (by rw [hty]; rfl) (by rw [hty]; rfl) rfl rfl rfl (by omega) (by omega)) ?_
          refine rn_ ?_; intros
          refine go_q (v := .int .i64 (de A i)) (by rw [hnt]; rfl) ((quiet_loadR (k := 1) (by rw [hty]; rfl) rfl (by simp [TK.agg]) rfl (by simp; omega)).cast (by exact (ldd (A := B.set c ((i : Int), de A i)) (i := c) (by simp; omega) (by simp)).trans (by rw [de_set (by omega), if_pos rfl]))) ?_
          refine rn_ ?_; intros
          rw [wr (n := de A i + 1) (by omega) (by omega)]
          refine go_q (by rw [hnt]; rfl) (quiet_index (by rw [hty]; rfl) (by rw [hty]; rfl) rfl rfl rfl (by omega) (by omega)) ?_
          refine rn_ ?_; intros
          refine go_storeR 1 rfl (by rw [hty]; rfl) rfl rfl rfl rfl rfl rfl (lay1 (i := c) ((i : Int), de A i + 1) (by simp; omega) (by simp) rfl) ?_
          refine rn_ ?_; intros
          rw [wr (n := (k : Int) + 1) (by omega) (by omega), hset]
          refine go_keep [0, 1, 4, 5, 77, 78, 79] [0, 1, 2] ?_
          refine st_ ?_
          exact fin _ (by rw [more, if_pos ⟨hm1', hm2'⟩])
        · have hm2' : ¬ k = 1 := by simp at hm2; omega
          rw [wr (n := (k : Int) + 1) (by omega) (by omega)]
          refine go_keep [0, 1, 4, 5, 77, 78, 79] [0, 1, 2] ?_
          refine st_ ?_
          exact fin _ (by rw [more, if_neg (by omega)]; simp)
      · have hm1' : ¬ x.op = 4 := by simpa using hm1
        rw [wr (n := (k : Int) + 1) (by omega) (by omega)]
        refine go_keep [0, 1, 4, 5, 77, 78, 79] [0, 1, 2] ?_
        refine st_ ?_
        exact fin _ (by rw [more, if_neg (by omega)]; simp)
    · have hge : k = x.l.length := by simp at hjl; omega
      subst hge
      clear ih
      simp only [List.drop_length, kids] at hkid
      refine rn_ ?_; intros
      refine x_retW rfl hQ hmb hmh hG0 hmub rfl rfl (by rw [hty]; simp only [so, sq, zy, zz, tyE, SO', SQ', opQ, opStore, opAlloc, ev, putS, dOk, cv, SV.cs, SV.one, SV.bool?, eqB, Value.oneCell', ldOwn, binInt, binConst, binBool, binStr, isC, TK.agg, rv, rv1, ldV, resOne, resV, Nat.reduceAdd, Nat.reduceMul, Nat.reduceSub, Nat.reduceLT, Nat.reduceLeDiff, Nat.reduceEqDiff, Nat.reduceBEq, reduceIte, reduceCtorEq, eq_self]; try rfl) rfl rfl (by simp only [enumO]; exact (by repeat (first | exact plain_nil | refine plain_cons (fun _ h => h) ?_))) ?_; simp only [SV.den, resV, dens]
      refine ⟨by rw [hnb, hkid]; rfl, B, hB, rfl, fun B'' h => ?_⟩
      rw [hnb, hkid] at h
      exact Option.some.inj h
end Go.Proofs.YtpppkednpamhbaaGreat
namespace Go.Proofs.YtpppkednpamhbaaGreat
set_option linter.unusedSimpArgs false
set_option linter.unusedVariables false
open Go.Sx
set_option maxHeartbeats 4000000
theorem at_cells {G : Hp} {b : Nat} {vs : List Value} {e : TypeId} (h : G b = some (.cells vs.toArray e)) : At G b 0 vs := ⟨_, _, _, h, by simp, fun i hi => by simp⟩
theorem rep_one (v : Value) : ∀ n, rep [v] n = List.replicate n v
  | 0 => rfl
  | n + 1 => by simp only [rep, List.replicate_succ, rep_one v n]; rfl
def mid (n j : Nat) : Pl := List.replicate j (-1, 0) ++ List.replicate (n - j) (0, 0)
theorem mid_len {n j : Nat} (h : j ≤ n) : (mid n j).length = n := by simp [mid]; omega
theorem mid_set {n j : Nat} (h : j < n) : (mid n j).set j (-1, 0) = mid n (j + 1) := by
  simp only [mid]
  rw [List.set_append_right (h := by simp)]
  rw [show n - j = (n - (j + 1)) + 1 by omega, List.replicate_succ, List.replicate_succ']
  simp
def lookR (f : Fu) (ns r : Value) (G' : Hp) : Prop :=
  match places f with
  | .inl i => r = .tuple #[.pointer none, .int .i64 i, .bool false]
  | .inr A => ∃ bv s1 s2, r = .tuple #[.pointer (some ⟨bv, 0, none⟩), .int .i64 0, .bool true] ∧ At G' bv 0 [.int .i64 f.params, ns, s1, s2] ∧ rI.S G' (A.map (·.1)) s1 ∧ rI.S G' (A.map (·.2)) s2
theorem look_ok (f : Fu) (ns : Value) (G : Hp) (hp : isI64 f.params) (hns : rN.S G f.nodes ns) : Pure Tryz.prog 113 [.agg #[.int .i64 f.params, ns]] G (fun r G' => lookR f ns r G') := by
  have hns0 := hns
  obtain ⟨ad, cap, rfl⟩ := Rp.S_slice hns
  have h63 := Rp.S_len hns
  simp only [isI64] at hp
  refine enterX ty tyok Tryz.func113 rfl Tryz.ntmps113 [.a [.v (.int .i64 f.params), .v (.slice ad f.nodes.length cap)]] (by simp) ?_
  intro C hP hQ hnt hty hmb hmh hro; have hQp := qp_body hQ; refine st_ ?_
  refine rn_ ?_; intros
  rename_i b1
  have ret : out f → lookR f (.slice ad f.nodes.length cap) (.tuple #[.pointer none, .int .i64 0, .bool false]) G := fun h => by
    simp only [lookR, places, if_pos h]; rfl
  refine go_gsplit rfl rfl (fun h1 => ?_) (fun h1 => ?_) <;> (refine st_ ?_; (refine rn_ ?_; intros))
  · refine xc_ hQ hmb ?_; simp only [SV.den, resV, dens]
    exact ret (.inl (by simpa using h1))
  refine go_gsplit rfl rfl (fun h2 => ?_) (fun h2 => ?_) <;> (refine st_ ?_; (refine rn_ ?_; intros))
  · refine xc_ hQ hmb ?_; simp only [SV.den, resV, dens]
    exact ret (.inr (.inl (by simpa using h2)))
  refine go_gsplit rfl rfl (fun h3 => ?_) (fun h3 => ?_) <;> (refine st_ ?_; (refine rn_ ?_; intros))
  · refine xc_ hQ hmb ?_; simp only [SV.den, resV, dens]
    exact ret (.inr (.inr (.inl (by simp at h3; omega))))
  refine x_split rfl rfl rfl (fun h4 => ?_) (fun h4 => ?_) <;> (refine st_ ?_; (refine ru_ ?_; intros))
  · refine xc_ hQ hmb ?_; simp only [SV.den, resV, dens]
    exact ret (.inr (.inr (.inr (by simp at h4; omega))))
  clear ret
  have hout : ¬ out f := by
    simp at h1 h2 h3 h4
    unfold out; omega
  have hn1 : 1 ≤ f.nodes.length := by unfold out at hout; omega
  have hn2 : f.nodes.length ≤ 200 := by unfold out at hout; omega
  refine go_keep [1, 5] [0] ?_
  refine st_ ?_
  refine cut_tail 1 (fun s' => ∃ g1 g2 b6, s' = ⟨[(1, .p 0 b1 0), (5, .v (.int .i64 f.nodes.length)), (6, .p 12 b6 0)],
    [(0, b1, .c 64 [.v (.int .i64 f.params), .v (.slice ad f.nodes.length cap)]), (10, g1, .row (.slice (some ⟨g1, 0, none⟩) f.nodes.length f.nodes.length) 3 1 f.nodes.length ((mid f.nodes.length 0).map fp)),
     (11, g2, .row (.slice (some ⟨g2, 0, none⟩) f.nodes.length f.nodes.length) 3 1 f.nodes.length ((mid f.nodes.length 0).map fd)),
     (12, b6, .c 175 [.v (.int .i64 f.params), .v (.slice ad f.nodes.length cap), .v (.slice (some ⟨g1, 0, none⟩) f.nodes.length f.nodes.length), .v (.slice (some ⟨g2, 0, none⟩) f.nodes.length f.nodes.length)])], G, []⟩) ?_ ?_
  rotate_left
  · intro key
    simp only [List.drop_succ_cons, List.drop_zero] at key
    have hr1 : rep [Value.int .i64 0] f.nodes.length = (mid f.nodes.length 0).map fp := by rw [rep_one]; simp [mid, fp]
    have hr2 : rep [Value.int .i64 0] f.nodes.length = (mid f.nodes.length 0).map fd := by rw [rep_one]; simp [mid, fd]
    refine x_held [(0, b1, .c 64 [.v (.int .i64 f.params), .v (.slice ad f.nodes.length cap)])] rfl (by rw [hP]; kernel_rfl) rfl rfl rfl ?_; refine st_ ?_
    refine tq_ 0 rfl (quiet_op (by rw [hty]; first | rfl | (refine st_ ?_; rfl))) ?_; refine st_ ?_
    refine tq_ 1 rfl (quiet_op (by rw [hty]; first | rfl | (refine st_ ?_; rfl))) ?_; refine st_ ?_
    refine tq_ 3 rfl (quiet_op (by rw [hty]; first | rfl | (refine st_ ?_; rfl))) ?_; refine st_ ?_
    refine h_two 2 4 rfl rfl (by kernel_rfl) ?_ ?_
    · refine go_make 10 (by rw [hnt]; rfl) (by rw [hty]; rfl) (by rw [hty]; rfl) rfl rfl (Nat.le_refl _) rfl (by omega) (by omega) (by simp only []; omega) (by simp) ?_
      intro g1
      refine rn_ ?_; intros
      refine hs_ ?_
      refine h_one 4 rfl (by kernel_rfl) ?_
      refine go_make 11 (by rw [hnt]; rfl) (by rw [hty]; rfl) (by rw [hty]; rfl) rfl rfl (Nat.le_refl _) rfl (by omega) (by omega) (by simp only []; omega) (by simp) ?_
      intro g2
      refine rn_ ?_; intros
      refine hs_ ?_
      refine tq_ 5 rfl (quiet_op (by rw [hty]; first | rfl | (refine st_ ?_; rfl))) ?_; refine st_ ?_
      refine h_one 6 rfl (by kernel_rfl) ?_
      refine rn_ ?_; intros
      rename_i b6
      refine hs_ ?_
      refine tq_ 7 rfl (quiet_op (by rw [hty]; first | rfl | (refine st_ ?_; rfl))) ?_; refine st_ ?_
      refine h_end (by kernel_rfl) ?_
      refine go_keep [1, 5, 6] [0, 10, 11, 12] ?_
      refine st_ ?_
      rw [← hr1, ← hr2] at key
      exact key _ ⟨g1, g2, b6, rfl⟩
    · refine go_make 11 (by rw [hnt]; rfl) (by rw [hty]; rfl) (by rw [hty]; rfl) rfl rfl (Nat.le_refl _) rfl (by omega) (by omega) (by simp only []; omega) (by simp) ?_
      intro g2
      refine rn_ ?_; intros
      refine hs_ ?_
      refine h_one 2 rfl (by kernel_rfl) ?_
      refine go_make 10 (by rw [hnt]; rfl) (by rw [hty]; rfl) (by rw [hty]; rfl) rfl rfl (Nat.le_refl _) rfl (by omega) (by omega) (by simp only []; omega) (by simp) ?_
      intro g1
      refine rn_ ?_; intros
      refine hs_ ?_
      refine tq_ 5 rfl (quiet_op (by rw [hty]; first | rfl | (refine st_ ?_; rfl))) ?_; refine st_ ?_
      refine h_one 6 rfl (by kernel_rfl) ?_
      refine rn_ ?_; intros
      rename_i b6
      refine hs_ ?_
      refine tq_ 7 rfl (quiet_op (by rw [hty]; first | rfl | (refine st_ ?_; rfl))) ?_; refine st_ ?_
      refine h_end (by kernel_rfl) ?_
      refine go_keep [1, 5, 6] [0, 10, 11, 12] ?_
      refine st_ ?_
      rw [← hr1, ← hr2] at key
      exact key _ ⟨g1, g2, b6, rfl⟩
  rintro s' ⟨g1, g2, b6, rfl⟩
  simp only [List.drop_succ_cons, List.drop_zero]
  refine go_pub 12 rfl (by omega) ?_
  rintro G1 (hle1 : Le G G1) hG1
  have hv : At G1 b6 0 [.int .i64 f.params, .slice ad f.nodes.length cap, .slice (some ⟨g1, 0, none⟩) f.nodes.length f.nodes.length, .slice (some ⟨g2, 0, none⟩) f.nodes.length f.nodes.length] := at_cells hG1
  have hv1 : At G1 b6 2 [.slice (some ⟨g1, 0, none⟩) f.nodes.length f.nodes.length] := by simpa using hv.sub 2 1 (by simp)
  have hv2 : At G1 b6 3 [.slice (some ⟨g2, 0, none⟩) f.nodes.length f.nodes.length] := by simpa using hv.sub 3 1 (by simp)
  refine go_slot 6 (.v (.pointer (some ⟨b6, 0, none⟩))) rfl rfl ?_
  refine go_keep [1, 5, 6] [0, 10, 11] ?_
  refine st_ ?_
  refine rn_ ?_; intros
  refine go_q (by rw [hnt]; rfl) (quiet_load (by rw [hty]; rfl) rfl (by simp [TK.agg]) hv1 rfl) ?_; refine rn_ ?_; intros
  refine go_keep [1, 5, 6, 39, 40] [0, 10, 11] ?_
  refine st_ ?_
  refine x_loop rfl (fun q s => ∃ (j : Nat), j ≤ f.nodes.length ∧ q = f.nodes.length - j ∧
    s = ⟨[(1, .p 0 b1 0), (5, .v (.int .i64 f.nodes.length)), (6, .v (.pointer (some ⟨b6, 0, none⟩))), (39, .v (.int .i64 f.nodes.length)), (40, .v (.int .i64 j))],
      [(0, b1, .c 64 [.v (.int .i64 f.params), .v (.slice ad f.nodes.length cap)]), (10, g1, .row (.slice (some ⟨g1, 0, none⟩) f.nodes.length f.nodes.length) 3 1 f.nodes.length ((mid f.nodes.length j).map fp)),
       (11, g2, .row (.slice (some ⟨g2, 0, none⟩) f.nodes.length f.nodes.length) 3 1 f.nodes.length ((mid f.nodes.length 0).map fd))], G1, []⟩) ⟨0, by omega, rfl, rfl⟩ ?_
  rintro q s ⟨j, hj, hq, rfl⟩ ih
  refine rn_ ?_; intros
  refine x_if rfl rfl rfl rfl (fun hjl => ?_) (fun hjl => ?_)
  · have hlt : j < f.nodes.length := by simp at hjl; omega
    refine rn_ ?_; intros
    refine go_q (by rw [hnt]; rfl) (quiet_load (by rw [hty]; rfl) rfl (by simp [TK.agg]) hv1 rfl) ?_; refine rn_ ?_; intros
    refine go_q (by rw [hnt]; rfl) (quiet_index (by rw [hty]; rfl) (by rw [hty]; rfl) rfl rfl rfl (by omega) (by omega)) ?_
    refine rn_ ?_; intros
    refine go_storeR 10 rfl (by rw [hty]; rfl) rfl rfl rfl rfl rfl rfl (lay1 (i := j) ((-1 : Int), (0 : Int)) (by rw [mid_len hj]; omega) (by simp) rfl) ?_
    refine rn_ ?_; intros
    rw [wr (n := (j : Int) + 1) (by omega) (by omega), mid_set hlt]
    refine go_keep [1, 5, 6, 39, 40] [0, 10, 11] ?_
    refine st_ ?_
    exact ih (f.nodes.length - (j + 1)) _ (by omega) ⟨j + 1, by omega, rfl, by simp⟩
  have hge : j = f.nodes.length := by simp at hjl; omega
  subst hge
  clear ih
  have hm1 : mid f.nodes.length f.nodes.length = List.replicate f.nodes.length (-1, 0) := by simp [mid]
  have hm2 : (mid f.nodes.length 0).map fd = (List.replicate f.nodes.length ((-1 : Int), (0 : Int))).map fd := by simp [mid, fd]
  rw [hm1, hm2]
  refine rn_ ?_; intros
  refine x_held [(0, b1, .c 64 [.v (.int .i64 f.params), .v (.slice ad f.nodes.length cap)])] rfl (by rw [hP]; kernel_rfl) rfl rfl rfl ?_; refine st_ ?_
  refine tq_ 0 rfl (quiet_op (by rw [hty]; first | rfl | (refine st_ ?_; rfl))) ?_; refine st_ ?_
  refine tq_ 1 rfl (quiet_op (by rw [hty]; first | rfl | (refine st_ ?_; rfl))) ?_; refine st_ ?_
  refine tq_ 2 rfl (quiet_op (by rw [hty]; first | rfl | (refine st_ ?_; rfl))) ?_; refine st_ ?_
  refine tq_ 3 rfl (x := .v (.slice (some ⟨g2, 0, none⟩) f.nodes.length f.nodes.length)) ((quiet_load (by rw [hty]; rfl) rfl (by simp [TK.agg]) hv2 rfl).cast rfl) ?_
  refine st_ ?_
  refine tq_ 4 rfl (quiet_op (by rw [hty]; first | rfl | (refine st_ ?_; rfl))) ?_; refine st_ ?_
  refine tq_ 5 rfl (quiet_op (by rw [hty]; first | rfl | (refine st_ ?_; rfl))) ?_; refine st_ ?_
  refine tq_ 6 rfl (x := .v (.pointer (some ⟨g2, 0, none⟩))) ((quiet_index (by rw [hty]; rfl) (by rw [hty]; rfl) rfl rfl rfl (by omega) (by omega)).cast (by simp [SV.den])) ?_
  refine st_ ?_
  refine h_one 7 rfl (by kernel_rfl) ?_
  refine go_storeR 11 rfl (by rw [hty]; rfl) rfl rfl rfl rfl rfl rfl (lay1 (i := 0) ((-1 : Int), f.params) (by simp; omega) (by simp) rfl) ?_
  refine rn_ ?_; intros
  refine hs_ ?_
  refine h_end (by kernel_rfl) ?_
  refine rn_ ?_; intros
  have hm3 : (List.replicate f.nodes.length ((-1 : Int), (0 : Int))).map fp = (pl0 f).map fp := by
    simp only [pl0, List.map_set, fp, List.map_replicate]
    obtain ⟨m, hm⟩ : ∃ m, f.nodes.length = m + 1 := ⟨f.nodes.length - 1, by omega⟩
    rw [hm]; simp [List.replicate_succ]
  rw [hm3]
  refine go_keep [1, 5, 6, 59, 60] [0, 10, 11] ?_
  refine st_ ?_
  have hpl : places f = plGo f.nodes.length 0 f.nodes (pl0 f) := by rw [places, if_neg hout]
  refine x_loop rfl (fun q s => ∃ (j : Nat) (A : Pl) (G' : Hp), j ≤ f.nodes.length ∧ q = f.nodes.length - j ∧ A.length = f.nodes.length ∧ okA A ∧ Le G1 G' ∧ places f = plGo f.nodes.length j (f.nodes.drop j) A ∧
    s = ⟨[(1, .p 0 b1 0), (5, .v (.int .i64 f.nodes.length)), (6, .v (.pointer (some ⟨b6, 0, none⟩))), (59, .v (.int .i64 f.nodes.length)), (60, .v (.int .i64 j))],
      [(0, b1, .c 64 [.v (.int .i64 f.params), .v (.slice ad f.nodes.length cap)]), (10, g1, .row (.slice (some ⟨g1, 0, none⟩) f.nodes.length f.nodes.length) 3 1 f.nodes.length (A.map fp)),
       (11, g2, .row (.slice (some ⟨g2, 0, none⟩) f.nodes.length f.nodes.length) 3 1 f.nodes.length (A.map fd))], G', []⟩) ⟨0, pl0 f, G1, by omega, rfl, pl0_len f, pl0_ok hout, Le.refl _, by simpa using hpl, rfl⟩ ?_
  rintro q s ⟨j, A, G2, hj, hq, hA, hok, hle2, hpl2, rfl⟩ ih
  refine rn_ ?_; intros
  refine x_if rfl rfl rfl rfl (fun hjl => ?_) (fun hjl => ?_)
  · have hlt : j < f.nodes.length := by simp at hjl; omega
    rw [List.drop_eq_getElem_cons hlt] at hpl2
    simp only [plGo] at hpl2
    refine rn_ ?_; intros
    refine go_callW [10, 11] (ow := rows f.nodes.length g1 g2 f.nodes.length f.nodes.length A) (by rw [hnt]; rfl) (by rw [hP]; kernel_rfl) rfl rfl rfl (.inl (by intro k hk; simp at hk; omega)) (hP ▸ right_ok f j f.nodes.length A _ b6 g1 g2 _ _ G2 (Rp.S_mono (hle1.trans hle2) hns0) rfl hn2 hlt hok hA (hv.mono hle2)) ?_
    rintro v G3 ow' (hle3 : Le G2 G3) ⟨rfl, B, hB, rfl, hBB⟩
    simp only [setO, rows]
    cases hst : nodeStep f.nodes.length j f.nodes[j] A with
    | none =>
      rw [hst] at hpl2
      simp only [Option.isSome_none]
      refine rn_ ?_; intros
      refine go_slot 66 (.b true) rfl (by simp [SV.den]) ?_; refine rn_ ?_; intros
      refine xc_ hQ hmb ?_; simp only [SV.den, resV, dens]
      show lookR _ _ _ _
      simp only [lookR, hpl2]
    | some B' =>
      rw [hst] at hpl2
      obtain rfl := hBB _ hst
      simp only [Option.isSome_some]
      refine rn_ ?_; intros
      refine go_slot 66 (.b false) rfl (by simp [SV.den]) ?_; refine rn_ ?_; intros
      rw [wr (n := (j : Int) + 1) (by omega) (by omega)]
      refine go_keep [1, 5, 6, 59, 60] [0, 10, 11] ?_
      refine st_ ?_
      exact ih (f.nodes.length - (j + 1)) _ (by omega) ⟨j + 1, B, G3, by omega, rfl, hB, nodeStep_ok (by simp only [isI64]; omega) hok (by omega) hA hst, hle2.trans hle3, hpl2, by simp⟩
  · have hge : j = f.nodes.length := by simp at hjl; omega
    subst hge
    clear ih
    simp only [List.drop_length, plGo] at hpl2
    refine go_pubL rI 10 (ts := A.map (·.1)) rfl (by omega) (by simp [hA]) (by omega) (rI_L.2 ⟨by rw [List.map_map]; rfl, fun n hn => by obtain ⟨x, hx, rfl⟩ := List.mem_map.1 hn; exact (hok x hx).1⟩) ?_
    rintro G3 ad1 cap1 (hle3 : Le G2 G3) hs1 hS1
    refine go_pubL rI 11 (ts := A.map (·.2)) rfl (by omega) (by simp [hA]) (by omega) (rI_L.2 ⟨by rw [List.map_map]; rfl, fun n hn => by obtain ⟨x, hx, rfl⟩ := List.mem_map.1 hn; exact (hok x hx).2⟩) ?_
    rintro G4 ad2 cap2 (hle4 : Le G3 G4) hs2 hS2
    refine st_ ?_
    refine rn_ ?_; intros
    refine xc_ hQ hmb ?_; simp only [SV.den, resV, dens]
    show lookR _ _ _ _
    simp only [lookR, hpl2]
    rw [← hs1] at hS1
    rw [← hs2] at hS2
    exact ⟨b6, _, _, rfl, hv.mono (hle2.trans (hle3.trans hle4)), Rp.S_mono hle4 hS1, hS2⟩
end Go.Proofs.YtpppkednpamhbaaGreat
namespace Go.Proofs.YtpppkednpamhbaaGreat
set_option linter.unusedSimpArgs false
set_option linter.unusedVariables false
open Go.Sx
set_option maxHeartbeats 4000000
def whr (f : Fu) : Int × Int := match places f with
  | .inl i => (i, 60)
  | .inr _ => (0, 0)
theorem where_ok (f : Fu) (ns : Value) (G : Hp) (hp : isI64 f.params) (hns : rN.S G f.nodes ns) : Pure Tryz.prog 88 [.agg #[.int .i64 f.params, ns]] G (fun r _ => r = .tuple #[.int .i64 (whr f).1, .int .i64 (whr f).2]) := by
  have hns0 := hns
  obtain ⟨ad, cap, rfl⟩ := Rp.S_slice hns
  refine enterX ty tyok Tryz.func88 rfl Tryz.ntmps88 [.a [.v (.int .i64 f.params), .v (.slice ad f.nodes.length cap)]] (by simp) ?_
  intro C hP hQ hnt hty hmb hmh hro; have hQp := qp_body hQ; refine st_ ?_
  refine rn_ ?_; intros
  refine go_call (by rw [hnt]; rfl) (by rw [hP]; kernel_rfl) rfl (hP ▸ look_ok f _ G hp hns0) ?_
  rintro v G1 (hle1 : Le G G1) hl
  simp only [lookR] at hl
  cases hpl : places f with
  | inl i =>
    rw [hpl] at hl
    simp only at hl
    subst hl
    refine rn_ ?_; intros
    refine go_slot 14 (.b true) rfl (by simp [SV.den]) ?_; refine rn_ ?_; intros
    refine xc_ hQ hmb ?_; simp only [SV.den, resV, dens]
    simp [whr, hpl]
  | inr A =>
    rw [hpl] at hl
    obtain ⟨bv, s1, s2, rfl, _⟩ := hl
    refine rn_ ?_; intros
    refine go_slot 14 (.b false) rfl (by simp [SV.den]) ?_; refine rn_ ?_; intros
    refine xc_ hQ hmb ?_; simp only [SV.den, resV, dens]
    simp [whr, hpl]
theorem fcheck_ok (f : Fu) (ns : Value) (G : Hp) (hp : isI64 f.params) (hns : rN.S G f.nodes ns) : Pure Tryz.prog 125 [.agg #[.int .i64 f.params, ns]] G (fun r _ => r = .int .i64 (whr f).2) := by
  have hns0 := hns
  obtain ⟨ad, cap, rfl⟩ := Rp.S_slice hns
  refine enterX ty tyok Tryz.func125 rfl Tryz.ntmps125 [.a [.v (.int .i64 f.params), .v (.slice ad f.nodes.length cap)]] (by simp) ?_
  intro C hP hQ hnt hty hmb hmh hro; have hQp := qp_body hQ; refine st_ ?_
  refine rn_ ?_; intros
  refine go_callf (by rw [hnt]; rfl) (by rw [hP]; kernel_rfl) rfl (hP ▸ where_ok f _ G hp hns0) ?_; refine rn_ ?_; intros
  refine xc_ hQ hmb ?_; simp only [SV.den, resV, dens]
end Go.Proofs.YtpppkednpamhbaaGreat
namespace Go.Proofs.YtpppkednpamhbaaGreat
set_option linter.unusedSimpArgs false
set_option linter.unusedVariables false
open Go.Sx

def ndD : Nd := ⟨0, 0, []⟩
def nd (f : Fu) (i : Nat) : Nd := f.nodes.getD i ndD
def kl (f : Fu) (i : Nat) : List Int := (nd f i).l
theorem nd_eq {f : Fu} {i : Nat} (h : i < f.nodes.length) : nd f i = f.nodes[i] := by simp [nd, h]
theorem kl_out {f : Fu} {i : Nat} (h : f.nodes.length ≤ i) : kl f i = [] := by simp [kl, nd, h, ndD]
theorem kl_lt {f : Fu} {j k : Nat} {c : Int} (h : (kl f j)[k]? = some c) : j < f.nodes.length := by
  rcases Nat.lt_or_ge j f.nodes.length with q | q
  · exact q
  · rw [kl_out q] at h; simp at h

structure TInv (f : Fu) (i k : Nat) (A : Pl) : Prop where
  len : A.length = f.nodes.length
  kid : ∀ (j m : Nat) (c : Int), (j < i ∨ (j = i ∧ m < k)) → (kl f j)[m]? = some c → (j : Int) < c ∧ c < f.nodes.length ∧ pa A c.toNat = j ∧ de A c.toNat = de A j + more (nd f j).op m
  one : ∀ (j m m' : Nat) (c : Int), (j < i ∨ (j = i ∧ m < k)) → (j < i ∨ (j = i ∧ m' < k)) → (kl f j)[m]? = some c → (kl f j)[m']? = some c → m = m'
  up : ∀ c, c < f.nodes.length → pa A c < 0 ∨ ∃ (j m : Nat), (j < i ∨ (j = i ∧ m < k)) ∧ pa A c = j ∧ (kl f j)[m]? = some (c : Int)
  root : pa A 0 < 0 ∧ de A 0 = f.params
  has : ∀ j, 0 < j → j < i → 0 ≤ pa A j
  ok : ∀ j, j < i → de A j ≤ 64 ∧ ben (nd f j).op (nd f j).l.length = true ∧ nmb (nd f j).op (nd f j).n (de A j) = true
theorem TInv.step {f : Fu} {i k : Nat} {A : Pl} (h : TInv f i k A) {c : Int} (hc : (kl f i)[k]? = some c) (h1 : (i : Int) < c) (h2 : c < f.nodes.length) (h3 : pa A c.toNat < 0) :
    TInv f i (k + 1) (A.set c.toNat ((i : Int), de A i + more (nd f i).op k)) := by
  obtain ⟨c, rfl⟩ : ∃ c' : Nat, c = c' := ⟨c.toNat, by omega⟩
  simp only [Int.toNat_natCast] at *
  have hl : c < A.length := by rw [h.len]; omega
  have hp : ∀ j, pa (A.set c ((i : Int), de A i + more (nd f i).op k)) j = if j = c then (i : Int) else pa A j := fun j => pa_set hl
  have hd : ∀ j, de (A.set c ((i : Int), de A i + more (nd f i).op k)) j = if j = c then de A i + more (nd f i).op k else de A j := fun j => de_set hl
  have old : ∀ (j m : Nat), (j < i ∨ (j = i ∧ m < k + 1)) → ((j < i ∨ (j = i ∧ m < k)) ∨ (j = i ∧ m = k)) := by intro j m h; omega
  refine ⟨by simp [h.len], ?_, ?_, ?_, ?_, ?_, ?_⟩
  · intro j m c2 hD hm
    rcases old j m hD with hD | ⟨rfl, rfl⟩
    · obtain ⟨q1, q2, q3, q4⟩ := h.kid j m c2 hD hm
      obtain ⟨c2, rfl⟩ : ∃ c' : Nat, c2 = c' := ⟨c2.toNat, by omega⟩
      simp only [Int.toNat_natCast] at *
      have hne : c2 ≠ c := by rintro rfl; omega
      rw [hp, if_neg hne, hd, if_neg hne, hd, if_neg (by omega)]
      exact ⟨q1, q2, q3, q4⟩
    · rw [hc] at hm; cases hm
      simp only [Int.toNat_natCast]
      rw [hp, if_pos rfl, hd, if_pos rfl, hd, if_neg (by omega)]
      exact ⟨h1, h2, rfl, rfl⟩
  · intro j m m' c2 hD hD' hm hm'
    rcases old j m hD with hD | ⟨rfl, rfl⟩ <;> rcases old j m' hD' with hD' | ⟨e, rfl⟩
    · exact h.one j m m' c2 hD hD' hm hm'
    · subst e
      rw [hc] at hm'; cases hm'
      have := (h.kid j m c hD hm).2.2.1
      simp only [Int.toNat_natCast] at this
      omega
    · rw [hc] at hm; cases hm
      have := (h.kid j m' c hD' hm').2.2.1
      simp only [Int.toNat_natCast] at this
      omega
    · rfl
  · intro c2 hc2
    rw [hp]
    split
    · rename_i e; subst e
      exact .inr ⟨i, k, .inr ⟨rfl, by omega⟩, rfl, hc⟩
    · rcases h.up c2 hc2 with q | ⟨j, m, q1, q2, q3⟩
      · exact .inl q
      · exact .inr ⟨j, m, by omega, q2, q3⟩
  · rw [hp, if_neg (by omega), hd, if_neg (by omega)]
    exact h.root
  · intro j hj hji
    rw [hp]
    split
    · omega
    · exact h.has j hj hji
  · intro j hj
    rw [hd, if_neg (by omega)]
    exact h.ok j hj
theorem TInv.kidsI {f : Fu} {i : Nat} : ∀ {l : List Int} {k : Nat} {A B : Pl}, TInv f i k A → (kl f i).drop k = l → kids f.nodes.length (nd f i).op i k l A = some B → TInv f i (k + l.length) B
  | [], k, A, B, h, _, hB => by simp only [kids, Option.some.injEq] at hB; subst hB; exact h
  | c :: l, k, A, B, h, hl, hB => by
    simp only [kids] at hB
    split at hB
    · cases hB
    · rename_i hc
      have hck : (kl f i)[k]? = some c := by
        have := congrArg (fun l => l[0]?) hl
        simpa using this
      have hl' : (kl f i).drop (k + 1) = l := by
        have := congrArg (List.drop 1) hl
        simpa using this
      have := TInv.kidsI (h.step hck (by omega) (by omega) (by omega)) hl' hB
      rw [List.length_cons, show k + (l.length + 1) = k + 1 + l.length by omega]
      exact this
theorem TInv.node {f : Fu} {i : Nat} {A B : Pl} (hi : i < f.nodes.length) (h : TInv f i 0 A) (hB : nodeStep f.nodes.length i f.nodes[i] A = some B) : TInv f (i + 1) 0 B := by
  simp only [nodeStep] at hB
  split at hB
  · cases hB
  rename_i hb
  rw [← nd_eq hi] at hb hB
  have h1 := TInv.kidsI h (l := kl f i) rfl hB
  have hk : ∀ {j m : Nat} {c : Int}, (j < i + 1 ∨ (j = i + 1 ∧ m < 0)) → (kl f j)[m]? = some c → (j < i ∨ (j = i ∧ m < 0 + (kl f i).length)) := by
    intro j m c hD hm
    rcases Nat.lt_or_ge j i with q | q
    · exact .inl q
    · have e : j = i := by omega
      subst e
      refine .inr ⟨rfl, ?_⟩
      obtain ⟨q, _⟩ := List.getElem?_eq_some_iff.1 hm
      omega
  have hde : ∀ {l : List Int} {k : Nat} {A B : Pl}, i < A.length → kids f.nodes.length (nd f i).op i k l A = some B → A.length = f.nodes.length → de B i = de A i ∧ (0 ≤ pa A i → 0 ≤ pa B i) := by
    intro l
    induction l with
    | nil => intro k A B _ hB _; simp only [kids, Option.some.injEq] at hB; subst hB; exact ⟨rfl, id⟩
    | cons c l ih =>
      intro k A B hA hB hl
      simp only [kids] at hB
      split at hB
      · cases hB
      · rename_i hc
        obtain ⟨q1, q2⟩ := ih (by simpa using hA) hB (by simpa using hl)
        rw [de_set (by omega), if_neg (by omega)] at q1
        rw [pa_set (by omega), if_neg (by omega)] at q2
        exact ⟨q1, q2⟩
  obtain ⟨d1, d2⟩ := hde (by rw [h.len]; exact hi) hB h.len
  refine ⟨h1.len, fun j m c hD hm => h1.kid j m c (hk hD hm) hm, fun j m m' c hD hD' hm hm' => h1.one j m m' c (hk hD hm) (hk hD' hm') hm hm', fun c hc => ?_, h1.root, fun j hj hji => ?_, fun j hj => ?_⟩
  · rcases h1.up c hc with q | ⟨j, m, q1, q2, q3⟩
    · exact .inl q
    · exact .inr ⟨j, m, by omega, q2, q3⟩
  · rcases Nat.lt_or_ge j i with q | q
    · exact h1.has j hj q
    · have e : j = i := by omega
      subst e
      unfold bad at hb
      exact d2 (by omega)
  · rcases Nat.lt_or_ge j i with q | q
    · exact h1.ok j q
    · have e : j = i := by omega
      subst e
      unfold bad at hb
      rw [d1]
      refine ⟨by omega, ?_, ?_⟩
      · cases hq : ben (nd f j).op (nd f j).l.length with
        | true => rfl
        | false => exact absurd (.inr (.inr (.inl hq))) hb
      · cases hq : nmb (nd f j).op (nd f j).n (de A j) with
        | true => rfl
        | false => exact absurd (.inr (.inr (.inr hq))) hb
theorem TInv.go {f : Fu} : ∀ {l : List Nd} {i : Nat} {A B : Pl}, TInv f i 0 A → f.nodes.drop i = l → plGo f.nodes.length i l A = .inr B → TInv f (i + l.length) 0 B
  | [], i, A, B, h, _, hB => by simp only [plGo, Sum.inr.injEq] at hB; subst hB; exact h
  | x :: l, i, A, B, h, hl, hB => by
    simp only [plGo] at hB
    have hi : i < f.nodes.length := by
      rcases Nat.lt_or_ge i f.nodes.length with q | q
      · exact q
      · rw [List.drop_eq_nil_of_le q] at hl; cases hl
    rw [List.drop_eq_getElem_cons hi] at hl
    cases hl
    cases h1 : nodeStep f.nodes.length i f.nodes[i] A with
    | none => rw [h1] at hB; cases hB
    | some A' =>
      rw [h1] at hB
      have := TInv.go (h.node hi h1) rfl hB
      rw [List.length_cons, Nat.add_comm _ 1, ← Nat.add_assoc]
      exact this
theorem tinv0 {f : Fu} (h : ¬ out f) : TInv f 0 0 (pl0 f) := by
  have hn : 0 < f.nodes.length := by unfold out at h; omega
  have hl : (List.replicate f.nodes.length ((-1 : Int), (0 : Int))).length = f.nodes.length := by simp
  have hp : ∀ j, j < f.nodes.length → pa (pl0 f) j = -1 := fun j hj => by
    rw [pl0, pa_set (by omega)]
    split
    · rfl
    · rw [pa_eq (by omega)]; simp
  refine ⟨by simp [pl0], by intros; omega, by intros; omega, fun c hc => .inl (by rw [hp c hc]; omega), ⟨by rw [hp 0 hn]; omega, ?_⟩, by intros; omega, by intros; omega⟩
  rw [pl0, de_set (by omega), if_pos rfl]

structure Tree (f : Fu) (A : Pl) : Prop where
  len : A.length = f.nodes.length
  pos : 0 < f.nodes.length
  n200 : f.nodes.length ≤ 200
  par9 : 0 ≤ f.params ∧ f.params ≤ 9
  kid : ∀ (j m : Nat) (c : Int), (kl f j)[m]? = some c → (j : Int) < c ∧ c < f.nodes.length ∧ pa A c.toNat = j ∧ de A c.toNat = de A j + more (nd f j).op m
  one : ∀ (j m m' : Nat) (c : Int), (kl f j)[m]? = some c → (kl f j)[m']? = some c → m = m'
  up : ∀ c, 0 < c → c < f.nodes.length → ∃ (j m : Nat), pa A c = j ∧ (kl f j)[m]? = some (c : Int)
  root : pa A 0 < 0 ∧ de A 0 = f.params
  ok : ∀ j, j < f.nodes.length → de A j ≤ 64 ∧ ben (nd f j).op (nd f j).l.length = true ∧ nmb (nd f j).op (nd f j).n (de A j) = true
theorem tree {f : Fu} {A : Pl} (h : places f = .inr A) : Tree f A := by
  simp only [places] at h
  split at h
  · cases h
  rename_i ho
  have h1 := TInv.go (tinv0 ho) rfl h
  simp only [Nat.zero_add, List.drop_zero] at h1
  have ho' := ho
  unfold out at ho'
  refine ⟨h1.len, by omega, by omega, by omega, fun j m c hm => h1.kid j m c (.inl (kl_lt hm)) hm, fun j m m' c hm hm' => h1.one j m m' c (.inl (kl_lt hm)) (.inl (kl_lt hm)) hm hm', fun c h0 hc => ?_, h1.root, h1.ok⟩
  rcases h1.up c hc with q | ⟨j, m, _, q2, q3⟩
  · have := h1.has c h0 hc; omega
  · exact ⟨j, m, q2, q3⟩

end Go.Proofs.YtpppkednpamhbaaGreat
namespace Go.Proofs.YtpppkednpamhbaaGreat
set_option linter.unusedSimpArgs false
set_option linter.unusedVariables false
open Go.Sx
set_option maxHeartbeats 4000000
end Go.Proofs.YtpppkednpamhbaaGreat
namespace Go.Proofs.YtpppkednpamhbaaGreat
set_option linter.unusedSimpArgs false
set_option linter.unusedVariables false
open Go.Sx
set_option maxHeartbeats 4000000
def rP : Rp (Int × Int) where
  size := 2
  e _ x cs := cs = [.int .i64 x.1, .int .i64 x.2] ∧ isI64 x.1 ∧ isI64 x.2
  mono _ h := h
  len h := by obtain ⟨rfl, _⟩ := h; rfl
  one h u hu := by
    obtain ⟨rfl, _⟩ := h
    simp at hu
    rcases hu with rfl | rfl <;> rfl
def en (A : Pl) : List Value := A.flatMap fun x => [.int .i64 x.1, .int .i64 x.2]
theorem en_cons (x : Int × Int) (A : Pl) : en (x :: A) = .int .i64 x.1 :: .int .i64 x.2 :: en A := rfl
theorem en_len : ∀ A : Pl, (en A).length = A.length * 2
  | [] => rfl
  | x :: A => by rw [en_cons]; simp only [List.length_cons, en_len A]; omega
theorem en_drop : ∀ (A : Pl) (i : Nat), (en A).drop (i * 2) = en (A.drop i)
  | A, 0 => by simp
  | [], i + 1 => by simp [en]
  | x :: A, i + 1 => by rw [en_cons, show (i + 1) * 2 = i * 2 + 1 + 1 by omega]; simp [en_drop A i]
theorem en_L {G : Hp} : ∀ {A : Pl}, okA A → rP.L G A (en A)
  | [], _ => rfl
  | x :: A, h => ⟨[.int .i64 x.1, .int .i64 x.2], en A, rfl, ⟨rfl, h x (by simp)⟩, en_L fun y hy => h y (by simp [hy])⟩
theorem ldA {A : Pl} {i off : Nat} (h : i < A.length) (ho : off = i * 2) : ldV false (((en A).drop off).take 1) = .int .i64 (pa A i) := by
  subst ho
  rw [en_drop, List.drop_eq_getElem_cons h, en_cons, pa_eq h]
  rfl
theorem ldB {A : Pl} {i off : Nat} (h : i < A.length) (ho : off = i * 2 + 1) : ldV false (((en A).drop off).take 1) = .int .i64 (de A i) := by
  subst ho
  rw [← List.drop_drop, en_drop, List.drop_eq_getElem_cons h, en_cons, de_eq h]
  rfl
theorem layA' (x : Int × Int) : ∀ {A : Pl} {i : Nat}, i < A.length → lay (en A) (i * 2) [.int .i64 x.1, .int .i64 x.2] = some (en (A.set i x))
  | a :: A, 0, _ => by simp [en_cons, lay]
  | a :: A, i + 1, h => by
    rw [en_cons, show (i + 1) * 2 = i * 2 + 1 + 1 by omega]
    simp only [lay, layA' x (A := A) (i := i) (by simpa using h), Option.map_some, List.set_cons_succ, en_cons]
theorem layB' (d : Int) : ∀ {A : Pl} {i : Nat}, i < A.length → lay (en A) (i * 2 + 1) [.int .i64 d] = some (en (A.set i (pa A i, d)))
  | a :: A, 0, _ => by simp [en_cons, lay, pa]
  | a :: A, i + 1, h => by
    rw [en_cons, show (i + 1) * 2 + 1 = i * 2 + 1 + 1 + 1 by omega]
    simp only [lay, layB' d (A := A) (i := i) (by simpa using h), Option.map_some, List.set_cons_succ, en_cons]
    simp [pa]
theorem layA {A : Pl} {i off : Nat} (x : Int × Int) (h : i < A.length) (ho : off = i * 2) {vs : List Value} (hv : vs = [.int .i64 x.1, .int .i64 x.2]) : lay (en A) off vs = some (en (A.set i x)) := by
  subst ho hv; exact layA' x h
theorem layB {A : Pl} {i off : Nat} (d : Int) (h : i < A.length) (ho : off = i * 2 + 1) {vs : List Value} (hv : vs = [.int .i64 d]) : lay (en A) off vs = some (en (A.set i (pa A i, d))) := by
  subst ho hv; exact layB' d h
theorem rep_en : ∀ n, rep [Value.int .i64 0, Value.int .i64 0] n = en (mid n 0)
  | 0 => rfl
  | n + 1 => by
    have h : mid (n + 1) 0 = (0, 0) :: mid n 0 := by simp [mid, List.replicate_succ]
    rw [h, en_cons, ← rep_en n]
    rfl
def refR (f : Fu) (r : Value) (G' : Hp) : Prop :=
  match places f with
  | .inl i => r = .tuple #[.slice none 0 0, .int .i64 i, .bool true]
  | .inr A => ∃ sl, r = .tuple #[sl, .int .i64 0, .bool false] ∧ rP.S G' A sl
theorem places_ref (f : Fu) (ns : Value) (G : Hp) (hp : isI64 f.params) (hns : rN.S G f.nodes ns) : Pure Tryz.prog 91 [.agg #[.int .i64 f.params, ns]] G (fun r G' => refR f r G') := by
  have hns0 := hns
  obtain ⟨ad, cap, rfl⟩ := Rp.S_slice hns
  have h63 := Rp.S_len hns
  simp only [isI64] at hp
  refine enterX ty tyok Tryz.func91 rfl Tryz.ntmps91 [.a [.v (.int .i64 f.params), .v (.slice ad f.nodes.length cap)]] (by simp) ?_
  intro C hP hQ hnt hty hmb hmh hro; have hQp := qp_body hQ; refine st_ ?_
  refine rn_ ?_; intros
  rename_i b1
  have ret : out f → refR f (.tuple #[.slice none 0 0, .int .i64 0, .bool true]) G := fun h => by
    simp only [refR, places, if_pos h]; rfl
  refine go_gsplit rfl rfl (fun h1 => ?_) (fun h1 => ?_) <;> (refine st_ ?_; (refine rn_ ?_; intros))
  · refine xc_ hQ hmb ?_; simp only [SV.den, resV, dens]
    exact ret (.inl (by simpa using h1))
  refine go_gsplit rfl rfl (fun h2 => ?_) (fun h2 => ?_) <;> (refine st_ ?_; (refine rn_ ?_; intros))
  · refine xc_ hQ hmb ?_; simp only [SV.den, resV, dens]
    exact ret (.inr (.inl (by simpa using h2)))
  refine go_gsplit rfl rfl (fun h3 => ?_) (fun h3 => ?_) <;> (refine st_ ?_; (refine rn_ ?_; intros))
  · refine xc_ hQ hmb ?_; simp only [SV.den, resV, dens]
    exact ret (.inr (.inr (.inl (by simp at h3; omega))))
  refine x_split rfl rfl rfl (fun h4 => ?_) (fun h4 => ?_) <;> (refine st_ ?_; (refine ru_ ?_; intros))
  · refine xc_ hQ hmb ?_; simp only [SV.den, resV, dens]
    exact ret (.inr (.inr (.inr (by simp at h4; omega))))
  clear ret
  have hout : ¬ out f := by
    simp at h1 h2 h3 h4
    unfold out; omega
  have hn1 : 1 ≤ f.nodes.length := by unfold out at hout; omega
  have hn2 : f.nodes.length ≤ 200 := by unfold out at hout; omega
  refine go_make 10 (by rw [hnt]; rfl) (by rw [hty]; rfl) (by rw [hty]; rfl) rfl rfl (Nat.le_refl _) rfl (by omega) (by omega) (by simp only []; omega) (by simp) ?_
  intro g1
  refine rn_ ?_; intros
  rw [rep_en]
  refine go_keep [1, 5, 6, 7] [0, 10] ?_
  refine st_ ?_
  refine x_loop rfl (fun q s => ∃ (j : Nat), j ≤ f.nodes.length ∧ q = f.nodes.length - j ∧
    s = ⟨[(1, .p 0 b1 0), (5, .v (.int .i64 f.nodes.length)), (6, .v (.slice (some ⟨g1, 0, none⟩) f.nodes.length f.nodes.length)), (7, .v (.int .i64 j))],
      [(0, b1, .c 64 [.v (.int .i64 f.params), .v (.slice ad f.nodes.length cap)]), (10, g1, .row (.slice (some ⟨g1, 0, none⟩) f.nodes.length f.nodes.length) 167 2 f.nodes.length (en (mid f.nodes.length j)))], G, []⟩) ⟨0, by omega, rfl, rfl⟩ ?_
  rintro q s ⟨j, hj, hq, rfl⟩ ih
  refine rn_ ?_; intros
  refine x_if rfl rfl rfl rfl (fun hjl => ?_) (fun hjl => ?_)
  · have hlt : j < f.nodes.length := by simp at hjl; omega
    refine rn_ ?_; intros
    refine go_q (by rw [hnt]; rfl) (quiet_index (by rw [hty]; rfl) (by rw [hty]; rfl) rfl rfl rfl (by omega) (by omega)) ?_
    refine rn_ ?_; intros
    refine go_storeR 10 rfl (by rw [hty]; rfl) rfl rfl rfl rfl rfl rfl (layA (i := j) ((-1 : Int), (0 : Int)) (by rw [mid_len hj]; omega) (by simp) rfl) ?_
    refine rn_ ?_; intros
    rw [wr (n := (j : Int) + 1) (by omega) (by omega), mid_set hlt]
    refine go_keep [1, 5, 6, 7] [0, 10] ?_
    refine st_ ?_
    exact ih (f.nodes.length - (j + 1)) _ (by omega) ⟨j + 1, by omega, rfl, by simp⟩
  have hge : j = f.nodes.length := by simp at hjl; omega
  subst hge
  clear ih
  have hm1 : mid f.nodes.length f.nodes.length = List.replicate f.nodes.length (-1, 0) := by simp [mid]
  rw [hm1]
  refine rn_ ?_; intros
  refine go_q (by rw [hnt]; rfl) (quiet_index (by rw [hty]; rfl) (by rw [hty]; rfl) rfl rfl rfl (by omega) (by omega)) ?_
  refine rn_ ?_; intros
  refine go_storeR 10 rfl (by rw [hty]; rfl) rfl rfl rfl rfl rfl rfl (layB (i := 0) f.params (by simp; omega) (by simp) rfl) ?_
  refine rn_ ?_; intros
  have hp0 : (List.replicate f.nodes.length ((-1 : Int), (0 : Int))).set 0 (pa (List.replicate f.nodes.length ((-1 : Int), (0 : Int))) 0, f.params) = pl0 f := by
    rw [pl0, pa_eq (by simp; omega)]; simp
  rw [hp0]
  refine go_keep [1, 5, 6, 8] [0, 10] ?_
  refine st_ ?_
  have hpl : places f = plGo f.nodes.length 0 f.nodes (pl0 f) := by rw [places, if_neg hout]
  refine x_loop rfl (fun q s => ∃ (j : Nat) (A : Pl), j ≤ f.nodes.length ∧ q = f.nodes.length - j ∧ A.length = f.nodes.length ∧ okA A ∧ places f = plGo f.nodes.length j (f.nodes.drop j) A ∧
    s = ⟨[(1, .p 0 b1 0), (5, .v (.int .i64 f.nodes.length)), (6, .v (.slice (some ⟨g1, 0, none⟩) f.nodes.length f.nodes.length)), (8, .v (.int .i64 j))],
      [(0, b1, .c 64 [.v (.int .i64 f.params), .v (.slice ad f.nodes.length cap)]), (10, g1, .row (.slice (some ⟨g1, 0, none⟩) f.nodes.length f.nodes.length) 167 2 f.nodes.length (en A))], G, []⟩) ⟨0, pl0 f, by omega, rfl, pl0_len f, pl0_ok hout, by simpa using hpl, rfl⟩ ?_
  rintro q s ⟨i, A, hi, hq, hA, hok, hpl2, rfl⟩ ih
  refine rn_ ?_; intros
  refine x_if rfl rfl rfl rfl (fun hil => ?_) (fun hil => ?_)
  · have hlt : i < f.nodes.length := by simp at hil; omega
    rw [List.drop_eq_getElem_cons hlt] at hpl2
    simp only [plGo] at hpl2
    obtain ⟨bn, offn, capn, cn, hse, hatn, sl, rfl, hop, hnn, hsl⟩ := Rp.S_get hns0 hlt
    cases hse
    obtain ⟨h63', adl, capl, rfl, hsrc⟩ := hsl
    have hatn' : At G bn (offn + i * 3) [.int .i64 f.nodes[i].op, .int .i64 f.nodes[i].n, .slice adl f.nodes[i].l.length capl] := by simpa [rN] using hatn
    clear hatn
    generalize hx : f.nodes[i] = x at *
    refine rn_ ?_; intros
    refine go_q (by rw [hnt]; rfl) (quiet_index (by rw [hty]; rfl) (by rw [hty]; rfl) rfl rfl rfl (by omega) (by omega)) ?_
    refine rn_ ?_; intros
    refine go_q (by rw [hnt]; rfl) (quiet_load (by rw [hty]; rfl) rfl (by simp [TK.agg]) hatn' rfl) ?_
    refine rn_ ?_; intros
    rename_i b9
    refine go_keep [1, 5, 6, 8, 9, 10] [0, 10, 11] ?_
    refine st_ ?_
    have ret : nodeStep f.nodes.length i x A = none → refR f (.tuple #[.slice none 0 0, .int .i64 i, .bool true]) G := fun h => by
      rw [h] at hpl2
      simp only [refR, hpl2]
    refine cut_tail 2 (fun s' => ¬ (0 < i ∧ pa A i < 0) ∧ de A i ≤ 64 ∧ ben x.op x.l.length = true ∧ nmb x.op x.n (de A i) = true ∧ s' = ⟨[(1, .p 0 b1 0), (5, .v (.int .i64 f.nodes.length)), (6, .v (.slice (some ⟨g1, 0, none⟩) f.nodes.length f.nodes.length)), (8, .v (.int .i64 i)), (9, .p 11 b9 0), (10, .v (.int .i64 x.op))],
      [(0, b1, .c 64 [.v (.int .i64 f.params), .v (.slice (some ⟨bn, offn, none⟩) f.nodes.length cap)]), (10, g1, .row (.slice (some ⟨g1, 0, none⟩) f.nodes.length f.nodes.length) 167 2 f.nodes.length (en A)), (11, b9, .c 110 [.v (.int .i64 x.op), .v (.int .i64 x.n), .v (.slice adl x.l.length capl)])], G, []⟩) ?_ (fun key => ?_)
    · rintro s' ⟨hb1, hb2, hben, hnmb, rfl⟩
      simp only [List.drop_succ_cons, List.drop_zero]
      have hnb : nodeStep f.nodes.length i x A = kids f.nodes.length x.op i 0 x.l A := if_neg (by
        rintro (h | h | h | h)
        · exact hb1 h
        · omega
        · rw [hben] at h; cases h
        · rw [hnmb] at h; cases h)
      have hdk := de_ok hok (show i < A.length by omega)
      simp only [isI64] at hdk
      refine rn_ ?_; intros
      refine x_loop rfl (fun q s => ∃ (k : Nat) (B : Pl), k ≤ x.l.length ∧ q = x.l.length - k ∧ B.length = f.nodes.length ∧ okA B ∧ de B i = de A i ∧ kids f.nodes.length x.op i 0 x.l A = kids f.nodes.length x.op i k (x.l.drop k) B ∧
        s = ⟨[(1, .p 0 b1 0), (5, .v (.int .i64 f.nodes.length)), (6, .v (.slice (some ⟨g1, 0, none⟩) f.nodes.length f.nodes.length)), (8, .v (.int .i64 i)), (9, .p 11 b9 0), (10, .v (.int .i64 x.op)), (11, .v (.int .i64 k))],
          [(0, b1, .c 64 [.v (.int .i64 f.params), .v (.slice (some ⟨bn, offn, none⟩) f.nodes.length cap)]), (10, g1, .row (.slice (some ⟨g1, 0, none⟩) f.nodes.length f.nodes.length) 167 2 f.nodes.length (en B)), (11, b9, .c 110 [.v (.int .i64 x.op), .v (.int .i64 x.n), .v (.slice adl x.l.length capl)])], G, []⟩) ⟨0, A, by omega, rfl, hA, hok, rfl, by simp, by simp⟩ ?_
      rintro q2 s ⟨k, B, hk, hq2, hB, hokB, hdB, hkid, rfl⟩ ih2
      refine rn_ ?_; intros
      refine x_if rfl rfl rfl rfl (fun hjl => ?_) (fun hjl => ?_)
      · have hlt2 : k < x.l.length := by simp at hjl; omega
        rcases hsrc with h0 | ⟨bl, offl, csl, rfl, hal, hrl⟩
        · simp [h0] at hlt2
        obtain ⟨c0, hat, rfl, hc64⟩ := Rp.at_get hal hrl (i := k) hlt2
        have hat' : At G bl (offl + k) [.int .i64 x.l[k]] := by simpa [rI] using hat
        rw [List.drop_eq_getElem_cons hlt2] at hkid
        simp only [kids] at hkid
        generalize hce : x.l[k] = c at *
        refine rn_ ?_; intros
        refine go_q (by rw [hnt]; rfl) (quiet_index (by rw [hty]; rfl) (by rw [hty]; rfl) rfl rfl rfl (by omega) (by omega)) ?_
        refine rn_ ?_; intros
        refine go_q (by rw [hnt]; rfl) (quiet_load (vs := [.int .i64 c]) (by rw [hty]; rfl) rfl (by simp [TK.agg]) (by simpa using hat') rfl) ?_
        refine rn_ ?_; intros
        have kn : (c ≤ i ∨ (f.nodes.length : Int) ≤ c ∨ 0 ≤ pa B c.toNat) → refR f (.tuple #[.slice none 0 0, .int .i64 i, .bool true]) G := fun h => ret (by rw [hnb, hkid, if_pos h])
        refine go_gsplit rfl rfl (fun hc1 => ?_) (fun hc1 => ?_) <;> (refine st_ ?_; (refine rn_ ?_; intros))
        · refine xc_ hQ hmb ?_; simp only [SV.den, resV, dens]
          exact kn (.inl (by simpa using hc1))
        have hc1' : (i : Int) < c := by simp at hc1; omega
        refine go_gsplit rfl rfl (fun hc2 => ?_) (fun hc2 => ?_) <;> (refine st_ ?_; (refine rn_ ?_; intros))
        · refine xc_ hQ hmb ?_; simp only [SV.den, resV, dens]
          exact kn (.inr (.inl (by simpa using hc2)))
        have hc2' : c < (f.nodes.length : Int) := by simp at hc2; omega
        obtain ⟨c, rfl⟩ : ∃ c' : Nat, c = c' := ⟨c.toNat, by omega⟩
        simp only [Int.toNat_natCast] at kn hkid
        refine go_q (by rw [hnt]; rfl) (quiet_index (by rw [hty]; rfl) (by rw [hty]; rfl) rfl rfl rfl (by omega) (by omega)) ?_
        refine rn_ ?_; intros
        refine go_q (v := .int .i64 (pa B c)) (by rw [hnt]; rfl) ((quiet_loadR (k := 10) (by rw [hty]; rfl) rfl (by simp [TK.agg]) rfl (by simp [en_len]; omega)).cast (by exact ldA (by omega) (by simp))) ?_
        refine rn_ ?_; intros
        refine x_split rfl rfl rfl (fun hc3 => ?_) (fun hc3 => ?_) <;> (refine st_ ?_; (refine ru_ ?_; intros))
        · refine xc_ hQ hmb ?_; simp only [SV.den, resV, dens]
          exact kn (.inr (.inr (by simpa using hc3)))
        have hc3' : ¬ 0 ≤ pa B c := by simp at hc3; omega
        rw [if_neg (by omega)] at hkid
        refine go_q (by rw [hnt]; rfl) (quiet_index (by rw [hty]; rfl) (by rw [hty]; rfl) rfl rfl rfl (by omega) (by omega)) ?_
        refine rn_ ?_; intros
        refine go_q (v := .int .i64 (de A i)) (by rw [hnt]; rfl) ((quiet_loadR (k := 10) (by rw [hty]; rfl) rfl (by simp [TK.agg]) rfl (by simp [en_len]; omega)).cast (by rw [← hdB]; exact ldB (by omega) (by simp))) ?_
        refine rn_ ?_; intros
        refine go_q (by rw [hnt]; rfl) (quiet_index (by rw [hty]; rfl) (by rw [hty]; rfl) rfl rfl rfl (by omega) (by omega)) ?_
        refine rn_ ?_; intros
        refine go_storeR 10 rfl (by rw [hty]; rfl) rfl rfl rfl rfl rfl rfl (layA (i := c) ((i : Int), de A i) (by omega) (by simp) rfl) ?_
        refine rn_ ?_; intros
        have fin : ∀ D, D = de A i + more x.op k → SGo C _ _ := fun D hD => ih2 (x.l.length - (k + 1)) ⟨[(1, .p 0 b1 0), (5, .v (.int .i64 f.nodes.length)), (6, .v (.slice (some ⟨g1, 0, none⟩) f.nodes.length f.nodes.length)), (8, .v (.int .i64 i)), (9, .p 11 b9 0), (10, .v (.int .i64 x.op)), (11, .v (.int .i64 ((k : Int) + 1)))],
          [(0, b1, .c 64 [.v (.int .i64 f.params), .v (.slice (some ⟨bn, offn, none⟩) f.nodes.length cap)]), (10, g1, .row (.slice (some ⟨g1, 0, none⟩) f.nodes.length f.nodes.length) 167 2 f.nodes.length (en (B.set c ((i : Int), D)))), (11, b9, .c 110 [.v (.int .i64 x.op), .v (.int .i64 x.n), .v (.slice (some ⟨bl, offl, none⟩) x.l.length capl)])], G, []⟩ (by omega)
          ⟨k + 1, B.set c ((i : Int), D), by omega, rfl, by simp [hB], okA_set hokB ⟨by simp only [isI64]; omega, by subst hD; simp only [isI64, more]; split <;> omega⟩, by rw [de_set (by omega), if_neg (by omega)]; exact hdB, by rw [hkid, hdB, hD], by simp⟩
        have hset : ∀ D E : Int, (B.set c ((i : Int), D)).set c (pa (B.set c ((i : Int), D)) c, E) = B.set c ((i : Int), E) := fun D E => by rw [List.set_set, pa_set (by omega), if_pos rfl]
        refine go_gsplit rfl rfl (fun hm1 => ?_) (fun hm1 => ?_) <;> (refine st_ ?_; (refine rn_ ?_; intros))
        · have hm1' : x.op = 4 := by simpa using hm1
          refine x_split rfl rfl rfl (fun hm2 => ?_) (fun hm2 => ?_) <;> (refine st_ ?_; (refine ru_ ?_; intros))
          · have hm2' : k = 1 := by simp at hm2; omega
            refine go_q (by rw [hnt]; rfl) (quiet_index (by rw [hty]; rfl) (by rw [hty]; rfl) rfl rfl rfl (by omega) (by omega)) ?_
            refine rn_ ?_; intros
            refine go_q (v := .int .i64 (de A i)) (by rw [hnt]; rfl) ((quiet_loadR (k := 10) (by rw [hty]; rfl) rfl (by simp [TK.agg]) rfl (by simp [en_len]; omega)).cast (by exact (ldB (A := B.set c ((i : Int), de A i)) (i := c) (by simp; omega) (by simp)).trans (by rw [de_set (by omega), if_pos rfl]))) ?_
            refine rn_ ?_; intros
            rw [wr (n := de A i + 1) (by omega) (by omega)]
            refine go_q (by rw [hnt]; rfl) (quiet_index (by rw [hty]; rfl) (by rw [hty]; rfl) rfl rfl rfl (by omega) (by omega)) ?_
            refine rn_ ?_; intros
            refine go_storeR 10 rfl (by rw [hty]; rfl) rfl rfl rfl rfl rfl rfl (layB (i := c) (de A i + 1) (by simp; omega) (by simp) rfl) ?_
            refine rn_ ?_; intros
            rw [wr (n := (k : Int) + 1) (by omega) (by omega), hset]
            refine go_keep [1, 5, 6, 8, 9, 10, 11] [0, 10, 11] ?_
            refine st_ ?_
            exact fin _ (by rw [more, if_pos ⟨hm1', hm2'⟩])
          · have hm2' : ¬ k = 1 := by simp at hm2; omega
            rw [wr (n := (k : Int) + 1) (by omega) (by omega)]
            refine go_keep [1, 5, 6, 8, 9, 10, 11] [0, 10, 11] ?_
            refine st_ ?_
            exact fin _ (by rw [more, if_neg (by omega)]; simp)
        · have hm1' : ¬ x.op = 4 := by simpa using hm1
          rw [wr (n := (k : Int) + 1) (by omega) (by omega)]
          refine go_keep [1, 5, 6, 8, 9, 10, 11] [0, 10, 11] ?_
          refine st_ ?_
          exact fin _ (by rw [more, if_neg (by omega)]; simp)
      · have hge : k = x.l.length := by simp at hjl; omega
        subst hge
        clear ih2
        simp only [List.drop_length, kids] at hkid
        rw [hnb, hkid] at hpl2
        refine rn_ ?_; intros
        rw [wr (n := (i : Int) + 1) (by omega) (by omega)]
        refine go_keep [1, 5, 6, 8] [0, 10] ?_
        refine st_ ?_
        exact ih (f.nodes.length - (i + 1)) _ (by omega) ⟨i + 1, B, by omega, rfl, hB, hokB, hpl2, by simp⟩
    simp only [List.drop_succ_cons, List.drop_zero] at key
    refine x_draw rfl (by rw [hP]; kernel_rfl) rfl (by kernel_rfl) ?_
    refine runq 400 hty hnt ?_; refine st_ ?_
    refine go_qsplit rfl rfl (fun h1 => ?_) (fun h1 => ?_)
    · refine st_ ?_
      refine runq 400 hty hnt ?_; refine st_ ?_
      refine q_q (by rw [hnt]; rfl) (quiet_index (by rw [hty]; rfl) (by rw [hty]; rfl) rfl rfl rfl (by omega) (by omega)) ?_
      refine runq 400 hty hnt ?_; refine st_ ?_
      refine q_q (v := .int .i64 (pa A i)) (by rw [hnt]; rfl) ((quiet_loadR (k := 10) (by rw [hty]; rfl) rfl (by simp [TK.agg]) rfl (by simp [en_len]; omega)).cast (by exact ldA (by omega) (by simp))) ?_
      refine runq 400 hty hnt ?_; refine st_ ?_
      refine go_qsplit rfl rfl (fun h2 => ?_) (fun h2 => ?_) <;> (refine st_ ?_; (try (refine runq 400 hty hnt ?_; refine st_ ?_)))
      · (first | refine q_end ?_; refine rn_ ?_; intros | skip)
        refine rn_ ?_; intros
        refine xc_ hQ hmb ?_; simp only [SV.den, resV, dens]
        exact ret (if_pos (.inl ⟨by simpa using h1, by simpa using h2⟩))
      have hb1 : ¬ (0 < i ∧ pa A i < 0) := by simp at h2; omega
      refine q_q (by rw [hnt]; rfl) (quiet_index (by rw [hty]; rfl) (by rw [hty]; rfl) rfl rfl rfl (by omega) (by omega)) ?_
      refine runq 400 hty hnt ?_; refine st_ ?_
      refine q_q (v := .int .i64 (de A i)) (by rw [hnt]; rfl) ((quiet_loadR (k := 10) (by rw [hty]; rfl) rfl (by simp [TK.agg]) rfl (by simp [en_len]; omega)).cast (by exact ldB (by omega) (by simp))) ?_
      refine runq 400 hty hnt ?_; refine st_ ?_
      refine go_qsplit rfl rfl (fun h3 => ?_) (fun h3 => ?_) <;> (refine st_ ?_; (try (refine runq 400 hty hnt ?_; refine st_ ?_)))
      · (first | refine q_end ?_; refine rn_ ?_; intros | skip)
        refine rn_ ?_; intros
        refine xc_ hQ hmb ?_; simp only [SV.den, resV, dens]
        exact ret (if_pos (.inr (.inl (by simpa using h3))))
      refine q_callf (by rw [hnt]; rfl) (by rw [hP]; kernel_rfl) rfl (hP ▸ beneath_ok x.op x.l.length G (by omega)) ?_
      refine runq 400 hty hnt ?_; refine st_ ?_
      refine go_qsplit rfl rfl (fun h4 => ?_) (fun h4 => ?_) <;> (refine st_ ?_; (try (refine runq 400 hty hnt ?_; refine st_ ?_)))
      · (first | refine q_end ?_; refine rn_ ?_; intros | skip)
        refine rn_ ?_; intros
        refine xc_ hQ hmb ?_; simp only [SV.den, resV, dens]
        exact ret (if_pos (.inr (.inr (.inl (by simpa using h4)))))
      refine q_q (by rw [hnt]; rfl) (quiet_index (by rw [hty]; rfl) (by rw [hty]; rfl) rfl rfl rfl (by omega) (by omega)) ?_
      refine runq 400 hty hnt ?_; refine st_ ?_
      refine q_q (v := .int .i64 (de A i)) (by rw [hnt]; rfl) ((quiet_loadR (k := 10) (by rw [hty]; rfl) rfl (by simp [TK.agg]) rfl (by simp [en_len]; omega)).cast (by exact ldB (by omega) (by simp))) ?_
      refine runq 400 hty hnt ?_; refine st_ ?_
      refine q_callf (by rw [hnt]; rfl) (by rw [hP]; kernel_rfl) rfl (hP ▸ refnumber_ok x.op x.n (de A i) G) ?_
      refine runq 400 hty hnt ?_; refine st_ ?_
      refine q_end ?_; refine rn_ ?_; intros
      refine rn_ ?_; intros
      refine x_if rfl rfl rfl rfl (fun h5 => ?_) (fun h5 => ?_)
      · refine rn_ ?_; intros
        refine xc_ hQ hmb ?_; simp only [SV.den, resV, dens]
        exact ret (if_pos (.inr (.inr (.inr (by simpa using h5)))))
      refine x_skip rfl ?_
      refine go_keep [1, 5, 6, 8, 9, 10] [0, 10, 11] ?_
      refine st_ ?_
      exact key _ ⟨hb1, by simpa using h3, by simpa using h4, by simpa using h5, rfl⟩
    · refine st_ ?_
      refine runq 400 hty hnt ?_; refine st_ ?_
      have hb1 : ¬ (0 < i ∧ pa A i < 0) := by simp at h1; omega
      refine q_q (by rw [hnt]; rfl) (quiet_index (by rw [hty]; rfl) (by rw [hty]; rfl) rfl rfl rfl (by omega) (by omega)) ?_
      refine runq 400 hty hnt ?_; refine st_ ?_
      refine q_q (v := .int .i64 (de A i)) (by rw [hnt]; rfl) ((quiet_loadR (k := 10) (by rw [hty]; rfl) rfl (by simp [TK.agg]) rfl (by simp [en_len]; omega)).cast (by exact ldB (by omega) (by simp))) ?_
      refine runq 400 hty hnt ?_; refine st_ ?_
      refine go_qsplit rfl rfl (fun h3 => ?_) (fun h3 => ?_) <;> (refine st_ ?_; (try (refine runq 400 hty hnt ?_; refine st_ ?_)))
      · (first | refine q_end ?_; refine rn_ ?_; intros | skip)
        refine rn_ ?_; intros
        refine xc_ hQ hmb ?_; simp only [SV.den, resV, dens]
        exact ret (if_pos (.inr (.inl (by simpa using h3))))
      refine q_callf (by rw [hnt]; rfl) (by rw [hP]; kernel_rfl) rfl (hP ▸ beneath_ok x.op x.l.length G (by omega)) ?_
      refine runq 400 hty hnt ?_; refine st_ ?_
      refine go_qsplit rfl rfl (fun h4 => ?_) (fun h4 => ?_) <;> (refine st_ ?_; (try (refine runq 400 hty hnt ?_; refine st_ ?_)))
      · (first | refine q_end ?_; refine rn_ ?_; intros | skip)
        refine rn_ ?_; intros
        refine xc_ hQ hmb ?_; simp only [SV.den, resV, dens]
        exact ret (if_pos (.inr (.inr (.inl (by simpa using h4)))))
      refine q_q (by rw [hnt]; rfl) (quiet_index (by rw [hty]; rfl) (by rw [hty]; rfl) rfl rfl rfl (by omega) (by omega)) ?_
      refine runq 400 hty hnt ?_; refine st_ ?_
      refine q_q (v := .int .i64 (de A i)) (by rw [hnt]; rfl) ((quiet_loadR (k := 10) (by rw [hty]; rfl) rfl (by simp [TK.agg]) rfl (by simp [en_len]; omega)).cast (by exact ldB (by omega) (by simp))) ?_
      refine runq 400 hty hnt ?_; refine st_ ?_
      refine q_callf (by rw [hnt]; rfl) (by rw [hP]; kernel_rfl) rfl (hP ▸ refnumber_ok x.op x.n (de A i) G) ?_
      refine runq 400 hty hnt ?_; refine st_ ?_
      refine q_end ?_; refine rn_ ?_; intros
      refine rn_ ?_; intros
      refine x_if rfl rfl rfl rfl (fun h5 => ?_) (fun h5 => ?_)
      · refine rn_ ?_; intros
        refine xc_ hQ hmb ?_; simp only [SV.den, resV, dens]
        exact ret (if_pos (.inr (.inr (.inr (by simpa using h5)))))
      refine x_skip rfl ?_
      refine go_keep [1, 5, 6, 8, 9, 10] [0, 10, 11] ?_
      refine st_ ?_
      exact key _ ⟨hb1, by simpa using h3, by simpa using h4, by simpa using h5, rfl⟩
  · have hge : i = f.nodes.length := by simp at hil; omega
    subst hge
    clear ih
    simp only [List.drop_length, plGo] at hpl2
    refine go_pubL rP 10 (ts := A) rfl (by omega) (by simp [hA]) (by omega) (en_L hok) ?_
    rintro G3 ad1 cap1 (hle3 : Le G G3) hs1 hS1
    refine st_ ?_
    refine rn_ ?_; intros
    refine xc_ hQ hmb ?_; simp only [SV.den, resV, dens]
    show refR _ _ _
    simp only [refR, hpl2]
    rw [← hs1] at hS1
    exact ⟨_, rfl, hS1⟩
end Go.Proofs.YtpppkednpamhbaaGreat
namespace Go.Proofs.YtpppkednpamhbaaGreat
set_option linter.unusedSimpArgs false
set_option linter.unusedVariables false
open Go.Sx
set_option maxHeartbeats 4000000
def encII (L : List (Int × Int)) (k : Nat) (vs : List Value) (_ : Hp) : Prop := ∃ x, L[k]? = some x ∧ vs = [.int .i64 x.1, .int .i64 x.2]
theorem encII_mono (L : List (Int × Int)) : ∀ k vs G G', Le G G' → encII L k vs G → encII L k vs G' := fun _ _ _ _ _ h => h
theorem calls1_ok (G : Hp) : Iter Tryz.prog 126 [] G (encII []) 0 := by
  intro lp A B hy
  refine enterZ ty tyok Tryz.func126 rfl Tryz.ntmps126 [.v (.func (.yield lp) #[] #[])] (by simp) ?_
  intro C Z M hP hQ hnt hty hmb hmh hro hG0; have hQp := qp_body hQ; refine st_ ?_
  refine rn_ ?_; intros
  refine go_endZ hQ hmb hmh hG0 rfl (by rw [hty]; simp only [so, sq, zy, zz, tyE, SO', SQ', opQ, opStore, opAlloc, ev, putS, dOk, cv, SV.cs, SV.one, SV.bool?, eqB, Value.oneCell', ldOwn, binInt, binConst, binBool, binStr, isC, TK.agg, rv, rv1, ldV, resOne, resV, Nat.reduceAdd, Nat.reduceMul, Nat.reduceSub, Nat.reduceLT, Nat.reduceLeDiff, Nat.reduceEqDiff, Nat.reduceBEq, reduceIte, reduceCtorEq, eq_self]; try rfl) rfl rfl ?_
  exact .inl rfl
theorem rP_at {G : Hp} {l : Pl} {ad : Option Addr} {n cap : Nat} (h : rP.S G l (.slice ad n cap)) {i : Nat} (hi : i < l.length) : ∃ b off, ad = some ⟨b, off, none⟩ ∧ At G b (off + i * 2) [.int .i64 l[i].1, .int .i64 l[i].2] := by
  obtain ⟨b, off, cap', c, hv, hat, rfl, _⟩ := Rp.S_get h hi
  cases hv
  exact ⟨b, off, rfl, by simpa [rP] using hat⟩
theorem calls2_ok (L : Pl) (b1 : Nat) (s1 : Value) (G : Hp) (h1 : At G b1 0 [s1]) (hS1 : rP.S G L s1) :
    Iter Tryz.prog 128 [.pointer (some ⟨b1, 0, none⟩)] G (encII L) L.length := by
  obtain ⟨ad1, cap1, rfl⟩ := Rp.S_slice hS1
  have h63 := Rp.S_len hS1
  intro lp A B hy
  refine enterZ ty tyok Tryz.func128 rfl Tryz.ntmps128 [.v (.func (.yield lp) #[] #[]), .v (.pointer (some ⟨b1, 0, none⟩))] (by simp) ?_
  intro C Z M hP hQ hnt hty hmb hmh hro hG0; have hQp := qp_body hQ; refine st_ ?_
  have hy' : YOk C.P lp A B (encII L) L.length := by rw [hP]; exact hy
  refine rn_ ?_; intros
  refine go_q (by rw [hnt]; rfl) (quiet_load (by rw [hty]; rfl) rfl (by simp [TK.agg]) h1 rfl) ?_; refine rn_ ?_; intros
  refine go_keep [0, 1, 5, 6, 7] [0] ?_
  refine st_ ?_
  refine x_loop rfl (fun q s => ∃ (k : Nat) (G' : Hp) (Z' M' : Nat → Prop), k ≤ L.length ∧ q = L.length - k ∧ Le G G' ∧
    s = ⟨[(0, .v (.func (.yield lp) #[] #[])), (1, .v (.pointer (some ⟨b1, 0, none⟩))), (5, .v (.slice ad1 L.length cap1)), (6, .v (.int .i64 L.length)), (7, .v (.int .i64 k))], [(0, 0, .z (lim (A k) Z C.w0.heap.size) Z' M')], G', []⟩)
    ⟨0, G, _, _, by omega, rfl, Le.refl _, rfl⟩ ?_
  rintro q s ⟨k, G1, Z1, M1, hk, hq, hle, rfl⟩ ih
  refine rn_ ?_; intros
  refine x_if rfl rfl rfl rfl (fun hjl => ?_) (fun hjl => ?_)
  · have hlt : k < L.length := by simp at hjl; omega
    obtain ⟨c1, o1, rfl, ha1⟩ := rP_at hS1 (i := k) hlt
    refine rn_ ?_; intros
    refine go_q (by rw [hnt]; rfl) (quiet_index (by rw [hty]; rfl) (by rw [hty]; rfl) rfl rfl rfl (by omega) (by omega)) ?_
    refine rn_ ?_; intros
    refine go_q (by rw [hnt]; rfl) (quiet_load (by rw [hty]; rfl) rfl (by simp [TK.agg]) (ha1.mono hle) rfl) ?_
    refine rn_ ?_; intros
    simp only [Int.reduceLT, Int.reduceLE, Int.le_refl, Int.cast_ofNat_Int, and_self, if_true, Int.reduceToNat, Nat.zero_mul, Nat.one_mul]; refine st_ ?_; refine rn_ ?_; intros
    refine go_yield 0 hy' (by rw [hnt]; rfl) rfl rfl rfl rfl hlt (⟨L[k], List.getElem?_eq_getElem hlt, rfl⟩) (fun Z2 M2 => ?_) (fun Z2 M2 => ?_)
    · refine rn_ ?_; intros
      rw [wr (n := (k : Int) + 1) (by omega) (by omega)]
      refine go_keep [0, 1, 5, 6, 7] [0] ?_
      refine st_ ?_
      exact ih (L.length - (k + 1)) _ (by omega) ⟨k + 1, G1, Z2, M2, by omega, rfl, hle, by simp⟩
    · refine rn_ ?_; intros
      refine x_retZ rfl hQ hmb hmh hG0 rfl (by rw [hty]; simp only [so, sq, zy, zz, tyE, SO', SQ', opQ, opStore, opAlloc, ev, putS, dOk, cv, SV.cs, SV.one, SV.bool?, eqB, Value.oneCell', ldOwn, binInt, binConst, binBool, binStr, isC, TK.agg, rv, rv1, ldV, resOne, resV, Nat.reduceAdd, Nat.reduceMul, Nat.reduceSub, Nat.reduceLT, Nat.reduceLeDiff, Nat.reduceEqDiff, Nat.reduceBEq, reduceIte, reduceCtorEq, eq_self]; try rfl) rfl rfl ?_
      exact .inr rfl
  · have hge : k = L.length := by simp at hjl; omega
    subst hge
    refine rn_ ?_; intros
    refine go_endZ hQ hmb hmh hG0 rfl (by rw [hty]; simp only [so, sq, zy, zz, tyE, SO', SQ', opQ, opStore, opAlloc, ev, putS, dOk, cv, SV.cs, SV.one, SV.bool?, eqB, Value.oneCell', ldOwn, binInt, binConst, binBool, binStr, isC, TK.agg, rv, rv1, ldV, resOne, resV, Nat.reduceAdd, Nat.reduceMul, Nat.reduceSub, Nat.reduceLT, Nat.reduceLeDiff, Nat.reduceEqDiff, Nat.reduceBEq, reduceIte, reduceCtorEq, eq_self]; try rfl) rfl rfl ?_
    exact .inl rfl
end Go.Proofs.YtpppkednpamhbaaGreat
namespace Go.Proofs.YtpppkednpamhbaaGreat
set_option linter.unusedSimpArgs false
set_option linter.unusedVariables false
open Go.Sx
set_option maxHeartbeats 4000000
def cals : List Nd → Nat → Pl
  | [], _ => []
  | x :: l, i => if nms x.op then ((i : Int), x.n) :: cals l (i + 1) else cals l (i + 1)
def calP (f : Fu) : Pl := match places f with
  | .inl _ => []
  | .inr _ => cals f.nodes 0
theorem cals_len : ∀ (l : List Nd) (i : Nat), (cals l i).length ≤ l.length
  | [], i => by simp [cals]
  | x :: l, i => by
    have := cals_len l (i + 1)
    simp only [cals]
    split <;> simp <;> omega
theorem en_app : ∀ (A B : Pl), en (A ++ B) = en A ++ en B := fun A B => by simp [en]
theorem calls_ok (f : Fu) (ns : Value) (G : Hp) (hp : isI64 f.params) (hns : rN.S G f.nodes ns) :
    Pure Tryz.prog 114 [.agg #[.int .i64 f.params, ns]] G (fun v G' => ∃ fn cap, v = .func (.func fn) #[] cap.toArray ∧ canCall Tryz.prog fn = true ∧ Iter Tryz.prog fn cap (diff G' G) (encII (calP f)) (calP f).length) := by
  have hns0 := hns
  obtain ⟨ad, cap, rfl⟩ := Rp.S_slice hns
  refine enterX ty tyok Tryz.func114 rfl Tryz.ntmps114 [.a [.v (.int .i64 f.params), .v (.slice ad f.nodes.length cap)]] (by simp) ?_
  intro C hP hQ hnt hty hmb hmh hro; have hQp := qp_body hQ; refine st_ ?_
  refine rn_ ?_; intros
  rename_i b1
  refine go_callf (by rw [hnt]; rfl) (by rw [hP]; kernel_rfl) rfl (hP ▸ fcheck_ok f _ G hp hns0) ?_; refine rn_ ?_; intros
  cases hpl : places f with
  | inl i =>
    refine go_slot 8 (.b true) rfl (by simp [SV.den, whr, hpl]) ?_
    refine rn_ ?_; intros
    refine xc_ hQ hmb ?_; simp only [SV.den, resV, dens]
    refine ⟨_, [], rfl, by kernel_rfl, ?_⟩
    simp only [calP, hpl]
    exact calls1_ok _
  | inr A =>
    refine go_slot 8 (.b false) rfl (by simp [SV.den, whr, hpl]) ?_
    have hT := tree hpl
    have h200 := hT.n200
    have hcP : calP f = cals f.nodes 0 := by simp only [calP, hpl]
    refine rn_ ?_; intros
    rename_i b3
    refine go_nilrow 30 60 2 rfl (by omega) ?_
    refine go_keep [1, 3, 10, 11, 12] [0, 1, 30] ?_
    refine st_ ?_
    have hcl := cals_len f.nodes 0
    refine x_loop rfl (fun q s => ∃ (k : Nat) (ad3 : Option Addr) (cap3 : Nat) (P : Pl), k ≤ f.nodes.length ∧ q = f.nodes.length - k ∧ cals f.nodes 0 = P ++ cals (f.nodes.drop k) k ∧ okA P ∧
      s = ⟨[(1, .p 0 b1 0), (3, .p 1 b3 0), (10, .v (.slice ad f.nodes.length cap)), (11, .v (.int .i64 f.nodes.length)), (12, .v (.int .i64 k))],
        [(0, b1, .c 64 [.v (.int .i64 f.params), .v (.slice ad f.nodes.length cap)]), (1, b3, .c 55 [.v (.slice ad3 P.length cap3)]), (30, 0, .row (.slice ad3 P.length cap3) 60 2 P.length (en P))], G, []⟩) ⟨0, none, 0, [], by omega, rfl, by simp, fun x hx => by simp at hx, by simp [en]⟩ ?_
    rintro q s ⟨k, ad3, cap3, P, hk, hq, hcp, hokP, rfl⟩ ih
    refine rn_ ?_; intros
    refine x_if rfl rfl rfl rfl (fun hjl => ?_) (fun hjl => ?_)
    · have hlt : k < f.nodes.length := by simp at hjl; omega
      rw [List.drop_eq_getElem_cons hlt] at hcp
      simp only [cals] at hcp
      obtain ⟨bn, offn, capn, cn, hse, hatn, sl, rfl, hop, hnn, hsl⟩ := Rp.S_get hns0 hlt
      cases hse
      obtain ⟨h63', adl, capl, rfl, hsrc⟩ := hsl
      have hatn' : At G bn (offn + k * 3) [.int .i64 f.nodes[k].op, .int .i64 f.nodes[k].n, .slice adl f.nodes[k].l.length capl] := by simpa [rN] using hatn
      refine rn_ ?_; intros
      refine go_q (by rw [hnt]; rfl) (quiet_index (by rw [hty]; rfl) (by rw [hty]; rfl) rfl rfl rfl (by omega) (by omega)) ?_
      refine rn_ ?_; intros
      refine go_q (by rw [hnt]; rfl) (quiet_load (by rw [hty]; rfl) rfl (by simp [TK.agg]) hatn' rfl) ?_
      refine rn_ ?_; intros
      rename_i b5
      refine go_callf (by rw [hnt]; rfl) (by rw [hP]; kernel_rfl) rfl (hP ▸ names_ok f.nodes[k].op G) ?_; refine rn_ ?_; intros
      have hPl : P.length ≤ 200 := by have := congrArg List.length hcp; simp at this; omega
      refine x_split rfl rfl rfl (fun hnm => ?_) (fun hnm => ?_) <;> (refine st_ ?_; (refine ru_ ?_; intros))
      · rw [hnm, if_pos rfl] at hcp
        refine go_append 30 (by rw [hnt]; rfl) (by rw [hty]; rfl) (by rw [hty]; rfl) (by decide) rfl rfl rfl (by omega) rfl (src_own 2 rfl rfl) rfl (by simp [dens, SV.den, Value.oneCell']) (by omega) (by simp only []; omega) ?_
        intro v'
        refine go_rowS 30 rfl ?_
        rintro ad4 cap4 rfl
        refine rn_ ?_; intros
        rw [wr (n := (k : Int) + 1) (by omega) (by omega)]
        refine go_keep [1, 3, 10, 11, 12] [0, 1, 30] ?_
        refine st_ ?_
        exact ih (f.nodes.length - (k + 1)) _ (by omega) ⟨k + 1, ad4, cap4, P ++ [((k : Int), f.nodes[k].n)], by omega, rfl, by rw [hcp]; simp, fun x hx => by
          rcases List.mem_append.1 hx with hx | hx
          · exact hokP x hx
          · simp at hx; subst hx; exact ⟨by simp only [isI64]; omega, hnn⟩, by simp [dens, SV.den, en_app]; rfl⟩
      · rw [hnm, if_neg (by simp)] at hcp
        rw [wr (n := (k : Int) + 1) (by omega) (by omega)]
        refine go_keep [1, 3, 10, 11, 12] [0, 1, 30] ?_
        refine st_ ?_
        exact ih (f.nodes.length - (k + 1)) _ (by omega) ⟨k + 1, ad3, cap3, P, by omega, rfl, hcp, hokP, by simp⟩
    · have hge : k = f.nodes.length := by simp at hjl; omega
      subst hge
      clear ih
      simp only [List.drop_length, cals, List.append_nil] at hcp
      have hno : ∀ {G' : Hp} {g : Nat}, Le G G' → G' g = none → G g = none := fun {G' g} hl h => by
        cases hq : G g with
        | none => rfl
        | some o => have := hl _ _ hq; rw [h] at this; cases this
      refine go_new0 1 (g := b3) rfl rfl ?_
      intro (hn3 : G b3 = none)
      refine go_pub 1 rfl (by omega) ?_
      rintro G3 (hle3 : Le G G3) hG3
      refine go_slot 3 (.v (.pointer (some ⟨b3, 0, none⟩))) rfl rfl ?_
      refine st_ ?_
      have fin : ∀ (G4 : Hp), Le G3 G4 → rP.S (diff G4 G) (calP f) (.slice ad3 P.length cap3) → Iter Tryz.prog 128 [.pointer (some ⟨b3, 0, none⟩)] (diff G4 G) (encII (calP f)) (calP f).length := fun G4 hle4 hS =>
        calls2_ok (calP f) b3 _ (diff G4 G) (at_diff ((at_cells hG3).mono hle4) hn3) hS
      refine go_rowcases 30 rfl (fun hv h0 _ => ?_) (fun g3 capg hv hcv hxl => ?_)
      · have hP0 := List.length_eq_zero_iff.1 h0
        subst hP0
        simp only [List.length_nil] at hv ⊢
        cases hv
        refine rn_ ?_; intros
        refine xc_ hQ hmb ?_; simp only [SV.den, resV, dens]
        refine ⟨128, [.pointer (some ⟨b3, 0, none⟩)], by simp, by kernel_rfl, fin G3 (Le.refl _) ?_⟩
        rw [hcP, hcp]
        exact Rp.S_nil _ _
      · cases hv
        refine go_new0 30 (g := g3) rfl rfl ?_
        intro (hng : G3 g3 = none)
        refine go_pubrow 30 rfl (by omega) ?_
        rintro G4 (hle4 : Le G3 G4) hG4
        refine st_ ?_
        refine rn_ ?_; intros
        refine xc_ hQ hmb ?_; simp only [SV.den, resV, dens]
        refine ⟨128, [.pointer (some ⟨b3, 0, none⟩)], by simp, by kernel_rfl, fin G4 hle4 ?_⟩
        rw [hcP, hcp]
        exact ⟨by have := congrArg List.length hcp; omega, _, _, rfl, .inr ⟨_, _, _, rfl, at_diff hG4 (hno hle3 hng), en_L hokP⟩⟩
end Go.Proofs.YtpppkednpamhbaaGreat
namespace Go.Proofs.YtpppkednpamhbaaGreat
set_option linter.unusedSimpArgs false
set_option linter.unusedVariables false
open Go.Sx
set_option maxHeartbeats 4000000
theorem refwhere_ok (f : Fu) (ns : Value) (G : Hp) (hp : isI64 f.params) (hns : rN.S G f.nodes ns) : Pure Tryz.prog 59 [.agg #[.int .i64 f.params, ns]] G (fun r _ => r = .tuple #[.int .i64 (whr f).1, .int .i64 (whr f).2]) := by
  have hns0 := hns
  obtain ⟨ad, cap, rfl⟩ := Rp.S_slice hns
  refine enterX ty tyok Tryz.func59 rfl Tryz.ntmps59 [.a [.v (.int .i64 f.params), .v (.slice ad f.nodes.length cap)]] (by simp) ?_
  intro C hP hQ hnt hty hmb hmh hro; have hQp := qp_body hQ; refine st_ ?_
  refine rn_ ?_; intros
  refine go_call (by rw [hnt]; rfl) (by rw [hP]; kernel_rfl) rfl (hP ▸ places_ref f _ G hp hns0) ?_
  rintro v G1 (hle1 : Le G G1) hl
  simp only [refR] at hl
  cases hpl : places f with
  | inl i =>
    rw [hpl] at hl
    simp only at hl
    subst hl
    refine rn_ ?_; intros
    refine go_slot 13 (.b true) rfl (by simp [SV.den]) ?_; refine rn_ ?_; intros
    refine xc_ hQ hmb ?_; simp only [SV.den, resV, dens]
    simp [whr, hpl]
  | inr A =>
    rw [hpl] at hl
    obtain ⟨sl, rfl, hS⟩ := hl
    obtain ⟨ad1, cap1, rfl⟩ := Rp.S_slice hS
    refine rn_ ?_; intros
    refine go_slot 13 (.b false) rfl (by simp [SV.den]) ?_; refine rn_ ?_; intros
    refine xc_ hQ hmb ?_; simp only [SV.den, resV, dens]
    simp [whr, hpl]
end Go.Proofs.YtpppkednpamhbaaGreat
namespace Go.Proofs.YtpppkednpamhbaaGreat
set_option linter.unusedSimpArgs false
set_option linter.unusedVariables false
open Go.Sx

abbrev Pr := List Fu
def fuD : Fu := ⟨0, []⟩
def rF : Rp Fu where
  size := 2
  e G x cs := ∃ ns, cs = [.int .i64 x.params, ns] ∧ isI64 x.params ∧ rN.S G x.nodes ns
  mono hl h := by obtain ⟨ns, h1, h2, h3⟩ := h; exact ⟨ns, h1, h2, Rp.S_mono hl h3⟩
  len h := by obtain ⟨ns, rfl, _⟩ := h; rfl
  one h u hu := by
    obtain ⟨ns, rfl, _, h3⟩ := h
    obtain ⟨ad, cap, rfl⟩ := Rp.S_slice h3
    simp at hu
    rcases hu with rfl | rfl <;> rfl
def fu (p : Pr) (i : Nat) : Fu := p.getD i fuD
theorem fu_eq {p : Pr} {i : Nat} (h : i < p.length) : fu p i = p[i] := by simp [fu, h]

def fits (x : Nd) (m : Int) : Bool := if x.op = 23 then m == IntKind.i64.wrap ((x.l.length : Int) + 1) else m == (x.l.length : Int)
def misB (p : Pr) (f : Fu) (x : Int × Int) : Bool := decide ((p.length : Int) ≤ x.2) || !fits (nd f x.1.toNat) (fu p x.2.toNat).params
def misL (p : Pr) (f : Fu) : Pl → Option Int
  | [] => none
  | x :: l => if misB p f x then some x.1 else misL p f l
def misR (o : Option Int) : Value := match o with
  | some i => .tuple #[.int .i64 i, .bool true]
  | none => .tuple #[.int .i64 0, .bool false]

theorem cals_get : ∀ {l : List Nd} {i k : Nat} {x : Int × Int}, (cals l i)[k]? = some x → ∃ m, ∃ h : m < l.length, x = (((i + m : Nat) : Int), l[m].n) ∧ nms l[m].op = true
  | [], i, k, x, h => by simp [cals] at h
  | y :: l, i, k, x, h => by
    simp only [cals] at h
    split at h
    · rename_i hy
      cases k with
      | zero => simp at h; subst h; exact ⟨0, by simp, by simp, hy⟩
      | succ k =>
        simp at h
        obtain ⟨m, hm, h1, h2⟩ := cals_get h
        exact ⟨m + 1, by simp; omega, by rw [h1]; simp; omega, by simpa using h2⟩
    · obtain ⟨m, hm, h1, h2⟩ := cals_get h
      exact ⟨m + 1, by simp; omega, by rw [h1]; simp; omega, by simpa using h2⟩
theorem nmb_nms {op n d : Int} (h : nms op = true) (hb : nmb op n d = true) : 0 ≤ n ∧ n ≤ 63 := by
  have h13 : op ≠ 1 ∧ op ≠ 3 := by constructor <;> (rintro rfl; simp [nms] at h)
  simp only [nmb, h13.1, h13.2, if_false, h, if_true, Bool.and_eq_true, decide_eq_true_eq] at hb
  exact hb
theorem calP_get {f : Fu} {k : Nat} {x : Int × Int} (h : (calP f)[k]? = some x) : ∃ m, ∃ h : m < f.nodes.length, x = ((m : Int), f.nodes[m].n) ∧ nms f.nodes[m].op = true ∧ 0 ≤ f.nodes[m].n ∧ f.nodes[m].n ≤ 63 := by
  simp only [calP] at h
  cases hp : places f with
  | inl i => rw [hp] at h; simp at h
  | inr A =>
    rw [hp] at h
    obtain ⟨m, hm, h1, h2⟩ := cals_get h
    have h3 := ((tree hp).ok m hm).2.2
    rw [nd_eq hm] at h3
    exact ⟨m, hm, by simpa using h1, h2, nmb_nms h2 h3⟩

set_option maxHeartbeats 4000000
theorem fits_ok (x : Nd) (sl : Value) (m : Int) (G : Hp) (hr : rI.S G x.l sl) : Pure Tryz.prog 115 [.agg #[.int .i64 x.op, .int .i64 x.n, sl], .int .i64 m] G (fun r _ => r = .bool (fits x m)) := by
  have hl := Rp.S_len hr
  obtain ⟨ad, cap, rfl⟩ := Rp.S_slice hr
  refine enterX ty tyok Tryz.func115 rfl Tryz.ntmps115 [.a [.v (.int .i64 x.op), .v (.int .i64 x.n), .v _], .v (.int .i64 m)] (by simp) ?_
  intro C hP hQ hnt hty hmb hmh hro; have hQp := qp_body hQ; refine st_ ?_
  refine rn_ ?_; intros
  refine x_split rfl rfl rfl (fun h1 => ?_) (fun h1 => ?_) <;> (refine st_ ?_; (refine ru_ ?_; intros))
  · refine xc_ hQ hmb ?_; simp only [SV.den, resV, dens]
    simp only [fits, show x.op = 23 by simpa using h1, if_true]
  · refine xc_ hQ hmb ?_; simp only [SV.den, resV, dens]
    simp only [fits, show ¬ x.op = 23 by simpa using h1, if_false]

theorem misL_drop {p : Pr} {f : Fu} {L : Pl} {k : Nat} {x : Int × Int} (h : L[k]? = some x) : misL p f (L.drop k) = if misB p f x then some x.1 else misL p f (L.drop (k + 1)) := by
  obtain ⟨hk, e⟩ := List.getElem?_eq_some_iff.1 h
  rw [List.drop_eq_getElem_cons hk, e]
  rfl
theorem rF_at {G : Hp} {p : Pr} {ad : Option Addr} {n cap : Nat} (h : rF.S G p (.slice ad n cap)) {i : Nat} (hi : i < p.length) : ∃ b off ns, ad = some ⟨b, off, none⟩ ∧ At G b (off + i * 2) [.int .i64 (fu p i).params, ns] ∧ isI64 (fu p i).params ∧ rN.S G (fu p i).nodes ns := by
  obtain ⟨b, off, cap', c, hv, ha, ns, rfl, h1, h2⟩ := Rp.S_get h hi
  cases hv
  rw [fu_eq hi]
  exact ⟨b, off, ns, rfl, ha, h1, h2⟩
theorem misnames_ok (p : Pr) (f : Fu) (ps ns : Value) (G : Hp) (hps : rF.S G p ps) (hp : isI64 f.params) (hns : rN.S G f.nodes ns) :
    Pure Tryz.prog 89 [.agg #[ps], .agg #[.int .i64 f.params, ns]] G (fun r _ => r = misR (misL p f (calP f))) := by
  have hps0 := hps
  have hns0 := hns
  have hn63 := Rp.S_len hns
  obtain ⟨ad, cap, rfl⟩ := Rp.S_slice hns
  obtain ⟨adp, capp, rfl⟩ := Rp.S_slice hps
  refine enterM ty tyok Tryz.func89 rfl Tryz.ntmps89 [.a [.v (.slice adp p.length capp)], .a [.v (.int .i64 f.params), .v (.slice ad f.nodes.length cap)]] (by simp) ?_
  intro C hP hQ hnt hty hmb hmh hro; have hQp := qp_bodyM hQ; refine st_ ?_
  refine rn_ ?_; intros
  rename_i b1 b2 b3 b4
  refine go_marks 20 rfl (by omega) ?_
  refine st_ ?_
  refine go_call (by rw [hnt]; rfl) (by rw [hP]; kernel_rfl) rfl (hP ▸ calls_ok f _ G hp hns0) ?_
  rintro v G1 (hle1 : Le G G1) ⟨fn, cp, rfl, hfc, hit⟩
  replace hit := hit.mono (diff_le G1 G)
  refine rn_ ?_; intros
  refine go_keep [2, 3, 4, 5, 9] [0, 1, 2, 3, 20] ?_
  refine st_ ?_
  have hps1 := Rp.S_mono hle1 hps0
  have hns1 := Rp.S_mono hle1 hns0
  refine x_range 20 rfl rfl (ps := #[10, 11]) rfl hro hmh rfl rfl hfc (by rw [hnt]; decide) hit (encII_mono _) (fun _ _ _ h => by obtain ⟨_, _, rfl⟩ := h; rfl)
    (fun k own => misL p f (calP f) = misL p f ((calP f).drop k) ∧ own = [(0, b1, .c 24 [.v (.slice adp p.length capp)]), (1, b2, .c 64 [.v (.int .i64 f.params), .v (.slice ad f.nodes.length cap)]), (2, b3, .c 3 [.v (.int .i64 0)]), (3, b4, .c 4 [.v (.bool false)]), (20, 0, dzO [])])
    (fun c own => ∃ i : Int, c = .ret ∧ misL p f (calP f) = some i ∧ own = [(0, b1, .c 24 [.v (.slice adp p.length capp)]), (1, b2, .c 64 [.v (.int .i64 f.params), .v (.slice ad f.nodes.length cap)]), (2, b3, .c 3 [.v (.int .i64 i)]), (3, b4, .c 4 [.b true]), (20, 0, dzO [])])
    (fun i own h => by obtain ⟨_, rfl⟩ := h; exact ⟨keys_lt rfl, (by repeat (first | exact plain_nil | refine plain_cons (fun _ h => h) ?_)), rfl⟩) (fun _ _ h => by obtain ⟨i, _, _, rfl⟩ := h; exact ⟨(by repeat (first | exact plain_nil | refine plain_cons (fun _ h => h) ?_)), rfl⟩) ⟨by simp, rfl⟩ ?_ ?_ ?_
  · rintro C' C0 k own vs G7 lp D r hiN ⟨hk0, rfl⟩ (hle7 : Le G1 G7) ⟨x, hLk, rfl⟩ hR
    have hdr := misL_drop (p := p) (f := f) hLk
    obtain ⟨m, hm, rfl, hnm, h0, h63⟩ := calP_get hLk
    have hps7 := Rp.S_mono hle7 hps1
    obtain ⟨bn, offn, capn, cn, hse, hatn, sl, rfl, hop, hnn, hsl⟩ := Rp.S_get (Rp.S_mono hle7 hns1) hm
    cases hse
    have hnt2 := hR.nt.trans hnt; have hty2 := hR.ty.trans hty; have hP2 := hR.P.trans hP; clear hQ hQp hnt hty hP hmh hmb hro; have hnt := hnt2; have hty := hty2; have hP := hP2; have hmh := hR.mh; have hQp := hR.qp; simp only [putsS, List.toList_toArray]; refine st_ ?_
    refine rn_ ?_; intros
    refine go_br rfl hR.ready ?_
    refine st_ ?_
    refine rn_ ?_; intros
    refine x_draw rfl (by rw [hP]; kernel_rfl) rfl (by kernel_rfl) ?_
    refine runq 400 hty hnt ?_; refine st_ ?_
    obtain ⟨t, ht⟩ : ∃ t : Nat, f.nodes[m].n = t := ⟨f.nodes[m].n.toNat, by omega⟩
    simp only [ht] at hdr ⊢
    refine go_qsplit rfl rfl (fun hge => ?_) (fun hge => ?_) <;> (refine st_ ?_; (try (refine runq 400 hty hnt ?_; refine st_ ?_)))
    · have hb : misB p f ((m : Int), (t : Int)) = true := by simp at hge; simp [misB, hge]
      rw [if_pos hb] at hdr
      refine q_end ?_; refine rn_ ?_; intros
      refine x_rret rfl hR rfl rfl ?_
      exact ⟨m, rfl, by rw [hk0, hdr], rfl⟩
    · have htl : t < p.length := by simp at hge; omega
      obtain ⟨bp, op, nsp, rfl, hatp, hpp, hnp⟩ := rF_at hps7 htl
      have hatp0 : At G7 bp (op + t * 2) [.int .i64 (fu p t).params] := by simpa using hatp.sub 0 1 (by simp)
      refine q_q (by rw [hnt]; rfl) (quiet_index (by rw [hty]; rfl) (by rw [hty]; rfl) rfl rfl rfl (by omega) (by omega)) ?_; refine runq 400 hty hnt ?_; refine st_ ?_
      refine q_q (by rw [hnt]; rfl) (quiet_load (by rw [hty]; rfl) rfl (by simp [TK.agg]) (by simpa [rN] using hatn) rfl) ?_
      refine runq 400 hty hnt ?_; refine st_ ?_
      refine q_q (by rw [hnt]; rfl) (quiet_index (by rw [hty]; rfl) (by rw [hty]; rfl) rfl rfl rfl (by omega) (by omega)) ?_; refine runq 400 hty hnt ?_; refine st_ ?_
      refine q_q (by rw [hnt]; rfl) (quiet_load (by rw [hty]; rfl) rfl (by simp [TK.agg]) (by simpa using hatp0) rfl) ?_
      refine runq 400 hty hnt ?_; refine st_ ?_
      refine q_callf (by rw [hnt]; rfl) (by rw [hP]; kernel_rfl) rfl (hP ▸ fits_ok f.nodes[m] sl (fu p t).params G7 hsl) ?_; refine runq 400 hty hnt ?_; refine st_ ?_
      refine q_end ?_; refine rn_ ?_; intros
      have hmb : misB p f ((m : Int), (t : Int)) = !fits f.nodes[m] (fu p t).params := by
        simp only [misB, Int.toNat_natCast, nd_eq hm]
        rw [decide_eq_false (by omega), Bool.false_or]
      refine x_split rfl rfl rfl (fun hf => ?_) (fun hf => ?_) <;> (refine st_ ?_; (refine ru_ ?_; intros))
      · rw [hmb, if_pos hf] at hdr
        refine x_rret rfl hR rfl rfl ?_
        exact ⟨m, rfl, by rw [hk0, hdr], rfl⟩
      · rw [hmb, hf] at hdr
        refine go_rend hR rfl rfl ?_
        exact ⟨by rw [hk0, hdr]; rfl, rfl⟩
  · rintro D own G7 ⟨hk0, rfl⟩ (hle7 : Le G1 G7)
    rw [List.drop_length] at hk0
    refine st_ ?_
    refine rn_ ?_; intros
    refine x_retM 20 rfl hQ hmb rfl rfl rfl (by rw [hty]; simp only [so, sq, zy, zz, tyE, SO', SQ', opQ, opStore, opAlloc, ev, putS, dOk, cv, SV.cs, SV.one, SV.bool?, eqB, Value.oneCell', ldOwn, binInt, binConst, binBool, binStr, isC, TK.agg, rv, rv1, ldV, resOne, resV, Nat.reduceAdd, Nat.reduceMul, Nat.reduceSub, Nat.reduceLT, Nat.reduceLeDiff, Nat.reduceEqDiff, Nat.reduceBEq, reduceIte, reduceCtorEq, eq_self]; try rfl) ?_; simp only [SV.den, resV, dens]
    rw [hk0]; rfl
  · rintro D c own G7 ⟨i, rfl, hi, rfl⟩ (hle7 : Le G1 G7)
    refine st_ ?_
    refine rn_ ?_; intros
    refine x_retM 20 rfl hQ hmb rfl rfl rfl (by rw [hty]; simp only [so, sq, zy, zz, tyE, SO', SQ', opQ, opStore, opAlloc, ev, putS, dOk, cv, SV.cs, SV.one, SV.bool?, eqB, Value.oneCell', ldOwn, binInt, binConst, binBool, binStr, isC, TK.agg, rv, rv1, ldV, resOne, resV, Nat.reduceAdd, Nat.reduceMul, Nat.reduceSub, Nat.reduceLT, Nat.reduceLeDiff, Nat.reduceEqDiff, Nat.reduceBEq, reduceIte, reduceCtorEq, eq_self]; try rfl) ?_; simp only [SV.den, resV, dens]
    rw [hi]; rfl
end Go.Proofs.YtpppkednpamhbaaGreat
namespace Go.Proofs.YtpppkednpamhbaaGreat
set_option linter.unusedSimpArgs false
set_option linter.unusedVariables false
open Go.Sx

def badF : List Fu → Nat → Option (Int × Int)
  | [], _ => none
  | f :: l, i => if (whr f).2 = 0 then badF l (i + 1) else some (i, (whr f).1)
def misF (p : Pr) : List Fu → Nat → Option (Int × Int)
  | [], _ => none
  | f :: l, i => match misL p f (calP f) with
    | some a => some (i, a)
    | none => misF p l (i + 1)
def whP (p : Pr) : Int × Int × Int :=
  if p.length < 1 ∨ 64 < p.length then (0, 0, 70) else match badF p 0 with
    | some x => (x.1, x.2, 70)
    | none => if 0 < (fu p 0).params then (0, 0, 70) else match misF p p 0 with
      | some x => (x.1, x.2, 70)
      | none => (0, 0, 0)
theorem fu_drop {p : Pr} {i : Nat} (h : i < p.length) : p.drop i = fu p i :: p.drop (i + 1) := by rw [fu_eq h, List.drop_eq_getElem_cons h]

set_option maxHeartbeats 4000000
theorem wherep_ok (p : Pr) (ps : Value) (G : Hp) (hps : rF.S G p ps) :
    Pure Tryz.prog 57 [.agg #[ps]] G (fun r _ => r = .tuple #[.int .i64 (whP p).1, .int .i64 (whP p).2.1, .int .i64 (whP p).2.2]) := by
  have hps0 := hps
  have hp63 := Rp.S_len hps
  obtain ⟨adp, capp, rfl⟩ := Rp.S_slice hps
  refine enterX ty tyok Tryz.func57 rfl Tryz.ntmps57 [.a [.v (.slice adp p.length capp)]] (by simp) ?_
  intro C hP hQ hnt hty hmb hmh hro; have hQp := qp_body hQ; refine st_ ?_
  refine rn_ ?_; intros
  rename_i b1
  refine go_gsplit rfl rfl (fun h1 => ?_) (fun h1 => ?_) <;> (refine st_ ?_; (refine rn_ ?_; intros))
  · refine xc_ hQ hmb ?_; simp only [SV.den, resV, dens]
    rw [whP, if_pos (by have := of_decide_eq_true h1; omega)]
  refine x_split rfl rfl rfl (fun h2 => ?_) (fun h2 => ?_) <;> (refine st_ ?_; (refine ru_ ?_; intros))
  · refine xc_ hQ hmb ?_; simp only [SV.den, resV, dens]
    rw [whP, if_pos (by have := of_decide_eq_true h2; omega)]
  have hlen : ¬ (p.length < 1 ∨ 64 < p.length) := by simp at h1 h2; omega
  have hpos : 0 < p.length := by omega
  refine go_keep [1, 24, 25, 26] [0] ?_
  refine st_ ?_
  refine x_loop rfl (fun q s => ∃ i : Nat, i ≤ p.length ∧ q = p.length - i ∧ badF p 0 = badF (p.drop i) i ∧
    s = ⟨[(1, .p 0 b1 0), (24, .v (.slice adp p.length capp)), (25, .v (.int .i64 p.length)), (26, .v (.int .i64 i))], [(0, b1, .c 24 [.v (.slice adp p.length capp)])], G, []⟩) ⟨0, by omega, rfl, rfl, rfl⟩ ?_
  rintro q s ⟨i, hi, hq, hbad, rfl⟩ ih
  refine rn_ ?_; intros
  refine x_if rfl rfl rfl rfl (fun hil => ?_) (fun hil => ?_)
  · have hlt : i < p.length := by simp at hil; omega
    obtain ⟨bp, op, nsp, rfl, hatp, hpp, hnp⟩ := rF_at hps0 hlt
    rw [fu_drop hlt] at hbad
    simp only [badF] at hbad
    have hc := where_ok (fu p i) nsp G hpp hnp
    obtain ⟨adn, capn, rfl⟩ := Rp.S_slice hnp
    refine rn_ ?_; intros
    refine go_q (by rw [hnt]; rfl) (quiet_index (by rw [hty]; rfl) (by rw [hty]; rfl) rfl rfl rfl (by omega) (by omega)) ?_
    refine rn_ ?_; intros
    refine go_q (by rw [hnt]; rfl) (quiet_load (by rw [hty]; rfl) rfl (by simp [TK.agg]) hatp rfl) ?_
    refine rn_ ?_; intros
    refine go_callf (by rw [hnt]; rfl) (by rw [hP]; kernel_rfl) rfl (hP ▸ hc) ?_; refine rn_ ?_; intros
    refine x_split rfl rfl rfl (fun hw => ?_) (fun hw => ?_) <;> (refine st_ ?_; (refine ru_ ?_; intros))
    · refine xc_ hQ hmb ?_; simp only [SV.den, resV, dens]
      rw [if_neg (by simpa using hw)] at hbad
      simp only [whP, if_neg hlen, hbad]
    · rw [if_pos (by simpa using hw)] at hbad
      rw [wr (n := (i : Int) + 1) (by omega) (by omega)]
      refine go_keep [1, 24, 25, 26] [0] ?_
      refine st_ ?_
      exact ih (p.length - (i + 1)) _ (by omega) ⟨i + 1, by omega, rfl, hbad, by simp⟩
  have hge : i = p.length := by simp at hil; omega
  subst hge
  clear ih hil
  rw [List.drop_length] at hbad
  simp only [badF] at hbad
  obtain ⟨bp, op, nsp, rfl, hatp, hpp, hnp⟩ := rF_at hps0 hpos
  have hatp0 : At G bp (op + 0 * 2) [.int .i64 (fu p 0).params] := by simpa using hatp.sub 0 1 (by simp)
  refine rn_ ?_; intros
  refine go_q (by rw [hnt]; rfl) (quiet_index (by rw [hty]; rfl) (by rw [hty]; rfl) rfl rfl rfl (by omega) (by omega)) ?_
  refine rn_ ?_; intros
  refine go_q (by rw [hnt]; rfl) (quiet_load (by rw [hty]; rfl) rfl (by simp [TK.agg]) (by simpa using hatp0) rfl) ?_
  refine rn_ ?_; intros
  refine x_split rfl rfl rfl (fun h3 => ?_) (fun h3 => ?_) <;> (refine st_ ?_; (refine ru_ ?_; intros))
  · refine xc_ hQ hmb ?_; simp only [SV.den, resV, dens]
    simp only [whP, if_neg hlen, hbad, if_pos (show 0 < (fu p 0).params by simpa using h3)]
  have h3' : ¬ 0 < (fu p 0).params := by simpa using h3
  refine go_keep [1, 48, 49, 50] [0] ?_
  refine st_ ?_
  refine x_loop rfl (fun q s => ∃ i : Nat, i ≤ p.length ∧ q = p.length - i ∧ misF p p 0 = misF p (p.drop i) i ∧
    s = ⟨[(1, .p 0 b1 0), (48, .v (.slice (some ⟨bp, op, none⟩) p.length capp)), (49, .v (.int .i64 p.length)), (50, .v (.int .i64 i))], [(0, b1, .c 24 [.v (.slice (some ⟨bp, op, none⟩) p.length capp)])], G, []⟩) ⟨0, by omega, rfl, rfl, rfl⟩ ?_
  clear q hq hi
  rintro q s ⟨i, hi, hq, hmis, rfl⟩ ih
  refine rn_ ?_; intros
  refine x_if rfl rfl rfl rfl (fun hil => ?_) (fun hil => ?_)
  · have hlt : i < p.length := by simp at hil; omega
    obtain ⟨bp', op', nsi, hse, hati, hpi, hni⟩ := rF_at hps0 hlt
    cases hse
    rw [fu_drop hlt] at hmis
    simp only [misF] at hmis
    have hc := misnames_ok p (fu p i) _ nsi G hps0 hpi hni
    obtain ⟨adn, capn, rfl⟩ := Rp.S_slice hni
    refine rn_ ?_; intros
    refine go_q (by rw [hnt]; rfl) (quiet_index (by rw [hty]; rfl) (by rw [hty]; rfl) rfl rfl rfl (by omega) (by omega)) ?_
    refine rn_ ?_; intros
    refine go_q (by rw [hnt]; rfl) (quiet_load (by rw [hty]; rfl) rfl (by simp [TK.agg]) hati rfl) ?_
    refine rn_ ?_; intros
    cases hm : misL p (fu p i) (calP (fu p i)) with
    | some a =>
      rw [hm] at hc hmis
      simp only [misR] at hc
      simp only at hmis
      refine go_callf (by rw [hnt]; rfl) (by rw [hP]; kernel_rfl) rfl (hP ▸ hc) ?_; refine rn_ ?_; intros
      refine go_slot 61 (.b true) rfl (by simp [SV.den]) ?_; refine rn_ ?_; intros
      refine xc_ hQ hmb ?_; simp only [SV.den, resV, dens]
      simp only [whP, if_neg hlen, hbad, if_neg h3', hmis]
    | none =>
      rw [hm] at hc hmis
      simp only [misR] at hc
      simp only at hmis
      refine go_callf (by rw [hnt]; rfl) (by rw [hP]; kernel_rfl) rfl (hP ▸ hc) ?_; refine rn_ ?_; intros
      refine go_slot 61 (.b false) rfl (by simp [SV.den]) ?_; refine rn_ ?_; intros
      rw [wr (n := (i : Int) + 1) (by omega) (by omega)]
      refine go_keep [1, 48, 49, 50] [0] ?_
      refine st_ ?_
      exact ih (p.length - (i + 1)) _ (by omega) ⟨i + 1, by omega, rfl, hmis, by simp⟩
  have hge : i = p.length := by simp at hil; omega
  subst hge
  clear ih hil
  rw [List.drop_length] at hmis
  simp only [misF] at hmis
  refine rn_ ?_; intros
  refine xc_ hQ hmb ?_; simp only [SV.den, resV, dens]
  simp only [whP, if_neg hlen, hbad, if_neg h3', hmis]

theorem checkp_ok (p : Pr) (ps : Value) (G : Hp) (hps : rF.S G p ps) : Pure Tryz.prog 31 [.agg #[ps]] G (fun r _ => r = .int .i64 (whP p).2.2) := by
  have hps0 := hps
  obtain ⟨adp, capp, rfl⟩ := Rp.S_slice hps
  refine enterX ty tyok Tryz.func31 rfl Tryz.ntmps31 [.a [.v (.slice adp p.length capp)]] (by simp) ?_
  intro C hP hQ hnt hty hmb hmh hro; have hQp := qp_body hQ; refine st_ ?_
  refine rn_ ?_; intros
  refine go_callf (by rw [hnt]; rfl) (by rw [hP]; kernel_rfl) rfl (hP ▸ wherep_ok p _ G hps0) ?_; refine rn_ ?_; intros
  refine xc_ hQ hmb ?_; simp only [SV.den, resV, dens]
end Go.Proofs.YtpppkednpamhbaaGreat
namespace Go.Proofs.YtpppkednpamhbaaGreat
set_option linter.unusedSimpArgs false
set_option linter.unusedVariables false
open Go.Sx
set_option maxHeartbeats 4000000
def nmP (x : Nd) : Int := if x.op = 23 then IntKind.i64.wrap ((x.l.length : Int) + 1) else if nms x.op then x.l.length else 0
theorem rnames_ok (x : Nd) (sl : Value) (G : Hp) (hr : rI.S G x.l sl) : Pure Tryz.prog 60 [.agg #[.int .i64 x.op, .int .i64 x.n, sl]] G (fun r _ => r = .tuple #[.int .i64 (nmP x), .bool (nms x.op)]) := by
  obtain ⟨ad, cap, rfl⟩ := Rp.S_slice hr
  refine enterX ty tyok Tryz.func60 rfl Tryz.ntmps60 [.a [.v (.int .i64 x.op), .v (.int .i64 x.n), .v _]] (by simp) ?_
  intro C hP hQ hnt hty hmb hmh hro; have hQp := qp_body hQ; refine st_ ?_
  refine rn_ ?_; intros
  iterate 5
    refine x_split rfl rfl rfl (fun h1 => ?_) (fun h1 => ?_) <;> (refine st_ ?_; (refine ru_ ?_; intros))
    · refine xc_ hQ hmb ?_; simp only [SV.den, resV, dens]
      simp at h1
      simp_all [nmP, nms]
  refine xc_ hQ hmb ?_; simp only [SV.den, resV, dens]
  simp_all [nmP, nms]
theorem fits_nm {x : Nd} {m : Int} (h : nms x.op = true) : fits x m = (m == nmP x) := by
  simp only [fits, nmP, h, if_true]
  split <;> rfl
def misN (p : Pr) : List Nd → Nat → Option Int
  | [], _ => none
  | x :: l, k => if nms x.op && (decide ((p.length : Int) ≤ x.n) || !fits x (fu p x.n.toNat).params) then some k else misN p l (k + 1)
theorem misN_eq {p : Pr} {f : Fu} : ∀ {l : List Nd} {k : Nat}, f.nodes.drop k = l → misN p l k = misL p f (cals l k)
  | [], k, _ => rfl
  | x :: l, k, h => by
    have hk : k < f.nodes.length := by
      rcases Nat.lt_or_ge k f.nodes.length with q | q
      · exact q
      · rw [List.drop_eq_nil_of_le q] at h; cases h
    rw [List.drop_eq_getElem_cons hk] at h
    obtain ⟨hx, hl⟩ := List.cons.inj h
    have ih := misN_eq (p := p) (l := l) (k := k + 1) hl
    simp only [misN, cals]
    by_cases hn : nms x.op = true
    · simp only [hn, Bool.true_and, if_true, misL, misB, Int.toNat_natCast, nd_eq hk, hx, ih]
    · simp only [hn, Bool.false_and, Bool.false_eq_true, if_false, ih]
def misM (p : Pr) : List Fu → Nat → Option (Int × Int)
  | [], _ => none
  | f :: l, i => match misN p f.nodes 0 with
    | some a => some (i, a)
    | none => misM p l (i + 1)
theorem misM_eq {p : Pr} : ∀ {l : List Fu} {i : Nat}, badF l i = none → misM p l i = misF p l i
  | [], i, _ => rfl
  | f :: l, i, h => by
    simp only [badF] at h
    split at h
    · rename_i hw
      have hc : calP f = cals f.nodes 0 := by
        simp only [whr] at hw
        simp only [calP]
        cases hp : places f with
        | inl a => rw [hp] at hw; simp at hw
        | inr A => rfl
      simp only [misM, misF, misM_eq (p := p) h, hc, misN_eq (p := p) (f := f) (l := f.nodes) (k := 0) (by simp)]
      try rfl
    · cases h
theorem badF_par {p : Pr} (h : badF p 0 = none) (hp : 0 < p.length) : 0 ≤ (fu p 0).params := by
  cases p with
  | nil => simp at hp
  | cons f p =>
    simp only [badF] at h
    split at h
    · rename_i hw
      simp only [whr] at hw
      cases hq : places f with
      | inl a => rw [hq] at hw; simp at hw
      | inr A => have := (tree hq).par9.1; simpa [fu] using this
    · cases h
theorem badF_ok : ∀ {p : List Fu} {i : Nat}, badF p i = none → ∀ f ∈ p, (whr f).2 = 0
  | [], _, _, f, hf => by simp at hf
  | g :: p, i, h, f, hf => by
    simp only [badF] at h
    split at h
    · rename_i hw
      rcases List.mem_cons.1 hf with rfl | hf
      · exact hw
      · exact badF_ok h f hf
    · cases h
theorem nms_range {f : Fu} (h : (whr f).2 = 0) {k : Nat} (hk : k < f.nodes.length) (hn : nms f.nodes[k].op = true) : 0 ≤ f.nodes[k].n ∧ f.nodes[k].n ≤ 63 := by
  simp only [whr] at h
  cases hp : places f with
  | inl a => rw [hp] at h; simp at h
  | inr A =>
    have h3 := ((tree hp).ok k hk).2.2
    rw [nd_eq hk] at h3
    exact nmb_nms hn h3
theorem refwherep_ok (p : Pr) (ps : Value) (G : Hp) (hps : rF.S G p ps) :
    Pure Tryz.prog 33 [.agg #[ps]] G (fun r _ => r = .tuple #[.int .i64 (whP p).1, .int .i64 (whP p).2.1, .int .i64 (whP p).2.2]) := by
  have hps0 := hps
  have hp63 := Rp.S_len hps
  obtain ⟨adp, capp, rfl⟩ := Rp.S_slice hps
  refine enterX ty tyok Tryz.func33 rfl Tryz.ntmps33 [.a [.v (.slice adp p.length capp)]] (by simp) ?_
  intro C hP hQ hnt hty hmb hmh hro; have hQp := qp_body hQ; refine st_ ?_
  refine rn_ ?_; intros
  rename_i b1
  refine go_gsplit rfl rfl (fun h1 => ?_) (fun h1 => ?_) <;> (refine st_ ?_; (refine rn_ ?_; intros))
  · refine xc_ hQ hmb ?_; simp only [SV.den, resV, dens]
    rw [whP, if_pos (by have := of_decide_eq_true h1; omega)]
  refine x_split rfl rfl rfl (fun h2 => ?_) (fun h2 => ?_) <;> (refine st_ ?_; (refine ru_ ?_; intros))
  · refine xc_ hQ hmb ?_; simp only [SV.den, resV, dens]
    rw [whP, if_pos (by have := of_decide_eq_true h2; omega)]
  have hlen : ¬ (p.length < 1 ∨ 64 < p.length) := by simp at h1 h2; omega
  have hpos : 0 < p.length := by omega
  refine go_keep [1, 5, 6] [0] ?_
  refine st_ ?_
  refine x_loop rfl (fun q s => ∃ i : Nat, i ≤ p.length ∧ q = p.length - i ∧ badF p 0 = badF (p.drop i) i ∧
    s = ⟨[(1, .p 0 b1 0), (5, .v (.int .i64 p.length)), (6, .v (.int .i64 i))], [(0, b1, .c 24 [.v (.slice adp p.length capp)])], G, []⟩) ⟨0, by omega, rfl, rfl, rfl⟩ ?_
  rintro q s ⟨i, hi, hq, hbad, rfl⟩ ih
  refine rn_ ?_; intros
  refine x_if rfl rfl rfl rfl (fun hil => ?_) (fun hil => ?_)
  · have hlt : i < p.length := by simp at hil; omega
    obtain ⟨bp, op, nsp, rfl, hatp, hpp, hnp⟩ := rF_at hps0 hlt
    rw [fu_drop hlt] at hbad
    simp only [badF] at hbad
    have hc := refwhere_ok (fu p i) nsp G hpp hnp
    obtain ⟨adn, capn, rfl⟩ := Rp.S_slice hnp
    refine rn_ ?_; intros
    refine go_q (by rw [hnt]; rfl) (quiet_index (by rw [hty]; rfl) (by rw [hty]; rfl) rfl rfl rfl (by omega) (by omega)) ?_
    refine rn_ ?_; intros
    refine go_q (by rw [hnt]; rfl) (quiet_load (by rw [hty]; rfl) rfl (by simp [TK.agg]) hatp rfl) ?_
    refine rn_ ?_; intros
    refine go_callf (by rw [hnt]; rfl) (by rw [hP]; kernel_rfl) rfl (hP ▸ hc) ?_; refine rn_ ?_; intros
    refine x_split rfl rfl rfl (fun hw => ?_) (fun hw => ?_) <;> (refine st_ ?_; (refine ru_ ?_; intros))
    · refine xc_ hQ hmb ?_; simp only [SV.den, resV, dens]
      rw [if_neg (by simpa using hw)] at hbad
      simp only [whP, if_neg hlen, hbad]
    · rw [if_pos (by simpa using hw)] at hbad
      rw [wr (n := (i : Int) + 1) (by omega) (by omega)]
      refine go_keep [1, 5, 6] [0] ?_
      refine st_ ?_
      exact ih (p.length - (i + 1)) _ (by omega) ⟨i + 1, by omega, rfl, hbad, by simp⟩
  have hge : i = p.length := by simp at hil; omega
  subst hge
  clear ih hil
  rw [List.drop_length] at hbad
  simp only [badF] at hbad
  obtain ⟨bp, op, nsp, rfl, hatp, hpp, hnp⟩ := rF_at hps0 hpos
  have hatp0 : At G bp (op + 0 * 2) [.int .i64 (fu p 0).params] := by simpa using hatp.sub 0 1 (by simp)
  refine rn_ ?_; intros
  refine go_q (by rw [hnt]; rfl) (quiet_index (by rw [hty]; rfl) (by rw [hty]; rfl) rfl rfl rfl (by omega) (by omega)) ?_
  refine rn_ ?_; intros
  refine go_q (by rw [hnt]; rfl) (quiet_load (by rw [hty]; rfl) rfl (by simp [TK.agg]) (by simpa using hatp0) rfl) ?_
  refine rn_ ?_; intros
  have hpar := badF_par hbad hpos
  refine x_split rfl rfl rfl (fun h3 => ?_) (fun h3 => ?_) <;> (refine st_ ?_; (refine ru_ ?_; intros))
  · refine xc_ hQ hmb ?_; simp only [SV.den, resV, dens]
    simp only [whP, if_neg hlen, hbad, if_pos (show 0 < (fu p 0).params by simp at h3; omega)]
  have h3' : ¬ 0 < (fu p 0).params := by simp at h3; omega
  have hbok := badF_ok hbad
  have hwh : whP p = match misM p p 0 with | some x => (x.1, x.2, 70) | none => (0, 0, 0) := by
    simp only [whP, if_neg hlen, hbad, if_neg h3', misM_eq hbad]
    try rfl
  refine go_keep [1, 5, 9] [0] ?_
  refine st_ ?_
  refine x_loop rfl (fun q s => ∃ i : Nat, i ≤ p.length ∧ q = p.length - i ∧ misM p p 0 = misM p (p.drop i) i ∧
    s = ⟨[(1, .p 0 b1 0), (5, .v (.int .i64 p.length)), (9, .v (.int .i64 i))], [(0, b1, .c 24 [.v (.slice (some ⟨bp, op, none⟩) p.length capp)])], G, []⟩) ⟨0, by omega, rfl, rfl, rfl⟩ ?_
  clear q hq hi
  rintro q s ⟨i, hi, hq, hmis, rfl⟩ ih
  refine rn_ ?_; intros
  refine x_if rfl rfl rfl rfl (fun hil => ?_) (fun hil => ?_)
  · have hlt : i < p.length := by simp at hil; omega
    obtain ⟨bp', op', nsi, hse, hati, hpi, hni⟩ := rF_at hps0 hlt
    cases hse
    have hi0 : (whr (fu p i)).2 = 0 := hbok _ (by rw [fu_eq hlt]; exact List.getElem_mem _)
    rw [fu_drop hlt] at hmis
    simp only [misM] at hmis
    have hni0 := hni
    have hn63 := Rp.S_len hni
    obtain ⟨adn, capn, rfl⟩ := Rp.S_slice hni
    have hati1 : At G bp (op + i * 2 + 1) [.slice adn (fu p i).nodes.length capn] := by simpa using hati.sub 1 1 (by simp)
    refine rn_ ?_; intros
    refine go_keep [1, 5, 9, 10] [0] ?_
    refine st_ ?_
    refine x_loop rfl (fun q s => ∃ k : Nat, k ≤ (fu p i).nodes.length ∧ q = (fu p i).nodes.length - k ∧ misN p (fu p i).nodes 0 = misN p ((fu p i).nodes.drop k) k ∧
      s = ⟨[(1, .p 0 b1 0), (5, .v (.int .i64 p.length)), (9, .v (.int .i64 i)), (10, .v (.int .i64 k))], [(0, b1, .c 24 [.v (.slice (some ⟨bp, op, none⟩) p.length capp)])], G, []⟩) ⟨0, by omega, rfl, rfl, rfl⟩ ?_
    rintro q s ⟨k, hk, hq, hmn, rfl⟩ ihk
    refine rn_ ?_; intros
    refine go_q (by rw [hnt]; rfl) (quiet_index (by rw [hty]; rfl) (by rw [hty]; rfl) rfl rfl rfl (by omega) (by omega)) ?_
    refine rn_ ?_; intros
    refine go_q (by rw [hnt]; rfl) (quiet_load (by rw [hty]; rfl) rfl (by simp [TK.agg]) hati1 rfl) ?_; refine rn_ ?_; intros
    refine x_if rfl rfl rfl rfl (fun hkl => ?_) (fun hkl => ?_)
    · have hkt : k < (fu p i).nodes.length := by simp at hkl; omega
      obtain ⟨bn, offn, capn', cn, hse, hatn, sl, rfl, hop, hnn, hsl⟩ := Rp.S_get hni0 hkt
      cases hse
      have hc := rnames_ok (fu p i).nodes[k] sl G hsl
      have hrg := nms_range hi0 hkt
      have hs63 := Rp.S_len hsl
      obtain ⟨ads, caps, rfl⟩ := Rp.S_slice hsl
      rw [List.drop_eq_getElem_cons hkt] at hmn
      simp only [misN] at hmn
      refine rn_ ?_; intros
      refine go_q (by rw [hnt]; rfl) (quiet_index (by rw [hty]; rfl) (by rw [hty]; rfl) rfl rfl rfl (by omega) (by omega)) ?_
      refine rn_ ?_; intros
      refine go_q (by rw [hnt]; rfl) (quiet_load (by rw [hty]; rfl) rfl (by simp [TK.agg]) hati1 rfl) ?_; refine rn_ ?_; intros
      refine go_q (by rw [hnt]; rfl) (quiet_index (by rw [hty]; rfl) (by rw [hty]; rfl) rfl rfl rfl (by omega) (by omega)) ?_
      refine rn_ ?_; intros
      refine go_q (by rw [hnt]; rfl) (quiet_load (by rw [hty]; rfl) rfl (by simp [TK.agg]) (by simpa [rN] using hatn) rfl) ?_
      refine rn_ ?_; intros
      refine go_callf (by rw [hnt]; rfl) (by rw [hP]; kernel_rfl) rfl (hP ▸ hc) ?_; refine rn_ ?_; intros
      refine go_gsplit rfl rfl (fun hn => ?_) (fun hn => ?_) <;> (refine st_ ?_; (refine rn_ ?_; intros))
      · obtain ⟨t, ht⟩ : ∃ t : Nat, (fu p i).nodes[k].n = t := ⟨(fu p i).nodes[k].n.toNat, by have := hrg hn; omega⟩
        have ht63 : t ≤ 63 := by have := hrg hn; omega
        simp only [ht]
        rw [hn, ht] at hmn
        refine go_gsplit rfl rfl (fun hge => ?_) (fun hge => ?_) <;> (refine st_ ?_; (refine rn_ ?_; intros))
        · rw [if_pos (by have := of_decide_eq_true hge; simp; omega)] at hmn
          rw [hmn] at hmis
          refine xc_ hQ hmb ?_; simp only [SV.den, resV, dens]
          rw [hwh, hmis]
        · have htl : t < p.length := by have := of_decide_eq_false hge; omega
          obtain ⟨bq, oq, nsq, hse, hatq, hpq, hnq⟩ := rF_at hps0 htl
          cases hse
          have hatq0 : At G bp (op + t * 2) [.int .i64 (fu p t).params] := by simpa using hatq.sub 0 1 (by simp)
          refine go_q (by rw [hnt]; rfl) (quiet_index (by rw [hty]; rfl) (by rw [hty]; rfl) rfl rfl rfl (by omega) (by omega)) ?_
          refine rn_ ?_; intros
          refine go_q (by rw [hnt]; rfl) (quiet_load (by rw [hty]; rfl) rfl (by simp [TK.agg]) (by simpa using hatq0) rfl) ?_
          refine rn_ ?_; intros
          rw [decide_eq_false (by omega), Bool.false_or, Bool.true_and, Int.toNat_natCast, fits_nm hn] at hmn
          refine x_split rfl rfl rfl (fun hm => ?_) (fun hm => ?_) <;> (refine st_ ?_; (refine ru_ ?_; intros))
          · rw [if_pos (by simpa using hm)] at hmn
            rw [hmn] at hmis
            refine xc_ hQ hmb ?_; simp only [SV.den, resV, dens]
            rw [hwh, hmis]
          · rw [if_neg (by simpa using hm)] at hmn
            rw [wr (n := (k : Int) + 1) (by omega) (by omega)]
            refine go_keep [1, 5, 9, 10] [0] ?_
            refine st_ ?_
            exact ihk ((fu p i).nodes.length - (k + 1)) _ (by omega) ⟨k + 1, by omega, rfl, hmn, by simp⟩
      · rw [hn, Bool.false_and, if_neg (by simp)] at hmn
        repeat (refine go_gundef rfl (by rw [hnt]; rfl) rfl ?_; (refine st_ ?_; (refine rn_ ?_; intros)))
        rw [wr (n := (k : Int) + 1) (by omega) (by omega)]
        refine go_keep [1, 5, 9, 10] [0] ?_
        refine st_ ?_
        exact ihk ((fu p i).nodes.length - (k + 1)) _ (by omega) ⟨k + 1, by omega, rfl, hmn, by simp⟩
    have hge : k = (fu p i).nodes.length := by simp at hkl; omega
    subst hge
    clear ihk hkl
    rw [List.drop_length] at hmn
    simp only [misN] at hmn
    rw [hmn] at hmis
    refine rn_ ?_; intros
    rw [wr (n := (i : Int) + 1) (by omega) (by omega)]
    refine go_keep [1, 5, 9] [0] ?_
    refine st_ ?_
    exact ih (p.length - (i + 1)) _ (by omega) ⟨i + 1, by omega, rfl, hmis, by simp⟩
  have hge : i = p.length := by simp at hil; omega
  subst hge
  clear ih hil
  rw [List.drop_length] at hmis
  simp only [misM] at hmis
  refine rn_ ?_; intros
  refine xc_ hQ hmb ?_; simp only [SV.den, resV, dens]
  rw [hwh, hmis]
def rgtP (p : Pr) : Bool := (whP p).2.2 == 0
theorem rrightp_ok (p : Pr) (ps : Value) (G : Hp) (hps : rF.S G p ps) : Pure Tryz.prog 10 [.agg #[ps]] G (fun r _ => r = .bool (rgtP p)) := by
  have hps0 := hps
  obtain ⟨adp, capp, rfl⟩ := Rp.S_slice hps
  refine enterX ty tyok Tryz.func10 rfl Tryz.ntmps10 [.a [.v (.slice adp p.length capp)]] (by simp) ?_
  intro C hP hQ hnt hty hmb hmh hro; have hQp := qp_body hQ; refine st_ ?_
  refine rn_ ?_; intros
  refine go_callf (by rw [hnt]; rfl) (by rw [hP]; kernel_rfl) rfl (hP ▸ refwherep_ok p _ G hps0) ?_; refine rn_ ?_; intros
  refine xc_ hQ hmb ?_; simp only [SV.den, resV, dens]
  simp [rgtP]
end Go.Proofs.YtpppkednpamhbaaGreat
namespace Go.Proofs.YtpppkednpamhbaaGreat
set_option linter.unusedSimpArgs false
set_option linter.unusedVariables false
open Go.Sx
set_option maxHeartbeats 4000000
theorem fclone_ok (l : List Int) (sl : Value) (G : Hp) (hS : rI.S G l sl) (hb : l.length ≤ 1000000) : PureR Tryz.prog 90 [sl] G (fun v _ r e size n xs => v = r ∧ e = 3 ∧ size = 1 ∧ n = l.length ∧ xs = l.map (.int .i64 ·)) := by
  obtain ⟨h63, ad, cap, rfl, hsrc⟩ := hS
  refine enterR ty tyok Tryz.func90 rfl Tryz.ntmps90 [.v (.slice ad l.length cap)] (by simp) ?_
  intro C hP hQ hnt hty hmb hmh hro; have hQp := qp_body hQ; refine st_ ?_
  refine rn_ ?_; intros
  refine go_q (by rw [hnt]; rfl) (quiet_snil (by rw [hty]; rfl) rfl rfl) ?_
  refine rn_ ?_; intros
  cases ad with
  | none =>
    have hl : l = [] := by rcases hsrc with h | ⟨b, off, cs, h, _⟩; exact h; cases h
    subst hl
    refine go_slot 4 (.b true) rfl rfl ?_
    refine rn_ ?_; intros
    refine go_nilrow 9 3 1 rfl (by omega) ?_
    refine st_ ?_
    refine x_retr 9 rfl hQ hmb hmh rfl (by rw [hty]; simp only [so, sq, zy, zz, tyE, SO', SQ', opQ, opStore, opAlloc, ev, putS, dOk, cv, SV.cs, SV.one, SV.bool?, eqB, Value.oneCell', ldOwn, binInt, binConst, binBool, binStr, isC, TK.agg, rv, rv1, ldV, resOne, resV, Nat.reduceAdd, Nat.reduceMul, Nat.reduceSub, Nat.reduceLT, Nat.reduceLeDiff, Nat.reduceEqDiff, Nat.reduceBEq, reduceIte, reduceCtorEq, eq_self]; try rfl) rfl rfl ?_
    simp [resV, SV.den]
  | some a =>
    refine go_slot 4 (.b false) rfl rfl ?_
    refine rn_ ?_; intros
    obtain ⟨cs2, hr2, hs2⟩ := Rp.src (r := rI) (cap := cap) hsrc
    have hlen2 := Rp.L_len hr2
    simp only [rI, Nat.mul_one] at hlen2
    refine go_litrow 0 (n := 0) (size := 1) rfl (by omega) rfl (by omega) ?_
    refine st_ ?_
    refine go_append_any 0 (by rw [hnt]; rfl) (by rw [hty]; rfl) (by rw [hty]; rfl) (by decide) rfl rfl rfl (by omega) rfl (hs2.imp id fun f => f _ _ rfl) (by simp only []; omega) (Rp.L_one hr2) (by omega) (by simp only []; omega) ?_
    intro v'
    refine go_rowS 0 rfl ?_
    rintro ad2 cap2 rfl
    refine rn_ ?_; intros
    refine x_retr 0 rfl hQ hmb hmh rfl (by rw [hty]; simp only [so, sq, zy, zz, tyE, SO', SQ', opQ, opStore, opAlloc, ev, putS, dOk, cv, SV.cs, SV.one, SV.bool?, eqB, Value.oneCell', ldOwn, binInt, binConst, binBool, binStr, isC, TK.agg, rv, rv1, ldV, resOne, resV, Nat.reduceAdd, Nat.reduceMul, Nat.reduceSub, Nat.reduceLT, Nat.reduceLeDiff, Nat.reduceEqDiff, Nat.reduceBEq, reduceIte, reduceCtorEq, eq_self]; try rfl) rfl rfl ?_
    refine ⟨by simp [resV, SV.den], rfl, rfl, by simp, ?_⟩
    simpa using (rI_L.1 hr2).1
def encNs : List Nd → List Value → List Value
  | x :: l, s :: ss => .int .i64 x.op :: .int .i64 x.n :: s :: encNs l ss
  | _, _ => []
def rowsL : List Nd → List Value → List Rw
  | x :: l, s :: ss => ⟨3, 1, s, x.l.length, x.l.map (.int .i64 ·)⟩ :: rowsL l ss
  | _, _ => []
def RF (f : Fu) (ns : Value) (ss : List Value) : List Rw := rowsL f.nodes ss ++ [⟨110, 3, ns, f.nodes.length, encNs f.nodes ss⟩]
theorem encNs_snoc {x : Nd} {s : Value} : ∀ (l : List Nd) (ss : List Value), l.length = ss.length → encNs (l ++ [x]) (ss ++ [s]) = encNs l ss ++ [.int .i64 x.op, .int .i64 x.n, s]
  | [], [], _ => by simp [encNs]
  | y :: l, u :: ss, h => by simp [encNs, encNs_snoc l ss (by simpa using h)]
theorem rowsL_snoc {x : Nd} {s : Value} : ∀ (l : List Nd) (ss : List Value), l.length = ss.length → rowsL (l ++ [x]) (ss ++ [s]) = rowsL l ss ++ [⟨3, 1, s, x.l.length, x.l.map (.int .i64 ·)⟩]
  | [], [], _ => by simp [rowsL]
  | y :: l, u :: ss, h => by simp [rowsL, rowsL_snoc l ss (by simpa using h)]
theorem Rp.src_mono {G G' : Hp} {l : List Int} {ad : Option Addr} (hl : Le G G') (h : l = [] ∨ ∃ b off cs, ad = some ⟨b, off, none⟩ ∧ At G b off cs ∧ rI.L G l cs) : l = [] ∨ ∃ b off cs, ad = some ⟨b, off, none⟩ ∧ At G' b off cs ∧ rI.L G' l cs := by
  rcases h with h | ⟨b, off, cs, h1, h2, h3⟩
  · exact .inl h
  · exact .inr ⟨b, off, cs, h1, h2.mono hl, Rp.L_mono hl h3⟩
theorem fcopy_ok (f : Fu) (ns : Value) (G : Hp) (hns : rN.S G f.nodes ns) (hb : f.nodes.length ≤ 300) (hb2 : ∀ x ∈ f.nodes, x.l.length ≤ 40) :
    PureV Tryz.prog 58 [.agg #[.int .i64 f.params, ns]] G (fun v _ rs => ∃ ad cap ss, ss.length = f.nodes.length ∧ v = .agg #[.int .i64 f.params, .slice ad f.nodes.length cap] ∧ rs = RF f (.slice ad f.nodes.length cap) ss) := by
  have hns0 := hns
  obtain ⟨ad, cap, rfl⟩ := Rp.S_slice hns
  refine enterV ty tyok Tryz.func58 rfl Tryz.ntmps58 [.a [.v (.int .i64 f.params), .v (.slice ad f.nodes.length cap)]] (by simp) ?_
  intro C hP hQ hnt hty hmb hmh hro; have hQp := qp_body hQ; refine st_ ?_
  refine rn_ ?_; intros
  rename_i b1 b2 b3
  refine go_nilrow 41 110 3 rfl (by omega) ?_
  refine go_znil 40 rfl (by omega) ?_
  intro Z0
  refine go_keep [1, 2, 3, 10, 11, 12] [0, 1, 2, 40, 41] ?_
  refine st_ ?_
  refine x_loop rfl (fun q s => ∃ (k : Nat) (G' : Hp) (ss : List Value) (ad3 : Option Addr) (cap3 : Nat) (Z : Nat → Prop), k ≤ f.nodes.length ∧ q = f.nodes.length - k ∧ Le G G' ∧ ss.length = k ∧
    s = ⟨[(1, .p 0 b1 0), (2, .p 1 b2 0), (3, .p 2 b3 0), (10, .v (.slice ad f.nodes.length cap)), (11, .v (.int .i64 f.nodes.length)), (12, .v (.int .i64 k))],
      [(0, b1, .c 64 [.v (.int .i64 f.params), .v (.slice ad f.nodes.length cap)]), (1, b2, .c 64 [.v (.int .i64 0), .v (.slice none 0 0)]), (2, b3, .c 64 [.v (.int .i64 f.params), .v (.slice ad3 k cap3)]),
       (40, 0, .z (ZR (rowsL (f.nodes.take k) ss)) Z Z), (41, 0, .row (.slice ad3 k cap3) 110 3 k (encNs (f.nodes.take k) ss))], G', []⟩) ⟨0, G, [], none, 0, Z0, by omega, rfl, Le.refl _, rfl, by simp [rowsL, encNs]⟩ ?_
  rintro q s ⟨k, G1, ss, ad3, cap3, Z, hk, hq, hle1, hss, rfl⟩ ih
  refine rn_ ?_; intros
  refine x_if rfl rfl rfl rfl (fun hjl => ?_) (fun hjl => ?_)
  · have hlt : k < f.nodes.length := by simp at hjl; omega
    have htk : f.nodes.take (k + 1) = f.nodes.take k ++ [f.nodes[k]] := by rw [List.take_append_getElem]
    have hl40 : f.nodes[k].l.length ≤ 1000000 := by have := hb2 f.nodes[k] (List.getElem_mem hlt); omega
    obtain ⟨bn, offn, capn, cn, hse, hatn, sl, rfl, hop, hnn, hsl⟩ := Rp.S_get hns0 hlt
    cases hse
    obtain ⟨h63', adl, capl, rfl, hsrc⟩ := hsl
    have hatn' : At G bn (offn + k * 3) [.int .i64 f.nodes[k].op, .int .i64 f.nodes[k].n, .slice adl f.nodes[k].l.length capl] := by simpa [rN] using hatn
    clear hatn
    refine rn_ ?_; intros
    refine go_q (by rw [hnt]; rfl) (quiet_index (by rw [hty]; rfl) (by rw [hty]; rfl) rfl rfl rfl (by omega) (by omega)) ?_
    refine rn_ ?_; intros
    refine go_q (by rw [hnt]; rfl) (quiet_load (by rw [hty]; rfl) rfl (by simp [TK.agg]) (hatn'.mono hle1) rfl) ?_
    refine rn_ ?_; intros
    rename_i b5
    refine x_held [(42, b5, .c 110 [.v (.int .i64 f.nodes[k].op), .v (.int .i64 f.nodes[k].n), .v (.slice adl f.nodes[k].l.length capl)])] rfl (by rw [hP]; kernel_rfl) rfl rfl rfl ?_; refine st_ ?_
    refine tq_ 0 rfl (quiet_op (by rw [hty]; first | rfl | (refine st_ ?_; rfl))) ?_; refine st_ ?_
    refine tq_ 2 rfl (quiet_op (by rw [hty]; first | rfl | (refine st_ ?_; rfl))) ?_; refine st_ ?_
    refine tq_ 3 rfl (quiet_op (by rw [hty]; first | rfl | (refine st_ ?_; rfl))) ?_; refine st_ ?_
    refine tq_ 4 rfl (quiet_op (by rw [hty]; first | rfl | (refine st_ ?_; rfl))) ?_; refine st_ ?_
    refine tq_ 5 rfl (quiet_op (by rw [hty]; first | rfl | (refine st_ ?_; rfl))) ?_; refine st_ ?_
    refine tq_ 6 rfl (quiet_op (by rw [hty]; first | rfl | (refine st_ ?_; rfl))) ?_; refine st_ ?_
    refine tq_ 7 rfl (quiet_op (by rw [hty]; first | rfl | (refine st_ ?_; rfl))) ?_; refine st_ ?_
    refine h_two 1 8 rfl rfl (by kernel_rfl) ?_ ?_
    · refine rn_ ?_; intros
      refine hs_ ?_
      refine h_one 8 rfl (by kernel_rfl) ?_
      refine go_callr 50 (by rw [hnt]; rfl) (by rw [hP]; kernel_rfl) rfl rfl (by omega) (hP ▸ fclone_ok f.nodes[k].l _ G1 ⟨h63', adl, capl, rfl, Rp.src_mono hle1 hsrc⟩ hl40) ?_
      rintro v G2 r e size n xs (hle2 : Le G1 G2) ⟨rfl, rfl, rfl, rfl, rfl⟩
      refine go_rowS 50 rfl ?_
      rintro adc capc rfl
      refine rn_ ?_; intros
      refine hs_ ?_
      refine tq_ 9 rfl (quiet_op (by rw [hty]; first | rfl | (refine st_ ?_; rfl))) ?_; refine st_ ?_
      refine h_one 10 rfl (by kernel_rfl) ?_
      refine rn_ ?_; intros
      refine hs_ ?_
      refine h_one 11 rfl (by kernel_rfl) ?_
      refine go_append 41 (by rw [hnt]; rfl) (by rw [hty]; rfl) (by rw [hty]; rfl) (by decide) rfl rfl rfl (by omega) rfl (src_own 3 rfl rfl) rfl (by simp [dens, SV.den, Value.oneCell']) (by omega) (by simp only []; omega) ?_
      intro v'
      refine go_rowS 41 rfl ?_
      rintro ad4 cap4 rfl
      refine rn_ ?_; intros
      refine hs_ ?_
      refine tq_ 12 rfl (quiet_op (by rw [hty]; first | rfl | (refine st_ ?_; rfl))) ?_; refine st_ ?_
      refine h_one 13 rfl (by kernel_rfl) ?_
      refine rn_ ?_; intros
      refine hs_ ?_
      refine h_end (by kernel_rfl) ?_
      refine rn_ ?_; intros
      rw [wr (n := (k : Int) + 1) (by omega) (by omega)]
      refine go_zadd 40 50 rfl rfl (by omega) (by omega) (by omega) ?_
      intro Z2
      refine go_keep [1, 2, 3, 10, 11, 12] [0, 1, 2, 40, 41] ?_
      refine st_ ?_
      refine ih (f.nodes.length - (k + 1)) _ (by omega) ⟨k + 1, G2, ss ++ [.slice adc f.nodes[k].l.length capc], ad4, cap4, Z2, by omega, rfl, hle1.trans hle2, by simp [hss], ?_⟩
      rw [htk, rowsL_snoc _ _ (by simp; omega), encNs_snoc _ _ (by simp; omega)]
      simp [dens, SV.den]
    · refine go_callr 50 (by rw [hnt]; rfl) (by rw [hP]; kernel_rfl) rfl rfl (by omega) (hP ▸ fclone_ok f.nodes[k].l _ G1 ⟨h63', adl, capl, rfl, Rp.src_mono hle1 hsrc⟩ hl40) ?_
      rintro v G2 r e size n xs (hle2 : Le G1 G2) ⟨rfl, rfl, rfl, rfl, rfl⟩
      refine go_rowS 50 rfl ?_
      rintro adc capc rfl
      refine rn_ ?_; intros
      refine hs_ ?_
      refine tq_ 9 rfl (quiet_op (by rw [hty]; first | rfl | (refine st_ ?_; rfl))) ?_; refine st_ ?_
      refine h_two 1 10 rfl rfl (by kernel_rfl) ?_ ?_
      · refine rn_ ?_; intros
        refine hs_ ?_
        refine h_one 10 rfl (by kernel_rfl) ?_
        refine rn_ ?_; intros
        refine hs_ ?_
        refine h_one 11 rfl (by kernel_rfl) ?_
        refine go_append 41 (by rw [hnt]; rfl) (by rw [hty]; rfl) (by rw [hty]; rfl) (by decide) rfl rfl rfl (by omega) rfl (src_own 3 rfl rfl) rfl (by simp [dens, SV.den, Value.oneCell']) (by omega) (by simp only []; omega) ?_
        intro v'
        refine go_rowS 41 rfl ?_
        rintro ad4 cap4 rfl
        refine rn_ ?_; intros
        refine hs_ ?_
        refine tq_ 12 rfl (quiet_op (by rw [hty]; first | rfl | (refine st_ ?_; rfl))) ?_; refine st_ ?_
        refine h_one 13 rfl (by kernel_rfl) ?_
        refine rn_ ?_; intros
        refine hs_ ?_
        refine h_end (by kernel_rfl) ?_
        refine rn_ ?_; intros
        rw [wr (n := (k : Int) + 1) (by omega) (by omega)]
        refine go_zadd 40 50 rfl rfl (by omega) (by omega) (by omega) ?_
        intro Z2
        refine go_keep [1, 2, 3, 10, 11, 12] [0, 1, 2, 40, 41] ?_
        refine st_ ?_
        refine ih (f.nodes.length - (k + 1)) _ (by omega) ⟨k + 1, G2, ss ++ [.slice adc f.nodes[k].l.length capc], ad4, cap4, Z2, by omega, rfl, hle1.trans hle2, by simp [hss], ?_⟩
        rw [htk, rowsL_snoc _ _ (by simp; omega), encNs_snoc _ _ (by simp; omega)]
        simp [dens, SV.den]
      · refine rn_ ?_; intros
        refine hs_ ?_
        refine h_one 1 rfl (by kernel_rfl) ?_
        refine rn_ ?_; intros
        refine hs_ ?_
        refine h_one 11 rfl (by kernel_rfl) ?_
        refine go_append 41 (by rw [hnt]; rfl) (by rw [hty]; rfl) (by rw [hty]; rfl) (by decide) rfl rfl rfl (by omega) rfl (src_own 3 rfl rfl) rfl (by simp [dens, SV.den, Value.oneCell']) (by omega) (by simp only []; omega) ?_
        intro v'
        refine go_rowS 41 rfl ?_
        rintro ad4 cap4 rfl
        refine rn_ ?_; intros
        refine hs_ ?_
        refine tq_ 12 rfl (quiet_op (by rw [hty]; first | rfl | (refine st_ ?_; rfl))) ?_; refine st_ ?_
        refine h_one 13 rfl (by kernel_rfl) ?_
        refine rn_ ?_; intros
        refine hs_ ?_
        refine h_end (by kernel_rfl) ?_
        refine rn_ ?_; intros
        rw [wr (n := (k : Int) + 1) (by omega) (by omega)]
        refine go_zadd 40 50 rfl rfl (by omega) (by omega) (by omega) ?_
        intro Z2
        refine go_keep [1, 2, 3, 10, 11, 12] [0, 1, 2, 40, 41] ?_
        refine st_ ?_
        refine ih (f.nodes.length - (k + 1)) _ (by omega) ⟨k + 1, G2, ss ++ [.slice adc f.nodes[k].l.length capc], ad4, cap4, Z2, by omega, rfl, hle1.trans hle2, by simp [hss], ?_⟩
        rw [htk, rowsL_snoc _ _ (by simp; omega), encNs_snoc _ _ (by simp; omega)]
        simp [dens, SV.den]
  · have hge : k = f.nodes.length := by simp at hjl; omega
    subst hge
    clear ih
    rw [List.take_length]
    refine go_zadd 40 41 rfl rfl (by omega) (by omega) (by omega) ?_
    intro Z2
    refine st_ ?_
    refine rn_ ?_; intros
    refine x_retV 40 rfl hQ hmb hmh rfl (by rw [hty]; simp only [so, sq, zy, zz, tyE, SO', SQ', opQ, opStore, opAlloc, ev, putS, dOk, cv, SV.cs, SV.one, SV.bool?, eqB, Value.oneCell', ldOwn, binInt, binConst, binBool, binStr, isC, TK.agg, rv, rv1, ldV, resOne, resV, Nat.reduceAdd, Nat.reduceMul, Nat.reduceSub, Nat.reduceLT, Nat.reduceLeDiff, Nat.reduceEqDiff, Nat.reduceBEq, reduceIte, reduceCtorEq, eq_self]; try rfl) rfl rfl ?_
    exact ⟨ad3, cap3, ss, hss, by simp [resV, SV.den, dens], rfl⟩
end Go.Proofs.YtpppkednpamhbaaGreat
namespace Go.Proofs.YtpppkednpamhbaaGreat
set_option linter.unusedSimpArgs false
set_option linter.unusedVariables false
open Go.Sx
theorem rN_cons {G : Hp} {op n : Int} {l : List Int} {sl : Value} {nodes : List Nd} {cs : List Value} (h1 : isI64 op) (h2 : isI64 n) (h3 : rI.S G l sl) (h : rN.L G nodes cs) : rN.L G (⟨op, n, l⟩ :: nodes) (.int .i64 op :: .int .i64 n :: sl :: cs) :=
  ⟨[_, _, _], cs, rfl, ⟨sl, rfl, h1, h2, h3⟩, h⟩
def okN (l : List Nd) : Prop := ∀ x ∈ l, isI64 x.op ∧ isI64 x.n ∧ ∀ v ∈ x.l, isI64 v
theorem rI_ok {G : Hp} {l : List Int} {v : Value} (h : rI.S G l v) : ∀ n ∈ l, isI64 n := by
  obtain ⟨_, ad, cap, _, h | ⟨b, off, cs, _, _, hL⟩⟩ := h
  · subst h; simp
  · exact (rI_L.1 hL).2
theorem rNL_ok {G : Hp} : ∀ {l : List Nd} {cs : List Value}, rN.L G l cs → okN l
  | [], _, _ => fun x hx => by simp at hx
  | y :: l, cs, h => by
    obtain ⟨c, d, _, ⟨sl, _, h1, h2, h3⟩, h4⟩ := h
    intro x hx
    rcases List.mem_cons.1 hx with rfl | hx
    · exact ⟨h1, h2, rI_ok h3⟩
    · exact rNL_ok h4 x hx
theorem rN_ok {G : Hp} {l : List Nd} {v : Value} (h : rN.S G l v) : okN l := by
  obtain ⟨_, ad, cap, _, h | ⟨b, off, cs, _, _, hL⟩⟩ := h
  · subst h; exact fun x hx => by simp at hx
  · exact rNL_ok hL
theorem rowsL_len : ∀ {l : List Nd} {ss : List Value}, ss.length = l.length → (rowsL l ss).length = l.length
  | [], [], _ => rfl
  | x :: l, s :: ss, h => by simp [rowsL, rowsL_len (l := l) (ss := ss) (by simpa using h)]
theorem encN_L {G : Hp} : ∀ {l : List Nd} {ss : List Value}, ss.length = l.length → okN l → (∀ (i : Nat) (r : Rw), (rowsL l ss)[i]? = some r → RowAt G r) → (∀ x ∈ l, x.l.length ≤ 1000) → rN.L G l (encNs l ss)
  | [], [], _, _, _, _ => rfl
  | x :: l, s :: ss, h, ho, hr, hb => by
    have h0 := hr 0 _ (by simp [rowsL]; rfl)
    obtain ⟨o1, o2, o3⟩ := ho x (by simp)
    exact rN_cons o1 o2 (RowAt.S h0 rfl (by have := hb x (by simp); omega) (rI_L.2 ⟨rfl, o3⟩)) (encN_L (by simpa using h) (fun y hy => ho y (by simp [hy])) (fun i r e => hr (i + 1) r (by simpa [rowsL] using e)) (fun y hy => hb y (by simp [hy])))
theorem RF_S {G : Hp} {f : Fu} {ns : Value} {ss : List Value} (h : ss.length = f.nodes.length) (ho : okN f.nodes) (hb : ∀ x ∈ f.nodes, x.l.length ≤ 1000) (hn : f.nodes.length ≤ 1000) (hr : ∀ (i : Nat) (r : Rw), (RF f ns ss)[i]? = some r → RowAt G r) : rN.S G f.nodes ns := by
  have h1 := hr f.nodes.length ⟨110, 3, ns, f.nodes.length, encNs f.nodes ss⟩ (by simp [RF, List.getElem?_append_right, rowsL_len h])
  refine RowAt.S h1 rfl (by omega) (encN_L h ho (fun i r e => hr i r ?_) hb)
  have := (List.getElem?_eq_some_iff.1 e).1
  rw [RF, List.getElem?_append_left this]
  exact e
end Go.Proofs.YtpppkednpamhbaaGreat
namespace Go.Sx
set_option linter.unusedSimpArgs false
set_option linter.unusedVariables false
open Go.RowKit

section
variable {C : Ctx} {K : List KI} {s : St}
theorem go_zjoin (k j : Nat) {b b2 : Nat} {rs rs2 : List Rw} {Z Z2 : Nat → Prop} (hk : lk k s.own = some (b, .z (ZR rs) Z Z)) (hj : lk j s.own = some (b2, .z (ZR rs2) Z2 Z2)) (hmk : C.mh ≤ k) (hmj : C.mh ≤ j) (hkj : k ≠ j)
    (h : ∀ Z', SGo C K ⟨s.sl, stk k (b, .z (ZR (rs ++ rs2)) Z' Z') (rmk j s.own), s.G, s.df⟩) : SGo C K s := by
  intro a w hS
  obtain ⟨z1, z2, z3, z4⟩ := (hS.mem.own _ _ _ hk).1
  obtain ⟨y1, y2, y3, y4⟩ := (hS.mem.own _ _ _ hj).1
  have hdis : ∀ g, Z g → Z2 g → False := fun g hg q => hkj (hS.mem.inj _ _ _ _ _ _ g hk hj hg q)
  have hget : ∀ {m r}, (rs ++ rs2)[m]? = some r → (rs[m]? = some r) ∨ (rs.length ≤ m ∧ rs2[m - rs.length]? = some r) := by
    intro m r e
    rcases Nat.lt_or_ge m rs.length with q | q
    · rw [List.getElem?_append_left q] at e; exact .inl e
    · rw [List.getElem?_append_right q] at e; exact .inr ⟨q, e⟩
  refine h (fun g => Z g ∨ Z2 g) a w ⟨hS.sl, hS.nt, hS.df, hS.mem.join hk hj hmk hmj hkj ⟨fun m r e => ?_, fun m m' r1 r2 g e e' q q' => ?_, fun g => ⟨fun hg => ?_, fun hg => ?_⟩, fun g hg => hg⟩ (fun g hg => hg) (fun g hg => hg)⟩
  · rcases hget e with e | ⟨_, e⟩
    · exact z1 m r e
    · exact y1 _ r e
  · rcases hget e with e | ⟨n1, e⟩ <;> rcases hget e' with e' | ⟨n2, e'⟩
    · exact z2 m m' r1 r2 g e e' q q'
    · exact (hdis g ((z3 g).2 ⟨m, r1, e, q⟩) ((y3 g).2 ⟨_, r2, e', q'⟩)).elim
    · exact (hdis g ((z3 g).2 ⟨m', r2, e', q'⟩) ((y3 g).2 ⟨_, r1, e, q⟩)).elim
    · have := y2 _ _ r1 r2 g e e' q q'; omega
  · rcases hg with hg | hg
    · obtain ⟨m, r, e, q⟩ := (z3 g).1 hg
      exact ⟨m, r, by rw [List.getElem?_append_left (List.getElem?_eq_some_iff.1 e).1]; exact e, q⟩
    · obtain ⟨m, r, e, q⟩ := (y3 g).1 hg
      exact ⟨rs.length + m, r, by rw [List.getElem?_append_right (by omega), Nat.add_sub_cancel_left]; exact e, q⟩
  · obtain ⟨m, r, e, q⟩ := hg
    rcases hget e with e | ⟨_, e⟩
    · exact .inl ((z3 g).2 ⟨m, r, e, q⟩)
    · exact .inr ((y3 g).2 ⟨_, r, e, q⟩)
end

theorem retv_grow {w w' : World} {G G' : Hp} {rs : List Rw} {Z X : Nat → Prop} (hw : Has w G) (hg : Grow [] w G w' G') (hz : (ZR rs).A Z Z w') (hZ : ∀ g, Z g → G' g = none ∧ w.heap.size ≤ g) :
    ∃ G2, Grow [] w G w' G2 ∧ Le G' G2 ∧ (∀ g, Z g → X g → G2 g = none) ∧ ∀ (i : Nat) (r : Rw), rs[i]? = some r → (∀ g, r.v.ownBlock = some g → ¬ X g) → RowAt G2 r := by
  classical
  obtain ⟨z1, z2, z3, z4⟩ := hz
  refine ⟨fun g => if Z g ∧ ¬ X g then w'.heap[g]? else G' g, ⟨hg.os, hg.tape, hg.output, hg.size, hg.blk, fun g o e => ?_, fun g hlt => ?_⟩, fun g o e => ?_, fun g hz hx => ?_, fun i r e hr => row_at (z1 i r e) fun g hg' => ?_⟩
  · split at e
    · exact e
    · exact hg.has g o e
  · have : ¬ Z g := fun q => by have := (hZ g q).2; omega
    simp only [this, false_and, if_false]
    exact hg.old g hlt
  · have : ¬ Z g := fun q => by rw [(hZ g q).1] at e; cases e
    simp only [this, false_and, if_false]
    exact e
  · simp only [hx, not_true_eq_false, and_false, if_false]
    exact (hZ g hz).1
  · have h1 : Z g := (z3 g).2 ⟨i, r, e, hg'⟩
    simp only [h1, hr g hg', not_false_eq_true, and_self, if_true]
theorem PureV.pure {P : Program} {f : FuncId} {args : List Value} {G : Hp} {φ : Value → Hp → List Rw → Prop} {ψ : Value → Hp → Prop} (h : PureV P f args G φ)
    (hψ : ∀ v G1 G2 rs, Le G G1 → Le G1 G2 → φ v G1 rs → (∀ (i : Nat) (r : Rw), rs[i]? = some r → RowAt G2 r) → ψ v G2) : Pure P f args G ψ := by
  intro w hw
  refine (h w hw).mono ?_
  rintro e w' ⟨v, G', rs, Z, rfl, hg, hz, hZ, hφ⟩
  obtain ⟨G2, g1, g2, _, g3⟩ := retv_grow (X := fun _ => False) hw hg hz hZ
  exact ⟨v, G2, rfl, g1, hψ v G' G2 rs (fun b o e => hg.keep hw e) g2 hφ fun i r e => g3 i r e (fun _ _ q => q)⟩
theorem PureV.toR {P : Program} {f : FuncId} {args : List Value} {G : Hp} {φ : Value → Hp → List Rw → Prop} {ψ : Value → Hp → Value → TypeId → Nat → Nat → List Value → Prop} (h : PureV P f args G φ)
    (hψ : ∀ v G1 rs, Le G G1 → φ v G1 rs → ∃ (i : Nat) (r : Rw), rs[i]? = some r ∧ ∀ G2, Le G1 G2 → (∀ (j : Nat) (r' : Rw), j ≠ i → rs[j]? = some r' → RowAt G2 r') → ψ v G2 r.v r.e r.size r.n r.xs) : PureR P f args G ψ := by
  intro w hw
  refine (h w hw).mono ?_
  rintro e w' ⟨v, G', rs, Z, rfl, hg, hz, hZ, hφ⟩
  obtain ⟨i, r, hi, hr⟩ := hψ v G' rs (fun b o e => hg.keep hw e) hφ
  obtain ⟨G2, g1, g2, g0, g3⟩ := retv_grow (X := fun g => r.v.ownBlock = some g) hw hg hz hZ
  obtain ⟨z1, z2, z3, z4⟩ := hz
  refine ⟨v, G2, r.v, r.e, r.size, r.n, r.xs, rfl, g1, z1 i r hi, fun g hb => ?_, hr G2 g2 fun j r' hj e => g3 j r' e fun g hb hb' => hj (z2 j i r' r g e hi hb hb')⟩
  have hzg : Z g := (z3 g).2 ⟨i, r, hi, hb⟩
  exact ⟨g0 g hzg hb, (hZ g hzg).2⟩

section
variable {C : Ctx} {K : List KI} {s : St} {sl : List (Nat × SV)} {own : Owns} {G : Hp} {R : Array Oper} {l : List Oper} {d : Option Tmp} {t : TypeId} {pos : String} {aft : Array Edge}
end
end Go.Sx
namespace Go.Proofs.YtpppkednpamhbaaGreat
set_option linter.unusedSimpArgs false
set_option linter.unusedVariables false
open Go.Sx
abbrev Cs := List (Value × List Value)
def okC : Pr → Cs → Prop
  | [], [] => True
  | f :: p, v :: vs => v.2.length = f.nodes.length ∧ okC p vs
  | _, _ => False
def rowsP : Pr → Cs → List Rw
  | f :: p, v :: vs => RF f v.1 v.2 ++ rowsP p vs
  | _, _ => []
def encP : Pr → Cs → List Value
  | f :: p, v :: vs => .int .i64 f.params :: v.1 :: encP p vs
  | _, _ => []
theorem okC_len : ∀ {p : Pr} {vs : Cs}, okC p vs → p.length = vs.length
  | [], [], _ => rfl
  | f :: p, v :: vs, h => by simp [okC_len h.2]
theorem okC_snoc {f : Fu} {v : Value} {ss : List Value} : ∀ (p : Pr) (vs : Cs), okC p vs → ss.length = f.nodes.length → okC (p ++ [f]) (vs ++ [(v, ss)])
  | [], [], _, h => ⟨h, trivial⟩
  | g :: p, w :: vs, h, h' => ⟨h.1, okC_snoc p vs h.2 h'⟩
theorem rowsP_snoc {f : Fu} {v : Value × List Value} : ∀ (p : Pr) (vs : Cs), p.length = vs.length → rowsP (p ++ [f]) (vs ++ [v]) = rowsP p vs ++ RF f v.1 v.2
  | [], [], _ => by simp [rowsP]
  | g :: p, w :: vs, h => by simp [rowsP, rowsP_snoc p vs (by simpa using h)]
theorem encP_snoc {f : Fu} {v : Value × List Value} : ∀ (p : Pr) (vs : Cs), p.length = vs.length → encP (p ++ [f]) (vs ++ [v]) = encP p vs ++ [.int .i64 f.params, v.1]
  | [], [], _ => by simp [encP]
  | g :: p, w :: vs, h => by simp [encP, encP_snoc p vs (by simpa using h)]
def okP (p : Pr) : Prop := ∀ f ∈ p, isI64 f.params ∧ okN f.nodes
theorem rFL_ok {G : Hp} : ∀ {l : Pr} {cs : List Value}, rF.L G l cs → okP l
  | [], _, _ => fun x hx => by simp at hx
  | y :: l, cs, h => by
    obtain ⟨c, d, _, ⟨ns, _, h1, h2⟩, h4⟩ := h
    intro x hx
    rcases List.mem_cons.1 hx with rfl | hx
    · exact ⟨h1, rN_ok h2⟩
    · exact rFL_ok h4 x hx
theorem rF_ok {G : Hp} {l : Pr} {v : Value} (h : rF.S G l v) : okP l := by
  obtain ⟨_, ad, cap, _, h | ⟨b, off, cs, _, _, hL⟩⟩ := h
  · subst h; exact fun x hx => by simp at hx
  · exact rFL_ok hL
def bdP (p : Pr) : Prop := p.length ≤ 1000 ∧ ∀ f ∈ p, f.nodes.length ≤ 300 ∧ ∀ x ∈ f.nodes, x.l.length ≤ 40
theorem rF_cons {G : Hp} {f : Fu} {ns : Value} {p : Pr} {cs : List Value} (h1 : isI64 f.params) (h2 : rN.S G f.nodes ns) (h : rF.L G p cs) : rF.L G (f :: p) (.int .i64 f.params :: ns :: cs) :=
  ⟨[.int .i64 f.params, ns], cs, rfl, ⟨ns, rfl, h1, h2⟩, h⟩
theorem encP_L {G : Hp} : ∀ {p : Pr} {vs : Cs}, okC p vs → okP p → (∀ f ∈ p, f.nodes.length ≤ 300 ∧ ∀ x ∈ f.nodes, x.l.length ≤ 40) → (∀ (i : Nat) (r : Rw), (rowsP p vs)[i]? = some r → RowAt G r) → rF.L G p (encP p vs)
  | [], [], _, _, _, _ => rfl
  | f :: p, v :: vs, h, ho, hb, hr => by
    obtain ⟨o1, o2⟩ := ho f (by simp)
    obtain ⟨b1, b2⟩ := hb f (by simp)
    refine rF_cons o1 (RF_S h.1 o2 (fun x hx => by have := b2 x hx; omega) (by omega) fun i r e => hr i r ?_) (encP_L h.2 (fun g hg => ho g (by simp [hg])) (fun g hg => hb g (by simp [hg])) fun i r e => hr ((RF f v.1 v.2).length + i) r ?_)
    · simp only [rowsP]
      rw [List.getElem?_append_left (List.getElem?_eq_some_iff.1 e).1]; exact e
    · simp only [rowsP]
      rw [List.getElem?_append_right (by omega), Nat.add_sub_cancel_left]; exact e
set_option maxHeartbeats 4000000
theorem copyp_ok (p : Pr) (ps : Value) (G : Hp) (hps : rF.S G p ps) (hb : bdP p) :
    PureV Tryz.prog 32 [.agg #[ps]] G (fun v _ rs => ∃ ad cap vs, okC p vs ∧ v = .agg #[.slice ad p.length cap] ∧ rs = rowsP p vs ++ [⟨64, 2, .slice ad p.length cap, p.length, encP p vs⟩]) := by
  have hps0 := hps
  have hb1 := hb.1
  obtain ⟨adp, capp, rfl⟩ := Rp.S_slice hps
  refine enterV ty tyok Tryz.func32 rfl Tryz.ntmps32 [.a [.v (.slice adp p.length capp)]] (by simp) ?_
  intro C hP hQ hnt hty hmb hmh hro; have hQp := qp_body hQ; refine st_ ?_
  refine rn_ ?_; intros
  rename_i b1 b2 b3
  refine go_nilrow 41 64 2 rfl (by omega) ?_
  refine go_znil 40 rfl (by omega) ?_
  intro Z0
  refine go_keep [1, 2, 3, 7, 8, 9] [0, 1, 2, 40, 41] ?_
  refine st_ ?_
  refine x_loop rfl (fun q s => ∃ (k : Nat) (G' : Hp) (vs : Cs) (ad3 : Option Addr) (cap3 : Nat) (Z : Nat → Prop), k ≤ p.length ∧ q = p.length - k ∧ Le G G' ∧ okC (p.take k) vs ∧
    s = ⟨[(1, .p 0 b1 0), (2, .p 1 b2 0), (3, .p 2 b3 0), (7, .v (.slice adp p.length capp)), (8, .v (.int .i64 p.length)), (9, .v (.int .i64 k))],
      [(0, b1, .c 24 [.v (.slice adp p.length capp)]), (1, b2, .c 24 [.v (.slice none 0 0)]), (2, b3, .c 24 [.v (.slice ad3 k cap3)]),
       (40, 0, .z (ZR (rowsP (p.take k) vs)) Z Z), (41, 0, .row (.slice ad3 k cap3) 64 2 k (encP (p.take k) vs))], G', []⟩) ⟨0, G, [], none, 0, Z0, by omega, rfl, Le.refl _, trivial, by simp [rowsP, encP]⟩ ?_
  rintro q s ⟨k, G1, vs, ad3, cap3, Z, hk, hq, hle1, hvs, rfl⟩ ih
  refine rn_ ?_; intros
  refine x_if rfl rfl rfl rfl (fun hjl => ?_) (fun hjl => ?_)
  · have hlt : k < p.length := by simp at hjl; omega
    have htk : p.take (k + 1) = p.take k ++ [fu p k] := by rw [fu_eq hlt, List.take_append_getElem]
    obtain ⟨hl300, hl40⟩ := hb.2 (fu p k) (by rw [fu_eq hlt]; exact List.getElem_mem _)
    obtain ⟨bp, op, nsp, rfl, hatp, hpp, hnp⟩ := rF_at hps0 hlt
    have hnp1 := Rp.S_mono hle1 hnp
    obtain ⟨adn, capn, rfl⟩ := Rp.S_slice hnp
    refine rn_ ?_; intros
    refine go_q (by rw [hnt]; rfl) (quiet_index (by rw [hty]; rfl) (by rw [hty]; rfl) rfl rfl rfl (by omega) (by omega)) ?_
    refine rn_ ?_; intros
    refine go_q (by rw [hnt]; rfl) (quiet_load (by rw [hty]; rfl) rfl (by simp [TK.agg]) (hatp.mono hle1) rfl) ?_
    refine rn_ ?_; intros
    rename_i b5
    refine x_held [(42, b5, .c 64 [.v (.int .i64 (fu p k).params), .v (.slice adn (fu p k).nodes.length capn)])] rfl (by rw [hP]; kernel_rfl) rfl rfl rfl ?_; refine st_ ?_
    refine tq_ 0 rfl (quiet_op (by rw [hty]; first | rfl | (refine st_ ?_; rfl))) ?_; refine st_ ?_
    refine tq_ 2 rfl (quiet_op (by rw [hty]; first | rfl | (refine st_ ?_; rfl))) ?_; refine st_ ?_
    refine h_two 1 3 rfl rfl (by kernel_rfl) ?_ ?_
    · refine rn_ ?_; intros
      refine hs_ ?_
      refine h_one 3 rfl (by kernel_rfl) ?_
      refine go_callV 50 (by rw [hnt]; rfl) (by rw [hP]; kernel_rfl) rfl rfl (by omega) (hP ▸ fcopy_ok (fu p k) _ G1 hnp1 hl300 hl40) ?_
      rintro v G2 rs Z5 (hle2 : Le G1 G2) ⟨adc, capc, ssc, hssc, rfl, rfl⟩
      refine rn_ ?_; intros
      refine hs_ ?_
      refine h_one 4 rfl (by kernel_rfl) ?_
      refine rn_ ?_; intros
      refine hs_ ?_
      refine h_one 5 rfl (by kernel_rfl) ?_
      refine go_append 41 (by rw [hnt]; rfl) (by rw [hty]; rfl) (by rw [hty]; rfl) (by decide) rfl rfl rfl (by omega) rfl (src_own 2 rfl rfl) rfl (by simp [dens, SV.den, Value.oneCell']) (by omega) (by simp only []; omega) ?_
      intro v'
      refine go_rowS 41 rfl ?_
      rintro ad4 cap4 rfl
      refine rn_ ?_; intros
      refine hs_ ?_
      refine tq_ 6 rfl (quiet_op (by rw [hty]; first | rfl | (refine st_ ?_; rfl))) ?_; refine st_ ?_
      refine h_one 7 rfl (by kernel_rfl) ?_
      refine rn_ ?_; intros
      refine hs_ ?_
      refine h_end (by kernel_rfl) ?_
      refine rn_ ?_; intros
      rw [wr (n := (k : Int) + 1) (by omega) (by omega)]
      refine go_zjoin 40 50 rfl rfl (by omega) (by omega) (by omega) ?_
      intro Z2
      refine go_keep [1, 2, 3, 7, 8, 9] [0, 1, 2, 40, 41] ?_
      refine st_ ?_
      refine ih (p.length - (k + 1)) _ (by omega) ⟨k + 1, G2, vs ++ [(.slice adc (fu p k).nodes.length capc, ssc)], ad4, cap4, Z2, by omega, rfl, hle1.trans hle2, ?_, ?_⟩
      · rw [htk]; exact okC_snoc _ _ hvs hssc
      · rw [htk, rowsP_snoc _ _ (okC_len hvs), encP_snoc _ _ (okC_len hvs)]
        simp [dens, SV.den]
    · refine go_callV 50 (by rw [hnt]; rfl) (by rw [hP]; kernel_rfl) rfl rfl (by omega) (hP ▸ fcopy_ok (fu p k) _ G1 hnp1 hl300 hl40) ?_
      rintro v G2 rs Z5 (hle2 : Le G1 G2) ⟨adc, capc, ssc, hssc, rfl, rfl⟩
      refine rn_ ?_; intros
      refine hs_ ?_
      refine h_two 1 4 rfl rfl (by kernel_rfl) ?_ ?_
      · refine rn_ ?_; intros
        refine hs_ ?_
        refine h_one 4 rfl (by kernel_rfl) ?_
        refine rn_ ?_; intros
        refine hs_ ?_
        refine h_one 5 rfl (by kernel_rfl) ?_
        refine go_append 41 (by rw [hnt]; rfl) (by rw [hty]; rfl) (by rw [hty]; rfl) (by decide) rfl rfl rfl (by omega) rfl (src_own 2 rfl rfl) rfl (by simp [dens, SV.den, Value.oneCell']) (by omega) (by simp only []; omega) ?_
        intro v'
        refine go_rowS 41 rfl ?_
        rintro ad4 cap4 rfl
        refine rn_ ?_; intros
        refine hs_ ?_
        refine tq_ 6 rfl (quiet_op (by rw [hty]; first | rfl | (refine st_ ?_; rfl))) ?_; refine st_ ?_
        refine h_one 7 rfl (by kernel_rfl) ?_
        refine rn_ ?_; intros
        refine hs_ ?_
        refine h_end (by kernel_rfl) ?_
        refine rn_ ?_; intros
        rw [wr (n := (k : Int) + 1) (by omega) (by omega)]
        refine go_zjoin 40 50 rfl rfl (by omega) (by omega) (by omega) ?_
        intro Z2
        refine go_keep [1, 2, 3, 7, 8, 9] [0, 1, 2, 40, 41] ?_
        refine st_ ?_
        refine ih (p.length - (k + 1)) _ (by omega) ⟨k + 1, G2, vs ++ [(.slice adc (fu p k).nodes.length capc, ssc)], ad4, cap4, Z2, by omega, rfl, hle1.trans hle2, ?_, ?_⟩
        · rw [htk]; exact okC_snoc _ _ hvs hssc
        · rw [htk, rowsP_snoc _ _ (okC_len hvs), encP_snoc _ _ (okC_len hvs)]
          simp [dens, SV.den]
      · refine rn_ ?_; intros
        refine hs_ ?_
        refine h_one 1 rfl (by kernel_rfl) ?_
        refine rn_ ?_; intros
        refine hs_ ?_
        refine h_one 5 rfl (by kernel_rfl) ?_
        refine go_append 41 (by rw [hnt]; rfl) (by rw [hty]; rfl) (by rw [hty]; rfl) (by decide) rfl rfl rfl (by omega) rfl (src_own 2 rfl rfl) rfl (by simp [dens, SV.den, Value.oneCell']) (by omega) (by simp only []; omega) ?_
        intro v'
        refine go_rowS 41 rfl ?_
        rintro ad4 cap4 rfl
        refine rn_ ?_; intros
        refine hs_ ?_
        refine tq_ 6 rfl (quiet_op (by rw [hty]; first | rfl | (refine st_ ?_; rfl))) ?_; refine st_ ?_
        refine h_one 7 rfl (by kernel_rfl) ?_
        refine rn_ ?_; intros
        refine hs_ ?_
        refine h_end (by kernel_rfl) ?_
        refine rn_ ?_; intros
        rw [wr (n := (k : Int) + 1) (by omega) (by omega)]
        refine go_zjoin 40 50 rfl rfl (by omega) (by omega) (by omega) ?_
        intro Z2
        refine go_keep [1, 2, 3, 7, 8, 9] [0, 1, 2, 40, 41] ?_
        refine st_ ?_
        refine ih (p.length - (k + 1)) _ (by omega) ⟨k + 1, G2, vs ++ [(.slice adc (fu p k).nodes.length capc, ssc)], ad4, cap4, Z2, by omega, rfl, hle1.trans hle2, ?_, ?_⟩
        · rw [htk]; exact okC_snoc _ _ hvs hssc
        · rw [htk, rowsP_snoc _ _ (okC_len hvs), encP_snoc _ _ (okC_len hvs)]
          simp [dens, SV.den]
  · have hge : k = p.length := by simp at hjl; omega
    subst hge
    clear ih
    rw [List.take_length]
    refine go_zadd 40 41 rfl rfl (by omega) (by omega) (by omega) ?_
    intro Z2
    refine st_ ?_
    refine rn_ ?_; intros
    refine x_retV 40 rfl hQ hmb hmh rfl (by rw [hty]; simp only [so, sq, zy, zz, tyE, SO', SQ', opQ, opStore, opAlloc, ev, putS, dOk, cv, SV.cs, SV.one, SV.bool?, eqB, Value.oneCell', ldOwn, binInt, binConst, binBool, binStr, isC, TK.agg, rv, rv1, ldV, resOne, resV, Nat.reduceAdd, Nat.reduceMul, Nat.reduceSub, Nat.reduceLT, Nat.reduceLeDiff, Nat.reduceEqDiff, Nat.reduceBEq, reduceIte, reduceCtorEq, eq_self]; try rfl) rfl rfl ?_
    exact ⟨ad3, cap3, vs, by simpa using hvs, by simp [resV, SV.den, dens], rfl⟩
end Go.Proofs.YtpppkednpamhbaaGreat
namespace Go.Sx
set_option linter.unusedSimpArgs false
set_option linter.unusedVariables false
open Go.RowKit
section
variable {C : Ctx} {K : List KI} {s : St} {R : Array Oper} {t : TypeId} {pos : String} {aft : Array Edge} {own0 : Owns} {G0 : Hp}
end
end Go.Sx
namespace Go.Sx
set_option linter.unusedSimpArgs false
set_option linter.unusedVariables false
open Go.RowKit
section
variable {P : Program} {ro : Option Nat} {Q : Exit → Act → World → Prop}
def rmAll : List Nat → Owns → Owns
  | [], own => own
  | k :: ks, own => rmAll ks (rmk k own)
theorem lk_rmAll : ∀ (ks : List Nat) (own : Owns) (k : Nat), lk k (rmAll ks own) = if k ∈ ks then none else lk k own
  | [], own, k => by simp [rmAll]
  | j :: ks, own, k => by
    rw [rmAll, lk_rmAll ks, lk_rmk]
    by_cases h : k ∈ ks <;> by_cases h' : k = j <;> simp [h, h']
variable {C : Ctx} {K : List KI} {s : St} {R : Array Oper} {l : List Oper} {d : Option Tmp} {t : TypeId} {pos : String} {aft : Array Edge}
theorem Mem.panicked {own : Owns} {G : Hp} {w w' : World} (h : Mem C own G w) {ks : List Nat} {ow : Lds} (hk : lkAll own ks = some ow) (hn : noDup ks = true) (hf : Fr w w') (hs : ∀ g, g < w.heap.size → ¬ mutOf ow g → w'.heap[g]? = w.heap[g]?) : Mem C (rmAll ks own) G w' := by
  obtain ⟨hl, hget⟩ := lkAll_get hk
  have hmut : ∀ g, mutOf ow g → ∃ k b o, k ∈ ks ∧ lk k own = some (b, o) ∧ o.mut b g := by
    rintro g ⟨i, b, o, hi, hm⟩
    have hlt : i < ks.length := by rw [← hl]; exact (List.getElem?_eq_some_iff.1 hi).1
    obtain ⟨x, hx, hxk⟩ := hget i ks[i] (List.getElem?_eq_getElem hlt)
    rw [hi] at hx; cases hx
    exact ⟨ks[i], b, o, List.getElem_mem hlt, hxk, hm⟩
  refine ⟨fun k b o e => ?_, fun k k' b b' o o' g e e' f f' => ?_, ?_⟩
  · rw [lk_rmAll] at e
    split at e
    · cases e
    · rename_i hkk
      obtain ⟨f1, f2⟩ := h.own _ _ _ e
      refine ⟨OO.holds_same f1 hf fun g hg => hs g (h.lt e hg) fun hm => ?_, f2⟩
      obtain ⟨j, b', o', hj, hjk, hjm⟩ := hmut g hm
      have := h.inj _ _ _ _ _ _ g e hjk hg (OO.mut_blks (h.own _ _ _ hjk).1 hjm)
      subst this; exact hkk hj
  · rw [lk_rmAll] at e e'
    split at e
    · cases e
    · split at e'
      · cases e'
      · exact h.inj _ _ _ _ _ _ _ e e' f f'
  · have hg := h.grow
    have hno : ∀ g, mutOf ow g → G g = none ∧ (C.w0.heap.size ≤ g ∨ g ∈ C.mb) := by
      intro g hm
      obtain ⟨j, b', o', hj, hjk, hjm⟩ := hmut g hm
      obtain ⟨q1, q2, q3⟩ := (h.own _ _ _ hjk).2 g hjm
      refine ⟨q1, ?_⟩
      rcases Nat.lt_or_ge j C.mh with r | r
      · exact (q3 r).symm
      · exact .inl (q2 r)
    refine ⟨hf.os.trans hg.os, hf.tape.trans hg.tape, hf.output.trans hg.output, Nat.le_trans hg.size hf.size, fun j hj hm => ?_, fun j x e => ?_, hg.old⟩
    · rw [hs j (by have := hg.size; omega) fun q => ?_]
      · exact hg.blk j hj hm
      · rcases (hno j q).2 with r | r
        · omega
        · exact hm r
    · have hlt := lt_of_heap (hg.has j x e)
      rw [hs j hlt fun q => by rw [(hno j q).1] at e; cases e]
      exact hg.has j x e
theorem Lent.of {own : Owns} {G : Hp} {w : World} (h : Mem C own G w) {ks : List Nat} {ow : Lds} (hk : lkAll own ks = some ow) (hn : noDup ks = true) : Lent ow G w := by
  obtain ⟨hl, hget⟩ := lkAll_get hk
  have hat : ∀ (i b : Nat) (o : OO), ow[i]? = some (b, o) → ∃ k, ks[i]? = some k ∧ lk k own = some (b, o) := by
    intro i b o hi
    have hlt : i < ks.length := by rw [← hl]; exact (List.getElem?_eq_some_iff.1 hi).1
    obtain ⟨x, hx, hxk⟩ := hget i ks[i] (List.getElem?_eq_getElem hlt)
    rw [hi] at hx; cases hx
    exact ⟨ks[i], List.getElem?_eq_getElem hlt, hxk⟩
  have hnd : ∀ (ks : List Nat), noDup ks = true → ∀ (i j k : Nat), ks[i]? = some k → ks[j]? = some k → i = j := by
    intro ks
    induction ks with
    | nil => intro _ i j k h; simp at h
    | cons x ks ih =>
      intro h i j k hi hj
      simp only [noDup, Bool.and_eq_true, Bool.not_eq_true', List.contains_eq_mem, decide_eq_false_iff_not] at h
      cases i <;> cases j
      · rfl
      · simp at hi hj; subst hi; exact absurd (List.mem_of_getElem? hj) h.1
      · simp at hi hj; subst hj; exact absurd (List.mem_of_getElem? hi) h.1
      · simp at hi hj; rw [ih h.2 _ _ k hi hj]
  refine ⟨fun i b o hi => ?_, fun i j b b' o o' g hi hj f f' => ?_⟩
  · obtain ⟨k, _, hk2⟩ := hat i b o hi
    obtain ⟨f1, f2⟩ := h.own _ _ _ hk2
    refine ⟨?_, fun g hg => (f2 g hg).1⟩
    cases o <;> exact f1
  · obtain ⟨k, hk1, hk2⟩ := hat i b o hi
    obtain ⟨k', hk1', hk2'⟩ := hat j b' o' hj
    have e := h.inj _ _ _ _ _ _ g hk2 hk2' f f'
    subst e
    exact hnd ks hn i j k hk1 hk1'
end
end Go.Sx
namespace Go.Sx
set_option linter.unusedSimpArgs false
set_option linter.unusedVariables false
open Go.RowKit
section
variable {C : Ctx} {K : List KI} {s : St} {R : Array Oper} {l : List Oper} {d : Option Tmp} {t : TypeId} {pos : String} {aft : Array Edge} {sl : List (Nat × SV)} {own : Owns} {G : Hp}
end
end Go.Sx
namespace Go.Sx
set_option linter.unusedSimpArgs false
set_option linter.unusedVariables false
open Go.RowKit
section
variable {C : Ctx} {K : List KI} {s : St} {R : Array Oper} {l : List Oper} {d : Option Tmp} {t : TypeId} {pos : String} {aft : Array Edge} {α : Type}
theorem run_append_zero {P : Program} {w : World} {T t e : TypeId} {te : TI} (g1 : P.underlying T = some (.slice e)) (he : te.ok P e) (ad ad' : Option Addr) (n c : Nat) :
    (Builtin.append_ #[T, T] t #[.slice ad n n, .slice ad' 0 c]).run P w = .ok (.slice ad n n) w := by
  have h0 : (Builtin.firstCells te.size 0 (.slice ad' 0 c)).run P w = .ok #[] w := by
    cases ad' with
    | none => simp [Builtin.firstCells]
    | some a => exact run_firstCells_some (P := P) w te.size 0 a 0 c [] (by simp) (by simp)
  cases ad with
  | none => simp [Builtin.append_, run_und w g1, run_size w he, Builtin.lenOf, h0]
  | some a => simp [Builtin.append_, run_und w g1, run_size w he, Builtin.lenOf, h0, storeCells]
theorem go_appendS (r : Rp α) {x y : Operand} {T e : TypeId} {te : TI} {sz by' : Nat} {ze : List Value} {fl : List (Nat × Nat × Bool)} {ad : Option Addr} {n m : Nat} {l1 l2 : List α} {news : List Value} {z vx : SV}
    (hd : dOk C.nt d = true) (hT : C.ty T = some ⟨.slice e, sz, by', ze, fl⟩) (he : C.ty e = some te) (hsz : 0 < te.size) (hrs : r.size = te.size) (hx : ev s.sl x = some vx) (hvx : vx.den = .slice ad n n) (hn : n = l1.length) (hS1 : r.S s.G l1 (.slice ad n n))
    (hy : ev s.sl y = some z) (hsrc : (∃ c, z.den = .slice none 0 c ∧ m = 0 ∧ news = []) ∨ Src C s z m news) (hm : m = l2.length) (hL2 : r.L s.G l2 news) (h63 : n + m ≤ 9223372036854775807) (hbytes : (n + m) * te.bytes ≤ 140737488355328)
    (h : ∀ G' ad' cap, Le s.G G' → n + m ≤ cap → r.S G' (l1 ++ l2) (.slice ad' (l1 ++ l2).length cap) → SGo C (.ops R l :: K) ⟨putS d (.v (.slice ad' (l1 ++ l2).length cap)) s.sl, s.own, G', s.df⟩) :
    SGo C (.ops R (⟨d, .call ⟨.builtin .append, #[x, y], #[T, T]⟩, t, pos, aft, none⟩ :: l) :: K) s := by
  subst hn hm
  have hll : (l1 ++ l2).length = l1.length + l2.length := List.length_append
  have g1 : C.P.underlying T = some (.slice e) := by have := (C.tyok _ _ hT).k; simpa only [TK.fits] using this
  -- nothing is appended
  have hzero : ∀ (c : Nat) (ad2 : Option Addr), z.den = .slice ad2 0 c → l2 = [] → SGo C (.ops R (⟨d, .call ⟨.builtin .append, #[x, y], #[T, T]⟩, t, pos, aft, none⟩ :: l) :: K) s := by
    intro c ad2 hz h2 a w hS
    subst h2
    have hxv := ev_ok hS.sl hx
    have hyv := ev_ok hS.sl hy
    rw [hvx] at hxv
    rw [hz] at hyv
    have hrun : (execOp a.eval ⟨d, .call ⟨.builtin .append, #[x, y], #[T, T]⟩, t, pos, aft, none⟩).run C.P w = .ok (.value (.slice ad l1.length l1.length)) w := by
      simp only [execOp, resolve, invoke, builtin, Sem.run_bind, Sem.run_pure, Result.andThen_ok, List.map_toArray, List.map_cons, List.map_nil, hxv, hyv, run_append_zero g1 (C.tyok _ _ he)]
    refine K_value rfl hrun ?_
    have := h s.G ad l1.length (Le.refl _) (by simp) (by simpa using hS1) _ _ (hS.put hd (.v (.slice ad (l1 ++ []).length l1.length)) hS.mem)
    simpa only [SV.den, List.append_nil] using this
  rcases hsrc with ⟨c, hz, h0, rfl⟩ | hsrc
  · exact hzero c none hz (List.length_eq_zero_iff.1 h0)
  by_cases h2 : l2 = []
  · intro a w hS
    obtain ⟨a2, c2, hz, _⟩ := hsrc w hS.mem
    subst h2
    exact hzero c2 (some a2) hz rfl a w hS
  have hpos : 0 < l2.length := List.length_pos_iff.2 h2
  have hnl : news.length = l2.length * te.size := by rw [← hrs]; exact Rp.L_len hL2
  have hn1 := Rp.L_one hL2
  obtain ⟨kk, hkk⟩ : ∃ kk, kk = fk C.mh s.own := ⟨_, rfl⟩
  have hkn : lk kk s.own = none := by rw [hkk]; exact lk_fk _ _ _ (Nat.le_refl _)
  have hkm : C.mh ≤ kk := by rw [hkk]; exact fk_ge _ _
  have hfin : ∀ (olds : List Value) (v' : Value), r.L s.G l1 olds → SGo C (.ops R l :: K) ⟨putS d (.v v') s.sl, stk kk (0, .row v' e te.size (l1.length + l2.length) (olds ++ news)) s.own, s.G, s.df⟩ := by
    intro olds v' hL1
    refine go_rowcases kk ((lk_stk kk kk _ _).trans (if_pos rfl)) (fun _ hn0 _ => absurd hn0 (by omega)) (fun g cap hv hc hl => ?_)
    subst hv
    rw [← hrs]
    refine go_pubrow kk ((lk_stk kk kk _ _).trans (if_pos rfl)) hkm ?_
    intro G' hle hat
    have := h G' (some ⟨g, 0, none⟩) cap hle hc ⟨by rw [hll]; exact h63, _, _, rfl, .inr ⟨g, 0, olds ++ news, rfl, hat, Rp.L_mono hle (Rp.L_append hL1 hL2)⟩⟩
    rw [hll] at this
    refine SGo.weaken (s' := ⟨putS d (.v (.slice (some ⟨g, 0, none⟩) (l1.length + l2.length) cap)) s.sl, s.own, G', s.df⟩) rfl rfl (fun _ _ e => .inl e) (fun i q e => ?_) this
    simp only [lk_rmk, lk_stk] at e ⊢
    by_cases hi : i = kk
    · rw [hi, hkn] at e; cases e
    · simp only [hi, if_false]; exact e
  obtain ⟨i, z0, hi, hs0, hb0, hz0, hc0⟩ := (C.tyok _ _ he).info
  have hzs : z0.cells.size = te.size := by rw [hc0]; simpa using (C.tyok _ _ he).len
  -- the rest is a new row
  have hrow : ∀ (b : Addr) (olds : List Value), ad = some b → olds.length = l1.length * te.size → r.L s.G l1 olds → (∀ w, Mem C s.own s.G w → ∀ j u, olds[j]? = some u → w.cell? (b.add j) = some u) → SGo C (.ops R (⟨d, .call ⟨.builtin .append, #[x, y], #[T, T]⟩, t, pos, aft, none⟩ :: l) :: K) s := by
    intro b olds hb hlo hL1 hcell a w hS
    have hxv := ev_ok hS.sl hx
    have hyv := ev_ok hS.sl hy
    rw [hvx, hb] at hxv
    obtain ⟨a2, c2, hz, hcell2⟩ := hsrc w hS.mem
    rw [hz] at hyv
    obtain ⟨v', w', hr, k1, k2⟩ := run_append_arg_grows (P := C.P) w T t e i z0 te.size te.bytes g1 hi hz0 hs0 hb0 hzs hsz b l1.length l1.length olds hlo (hcell w hS.mem) a2 l2.length c2 news hnl hcell2 (by omega) (by simp only [maxLen]; omega) hbytes
    have hrun : (execOp a.eval ⟨d, .call ⟨.builtin .append, #[x, y], #[T, T]⟩, t, pos, aft, none⟩).run C.P w = .ok (.value v') w' := by
      simp only [execOp, resolve, invoke, builtin, Sem.run_bind, Sem.run_pure, Result.andThen_ok, List.map_toArray, List.map_cons, List.map_nil, hxv, hyv, hr]
    have hm' : Mem C (stk kk (0, .row v' e te.size (l1.length + l2.length) (olds ++ news)) s.own) s.G w' :=
      hS.mem.new hkn hkm k2.os k2.tape k2.output k2.size (fun j hj => k2.block j hj (by simp))
        ⟨k1.1, k1.2.imp id fun ⟨g, cap, cur, q1, _, q3⟩ => ⟨g, cap, cur, q1, Nat.zero_le _, q3⟩⟩ (fun g hg => (k1.lt g hg).1)
    refine K_value rfl hrun ?_
    have := hfin olds v' hL1 _ _ (hS.put hd (.v v') hm')
    simpa only [SV.den] using this
  obtain ⟨_, ad0, cap0, heq, hcase⟩ := hS1
  cases heq
  rcases hcase with h1 | ⟨b, off, cs, rfl, hat, hL1⟩
  · subst h1
    cases had : ad with
    | some b => exact hrow b [] had (by simp) (by simp [Rp.L]) (by simp)
    | none =>
      subst had
      refine go_nilrow kk e te.size hkn hkm ?_
      refine go_append kk (v := .slice none 0 0) hd hT he hsz hx (by simpa using hvx) ((lk_stk kk kk _ _).trans (if_pos rfl)) hkm hy (m := l2.length) (news := news) ?_ hnl hn1 (by simpa using h63) (by simpa using hbytes) ?_
      · intro w hm
        have ho : ∀ j q, lk j s.own = some q → lk j (stk kk (0, OO.row (.slice none 0 0) e te.size 0 []) s.own) = some q := by
          intro j q e
          rw [lk_stk]
          by_cases hi : j = kk
          · rw [hi, hkn] at e; cases e
          · rw [if_neg hi]; exact e
        exact hsrc w ⟨fun h b o e => hm.own h b o (ho _ _ e), fun h h' b b' o o' g e e' => hm.inj h h' b b' o o' g (ho _ _ e) (ho _ _ e'), hm.grow⟩
      intro v'
      have := hfin [] v' (by simp [Rp.L])
      simp only [List.length_nil] at this
      refine SGo.weaken (s' := ⟨putS d (.v v') s.sl, stk kk (0, .row v' e te.size (0 + l2.length) ([] ++ news)) s.own, s.G, s.df⟩) rfl rfl (fun _ _ e => .inl e) (fun i q e => ?_) this
      simp only [lk_stk] at e ⊢
      split at e
      · rename_i e'; subst e'; simpa using e
      · rename_i e'; simp only [e', if_false]; exact e
  · refine hrow _ cs rfl (by rw [← hrs]; exact Rp.L_len hL1) hL1 ?_
    intro w hm j u hj
    obtain ⟨arr, e0, fz, hGb, hle, hget⟩ := hat
    have hwb := hm.has _ _ hGb
    rw [add_none, cell_at hwb]
    rw [hget j (List.getElem?_eq_some_iff.1 hj).1]; exact hj
end
end Go.Sx
namespace Go.Sx
set_option linter.unusedSimpArgs false
set_option linter.unusedVariables false
open Go.RowKit
section
variable {C : Ctx} {K : List KI} {s : St} {R : Array Oper} {l : List Oper} {d : Option Tmp} {t : TypeId} {pos : String} {aft : Array Edge} {v : Value} {α : Type}
theorem go_rowC (k : Nat) {b n size : Nat} {e : TypeId} {v : Value} {xs : List Value} (hk : lk k s.own = some (b, .row v e size n xs)) (h : ∀ ad cap, v = .slice ad n cap → n ≤ cap → SGo C K s) : SGo C K s :=
  go_rowcases k hk (fun hv hn0 _ => h none 0 (by rw [hv, hn0]) (by omega)) (fun g cap hv hc _ => h _ cap hv hc)
end
end Go.Sx
namespace Go.Sx
set_option linter.unusedSimpArgs false
set_option linter.unusedVariables false
open Go.RowKit
section
variable {C : Ctx} {K : List KI} {s : St} {R : Array Oper} {l : List Oper} {d : Option Tmp} {t : TypeId} {pos : String} {aft : Array Edge} {v : Value}
end
end Go.Sx
namespace Go.Sx
set_option linter.unusedSimpArgs false
set_option linter.unusedVariables false
open Go.RowKit
section
variable {C : Ctx} {sl : List (Nat × SV)} {own : Owns} {G : Hp}
theorem x_endW {s : St} {fn : Func} {ow : Lds} {φ : Value → Hp → Lds → Prop} (hQ : C.Q = bodyPost C.P fn (RetW C.w0 G ow φ)) (hmb : ∀ g, g ∈ C.mb → mutOf ow g) {mh : Nat} (hmh : C.mh = mh) (hG : C.G0 = G) (hmub : ∀ g, mutOf ow g → blkOf ow g) (hml : ow.length = mh)
    (hrs : fn.results.toList = []) (hdf : s.df = []) {ow' : Lds} (hp : pickO s.own 0 mh = some ow')
    (hpl : Plain (enumO 0 ow')) (h : ∀ v, φ v s.G ow') : SGo C [] s := by
  intro a w hS
  show C.Q .normal a w
  rw [hQ]
  have hg := hS.mem.grow
  obtain ⟨p1, p2⟩ := pickO_get hp
  have p3 : ∀ {i b o}, ow'[i]? = some (b, o) → lk i s.own = some (b, o) := fun {i b o} e => by simpa using p2 i _ e
  have p4 : ∀ {i b o}, ow'[i]? = some (b, o) → i < mh := fun {i b o} e => by
    rcases Nat.lt_or_ge i ow'.length with q | q
    · omega
    · rw [List.getElem?_eq_none q] at e; cases e
  have p5 : ∀ g, blkOf ow' g → mutOf ow' g := fun g ⟨i, b, o, e, hb⟩ => ⟨i, b, o, e, hpl i b o (by rw [lk_enumO]; simpa using e) g hb⟩
  have p6 : ∀ g, mutOf ow' g → mutOf ow g ∨ C.w0.heap.size ≤ g := fun g ⟨i, b, o, e, hb⟩ => by
    obtain ⟨_, q⟩ := hS.mem.own _ _ _ (p3 e)
    rcases (q g hb).2.2 (by rw [hmh]; exact p4 e) with q | q
    · exact .inl (hmb g q)
    · exact .inr q
  have hres : (results fn a.tmps).run C.P w = .ok (.tuple #[]) w := by
    have : fn.results = #[] := by simpa using hrs
    simp [results, this]
  refine ⟨by rw [hS.df, hdf], _, hres, _, _, ow', rfl, hg.fr, fun g hg1 hg2 => ?_, hg.has, fun b hb => by rw [hg.old b hb, hG], ⟨fun i b o e => ?_, fun i j b b' o o' g e e' f f' => ?_⟩, by omega, fun g q => ?_, p6, h _⟩
  · exact hg.blk g hg1 fun q => hg2 (hmb g q)
  · obtain ⟨q1, q2⟩ := hS.mem.own _ _ _ (p3 e)
    exact ⟨q1, fun g q => (q2 g q).1⟩
  · exact hS.mem.inj _ _ _ _ _ _ g (p3 e) (p3 e') f f'
  · exact (p6 g (p5 g q)).imp (hmub g) id
theorem quiet_slice3 {T e : TypeId} {x hi mx : Operand} {te : TI} {sz by' : Nat} {ze : List Value} {fl : List (Nat × Nat × Bool)} {ad : Option Addr} {len cap : Nat} {k k' : IntKind} {m : Int} {y : SV}
    (hT : C.ty T = some ⟨.slice e, sz, by', ze, fl⟩) (he : C.ty e = some te) (hx : ev sl x = some y) (hy : y.den = .slice ad len cap) (hi1 : ev sl hi = some (.v (.int k m))) (hi2 : ev sl mx = some (.v (.int k' m))) (h0 : 0 ≤ m) (h2 : m ≤ (cap : Int)) :
    Quiet C sl own G (.slice T x none (some hi) (some mx)) (sliced ad m.toNat 0 m.toNat te.size) := by
  intro a w d t pos aft g hs hh
  have hxv := ev_ok hs hx
  have hiv1 := ev_ok hs hi1
  have hiv2 := ev_ok hs hi2
  rw [hy] at hxv
  simp only [SV.den] at hiv1 hiv2
  have g1 := (C.tyok _ _ hT).k
  simp only [TK.fits] at g1
  simp only [execOp, hxv, hiv1, hiv2, Option.map_some, Option.map_none, Instr.sliceAt, Instr.slice, Instr.sliceBounds, Sem.run_bind, run_und w g1, Result.andThen_ok, Sem.run_pure, sliceBound_ok (y := cap) h0 h2, sliceBound_ok (y := m.toNat) h0 (show m ≤ (m.toNat : Int) by omega), run_size w (C.tyok _ _ he), sliced]
def QPd (C : Ctx) (d : Option Tmp) : Prop := ∀ c (a : Act) w v, C.Q (.panic c) (a.put d v) w → C.Q (.panic c) a w
end
end Go.Sx
namespace Go.Sx
set_option linter.unusedSimpArgs false
set_option linter.unusedVariables false
open Go.RowKit
section
variable {C : Ctx} {sl : List (Nat × SV)} {own : List (Nat × Nat × OO)} {G : Hp}
end
section
variable {G : Hp}
end
section
variable {C : Ctx} {K : List KI} {s : St} {R : Array Oper} {l : List Oper} {d : Option Tmp} {t : TypeId} {pos : String} {aft : Array Edge}
theorem retw0 {fn : Func} {G : Hp} {ow : Lds} {φ : Value → Hp → Lds → Prop} (hmb : ∀ g, g ∈ C.mb → mutOf ow g) {mh : Nat} (hmh : C.mh = mh) (hG : C.G0 = G) (hmub : ∀ g, mutOf ow g → blkOf ow g) (hml : ow.length = mh)
    (hrs : fn.results.toList = []) {ow' : Lds} (hp : pickO s.own 0 mh = some ow') (hpl : Plain (enumO 0 ow')) (h : ∀ v, φ v s.G ow') {a : Act} {w : World} (hS : Sat C s a w) :
    ∃ v, (results fn a.tmps).run C.P w = .ok v w ∧ RetW C.w0 G ow φ (.returned v) w := by
  have hg := hS.mem.grow
  obtain ⟨p1, p2⟩ := pickO_get hp
  have p3 : ∀ {i b o}, ow'[i]? = some (b, o) → lk i s.own = some (b, o) := fun {i b o} e => by simpa using p2 i _ e
  have p4 : ∀ {i b o}, ow'[i]? = some (b, o) → i < mh := fun {i b o} e => by
    rcases Nat.lt_or_ge i ow'.length with q | q
    · omega
    · rw [List.getElem?_eq_none q] at e; cases e
  have p5 : ∀ g, blkOf ow' g → mutOf ow' g := fun g ⟨i, b, o, e, hb⟩ => ⟨i, b, o, e, hpl i b o (by rw [lk_enumO]; simpa using e) g hb⟩
  have p6 : ∀ g, mutOf ow' g → mutOf ow g ∨ C.w0.heap.size ≤ g := fun g ⟨i, b, o, e, hb⟩ => by
    obtain ⟨_, q⟩ := hS.mem.own _ _ _ (p3 e)
    rcases (q g hb).2.2 (by rw [hmh]; exact p4 e) with q | q
    · exact .inl (hmb g q)
    · exact .inr q
  have hres : (results fn a.tmps).run C.P w = .ok (.tuple #[]) w := by
    have : fn.results = #[] := by simpa using hrs
    simp [results, this]
  refine ⟨_, hres, _, _, ow', rfl, hg.fr, fun g hg1 hg2 => ?_, hg.has, fun b hb => by rw [hg.old b hb, hG], ⟨fun i b o e => ?_, fun i j b b' o o' g e e' f f' => ?_⟩, by omega, fun g q => ?_, p6, h _⟩
  · exact hg.blk g hg1 fun q => hg2 (hmb g q)
  · obtain ⟨q1, q2⟩ := hS.mem.own _ _ _ (p3 e)
    exact ⟨q1, fun g q => (q2 g q).1⟩
  · exact hS.mem.inj _ _ _ _ _ _ g (p3 e) (p3 e') f f'
  · exact (p6 g (p5 g q)).imp (hmub g) id
theorem x_ret0 {kc : Code} (ht : tag kc = 7) {fn : Func} {G : Hp} {ow : Lds} {φ : Value → Hp → Lds → Prop} (hQ : C.Q = bodyPost C.P fn (RetW C.w0 G ow φ)) (hmb : ∀ g, g ∈ C.mb → mutOf ow g) {mh : Nat} (hmh : C.mh = mh) (hG : C.G0 = G) (hmub : ∀ g, mutOf ow g → blkOf ow g) (hml : ow.length = mh)
    (hrs : fn.results.toList = []) (hdf : s.df = []) {ow' : Lds} (hp : pickO s.own 0 mh = some ow') (hpl : Plain (enumO 0 ow')) (h : ∀ v, φ v s.G ow') (hnb : noBr K = true := by rfl) : SGo C (.code kc :: K) s := by
  intro a w hS
  cases kc <;> simp [tag] at ht
  · rename_i a b c; cases c <;> simp at ht
  refine wpIn_ret ?_
  rw [wpK_ret _ _ _ hnb, hQ]
  exact ⟨by rw [hS.df, hdf], retw0 hmb hmh hG hmub hml hrs hp hpl h hS⟩
end
end Go.Sx
namespace Go.Sx
set_option linter.unusedSimpArgs false
set_option linter.unusedVariables false
open Go.RowKit
section
variable {P : Program} {ro : Option Nat} {Q : Exit → Act → World → Prop}
variable {C : Ctx} {K : List KI} {s : St} {R : Array Oper} {l : List Oper} {d : Option Tmp} {t : TypeId} {pos : String} {aft : Array Edge}
end
end Go.Sx
namespace Go.Sx
set_option linter.unusedSimpArgs false
set_option linter.unusedVariables false
open Go.RowKit
section
variable {C : Ctx} {K : List KI} {s : St} {R : Array Oper} {l : List Oper} {d : Option Tmp} {t : TypeId} {pos : String} {aft : Array Edge}
end
end Go.Sx
namespace Go.Sx
set_option linter.unusedSimpArgs false
set_option linter.unusedVariables false
open Go.RowKit
section
variable {C : Ctx} {K : List KI} {s : St} {R : Array Oper} {l : List Oper} {d : Option Tmp} {t : TypeId} {pos : String} {aft : Array Edge}
theorem go_appendL (k : Nat) {x y : Operand} {T e : TypeId} {te : TI} {sz by' : Nat} {ze : List Value} {fl : List (Nat × Nat × Bool)} {b n m : Nat} {v : Value} {xs news : List Value} {z : SV} {vx : SV}
    (hd : dOk C.nt d = true) (hT : C.ty T = some ⟨.slice e, sz, by', ze, fl⟩) (he : C.ty e = some te) (hsz : 0 < te.size) (hx : ev s.sl x = some vx) (hvx : vx.den = v) (hk : lk k s.own = some (b, .row v e te.size n xs))
    (hy : ev s.sl y = some z) (hsrc : Src C s z m news) (hl : news.length = m * te.size) (h1 : ∀ u ∈ news, u.oneCell' = true) (h63 : n + m ≤ 9223372036854775807) (hbytes : (n + m) * te.bytes ≤ 140737488355328)
    (h : ∀ v', SGo C (.ops R l :: K) ⟨putS d (.v v') s.sl, stk k (b, .row v' e te.size (n + m) (xs ++ news)) s.own, s.G, s.df⟩) :
    SGo C (.ops R (⟨d, .call ⟨.builtin .append, #[x, y], #[T, T]⟩, t, pos, aft, none⟩ :: l) :: K) s := by
  intro a w hS
  have hxv := ev_ok hS.sl hx
  have hyv := ev_ok hS.sl hy
  rw [hvx] at hxv
  obtain ⟨ad, c, hz, hnews⟩ := hsrc w hS.mem
  rw [hz] at hyv
  have g1 := (C.tyok _ _ hT).k
  simp only [TK.fits] at g1
  obtain ⟨f1, f2⟩ := hS.mem.own _ _ _ hk
  simp only [OO.holds] at f1
  obtain ⟨v', w', hr, k1, k2, k3⟩ := append_row (P := C.P) (w := w) 0 T t e g1 (C.tyok _ _ he) hsz v n xs f1 ad m c news hl hnews h1 h63 hbytes (Nat.zero_le _)
  have hrun : (execOp a.eval ⟨d, .call ⟨.builtin .append, #[x, y], #[T, T]⟩, t, pos, aft, none⟩).run C.P w = .ok (.value v') w' := by
    simp only [execOp, resolve, invoke, builtin, Sem.run_bind, Sem.run_pure, Result.andThen_ok, List.map_toArray, List.map_cons, List.map_nil, hxv, hyv, hr]
  have hm' : Mem C (stk k (b, .row v' e te.size (n + m) (xs ++ news)) s.own) s.G w' :=
    hS.mem.put hk k2.os k2.tape k2.output k2.size (fun j hj hne => k2.block j hj (fun q => hne q.symm)) k1 (fun g => ⟨fun hg => k3 g hg, fun hg => k3 g hg⟩)
  refine K_value rfl hrun ?_
  have := h v' _ _ (hS.put hd (.v v') hm')
  simpa only [SV.den] using this
theorem go_trunc (k : Nat) {b g n cap size : Nat} {e : TypeId} {xs : List Value} (m : Nat) (hm : m ≤ n) (hk : lk k s.own = some (b, .row (.slice (some ⟨g, 0, none⟩) n cap) e size n xs))
    (h : SGo C K ⟨s.sl, stk k (b, .row (.slice (some ⟨g, 0, none⟩) m cap) e size m (xs.take (m * size))) s.own, s.G, s.df⟩) : SGo C K s := by
  intro a w hS
  refine h a w ⟨hS.sl, hS.nt, hS.df, ?_⟩
  obtain ⟨f1, f2⟩ := hS.mem.own _ _ _ hk
  simp only [OO.holds] at f1
  refine hS.mem.put hk rfl rfl rfl (Nat.le_refl _) (fun _ _ _ => rfl) ?_ (fun j => ⟨fun hg => .inl (by simpa [OO.blks, Value.ownBlock] using hg), fun hg => .inl (by simpa [OO.mut, Value.ownBlock] using hg)⟩)
  obtain ⟨q0, ⟨q1, _⟩ | ⟨g0, cap0, cur, q1, hbg, hgg, hnc, hcm, hcs, htake⟩⟩ := f1
  · cases q1
  · cases q1
    have hmn : m * size ≤ n * size := Nat.mul_le_mul_right _ hm
    refine ⟨by rw [List.length_take, q0]; omega, .inr ⟨g, cap, cur, rfl, hbg, hgg, by omega, hcm, hcs, ?_⟩⟩
    rw [← htake, List.take_take, Nat.min_eq_left hmn]
theorem go_rownil (k : Nat) {b n size : Nat} {e : TypeId} {v : Value} {xs : List Value} (hk : lk k s.own = some (b, .row v e size n xs))
    (h : SGo C K ⟨s.sl, stk k (b, .row (.slice none 0 0) e size 0 []) s.own, s.G, s.df⟩) : SGo C K s := by
  intro a w hS
  refine h a w ⟨hS.sl, hS.nt, hS.df, ?_⟩
  exact hS.mem.put hk rfl rfl rfl (Nat.le_refl _) (fun _ _ _ => rfl) (ownsRow_nil w e size) (fun j => ⟨fun hg => by simp [OO.blks, Value.ownBlock] at hg, fun hg => by simp [OO.mut, Value.ownBlock] at hg⟩)
theorem go_zpush (k j : Nat) {b b2 size n : Nat} {e : TypeId} {xs : List Value} {rs : List Rw} {Z : Nat → Prop} {u : Value} (hk : lk k s.own = some (b, .z (ZR rs) Z Z)) (hj : lk j s.own = some (b2, .row u e size n xs)) (hkj : k ≠ j)
    (hm : (C.mh ≤ k ∧ C.mh ≤ j) ∨ (k < C.mh ∧ j < C.mh)) (h : ∀ Z', SGo C K ⟨s.sl, stk j (b2, .row (.slice none 0 0) e size 0 []) (stk k (b, .z (ZR (⟨e, size, u, n, xs⟩ :: rs)) Z' Z') s.own), s.G, s.df⟩) : SGo C K s := by
  intro a w hS
  obtain ⟨z1, z2, z3, z4⟩ := (hS.mem.own _ _ _ hk).1
  obtain ⟨hrow, fj⟩ := hS.mem.own _ _ _ hj
  obtain ⟨_, fk⟩ := hS.mem.own _ _ _ hk
  have hdis : ∀ g, Z g → u.ownBlock ≠ some g := fun g hg q => hkj (hS.mem.inj _ _ _ _ _ _ g hk hj hg q)
  have hl : ∀ {Z' : Nat → Prop} {i c x}, lk i (stk j (b2, .row (.slice none 0 0) e size 0 []) (stk k (b, .z (ZR (⟨e, size, u, n, xs⟩ :: rs)) Z' Z') s.own)) = some (c, x) → (i = j ∧ c = b2 ∧ x = .row (.slice none 0 0) e size 0 []) ∨ (i = k ∧ c = b ∧ x = .z (ZR (⟨e, size, u, n, xs⟩ :: rs)) Z' Z') ∨ (i ≠ j ∧ i ≠ k ∧ lk i s.own = some (c, x)) := by
    intro Z' i c x e
    rw [lk_stk] at e
    split at e
    · cases e; exact .inl ⟨by assumption, rfl, rfl⟩
    · rw [lk_stk] at e
      split at e
      · cases e; exact .inr (.inl ⟨by assumption, rfl, rfl⟩)
      · exact .inr (.inr ⟨by assumption, by assumption, e⟩)
  refine h (fun g => Z g ∨ u.ownBlock = some g) a w ⟨hS.sl, hS.nt, hS.df, ⟨fun i c x e => ?_, fun i i' c c' x x' g e e' q q' => ?_, hS.mem.grow⟩⟩
  · rcases hl e with ⟨rfl, rfl, rfl⟩ | ⟨rfl, rfl, rfl⟩ | ⟨n1, n2, e⟩
    · exact ⟨ownsRow_nil w _ _, fun g hg => by simp [OO.mut, Value.ownBlock] at hg⟩
    · refine ⟨⟨fun i r e => ?_, fun i i' r r' g e e' q q' => ?_, fun g => ⟨fun hg => ?_, fun hg => ?_⟩, fun g hg => hg⟩, fun g hg => ?_⟩
      · cases i with
        | zero => cases e; exact hrow
        | succ i => exact z1 i r e
      · cases i with
        | zero =>
          cases e
          cases i' with
          | zero => rfl
          | succ i' => exact absurd q (hdis g ((z3 g).2 ⟨i', r', e', q'⟩))
        | succ i =>
          cases i' with
          | zero => cases e'; exact absurd q' (hdis g ((z3 g).2 ⟨i, r, e, q⟩))
          | succ i' => exact congrArg _ (z2 i i' r r' g e e' q q')
      · rcases hg with hg | hg
        · obtain ⟨i, r, e, q⟩ := (z3 g).1 hg
          exact ⟨i + 1, r, e, q⟩
        · exact ⟨0, _, rfl, hg⟩
      · obtain ⟨i, r, e, q⟩ := hg
        cases i with
        | zero => cases e; exact .inr q
        | succ i => exact .inl ((z3 g).2 ⟨i, r, e, q⟩)
      · rcases hg with hg | hg
        · exact fk g hg
        · obtain ⟨q1, q2, q3⟩ := fj g hg
          exact ⟨q1, fun q => q2 (by omega), fun q => q3 (by omega)⟩
    · exact hS.mem.own _ _ _ e
  · have key : ∀ {i c x}, i ≠ j → i ≠ k → lk i s.own = some (c, x) → x.blks c g → (Z g ∨ u.ownBlock = some g) → False := by
      intro i c x n1 n2 e q q'
      rcases q' with q2 | q2
      · exact n2 (hS.mem.inj _ _ _ _ _ _ g e hk q q2)
      · exact n1 (hS.mem.inj _ _ _ _ _ _ g e hj q q2)
    rcases hl e with ⟨rfl, rfl, rfl⟩ | ⟨rfl, rfl, rfl⟩ | ⟨n1, n2, e0⟩ <;> rcases hl e' with ⟨e1, e2, e3⟩ | ⟨e1, e2, e3⟩ | ⟨n3, n4, e0'⟩
    · exact e1.symm
    · simp [OO.blks, Value.ownBlock] at q
    · simp [OO.blks, Value.ownBlock] at q
    · subst e1 e2 e3; simp [OO.blks, Value.ownBlock] at q'
    · exact e1.symm
    · exact (key n3 n4 e0' q' q).elim
    · subst e1 e2 e3; simp [OO.blks, Value.ownBlock] at q'
    · subst e1 e2 e3; exact (key n1 n2 e0 q q').elim
    · exact hS.mem.inj _ _ _ _ _ _ g e0 e0' q q'
theorem go_zpop (k j : Nat) {b b2 size n : Nat} {e : TypeId} {xs : List Value} {rs : List Rw} {r : Rw} {Z : Nat → Prop} {u : Value} (hk : lk k s.own = some (b, .z (ZR (r :: rs)) Z Z)) (hj : lk j s.own = some (b2, .row u e size n xs)) (hkj : k ≠ j)
    (hm : (C.mh ≤ k ∧ C.mh ≤ j) ∨ (k < C.mh ∧ j < C.mh)) (h : ∀ Z', SGo C K ⟨s.sl, stk j (b2, .row r.v r.e r.size r.n r.xs) (stk k (b, .z (ZR rs) Z' Z') s.own), s.G, s.df⟩) : SGo C K s := by
  intro a w hS
  obtain ⟨z1, z2, z3, z4⟩ := (hS.mem.own _ _ _ hk).1
  obtain ⟨_, fk⟩ := hS.mem.own _ _ _ hk
  have hin : ∀ g, r.v.ownBlock = some g → Z g := fun g q => (z3 g).2 ⟨0, r, rfl, q⟩
  have hl : ∀ {Z' : Nat → Prop} {i c x}, lk i (stk j (b2, .row r.v r.e r.size r.n r.xs) (stk k (b, .z (ZR rs) Z' Z') s.own)) = some (c, x) → (i = j ∧ c = b2 ∧ x = .row r.v r.e r.size r.n r.xs) ∨ (i = k ∧ c = b ∧ x = .z (ZR rs) Z' Z') ∨ (i ≠ j ∧ i ≠ k ∧ lk i s.own = some (c, x)) := by
    intro Z' i c x e
    rw [lk_stk] at e
    split at e
    · cases e; exact .inl ⟨by assumption, rfl, rfl⟩
    · rw [lk_stk] at e
      split at e
      · cases e; exact .inr (.inl ⟨by assumption, rfl, rfl⟩)
      · exact .inr (.inr ⟨by assumption, by assumption, e⟩)
  refine h (fun g => Z g ∧ r.v.ownBlock ≠ some g) a w ⟨hS.sl, hS.nt, hS.df, ⟨fun i c x e => ?_, fun i i' c c' x x' g e e' q q' => ?_, hS.mem.grow⟩⟩
  · rcases hl e with ⟨rfl, rfl, rfl⟩ | ⟨rfl, rfl, rfl⟩ | ⟨n1, n2, e⟩
    · refine ⟨z1 0 r rfl, fun g hg => ?_⟩
      obtain ⟨q1, q2, q3⟩ := fk g (hin g hg)
      exact ⟨q1, fun q => q2 (by omega), fun q => q3 (by omega)⟩
    · refine ⟨⟨fun i r' e => z1 (i + 1) r' e, fun i i' r1 r2 g e e' q q' => by have := z2 (i + 1) (i' + 1) r1 r2 g e e' q q'; omega, fun g => ⟨fun hg => ?_, fun hg => ?_⟩, fun g hg => hg⟩, fun g hg => fk g hg.1⟩
      · obtain ⟨i, r', e, q⟩ := (z3 g).1 hg.1
        cases i with
        | zero => cases e; exact absurd q hg.2
        | succ i => exact ⟨i, r', e, q⟩
      · obtain ⟨i, r', e, q⟩ := hg
        exact ⟨(z3 g).2 ⟨i + 1, r', e, q⟩, fun q' => by have := z2 (i + 1) 0 r' r g e rfl q q'; omega⟩
    · exact hS.mem.own _ _ _ e
  · rcases hl e with ⟨rfl, rfl, rfl⟩ | ⟨rfl, rfl, rfl⟩ | ⟨n1, n2, e0⟩ <;> rcases hl e' with ⟨e1, e2, e3⟩ | ⟨e1, e2, e3⟩ | ⟨n3, n4, e0'⟩
    · exact e1.symm
    · subst e1 e2 e3; exact absurd q q'.2
    · exact absurd (hS.mem.inj _ _ _ _ _ _ g e0' hk q' (hin g q)) n4
    · subst e1 e2 e3; exact absurd q' q.2
    · exact e1.symm
    · exact absurd (hS.mem.inj _ _ _ _ _ _ g e0' hk q' q.1) n4
    · subst e1 e2 e3; exact absurd (hS.mem.inj _ _ _ _ _ _ g e0 hk q (hin g q')) n2
    · subst e1 e2 e3; exact absurd (hS.mem.inj _ _ _ _ _ _ g e0 hk q q'.1) n2
    · exact hS.mem.inj _ _ _ _ _ _ g e0 e0' q q'
theorem go_znull (k : Nat) {b : Nat} {rs : List Rw} {Z : Nat → Prop} (hk : lk k s.own = some (b, .z (ZR rs) Z Z)) (h : ∀ Z', SGo C K ⟨s.sl, stk k (b, .z (ZR []) Z' Z') s.own, s.G, s.df⟩) : SGo C K s := by
  intro a w hS
  refine h (fun _ => False) a w ⟨hS.sl, hS.nt, hS.df, ?_⟩
  exact hS.mem.put hk rfl rfl rfl (Nat.le_refl _) (fun _ _ _ => rfl) ⟨fun i r e => by simp at e, fun i j r r' g e => by simp at e, fun g => ⟨fun q => q.elim, fun ⟨i, r, e, _⟩ => by simp at e⟩, fun g q => q⟩ (fun j => ⟨fun hg => hg.elim, fun hg => hg.elim⟩)
end
end Go.Sx
namespace Go.Proofs.YtpppkednpamhbaaGreat
set_option linter.unusedSimpArgs false
set_option linter.unusedVariables false
open Go.Sx
structure Fm where
  fn : Int
  nd : Int
  vars : List VT
  done : List VT
structure Fb where
  st : Int
  val : VT
  l : List Fm
def vt0 : VT := .mk 0 0 []
def ndAt (p : Pr) (f n : Int) : Option Nd := if 0 ≤ f ∧ 0 ≤ n then (p[f.toNat]?).bind fun u => u.nodes[n.toNat]? else none
def trF (v : VT) : Option Bool := if vld v && v.k == 2 then some (v.n != 0) else none
def readyF (nd : Nd) (x : Fm) (r : List Fm) : Option (Int × List Fm) :=
  if nd.op = 24 then
    match x.done with
    | [] => none
    | v :: _ => some (if vld v && evk v.k then (2, x :: r) else (4, []))
  else some (if nd.op = 15 ∨ nd.op = 14 then 2 else 1, x :: r)
def downF (p : Pr) : Nat → List Fm → Option (Int × List Fm)
  | 0, _ => none
  | _ + 1, [] => none
  | n + 1, x :: r =>
    match ndAt p x.fn x.nd with
    | none => none
    | some nd =>
      if nd.op = 4 ∧ x.done.length = 1 then
        match nd.l[1]?, x.done with
        | some k, v :: _ => if x.vars.length < 100000 then downF p n (⟨x.fn, k, x.vars ++ [v], []⟩ :: r) else none
        | _, _ => none
      else if nd.op = 5 ∧ x.done.length = 1 then
        match x.done with
        | [] => none
        | v :: _ =>
          match trF v with
          | none => some (4, [])
          | some b =>
            match nd.l[2]?, nd.l[1]? with
            | some k2, some k1 => downF p n (⟨x.fn, if b then k1 else k2, x.vars, []⟩ :: r)
            | _, _ => none
      else if x.done.length = nd.l.length then readyF nd x r
      else if 256 ≤ r.length + 1 then some (4, [])
      else
        match nd.l[x.done.length]? with
        | none => none
        | some k => downF p n (⟨x.fn, k, x.vars, []⟩ :: x :: r)
def goF (p : Pr) (s : Fb) (l : List Fm) : Option Fb := (downF p 600 l).map fun o => ⟨o.1, s.val, o.2⟩
def prodF (p : Pr) (s : Fb) (v : VT) : Option Fb :=
  match s.l with
  | [] => none
  | [_] => some ⟨3, v, []⟩
  | _ :: y :: r => if y.done.length < 1000 then goF p s (⟨y.fn, y.nd, y.vars, y.done ++ [v]⟩ :: r) else none
def kOf (op : Int) : Int :=
  if op = 2 then 1 else if op = 1 then 2 else if op = 10 then 3 else if op = 16 then 5 else if op = 17 then 6 else if op = 18 then 7 else if op = 19 then 8 else if op = 20 then 9
  else if op = 21 then 10 else if op = 22 then 11 else if op = 23 then 12 else 0
def numF (a b : VT) (g : Int → Int → Int) : Option VT := if (vld a && vld b) && (a.k == 2 && b.k == 2) then some (.mk 2 (g a.n b.n) []) else none
def two (l : List VT) (g : VT → VT → Option VT) : Option (Option VT) :=
  match l with
  | a :: b :: _ => some (g a b)
  | _ => none
def one (l : List VT) (g : VT → Option VT) : Option (Option VT) :=
  match l with
  | a :: _ => some (g a)
  | _ => none
def eqF (a b : VT) : Option VT := if vld a && vld b then some (.mk 2 (if veq a b then 1 else 0) []) else none
def halfF (i : Nat) (a : VT) : Option VT := if vld a && a.k == 3 then some (a.l.getD i a) else none
def resF (x : Fm) (nd : Nd) : Option (Option VT) :=
  if nd.op = 3 then (if 0 ≤ nd.n then (x.vars[nd.n.toNat]?).map some else none)
  else if nd.op = 6 then two x.done fun a b => numF a b fun m n => IntKind.i64.wrap (m + n)
  else if nd.op = 7 then two x.done fun a b => numF a b fun m n => IntKind.i64.wrap (m - n)
  else if nd.op = 8 then two x.done eqF
  else if nd.op = 9 then two x.done fun a b => numF a b fun m n => if decide (m < n) then 1 else 0
  else if nd.op = 11 then one x.done (halfF 0)
  else if nd.op = 12 then one x.done (halfF 1)
  else if tsz (.mk (kOf nd.op) nd.n x.done) ≤ 1000000 then some (if vld (.mk (kOf nd.op) nd.n x.done) then some (.mk (kOf nd.op) nd.n x.done) else none)
  else none
def stepP (p : Pr) (s : Fb) : Option (Int × Fb) :=
  if s.st ≠ 1 then some (100, s) else
    match s.l with
    | [] => none
    | x :: r =>
      match ndAt p x.fn x.nd with
      | none => none
      | some nd =>
        if nd.op = 13 then (goF p s (⟨nd.n, 0, x.done, []⟩ :: r)).map fun o => (0, o)
        else
          match resF x nd with
          | none => none
          | some none => some (0, ⟨4, s.val, []⟩)
          | some (some v) => (prodF p s v).map fun o => (0, o)
def runP (p : Pr) : Nat → Fb → Option (Nat × Fb)
  | 0, s => some (0, s)
  | k + 1, s =>
    match stepP p s with
    | none => none
    | some (e, s') => if e = 0 then (runP p k s').map fun o => (o.1 + 1, o.2) else some (0, s')
def CapOk (v : Value) : Prop := ∀ ad n c, v = .slice ad n c → n ≤ c
def rW : Rp VT where
  size := 3
  e G x cs := ∃ sl, cs = [.int .i64 x.k, .int .i64 x.n, sl] ∧ x.rep G sl ∧ tsz x ≤ 1000
  mono hl h := by obtain ⟨sl, h1, h2, h3⟩ := h; exact ⟨sl, h1, VT.rep_mono hl h2, h3⟩
  len h := by obtain ⟨sl, rfl, _⟩ := h; rfl
  one h u hu := by
    obtain ⟨sl, rfl, h2, _⟩ := h
    obtain ⟨_, _, rfl⟩ := VT.rep_slice h2
    simp at hu
    rcases hu with rfl | rfl | rfl <;> rfl
theorem rW_at {G : Hp} {l : List VT} {ad : Option Addr} {n cap : Nat} (h : rW.S G l (.slice ad n cap)) {i : Nat} (hi : i < l.length) : ∃ b off sl, ad = some ⟨b, off, none⟩ ∧ At G b (off + i * 3) [.int .i64 l[i].k, .int .i64 l[i].n, sl] ∧ l[i].rep G sl ∧ tsz l[i] ≤ 1000 := by
  obtain ⟨b, off, cap', c, hv, hat, sl, rfl, h1⟩ := Rp.S_get h hi
  cases hv
  exact ⟨b, off, sl, rfl, by simpa [rW] using hat, h1⟩
theorem rW_repV {G : Hp} : ∀ {l : List VT} {cs : List Value}, rW.L G l cs → repV G l cs
  | [], cs, h => by simp only [Rp.L] at h; simp only [repV]; exact h
  | x :: l, cs, h => by
    simp only [Rp.L] at h
    obtain ⟨c, r, rfl, ⟨sl, rfl, h2, h3⟩, h4⟩ := h
    simp only [repV]
    exact ⟨sl, r, rfl, h2, rW_repV h4⟩
structure Fw where
  fn : Int
  nd : Int
  vars : Value
  done : Rw
def cellsF (x : Fw) : List Value := [.int .i64 x.fn, .int .i64 x.nd, x.vars, x.done.v]
def encF : List Fw → List Value
  | [] => []
  | x :: r => encF r ++ cellsF x
theorem encF_len : ∀ l : List Fw, (encF l).length = l.length * 4
  | [] => rfl
  | x :: r => by simp [encF, encF_len r, cellsF]; omega
def rwOk (G : Hp) (l : List VT) (r : Rw) : Prop := r.e = 42 ∧ r.size = 3 ∧ r.n = l.length ∧ rW.L G l r.xs ∧ l.length ≤ 1000 ∧ ∃ ad cap, r.v = .slice ad l.length cap ∧ l.length ≤ cap
structure frOk (G : Hp) (m : Fm) (x : Fw) : Prop where
  fn : x.fn = m.fn
  nd : x.nd = m.nd
  f64 : isI64 m.fn
  n64 : isI64 m.nd
  cap : CapOk x.vars
  vars : rW.S G m.vars x.vars
  done : rwOk G m.done x.done
def fsOk (G : Hp) : List Fm → List Fw → Prop
  | [], rs => rs = []
  | m :: l, rs => ∃ x r, rs = x :: r ∧ frOk G m x ∧ fsOk G l r
theorem rwOk.mono {G G' : Hp} {l : List VT} {r : Rw} (h : rwOk G l r) (hl : Le G G') : rwOk G' l r := ⟨h.1, h.2.1, h.2.2.1, Rp.L_mono hl h.2.2.2.1, h.2.2.2.2⟩
theorem frOk.mono {G G' : Hp} {m : Fm} {x : Fw} (h : frOk G m x) (hl : Le G G') : frOk G' m x := ⟨h.fn, h.nd, h.f64, h.n64, h.cap, Rp.S_mono hl h.vars, h.done.mono hl⟩
theorem fsOk.mono {G G' : Hp} (hl : Le G G') : ∀ {l : List Fm} {rs : List Fw}, fsOk G l rs → fsOk G' l rs
  | [], rs, h => h
  | m :: l, rs, ⟨x, r, h1, h2, h3⟩ => ⟨x, r, h1, h2.mono hl, h3.mono hl⟩
theorem fsOk.len {G : Hp} : ∀ {l : List Fm} {rs : List Fw}, fsOk G l rs → rs.length = l.length
  | [], rs, h => by simp only [fsOk] at h; simp [h]
  | m :: l, rs, ⟨x, r, h1, h2, h3⟩ => by simp [h1, h3.len]
def rw0 : Rw := ⟨42, 3, .slice none 0 0, 0, []⟩
theorem rw0_ok (G : Hp) : rwOk G [] rw0 := ⟨rfl, rfl, rfl, rfl, by simp, none, 0, rfl, by simp⟩
def fhO (b cb : Nat) (st k n : Int) (vl fs : Value) : Nat × OO := (b, .c 93 [.v (.pointer (some ⟨cb, 0, none⟩)), .v (.int .i64 st), .v (.int .i64 k), .v (.int .i64 n), .v vl, .v fs])
def frO (b1 : Nat) (fs : Value) (rs : List Fw) : Nat × OO := (b1, .row fs 90 4 rs.length (encF rs))
def fzO (b2 : Nat) (rs : List Fw) (Z : Nat → Prop) : Nat × OO := (b2, .z (ZR (rs.map (·.done))) Z Z)
def fdO (b3 : Nat) (r : Rw) : Nat × OO := (b3, .row r.v r.e r.size r.n r.xs)
def fbO (G : Hp) (b cb : Nat) (s : Fb) (ow : Lds) : Prop :=
  ∃ vl fs b1 b2 b3 rs Z, s.val.rep G vl ∧ tsz s.val ≤ 1000 ∧ fsOk G s.l rs ∧ s.l.length ≤ 256 ∧ (∀ m x, s.l.head? = some m → rs.head? = some x → rW.S G m.done x.done.v) ∧ ow = [fhO b cb s.st s.val.k s.val.n vl fs, frO b1 fs rs, fzO b2 (rs.drop 1) Z, fdO b3 rw0]
end Go.Proofs.YtpppkednpamhbaaGreat
namespace Go.Sx
set_option linter.unusedSimpArgs false
set_option linter.unusedVariables false
open Go.RowKit
section
variable {P : Program} {ro : Option Nat} {ops : Array Oper} {md : Region.Mode}
theorem wpAnyHU_first {S : World → Prop} {Q : Exit → Act → World → Prop} {i p : Nat} {oi op : Oper} {v : Value} (hi : ops[i]? = some oi) (hsel : ∀ (j : Nat) (o : Oper) cs b, ops[j]? = some o → o.op ≠ .select cs b)
    (hQ : ∀ c a w, Q (.panic c) (a.put oi.dst v) w → Q (.panic c) a w) (hop : ops[p]? = some op) (hpi : p ≠ i) (hpe : ∃ e ∈ op.after, Region.binds md e = true ∧ e.on = i) :
    ∀ (fuel : Nat) (listed : Array Bool) (a : Act) (w : World),
      (∀ j oj, ops[j]? = some oj → j ≠ i → listed.getD j true = false → (∀ e ∈ oj.after, Region.binds md e = true → e.on ≠ i) → oi.apart ops oj = true) →
      i ∈ Region.ready md ops listed → YieldsIf P ops S oi v a → S w → listed.getD p true = false →
      wpAnyHU P ro md ops Q S p fuel (listed.setIfInBounds i true) (a.put oi.dst v) w → wpAnyHU P ro md ops Q S p (fuel + 1) listed a w := by
  intro fuel
  induction fuel with
  | zero =>
    intro listed a w _ hr hy hS hpl H
    refine ⟨fun h => (by rw [h] at hr; cases hr), fun j hj => ?_⟩
    by_cases hji : j = i
    · subst hji; exact yieldsIf_wpOpIn hi hy hS ⟨fun _ => hS, H⟩
    · have := ready_mono hj hji
      rw [H.1] at this
      cases this
  | succ fuel ih =>
    intro listed a w hfree hr hy hS hpl H
    refine ⟨fun h => (by rw [h] at hr; cases hr), fun j hj => ?_⟩
    by_cases hji : j = i
    · subst hji; exact yieldsIf_wpOpIn hi hy hS ⟨fun _ => hS, H⟩
    · have h1 := H.2 j (ready_mono hj hji)
      obtain ⟨hjun, oj, hoj, hall⟩ := mem_ready.1 hj
      have hnot : ∀ e ∈ oj.after, Region.binds md e = true → e.on ≠ i := fun e he hb heq => by
        have h1 := hall e he hb
        have h0 := (mem_ready.1 hr).1
        rw [heq] at h1
        rcases Nat.lt_or_ge i listed.size with h' | h'
        · simp [h'] at h0 h1; rw [h0] at h1; cases h1
        · simp [Array.getElem?_eq_none h'] at h1
      have hjp : j ≠ p := fun q => by
        subst q
        rw [hop] at hoj
        cases hoj
        obtain ⟨e, he, hb, heq⟩ := hpe
        exact hnot e he hb heq
      have hg1 : ((listed.setIfInBounds i true).setIfInBounds j true).getD p true = false := by
        rw [getD_set_ne true hjp, getD_set_ne true (Ne.symm hpi)]; exact hpl
      have hg2 : (listed.setIfInBounds j true).getD p true = false := by
        rw [getD_set_ne true hjp]; exact hpl
      have h2 := wpOpIn_putIf hoj (hfree j oj hoj hji hjun hnot) (fun cs b => hsel i oi cs b hi) (fun cs b => hsel j oj cs b hoj) hQ hy h1
      have hfree' : ∀ k ok, ops[k]? = some ok → k ≠ i → (listed.setIfInBounds j true).getD k true = false →
          (∀ e ∈ ok.after, Region.binds md e = true → e.on ≠ i) → oi.apart ops ok = true := fun k ok hk hki hun hno => by
        refine hfree k ok hk hki ?_ hno
        by_cases hjk : j = k
        · subst hjk; exact hjun
        · rw [getD_set_ne true hjk] at hun; exact hun
      refine wpOpIn_mono (fun a' w' h3 => ⟨fun _ => h3.2.1 hg1, ih (listed.setIfInBounds j true) a' w' hfree' (ready_mono hr (Ne.symm hji)) h3.1 (h3.2.1 hg1) hg2 ?_⟩) h2
      rw [Array.setIfInBounds_comm _ _ hji]
      exact h3.2.2
def behind (ops : Array Oper) (p i : Nat) : Bool := match ops[p]? with
  | some o => p != i && o.after.any fun e => Region.binds .any e && e.on == i
  | none => false
theorem behind_ok {p i : Nat} (h : behind ops p i = true) : ∃ op, ops[p]? = some op ∧ p ≠ i ∧ ∃ e ∈ op.after, Region.binds .any e = true ∧ e.on = i := by
  rw [behind] at h
  split at h
  · rename_i o ho
    simp only [Bool.and_eq_true, bne_iff_ne, ne_eq, Array.any_eq_true'] at h
    obtain ⟨h1, e, h2, h3⟩ := h
    exact ⟨o, ho, h1, e, h2, by simpa using h3⟩
  · cases h
theorem wpAnyIn_of_hu {S : World → Prop} {Q : Exit → Act → World → Prop} {p : Nat} : ∀ (fuel : Nat) (listed : Array Bool) (a : Act) (w : World), wpAnyHU P ro md ops Q S p fuel listed a w → wpAnyIn (FR ro) 0 P md ops Q fuel listed a w
  | 0, _, _, _, h => h
  | fuel + 1, _, _, _, h => ⟨h.1, fun i hi => wpOpIn_mono (fun a' w' h' => wpAnyIn_of_hu fuel _ a' w' h'.2) (h.2 i hi)⟩
theorem wpIn_region_hu {S : World → Prop} {Q : Exit → Act → World → Prop} {p id : Nat} {a : Act} {w : World} (hm : P.follows .mixedOrders = true)
    (h : wpAnyHU P ro .any ops Q S p ops.size (Array.replicate ops.size false) a { w with drawn := w.drawn + 1 }) : (Code.region id ops true).wpIn (FR ro) 0 P Q a w :=
  wpIn_region_any hm (wpAnyIn_of_hu _ _ _ _ h)
theorem hu_of_hi {S S' : World → Prop} {Q : Exit → Act → World → Prop} {p : Nat} : ∀ (fuel : Nat) (listed : Array Bool) (a : Act) (w : World), listed.getD p true = true → wpAnyHI P ro md ops Q S' fuel listed a w → wpAnyHU P ro md ops Q S p fuel listed a w
  | 0, _, _, _, _, h => h
  | fuel + 1, listed, _, _, hl, h => ⟨h.1, fun i hi => wpOpIn_mono (fun a' w' h' => by
      have hg : (listed.setIfInBounds i true).getD p true = true := by
        by_cases hip : i = p
        · subst hip
          rcases Nat.lt_or_ge i listed.size with q | q
          · simp [q]
          · simp [Array.getD_eq_getD_getElem?, Array.getElem?_setIfInBounds]; rw [if_neg (by omega)]; rfl
        · rw [getD_set_ne true hip]; exact hl
      exact ⟨fun q => (by rw [hg] at q; cases q), hu_of_hi fuel _ a' w' hg h'.2⟩) (h.2 i hi)⟩
end
section
variable {C : Ctx} {K : List KI} {s : St} {R : Array Oper} {l : List Oper} {d : Option Tmp} {t : TypeId} {pos : String} {aft : Array Edge}
theorem x_heldP (own0 : List (Nat × Nat × OO)) (p : Nat) {k : Code} (ht : tag k = 9) (hm : C.P.follows .mixedOrders = true) {o : Oper} (hR : cops k = (o :: l).toArray) {n : Nat} (hn : (o :: l).length = n) {ls : List Bool} (hls : List.replicate n false = ls) (h : SGo C (.hu (Hold C own0 s.G) p (o :: l).toArray n ls.toArray :: K) s) : SGo C (.code k :: K) s := by
  subst hls hn
  cases k <;> simp [tag] at ht
  rename_i a b c
  cases c <;> simp at ht
  simp only [cops] at hR
  subst hR
  intro a w hS
  have := h a _ (⟨hS.sl, hS.nt, hS.df, hS.mem.drew⟩ : Sat C s a w.drew)
  simp only [wpK] at this ⊢
  exact wpIn_region_hu (S := Hold C own0 s.G) hm (by simpa using this)
theorem hu_take (i : Nat) {own0 : List (Nat × Nat × OO)} {G0 : Hp} {n p : Nat} {listed : Array Bool} {op : Op} {x : SV} (hi : R[i]? = some ⟨d, op, t, pos, aft, none⟩) (hs : Region.noSelect R = true) (hf : Region.free .any R listed i = true)
    (hr : (Region.ready .any R listed).contains i = true) (hp : behind R p i = true) (hpl : listed.getD p true = false) (hQ : QPd C d) (hd : dOk C.nt d = true) (ho : ∀ j y, lk j own0 = some y → lk j s.own = some y) (hG : Le G0 s.G)
    (hq : Quiet C s.sl own0 G0 op x.den) (h : SGo C (.hu (Hold C own0 G0) p R n (listed.setIfInBounds i true) :: K) ⟨putS d x s.sl, s.own, s.G, s.df⟩) :
    SGo C (.hu (Hold C own0 G0) p R (n + 1) listed :: K) s := by
  intro a w hS
  have hhold : Hold C own0 G0 w := ⟨fun k b o e => (hS.mem.own k b o (ho _ _ e)).1, fun b o e => hS.mem.has b o (hG b o e)⟩
  have := h _ _ (hS.put hd x hS.mem)
  simp only [wpK] at this ⊢
  obtain ⟨op', h1, h2, h3⟩ := behind_ok hp
  refine wpAnyHU_first (i := i) (v := x.den) hi (Region.noSelect_spec hs) ?_ h1 h2 h3 n listed a w (Region.free_spec hi hf) (by simpa using hr) (.inl ⟨by simp [Region.wanted], fun w' hw' => hq a w' d t pos aft none hS.sl hw'⟩) hhold hpl this
  intro c a' w' hp
  exact wpK_panic c d x.den (fun a w => hQ c a w x.den) K a' w' hp
theorem hu_step {own0 : List (Nat × Nat × OO)} {G0 : Hp} {n p : Nat} {listed : Array Bool} {i : Nat} {o : Oper} {a : Act} {w : World} (hi : R[i]? = some o) {Ks : List KI}
    (hks : Ks = .hs (Hold C own0 G0) :: .hu (Hold C own0 G0) p R n (listed.setIfInBounds i true) :: K ∨ ∃ own1, (Ks = .h (Hold C own1 G0) R n (listed.setIfInBounds i true) :: K ∧ (listed.setIfInBounds i true).getD p true = true))
    (this : wpK C.P C.ro C.Q (.ops R [o] :: Ks) .normal a w) :
    wpOpIn (FR C.ro) 0 C.P R (wpK C.P C.ro C.Q K) i (fun a' w' => ((listed.setIfInBounds i true).getD p true = false → Hold C own0 G0 w') ∧ wpAnyHU C.P C.ro .any R (wpK C.P C.ro C.Q K) (Hold C own0 G0) p n (listed.setIfInBounds i true) a' w') a w := by
  have hK : ∀ a' w', wpK C.P C.ro C.Q Ks .normal a' w' → ((listed.setIfInBounds i true).getD p true = false → Hold C own0 G0 w') ∧ wpAnyHU C.P C.ro .any R (wpK C.P C.ro C.Q K) (Hold C own0 G0) p n (listed.setIfInBounds i true) a' w' := by
    intro a' w' q
    rcases hks with rfl | ⟨own1, rfl, hl⟩
    · simp only [wpK] at q; exact ⟨fun _ => q.1, q.2⟩
    · simp only [wpK] at q; exact ⟨fun z => (by rw [hl] at z; cases z), hu_of_hi _ _ _ _ hl q⟩
  have hE : ∀ e a' w', (∀ (q : e = Exit.normal), False) → wpK C.P C.ro C.Q Ks e a' w' → wpK C.P C.ro C.Q K e a' w' := by
    intro e a' w' hn q
    cases e with
    | normal => exact (hn rfl).elim
    | _ => rcases hks with rfl | ⟨own1, rfl, hl⟩ <;> simpa only [wpK] using q
  simp only [wpK] at this
  unfold wpOpIn
  simp only [hi]
  simp only [wpListIn] at this
  split
  · rename_i hw
    rw [if_pos hw] at this
    refine ⟨this.1, ?_⟩
    have q := this.2
    generalize (o.semAt (FR C.ro).round a.eval).run C.P w = r at q ⊢
    cases r with
    | ok nx w' =>
      cases nx <;> simp only [Oper.uponIn] at q ⊢
      case value u => exact hK _ _ q
      case skip => exact hK _ _ q
      case defer u => exact hK _ _ q
      case enter f args =>
        refine ⟨q.1, q.2.mono fun e w'' he => ?_⟩
        cases e with
        | returned u => exact hK _ _ he
        | panicked c => exact hE _ _ _ (fun q => by cases q) he
        | outgrown => rcases hks with rfl | ⟨own1, rfl, hl⟩ <;> simpa only [LetsOut, wpK] using he
      case row row args => exact ⟨q.1, q.2.mono fun u w'' he => hK _ _ he⟩
      case round l f tmps assign body =>
        refine ⟨q.1, q.2.mono fun e w'' he => ?_⟩
        cases e with
        | returned u => exact hK _ _ he
        | panicked c => exact hE _ _ _ (fun q => by cases q) he
        | outgrown => rcases hks with rfl | ⟨own1, rfl, hl⟩ <;> simpa only [LetsOut, wpK] using he
    | halt x w' =>
      cases x <;> simp only [Oper.uponIn] at q ⊢
      case panic u => exact hE _ _ _ (fun q => by cases q) q
  · rename_i hw
    rw [if_neg hw] at this
    exact ⟨this.1, hK _ _ this.2⟩
theorem hu_one (i : Nat) {own0 : List (Nat × Nat × OO)} {G0 : Hp} {n p : Nat} {listed : Array Bool} {op : Op} {g : Option (Nat × Bool)} (hi : R[i]? = some ⟨d, op, t, pos, aft, g⟩) (hr : Region.ready .any R listed = [i])
    (h : SGo C (.ops R [⟨d, op, t, pos, aft, g⟩] :: .hs (Hold C own0 G0) :: .hu (Hold C own0 G0) p R n (listed.setIfInBounds i true) :: K) s) : SGo C (.hu (Hold C own0 G0) p R (n + 1) listed :: K) s := by
  intro a w hS
  have := h a w hS
  show wpAnyHU _ _ _ _ _ _ _ _ _ _ _
  refine ⟨fun q => (by rw [hr] at q; cases q), fun j hj => ?_⟩
  rw [hr] at hj
  simp only [List.mem_singleton] at hj
  subst hj
  exact hu_step hi (.inl rfl) this
theorem hu_two (i j : Nat) {own0 : List (Nat × Nat × OO)} {G0 : Hp} {n p : Nat} {listed : Array Bool} {op op' : Op} {g g' : Option (Nat × Bool)} {d' : Option Tmp} {t' : TypeId} {pos' : String} {aft' : Array Edge} (hi : R[i]? = some ⟨d, op, t, pos, aft, g⟩) (hj : R[j]? = some ⟨d', op', t', pos', aft', g'⟩) (hr : Region.ready .any R listed = [i, j])
    (h : SGo C (.ops R [⟨d, op, t, pos, aft, g⟩] :: .hs (Hold C own0 G0) :: .hu (Hold C own0 G0) p R n (listed.setIfInBounds i true) :: K) s)
    (h' : SGo C (.ops R [⟨d', op', t', pos', aft', g'⟩] :: .hs (Hold C own0 G0) :: .hu (Hold C own0 G0) p R n (listed.setIfInBounds j true) :: K) s) : SGo C (.hu (Hold C own0 G0) p R (n + 1) listed :: K) s := by
  intro a w hS
  have h1 := h a w hS
  have h2 := h' a w hS
  show wpAnyHU _ _ _ _ _ _ _ _ _ _ _
  refine ⟨fun q => (by rw [hr] at q; cases q), fun q hq => ?_⟩
  rw [hr] at hq
  simp only [List.mem_cons, List.not_mem_nil, or_false] at hq
  rcases hq with rfl | rfl
  · exact hu_step hi (.inl rfl) h1
  · exact hu_step hj (.inl rfl) h2
theorem hu_last (i : Nat) (own1 : List (Nat × Nat × OO)) {own0 : List (Nat × Nat × OO)} {G0 : Hp} {n p : Nat} {listed : Array Bool} {op : Op} {g : Option (Nat × Bool)} (hi : R[i]? = some ⟨d, op, t, pos, aft, g⟩) (hr : Region.ready .any R listed = [i]) (hl : (listed.setIfInBounds i true).getD p true = true)
    (h : SGo C (.ops R [⟨d, op, t, pos, aft, g⟩] :: .h (Hold C own1 G0) R n (listed.setIfInBounds i true) :: K) s) : SGo C (.hu (Hold C own0 G0) p R (n + 1) listed :: K) s := by
  intro a w hS
  have := h a w hS
  show wpAnyHU _ _ _ _ _ _ _ _ _ _ _
  refine ⟨fun q => (by rw [hr] at q; cases q), fun j hj => ?_⟩
  rw [hr] at hj
  simp only [List.mem_singleton] at hj
  subst hj
  exact hu_step hi (.inr ⟨own1, rfl, hl⟩) this
end
end Go.Sx
namespace Go.Sx
set_option linter.unusedSimpArgs false
set_option linter.unusedVariables false
open Go.RowKit
section
variable {C : Ctx} {R : Array Oper} {d : Option Tmp} {t : TypeId} {pos : String} {aft : Array Edge} {K : List KI} {s : St}
end
end Go.Sx
namespace Go.Sx
set_option linter.unusedSimpArgs false
set_option linter.unusedVariables false
open Go.RowKit
section
variable {P : Program} {ro : Option Nat} {ops : Array Oper} {md : Region.Mode}
theorem wpAnyHU_firstB {S : World → Prop} {Q : Exit → Act → World → Prop} {i p : Nat} {oi : Oper} {v : Value} (B : List Nat) (hi : ops[i]? = some oi) (hsel : ∀ (j : Nat) (o : Oper) cs b, ops[j]? = some o → o.op ≠ .select cs b)
    (hQ : ∀ c a w, Q (.panic c) (a.put oi.dst v) w → Q (.panic c) a w) (hiB : i ∈ B) (hpB : p ∈ B) (hpi : p ≠ i) (hlk : ∀ b ∈ B, b ≠ i → ∀ ob, ops[b]? = some ob → ∃ e ∈ ob.after, Region.binds md e = true ∧ e.on ∈ B) :
    ∀ (fuel : Nat) (listed : Array Bool) (a : Act) (w : World),
      (∀ j oj, ops[j]? = some oj → j ≠ i → listed.getD j true = false → (∀ e ∈ oj.after, Region.binds md e = true → e.on ≠ i) → oi.apart ops oj = true) →
      i ∈ Region.ready md ops listed → YieldsIf P ops S oi v a → S w → (∀ b ∈ B, listed.getD b true = false) →
      wpAnyHU P ro md ops Q S p fuel (listed.setIfInBounds i true) (a.put oi.dst v) w → wpAnyHU P ro md ops Q S p (fuel + 1) listed a w := by
  intro fuel
  induction fuel with
  | zero =>
    intro listed a w _ hr hy hS hpl H
    refine ⟨fun h => (by rw [h] at hr; cases hr), fun j hj => ?_⟩
    by_cases hji : j = i
    · subst hji; exact yieldsIf_wpOpIn hi hy hS ⟨fun _ => hS, H⟩
    · have := ready_mono hj hji
      rw [H.1] at this
      cases this
  | succ fuel ih =>
    intro listed a w hfree hr hy hS hpl H
    refine ⟨fun h => (by rw [h] at hr; cases hr), fun j hj => ?_⟩
    by_cases hji : j = i
    · subst hji; exact yieldsIf_wpOpIn hi hy hS ⟨fun _ => hS, H⟩
    · have h1 := H.2 j (ready_mono hj hji)
      obtain ⟨hjun, oj, hoj, hall⟩ := mem_ready.1 hj
      have hnotB : ∀ i', listed.getD i' true = false → ∀ e ∈ oj.after, Region.binds md e = true → e.on ≠ i' := fun i' h0 e he hb heq => by
        have h1 := hall e he hb
        rw [heq] at h1
        rw [Array.getD_eq_getD_getElem?] at h0 h1
        rcases Nat.lt_or_ge i' listed.size with h' | h'
        · rw [Array.getElem?_eq_getElem h'] at h0 h1; simp only [Option.getD_some] at h0 h1; rw [h0] at h1; cases h1
        · rw [Array.getElem?_eq_none h'] at h0; cases h0
      have hnot := hnotB i (mem_ready.1 hr).1
      have hjB : j ∉ B := fun q => by
        obtain ⟨e, he, hb, heq⟩ := hlk j q hji oj hoj
        exact hnotB e.on (hpl _ heq) e he hb rfl
      have hjp : j ≠ p := fun q => hjB (by rw [q]; exact hpB)
      have hg1 : ((listed.setIfInBounds i true).setIfInBounds j true).getD p true = false := by
        rw [getD_set_ne true hjp, getD_set_ne true (Ne.symm hpi)]; exact hpl p hpB
      have hg2 : ∀ b ∈ B, (listed.setIfInBounds j true).getD b true = false := fun b hb => by
        rw [getD_set_ne true (show j ≠ b from fun q => hjB (by rw [q]; exact hb))]; exact hpl b hb
      have h2 := wpOpIn_putIf hoj (hfree j oj hoj hji hjun hnot) (fun cs b => hsel i oi cs b hi) (fun cs b => hsel j oj cs b hoj) hQ hy h1
      have hfree' : ∀ k ok, ops[k]? = some ok → k ≠ i → (listed.setIfInBounds j true).getD k true = false →
          (∀ e ∈ ok.after, Region.binds md e = true → e.on ≠ i) → oi.apart ops ok = true := fun k ok hk hki hun hno => by
        refine hfree k ok hk hki ?_ hno
        by_cases hjk : j = k
        · subst hjk; exact hjun
        · rw [getD_set_ne true hjk] at hun; exact hun
      refine wpOpIn_mono (fun a' w' h3 => ⟨fun _ => h3.2.1 hg1, ih (listed.setIfInBounds j true) a' w' hfree' (ready_mono hr (Ne.symm hji)) h3.1 (h3.2.1 hg1) hg2 ?_⟩) h2
      rw [Array.setIfInBounds_comm _ _ hji]
      exact h3.2.2
theorem wpAnyHU_first0 {S : World → Prop} {Q : Exit → Act → World → Prop} {i p : Nat} {oi : Oper} {v : Value} (hi : ops[i]? = some oi) (hsel : ∀ (j : Nat) (o : Oper) cs b, ops[j]? = some o → o.op ≠ .select cs b)
    (hQ : ∀ c a w, Q (.panic c) (a.put oi.dst v) w → Q (.panic c) a w) (hpi : p ≠ i) :
    ∀ (fuel : Nat) (listed : Array Bool) (a : Act) (w : World),
      (∀ j oj, ops[j]? = some oj → j ≠ i → listed.getD j true = false → (∀ e ∈ oj.after, Region.binds md e = true → e.on ≠ i) → oi.apart ops oj = true) →
      i ∈ Region.ready md ops listed → YieldsIf P ops (fun _ => True) oi v a → (listed.getD p true = false → S w) →
      wpAnyHU P ro md ops Q S p fuel (listed.setIfInBounds i true) (a.put oi.dst v) w → wpAnyHU P ro md ops Q S p (fuel + 1) listed a w := by
  have hgp : ∀ listed : Array Bool, (listed.setIfInBounds i true).getD p true = listed.getD p true := fun listed => getD_set_ne true (Ne.symm hpi)
  intro fuel
  induction fuel with
  | zero =>
    intro listed a w _ hr hy hS H
    refine ⟨fun h => (by rw [h] at hr; cases hr), fun j hj => ?_⟩
    by_cases hji : j = i
    · subst hji; exact yieldsIf_wpOpIn hi hy trivial ⟨fun q => hS (by rw [← hgp]; exact q), H⟩
    · have := ready_mono hj hji
      rw [H.1] at this
      cases this
  | succ fuel ih =>
    intro listed a w hfree hr hy hS H
    refine ⟨fun h => (by rw [h] at hr; cases hr), fun j hj => ?_⟩
    by_cases hji : j = i
    · subst hji; exact yieldsIf_wpOpIn hi hy trivial ⟨fun q => hS (by rw [← hgp]; exact q), H⟩
    · have h1 := H.2 j (ready_mono hj hji)
      obtain ⟨hjun, oj, hoj, hall⟩ := mem_ready.1 hj
      have hnot : ∀ e ∈ oj.after, Region.binds md e = true → e.on ≠ i := fun e he hb heq => by
        have h1 := hall e he hb
        have h0 := (mem_ready.1 hr).1
        rw [heq] at h1
        rcases Nat.lt_or_ge i listed.size with h' | h'
        · simp [h'] at h0 h1; rw [h0] at h1; cases h1
        · simp [Array.getElem?_eq_none h'] at h1
      have h2 := wpOpIn_putIf hoj (hfree j oj hoj hji hjun hnot) (fun cs b => hsel i oi cs b hi) (fun cs b => hsel j oj cs b hoj) hQ hy h1
      have hfree' : ∀ k ok, ops[k]? = some ok → k ≠ i → (listed.setIfInBounds j true).getD k true = false →
          (∀ e ∈ ok.after, Region.binds md e = true → e.on ≠ i) → oi.apart ops ok = true := fun k ok hk hki hun hno => by
        refine hfree k ok hk hki ?_ hno
        by_cases hjk : j = k
        · subst hjk; exact hjun
        · rw [getD_set_ne true hjk] at hun; exact hun
      have hsw : ∀ l : Array Bool, ((l.setIfInBounds i true).setIfInBounds j true).getD p true = (l.setIfInBounds j true).getD p true := fun l => by
        rw [Array.setIfInBounds_comm _ _ (Ne.symm hji), hgp]
      refine wpOpIn_mono (fun a' w' h3 => ⟨fun q => h3.2.1 (by rw [hsw]; exact q), ih (listed.setIfInBounds j true) a' w' hfree' (ready_mono hr (Ne.symm hji)) h3.1 (fun q => h3.2.1 (by rw [hsw]; exact q)) ?_⟩) h2
      rw [Array.setIfInBounds_comm _ _ hji]
      exact h3.2.2
def linkB (ops : Array Oper) (listed : Array Bool) (p i : Nat) (B : List Nat) : Bool :=
  B.contains i && B.contains p && p != i && B.all fun b => !(listed.getD b true) && (b == i || match ops[b]? with
    | some o => o.after.any fun e => Region.binds .any e && B.contains e.on
    | none => true)
theorem linkB_ok {listed : Array Bool} {p i : Nat} {B : List Nat} (h : linkB ops listed p i B = true) : i ∈ B ∧ p ∈ B ∧ p ≠ i ∧ (∀ b ∈ B, b ≠ i → ∀ ob, ops[b]? = some ob → ∃ e ∈ ob.after, Region.binds .any e = true ∧ e.on ∈ B) ∧ ∀ b ∈ B, listed.getD b true = false := by
  simp only [linkB, Bool.and_eq_true, List.contains_iff_mem, bne_iff_ne, List.all_eq_true, Bool.not_eq_true', Bool.or_eq_true, beq_iff_eq] at h
  obtain ⟨⟨⟨h1, h2⟩, h3⟩, h4⟩ := h
  refine ⟨h1, h2, h3, fun b hb hne ob hob => ?_, fun b hb => (h4 b hb).1⟩
  rcases (h4 b hb).2 with q | q
  · exact absurd q hne
  · rw [hob] at q
    simp only [Array.any_eq_true', Bool.and_eq_true, List.contains_iff_mem] at q
    obtain ⟨e, q1, q2, q3⟩ := q
    exact ⟨e, q1, q2, q3⟩
end
section
variable {C : Ctx} {K : List KI} {s : St} {R : Array Oper} {l : List Oper} {d : Option Tmp} {t : TypeId} {pos : String} {aft : Array Edge}
theorem hu_takeB (i : Nat) (B : List Nat) {own0 : List (Nat × Nat × OO)} {G0 : Hp} {n p : Nat} {listed : Array Bool} {op : Op} {x : SV} (hi : R[i]? = some ⟨d, op, t, pos, aft, none⟩) (hs : Region.noSelect R = true) (hf : Region.free .any R listed i = true)
    (hr : (Region.ready .any R listed).contains i = true) (hp : linkB R listed p i B = true) (hQ : QPd C d) (hd : dOk C.nt d = true) (ho : ∀ j y, lk j own0 = some y → lk j s.own = some y) (hG : Le G0 s.G)
    (hq : Quiet C s.sl own0 G0 op x.den) (h : SGo C (.hu (Hold C own0 G0) p R n (listed.setIfInBounds i true) :: K) ⟨putS d x s.sl, s.own, s.G, s.df⟩) :
    SGo C (.hu (Hold C own0 G0) p R (n + 1) listed :: K) s := by
  intro a w hS
  have hhold : Hold C own0 G0 w := ⟨fun k b o e => (hS.mem.own k b o (ho _ _ e)).1, fun b o e => hS.mem.has b o (hG b o e)⟩
  have := h _ _ (hS.put hd x hS.mem)
  simp only [wpK] at this ⊢
  obtain ⟨h1, h2, h3, h4, h5⟩ := linkB_ok hp
  refine wpAnyHU_firstB (i := i) (v := x.den) B hi (Region.noSelect_spec hs) ?_ h1 h2 h3 h4 n listed a w (Region.free_spec hi hf) (by simpa using hr) (.inl ⟨by simp [Region.wanted], fun w' hw' => hq a w' d t pos aft none hS.sl hw'⟩) hhold h5 this
  intro c a' w' hp
  exact wpK_panic c d x.den (fun a w => hQ c a w x.den) K a' w' hp
theorem hu_take0 (i : Nat) {own0 : List (Nat × Nat × OO)} {G0 : Hp} {n p : Nat} {listed : Array Bool} {op : Op} {x : SV} (hi : R[i]? = some ⟨d, op, t, pos, aft, none⟩) (hs : Region.noSelect R = true) (hf : Region.free .any R listed i = true)
    (hr : (Region.ready .any R listed).contains i = true) (hpi : p ≠ i) (hQ : QPd C d) (hd : dOk C.nt d = true) (ho : ∀ j y, lk j own0 = some y → lk j s.own = some y) (hG : Le G0 s.G)
    (hq : Quiet C s.sl [] (fun _ => none) op x.den) (h : SGo C (.hu (Hold C own0 G0) p R n (listed.setIfInBounds i true) :: K) ⟨putS d x s.sl, s.own, s.G, s.df⟩) :
    SGo C (.hu (Hold C own0 G0) p R (n + 1) listed :: K) s := by
  intro a w hS
  have hhold : Hold C own0 G0 w := ⟨fun k b o e => (hS.mem.own k b o (ho _ _ e)).1, fun b o e => hS.mem.has b o (hG b o e)⟩
  have := h _ _ (hS.put hd x hS.mem)
  simp only [wpK] at this ⊢
  refine wpAnyHU_first0 (i := i) (v := x.den) hi (Region.noSelect_spec hs) ?_ hpi n listed a w (Region.free_spec hi hf) (by simpa using hr) (.inl ⟨by simp [Region.wanted], fun w' _ => hq a w' d t pos aft none hS.sl ⟨fun k b o e => by simp [lk] at e, fun b o e => by cases e⟩⟩) (fun _ => hhold) this
  intro c a' w' hp
  exact wpK_panic c d x.den (fun a w => hQ c a w x.den) K a' w' hp
end
end Go.Sx
