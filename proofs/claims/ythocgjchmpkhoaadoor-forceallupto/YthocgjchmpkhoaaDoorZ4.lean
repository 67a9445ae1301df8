/-
  Package val: a value's copy, each list with its capacity.
-/
import Derived.Test.YthocgjchmpkhoaaDoorZ3
set_option linter.unusedSimpArgs false
set_option linter.unusedVariables false
namespace Go.Proofs.YthocgjchmpkhoaaDoor
set_option linter.unusedSimpArgs false
set_option linter.unusedVariables false
open Go.Sx
def CopiedC (x : VT) (v : Value) (G : Hp) : Prop := ∃ ad cap, v = .agg #[.int .i64 x.k, .int .i64 x.n, .slice ad x.l.length cap] ∧ x.repC G (.slice ad x.l.length cap)
set_option maxHeartbeats 4000000
theorem cloneC_ok (x : VT) : ∀ (sl : Value) (G : Hp) (hr : x.rep G sl) (hb : tsz x ≤ 2000000), Pure Tryd.prog 56 [.agg #[.int .i64 x.k, .int .i64 x.n, sl]] G (CopiedC x) := by
  induction x using VT.ind with
  | h k m l IH =>
  intro sl G hr hb
  have hr0 := hr
  refine enterX ty tyok Tryd.func56 rfl Tryd.ntmps56 [.a [.v (.int .i64 k), .v (.int .i64 m), .v sl]] (by simp) ?_
  intro C hP hQ hnt hty hmb hmh hro; have hQp := qp_body hQ; refine st_ ?_
  rw [rep_iff] at hr
  obtain ⟨hk, hm, hl, ad, cap, rfl, hr⟩ := hr
  have htl := tszL_len l
  have htx : tsz (.mk k m l) = 1 + tszL l := by simp only [tsz]
  refine rn_ ?_; intros
  refine x_if rfl rfl rfl rfl (fun ht => ?_) (fun ht => ?_)
  · have hpos : 0 < l.length := by simp at ht; first | exact ht | exact List.length_pos_iff.2 ht
    rcases hr with rfl | ⟨b, off, cs, rfl, ha, hrV⟩
    · simp at hpos
    refine rn_ ?_; intros
    refine go_make 3 (by rw [hnt]; rfl) (by rw [hty]; rfl) (by rw [hty]; rfl) rfl rfl (Nat.le_refl _) rfl (by omega) (by omega) (by simp only []; omega) (by simp) ?_
    intro g
    refine rn_ ?_; intros
    refine go_keep [2, 3, 21, 22, 23] [1, 2, 3] ?_
    refine st_ ?_
    rename_i b0 b1 b2
    refine x_loop rfl (fun q s => ∃ (j : Nat) (G' : Hp) (xs : List Value), j ≤ l.length ∧ q = l.length - j ∧ Le G G' ∧ repVC G' (l.take j) xs ∧
      s = ⟨[(2, .p 1 b1 0), (3, .p 2 b2 0), (21, .v (.slice (some ⟨b, off, none⟩) l.length cap)), (22, .v (.int .i64 l.length)), (23, .v (.int .i64 j))],
        [(1, b1, .c 25 [.v (.int .i64 0), .v (.int .i64 0), .v (.slice none 0 0)]), (2, b2, .c 25 [.v (.int .i64 k), .v (.int .i64 m), .v (.slice (some ⟨g, 0, none⟩) l.length l.length)]),
         (3, g, .row (.slice (some ⟨g, 0, none⟩) l.length l.length) 25 3 l.length (xs ++ rep [.int .i64 0, .int .i64 0, .slice none 0 0] (l.length - j)))], G', []⟩)
      ⟨0, G, [], by omega, rfl, Le.refl _, by simp [repVC], by simp⟩ ?_
    rintro q s ⟨j, G', xs, hj, hq, hle, hxs, rfl⟩ ih
    refine rn_ ?_; intros
    refine x_if rfl rfl rfl rfl (fun hj2 => ?_) (fun hj2 => ?_)
    · have hlt : j < l.length := by simp at hj2; omega
      obtain ⟨adx, capx, hat, hrx⟩ := At_get ha hrV hlt
      have hxl := repVC_len hxs
      refine rn_ ?_; intros
      refine go_q (by rw [hnt]; rfl) (quiet_index (by rw [hty]; rfl) (by rw [hty]; rfl) rfl rfl rfl (by omega) (by omega)) ?_
      refine go_q (by rw [hnt]; rfl) (quiet_load (by rw [hty]; rfl) rfl (by simp [TK.agg]) (hat.mono hle) rfl) ?_
      refine rn_ ?_; intros
      rename_i b4
      refine go_keep [2, 3, 4, 5, 21, 22, 23] [1, 2, 3, 4] ?_
      refine st_ ?_
      refine x_held [(2, b2, .c 25 [.v (.int .i64 k), .v (.int .i64 m), .v (.slice (some ⟨g, 0, none⟩) l.length l.length)]), (4, b4, .c 25 [.v (.int .i64 l[j].k), .v (.int .i64 l[j].n), .v (.slice adx l[j].l.length capx)])] rfl (by rw [hP]; kernel_rfl) rfl rfl rfl ?_; refine st_ ?_
      refine h_take 0 rfl (by kernel_rfl) (by kernel_rfl) (by kernel_rfl) hQp (by rw [hnt]; rfl) (allIn (by repeat (first | exact trivial | refine ⟨rfl, ?_⟩))) (by first | exact Le.refl _ | assumption) (quiet_op (by rw [hty]; first | rfl | (refine st_ ?_; rfl))) ?_; refine st_ ?_
      refine h_take 1 rfl (by kernel_rfl) (by kernel_rfl) (by kernel_rfl) hQp (by rw [hnt]; rfl) (allIn (by repeat (first | exact trivial | refine ⟨rfl, ?_⟩))) (by first | exact Le.refl _ | assumption) (quiet_op (by rw [hty]; first | rfl | (refine st_ ?_; rfl))) ?_; refine st_ ?_
      refine h_take 2 rfl (by kernel_rfl) (by kernel_rfl) (by kernel_rfl) hQp (by rw [hnt]; rfl) (allIn (by repeat (first | exact trivial | refine ⟨rfl, ?_⟩))) (by first | exact Le.refl _ | assumption) (quiet_op (by rw [hty]; first | rfl | (refine st_ ?_; rfl))) ?_; refine st_ ?_
      refine h_take 3 rfl (by kernel_rfl) (by kernel_rfl) (by kernel_rfl) hQp (by rw [hnt]; rfl) (allIn (by repeat (first | exact trivial | refine ⟨rfl, ?_⟩))) (by first | exact Le.refl _ | assumption) (quiet_op (by rw [hty]; first | rfl | (refine st_ ?_; rfl))) ?_; refine st_ ?_
      refine h_one 4 rfl (by kernel_rfl) ?_
      have htj := tszL_mem (List.getElem_mem hlt)
      have htj' : tsz l[j] ≤ 2000000 := by omega
      refine go_call (by rw [hnt]; rfl) (by rw [hP]; kernel_rfl) rfl (hP ▸ IH l[j] (List.getElem_mem hlt) _ G' (VT.rep_mono hle hrx) htj') ?_
      rintro v G1 (hle1 : Le G' G1) ⟨adc, capc, rfl, hrc⟩
      refine rn_ ?_; intros
      refine h_hs (allIn (by repeat (first | exact trivial | refine ⟨rfl, ?_⟩))) (by first | exact Le.refl _ | assumption) ?_
      refine h_one 5 rfl (by kernel_rfl) ?_
      refine go_q (by rw [hnt]; rfl) (quiet_index (by rw [hty]; rfl) (by rw [hty]; rfl) rfl rfl rfl (by omega) (by omega)) ?_
      refine rn_ ?_; intros
      refine h_hs (allIn (by repeat (first | exact trivial | refine ⟨rfl, ?_⟩))) (by first | exact Le.refl _ | assumption) ?_
      refine h_one 6 rfl (by kernel_rfl) ?_
      have hsucc : l.length - j = (l.length - (j + 1)) + 1 := by omega
      have hlay : lay (xs ++ rep [.int .i64 0, .int .i64 0, .slice none 0 0] (l.length - j)) (j * 3) [.int .i64 l[j].k, .int .i64 l[j].n, .slice adc l[j].l.length capc] =
          some (xs ++ [.int .i64 l[j].k, .int .i64 l[j].n, .slice adc l[j].l.length capc] ++ rep [.int .i64 0, .int .i64 0, .slice none 0 0] (l.length - (j + 1))) := by
        have h0 : j * 3 = xs.length := by rw [hxl, List.length_take, Nat.min_eq_left hj]
        rw [hsucc, h0, rep, ← List.append_assoc]
        exact lay_at xs _ _ _ (by simp)
      refine go_storeR 3 rfl (by rw [hty]; rfl) rfl rfl rfl rfl rfl rfl hlay ?_
      refine rn_ ?_; intros
      refine h_hs (allIn (by repeat (first | exact trivial | refine ⟨rfl, ?_⟩))) (by first | exact Le.refl _ | assumption) ?_
      refine h_end (by kernel_rfl) ?_
      refine rn_ ?_; intros
      rw [wr (by omega) (by omega)]
      refine go_keep [2, 3, 21, 22, 23] [1, 2, 3] ?_
      refine st_ ?_
      refine ih (l.length - (j + 1)) _ (by omega) ⟨j + 1, G1, xs ++ [.int .i64 l[j].k, .int .i64 l[j].n, .slice adc l[j].l.length capc], by omega, rfl, hle.trans hle1, ?_, by simp⟩
      have htk : l.take (j + 1) = l.take j ++ [l[j]] := by rw [List.take_append_getElem]
      rw [htk]
      exact repVC_append (repVC_mono hle1 hxs) (by simp only [repVC]; exact ⟨_, _, rfl, hrc, rfl⟩)
    · have hge : j = l.length := by simp at hj2; omega
      subst hge
      refine rn_ ?_; intros
      simp only [Nat.sub_self, rep, List.append_nil]
      refine go_pubrow 3 rfl (by omega) ?_
      intro G2 (hle2 : Le G' G2) hat2
      refine st_ ?_
      refine x_retc rfl hQ hmb rfl (by rw [hty]; simp only [so, sq, zy, zz, tyE, SO', SQ', opQ, opStore, opAlloc, ev, putS, dOk, cv, SV.cs, SV.one, SV.bool?, eqB, Value.oneCell', ldOwn, binInt, binConst, binBool, binStr, isC, TK.agg, rv, rv1, ldV, resOne, resV, Nat.reduceAdd, Nat.reduceMul, Nat.reduceSub, Nat.reduceLT, Nat.reduceLeDiff, Nat.reduceEqDiff, Nat.reduceBEq, reduceIte, reduceCtorEq, eq_self]; try rfl) rfl ?_; simp only [SV.den, resV, dens]
      refine ⟨_, _, rfl, ?_⟩
      rw [repC_iff]
      rw [List.take_length] at hxs
      exact ⟨hk, hm, hl, _, _, rfl, Nat.le_refl _, .inr ⟨g, 0, xs, rfl, hat2, repVC_mono hle2 hxs⟩⟩
  · refine rn_ ?_; intros
    refine x_retc rfl hQ hmb rfl (by rw [hty]; simp only [so, sq, zy, zz, tyE, SO', SQ', opQ, opStore, opAlloc, ev, putS, dOk, cv, SV.cs, SV.one, SV.bool?, eqB, Value.oneCell', ldOwn, binInt, binConst, binBool, binStr, isC, TK.agg, rv, rv1, ldV, resOne, resV, Nat.reduceAdd, Nat.reduceMul, Nat.reduceSub, Nat.reduceLT, Nat.reduceLeDiff, Nat.reduceEqDiff, Nat.reduceBEq, reduceIte, reduceCtorEq, eq_self]; try rfl) rfl ?_; simp only [SV.den, resV, dens]
    have hl0 : l = [] := List.length_eq_zero_iff.1 (by simp at ht; first | omega | (subst ht; rfl))
    subst hl0
    refine ⟨none, 0, rfl, ?_⟩
    rw [repC_iff]
    refine ⟨hk, hm, hl, none, 0, rfl, Nat.le_refl _, .inl rfl⟩
theorem copyC_ok (x : VT) (sl : Value) (G : Hp) (hr : x.rep G sl) (hb : tsz x ≤ 2000000) : Pure Tryd.prog 29 [.agg #[.int .i64 x.k, .int .i64 x.n, sl]] G (fun v G' => (sml x = true ∧ CopiedC x v G') ∨ (sml x = false ∧ v = zeroV)) := by
  obtain ⟨ad, cap, rfl⟩ := VT.rep_slice hr
  refine enterX ty tyok Tryd.func29 rfl Tryd.ntmps29 [.a [.v (.int .i64 x.k), .v (.int .i64 x.n), .v _]] (by simp) ?_
  intro C hP hQ hnt hty hmb hmh hro; have hQp := qp_body hQ; refine st_ ?_
  refine rn_ ?_; intros
  refine go_callf (by rw [hnt]; rfl) (by rw [hP]; kernel_rfl) rfl (hP ▸ small_ok x _ G hr) ?_; refine rn_ ?_; intros
  refine x_if rfl rfl rfl rfl (fun ht => ?_) (fun ht => ?_)
  · refine rn_ ?_; intros
    refine x_retc rfl hQ hmb rfl (by rw [hty]; simp only [so, sq, zy, zz, tyE, SO', SQ', opQ, opStore, opAlloc, ev, putS, dOk, cv, SV.cs, SV.one, SV.bool?, eqB, Value.oneCell', ldOwn, binInt, binConst, binBool, binStr, isC, TK.agg, rv, rv1, ldV, resOne, resV, Nat.reduceAdd, Nat.reduceMul, Nat.reduceSub, Nat.reduceLT, Nat.reduceLeDiff, Nat.reduceEqDiff, Nat.reduceBEq, reduceIte, reduceCtorEq, eq_self]; try rfl) rfl ?_; simp only [SV.den, resV, dens]
    exact .inr ⟨by simpa using ht, by first | rfl | trivial⟩
  · refine rn_ ?_; intros
    refine go_call (by rw [hnt]; rfl) (by rw [hP]; kernel_rfl) rfl (hP ▸ cloneC_ok x _ G hr hb) ?_
    rintro v G2 (hle2 : Le G G2) ⟨adc, capc, rfl, hrc⟩
    refine rn_ ?_; intros
    refine x_retc rfl hQ hmb rfl (by rw [hty]; simp only [so, sq, zy, zz, tyE, SO', SQ', opQ, opStore, opAlloc, ev, putS, dOk, cv, SV.cs, SV.one, SV.bool?, eqB, Value.oneCell', ldOwn, binInt, binConst, binBool, binStr, isC, TK.agg, rv, rv1, ldV, resOne, resV, Nat.reduceAdd, Nat.reduceMul, Nat.reduceSub, Nat.reduceLT, Nat.reduceLeDiff, Nat.reduceEqDiff, Nat.reduceBEq, reduceIte, reduceCtorEq, eq_self]; try rfl) rfl ?_; simp only [SV.den, resV, dens]
    exact .inl ⟨by simpa using ht, _, _, rfl, hrc⟩
end Go.Proofs.YthocgjchmpkhoaaDoor
namespace Go.Proofs.YthocgjchmpkhoaaDoor
set_option linter.unusedSimpArgs false
set_option linter.unusedVariables false
open Go.Sx
set_option maxHeartbeats 8000000
set_option maxRecDepth 20000
def giveI (f : Fc) (x : It) (v : VT) : It := ⟨v, x.w, if x.v.k = 12 then x.c ++ [f.c.getLastD 0] else x.c⟩
def giveG (f : Fc) (v : VT) : Fc × Int :=
  if vld v = false then (f, 2) else
  if f.st ≠ 2 then (f, 100) else
  match f.l.head? with
  | none => (f, 100)
  | some x => (putsF f [giveI f x v], 0)
theorem rI_atJ {G : Hp} {l : List Int} {ad : Option Addr} {n cap : Nat} (h : rI.S G l (.slice ad n cap)) {i : Nat} (hi : i < l.length) : ∃ b off, ad = some ⟨b, off, none⟩ ∧ At G b (off + i) [.int .i64 l[i]] := by
  obtain ⟨b, off, cap', c, hv, hat, rfl, _⟩ := Rp.S_get h hi
  cases hv
  exact ⟨b, off, rfl, by simpa [rI] using hat⟩
theorem rI_i64 {G : Hp} {l : List Int} {v : Value} (h : rI.S G l v) : ∀ n ∈ l, isI64 n := by
  obtain ⟨_, ad, cap, rfl, rfl | ⟨b, off, cs, rfl, ha, hL⟩⟩ := h
  · simp
  · exact (rI_L.1 hL).2
theorem give1_ok (f : Fc) (v : VT) (sv : Value) (bf bv b : Nat) (sl sb sc : Value) (G : Hp) (hbf : At G bf 0 (fzD b)) (hbv : At G bv 0 [.int .i64 v.k, .int .i64 v.n, sv]) (hv : v.repC G sv) (hvt : tsz v ≤ 1048576) (hvv : vld v = true) (h : FzH f G sl sb sc) (hst : f.st = 2) (hnc : ∀ x ∈ f.l.head?, x.v.k = 12 → 1 ≤ f.c.length) :
    PureWQ Tryd.prog 46 [.pointer (some ⟨bf, 0, none⟩), .pointer (some ⟨bv, 0, none⟩)] G (fzO b f.st sl sb sc) (FzRet (giveG f v).1 b) (FzPan (giveG f v).1 b) := by
  have hl1 := h.s (.inr (.inl hst))
  obtain ⟨al, cl, rfl⟩ := Rp.S_slice h.l
  obtain ⟨ac, cc, rfl⟩ := Rp.S_slice h.c
  obtain ⟨c0, o0, s1, s2, s3, e0, hat, hrx⟩ := rT_at h.l (i := 0) (by omega)
  subst e0
  obtain ⟨x, r, hfl⟩ : ∃ x r, f.l = x :: r := by
    cases hl : f.l with
    | nil => rw [hl] at hl1; simp at hl1
    | cons x r => exact ⟨x, r, rfl⟩
  have hh : f.l.head? = some x := by rw [hfl]; rfl
  have hx0 : f.l[0]'(by omega) = x := by simp [hfl]
  rw [hx0] at hat hrx
  have hgg : giveG f v = (putsF f [giveI f x v], 0) := by rw [giveG, if_neg (by simp [hvv]), if_neg (by simp [hst]), hh]
  have hxc := h.w x (by rw [hfl]; simp)
  have hbl := h.bl
  have hbb := h.bb
  have hbc := h.bc
  have hvs : sml v = true := by simp only [vld, Bool.and_eq_true] at hvv; exact hvv.1
  obtain ⟨a1, q1, rfl⟩ := VT.repC_slice hrx.v
  obtain ⟨a2, q2, rfl⟩ := Rp.S_slice hrx.w
  obtain ⟨a3, q3, rfl⟩ := Rp.S_slice hrx.c
  obtain ⟨av, qv, rfl⟩ := VT.repC_slice hv
  refine enterWQ ty tyok Tryd.func46 rfl Tryd.ntmps46 [.v (.pointer (some ⟨bf, 0, none⟩)), .v (.pointer (some ⟨bv, 0, none⟩))] (by simp) (mh := 1) rfl ?_
  intro C hP hQ hnt hty hmb hmh hro hG0 hmub; have hQp := qp_body hQ; refine st_ ?_
  simp only [enumO, fzO]
  refine rn_ ?_; intros
  refine go_q (v := .pointer (some ⟨b, 0, none⟩)) (by rw [hnt]; rfl) ((quiet_load (vs := fzD b) (by rw [hty]; rfl) rfl (by simp [TK.agg]) hbf rfl).cast (by rfl)) ?_
  refine go_slot 5 (.p 0 b 0) rfl rfl ?_
  refine st_ ?_
  refine rn_ ?_; intros
  refine go_q (by rw [hnt]; rfl) (quiet_index (by rw [hty]; rfl) (by rw [hty]; rfl) rfl rfl rfl (by omega) (by omega)) ?_
  refine rn_ ?_; intros
  refine go_q (v := .agg (itL x (.slice a1 x.v.l.length q1) (.slice a2 x.w.length q2) (.slice a3 x.c.length q3)).toArray) (by rw [hnt]; rfl) ((quiet_load (by rw [hty]; rfl) rfl (fun q => by cases q) (by simpa using hat) rfl).cast (by simp only [ldV]; rfl)) ?_
  simp only [itL]
  refine rn_ ?_; intros
  rename_i bp
  refine go_keep [0, 1, 2] [0, 1] ?_
  refine st_ ?_
  refine cut_tailK 1 (fun s' => ∃ (b3 : Nat) (G1 : Hp) (ad1 : Option Addr) (cap1 : Nat), Le G G1 ∧ v.repC G1 (.slice ad1 v.l.length cap1) ∧
    s' = ⟨[(0, .v (.pointer (some ⟨bf, 0, none⟩))), (2, .p 1 bp 0), (3, .p 2 b3 0)], [(0, b, .c 74 [.v (.int .i64 f.st), .v (.slice (some ⟨c0, o0, none⟩) f.l.length cl), .v sb, .v (.slice ac f.c.length cc)]), (1, bp, .c 79 [.v (.int .i64 x.v.k), .v (.int .i64 x.v.n), .v (.slice a1 x.v.l.length q1), .v (.slice a2 x.w.length q2), .v (.slice a3 x.c.length q3)]), (2, b3, .c 79 [.v (.int .i64 v.k), .v (.int .i64 v.n), .v (.slice ad1 v.l.length cap1), .v (.slice a2 x.w.length q2), .v (.slice a3 x.c.length q3)])], G1, []⟩) ?_ ?_
  rotate_left
  · intro Kr key
    simp only [List.take_succ_cons, List.take_zero, List.cons_append, List.nil_append]
    refine x_held [(1, bp, .c 79 [.v (.int .i64 x.v.k), .v (.int .i64 x.v.n), .v (.slice a1 x.v.l.length q1), .v (.slice a2 x.w.length q2), .v (.slice a3 x.c.length q3)])] rfl (by rw [hP]; kernel_rfl) rfl rfl rfl ?_; refine st_ ?_
    refine h_take 0 rfl (by kernel_rfl) (by kernel_rfl) (by kernel_rfl) hQp (by rw [hnt]; rfl) (allIn (by repeat (first | exact trivial | refine ⟨rfl, ?_⟩))) (by first | exact Le.refl _ | assumption) (x := .a [.v (.int .i64 v.k), .v (.int .i64 v.n), .v (.slice av v.l.length qv)]) ((quiet_load (by rw [hty]; rfl) rfl (fun q => by cases q) hbv rfl).cast (by simp only [ldV, SV.den, dens]; rfl)) ?_
    refine st_ ?_
    refine h_take 2 rfl (by kernel_rfl) (by kernel_rfl) (by kernel_rfl) hQp (by rw [hnt]; rfl) (allIn (by repeat (first | exact trivial | refine ⟨rfl, ?_⟩))) (by first | exact Le.refl _ | assumption) (quiet_op (by rw [hty]; first | rfl | (refine st_ ?_; rfl))) ?_; refine st_ ?_
    refine h_take 3 rfl (by kernel_rfl) (by kernel_rfl) (by kernel_rfl) hQp (by rw [hnt]; rfl) (allIn (by repeat (first | exact trivial | refine ⟨rfl, ?_⟩))) (by first | exact Le.refl _ | assumption) (quiet_op (by rw [hty]; first | rfl | (refine st_ ?_; rfl))) ?_; refine st_ ?_
    refine h_take 4 rfl (by kernel_rfl) (by kernel_rfl) (by kernel_rfl) hQp (by rw [hnt]; rfl) (allIn (by repeat (first | exact trivial | refine ⟨rfl, ?_⟩))) (by first | exact Le.refl _ | assumption) (quiet_op (by rw [hty]; first | rfl | (refine st_ ?_; rfl))) ?_; refine st_ ?_
    refine h_take 5 rfl (by kernel_rfl) (by kernel_rfl) (by kernel_rfl) hQp (by rw [hnt]; rfl) (allIn (by repeat (first | exact trivial | refine ⟨rfl, ?_⟩))) (by first | exact Le.refl _ | assumption) (quiet_op (by rw [hty]; first | rfl | (refine st_ ?_; rfl))) ?_; refine st_ ?_
    refine h_two 1 7 rfl rfl (by kernel_rfl) ?_ ?_
    · refine go_call (by rw [hnt]; rfl) (by rw [hP]; kernel_rfl) rfl (hP ▸ copyC_ok v _ G (VT.repC_rep hv) (by omega)) ?_
      rintro v2 G1 (hle1 : Le G G1) (⟨_, ad1, cap1, rfl, hcp⟩ | ⟨hno, _⟩)
      rotate_left
      · rw [hvs] at hno; cases hno
      refine rn_ ?_; intros
      refine h_hs (allIn (by repeat (first | exact trivial | refine ⟨rfl, ?_⟩))) (by first | exact Le.refl _ | assumption) ?_
      refine h_take 6 rfl (by kernel_rfl) (by kernel_rfl) (by kernel_rfl) hQp (by rw [hnt]; rfl) (allIn (by repeat (first | exact trivial | refine ⟨rfl, ?_⟩))) (by first | exact Le.refl _ | assumption) (quiet_op (by rw [hty]; first | rfl | (refine st_ ?_; rfl))) ?_; refine st_ ?_
      refine h_one 7 rfl (by kernel_rfl) ?_
      refine rn_ ?_; intros
      rename_i b3
      refine h_hs (allIn (by repeat (first | exact trivial | refine ⟨rfl, ?_⟩))) (by first | exact Le.refl _ | assumption) ?_
      refine h_one 8 rfl (by kernel_rfl) ?_
      refine rn_ ?_; intros
      refine h_hs (allIn (by repeat (first | exact trivial | refine ⟨rfl, ?_⟩))) (by first | exact Le.refl _ | assumption) ?_
      refine h_end (by kernel_rfl) ?_
      refine go_keep [0, 2, 3] [0, 1, 2] ?_
      refine st_ ?_
      exact key _ ⟨b3, G1, ad1, cap1, hle1, hcp, rfl⟩
    · refine rn_ ?_; intros
      rename_i b3
      refine h_hs (allIn (by repeat (first | exact trivial | refine ⟨rfl, ?_⟩))) (by first | exact Le.refl _ | assumption) ?_
      refine h_one 1 rfl (by kernel_rfl) ?_
      refine go_call (by rw [hnt]; rfl) (by rw [hP]; kernel_rfl) rfl (hP ▸ copyC_ok v _ G (VT.repC_rep hv) (by omega)) ?_
      rintro v2 G1 (hle1 : Le G G1) (⟨_, ad1, cap1, rfl, hcp⟩ | ⟨hno, _⟩)
      rotate_left
      · rw [hvs] at hno; cases hno
      refine rn_ ?_; intros
      refine h_hs (allIn (by repeat (first | exact trivial | refine ⟨rfl, ?_⟩))) (by first | exact Le.refl _ | assumption) ?_
      refine h_take 6 rfl (by kernel_rfl) (by kernel_rfl) (by kernel_rfl) hQp (by rw [hnt]; rfl) (allIn (by repeat (first | exact trivial | refine ⟨rfl, ?_⟩))) (by first | exact Le.refl _ | assumption) (quiet_op (by rw [hty]; first | rfl | (refine st_ ?_; rfl))) ?_; refine st_ ?_
      refine h_one 8 rfl (by kernel_rfl) ?_
      refine rn_ ?_; intros
      refine h_hs (allIn (by repeat (first | exact trivial | refine ⟨rfl, ?_⟩))) (by first | exact Le.refl _ | assumption) ?_
      refine h_end (by kernel_rfl) ?_
      refine go_keep [0, 2, 3] [0, 1, 2] ?_
      refine st_ ?_
      exact key _ ⟨b3, G1, ad1, cap1, hle1, hcp, rfl⟩
  rintro s' ⟨b3, G1, ad1, cap1, hle1, hcp, rfl⟩
  simp only [List.drop_succ_cons, List.drop_zero]
  refine rn_ ?_; intros
  refine cut_tailK 1 (fun s' => ∃ (G2 : Hp) (a4 : Option Addr) (q4 : Nat), Le G1 G2 ∧ rI.S G2 (giveI f x v).c (.slice a4 (giveI f x v).c.length q4) ∧ CapOk (.slice a4 (giveI f x v).c.length q4) ∧
    s' = ⟨[(0, .v (.pointer (some ⟨bf, 0, none⟩))), (3, .p 2 b3 0)], [(0, b, .c 74 [.v (.int .i64 f.st), .v (.slice (some ⟨c0, o0, none⟩) f.l.length cl), .v sb, .v (.slice ac f.c.length cc)]), (2, b3, .c 79 [.v (.int .i64 v.k), .v (.int .i64 v.n), .v (.slice ad1 v.l.length cap1), .v (.slice a2 x.w.length q2), .v (.slice a4 (giveI f x v).c.length q4)])], G2, []⟩) ?_ ?_
  rotate_left
  · intro Kr key
    simp only [List.take_succ_cons, List.take_zero, List.cons_append, List.nil_append]
    by_cases k12 : x.v.k = 12
    rotate_left
    · have hgi : giveI f x v = ⟨v, x.w, x.c⟩ := by rw [giveI, if_neg k12]
      rw [hgi] at key
      (refine x_split rfl rfl rfl (fun hc => absurd hc (by simpa using k12)) (fun _ => ?_); refine st_ ?_; (refine ru_ ?_; intros))
      refine rn_ ?_; intros
      refine go_keep [0, 3] [0, 2] ?_
      refine st_ ?_
      exact key _ ⟨G1, a3, q3, Le.refl _, Rp.S_mono hle1 hrx.c, hrx.cc, rfl⟩
    have hc1 := hnc x (by rw [hh]; rfl) k12
    have hgl : f.c.getLastD 0 = f.c[f.c.length - 1]'(by omega) := by
      rw [List.getLastD_eq_getLast?, List.getLast?_eq_getElem?, List.getElem?_eq_getElem (by omega)]; rfl
    have hgi : giveI f x v = ⟨v, x.w, x.c ++ [f.c[f.c.length - 1]'(by omega)]⟩ := by rw [giveI, if_pos k12, hgl]
    rw [hgi] at key
    obtain ⟨c9, o9, e9, hat9⟩ := rI_atJ h.c (i := f.c.length - 1) (by omega)
    have hi9 : isI64 (f.c[f.c.length - 1]'(by omega)) := rI_i64 h.c _ (List.getElem_mem _)
    cases e9
    generalize f.c[f.c.length - 1]'(by omega) = n9 at *
    (refine x_split rfl rfl rfl (fun _ => ?_) (fun hc => absurd hc (by simpa using k12)); refine st_ ?_; (refine ru_ ?_; intros))
    refine rn_ ?_; intros
    refine x_draw rfl (by rw [hP]; kernel_rfl) rfl (by kernel_rfl) ?_
    refine runq 400 hty hnt ?_; refine st_ ?_
    refine q_q (v := .pointer (some ⟨b, 0, none⟩)) (by rw [hnt]; rfl) ((quiet_load (vs := fzD b) (by rw [hty]; rfl) rfl (by simp [TK.agg]) (hbf.mono hle1) rfl).cast (by rfl)) ?_
    refine go_slot 22 (.p 0 b 0) rfl rfl ?_
    refine st_ ?_
    refine runq 400 hty hnt ?_; refine st_ ?_
    refine q_q (v := .pointer (some ⟨b, 0, none⟩)) (by rw [hnt]; rfl) ((quiet_load (vs := fzD b) (by rw [hty]; rfl) rfl (by simp [TK.agg]) (hbf.mono hle1) rfl).cast (by rfl)) ?_
    refine go_slot 26 (.p 0 b 0) rfl rfl ?_
    refine st_ ?_
    refine runq 400 hty hnt ?_; refine st_ ?_
    rw [wr (n := (f.c.length : Int) - 1) (by omega) (by omega)]
    refine q_q (v := .pointer (some ⟨c9, o9 + (f.c.length - 1), none⟩)) (by rw [hnt]; rfl) ((quiet_index (by rw [hty]; rfl) (by rw [hty]; rfl) rfl rfl rfl (by omega) (by omega)).cast (by simp)) ?_
    refine runq 400 hty hnt ?_; refine st_ ?_
    refine q_q (v := .int .i64 n9) (by rw [hnt]; rfl) ((quiet_load (vs := [.int .i64 n9]) (by rw [hty]; rfl) rfl (by simp [TK.agg]) (hat9.mono hle1) rfl).cast (by rfl)) ?_
    refine runq 400 hty hnt ?_; refine st_ ?_
    refine q_end ?_; refine rn_ ?_; intros
    have hcap3 := hrx.cc _ _ _ rfl
    have hS9 : rI.S G1 x.c (.slice a3 x.c.length x.c.length) := by
      obtain ⟨q1, ad, c, q2, q3⟩ := Rp.S_mono hle1 hrx.c
      cases q2
      exact ⟨q1, _, _, rfl, q3⟩
    refine go_q (v := .slice a3 x.c.length x.c.length) (by rw [hnt]; rfl) ((quiet_slice3 (by rw [hty]; rfl) (by rw [hty]; rfl) rfl rfl rfl rfl (by omega) (by omega)).cast (by
      have e2 : a3.map (fun x => x.add 0) = a3 := by cases a3 <;> simp [Addr.add]
      simp only [Sx.sliced, Int.toNat_natCast, Nat.sub_zero, Nat.zero_mul, e2, ite_self])) ?_
    refine rn_ ?_; intros
    refine go_appendS rI (l1 := x.c) (l2 := [n9]) (by rw [hnt]; rfl) (by rw [hty]; rfl) (by rw [hty]; rfl) (by decide) rfl rfl rfl rfl hS9 rfl (.inr (src_own 1 rfl rfl)) rfl (Rp.L_single ⟨rfl, hi9⟩) (by omega) (by simp only []; omega) ?_
    intro G2 ad2 cap2 (hle2 : Le G1 G2) hcap2 hS2
    refine rn_ ?_; intros
    refine go_keep [0, 3] [0, 2] ?_
    refine st_ ?_
    exact key _ ⟨G2, ad2, cap2, hle2, hS2, fun ad n c h => by cases h; simp; omega, rfl⟩
  rintro s' ⟨G2, a4, q4, hle2, hS4, hca4, rfl⟩
  simp only [List.drop_succ_cons, List.drop_zero]
  have hle := hle1.trans hle2
  have hgv : (giveI f x v).v = v := rfl
  have hgw : (giveI f x v).w = x.w := rfl
  refine rn_ ?_; intros
  refine go_q (v := .pointer (some ⟨b, 0, none⟩)) (by rw [hnt]; rfl) ((quiet_load (vs := fzD b) (by rw [hty]; rfl) rfl (by simp [TK.agg]) (hbf.mono hle) rfl).cast (by rfl)) ?_
  refine rn_ ?_; intros
  rename_i b9
  refine go_slot 49 (.v (.slice (some ⟨b9, 0, none⟩) 1 1)) rfl rfl ?_
  refine go_litrow 3 (n := 1) (size := 5) rfl (by omega) rfl (by omega) ?_
  refine st_ ?_
  refine go_pubL rT 3 rfl (by omega) (ts := [giveI f x v]) rfl (by omega) (Rp.L_single ⟨_, _, _, rfl, ⟨VT.repC_mono hle2 hcp, hvt, Rp.S_mono hle hrx.w, hS4, hca4⟩⟩) ?_
  intro G3 y9 z9 (hle3 : Le G2 G3) he3 hS3
  rw [← he3] at hS3
  have hle03 := hle.trans hle3
  refine st_ ?_
  refine go_callWQ [0] (ow := fzO b f.st (.slice (some ⟨c0, o0, none⟩) f.l.length cl) sb (.slice ac f.c.length cc)) (by rw [hnt]; rfl) rfl (by rw [hP]; kernel_rfl) rfl rfl rfl (.inr (by intro k hk; simp at hk; subst hk; rw [hmh]; omega))
    (hP ▸ repl_ok f b _ _ _ _ _ G3 (h.B.mono hle03) (Rp.S_mono hle03 h.l) h.cl (Rp.S_mono hle03 h.b) hS3 (fun ad n c h => by cases h; omega) hl1 h.w (by omega) (by omega) (by simp)) ?_ ?_
  · rintro v G4 ow (hle4 : Le G3 G4) ⟨sl', hcl', hl', hb', hc', rfl⟩
    simp only [setO, fzO]
    refine st_ ?_
    refine rn_ ?_; intros
    refine x_endWQ hQ hmb hmh hG0 hmub rfl rfl rfl rfl (by simp only [enumO]; exact (by repeat (first | exact plain_nil | refine plain_cons (fun _ h => h) ?_))) ?_
    intro _
    rw [hgg]
    exact ⟨sl', _, _, hcl', h.cb, h.cc, hl', by rw [hb']; exact Rp.S_mono (hle03.trans hle4) h.b, by rw [hc']; exact Rp.S_mono (hle03.trans hle4) h.c, rfl⟩
  · rintro v G4 ow (hle4 : Le G3 G4) ⟨rfl, hwr, rfl⟩
    simp only [setO, fzO]
    refine st_ ?_
    refine x_panWQ hQ hmb hmh hG0 hmub rfl rfl rfl (by simp only [enumO]; exact (by repeat (first | exact plain_nil | refine plain_cons (fun _ h => h) ?_))) ?_
    rw [hgg]
    exact ⟨rfl, hwr, _, _, _, _, rfl⟩
end Go.Proofs.YthocgjchmpkhoaaDoor
namespace Go.Proofs.YthocgjchmpkhoaaDoor
set_option linter.unusedSimpArgs false
set_option linter.unusedVariables false
open Go.Sx
set_option maxHeartbeats 8000000
set_option maxRecDepth 20000
theorem fgive_ok (f : Fc) (v : VT) (sv : Value) (b : Nat) (sl sb sc : Value) (G : Hp) (h : FzH f G sl sb sc) (hv : v.repC G sv) (hvt : tsz v ≤ 1048576) (hnc : f.st = 2 → ∀ x ∈ f.l.head?, x.v.k = 12 → 1 ≤ f.c.length) :
    PureW Tryd.prog 23 [.pointer (some ⟨b, 0, none⟩), .agg #[.int .i64 v.k, .int .i64 v.n, sv]] G (fzO b f.st sl sb sc) (fun u G' ow => u = .int .i64 (giveG f v).2 ∧ FzR G' (giveG f v).1 b ow) := by
  obtain ⟨av, qv, rfl⟩ := VT.repC_slice hv
  refine enterW ty tyok Tryd.func23 rfl Tryd.ntmps23 [.p 0 b 0, .a [.v (.int .i64 v.k), .v (.int .i64 v.n), .v (.slice av v.l.length qv)]] (by simp) (mh := 1) rfl ?_
  intro C hP hQ hnt hty hmb hmh hro hG0 hmub; have hQp := qp_body hQ; refine st_ ?_
  simp only [enumO, fzO]
  refine rn_ ?_; intros
  rename_i bf bv
  refine go_callW [0] (ow := fzO b f.st sl sb sc) (by rw [hnt]; rfl) (by rw [hP]; kernel_rfl) rfl rfl rfl (.inr (by intro k hk; simp at hk; subst hk; rw [hmh]; omega)) (hP ▸ none_ok b f.st sl sb sc G) ?_
  rintro v1 G1 ow (hle1 : Le G G1) ⟨rfl, rfl⟩
  simp only [setO, fzO]
  refine st_ ?_
  refine rn_ ?_; intros
  (refine x_split rfl rfl rfl (fun hc => absurd hc (by simpa using h.z)) (fun _ => ?_); refine st_ ?_; (refine ru_ ?_; intros))
  refine rn_ ?_; intros
  refine go_callf (by rw [hnt]; rfl) (by rw [hP]; kernel_rfl) rfl (hP ▸ check_ok v _ G1 (VT.repC_rep (VT.repC_mono hle1 hv))) ?_; refine rn_ ?_; intros
  cases hvv : vld v
  · (refine x_split rfl rfl rfl (fun _ => ?_) (fun hc => absurd hc (by simp [chk, hvv])); refine st_ ?_; (refine ru_ ?_; intros))
    refine rn_ ?_; intros
    refine x_retW rfl hQ hmb hmh hG0 hmub rfl rfl (by rw [hty]; simp only [so, sq, zy, zz, tyE, SO', SQ', opQ, opStore, opAlloc, ev, putS, dOk, cv, SV.cs, SV.one, SV.bool?, eqB, Value.oneCell', ldOwn, binInt, binConst, binBool, binStr, isC, TK.agg, rv, rv1, ldV, resOne, resV, Nat.reduceAdd, Nat.reduceMul, Nat.reduceSub, Nat.reduceLT, Nat.reduceLeDiff, Nat.reduceEqDiff, Nat.reduceBEq, reduceIte, reduceCtorEq, eq_self]; try rfl) rfl rfl (by simp only [enumO]; exact (by repeat (first | exact plain_nil | refine plain_cons (fun _ h => h) ?_))) ?_; simp only [SV.den, resV, dens]
    rw [giveG, if_pos hvv]
    exact ⟨rfl, sl, sb, sc, h.cl, h.cb, h.cc, Rp.S_mono hle1 h.l, Rp.S_mono hle1 h.b, Rp.S_mono hle1 h.c, rfl⟩
  (refine x_split rfl rfl rfl (fun hc => absurd hc (by simp [chk, hvv])) (fun _ => ?_); refine st_ ?_; (refine ru_ ?_; intros))
  refine rn_ ?_; intros
  by_cases hst : f.st = 2
  rotate_left
  · (refine x_split rfl rfl rfl (fun _ => ?_) (fun hc => absurd hc (by simpa using hst)); refine st_ ?_; (refine ru_ ?_; intros))
    refine rn_ ?_; intros
    refine x_retW rfl hQ hmb hmh hG0 hmub rfl rfl (by rw [hty]; simp only [so, sq, zy, zz, tyE, SO', SQ', opQ, opStore, opAlloc, ev, putS, dOk, cv, SV.cs, SV.one, SV.bool?, eqB, Value.oneCell', ldOwn, binInt, binConst, binBool, binStr, isC, TK.agg, rv, rv1, ldV, resOne, resV, Nat.reduceAdd, Nat.reduceMul, Nat.reduceSub, Nat.reduceLT, Nat.reduceLeDiff, Nat.reduceEqDiff, Nat.reduceBEq, reduceIte, reduceCtorEq, eq_self]; try rfl) rfl rfl (by simp only [enumO]; exact (by repeat (first | exact plain_nil | refine plain_cons (fun _ h => h) ?_))) ?_; simp only [SV.den, resV, dens]
    rw [giveG, if_neg (by simp [hvv]), if_pos hst]
    exact ⟨rfl, sl, sb, sc, h.cl, h.cb, h.cc, Rp.S_mono hle1 h.l, Rp.S_mono hle1 h.b, Rp.S_mono hle1 h.c, rfl⟩
  (refine x_split rfl rfl rfl (fun hc => absurd hc (by simpa using hst)) (fun _ => ?_); refine st_ ?_; (refine ru_ ?_; intros))
  refine rn_ ?_; intros
  refine go_pub 1 rfl (by omega) ?_
  intro G2 (hle2 : Le G1 G2) hbf0
  refine go_pub 2 rfl (by omega) ?_
  intro G3 (hle3 : Le G2 G3) hbv0
  have hbf : At G3 bf 0 (fzD b) := (at_cellsG hbf0).mono hle3
  have hbv : At G3 bv 0 [.int .i64 v.k, .int .i64 v.n, .slice av v.l.length qv] := at_cellsG hbv0
  have hle := (hle1.trans hle2).trans hle3
  refine go_slot 16 (.v (.func (.func 46) #[] #[.pointer (some ⟨bf, 0, none⟩), .pointer (some ⟨bv, 0, none⟩)])) rfl rfl ?_
  refine st_ ?_
  refine go_callW [0] (ow := fzO b f.st sl sb sc) (by rw [hnt]; rfl) (by rw [hP]; kernel_rfl) rfl rfl rfl (.inr (by intro k hk; simp at hk; subst hk; rw [hmh]; omega))
    (hP ▸ perform_ok (giveG f v).1 46 [.pointer (some ⟨bf, 0, none⟩), .pointer (some ⟨bv, 0, none⟩)] b f.st sl sb sc G3 (by kernel_rfl) fun G4 hle4 => give1_ok f v _ bf bv b sl sb sc G4 (hbf.mono hle4) (hbv.mono hle4) (VT.repC_mono (hle.trans hle4) hv) hvt hvv (h.mono (hle.trans hle4)) hst (hnc hst)) ?_
  rintro v2 G4 ow (hle4 : Le G3 G4) ⟨sl', sb', sc', h1, h2, h3, h4, h5, h6, rfl⟩
  simp only [setO, fzO]
  refine st_ ?_
  refine rn_ ?_; intros
  refine x_retW rfl hQ hmb hmh hG0 hmub rfl rfl (by rw [hty]; simp only [so, sq, zy, zz, tyE, SO', SQ', opQ, opStore, opAlloc, ev, putS, dOk, cv, SV.cs, SV.one, SV.bool?, eqB, Value.oneCell', ldOwn, binInt, binConst, binBool, binStr, isC, TK.agg, rv, rv1, ldV, resOne, resV, Nat.reduceAdd, Nat.reduceMul, Nat.reduceSub, Nat.reduceLT, Nat.reduceLeDiff, Nat.reduceEqDiff, Nat.reduceBEq, reduceIte, reduceCtorEq, eq_self]; try rfl) rfl rfl (by simp only [enumO]; exact (by repeat (first | exact plain_nil | refine plain_cons (fun _ h => h) ?_))) ?_; simp only [SV.den, resV, dens]
  have e2 : (giveG f v).2 = 0 := by
    have hl1 := h.s (.inr (.inl hst))
    obtain ⟨x, r, hfl⟩ : ∃ x r, f.l = x :: r := by
      cases hl : f.l with
      | nil => rw [hl] at hl1; simp at hl1
      | cons x r => exact ⟨x, r, rfl⟩
    rw [giveG, if_neg (by simp [hvv]), if_neg (by simp [hst]), hfl]
    rfl
  rw [e2]
  exact ⟨rfl, sl', sb', sc', h1, h2, h3, h4, h5, h6, rfl⟩
theorem fstate_ok (b : Nat) (st : Int) (sl sb sc : Value) (G : Hp) (hz : st ≠ 0) : PureW Tryd.prog 18 [.pointer (some ⟨b, 0, none⟩)] G (fzO b st sl sb sc) (fun v _ ow => v = .int .i64 st ∧ ow = fzO b st sl sb sc) := by
  refine enterW ty tyok Tryd.func18 rfl Tryd.ntmps18 [.p 0 b 0] (by simp) (mh := 1) rfl ?_
  intro C hP hQ hnt hty hmb hmh hro hG0 hmub; have hQp := qp_body hQ; refine st_ ?_
  simp only [enumO, fzO]
  refine rn_ ?_; intros
  refine go_callW [0] (ow := fzO b st sl sb sc) (by rw [hnt]; rfl) (by rw [hP]; kernel_rfl) rfl rfl rfl (.inr (by intro k hk; simp at hk; subst hk; rw [hmh]; omega)) (hP ▸ none_ok b st sl sb sc G) ?_
  rintro v1 G1 ow (hle1 : Le G G1) ⟨rfl, rfl⟩
  simp only [setO, fzO]
  refine st_ ?_
  refine rn_ ?_; intros
  (refine x_split rfl rfl rfl (fun hc => absurd hc (by simpa using hz)) (fun _ => ?_); refine st_ ?_; (refine ru_ ?_; intros))
  refine rn_ ?_; intros
  refine x_retW rfl hQ hmb hmh hG0 hmub rfl rfl (by rw [hty]; simp only [so, sq, zy, zz, tyE, SO', SQ', opQ, opStore, opAlloc, ev, putS, dOk, cv, SV.cs, SV.one, SV.bool?, eqB, Value.oneCell', ldOwn, binInt, binConst, binBool, binStr, isC, TK.agg, rv, rv1, ldV, resOne, resV, Nat.reduceAdd, Nat.reduceMul, Nat.reduceSub, Nat.reduceLT, Nat.reduceLeDiff, Nat.reduceEqDiff, Nat.reduceBEq, reduceIte, reduceCtorEq, eq_self]; try rfl) rfl rfl (by simp only [enumO]; exact (by repeat (first | exact plain_nil | refine plain_cons (fun _ h => h) ?_))) ?_; simp only [SV.den, resV, dens]
  simp [fzO]
def condG (f : Fc) (n : Int) : Fc × Int :=
  if n < 0 ∨ (0 < f.c.length ∧ n ≤ f.c.getLastD 0) then (f, 2) else
  if f.st ≠ 3 then (f, 100) else ({ f with st := 2, c := f.c ++ [n] }, 0)
theorem fcond_ok (f : Fc) (n : Int) (b : Nat) (sl sb sc : Value) (G : Hp) (h : FzH f G sl sb sc) (hn : isI64 n) :
    PureW Tryd.prog 21 [.pointer (some ⟨b, 0, none⟩), .int .i64 n] G (fzO b f.st sl sb sc) (fun u G' ow => u = .int .i64 (condG f n).2 ∧ FzR G' (condG f n).1 b ow) := by
  obtain ⟨ac, cc, rfl⟩ := Rp.S_slice h.c
  have hbc := h.bc
  refine enterW ty tyok Tryd.func21 rfl Tryd.ntmps21 [.p 0 b 0, .v (.int .i64 n)] (by simp) (mh := 1) rfl ?_
  intro C hP hQ hnt hty hmb hmh hro hG0 hmub; have hQp := qp_body hQ; refine st_ ?_
  simp only [enumO, fzO]
  refine rn_ ?_; intros
  refine go_callW [0] (ow := fzO b f.st sl sb (.slice ac f.c.length cc)) (by rw [hnt]; rfl) (by rw [hP]; kernel_rfl) rfl rfl rfl (.inr (by intro k hk; simp at hk; subst hk; rw [hmh]; omega)) (hP ▸ none_ok b f.st sl sb _ G) ?_
  rintro v1 G1 ow (hle1 : Le G G1) ⟨rfl, rfl⟩
  simp only [setO, fzO]
  refine st_ ?_
  refine rn_ ?_; intros
  (refine x_split rfl rfl rfl (fun hc => absurd hc (by simpa using h.z)) (fun _ => ?_); refine st_ ?_; (refine ru_ ?_; intros))
  refine rn_ ?_; intros
  refine go_keep [0, 1, 4] [0] ?_
  refine st_ ?_
  refine cut_tailK 1 (fun s' => ∃ u, s' = ⟨[(0, .p 0 b 0), (1, .v (.int .i64 n)), (4, .v (.int .i64 0)), (32, .b u)], [(0, b, .c 74 [.v (.int .i64 f.st), .v sl, .v sb, .v (.slice ac f.c.length cc)])], G1, []⟩ ∧ u = decide (n < 0 ∨ (0 < f.c.length ∧ n ≤ f.c.getLastD 0))) ?_ ?_
  rotate_left
  · intro Kr key
    simp only [List.take_succ_cons, List.take_zero, List.cons_append, List.nil_append]
    refine x_draw rfl (by rw [hP]; kernel_rfl) rfl (by kernel_rfl) ?_
    refine runq 400 hty hnt ?_; refine st_ ?_
    by_cases hn0 : n < 0
    · (refine go_qsplit rfl rfl (fun _ => ?_) (fun hc => absurd hc (by simp [hn0])); refine st_ ?_; (try (refine runq 400 hty hnt ?_; refine st_ ?_)))
      repeat (refine q_gundef rfl (by rw [hnt]; rfl) rfl ?_; (refine st_ ?_; (try (refine runq 400 hty hnt ?_; refine st_ ?_))))
      refine q_end ?_; refine rn_ ?_; intros
      refine go_keep [0, 1, 4, 32] [0] ?_
      refine st_ ?_
      exact key _ ⟨true, rfl, by simp [hn0]⟩
    (refine go_qsplit rfl rfl (fun hc => absurd hc (by simp [hn0])) (fun _ => ?_); refine st_ ?_; (try (refine runq 400 hty hnt ?_; refine st_ ?_)))
    by_cases hc0 : f.c.length = 0
    · (refine go_qsplit rfl rfl (fun hc => absurd hc (by simp [hc0])) (fun _ => ?_); refine st_ ?_; (try (refine runq 400 hty hnt ?_; refine st_ ?_)))
      repeat (refine q_gundef rfl (by rw [hnt]; rfl) rfl ?_; (refine st_ ?_; (try (refine runq 400 hty hnt ?_; refine st_ ?_))))
      refine q_end ?_; refine rn_ ?_; intros
      refine go_keep [0, 1, 4, 32] [0] ?_
      refine st_ ?_
      exact key _ ⟨false, rfl, by simp [hn0, hc0]⟩
    (refine go_qsplit rfl rfl (fun _ => ?_) (fun hc => absurd hc (by rw [Bool.not_eq_false]; exact decide_eq_true (by omega))); refine st_ ?_; (try (refine runq 400 hty hnt ?_; refine st_ ?_)))
    rw [wr (n := (f.c.length : Int) - 1) (by omega) (by omega)]
    obtain ⟨c9, o9, e9, hat9⟩ := rI_atJ h.c (i := f.c.length - 1) (by omega)
    have hgl : f.c.getLastD 0 = f.c[f.c.length - 1]'(by omega) := by
      rw [List.getLastD_eq_getLast?, List.getLast?_eq_getElem?, List.getElem?_eq_getElem (by omega)]; rfl
    rw [hgl] at key
    generalize f.c[f.c.length - 1]'(by omega) = n9 at *
    cases e9
    refine q_q (v := .pointer (some ⟨c9, o9 + (f.c.length - 1), none⟩)) (by rw [hnt]; rfl) ((quiet_index (by rw [hty]; rfl) (by rw [hty]; rfl) rfl rfl rfl (by omega) (by omega)).cast (by simp)) ?_
    refine runq 400 hty hnt ?_; refine st_ ?_
    refine q_q (v := .int .i64 n9) (by rw [hnt]; rfl) ((quiet_load (vs := [.int .i64 n9]) (by rw [hty]; rfl) rfl (by simp [TK.agg]) (hat9.mono hle1) rfl).cast (by rfl)) ?_
    refine runq 400 hty hnt ?_; refine st_ ?_
    refine q_end ?_; refine rn_ ?_; intros
    refine go_slot 32 (.b (decide (n ≤ n9))) rfl rfl ?_
    refine go_keep [0, 1, 4, 32] [0] ?_
    refine st_ ?_
    have hc1 : 0 < f.c.length := by omega
    exact key _ ⟨_, rfl, by simp [hn0, hc1]⟩
  rintro s' ⟨u, rfl, hu⟩
  simp only [List.drop_succ_cons, List.drop_zero]
  cases u
  rotate_left
  · refine rn_ ?_; intros
    refine x_retW rfl hQ hmb hmh hG0 hmub rfl rfl (by rw [hty]; simp only [so, sq, zy, zz, tyE, SO', SQ', opQ, opStore, opAlloc, ev, putS, dOk, cv, SV.cs, SV.one, SV.bool?, eqB, Value.oneCell', ldOwn, binInt, binConst, binBool, binStr, isC, TK.agg, rv, rv1, ldV, resOne, resV, Nat.reduceAdd, Nat.reduceMul, Nat.reduceSub, Nat.reduceLT, Nat.reduceLeDiff, Nat.reduceEqDiff, Nat.reduceBEq, reduceIte, reduceCtorEq, eq_self]; try rfl) rfl rfl (by simp only [enumO]; exact (by repeat (first | exact plain_nil | refine plain_cons (fun _ h => h) ?_))) ?_; simp only [SV.den, resV, dens]
    rw [condG, if_pos (by simpa using hu.symm)]
    exact ⟨rfl, _, _, _, h.cl, h.cb, h.cc, Rp.S_mono hle1 h.l, Rp.S_mono hle1 h.b, Rp.S_mono hle1 h.c, rfl⟩
  have hu0 : ¬ (n < 0 ∨ (0 < f.c.length ∧ n ≤ f.c.getLastD 0)) := by simpa using hu.symm
  refine rn_ ?_; intros
  by_cases hst : f.st = 3
  rotate_left
  · (refine x_split rfl rfl rfl (fun _ => ?_) (fun hc => absurd hc (by simpa using hst)); refine st_ ?_; (refine ru_ ?_; intros))
    refine rn_ ?_; intros
    refine x_retW rfl hQ hmb hmh hG0 hmub rfl rfl (by rw [hty]; simp only [so, sq, zy, zz, tyE, SO', SQ', opQ, opStore, opAlloc, ev, putS, dOk, cv, SV.cs, SV.one, SV.bool?, eqB, Value.oneCell', ldOwn, binInt, binConst, binBool, binStr, isC, TK.agg, rv, rv1, ldV, resOne, resV, Nat.reduceAdd, Nat.reduceMul, Nat.reduceSub, Nat.reduceLT, Nat.reduceLeDiff, Nat.reduceEqDiff, Nat.reduceBEq, reduceIte, reduceCtorEq, eq_self]; try rfl) rfl rfl (by simp only [enumO]; exact (by repeat (first | exact plain_nil | refine plain_cons (fun _ h => h) ?_))) ?_; simp only [SV.den, resV, dens]
    rw [condG, if_neg hu0, if_pos hst]
    exact ⟨rfl, _, _, _, h.cl, h.cb, h.cc, Rp.S_mono hle1 h.l, Rp.S_mono hle1 h.b, Rp.S_mono hle1 h.c, rfl⟩
  (refine x_split rfl rfl rfl (fun hc => absurd hc (by simpa using hst)) (fun _ => ?_); refine st_ ?_; (refine ru_ ?_; intros))
  refine rn_ ?_; intros
  have hcc := h.cc _ _ _ rfl
  have hS9 : rI.S G1 f.c (.slice ac f.c.length f.c.length) := by
    obtain ⟨q1, ad, c, q2, q3⟩ := Rp.S_mono hle1 h.c
    cases q2
    exact ⟨q1, _, _, rfl, q3⟩
  refine x_heldP [(0, b, .c 74 [.v (.int .i64 f.st), .v sl, .v sb, .v (.slice ac f.c.length cc)])] 21 rfl (by rw [hP]; kernel_rfl) rfl rfl rfl ?_; refine st_ ?_
  refine hu_take 0 rfl (by kernel_rfl) (by kernel_rfl) (by kernel_rfl) (by kernel_rfl) rfl (fun c a w v => hQp c a w _ v) (by rw [hnt]; rfl) (allIn (by repeat (first | exact trivial | refine ⟨rfl, ?_⟩))) (by first | exact Le.refl _ | assumption) (quiet_op (by rw [hty]; first | rfl | (refine st_ ?_; rfl))) ?_; refine st_ ?_
  refine hu_take 1 rfl (by kernel_rfl) (by kernel_rfl) (by kernel_rfl) (by kernel_rfl) rfl (fun c a w v => hQp c a w _ v) (by rw [hnt]; rfl) (allIn (by repeat (first | exact trivial | refine ⟨rfl, ?_⟩))) (by first | exact Le.refl _ | assumption) (quiet_op (by rw [hty]; first | rfl | (refine st_ ?_; rfl))) ?_; refine st_ ?_
  refine hu_take 2 rfl (by kernel_rfl) (by kernel_rfl) (by kernel_rfl) (by kernel_rfl) rfl (fun c a w v => hQp c a w _ v) (by rw [hnt]; rfl) (allIn (by repeat (first | exact trivial | refine ⟨rfl, ?_⟩))) (by first | exact Le.refl _ | assumption) (quiet_op (by rw [hty]; first | rfl | (refine st_ ?_; rfl))) ?_; refine st_ ?_
  refine hu_take 3 rfl (by kernel_rfl) (by kernel_rfl) (by kernel_rfl) (by kernel_rfl) rfl (fun c a w v => hQp c a w _ v) (by rw [hnt]; rfl) (allIn (by repeat (first | exact trivial | refine ⟨rfl, ?_⟩))) (by first | exact Le.refl _ | assumption) (quiet_op (by rw [hty]; first | rfl | (refine st_ ?_; rfl))) ?_; refine st_ ?_
  refine hu_take 4 rfl (by kernel_rfl) (by kernel_rfl) (by kernel_rfl) (by kernel_rfl) rfl (fun c a w v => hQp c a w _ v) (by rw [hnt]; rfl) (allIn (by repeat (first | exact trivial | refine ⟨rfl, ?_⟩))) (by first | exact Le.refl _ | assumption) (quiet_op (by rw [hty]; first | rfl | (refine st_ ?_; rfl))) ?_; refine st_ ?_
  refine hu_take 5 rfl (by kernel_rfl) (by kernel_rfl) (by kernel_rfl) (by kernel_rfl) rfl (fun c a w v => hQp c a w _ v) (by rw [hnt]; rfl) (allIn (by repeat (first | exact trivial | refine ⟨rfl, ?_⟩))) (by first | exact Le.refl _ | assumption) (quiet_op (by rw [hty]; first | rfl | (refine st_ ?_; rfl))) ?_; refine st_ ?_
  refine hu_take 6 rfl (by kernel_rfl) (by kernel_rfl) (by kernel_rfl) (by kernel_rfl) rfl (fun c a w v => hQp c a w _ v) (by rw [hnt]; rfl) (allIn (by repeat (first | exact trivial | refine ⟨rfl, ?_⟩))) (by first | exact Le.refl _ | assumption) (quiet_op (by rw [hty]; first | rfl | (refine st_ ?_; rfl))) ?_; refine st_ ?_
  refine hu_take 7 rfl (by kernel_rfl) (by kernel_rfl) (by kernel_rfl) (by kernel_rfl) rfl (fun c a w v => hQp c a w _ v) (by rw [hnt]; rfl) (allIn (by repeat (first | exact trivial | refine ⟨rfl, ?_⟩))) (by first | exact Le.refl _ | assumption) (quiet_op (by rw [hty]; first | rfl | (refine st_ ?_; rfl))) ?_; refine st_ ?_
  refine hu_take 8 rfl (by kernel_rfl) (by kernel_rfl) (by kernel_rfl) (by kernel_rfl) rfl (fun c a w v => hQp c a w _ v) (by rw [hnt]; rfl) (allIn (by repeat (first | exact trivial | refine ⟨rfl, ?_⟩))) (by first | exact Le.refl _ | assumption) (quiet_op (by rw [hty]; first | rfl | (refine st_ ?_; rfl))) ?_; refine st_ ?_
  refine hu_take 9 rfl (by kernel_rfl) (by kernel_rfl) (by kernel_rfl) (by kernel_rfl) rfl (fun c a w v => hQp c a w _ v) (by rw [hnt]; rfl) (allIn (by repeat (first | exact trivial | refine ⟨rfl, ?_⟩))) (by first | exact Le.refl _ | assumption) (quiet_op (by rw [hty]; first | rfl | (refine st_ ?_; rfl))) ?_; refine st_ ?_
  refine hu_take 10 rfl (by kernel_rfl) (by kernel_rfl) (by kernel_rfl) (by kernel_rfl) rfl (fun c a w v => hQp c a w _ v) (by rw [hnt]; rfl) (allIn (by repeat (first | exact trivial | refine ⟨rfl, ?_⟩))) (by first | exact Le.refl _ | assumption) (quiet_op (by rw [hty]; first | rfl | (refine st_ ?_; rfl))) ?_; refine st_ ?_
  refine hu_take 11 rfl (by kernel_rfl) (by kernel_rfl) (by kernel_rfl) (by kernel_rfl) rfl (fun c a w v => hQp c a w _ v) (by rw [hnt]; rfl) (allIn (by repeat (first | exact trivial | refine ⟨rfl, ?_⟩))) (by first | exact Le.refl _ | assumption) (quiet_op (by rw [hty]; first | rfl | (refine st_ ?_; rfl))) ?_; refine st_ ?_
  refine hu_take 12 rfl (by kernel_rfl) (by kernel_rfl) (by kernel_rfl) (by kernel_rfl) rfl (fun c a w v => hQp c a w _ v) (by rw [hnt]; rfl) (allIn (by repeat (first | exact trivial | refine ⟨rfl, ?_⟩))) (by first | exact Le.refl _ | assumption) (quiet_op (by rw [hty]; first | rfl | (refine st_ ?_; rfl))) ?_; refine st_ ?_
  refine hu_take 13 rfl (by kernel_rfl) (by kernel_rfl) (by kernel_rfl) (by kernel_rfl) rfl (fun c a w v => hQp c a w _ v) (by rw [hnt]; rfl) (allIn (by repeat (first | exact trivial | refine ⟨rfl, ?_⟩))) (by first | exact Le.refl _ | assumption) (quiet_op (by rw [hty]; first | rfl | (refine st_ ?_; rfl))) ?_; refine st_ ?_
  refine hu_take 14 rfl (by kernel_rfl) (by kernel_rfl) (by kernel_rfl) (by kernel_rfl) rfl (fun c a w v => hQp c a w _ v) (by rw [hnt]; rfl) (allIn (by repeat (first | exact trivial | refine ⟨rfl, ?_⟩))) (by first | exact Le.refl _ | assumption) (quiet_op (by rw [hty]; first | rfl | (refine st_ ?_; rfl))) ?_; refine st_ ?_
  refine hu_take 15 rfl (by kernel_rfl) (by kernel_rfl) (by kernel_rfl) (by kernel_rfl) rfl (fun c a w v => hQp c a w _ v) (by rw [hnt]; rfl) (allIn (by repeat (first | exact trivial | refine ⟨rfl, ?_⟩))) (by first | exact Le.refl _ | assumption) (x := .v (.slice ac f.c.length f.c.length)) ((quiet_slice3 (by rw [hty]; rfl) (by rw [hty]; rfl) rfl rfl rfl rfl (by omega) (by omega)).cast (by
    have e2 : ac.map (fun x => x.add 0) = ac := by cases ac <;> simp [Addr.add]
    simp only [Sx.sliced, SV.den, Int.toNat_natCast, Nat.sub_zero, Nat.zero_mul, e2, ite_self])) ?_
  refine st_ ?_
  refine hu_take 16 rfl (by kernel_rfl) (by kernel_rfl) (by kernel_rfl) (by kernel_rfl) rfl (fun c a w v => hQp c a w _ v) (by rw [hnt]; rfl) (allIn (by repeat (first | exact trivial | refine ⟨rfl, ?_⟩))) (by first | exact Le.refl _ | assumption) (quiet_op (by rw [hty]; first | rfl | (refine st_ ?_; rfl))) ?_; refine st_ ?_
  refine hu_one 17 rfl (by kernel_rfl) ?_
  refine rn_ ?_; intros
  refine h_hs (allIn (by repeat (first | exact trivial | refine ⟨rfl, ?_⟩))) (by first | exact Le.refl _ | assumption) ?_
  refine hu_one 18 rfl (by kernel_rfl) ?_
  refine go_appendS rI (l1 := f.c) (l2 := [n]) (by rw [hnt]; rfl) (by rw [hty]; rfl) (by rw [hty]; rfl) (by decide) rfl rfl rfl rfl hS9 rfl (.inr (src_own 1 rfl rfl)) rfl (Rp.L_single ⟨rfl, hn⟩) (by omega) (by simp only []; omega) ?_
  intro G2 ad2 cap2 (hle2 : Le G1 G2) hcap2 hS2
  refine rn_ ?_; intros
  refine h_hs (allIn (by repeat (first | exact trivial | refine ⟨rfl, ?_⟩))) (by first | exact Le.refl _ | assumption) ?_
  refine hu_one 19 rfl (by kernel_rfl) ?_
  refine rn_ ?_; intros
  refine h_hs (allIn (by repeat (first | exact trivial | refine ⟨rfl, ?_⟩))) (by first | exact Le.refl _ | assumption) ?_
  refine hu_one 20 rfl (by kernel_rfl) ?_
  refine rn_ ?_; intros
  refine h_hs (allIn (by repeat (first | exact trivial | refine ⟨rfl, ?_⟩))) (by first | exact Le.refl _ | assumption) ?_
  refine hu_last 21 [] rfl (by kernel_rfl) rfl ?_
  refine rn_ ?_; intros
  refine h_end (by kernel_rfl) ?_
  refine rn_ ?_; intros
  refine x_retW rfl hQ hmb hmh hG0 hmub rfl rfl (by rw [hty]; simp only [so, sq, zy, zz, tyE, SO', SQ', opQ, opStore, opAlloc, ev, putS, dOk, cv, SV.cs, SV.one, SV.bool?, eqB, Value.oneCell', ldOwn, binInt, binConst, binBool, binStr, isC, TK.agg, rv, rv1, ldV, resOne, resV, Nat.reduceAdd, Nat.reduceMul, Nat.reduceSub, Nat.reduceLT, Nat.reduceLeDiff, Nat.reduceEqDiff, Nat.reduceBEq, reduceIte, reduceCtorEq, eq_self]; try rfl) rfl rfl (by simp only [enumO]; exact (by repeat (first | exact plain_nil | refine plain_cons (fun _ h => h) ?_))) ?_; simp only [SV.den, resV, dens]
  have hle := hle1.trans hle2
  rw [condG, if_neg hu0, if_neg (by simp [hst])]
  exact ⟨rfl, _, _, _, h.cl, h.cb, (fun ad n c h => by cases h; simp; omega : CapOk (.slice ad2 (f.c ++ [n]).length cap2)), Rp.S_mono hle h.l, Rp.S_mono hle h.b, hS2, rfl⟩
end Go.Proofs.YthocgjchmpkhoaaDoor
namespace Go.Proofs.YthocgjchmpkhoaaDoor
set_option linter.unusedSimpArgs false
set_option linter.unusedVariables false
open Go.Sx
set_option maxHeartbeats 8000000
set_option maxRecDepth 20000
def NewS {α : Type} (r : Rp α) (l : List α) (v : Value) (G : Hp) : Prop := ∃ ad cap, v = .slice ad l.length cap ∧ l.length ≤ cap ∧ r.S G l v
theorem NewS.cap {α : Type} {r : Rp α} {l : List α} {v : Value} {G : Hp} (h : NewS r l v G) : CapOk v := by
  obtain ⟨ad, cap, rfl, h1, _⟩ := h
  intro a n c e
  cases e; exact h1
theorem cloneI_ok (l : List Int) (sl : Value) (G : Hp) (hS : rI.S G l sl) (hb : l.length ≤ 1000000) : Pure Tryd.prog 49 [sl] G (fun v G' => NewS rI l v G') := by
  obtain ⟨h63, ad, cap, rfl, hsrc⟩ := hS
  refine enterX ty tyok Tryd.func49 rfl Tryd.ntmps49 [.v (.slice ad l.length cap)] (by simp) ?_
  intro C hP hQ hnt hty hmb hmh hro; have hQp := qp_body hQ; refine st_ ?_
  refine rn_ ?_; intros
  refine go_q (by rw [hnt]; rfl) (quiet_snil (by rw [hty]; rfl) rfl rfl) ?_
  refine rn_ ?_; intros
  cases ad with
  | none =>
    have hl : l = [] := by rcases hsrc with h | ⟨b, off, cs, h, _⟩; exact h; cases h
    subst hl
    refine go_slot 4 (.b true) rfl rfl ?_
    refine rn_ ?_; intros
    refine x_retc rfl hQ hmb rfl (by rw [hty]; simp only [so, sq, zy, zz, tyE, SO', SQ', opQ, opStore, opAlloc, ev, putS, dOk, cv, SV.cs, SV.one, SV.bool?, eqB, Value.oneCell', ldOwn, binInt, binConst, binBool, binStr, isC, TK.agg, rv, rv1, ldV, resOne, resV, Nat.reduceAdd, Nat.reduceMul, Nat.reduceSub, Nat.reduceLT, Nat.reduceLeDiff, Nat.reduceEqDiff, Nat.reduceBEq, reduceIte, reduceCtorEq, eq_self]; try rfl) rfl ?_; simp only [SV.den, resV, dens]
    exact ⟨none, 0, rfl, by simp, Rp.S_nil _ _⟩
  | some a =>
    refine go_slot 4 (.b false) rfl rfl ?_
    refine rn_ ?_; intros
    obtain ⟨cs2, hr2, hs2⟩ := Rp.src (r := rI) (cap := cap) hsrc
    have hlen2 := Rp.L_len hr2
    simp only [rI, Nat.mul_one] at hlen2
    refine go_litrow 0 (n := 0) (size := 1) rfl (by omega) rfl (by omega) ?_
    refine st_ ?_
    refine go_append_any 0 (by rw [hnt]; rfl) (by rw [hty]; rfl) (by rw [hty]; rfl) (by decide) rfl rfl rfl (by omega) rfl (hs2.imp id fun f => f _ _ rfl) (by simp only []; omega) (Rp.L_one hr2) (by omega) (by simp only []; omega) ?_
    intro v'
    refine go_rowC 0 rfl ?_
    rintro ad2 cap2 rfl hc2
    refine rn_ ?_; intros
    refine go_pubL rI 0 rfl (by omega) (ts := l) (by simp) (by omega) (by simpa using hr2) ?_
    intro G1 y z (hle1 : Le G G1) he hS1
    rw [← he] at hS1
    refine st_ ?_
    refine x_retc rfl hQ hmb rfl (by rw [hty]; simp only [so, sq, zy, zz, tyE, SO', SQ', opQ, opStore, opAlloc, ev, putS, dOk, cv, SV.cs, SV.one, SV.bool?, eqB, Value.oneCell', ldOwn, binInt, binConst, binBool, binStr, isC, TK.agg, rv, rv1, ldV, resOne, resV, Nat.reduceAdd, Nat.reduceMul, Nat.reduceSub, Nat.reduceLT, Nat.reduceLeDiff, Nat.reduceEqDiff, Nat.reduceBEq, reduceIte, reduceCtorEq, eq_self]; try rfl) rfl ?_; simp only [SV.den, resV, dens]
    exact ⟨_, _, rfl, by omega, hS1⟩
def RowV (l : List VT) (v : Value) (G : Hp) (r : Value) (e : TypeId) (size n : Nat) (xs : List Value) : Prop := v = r ∧ e = 25 ∧ size = 3 ∧ n = l.length ∧ rV.L G l xs ∧ CapOk r
theorem copVR_ok (l : List VT) (sl : Value) (G : Hp) (hS : rV.S G l sl) (hb : l.length ≤ 1000) (hs : ∀ x ∈ l, sml x = true) : PureR Tryd.prog 44 [sl, fnV 29] G (RowV l) := by
  obtain ⟨a0, q0, rfl⟩ := Rp.S_slice hS
  refine enterR ty tyok Tryd.func44 rfl Tryd.ntmps44 [.v (.slice a0 l.length q0), .v (fnV 29)] (by simp) ?_
  intro C hP hQ hnt hty hmb hmh hro; have hQp := qp_body hQ; refine st_ ?_
  simp only [fnV]
  refine rn_ ?_; intros
  refine go_nilrow 2 25 3 rfl (by omega) ?_
  refine go_keep [0, 1, 5, 8, 9, 10] [2] ?_
  refine st_ ?_
  refine x_loop rfl (fun q st => ∃ (k : Nat) (y : Option Addr) (z bb : Nat) (xs : List Value) (G1 : Hp), k ≤ l.length ∧ q = l.length - k ∧ k ≤ z ∧ Le G G1 ∧ rV.L G1 (l.take k) xs ∧
    st = ⟨[(0, .v (.slice a0 l.length q0)), (1, .v (.func (.func 29) #[] #[])), (5, .v (.slice y k z)), (8, .v (.slice a0 l.length q0)), (9, .v (.int .i64 l.length)), (10, .v (.int .i64 k))],
      [(2, bb, .row (.slice y k z) 25 3 k xs)], G1, []⟩) ⟨0, none, 0, _, [], G, by omega, rfl, by omega, Le.refl _, rfl, rfl⟩ ?_
  rintro q st ⟨k, y, z, bb, xs, G1, hk, hq, hkz, hle1, hLx, rfl⟩ ih
  refine rn_ ?_; intros
  refine x_if rfl rfl rfl rfl (fun hkl => ?_) (fun hkl => ?_)
  · have hlt : k < l.length := by simp at hkl; omega
    obtain ⟨c7, o7, p7, cs7, e7, hat7, hr7⟩ := Rp.S_get hS hlt
    cases e7
    have hmem := List.getElem_mem hlt
    obtain ⟨s7, rfl, hr7, ht7⟩ := hr7
    obtain ⟨a7, q7, rfl⟩ := VT.repC_slice hr7
    have hsm := hs _ hmem
    simp only [rV] at hat7
    refine rn_ ?_; intros
    refine go_q (by rw [hnt]; rfl) (quiet_index (by rw [hty]; rfl) (by rw [hty]; rfl) rfl rfl rfl (by omega) (by omega)) ?_
    refine rn_ ?_; intros
    refine go_q (v := .agg #[.int .i64 l[k].k, .int .i64 l[k].n, .slice a7 l[k].l.length q7]) (by rw [hnt]; rfl) ((quiet_load (by rw [hty]; rfl) rfl (fun q => by cases q) (by simpa using hat7.mono hle1) rfl).cast (by simp only [ldV]; rfl)) ?_
    refine rn_ ?_; intros
    refine go_callw (by rw [hnt]; rfl) (by rw [hP]; kernel_rfl) rfl rfl rfl (by rw [hP]; exact copyC_ok l[k] _ G1 (VT.repC_rep (VT.repC_mono hle1 hr7)) (by omega)) ?_
    rintro v G2 (hle2 : Le G1 G2) (⟨_, ad1, cap1, rfl, hcp⟩ | ⟨hno, _⟩)
    rotate_left
    · rw [hsm] at hno; cases hno
    refine rn_ ?_; intros
    refine go_append 2 (by rw [hnt]; rfl) (by rw [hty]; rfl) (by rw [hty]; rfl) (by decide) rfl rfl rfl (by omega) rfl (src_own 3 rfl rfl) rfl (by simp [dens, SV.den, Value.oneCell']) (by omega) (by simp only []; omega) ?_
    intro v'
    refine go_rowC 2 rfl ?_
    rintro y8 z8 rfl hc8
    refine rn_ ?_; intros
    rw [wr (n := (k : Int) + 1) (by omega) (by omega)]
    refine go_keep [0, 1, 5, 8, 9, 10] [2] ?_
    refine st_ ?_
    exact ih (l.length - (k + 1)) _ (by omega) ⟨k + 1, y8, z8, bb, _, _, by omega, rfl, hc8, hle1.trans hle2, by rw [← List.take_append_getElem hlt]; exact Rp.L_append (Rp.L_mono hle2 hLx) (Rp.L_single ⟨_, rfl, hcp, ht7⟩), by simp [dens, SV.den]⟩
  have hge : k = l.length := by simp at hkl; omega
  rw [hge, List.take_length] at hLx
  rw [hge] at hkz ⊢
  clear ih hkl hq hk
  refine rn_ ?_; intros
  refine x_retr 2 rfl hQ hmb hmh rfl (by rw [hty]; simp only [so, sq, zy, zz, tyE, SO', SQ', opQ, opStore, opAlloc, ev, putS, dOk, cv, SV.cs, SV.one, SV.bool?, eqB, Value.oneCell', ldOwn, binInt, binConst, binBool, binStr, isC, TK.agg, rv, rv1, ldV, resOne, resV, Nat.reduceAdd, Nat.reduceMul, Nat.reduceSub, Nat.reduceLT, Nat.reduceLeDiff, Nat.reduceEqDiff, Nat.reduceBEq, reduceIte, reduceCtorEq, eq_self]; try rfl) rfl rfl ?_
  exact ⟨rfl, rfl, rfl, rfl, hLx, fun ad n c h => by cases h; exact hkz⟩
theorem copV_ok (l : List VT) (sl : Value) (G : Hp) (hS : rV.S G l sl) (hb : l.length ≤ 1000) (hs : ∀ x ∈ l, sml x = true) : Pure Tryd.prog 44 [sl, fnV 29] G (fun v G' => NewS rV l v G') := by
  refine PureR.pure (copVR_ok l sl G hS hb hs) ?_ ?_
  · rintro v G' e size hle ⟨rfl, _, _, hn, hL, _⟩
    have hl : l = [] := List.length_eq_zero_iff.1 hn.symm
    subst hl
    exact ⟨none, 0, rfl, by simp, Rp.S_nil _ _⟩
  · rintro v G' G'' g cap e size n xs hle hle2 hat ⟨rfl, _, _, rfl, hL, hc⟩
    exact ⟨_, _, rfl, hc _ _ _ rfl, ⟨by omega, _, _, rfl, .inr ⟨g, 0, xs, rfl, hat, Rp.L_mono hle2 hL⟩⟩⟩
theorem copC1_ok (c : Cl) (sl : Value) (G : Hp) (hf : isI64 c.f) (hS : rV.S G c.a sl) (hb : c.a.length ≤ 1000) (hs : ∀ x ∈ c.a, sml x = true) :
    Pure Tryd.prog 62 [.agg #[.int .i64 c.f, sl]] G (fun v G' => ∃ s1, v = .agg #[.int .i64 c.f, s1] ∧ NewS rV c.a s1 G') := by
  obtain ⟨a0, q0, rfl⟩ := Rp.S_slice hS
  refine enterX ty tyok Tryd.func62 rfl Tryd.ntmps62 [.a [.v (.int .i64 c.f), .v (.slice a0 c.a.length q0)]] (by simp) ?_
  intro C hP hQ hnt hty hmb hmh hro; have hQp := qp_body hQ; refine st_ ?_
  refine rn_ ?_; intros
  rename_i b1 b2
  refine x_held [(0, b1, .c 43 [.v (.int .i64 c.f), .v (.slice a0 c.a.length q0)])] rfl (by rw [hP]; kernel_rfl) rfl rfl rfl ?_; refine st_ ?_
  refine h_take 0 rfl (by kernel_rfl) (by kernel_rfl) (by kernel_rfl) hQp (by rw [hnt]; rfl) (allIn (by repeat (first | exact trivial | refine ⟨rfl, ?_⟩))) (by first | exact Le.refl _ | assumption) (quiet_op (by rw [hty]; first | rfl | (refine st_ ?_; rfl))) ?_; refine st_ ?_
  refine h_take 1 rfl (by kernel_rfl) (by kernel_rfl) (by kernel_rfl) hQp (by rw [hnt]; rfl) (allIn (by repeat (first | exact trivial | refine ⟨rfl, ?_⟩))) (by first | exact Le.refl _ | assumption) (quiet_op (by rw [hty]; first | rfl | (refine st_ ?_; rfl))) ?_; refine st_ ?_
  refine h_take 2 rfl (by kernel_rfl) (by kernel_rfl) (by kernel_rfl) hQp (by rw [hnt]; rfl) (allIn (by repeat (first | exact trivial | refine ⟨rfl, ?_⟩))) (by first | exact Le.refl _ | assumption) (quiet_op (by rw [hty]; first | rfl | (refine st_ ?_; rfl))) ?_; refine st_ ?_
  refine h_take 3 rfl (by kernel_rfl) (by kernel_rfl) (by kernel_rfl) hQp (by rw [hnt]; rfl) (allIn (by repeat (first | exact trivial | refine ⟨rfl, ?_⟩))) (by first | exact Le.refl _ | assumption) (quiet_op (by rw [hty]; first | rfl | (refine st_ ?_; rfl))) ?_; refine st_ ?_
  refine h_one 4 rfl (by kernel_rfl) ?_
  refine go_call (by rw [hnt]; rfl) (by rw [hP]; kernel_rfl) rfl (hP ▸ copV_ok c.a _ G hS hb hs) ?_
  rintro v G1 (hle : Le G G1) ⟨ad1, cap1, rfl, hc1, hS1⟩
  refine rn_ ?_; intros
  refine h_hs (allIn (by repeat (first | exact trivial | refine ⟨rfl, ?_⟩))) (by first | exact Le.refl _ | assumption) ?_
  refine h_take 5 rfl (by kernel_rfl) (by kernel_rfl) (by kernel_rfl) hQp (by rw [hnt]; rfl) (allIn (by repeat (first | exact trivial | refine ⟨rfl, ?_⟩))) (by first | exact Le.refl _ | assumption) (quiet_op (by rw [hty]; first | rfl | (refine st_ ?_; rfl))) ?_; refine st_ ?_
  refine h_one 6 rfl (by kernel_rfl) ?_
  refine rn_ ?_; intros
  refine h_hs (allIn (by repeat (first | exact trivial | refine ⟨rfl, ?_⟩))) (by first | exact Le.refl _ | assumption) ?_
  refine h_end (by kernel_rfl) ?_
  refine rn_ ?_; intros
  refine x_retc rfl hQ hmb rfl (by rw [hty]; simp only [so, sq, zy, zz, tyE, SO', SQ', opQ, opStore, opAlloc, ev, putS, dOk, cv, SV.cs, SV.one, SV.bool?, eqB, Value.oneCell', ldOwn, binInt, binConst, binBool, binStr, isC, TK.agg, rv, rv1, ldV, resOne, resV, Nat.reduceAdd, Nat.reduceMul, Nat.reduceSub, Nat.reduceLT, Nat.reduceLeDiff, Nat.reduceEqDiff, Nat.reduceBEq, reduceIte, reduceCtorEq, eq_self]; try rfl) rfl ?_; simp only [SV.den, resV, dens]
  exact ⟨_, rfl, _, _, rfl, hc1, hS1⟩
theorem copC_ok (l : List Cl) (sl : Value) (G : Hp) (hS : rC.S G l sl) (hb : l.length ≤ 1000) (hs : ∀ c ∈ l, c.a.length ≤ 1000 ∧ ∀ x ∈ c.a, sml x = true) : Pure Tryd.prog 61 [sl, fnV 62] G (fun v G' => NewS rC l v G') := by
  obtain ⟨a0, q0, rfl⟩ := Rp.S_slice hS
  refine enterX ty tyok Tryd.func61 rfl Tryd.ntmps61 [.v (.slice a0 l.length q0), .v (fnV 62)] (by simp) ?_
  intro C hP hQ hnt hty hmb hmh hro; have hQp := qp_body hQ; refine st_ ?_
  simp only [fnV]
  refine rn_ ?_; intros
  refine go_nilrow 2 43 2 rfl (by omega) ?_
  refine go_keep [0, 1, 5, 8, 9, 10] [2] ?_
  refine st_ ?_
  refine x_loop rfl (fun q st => ∃ (k : Nat) (y : Option Addr) (z bb : Nat) (xs : List Value) (G1 : Hp), k ≤ l.length ∧ q = l.length - k ∧ k ≤ z ∧ Le G G1 ∧ rC.L G1 (l.take k) xs ∧
    st = ⟨[(0, .v (.slice a0 l.length q0)), (1, .v (.func (.func 62) #[] #[])), (5, .v (.slice y k z)), (8, .v (.slice a0 l.length q0)), (9, .v (.int .i64 l.length)), (10, .v (.int .i64 k))],
      [(2, bb, .row (.slice y k z) 43 2 k xs)], G1, []⟩) ⟨0, none, 0, _, [], G, by omega, rfl, by omega, Le.refl _, rfl, rfl⟩ ?_
  rintro q st ⟨k, y, z, bb, xs, G1, hk, hq, hkz, hle1, hLx, rfl⟩ ih
  refine rn_ ?_; intros
  refine x_if rfl rfl rfl rfl (fun hkl => ?_) (fun hkl => ?_)
  · have hlt : k < l.length := by simp at hkl; omega
    obtain ⟨c7, o7, p7, cs7, e7, hat7, hr7⟩ := Rp.S_get hS hlt
    cases e7
    have hmem := List.getElem_mem hlt
    obtain ⟨s7, rfl, hi7, hr7⟩ := hr7
    obtain ⟨a7, q7, rfl⟩ := Rp.S_slice hr7
    obtain ⟨hl7, hsm⟩ := hs _ hmem
    simp only [rC] at hat7
    refine rn_ ?_; intros
    refine go_q (by rw [hnt]; rfl) (quiet_index (by rw [hty]; rfl) (by rw [hty]; rfl) rfl rfl rfl (by omega) (by omega)) ?_
    refine rn_ ?_; intros
    refine go_q (v := .agg #[.int .i64 l[k].f, .slice a7 l[k].a.length q7]) (by rw [hnt]; rfl) ((quiet_load (by rw [hty]; rfl) rfl (fun q => by cases q) (by simpa using hat7.mono hle1) rfl).cast (by simp only [ldV]; rfl)) ?_
    refine rn_ ?_; intros
    refine go_callw (by rw [hnt]; rfl) (by rw [hP]; kernel_rfl) rfl rfl rfl (by rw [hP]; exact copC1_ok l[k] _ G1 hi7 (Rp.S_mono hle1 hr7) hl7 hsm) ?_
    rintro v G2 (hle2 : Le G1 G2) ⟨s1, rfl, ad1, cap1, rfl, _, hcp⟩
    refine rn_ ?_; intros
    refine go_append 2 (by rw [hnt]; rfl) (by rw [hty]; rfl) (by rw [hty]; rfl) (by decide) rfl rfl rfl (by omega) rfl (src_own 2 rfl rfl) rfl (by simp [dens, SV.den, Value.oneCell']) (by omega) (by simp only []; omega) ?_
    intro v'
    refine go_rowC 2 rfl ?_
    rintro y8 z8 rfl hc8
    refine rn_ ?_; intros
    rw [wr (n := (k : Int) + 1) (by omega) (by omega)]
    refine go_keep [0, 1, 5, 8, 9, 10] [2] ?_
    refine st_ ?_
    exact ih (l.length - (k + 1)) _ (by omega) ⟨k + 1, y8, z8, bb, _, _, by omega, rfl, hc8, hle1.trans hle2, by rw [← List.take_append_getElem hlt]; exact Rp.L_append (Rp.L_mono hle2 hLx) (Rp.L_single ⟨_, rfl, hi7, hcp⟩), by simp [dens, SV.den]⟩
  have hge : k = l.length := by simp at hkl; omega
  rw [hge, List.take_length] at hLx
  rw [hge] at hkz ⊢
  clear ih hkl hq hk
  refine rn_ ?_; intros
  refine go_pubL rC 2 rfl (by omega) (ts := l) rfl (by omega) hLx ?_
  intro G2 y6 z6 (hle : Le G1 G2) he2 hS2
  rw [← he2] at hS2
  refine st_ ?_
  refine x_retc rfl hQ hmb rfl (by rw [hty]; simp only [so, sq, zy, zz, tyE, SO', SQ', opQ, opStore, opAlloc, ev, putS, dOk, cv, SV.cs, SV.one, SV.bool?, eqB, Value.oneCell', ldOwn, binInt, binConst, binBool, binStr, isC, TK.agg, rv, rv1, ldV, resOne, resV, Nat.reduceAdd, Nat.reduceMul, Nat.reduceSub, Nat.reduceLT, Nat.reduceLeDiff, Nat.reduceEqDiff, Nat.reduceBEq, reduceIte, reduceCtorEq, eq_self]; try rfl) rfl ?_; simp only [SV.den, resV, dens]
  exact ⟨_, _, rfl, hkz, hS2⟩
theorem copyBase_ok (x : Bs) (sv sw sc : Value) (G : Hp) (hx : x.rep G sv sw sc) (hv : sml x.v = true) (hw : x.w.length ≤ 1000) (hc : x.c.length ≤ 1000) (hs : ∀ c ∈ x.w, c.a.length ≤ 1000 ∧ ∀ y ∈ c.a, sml y = true) :
    Pure Tryd.prog 36 [.agg (bsL x sv sw sc).toArray] G (fun v G' => ∃ s1 s2 s3, v = .agg (bsL x s1 s2 s3).toArray ∧ x.rep G' s1 s2 s3) := by
  obtain ⟨a1, q1, rfl⟩ := VT.repC_slice hx.v
  obtain ⟨a2, q2, rfl⟩ := Rp.S_slice hx.w
  obtain ⟨a3, q3, rfl⟩ := Rp.S_slice hx.c
  have hxb := hx.b
  refine enterX ty tyok Tryd.func36 rfl Tryd.ntmps36 [.a (bsC x (.slice a1 x.v.l.length q1) (.slice a2 x.w.length q2) (.slice a3 x.c.length q3))] (by simp) ?_
  simp only [bsC]
  intro C hP hQ hnt hty hmb hmh hro; have hQp := qp_body hQ; refine st_ ?_
  refine rn_ ?_; intros
  refine go_call (by rw [hnt]; rfl) (by rw [hP]; kernel_rfl) rfl (hP ▸ copyC_ok x.v _ G (VT.repC_rep hx.v) (by omega)) ?_
  rintro v G1 (hle1 : Le G G1) (⟨_, ad1, cap1, rfl, hcp⟩ | ⟨hno, _⟩)
  rotate_left
  · rw [hv] at hno; cases hno
  refine rn_ ?_; intros
  refine go_call (by rw [hnt]; rfl) (by rw [hP]; kernel_rfl) rfl (hP ▸ copC_ok x.w _ G1 (Rp.S_mono hle1 hx.w) hw hs) ?_
  rintro v G2 (hle2 : Le G1 G2) ⟨ad2, cap2, rfl, _, hS2⟩
  refine rn_ ?_; intros
  refine go_call (by rw [hnt]; rfl) (by rw [hP]; kernel_rfl) rfl (hP ▸ cloneI_ok x.c _ G2 (Rp.S_mono (hle1.trans hle2) hx.c) (by omega)) ?_
  rintro v G3 (hle3 : Le G2 G3) ⟨ad3, cap3, rfl, _, hS3⟩
  refine rn_ ?_; intros
  refine x_retc rfl hQ hmb rfl (by rw [hty]; simp only [so, sq, zy, zz, tyE, SO', SQ', opQ, opStore, opAlloc, ev, putS, dOk, cv, SV.cs, SV.one, SV.bool?, eqB, Value.oneCell', ldOwn, binInt, binConst, binBool, binStr, isC, TK.agg, rv, rv1, ldV, resOne, resV, Nat.reduceAdd, Nat.reduceMul, Nat.reduceSub, Nat.reduceLT, Nat.reduceLeDiff, Nat.reduceEqDiff, Nat.reduceBEq, reduceIte, reduceCtorEq, eq_self]; try rfl) rfl ?_; simp only [SV.den, resV, dens]
  exact ⟨_, _, _, rfl, ⟨hx.k, hx.n, VT.repC_mono (hle2.trans hle3) hcp, hx.b, Rp.S_mono hle3 hS2, hS3⟩⟩
def BsOk (x : Bs) : Prop := sml x.v = true ∧ x.w.length ≤ 1000 ∧ x.c.length ≤ 1000 ∧ ∀ c ∈ x.w, c.a.length ≤ 1000 ∧ ∀ y ∈ c.a, sml y = true
theorem copB_ok (l : List Bs) (sl : Value) (G : Hp) (hS : rB.S G l sl) (hb : l.length ≤ 1000) (hs : ∀ x ∈ l, BsOk x) : Pure Tryd.prog 43 [sl, fnV 36] G (fun v G' => NewS rB l v G') := by
  obtain ⟨a0, q0, rfl⟩ := Rp.S_slice hS
  refine enterX ty tyok Tryd.func43 rfl Tryd.ntmps43 [.v (.slice a0 l.length q0), .v (fnV 36)] (by simp) ?_
  intro C hP hQ hnt hty hmb hmh hro; have hQp := qp_body hQ; refine st_ ?_
  simp only [fnV]
  refine rn_ ?_; intros
  refine go_nilrow 2 56 7 rfl (by omega) ?_
  refine go_keep [0, 1, 5, 8, 9, 10] [2] ?_
  refine st_ ?_
  refine x_loop rfl (fun q st => ∃ (k : Nat) (y : Option Addr) (z bb : Nat) (xs : List Value) (G1 : Hp), k ≤ l.length ∧ q = l.length - k ∧ k ≤ z ∧ Le G G1 ∧ rB.L G1 (l.take k) xs ∧
    st = ⟨[(0, .v (.slice a0 l.length q0)), (1, .v (.func (.func 36) #[] #[])), (5, .v (.slice y k z)), (8, .v (.slice a0 l.length q0)), (9, .v (.int .i64 l.length)), (10, .v (.int .i64 k))],
      [(2, bb, .row (.slice y k z) 56 7 k xs)], G1, []⟩) ⟨0, none, 0, _, [], G, by omega, rfl, by omega, Le.refl _, rfl, rfl⟩ ?_
  rintro q st ⟨k, y, z, bb, xs, G1, hk, hq, hkz, hle1, hLx, rfl⟩ ih
  refine rn_ ?_; intros
  refine x_if rfl rfl rfl rfl (fun hkl => ?_) (fun hkl => ?_)
  · have hlt : k < l.length := by simp at hkl; omega
    obtain ⟨c7, o7, p7, cs7, e7, hat7, hr7⟩ := Rp.S_get hS hlt
    cases e7
    have hmem := List.getElem_mem hlt
    obtain ⟨s7, s8, s9, rfl, hr7⟩ := hr7
    obtain ⟨a7, q7, rfl⟩ := VT.repC_slice hr7.v
    obtain ⟨a8, q8, rfl⟩ := Rp.S_slice hr7.w
    obtain ⟨a9, q9, rfl⟩ := Rp.S_slice hr7.c
    obtain ⟨hs1, hs2, hs3, hs4⟩ := hs _ hmem
    simp only [bsL] at hat7
    simp only [rB] at hat7
    refine rn_ ?_; intros
    refine go_q (by rw [hnt]; rfl) (quiet_index (by rw [hty]; rfl) (by rw [hty]; rfl) rfl rfl rfl (by omega) (by omega)) ?_
    refine rn_ ?_; intros
    refine go_q (v := .agg #[.int .i64 l[k].k, .int .i64 l[k].n, .int .i64 l[k].v.k, .int .i64 l[k].v.n, .slice a7 l[k].v.l.length q7, .slice a8 l[k].w.length q8, .slice a9 l[k].c.length q9]) (by rw [hnt]; rfl) ((quiet_load (by rw [hty]; rfl) rfl (fun q => by cases q) (by simpa using hat7.mono hle1) rfl).cast (by simp only [ldV]; rfl)) ?_
    refine rn_ ?_; intros
    refine go_callw (by rw [hnt]; rfl) (by rw [hP]; kernel_rfl) rfl rfl rfl (by rw [hP]; exact copyBase_ok l[k] _ _ _ G1 (hr7.mono hle1) hs1 hs2 hs3 hs4) ?_
    rintro v G2 (hle2 : Le G1 G2) ⟨s1, s2, s3, rfl, hcp⟩
    obtain ⟨b7, p7, rfl⟩ := VT.repC_slice hcp.v
    obtain ⟨b8, p8, rfl⟩ := Rp.S_slice hcp.w
    obtain ⟨b9, p9, rfl⟩ := Rp.S_slice hcp.c
    simp only [bsL]
    refine rn_ ?_; intros
    refine go_append 2 (by rw [hnt]; rfl) (by rw [hty]; rfl) (by rw [hty]; rfl) (by decide) rfl rfl rfl (by omega) rfl (src_own 7 rfl rfl) rfl (by simp [dens, SV.den, Value.oneCell']) (by omega) (by simp only []; omega) ?_
    intro v'
    refine go_rowC 2 rfl ?_
    rintro y8 z8 rfl hc8
    refine rn_ ?_; intros
    rw [wr (n := (k : Int) + 1) (by omega) (by omega)]
    refine go_keep [0, 1, 5, 8, 9, 10] [2] ?_
    refine st_ ?_
    exact ih (l.length - (k + 1)) _ (by omega) ⟨k + 1, y8, z8, bb, _, _, by omega, rfl, hc8, hle1.trans hle2, by rw [← List.take_append_getElem hlt]; exact Rp.L_append (Rp.L_mono hle2 hLx) (Rp.L_single ⟨_, _, _, rfl, hcp⟩), by simp [dens, SV.den, bsL]⟩
  have hge : k = l.length := by simp at hkl; omega
  rw [hge, List.take_length] at hLx
  rw [hge] at hkz ⊢
  clear ih hkl hq hk
  refine rn_ ?_; intros
  refine go_pubL rB 2 rfl (by omega) (ts := l) rfl (by omega) hLx ?_
  intro G2 y6 z6 (hle : Le G1 G2) he2 hS2
  rw [← he2] at hS2
  refine st_ ?_
  refine x_retc rfl hQ hmb rfl (by rw [hty]; simp only [so, sq, zy, zz, tyE, SO', SQ', opQ, opStore, opAlloc, ev, putS, dOk, cv, SV.cs, SV.one, SV.bool?, eqB, Value.oneCell', ldOwn, binInt, binConst, binBool, binStr, isC, TK.agg, rv, rv1, ldV, resOne, resV, Nat.reduceAdd, Nat.reduceMul, Nat.reduceSub, Nat.reduceLT, Nat.reduceLeDiff, Nat.reduceEqDiff, Nat.reduceBEq, reduceIte, reduceCtorEq, eq_self]; try rfl) rfl ?_; simp only [SV.den, resV, dens]
  exact ⟨_, _, rfl, hkz, hS2⟩
theorem copP1_ok (x : It) (sv sw sc : Value) (G : Hp) (hx : x.rep G sv sw sc) : Pure Tryd.prog 60 [.agg (itL x sv sw sc).toArray] G (fun v _ => v = .agg (itL x sv sw sc).toArray) := by
  obtain ⟨a1, q1, rfl⟩ := VT.repC_slice hx.v
  obtain ⟨a2, q2, rfl⟩ := Rp.S_slice hx.w
  obtain ⟨a3, q3, rfl⟩ := Rp.S_slice hx.c
  refine enterX ty tyok Tryd.func60 rfl Tryd.ntmps60 [.a (itC x (.slice a1 x.v.l.length q1) (.slice a2 x.w.length q2) (.slice a3 x.c.length q3))] (by simp) ?_
  simp only [itC]
  intro C hP hQ hnt hty hmb hmh hro; have hQp := qp_body hQ; refine st_ ?_
  refine rn_ ?_; intros
  refine x_retc rfl hQ hmb rfl (by rw [hty]; simp only [so, sq, zy, zz, tyE, SO', SQ', opQ, opStore, opAlloc, ev, putS, dOk, cv, SV.cs, SV.one, SV.bool?, eqB, Value.oneCell', ldOwn, binInt, binConst, binBool, binStr, isC, TK.agg, rv, rv1, ldV, resOne, resV, Nat.reduceAdd, Nat.reduceMul, Nat.reduceSub, Nat.reduceLT, Nat.reduceLeDiff, Nat.reduceEqDiff, Nat.reduceBEq, reduceIte, reduceCtorEq, eq_self]; try rfl) rfl ?_; simp only [SV.den, resV, dens]
  rfl
theorem copP_ok (l : List It) (sl : Value) (G : Hp) (hS : rT.S G l sl) (hb : l.length ≤ 1000) : Pure Tryd.prog 59 [sl, fnV 60] G (fun v G' => NewS rT l v G') := by
  obtain ⟨a0, q0, rfl⟩ := Rp.S_slice hS
  refine enterX ty tyok Tryd.func59 rfl Tryd.ntmps59 [.v (.slice a0 l.length q0), .v (fnV 60)] (by simp) ?_
  intro C hP hQ hnt hty hmb hmh hro; have hQp := qp_body hQ; refine st_ ?_
  simp only [fnV]
  refine rn_ ?_; intros
  refine go_nilrow 2 79 5 rfl (by omega) ?_
  refine go_keep [0, 1, 5, 8, 9, 10] [2] ?_
  refine st_ ?_
  refine x_loop rfl (fun q st => ∃ (k : Nat) (y : Option Addr) (z bb : Nat) (xs : List Value) (G1 : Hp), k ≤ l.length ∧ q = l.length - k ∧ k ≤ z ∧ Le G G1 ∧ rT.L G1 (l.take k) xs ∧
    st = ⟨[(0, .v (.slice a0 l.length q0)), (1, .v (.func (.func 60) #[] #[])), (5, .v (.slice y k z)), (8, .v (.slice a0 l.length q0)), (9, .v (.int .i64 l.length)), (10, .v (.int .i64 k))],
      [(2, bb, .row (.slice y k z) 79 5 k xs)], G1, []⟩) ⟨0, none, 0, _, [], G, by omega, rfl, by omega, Le.refl _, rfl, rfl⟩ ?_
  rintro q st ⟨k, y, z, bb, xs, G1, hk, hq, hkz, hle1, hLx, rfl⟩ ih
  refine rn_ ?_; intros
  refine x_if rfl rfl rfl rfl (fun hkl => ?_) (fun hkl => ?_)
  · have hlt : k < l.length := by simp at hkl; omega
    obtain ⟨c7, o7, p7, cs7, e7, hat7, hr7⟩ := Rp.S_get hS hlt
    cases e7
    have hmem := List.getElem_mem hlt
    obtain ⟨s7, s8, s9, rfl, hr7⟩ := hr7
    obtain ⟨a7, q7, rfl⟩ := VT.repC_slice hr7.v
    obtain ⟨a8, q8, rfl⟩ := Rp.S_slice hr7.w
    obtain ⟨a9, q9, rfl⟩ := Rp.S_slice hr7.c
    simp only [itL] at hat7
    simp only [rT] at hat7
    refine rn_ ?_; intros
    refine go_q (by rw [hnt]; rfl) (quiet_index (by rw [hty]; rfl) (by rw [hty]; rfl) rfl rfl rfl (by omega) (by omega)) ?_
    refine rn_ ?_; intros
    refine go_q (v := .agg #[.int .i64 l[k].v.k, .int .i64 l[k].v.n, .slice a7 l[k].v.l.length q7, .slice a8 l[k].w.length q8, .slice a9 l[k].c.length q9]) (by rw [hnt]; rfl) ((quiet_load (by rw [hty]; rfl) rfl (fun q => by cases q) (by simpa using hat7.mono hle1) rfl).cast (by simp only [ldV]; rfl)) ?_
    refine rn_ ?_; intros
    refine go_callw (by rw [hnt]; rfl) (by rw [hP]; kernel_rfl) rfl rfl rfl (by rw [hP]; exact copP1_ok l[k] _ _ _ G1 (hr7.mono hle1)) ?_
    rintro v G2 (hle2 : Le G1 G2) rfl
    simp only [itL]
    refine rn_ ?_; intros
    refine go_append 2 (by rw [hnt]; rfl) (by rw [hty]; rfl) (by rw [hty]; rfl) (by decide) rfl rfl rfl (by omega) rfl (src_own 5 rfl rfl) rfl (by simp [dens, SV.den, Value.oneCell']) (by omega) (by simp only []; omega) ?_
    intro v'
    refine go_rowC 2 rfl ?_
    rintro y8 z8 rfl hc8
    refine rn_ ?_; intros
    rw [wr (n := (k : Int) + 1) (by omega) (by omega)]
    refine go_keep [0, 1, 5, 8, 9, 10] [2] ?_
    refine st_ ?_
    exact ih (l.length - (k + 1)) _ (by omega) ⟨k + 1, y8, z8, bb, _, _, by omega, rfl, hc8, hle1.trans hle2, by rw [← List.take_append_getElem hlt]; exact Rp.L_append (Rp.L_mono hle2 hLx) (Rp.L_single ⟨_, _, _, rfl, hr7.mono (hle1.trans hle2)⟩), by simp [dens, SV.den, itL]⟩
  have hge : k = l.length := by simp at hkl; omega
  rw [hge, List.take_length] at hLx
  rw [hge] at hkz ⊢
  clear ih hkl hq hk
  refine rn_ ?_; intros
  refine go_pubL rT 2 rfl (by omega) (ts := l) rfl (by omega) hLx ?_
  intro G2 y6 z6 (hle : Le G1 G2) he2 hS2
  rw [← he2] at hS2
  refine st_ ?_
  refine x_retc rfl hQ hmb rfl (by rw [hty]; simp only [so, sq, zy, zz, tyE, SO', SQ', opQ, opStore, opAlloc, ev, putS, dOk, cv, SV.cs, SV.one, SV.bool?, eqB, Value.oneCell', ldOwn, binInt, binConst, binBool, binStr, isC, TK.agg, rv, rv1, ldV, resOne, resV, Nat.reduceAdd, Nat.reduceMul, Nat.reduceSub, Nat.reduceLT, Nat.reduceLeDiff, Nat.reduceEqDiff, Nat.reduceBEq, reduceIte, reduceCtorEq, eq_self]; try rfl) rfl ?_; simp only [SV.den, resV, dens]
  exact ⟨_, _, rfl, hkz, hS2⟩
end Go.Proofs.YthocgjchmpkhoaaDoor
namespace Go.Sx
set_option linter.unusedSimpArgs false
set_option linter.unusedVariables false
open Go.RowKit
section
variable {C : Ctx} {K : List KI} {s : St} {R : Array Oper} {l : List Oper} {d : Option Tmp} {t : TypeId} {pos : String} {aft : Array Edge}
theorem go_ren (k k' : Nat) {b : Nat} {o : OO} (hk : lk k s.own = some (b, o)) (h1 : C.mh ≤ k) (h : SGo C K ⟨s.sl, [(k', b, o)], s.G, s.df⟩) : SGo C K s := by
  intro a w hS
  refine h a w ⟨hS.sl, hS.nt, hS.df, ⟨fun i b' o' e => ?_, fun i j b' b2 o' o2 g e e2 _ _ => ?_, hS.mem.grow⟩⟩
  · have e' : lk k s.own = some (b', o') := by
      simp only [lk] at e
      split at e
      · rw [hk]; exact e
      · cases e
    obtain ⟨f1, f2⟩ := hS.mem.own k b' o' e'
    exact ⟨f1, fun g hg => ⟨(f2 g hg).1, fun _ => (f2 g hg).2.1 h1, fun _ => .inr ((f2 g hg).2.1 h1)⟩⟩
  · simp only [lk] at e e2
    split at e
    · split at e2
      · simp_all
      · cases e2
    · cases e
end
end Go.Sx
namespace Go.Proofs.YthocgjchmpkhoaaDoor
set_option linter.unusedSimpArgs false
set_option linter.unusedVariables false
open Go.Sx
set_option maxHeartbeats 8000000
set_option maxRecDepth 20000
theorem fbases_ok (b : Nat) (st : Int) (l : List Bs) (sl sb sc : Value) (G : Hp) (hz : st ≠ 0) (hS : rB.S G l sb) (hb : l.length ≤ 1000) (hs : ∀ x ∈ l, BsOk x) :
    PureW Tryd.prog 20 [.pointer (some ⟨b, 0, none⟩)] G (fzO b st sl sb sc) (fun v G' ow => NewS rB l v G' ∧ ow = fzO b st sl sb sc) := by
  refine enterW ty tyok Tryd.func20 rfl Tryd.ntmps20 [.p 0 b 0] (by simp) (mh := 1) rfl ?_
  intro C hP hQ hnt hty hmb hmh hro hG0 hmub; have hQp := qp_body hQ; refine st_ ?_
  simp only [enumO, fzO]
  refine rn_ ?_; intros
  refine go_callW [0] (ow := fzO b st sl sb sc) (by rw [hnt]; rfl) (by rw [hP]; kernel_rfl) rfl rfl rfl (.inr (by intro k hk; simp at hk; subst hk; rw [hmh]; omega)) (hP ▸ none_ok b st sl sb sc G) ?_
  rintro v1 G1 ow (hle1 : Le G G1) ⟨rfl, rfl⟩
  simp only [setO, fzO]
  refine st_ ?_
  refine rn_ ?_; intros
  (refine x_split rfl rfl rfl (fun hc => absurd hc (by simpa using hz)) (fun _ => ?_); refine st_ ?_; (refine ru_ ?_; intros))
  refine rn_ ?_; intros
  refine go_call (by rw [hnt]; rfl) (by rw [hP]; kernel_rfl) rfl (hP ▸ copB_ok l _ G1 (Rp.S_mono hle1 hS) hb hs) ?_
  rintro v G2 (hle2 : Le G1 G2) ⟨ad, cap, rfl, h1, h2⟩
  refine rn_ ?_; intros
  refine x_retW rfl hQ hmb hmh hG0 hmub rfl rfl (by rw [hty]; simp only [so, sq, zy, zz, tyE, SO', SQ', opQ, opStore, opAlloc, ev, putS, dOk, cv, SV.cs, SV.one, SV.bool?, eqB, Value.oneCell', ldOwn, binInt, binConst, binBool, binStr, isC, TK.agg, rv, rv1, ldV, resOne, resV, Nat.reduceAdd, Nat.reduceMul, Nat.reduceSub, Nat.reduceLT, Nat.reduceLeDiff, Nat.reduceEqDiff, Nat.reduceBEq, reduceIte, reduceCtorEq, eq_self]; try rfl) rfl rfl (by simp only [enumO]; exact (by repeat (first | exact plain_nil | refine plain_cons (fun _ h => h) ?_))) ?_; simp only [SV.den, resV, dens]
  exact ⟨⟨_, _, rfl, h1, h2⟩, rfl⟩
theorem fconds_ok (b : Nat) (st : Int) (l : List Int) (sl sb sc : Value) (G : Hp) (hz : st ≠ 0) (hS : rI.S G l sc) (hb : l.length ≤ 1000) :
    PureW Tryd.prog 26 [.pointer (some ⟨b, 0, none⟩)] G (fzO b st sl sb sc) (fun v G' ow => NewS rI l v G' ∧ ow = fzO b st sl sb sc) := by
  refine enterW ty tyok Tryd.func26 rfl Tryd.ntmps26 [.p 0 b 0] (by simp) (mh := 1) rfl ?_
  intro C hP hQ hnt hty hmb hmh hro hG0 hmub; have hQp := qp_body hQ; refine st_ ?_
  simp only [enumO, fzO]
  refine rn_ ?_; intros
  refine go_callW [0] (ow := fzO b st sl sb sc) (by rw [hnt]; rfl) (by rw [hP]; kernel_rfl) rfl rfl rfl (.inr (by intro k hk; simp at hk; subst hk; rw [hmh]; omega)) (hP ▸ none_ok b st sl sb sc G) ?_
  rintro v1 G1 ow (hle1 : Le G G1) ⟨rfl, rfl⟩
  simp only [setO, fzO]
  refine st_ ?_
  refine rn_ ?_; intros
  (refine x_split rfl rfl rfl (fun hc => absurd hc (by simpa using hz)) (fun _ => ?_); refine st_ ?_; (refine ru_ ?_; intros))
  refine rn_ ?_; intros
  refine go_call (by rw [hnt]; rfl) (by rw [hP]; kernel_rfl) rfl (hP ▸ cloneI_ok l _ G1 (Rp.S_mono hle1 hS) (by omega)) ?_
  rintro v G2 (hle2 : Le G1 G2) ⟨ad, cap, rfl, h1, h2⟩
  refine rn_ ?_; intros
  refine x_retW rfl hQ hmb hmh hG0 hmub rfl rfl (by rw [hty]; simp only [so, sq, zy, zz, tyE, SO', SQ', opQ, opStore, opAlloc, ev, putS, dOk, cv, SV.cs, SV.one, SV.bool?, eqB, Value.oneCell', ldOwn, binInt, binConst, binBool, binStr, isC, TK.agg, rv, rv1, ldV, resOne, resV, Nat.reduceAdd, Nat.reduceMul, Nat.reduceSub, Nat.reduceLT, Nat.reduceLeDiff, Nat.reduceEqDiff, Nat.reduceBEq, reduceIte, reduceCtorEq, eq_self]; try rfl) rfl rfl (by simp only [enumO]; exact (by repeat (first | exact plain_nil | refine plain_cons (fun _ h => h) ?_))) ?_; simp only [SV.den, resV, dens]
  exact ⟨⟨_, _, rfl, h1, h2⟩, rfl⟩
def newRow (v : VT) (u : Value) (G' : Hp) (r : Value) (e : TypeId) (size n : Nat) (xs : List Value) : Prop :=
  (evF v = true ∧ ∃ g sl, u = .tuple #[.pointer (some ⟨g, 0, none⟩), .int .i64 0] ∧ r = .slice (some ⟨g, 0, none⟩) 1 1 ∧ e = 74 ∧ size = 4 ∧ n = 1 ∧ xs = [.int .i64 1, sl, .slice none 0 0, .slice none 0 0] ∧ CapOk sl ∧ rT.S G' [⟨v, [], []⟩] sl) ∨
  (evF v = false ∧ u = .tuple #[.pointer none, .int .i64 2])
theorem fnew_ok (v : VT) (sv : Value) (G : Hp) (hv : v.repC G sv) (hb : tsz v ≤ 1048576) : PureR Tryd.prog 10 [.agg #[.int .i64 v.k, .int .i64 v.n, sv]] G (newRow v) := by
  obtain ⟨a1, q1, rfl⟩ := VT.repC_slice hv
  refine enterR ty tyok Tryd.func10 rfl Tryd.ntmps10 [.a [.v (.int .i64 v.k), .v (.int .i64 v.n), .v (.slice a1 v.l.length q1)]] (by simp) ?_
  intro C hP hQ hnt hty hmb hmh hro; have hQp := qp_body hQ; refine st_ ?_
  refine rn_ ?_; intros
  refine go_callf (by rw [hnt]; rfl) (by rw [hP]; kernel_rfl) rfl (hP ▸ isEvent_ok v _ G (VT.repC_rep hv)) ?_; refine rn_ ?_; intros
  cases hev : (vld v && evk v.k)
  · (refine x_split rfl rfl rfl (fun _ => ?_) (fun hc => absurd hc (by simp [hev])); refine st_ ?_; (refine ru_ ?_; intros))
    refine rn_ ?_; intros
    refine go_nilrow 9 74 4 rfl (by omega) ?_
    refine st_ ?_
    refine x_retr 9 rfl hQ hmb hmh rfl (by rw [hty]; simp only [so, sq, zy, zz, tyE, SO', SQ', opQ, opStore, opAlloc, ev, putS, dOk, cv, SV.cs, SV.one, SV.bool?, eqB, Value.oneCell', ldOwn, binInt, binConst, binBool, binStr, isC, TK.agg, rv, rv1, ldV, resOne, resV, Nat.reduceAdd, Nat.reduceMul, Nat.reduceSub, Nat.reduceLT, Nat.reduceLeDiff, Nat.reduceEqDiff, Nat.reduceBEq, reduceIte, reduceCtorEq, eq_self]; try rfl) rfl rfl ?_
    simp only [SV.den, resV, dens]
    exact .inr ⟨hev, rfl⟩
  (refine x_split rfl rfl rfl (fun hc => absurd hc (by simp [hev])) (fun _ => ?_); refine st_ ?_; (refine ru_ ?_; intros))
  refine rn_ ?_; intros
  have hvv : vld v = true := by simp only [Bool.and_eq_true] at hev; exact hev.1
  refine go_call (by rw [hnt]; rfl) (by rw [hP]; kernel_rfl) rfl (hP ▸ copyC_ok v _ G (VT.repC_rep hv) (by omega)) ?_
  rintro v2 G1 (hle1 : Le G G1) (⟨_, ad1, cap1, rfl, hcp⟩ | ⟨hno, _⟩)
  rotate_left
  · simp only [vld, Bool.and_eq_true] at hvv; rw [hvv.1] at hno; cases hno
  refine rn_ ?_; intros
  rename_i b0 b1 b2
  refine go_see 2 [.v (.int .i64 1), .v (.slice (some ⟨b1, 0, none⟩) 1 1), .v (.slice none 0 0), .v (.slice none 0 0)] rfl rfl ?_
  refine go_keep [2, 3] [1, 2] ?_
  refine st_ ?_
  refine go_litrow 1 (n := 1) (size := 5) rfl (by omega) rfl (by omega) ?_
  refine st_ ?_
  refine go_pubL rT 1 rfl (by omega) (ts := [⟨v, [], []⟩]) rfl (by omega) (Rp.L_single ⟨_, _, _, rfl, ⟨hcp, hb, Rp.S_nil _ _, Rp.S_nil _ _, capNil⟩⟩) ?_
  intro G2 y9 z9 (hle2 : Le G1 G2) he2 hS2
  rw [← he2] at hS2
  refine st_ ?_
  refine go_litrow 2 (n := 1) (size := 4) rfl (by omega) rfl (by omega) ?_
  refine st_ ?_
  refine x_retr 2 rfl hQ hmb hmh rfl (by rw [hty]; simp only [so, sq, zy, zz, tyE, SO', SQ', opQ, opStore, opAlloc, ev, putS, dOk, cv, SV.cs, SV.one, SV.bool?, eqB, Value.oneCell', ldOwn, binInt, binConst, binBool, binStr, isC, TK.agg, rv, rv1, ldV, resOne, resV, Nat.reduceAdd, Nat.reduceMul, Nat.reduceSub, Nat.reduceLT, Nat.reduceLeDiff, Nat.reduceEqDiff, Nat.reduceBEq, reduceIte, reduceCtorEq, eq_self]; try rfl) rfl rfl ?_
  simp only [SV.den, resV, dens]
  exact .inl ⟨hev, b2, _, rfl, rfl, rfl, rfl, rfl, rfl, fun ad n c h => by cases h; omega, hS2⟩
theorem fcopy_ok (f : Fc) (b : Nat) (sl sb sc : Value) (G : Hp) (h : FzH f G sl sb sc) (hs : ∀ x ∈ f.b, BsOk x) :
    PureW Tryd.prog 34 [.pointer (some ⟨b, 0, none⟩)] G (fzO b f.st sl sb sc) (fun v G' ow => ∃ b', v = .pointer (some ⟨b', 0, none⟩) ∧ FzR G' f b' ow) := by
  have hbl := h.bl
  have hbb := h.bb
  have hbc := h.bc
  refine enterW ty tyok Tryd.func34 rfl Tryd.ntmps34 [.p 0 b 0] (by simp) (mh := 1) rfl ?_
  intro C hP hQ hnt hty hmb hmh hro hG0 hmub; have hQp := qp_body hQ; refine st_ ?_
  simp only [enumO, fzO]
  refine rn_ ?_; intros
  refine go_callW [0] (ow := fzO b f.st sl sb sc) (by rw [hnt]; rfl) (by rw [hP]; kernel_rfl) rfl rfl rfl (.inr (by intro k hk; simp at hk; subst hk; rw [hmh]; omega)) (hP ▸ none_ok b f.st sl sb sc G) ?_
  rintro v1 G1 ow (hle1 : Le G G1) ⟨rfl, rfl⟩
  simp only [setO, fzO]
  refine st_ ?_
  refine rn_ ?_; intros
  (refine x_split rfl rfl rfl (fun hc => absurd hc (by simpa using h.z)) (fun _ => ?_); refine st_ ?_; (refine ru_ ?_; intros))
  refine rn_ ?_; intros
  refine x_held [(0, b, .c 74 [.v (.int .i64 f.st), .v sl, .v sb, .v sc])] rfl (by rw [hP]; kernel_rfl) rfl rfl rfl ?_; refine st_ ?_
  refine h_take 0 rfl (by kernel_rfl) (by kernel_rfl) (by kernel_rfl) hQp (by rw [hnt]; rfl) (allIn (by repeat (first | exact trivial | refine ⟨rfl, ?_⟩))) (by first | exact Le.refl _ | assumption) (quiet_op (by rw [hty]; first | rfl | (refine st_ ?_; rfl))) ?_; refine st_ ?_
  refine h_take 1 rfl (by kernel_rfl) (by kernel_rfl) (by kernel_rfl) hQp (by rw [hnt]; rfl) (allIn (by repeat (first | exact trivial | refine ⟨rfl, ?_⟩))) (by first | exact Le.refl _ | assumption) (quiet_op (by rw [hty]; first | rfl | (refine st_ ?_; rfl))) ?_; refine st_ ?_
  refine h_take 2 rfl (by kernel_rfl) (by kernel_rfl) (by kernel_rfl) hQp (by rw [hnt]; rfl) (allIn (by repeat (first | exact trivial | refine ⟨rfl, ?_⟩))) (by first | exact Le.refl _ | assumption) (quiet_op (by rw [hty]; first | rfl | (refine st_ ?_; rfl))) ?_; refine st_ ?_
  refine h_take 3 rfl (by kernel_rfl) (by kernel_rfl) (by kernel_rfl) hQp (by rw [hnt]; rfl) (allIn (by repeat (first | exact trivial | refine ⟨rfl, ?_⟩))) (by first | exact Le.refl _ | assumption) (quiet_op (by rw [hty]; first | rfl | (refine st_ ?_; rfl))) ?_; refine st_ ?_
  refine h_take 4 rfl (by kernel_rfl) (by kernel_rfl) (by kernel_rfl) hQp (by rw [hnt]; rfl) (allIn (by repeat (first | exact trivial | refine ⟨rfl, ?_⟩))) (by first | exact Le.refl _ | assumption) (quiet_op (by rw [hty]; first | rfl | (refine st_ ?_; rfl))) ?_; refine st_ ?_
  refine h_take 5 rfl (by kernel_rfl) (by kernel_rfl) (by kernel_rfl) hQp (by rw [hnt]; rfl) (allIn (by repeat (first | exact trivial | refine ⟨rfl, ?_⟩))) (by first | exact Le.refl _ | assumption) (quiet_op (by rw [hty]; first | rfl | (refine st_ ?_; rfl))) ?_; refine st_ ?_
  refine h_take 6 rfl (by kernel_rfl) (by kernel_rfl) (by kernel_rfl) hQp (by rw [hnt]; rfl) (allIn (by repeat (first | exact trivial | refine ⟨rfl, ?_⟩))) (by first | exact Le.refl _ | assumption) (quiet_op (by rw [hty]; first | rfl | (refine st_ ?_; rfl))) ?_; refine st_ ?_
  refine h_take 7 rfl (by kernel_rfl) (by kernel_rfl) (by kernel_rfl) hQp (by rw [hnt]; rfl) (allIn (by repeat (first | exact trivial | refine ⟨rfl, ?_⟩))) (by first | exact Le.refl _ | assumption) (quiet_op (by rw [hty]; first | rfl | (refine st_ ?_; rfl))) ?_; refine st_ ?_
  refine h_one 8 rfl (by kernel_rfl) ?_
  refine go_call (by rw [hnt]; rfl) (by rw [hP]; kernel_rfl) rfl (hP ▸ cloneI_ok f.c _ G1 (Rp.S_mono hle1 h.c) (by omega)) ?_
  rintro v G2 (hle2 : Le G1 G2) ⟨ad1, cap1, rfl, hc1, hS1⟩
  refine rn_ ?_; intros
  refine h_hs (allIn (by repeat (first | exact trivial | refine ⟨rfl, ?_⟩))) (by first | exact Le.refl _ | assumption) ?_
  refine h_take 9 rfl (by kernel_rfl) (by kernel_rfl) (by kernel_rfl) hQp (by rw [hnt]; rfl) (allIn (by repeat (first | exact trivial | refine ⟨rfl, ?_⟩))) (by first | exact Le.refl _ | assumption) (quiet_op (by rw [hty]; first | rfl | (refine st_ ?_; rfl))) ?_; refine st_ ?_
  refine h_one 10 rfl (by kernel_rfl) ?_
  refine rn_ ?_; intros
  rename_i b'
  refine h_hs (allIn (by repeat (first | exact trivial | refine ⟨rfl, ?_⟩))) (by first | exact Le.refl _ | assumption) ?_
  refine h_one 11 rfl (by kernel_rfl) ?_
  refine rn_ ?_; intros
  refine h_hs (allIn (by repeat (first | exact trivial | refine ⟨rfl, ?_⟩))) (by first | exact Le.refl _ | assumption) ?_
  refine h_end (by kernel_rfl) ?_
  refine rn_ ?_; intros
  have hle := hle1.trans hle2
  refine go_call (by rw [hnt]; rfl) (by rw [hP]; kernel_rfl) rfl (hP ▸ copP_ok f.l _ G2 (Rp.S_mono hle h.l) (by omega)) ?_
  rintro v G3 (hle3 : Le G2 G3) ⟨ad2, cap2, rfl, hc2, hS2⟩
  refine rn_ ?_; intros
  refine go_call (by rw [hnt]; rfl) (by rw [hP]; kernel_rfl) rfl (hP ▸ copB_ok f.b _ G3 (Rp.S_mono (hle.trans hle3) h.b) (by omega) hs) ?_
  rintro v G4 (hle4 : Le G3 G4) ⟨ad3, cap3, rfl, hc3, hS3⟩
  refine rn_ ?_; intros
  refine go_ren 1 0 rfl (by omega) ?_
  refine go_slot 2 (.v (.pointer (some ⟨b', 0, none⟩))) rfl rfl ?_
  refine go_keep [2] [0] ?_
  refine st_ ?_
  refine x_retW rfl hQ hmb hmh hG0 hmub rfl rfl (by rw [hty]; simp only [so, sq, zy, zz, tyE, SO', SQ', opQ, opStore, opAlloc, ev, putS, dOk, cv, SV.cs, SV.one, SV.bool?, eqB, Value.oneCell', ldOwn, binInt, binConst, binBool, binStr, isC, TK.agg, rv, rv1, ldV, resOne, resV, Nat.reduceAdd, Nat.reduceMul, Nat.reduceSub, Nat.reduceLT, Nat.reduceLeDiff, Nat.reduceEqDiff, Nat.reduceBEq, reduceIte, reduceCtorEq, eq_self]; try rfl) rfl rfl (by simp only [enumO]; exact (by repeat (first | exact plain_nil | refine plain_cons (fun _ h => h) ?_))) ?_; simp only [SV.den, resV, dens]
  exact ⟨b', rfl, _, _, _, (fun ad n c h => by cases h; exact hc2 : CapOk (.slice ad2 f.l.length cap2)), (fun ad n c h => by cases h; exact hc3 : CapOk (.slice ad3 f.b.length cap3)), (fun ad n c h => by cases h; exact hc1 : CapOk (.slice ad1 f.c.length cap1)), Rp.S_mono hle4 hS2, hS3, Rp.S_mono (hle3.trans hle4) hS1, rfl⟩
end Go.Proofs.YthocgjchmpkhoaaDoor
namespace Go.Proofs.YthocgjchmpkhoaaDoor
set_option linter.unusedSimpArgs false
set_option linter.unusedVariables false
open Go.Sx
set_option maxHeartbeats 8000000
set_option maxRecDepth 20000
def callG (f : Fc) : Cl := match f.l.head? with
  | none => ⟨0, []⟩
  | some x => ⟨x.v.n, if x.v.k = 12 then x.v.l ++ [.mk 13 (f.c.getLastD 0) []] else x.v.l⟩
theorem fcall_ok (f : Fc) (b : Nat) (sl sb sc : Value) (G : Hp) (h : FzH f G sl sb sc) (hst : f.st = 2) (hnc : ∀ x ∈ f.l.head?, x.v.k = 12 → 1 ≤ f.c.length) :
    PureW Tryd.prog 22 [.pointer (some ⟨b, 0, none⟩)] G (fzO b f.st sl sb sc) (fun v G' ow => (∃ s1, v = .tuple #[.agg #[.int .i64 (callG f).f, s1], .bool true] ∧ rV.S G' (callG f).a s1) ∧ ow = fzO b f.st sl sb sc) := by
  have hl1 := h.s (.inr (.inl hst))
  obtain ⟨al, cl, rfl⟩ := Rp.S_slice h.l
  obtain ⟨ac, cc, rfl⟩ := Rp.S_slice h.c
  obtain ⟨c0, o0, s1, s2, s3, e0, hat, hrx⟩ := rT_at h.l (i := 0) (by omega)
  subst e0
  obtain ⟨x, r, hfl⟩ : ∃ x r, f.l = x :: r := by
    cases hl : f.l with
    | nil => rw [hl] at hl1; simp at hl1
    | cons x r => exact ⟨x, r, rfl⟩
  have hh : f.l.head? = some x := by rw [hfl]; rfl
  have hx0 : f.l[0]'(by omega) = x := by simp [hfl]
  rw [hx0] at hat hrx
  have hvx := h.v x (by rw [hfl]; simp)
  have hbc := h.bc
  have hsx : ∀ y ∈ x.v.l, sml y = true := fun y hy => by have := vld_mem hvx hy; simp only [vld, Bool.and_eq_true] at this; exact this.1
  have hlx : x.v.l.length ≤ 256 := by
    have h1 : sml x.v = true := by simp only [vld, Bool.and_eq_true] at hvx; exact hvx.1
    have h2 := sml_tsz h1
    have h3 := tsz_own x.v
    have h4 := tszL_len x.v.l
    omega
  obtain ⟨hkk, hkn⟩ := VT.rep_k (VT.repC_rep hrx.v)
  obtain ⟨a1, q1, rfl⟩ := VT.repC_slice hrx.v
  obtain ⟨a2, q2, rfl⟩ := Rp.S_slice hrx.w
  obtain ⟨a3, q3, rfl⟩ := Rp.S_slice hrx.c
  refine enterW ty tyok Tryd.func22 rfl Tryd.ntmps22 [.p 0 b 0] (by simp) (mh := 1) rfl ?_
  intro C hP hQ hnt hty hmb hmh hro hG0 hmub; have hQp := qp_body hQ; refine st_ ?_
  simp only [enumO, fzO]
  refine rn_ ?_; intros
  refine go_callW [0] (ow := fzO b f.st (.slice (some ⟨c0, o0, none⟩) f.l.length cl) sb (.slice ac f.c.length cc)) (by rw [hnt]; rfl) (by rw [hP]; kernel_rfl) rfl rfl rfl (.inr (by intro k hk; simp at hk; subst hk; rw [hmh]; omega)) (hP ▸ none_ok b f.st _ sb _ G) ?_
  rintro v1 G1 ow (hle1 : Le G G1) ⟨rfl, rfl⟩
  simp only [setO, fzO]
  refine st_ ?_
  refine rn_ ?_; intros
  (refine go_gsplit rfl rfl (fun hc => absurd hc (by simpa using h.z)) (fun _ => ?_); refine st_ ?_; (refine rn_ ?_; intros))
  (refine x_split rfl rfl rfl (fun hc => absurd hc (by simpa using hst)) (fun _ => ?_); refine st_ ?_; (refine ru_ ?_; intros))
  refine rn_ ?_; intros
  refine go_q (by rw [hnt]; rfl) (quiet_index (by rw [hty]; rfl) (by rw [hty]; rfl) rfl rfl rfl (by omega) (by omega)) ?_
  refine rn_ ?_; intros
  refine go_q (v := .agg (itL x (.slice a1 x.v.l.length q1) (.slice a2 x.w.length q2) (.slice a3 x.c.length q3)).toArray) (by rw [hnt]; rfl) ((quiet_load (by rw [hty]; rfl) rfl (fun q => by cases q) (by simpa using hat.mono hle1) rfl).cast (by simp only [ldV]; rfl)) ?_
  simp only [itL]
  refine rn_ ?_; intros
  rename_i br bp
  refine go_callr 9 (by rw [hnt]; rfl) (by rw [hP]; kernel_rfl) rfl rfl (by omega) (hP ▸ copVR_ok x.v.l _ G1 (rV_of (VT.repC_mono hle1 hrx.v) hrx.b) (by omega) hsx) ?_
  rintro v G2 r e size n xs (hle2 : Le G1 G2) ⟨rfl, rfl, rfl, rfl, hL2, hcap2⟩
  refine go_rowS 9 rfl ?_
  rintro a4 c4 rfl
  refine rn_ ?_; intros
  have hle := hle1.trans hle2
  by_cases k12 : x.v.k = 12
  rotate_left
  · have hcg : callG f = ⟨x.v.n, x.v.l⟩ := by simp only [callG, hh, if_neg k12]
    (refine x_split rfl rfl rfl (fun hc => absurd hc (by simpa using k12)) (fun _ => ?_); refine st_ ?_; (refine ru_ ?_; intros))
    refine rn_ ?_; intros
    refine go_pubL rV 9 rfl (by omega) (ts := x.v.l) rfl (by omega) hL2 ?_
    intro G3 y6 z6 (hle3 : Le G2 G3) he3 hS3
    rw [← he3] at hS3
    refine st_ ?_
    refine x_retW rfl hQ hmb hmh hG0 hmub rfl rfl (by rw [hty]; simp only [so, sq, zy, zz, tyE, SO', SQ', opQ, opStore, opAlloc, ev, putS, dOk, cv, SV.cs, SV.one, SV.bool?, eqB, Value.oneCell', ldOwn, binInt, binConst, binBool, binStr, isC, TK.agg, rv, rv1, ldV, resOne, resV, Nat.reduceAdd, Nat.reduceMul, Nat.reduceSub, Nat.reduceLT, Nat.reduceLeDiff, Nat.reduceEqDiff, Nat.reduceBEq, reduceIte, reduceCtorEq, eq_self]; try rfl) rfl rfl (by simp only [enumO]; exact (by repeat (first | exact plain_nil | refine plain_cons (fun _ h => h) ?_))) ?_; simp only [SV.den, resV, dens]
    rw [hcg]
    exact ⟨⟨_, rfl, hS3⟩, rfl⟩
  have hc1 := hnc x (by rw [hh]; rfl) k12
  have hgl : f.c.getLastD 0 = f.c[f.c.length - 1]'(by omega) := by
    rw [List.getLastD_eq_getLast?, List.getLast?_eq_getElem?, List.getElem?_eq_getElem (by omega)]; rfl
  have hcg : callG f = ⟨x.v.n, x.v.l ++ [.mk 13 (f.c[f.c.length - 1]'(by omega)) []]⟩ := by simp only [callG, hh, if_pos k12, hgl]
  obtain ⟨c9, o9, e9, hat9⟩ := rI_atJ h.c (i := f.c.length - 1) (by omega)
  have hi9 : isI64 (f.c[f.c.length - 1]'(by omega)) := rI_i64 h.c _ (List.getElem_mem _)
  cases e9
  generalize f.c[f.c.length - 1]'(by omega) = n9 at *
  (refine x_split rfl rfl rfl (fun _ => ?_) (fun hc => absurd hc (by simpa using k12)); refine st_ ?_; (refine ru_ ?_; intros))
  refine rn_ ?_; intros
  have hleaf : ∀ G', VT.repC G' (.mk 13 n9 []) (.slice none 0 0) := fun G' => by
    rw [repC_iff]
    exact ⟨by simp [isI64], hi9, by simp, none, 0, rfl, by simp, .inl rfl⟩
  refine go_keep [0, 2, 4, 5] [0, 1, 2, 9] ?_
  refine st_ ?_
  refine x_held [(0, b, .c 74 [.v (.int .i64 f.st), .v (.slice (some ⟨c0, o0, none⟩) f.l.length cl), .v sb, .v (.slice (some ⟨c9, o9, none⟩) f.c.length cc)])] rfl (by rw [hP]; kernel_rfl) rfl rfl rfl ?_; refine st_ ?_
  refine h_take 0 rfl (by kernel_rfl) (by kernel_rfl) (by kernel_rfl) hQp (by rw [hnt]; rfl) (allIn (by repeat (first | exact trivial | refine ⟨rfl, ?_⟩))) (by first | exact Le.refl _ | assumption) (quiet_op (by rw [hty]; first | rfl | (refine st_ ?_; rfl))) ?_; refine st_ ?_
  refine h_take 1 rfl (by kernel_rfl) (by kernel_rfl) (by kernel_rfl) hQp (by rw [hnt]; rfl) (allIn (by repeat (first | exact trivial | refine ⟨rfl, ?_⟩))) (by first | exact Le.refl _ | assumption) (quiet_op (by rw [hty]; first | rfl | (refine st_ ?_; rfl))) ?_; refine st_ ?_
  refine h_take 2 rfl (by kernel_rfl) (by kernel_rfl) (by kernel_rfl) hQp (by rw [hnt]; rfl) (allIn (by repeat (first | exact trivial | refine ⟨rfl, ?_⟩))) (by first | exact Le.refl _ | assumption) (quiet_op (by rw [hty]; first | rfl | (refine st_ ?_; rfl))) ?_; refine st_ ?_
  refine h_take 3 rfl (by kernel_rfl) (by kernel_rfl) (by kernel_rfl) hQp (by rw [hnt]; rfl) (allIn (by repeat (first | exact trivial | refine ⟨rfl, ?_⟩))) (by first | exact Le.refl _ | assumption) (quiet_op (by rw [hty]; first | rfl | (refine st_ ?_; rfl))) ?_; refine st_ ?_
  refine h_take 4 rfl (by kernel_rfl) (by kernel_rfl) (by kernel_rfl) hQp (by rw [hnt]; rfl) (allIn (by repeat (first | exact trivial | refine ⟨rfl, ?_⟩))) (by first | exact Le.refl _ | assumption) (quiet_op (by rw [hty]; first | rfl | (refine st_ ?_; rfl))) ?_; refine st_ ?_
  refine h_take 5 rfl (by kernel_rfl) (by kernel_rfl) (by kernel_rfl) hQp (by rw [hnt]; rfl) (allIn (by repeat (first | exact trivial | refine ⟨rfl, ?_⟩))) (by first | exact Le.refl _ | assumption) (quiet_op (by rw [hty]; first | rfl | (refine st_ ?_; rfl))) ?_; refine st_ ?_
  refine h_take 6 rfl (by kernel_rfl) (by kernel_rfl) (by kernel_rfl) hQp (by rw [hnt]; rfl) (allIn (by repeat (first | exact trivial | refine ⟨rfl, ?_⟩))) (by first | exact Le.refl _ | assumption) (quiet_op (by rw [hty]; first | rfl | (refine st_ ?_; rfl))) ?_; refine st_ ?_
  refine h_take 7 rfl (by kernel_rfl) (by kernel_rfl) (by kernel_rfl) hQp (by rw [hnt]; rfl) (allIn (by repeat (first | exact trivial | refine ⟨rfl, ?_⟩))) (by first | exact Le.refl _ | assumption) (quiet_op (by rw [hty]; first | rfl | (refine st_ ?_; rfl))) ?_; refine st_ ?_
  refine h_take 8 rfl (by kernel_rfl) (by kernel_rfl) (by kernel_rfl) hQp (by rw [hnt]; rfl) (allIn (by repeat (first | exact trivial | refine ⟨rfl, ?_⟩))) (by first | exact Le.refl _ | assumption) (quiet_op (by rw [hty]; first | rfl | (refine st_ ?_; rfl))) ?_; refine st_ ?_
  refine h_take 9 rfl (by kernel_rfl) (by kernel_rfl) (by kernel_rfl) hQp (by rw [hnt]; rfl) (allIn (by repeat (first | exact trivial | refine ⟨rfl, ?_⟩))) (by first | exact Le.refl _ | assumption) (quiet_op (by rw [hty]; first | rfl | (refine st_ ?_; rfl))) ?_; refine st_ ?_
  refine h_take 10 rfl (by kernel_rfl) (by kernel_rfl) (by kernel_rfl) hQp (by rw [hnt]; rfl) (allIn (by repeat (first | exact trivial | refine ⟨rfl, ?_⟩))) (by first | exact Le.refl _ | assumption) (quiet_op (by rw [hty]; first | rfl | (refine st_ ?_; rfl))) ?_; refine st_ ?_
  rw [wr (n := (f.c.length : Int) - 1) (by omega) (by omega)]
  refine h_take 11 rfl (by kernel_rfl) (by kernel_rfl) (by kernel_rfl) hQp (by rw [hnt]; rfl) (allIn (by repeat (first | exact trivial | refine ⟨rfl, ?_⟩))) (by first | exact Le.refl _ | assumption) (x := .v (.pointer (some ⟨c9, o9 + (f.c.length - 1), none⟩))) ((quiet_index (by rw [hty]; rfl) (by rw [hty]; rfl) rfl rfl rfl (by omega) (by omega)).cast (by simp [SV.den])) ?_
  refine st_ ?_
  refine h_take 12 rfl (by kernel_rfl) (by kernel_rfl) (by kernel_rfl) hQp (by rw [hnt]; rfl) (allIn (by repeat (first | exact trivial | refine ⟨rfl, ?_⟩))) (by first | exact Le.refl _ | assumption) (x := .v (.int .i64 n9)) ((quiet_load (vs := [.int .i64 n9]) (by rw [hty]; rfl) rfl (by simp [TK.agg]) (hat9.mono hle) rfl).cast (by rfl)) ?_
  refine st_ ?_
  refine h_take 13 rfl (by kernel_rfl) (by kernel_rfl) (by kernel_rfl) hQp (by rw [hnt]; rfl) (allIn (by repeat (first | exact trivial | refine ⟨rfl, ?_⟩))) (by first | exact Le.refl _ | assumption) (quiet_op (by rw [hty]; first | rfl | (refine st_ ?_; rfl))) ?_; refine st_ ?_
  refine h_one 14 rfl (by kernel_rfl) ?_
  refine rn_ ?_; intros
  refine h_hs (allIn (by repeat (first | exact trivial | refine ⟨rfl, ?_⟩))) (by first | exact Le.refl _ | assumption) ?_
  refine h_one 15 rfl (by kernel_rfl) ?_
  refine go_append 9 (by rw [hnt]; rfl) (by rw [hty]; rfl) (by rw [hty]; rfl) (by decide) rfl rfl rfl (by omega) rfl (src_own 3 rfl rfl) rfl (by simp [dens, SV.den, Value.oneCell']) (by omega) (by simp only []; omega) ?_
  intro v'
  refine go_rowC 9 rfl ?_
  rintro y8 z8 rfl hc8
  refine rn_ ?_; intros
  refine h_hs (allIn (by repeat (first | exact trivial | refine ⟨rfl, ?_⟩))) (by first | exact Le.refl _ | assumption) ?_
  refine h_one 16 rfl (by kernel_rfl) ?_
  refine rn_ ?_; intros
  refine h_hs (allIn (by repeat (first | exact trivial | refine ⟨rfl, ?_⟩))) (by first | exact Le.refl _ | assumption) ?_
  refine h_end (by kernel_rfl) ?_
  refine rn_ ?_; intros
  refine go_pubL rV 9 rfl (by omega) (ts := x.v.l ++ [.mk 13 n9 []]) (by simp) (by omega) (Rp.L_append hL2 (Rp.L_single ⟨_, rfl, hleaf _, by simp [tsz, tszL]⟩)) ?_
  intro G3 y6 z6 (hle3 : Le G2 G3) he3 hS3
  rw [← he3] at hS3
  refine st_ ?_
  refine x_retW rfl hQ hmb hmh hG0 hmub rfl rfl (by rw [hty]; simp only [so, sq, zy, zz, tyE, SO', SQ', opQ, opStore, opAlloc, ev, putS, dOk, cv, SV.cs, SV.one, SV.bool?, eqB, Value.oneCell', ldOwn, binInt, binConst, binBool, binStr, isC, TK.agg, rv, rv1, ldV, resOne, resV, Nat.reduceAdd, Nat.reduceMul, Nat.reduceSub, Nat.reduceLT, Nat.reduceLeDiff, Nat.reduceEqDiff, Nat.reduceBEq, reduceIte, reduceCtorEq, eq_self]; try rfl) rfl rfl (by simp only [enumO]; exact (by repeat (first | exact plain_nil | refine plain_cons (fun _ h => h) ?_))) ?_; simp only [SV.den, resV, dens]
  rw [hcg]
  exact ⟨⟨_, rfl, hS3⟩, rfl⟩
end Go.Proofs.YthocgjchmpkhoaaDoor
namespace Go.Proofs.YthocgjchmpkhoaaDoor
set_option linter.unusedSimpArgs false
set_option linter.unusedVariables false
open Go.Sx
def WOk (w : List Cl) : Prop := ∀ c ∈ w, c.a.length ≤ 1000 ∧ ∀ y ∈ c.a, sml y = true
structure GOk (f : Fc) (n : Nat) : Prop where
  k : FcOk f
  w : ∀ x ∈ f.l, WOk x.w
  b : ∀ x ∈ f.b, BsOk x
  c : f.c.length ≤ n
  z : f.st ≠ 0
  h : f.st = 2 → ∀ x ∈ f.l.head?, x.v.k = 12 → 1 ≤ f.c.length
theorem vld_s {x : VT} (h : vld x = true) : sml x = true := by simp only [vld, Bool.and_eq_true] at h; exact h.1
theorem vld_len {x : VT} (h : vld x = true) : x.l.length ≤ 256 := by
  have h2 := sml_tsz (vld_s h)
  have h3 := tsz_own x
  have h4 := tszL_len x.l
  omega
theorem wrF_g (n : Nat) : GOk wrF n := ⟨wrF_fc, fun x h => (by cases h), fun x h => (by cases h), by simp [wrF], by simp [wrF], fun h => by simp [wrF] at h⟩
theorem puts_g {f : Fc} {n : Nat} (l : List It) (h : ∀ x ∈ l ++ f.l.drop 1, vld x.v = true) (hw : ∀ x ∈ l ++ f.l.drop 1, WOk x.w) (hb : ∀ x ∈ f.b, BsOk x) (hc : f.c.length ≤ n) : GOk (putsF f l) n := by
  have hk := puts_fc l h
  by_cases h1 : 32 < (l ++ f.l.drop 1).length + f.b.length
  · rw [putsF_wr (.inl h1)]; exact wrF_g n
  cases h2 : (l ++ f.l.drop 1).any lngI with
  | true => rw [putsF_wr (.inr h2)]; exact wrF_g n
  | false =>
    rw [putsF_ok h1 h2] at hk ⊢
    refine ⟨hk, hw, hb, hc, ?_, fun hs => ?_⟩
    · show (if (l ++ f.l.drop 1).length = 0 then (4 : Int) else 1) ≠ 0
      split <;> omega
    · have hs : (if (l ++ f.l.drop 1).length = 0 then (4 : Int) else 1) = 2 := hs
      split at hs <;> omega
theorem zV_sml : sml zV = true := by decide
theorem getD_sml {x : VT} (h : vld x = true) (i : Nat) : sml (x.l.getD i zV) = true := by
  rw [List.getD_eq_getElem?_getD]
  rcases Nat.lt_or_ge i x.l.length with hi | hi
  · rw [List.getElem?_eq_getElem hi]; exact vld_s (vld_mem h (List.getElem_mem hi))
  · rw [List.getElem?_eq_none hi]; exact zV_sml
theorem base_g {x : It} (hv : vld x.v = true) (hw : WOk x.w) (hl : x.w.length ≤ 32 ∧ x.c.length ≤ 32) : BsOk (baseF x) := by
  have h1 : (baseF x).w = x.w ∧ (baseF x).c = x.c := ⟨by rw [baseF]; (repeat' split) <;> rfl, by rw [baseF]; (repeat' split) <;> rfl⟩
  refine ⟨?_, by rw [h1.1]; omega, by rw [h1.2]; omega, by rw [h1.1]; exact hw⟩
  rw [baseF]
  repeat' split
  · exact getD_sml hv 1
  · exact zV_sml
  · exact getD_sml hv 0
  · exact zV_sml
  · exact zV_sml
theorem drop_g {f : Fc} {n : Nat} (h : GOk f n) : ∀ x ∈ f.l.drop 1, WOk x.w := fun x hx => h.w x (List.mem_of_mem_drop hx)
theorem step_g {f : Fc} {n : Nat} (h : GOk f n) : GOk (stepF f).1 n := by
  rw [stepF]
  split
  · exact h
  · rename_i hs
    have hs : f.st = 1 := by simpa using hs
    have h1 := h.k.s (.inl hs)
    cases hl : f.l.head? with
    | none => exact h
    | some x =>
      have hxm : x ∈ f.l := List.mem_of_mem_head? hl
      have hvx := h.k.v x hxm
      have hwx := h.w x hxm
      simp only
      split
      · refine puts_g _ (by simpa using drop_vld h.k) (by simpa using drop_g h) (fun y hy => ?_) h.c
        rcases List.mem_append.1 hy with hy | hy
        · exact h.b y hy
        · simp only [List.mem_singleton] at hy
          subst hy
          exact base_g hvx hwx (h.k.w x hxm)
      · split
        · refine puts_g _ (fun y hy => ?_) (fun y hy => ?_) h.b h.c
          · rcases List.mem_append.1 hy with hy | hy
            · obtain ⟨z, hz, rfl⟩ := List.mem_map.1 hy
              exact vld_mem hvx hz
            · exact drop_vld h.k y hy
          · rcases List.mem_append.1 hy with hy | hy
            · obtain ⟨z, hz, rfl⟩ := List.mem_map.1 hy
              exact hwx
            · exact drop_g h y hy
        · split
          · rename_i k10
            refine puts_g _ (fun y hy => ?_) (fun y hy => ?_) h.b h.c
            · rcases List.mem_append.1 hy with hy | hy
              · simp only [List.mem_singleton] at hy
                subst hy
                have := vld_k10 hvx k10
                rw [List.getD_eq_getElem?_getD, List.getElem?_eq_getElem (by omega)]
                exact vld_mem hvx (List.getElem_mem _)
              · exact drop_vld h.k y hy
            · rcases List.mem_append.1 hy with hy | hy
              · simp only [List.mem_singleton] at hy
                subst hy
                intro c hc
                rcases List.mem_cons.1 hc with rfl | hc
                · refine ⟨?_, fun y hy => vld_s (vld_mem hvx (List.mem_of_mem_drop hy))⟩
                  have := vld_len hvx
                  show (x.v.l.drop 1).length ≤ _
                  rw [List.length_drop]; omega
                · exact hwx c hc
              · exact drop_g h y hy
          · split
            · rename_i k11
              exact ⟨⟨h.k.v, h.k.w, h.k.n, fun _ => h1, by show (0 : Int) ≤ 2 ∧ (2 : Int) ≤ 5; omega⟩, h.w, h.b, h.c, by simp, fun _ y hy hk => by
                have hy : y ∈ f.l.head? := hy
                rw [hl] at hy
                cases hy
                omega⟩
            · split
              · exact ⟨⟨h.k.v, h.k.w, h.k.n, fun _ => h1, by show (0 : Int) ≤ 3 ∧ (3 : Int) ≤ 5; omega⟩, h.w, h.b, h.c, by simp, fun hs => by simp at hs⟩
              · exact wrF_g n
theorem give_g {f : Fc} {n : Nat} (h : GOk f n) (v : VT) : GOk (giveG f v).1 n := by
  rw [giveG]
  split
  · exact h
  · rename_i hv
    split
    · exact h
    · cases hl : f.l.head? with
      | none => exact h
      | some x =>
        have hxm : x ∈ f.l := List.mem_of_mem_head? hl
        refine puts_g _ (fun y hy => ?_) (fun y hy => ?_) h.b h.c
        · rcases List.mem_append.1 hy with hy | hy
          · simp only [List.mem_singleton] at hy
            subst hy
            show vld v = true
            simpa using hv
          · exact drop_vld h.k y hy
        · rcases List.mem_append.1 hy with hy | hy
          · simp only [List.mem_singleton] at hy
            subst hy
            exact h.w x hxm
          · exact drop_g h y hy
theorem cond_g {f : Fc} {n : Nat} (h : GOk f n) (m : Int) : GOk (condG f m).1 (n + 1) := by
  have hc := h.c
  rw [condG]
  split
  · exact ⟨h.k, h.w, h.b, by show f.c.length ≤ _; omega, h.z, h.h⟩
  · split
    · exact ⟨h.k, h.w, h.b, by show f.c.length ≤ _; omega, h.z, h.h⟩
    · rename_i hs
      have hs : f.st = 3 := by simpa using hs
      exact ⟨⟨h.k.v, h.k.w, h.k.n, fun _ => h.k.s (.inr (.inr hs)), by show (0 : Int) ≤ 2 ∧ (2 : Int) ≤ 5; omega⟩, h.w, h.b, by simp; omega, by simp, fun _ x _ _ => by simp⟩
theorem GOk.up {f : Fc} {n m : Nat} (h : GOk f n) (hm : n ≤ m) : GOk f m := ⟨h.k, h.w, h.b, by have := h.c; omega, h.z, h.h⟩
theorem new_g {v : VT} (h : evF v = true) (n : Nat) : GOk (newF v).1 n := by
  have hk := new_fc v
  rw [newF, if_pos h] at hk ⊢
  exact ⟨hk, fun x hx => by simp at hx; subst hx; exact fun c hc => (by cases hc), fun x hx => (by cases hx), by simp, by simp, fun hs => by simp at hs⟩
structure RelF (g F : Fc) : Prop where
  st : g.st = F.st
  b : g.b = F.b
  c : g.c = F.c
  d : g.l.drop 1 = F.l.drop 1
  l : (g.l = F.l ∧ (F.st = 2 → ∀ x ∈ F.l.head?, x.v.k ≠ 12)) ∨ (F.st = 2 ∧ 1 ≤ F.c.length ∧ ∃ x, x.v.k = 12 ∧ g.l.head? = some x ∧ F.l.head? = some ⟨x.v, x.w, x.c ++ [F.c.getLastD 0]⟩)
  h : F.st = 3 → ∃ x, F.l.head? = some x ∧ x.v.k = 12
theorem puts_rel {g F : Fc} (hb : g.b = F.b) (hc : g.c = F.c) (hd : g.l.drop 1 = F.l.drop 1) (l : List It) : putsF g l = putsF F l := by
  simp only [putsF, hb, hc, hd]
theorem puts_st {F : Fc} {l : List It} : (putsF F l).st ≠ 2 ∧ (putsF F l).st ≠ 3 := by
  by_cases h1 : 32 < (l ++ F.l.drop 1).length + F.b.length
  · rw [putsF_wr (.inl h1)]; simp [wrF]
  cases h2 : (l ++ F.l.drop 1).any lngI with
  | true => rw [putsF_wr (.inr h2)]; simp [wrF]
  | false =>
    rw [putsF_ok h1 h2]
    show (if (l ++ F.l.drop 1).length = 0 then (4 : Int) else 1) ≠ 2 ∧ (if (l ++ F.l.drop 1).length = 0 then (4 : Int) else 1) ≠ 3
    split <;> omega
theorem rel_refl {F : Fc} (h2 : F.st ≠ 2) (h3 : F.st ≠ 3) : RelF F F := ⟨rfl, rfl, rfl, rfl, .inl ⟨rfl, fun h => absurd h h2⟩, fun h => absurd h h3⟩
theorem rel_puts {g F : Fc} (h : RelF g F) (l : List It) : RelF (putsF g l) (putsF F l) := by
  rw [puts_rel h.b h.c h.d]
  exact rel_refl puts_st.1 puts_st.2
theorem rel_step {g F : Fc} (h : RelF g F) : RelF (stepF g).1 (stepF F).1 := by
  by_cases hs : F.st = 1
  rotate_left
  · rw [stepF, if_pos (by rw [h.st]; exact hs), stepF, if_pos hs]; exact h
  have hl : g.l = F.l := by
    rcases h.l with ⟨h1, _⟩ | ⟨h1, _⟩
    · exact h1
    · omega
  rw [stepF, if_neg (by rw [h.st]; simp [hs]), stepF, if_neg (by simp [hs]), hl]
  cases hh : F.l.head? with
  | none => exact h
  | some x =>
    simp only
    split
    · rw [puts_rel (g := { g with l := F.l, b := g.b ++ [baseF x] }) (F := { F with b := F.b ++ [baseF x] }) (by show g.b ++ _ = F.b ++ _; rw [h.b]) h.c rfl]
      exact rel_refl puts_st.1 puts_st.2
    · split
      · exact rel_puts h _
      · split
        · exact rel_puts h _
        · split
          · rename_i k11
            exact ⟨rfl, h.b, h.c, rfl, .inl ⟨rfl, fun _ y hy => by
              have hy : y ∈ F.l.head? := hy
              rw [hh] at hy
              cases hy
              omega⟩, fun h3 => by simp at h3⟩
          · split
            · rename_i k12
              exact ⟨rfl, h.b, h.c, rfl, .inl ⟨rfl, fun h2 => by simp at h2⟩, fun _ => ⟨x, hh, k12⟩⟩
            · exact rel_refl (by simp [wrF]) (by simp [wrF])
theorem rel_give {g F : Fc} (h : RelF g F) (v : VT) : RelF (giveG g v).1 (giveF F v).1 := by
  rw [giveG, giveF]
  by_cases hv : vld v = false
  · rw [if_pos hv, if_pos hv]; exact h
  rw [if_neg hv, if_neg hv]
  by_cases hs : F.st = 2
  rotate_left
  · rw [if_pos (by rw [h.st]; exact hs), if_pos hs]; exact h
  rw [if_neg (by rw [h.st]; simp [hs]), if_neg (by simp [hs])]
  rcases h.l with ⟨h1, h2⟩ | ⟨_, _, x, h1, h2, h3⟩
  · rw [h1]
    cases hh : F.l.head? with
    | none => exact h
    | some x =>
      have : giveI g x v = ⟨v, x.w, x.c⟩ := by rw [giveI, if_neg (h2 hs x hh)]
      simp only [this]
      exact rel_puts h _
  · rw [h2, h3]
    have : giveI g x v = ⟨v, x.w, x.c ++ [F.c.getLastD 0]⟩ := by rw [giveI, if_pos h1, h.c]
    simp only [this]
    exact rel_puts h _
theorem rel_cond {g F : Fc} (h : RelF g F) (n : Int) : RelF (condG g n).1 (condF F n).1 := by
  have hgd : F.c.getD (F.c.length - 1) 0 = F.c.getLastD 0 := by
    rw [List.getLastD_eq_getLast?, List.getLast?_eq_getElem?, List.getD_eq_getElem?_getD]
  rw [condG, condF, hgd, h.c]
  by_cases h0 : n < 0 ∨ (0 < F.c.length ∧ n ≤ F.c.getLastD 0)
  · rw [if_pos h0, if_pos h0]; exact h
  rw [if_neg h0, if_neg h0]
  by_cases hs : F.st = 3
  rotate_left
  · rw [if_pos (by rw [h.st]; exact hs), if_pos hs]; exact h
  rw [if_neg (by rw [h.st]; simp [hs]), if_neg (by simp [hs])]
  obtain ⟨x, hx, hk⟩ := h.h hs
  have hl : g.l = F.l := by
    rcases h.l with ⟨h1, _⟩ | ⟨h1, _⟩
    · exact h1
    · omega
  rw [hx]
  refine ⟨rfl, h.b, rfl, ?_, .inr ⟨rfl, by simp, x, hk, by show g.l.head? = _; rw [hl, hx], ?_⟩, fun h3 => by simp at h3⟩
  · show g.l.drop 1 = (_ :: F.l.drop 1).drop 1
    rw [hl]; simp
  · show some _ = some _
    congr 2
    simp
theorem rel_new (v : VT) : RelF (newF v).1 (newF v).1 := by
  rw [newF]
  split
  · exact rel_refl (by simp) (by simp)
  · exact rel_refl (by simp [noF]) (by simp [noF])
end Go.Proofs.YthocgjchmpkhoaaDoor
namespace Go.Proofs.YthocgjchmpkhoaaDoor
set_option linter.unusedSimpArgs false
set_option linter.unusedVariables false
open Go.Sx
set_option maxHeartbeats 8000000
set_option maxRecDepth 20000
theorem rcond_ok (f : Fc) (sl sb sc sa : Value) (n : Int) (G : Hp) (hf : f.rep G sl sb sc sa) (hn : isI64 n) (h1 : f.st = 3 → 1 ≤ f.l.length) (hv : ∀ x ∈ f.l, vld x.v = true) (hw : ∀ x ∈ f.l, x.c.length ≤ 100) (hb1 : f.l.length ≤ 100) (hb3 : f.c.length ≤ 1000) :
    Pure Tryd.prog 33 [.agg (fcL f sl sb sc sa).toArray, .int .i64 n] G (fsRet (condF f n)) := by
  have hcp := hf.cp
  obtain ⟨al, cl, rfl⟩ := Rp.S_slice hf.l
  obtain ⟨ab, cb, rfl⟩ := Rp.S_slice hf.b
  obtain ⟨ac, cc, rfl⟩ := Rp.S_slice hf.c
  obtain ⟨aa, ca, rfl⟩ := Rp.S_slice hf.a
  refine enterX ty tyok Tryd.func33 rfl Tryd.ntmps33 [.a (fcC f (.slice al f.l.length cl) (.slice ab f.b.length cb) (.slice ac f.c.length cc) (.slice aa f.cl.a.length ca)), .v (.int .i64 n)] (by simp) ?_
  simp only [fcC]
  intro C hP hQ hnt hty hmb hmh hro; have hQp := qp_body hQ; refine st_ ?_
  refine rn_ ?_; intros
  rename_i bf br
  refine go_keep [1, 2, 4, 5, 7, 8, 9] [0, 1] ?_
  refine st_ ?_
  refine cut_tailK 1 (fun s' => ∃ u, s' = ⟨[(1, .v (.int .i64 n)), (2, .p 0 bf 0), (4, .p 1 br 0), (5, .v (.int .i64 0)), (26, .b u)], [(0, bf, .c 45 [.v (.int .i64 f.st), .v (.slice al f.l.length cl), .v (.slice ab f.b.length cb), .v (.slice ac f.c.length cc), .v (.int .i64 f.cl.f), .v (.slice aa f.cl.a.length ca)]), (1, br, .c 45 [.v (.int .i64 0), .v (.slice none 0 0), .v (.slice none 0 0), .v (.slice none 0 0), .v (.int .i64 0), .v (.slice none 0 0)])], G, []⟩ ∧ u = decide (n < 0 ∨ (0 < f.c.length ∧ n ≤ f.c.getD (f.c.length - 1) 0))) ?_ ?_
  rotate_left
  · intro Kr key
    simp only [List.take_succ_cons, List.take_zero, List.cons_append, List.nil_append]
    by_cases hn0 : n < 0
    · (refine go_gsplit rfl rfl (fun _ => ?_) (fun hc => absurd hc (by simp [hn0])); refine st_ ?_; (refine rn_ ?_; intros))
      repeat (refine go_gundef rfl (by rw [hnt]; rfl) rfl ?_; (refine st_ ?_; (refine rn_ ?_; intros)))
      refine rn_ ?_; intros
      refine go_keep [1, 2, 4, 5, 26] [0, 1] ?_
      refine st_ ?_
      exact key _ ⟨true, rfl, by simp [hn0]⟩
    (refine go_gsplit rfl rfl (fun hc => absurd hc (by simp [hn0])) (fun _ => ?_); refine st_ ?_; (refine rn_ ?_; intros))
    by_cases hc0 : f.c.length = 0
    · (refine go_gsplit rfl rfl (fun hc => absurd hc (by simp [hc0])) (fun _ => ?_); refine st_ ?_; (refine rn_ ?_; intros))
      repeat (refine go_gundef rfl (by rw [hnt]; rfl) rfl ?_; (refine st_ ?_; (refine rn_ ?_; intros)))
      refine rn_ ?_; intros
      refine go_keep [1, 2, 4, 5, 26] [0, 1] ?_
      refine st_ ?_
      exact key _ ⟨false, rfl, by simp [hn0, hc0]⟩
    (refine go_gsplit rfl rfl (fun _ => ?_) (fun hc => absurd hc (by rw [Bool.not_eq_false]; exact decide_eq_true (by omega))); refine st_ ?_; (refine rn_ ?_; intros))
    rw [wr (n := (f.c.length : Int) - 1) (by omega) (by omega)]
    obtain ⟨c9, o9, e9, hat9⟩ := rI_atJ hf.c (i := f.c.length - 1) (by omega)
    have hgl : f.c.getD (f.c.length - 1) 0 = f.c[f.c.length - 1]'(by omega) := by
      rw [List.getD_eq_getElem?_getD, List.getElem?_eq_getElem (by omega)]; rfl
    rw [hgl] at key
    generalize f.c[f.c.length - 1]'(by omega) = n9 at *
    cases e9
    refine go_q (v := .pointer (some ⟨c9, o9 + (f.c.length - 1), none⟩)) (by rw [hnt]; rfl) ((quiet_index (by rw [hty]; rfl) (by rw [hty]; rfl) rfl rfl rfl (by omega) (by omega)).cast (by simp)) ?_
    refine rn_ ?_; intros
    refine go_q (v := .int .i64 n9) (by rw [hnt]; rfl) ((quiet_load (vs := [.int .i64 n9]) (by rw [hty]; rfl) rfl (by simp [TK.agg]) hat9 rfl).cast (by rfl)) ?_
    refine rn_ ?_; intros
    have hc1 : 0 < f.c.length := by omega
    refine go_slot 26 (.b (decide (n ≤ n9))) rfl rfl ?_
    refine go_keep [1, 2, 4, 5, 26] [0, 1] ?_
    refine st_ ?_
    exact key _ ⟨_, rfl, by simp [hn0, hc1]⟩
  rintro s' ⟨u, rfl, hu⟩
  simp only [List.drop_succ_cons, List.drop_zero]
  cases u
  rotate_left
  · refine rn_ ?_; intros
    refine x_retc rfl hQ hmb rfl (by rw [hty]; simp only [so, sq, zy, zz, tyE, SO', SQ', opQ, opStore, opAlloc, ev, putS, dOk, cv, SV.cs, SV.one, SV.bool?, eqB, Value.oneCell', ldOwn, binInt, binConst, binBool, binStr, isC, TK.agg, rv, rv1, ldV, resOne, resV, Nat.reduceAdd, Nat.reduceMul, Nat.reduceSub, Nat.reduceLT, Nat.reduceLeDiff, Nat.reduceEqDiff, Nat.reduceBEq, reduceIte, reduceCtorEq, eq_self]; try rfl) rfl ?_; simp only [SV.den, resV, dens]
    rw [condF, if_pos (by simpa using hu.symm)]
    exact ⟨_, _, _, _, rfl, hf⟩
  have hu0 : ¬ (n < 0 ∨ (0 < f.c.length ∧ n ≤ f.c.getD (f.c.length - 1) 0)) := by simpa using hu.symm
  refine rn_ ?_; intros
  by_cases hst : f.st = 3
  rotate_left
  · (refine x_split rfl rfl rfl (fun _ => ?_) (fun hc => absurd hc (by simpa using hst)); refine st_ ?_; (refine ru_ ?_; intros))
    refine rn_ ?_; intros
    refine x_retc rfl hQ hmb rfl (by rw [hty]; simp only [so, sq, zy, zz, tyE, SO', SQ', opQ, opStore, opAlloc, ev, putS, dOk, cv, SV.cs, SV.one, SV.bool?, eqB, Value.oneCell', ldOwn, binInt, binConst, binBool, binStr, isC, TK.agg, rv, rv1, ldV, resOne, resV, Nat.reduceAdd, Nat.reduceMul, Nat.reduceSub, Nat.reduceLT, Nat.reduceLeDiff, Nat.reduceEqDiff, Nat.reduceBEq, reduceIte, reduceCtorEq, eq_self]; try rfl) rfl ?_; simp only [SV.den, resV, dens]
    rw [condF, if_neg hu0, if_pos hst]
    exact ⟨_, _, _, _, rfl, hf⟩
  (refine x_split rfl rfl rfl (fun hc => absurd hc (by simpa using hst)) (fun _ => ?_); refine st_ ?_; (refine ru_ ?_; intros))
  refine rn_ ?_; intros
  have hl1 := h1 hst
  obtain ⟨c0, o0, s1, s2, s3, e0, hat, hrx⟩ := rT_at hf.l (i := 0) (by omega)
  subst e0
  obtain ⟨x, r, hfl⟩ : ∃ x r, f.l = x :: r := by
    cases hl : f.l with
    | nil => rw [hl] at hl1; simp at hl1
    | cons x r => exact ⟨x, r, rfl⟩
  have hh : f.l.head? = some x := by rw [hfl]; rfl
  have hx0 : f.l[0]'(by omega) = x := by simp [hfl]
  rw [hx0] at hat hrx
  have hvx := hv x (by rw [hfl]; simp)
  have hwx := hw x (by rw [hfl]; simp)
  have hlx := vld_len hvx
  have hcf : condF f n = ({ f with st := 2, l := ⟨x.v, x.w, x.c ++ [n]⟩ :: f.l.drop 1, c := f.c ++ [n], cl := ⟨x.v.n, x.v.l ++ [.mk 13 n []]⟩ }, 0) := by rw [condF, if_neg hu0, if_neg (by simp [hst]), hh]
  have hcapl := hcp _ _ _ rfl
  have hlo := Rp.S_lo hf.l (a := 1) (by omega) hcapl
  have hrv := rV_of hrx.v hrx.b
  obtain ⟨a1, q1, rfl⟩ := VT.repC_slice hrx.v
  obtain ⟨a2, q2, rfl⟩ := Rp.S_slice hrx.w
  obtain ⟨a3, q3, rfl⟩ := Rp.S_slice hrx.c
  refine go_q (by rw [hnt]; rfl) (quiet_index (by rw [hty]; rfl) (by rw [hty]; rfl) rfl rfl rfl (by omega) (by omega)) ?_
  refine rn_ ?_; intros
  refine go_q (v := .agg (itL x (.slice a1 x.v.l.length q1) (.slice a2 x.w.length q2) (.slice a3 x.c.length q3)).toArray) (by rw [hnt]; rfl) ((quiet_load (by rw [hty]; rfl) rfl (fun q => by cases q) (by simpa using hat) rfl).cast (by simp only [ldV]; rfl)) ?_
  simp only [itL]
  refine rn_ ?_; intros
  rename_i bx b4
  have hleaf : ∀ G', VT.repC G' (.mk 13 n []) (.slice none 0 0) := fun G' => by
    rw [repC_iff]
    exact ⟨by simp [isI64], hn, by simp, none, 0, rfl, by simp, .inl rfl⟩
  obtain ⟨hkk, hkn⟩ := VT.rep_k (VT.repC_rep hrx.v)
  obtain ⟨csc, hcsc, hsrcc⟩ := Rp.srcS hf.c
  refine go_litrow 3 (n := 0) (size := 1) rfl (by omega) rfl (by omega) ?_
  refine st_ ?_
  refine go_append_any 3 (by rw [hnt]; rfl) (by rw [hty]; rfl) (by rw [hty]; rfl) (by decide) rfl rfl rfl (by omega) rfl (hsrcc.imp id fun f => f _ _ rfl) (Rp.L_len hcsc) (Rp.L_one hcsc) (by omega) (by simp only []; omega) ?_
  intro v1
  refine go_rowS 3 rfl ?_
  rintro y3 z3 rfl
  refine rn_ ?_; intros
  refine go_append_any 3 (by rw [hnt]; rfl) (by rw [hty]; rfl) (by rw [hty]; rfl) (by decide) rfl rfl rfl (by omega) rfl (.inr (src_own 1 rfl rfl)) rfl (by simp [dens, SV.den, Value.oneCell']) (by omega) (by simp only []; omega) ?_
  intro v2
  refine go_rowS 3 rfl ?_
  rintro a4 c4 rfl
  refine go_pubL rI 3 rfl (by omega) (ts := f.c ++ [n]) (by simp) (by omega) (Rp.L_append (by simpa using hcsc) (Rp.L_single ⟨rfl, hn⟩)) ?_
  intro G2 y6 z6 (hle2 : Le G G2) he2 hS2
  rw [← he2] at hS2
  refine st_ ?_
  refine rn_ ?_; intros
  refine go_keep [1, 2, 4, 6] [0, 1, 2] ?_
  refine st_ ?_
  have hrv2 := Rp.S_mono hle2 hrv
  obtain ⟨csv, hcsv, hsrcv⟩ := Rp.srcS hrv2
  refine cut_tailK 1 (fun s' => ∃ (G3 : Hp) (a5 : Option Addr) (z5 : Nat), Le G2 G3 ∧ rV.S G3 (x.v.l ++ [.mk 13 n []]) (.slice a5 (x.v.l.length + 1) z5) ∧
    s' = ⟨[(1, .v (.int .i64 n)), (2, .p 0 bf 0), (4, .p 1 br 0), (6, .p 2 bx 0)], [(0, bf, .c 45 [.v (.int .i64 f.st), .v (.slice (some ⟨c0, o0, none⟩) f.l.length cl), .v (.slice ab f.b.length cb), .v (.slice a4 (f.c.length + 1) c4), .v (.int .i64 x.v.n), .v (.slice a5 (x.v.l.length + 1) z5)]), (1, br, .c 45 [.v (.int .i64 0), .v (.slice none 0 0), .v (.slice none 0 0), .v (.slice none 0 0), .v (.int .i64 0), .v (.slice none 0 0)]), (2, bx, .c 81 [.v (.int .i64 x.v.k), .v (.int .i64 x.v.n), .v (.slice a1 x.v.l.length q1), .v (.slice a2 x.w.length q2), .v (.slice a3 x.c.length q3)])], G3, []⟩) ?_ ?_
  rotate_left
  · intro Kr key
    simp only [List.take_succ_cons, List.take_zero, List.cons_append, List.nil_append]
    refine x_held [(2, bx, .c 81 [.v (.int .i64 x.v.k), .v (.int .i64 x.v.n), .v (.slice a1 x.v.l.length q1), .v (.slice a2 x.w.length q2), .v (.slice a3 x.c.length q3)])] rfl (by rw [hP]; kernel_rfl) rfl rfl rfl ?_; refine st_ ?_
    refine h_take 0 rfl (by kernel_rfl) (by kernel_rfl) (by kernel_rfl) hQp (by rw [hnt]; rfl) (allIn (by repeat (first | exact trivial | refine ⟨rfl, ?_⟩))) (by first | exact Le.refl _ | assumption) (quiet_op (by rw [hty]; first | rfl | (refine st_ ?_; rfl))) ?_; refine st_ ?_
    refine h_take 1 rfl (by kernel_rfl) (by kernel_rfl) (by kernel_rfl) hQp (by rw [hnt]; rfl) (allIn (by repeat (first | exact trivial | refine ⟨rfl, ?_⟩))) (by first | exact Le.refl _ | assumption) (quiet_op (by rw [hty]; first | rfl | (refine st_ ?_; rfl))) ?_; refine st_ ?_
    refine h_take 2 rfl (by kernel_rfl) (by kernel_rfl) (by kernel_rfl) hQp (by rw [hnt]; rfl) (allIn (by repeat (first | exact trivial | refine ⟨rfl, ?_⟩))) (by first | exact Le.refl _ | assumption) (quiet_op (by rw [hty]; first | rfl | (refine st_ ?_; rfl))) ?_; refine st_ ?_
    refine h_take 4 rfl (by kernel_rfl) (by kernel_rfl) (by kernel_rfl) hQp (by rw [hnt]; rfl) (allIn (by repeat (first | exact trivial | refine ⟨rfl, ?_⟩))) (by first | exact Le.refl _ | assumption) (quiet_op (by rw [hty]; first | rfl | (refine st_ ?_; rfl))) ?_; refine st_ ?_
    refine h_take 5 rfl (by kernel_rfl) (by kernel_rfl) (by kernel_rfl) hQp (by rw [hnt]; rfl) (allIn (by repeat (first | exact trivial | refine ⟨rfl, ?_⟩))) (by first | exact Le.refl _ | assumption) (quiet_op (by rw [hty]; first | rfl | (refine st_ ?_; rfl))) ?_; refine st_ ?_
    refine h_take 6 rfl (by kernel_rfl) (by kernel_rfl) (by kernel_rfl) hQp (by rw [hnt]; rfl) (allIn (by repeat (first | exact trivial | refine ⟨rfl, ?_⟩))) (by first | exact Le.refl _ | assumption) (quiet_op (by rw [hty]; first | rfl | (refine st_ ?_; rfl))) ?_; refine st_ ?_
    refine h_take 8 rfl (by kernel_rfl) (by kernel_rfl) (by kernel_rfl) hQp (by rw [hnt]; rfl) (allIn (by repeat (first | exact trivial | refine ⟨rfl, ?_⟩))) (by first | exact Le.refl _ | assumption) (quiet_op (by rw [hty]; first | rfl | (refine st_ ?_; rfl))) ?_; refine st_ ?_
    refine h_take 9 rfl (by kernel_rfl) (by kernel_rfl) (by kernel_rfl) hQp (by rw [hnt]; rfl) (allIn (by repeat (first | exact trivial | refine ⟨rfl, ?_⟩))) (by first | exact Le.refl _ | assumption) (quiet_op (by rw [hty]; first | rfl | (refine st_ ?_; rfl))) ?_; refine st_ ?_
    refine h_two 3 10 rfl rfl (by kernel_rfl) ?_ ?_
    · refine rn_ ?_; intros
      refine h_hs (allIn (by repeat (first | exact trivial | refine ⟨rfl, ?_⟩))) (by first | exact Le.refl _ | assumption) ?_
      refine h_two 7 10 rfl rfl (by kernel_rfl) ?_ ?_
      · refine go_litrow 3 (n := 0) (size := 3) rfl (by omega) rfl (by omega) ?_
        refine st_ ?_
        refine go_append_any 3 (by rw [hnt]; rfl) (by rw [hty]; rfl) (by rw [hty]; rfl) (by decide) rfl rfl rfl (by omega) rfl (hsrcv.imp id fun f => f _ _ rfl) (Rp.L_len hcsv) (Rp.L_one hcsv) (by omega) (by simp only []; omega) ?_
        intro v1
        refine go_rowS 3 rfl ?_
        rintro y3 z3 rfl
        refine rn_ ?_; intros
        refine h_hs (allIn (by repeat (first | exact trivial | refine ⟨rfl, ?_⟩))) (by first | exact Le.refl _ | assumption) ?_
        refine h_one 10 rfl (by kernel_rfl) ?_
        refine rn_ ?_; intros
        refine h_hs (allIn (by repeat (first | exact trivial | refine ⟨rfl, ?_⟩))) (by first | exact Le.refl _ | assumption) ?_
        refine h_one 11 rfl (by kernel_rfl) ?_
        refine go_append_any 3 (by rw [hnt]; rfl) (by rw [hty]; rfl) (by rw [hty]; rfl) (by decide) rfl rfl rfl (by omega) rfl (.inr (src_own 3 rfl rfl)) rfl (by simp [dens, SV.den, Value.oneCell']) (by omega) (by simp only []; omega) ?_
        intro v2
        refine go_rowC 3 rfl ?_
        rintro y5 z5 rfl hc5
        refine go_pubL rV 3 rfl (by omega) (ts := x.v.l ++ [.mk 13 n []]) (by simp) (by omega) (Rp.L_append (by simpa using hcsv) (Rp.L_single ⟨_, rfl, hleaf _, by simp [tsz, tszL]⟩)) ?_
        intro G3 y6 z6 (hle3 : Le G2 G3) he3 hS3
        rw [← he3] at hS3
        refine st_ ?_
        refine rn_ ?_; intros
        refine h_hs (allIn (by repeat (first | exact trivial | refine ⟨rfl, ?_⟩))) (by first | exact Le.refl _ | assumption) ?_
        refine h_take 12 rfl (by kernel_rfl) (by kernel_rfl) (by kernel_rfl) hQp (by rw [hnt]; rfl) (allIn (by repeat (first | exact trivial | refine ⟨rfl, ?_⟩))) (by first | exact Le.refl _ | assumption) (quiet_op (by rw [hty]; first | rfl | (refine st_ ?_; rfl))) ?_; refine st_ ?_
        refine h_one 13 rfl (by kernel_rfl) ?_
        refine rn_ ?_; intros
        refine h_hs (allIn (by repeat (first | exact trivial | refine ⟨rfl, ?_⟩))) (by first | exact Le.refl _ | assumption) ?_
        refine h_one 14 rfl (by kernel_rfl) ?_
        refine rn_ ?_; intros
        refine h_hs (allIn (by repeat (first | exact trivial | refine ⟨rfl, ?_⟩))) (by first | exact Le.refl _ | assumption) ?_
        refine h_end (by kernel_rfl) ?_
        refine go_keep [1, 2, 4, 6] [0, 1, 2] ?_
        refine st_ ?_
        exact key _ ⟨G3, y5, z5, hle3, by simpa using hS3, by simp⟩
      · refine rn_ ?_; intros
        refine h_hs (allIn (by repeat (first | exact trivial | refine ⟨rfl, ?_⟩))) (by first | exact Le.refl _ | assumption) ?_
        refine h_one 7 rfl (by kernel_rfl) ?_
        refine go_litrow 3 (n := 0) (size := 3) rfl (by omega) rfl (by omega) ?_
        refine st_ ?_
        refine go_append_any 3 (by rw [hnt]; rfl) (by rw [hty]; rfl) (by rw [hty]; rfl) (by decide) rfl rfl rfl (by omega) rfl (hsrcv.imp id fun f => f _ _ rfl) (Rp.L_len hcsv) (Rp.L_one hcsv) (by omega) (by simp only []; omega) ?_
        intro v1
        refine go_rowS 3 rfl ?_
        rintro y3 z3 rfl
        refine rn_ ?_; intros
        refine h_hs (allIn (by repeat (first | exact trivial | refine ⟨rfl, ?_⟩))) (by first | exact Le.refl _ | assumption) ?_
        refine h_one 11 rfl (by kernel_rfl) ?_
        refine go_append_any 3 (by rw [hnt]; rfl) (by rw [hty]; rfl) (by rw [hty]; rfl) (by decide) rfl rfl rfl (by omega) rfl (.inr (src_own 3 rfl rfl)) rfl (by simp [dens, SV.den, Value.oneCell']) (by omega) (by simp only []; omega) ?_
        intro v2
        refine go_rowC 3 rfl ?_
        rintro y5 z5 rfl hc5
        refine go_pubL rV 3 rfl (by omega) (ts := x.v.l ++ [.mk 13 n []]) (by simp) (by omega) (Rp.L_append (by simpa using hcsv) (Rp.L_single ⟨_, rfl, hleaf _, by simp [tsz, tszL]⟩)) ?_
        intro G3 y6 z6 (hle3 : Le G2 G3) he3 hS3
        rw [← he3] at hS3
        refine st_ ?_
        refine rn_ ?_; intros
        refine h_hs (allIn (by repeat (first | exact trivial | refine ⟨rfl, ?_⟩))) (by first | exact Le.refl _ | assumption) ?_
        refine h_take 12 rfl (by kernel_rfl) (by kernel_rfl) (by kernel_rfl) hQp (by rw [hnt]; rfl) (allIn (by repeat (first | exact trivial | refine ⟨rfl, ?_⟩))) (by first | exact Le.refl _ | assumption) (quiet_op (by rw [hty]; first | rfl | (refine st_ ?_; rfl))) ?_; refine st_ ?_
        refine h_one 13 rfl (by kernel_rfl) ?_
        refine rn_ ?_; intros
        refine h_hs (allIn (by repeat (first | exact trivial | refine ⟨rfl, ?_⟩))) (by first | exact Le.refl _ | assumption) ?_
        refine h_one 14 rfl (by kernel_rfl) ?_
        refine rn_ ?_; intros
        refine h_hs (allIn (by repeat (first | exact trivial | refine ⟨rfl, ?_⟩))) (by first | exact Le.refl _ | assumption) ?_
        refine h_end (by kernel_rfl) ?_
        refine go_keep [1, 2, 4, 6] [0, 1, 2] ?_
        refine st_ ?_
        exact key _ ⟨G3, y5, z5, hle3, by simpa using hS3, by simp⟩
    · refine rn_ ?_; intros
      refine h_hs (allIn (by repeat (first | exact trivial | refine ⟨rfl, ?_⟩))) (by first | exact Le.refl _ | assumption) ?_
      refine h_one 3 rfl (by kernel_rfl) ?_
      refine rn_ ?_; intros
      refine h_hs (allIn (by repeat (first | exact trivial | refine ⟨rfl, ?_⟩))) (by first | exact Le.refl _ | assumption) ?_
      refine h_one 7 rfl (by kernel_rfl) ?_
      refine go_litrow 4 (n := 0) (size := 3) rfl (by omega) rfl (by omega) ?_
      refine st_ ?_
      refine go_append_any 4 (by rw [hnt]; rfl) (by rw [hty]; rfl) (by rw [hty]; rfl) (by decide) rfl rfl rfl (by omega) rfl (hsrcv.imp id fun f => f _ _ rfl) (Rp.L_len hcsv) (Rp.L_one hcsv) (by omega) (by simp only []; omega) ?_
      intro v1
      refine go_rowS 4 rfl ?_
      rintro y3 z3 rfl
      refine rn_ ?_; intros
      refine h_hs (allIn (by repeat (first | exact trivial | refine ⟨rfl, ?_⟩))) (by first | exact Le.refl _ | assumption) ?_
      refine h_one 11 rfl (by kernel_rfl) ?_
      refine go_append_any 4 (by rw [hnt]; rfl) (by rw [hty]; rfl) (by rw [hty]; rfl) (by decide) rfl rfl rfl (by omega) rfl (.inr (src_own 3 rfl rfl)) rfl (by simp [dens, SV.den, Value.oneCell']) (by omega) (by simp only []; omega) ?_
      intro v2
      refine go_rowC 4 rfl ?_
      rintro y5 z5 rfl hc5
      refine go_pubL rV 4 rfl (by omega) (ts := x.v.l ++ [.mk 13 n []]) (by simp) (by omega) (Rp.L_append (by simpa using hcsv) (Rp.L_single ⟨_, rfl, hleaf _, by simp [tsz, tszL]⟩)) ?_
      intro G3 y6 z6 (hle3 : Le G2 G3) he3 hS3
      rw [← he3] at hS3
      refine st_ ?_
      refine rn_ ?_; intros
      refine h_hs (allIn (by repeat (first | exact trivial | refine ⟨rfl, ?_⟩))) (by first | exact Le.refl _ | assumption) ?_
      refine h_take 12 rfl (by kernel_rfl) (by kernel_rfl) (by kernel_rfl) hQp (by rw [hnt]; rfl) (allIn (by repeat (first | exact trivial | refine ⟨rfl, ?_⟩))) (by first | exact Le.refl _ | assumption) (quiet_op (by rw [hty]; first | rfl | (refine st_ ?_; rfl))) ?_; refine st_ ?_
      refine h_one 13 rfl (by kernel_rfl) ?_
      refine rn_ ?_; intros
      refine h_hs (allIn (by repeat (first | exact trivial | refine ⟨rfl, ?_⟩))) (by first | exact Le.refl _ | assumption) ?_
      refine h_one 14 rfl (by kernel_rfl) ?_
      refine rn_ ?_; intros
      refine h_hs (allIn (by repeat (first | exact trivial | refine ⟨rfl, ?_⟩))) (by first | exact Le.refl _ | assumption) ?_
      refine h_end (by kernel_rfl) ?_
      refine go_keep [1, 2, 4, 6] [0, 1, 2] ?_
      refine st_ ?_
      exact key _ ⟨G3, y5, z5, hle3, by simpa using hS3, by simp⟩
  rintro s' ⟨G3, a5, z5, hle3, hS3, rfl⟩
  simp only [List.drop_succ_cons, List.drop_zero]
  have hle := hle2.trans hle3
  obtain ⟨csx, hcsx, hsrcx⟩ := Rp.srcS (Rp.S_mono hle hrx.c)
  refine rn_ ?_; intros
  refine go_litrow 3 (n := 0) (size := 1) rfl (by omega) rfl (by omega) ?_
  refine st_ ?_
  refine go_append_any 3 (by rw [hnt]; rfl) (by rw [hty]; rfl) (by rw [hty]; rfl) (by decide) rfl rfl rfl (by omega) rfl (hsrcx.imp id fun f => f _ _ rfl) (Rp.L_len hcsx) (Rp.L_one hcsx) (by omega) (by simp only []; omega) ?_
  intro v1
  refine go_rowS 3 rfl ?_
  rintro y7 z7 rfl
  refine rn_ ?_; intros
  refine go_append_any 3 (by rw [hnt]; rfl) (by rw [hty]; rfl) (by rw [hty]; rfl) (by decide) rfl rfl rfl (by omega) rfl (.inr (src_own 1 rfl rfl)) rfl (by simp [dens, SV.den, Value.oneCell']) (by omega) (by simp only []; omega) ?_
  intro v2
  refine go_rowC 3 rfl ?_
  rintro a6 c6 rfl hc6
  refine go_pubL rI 3 rfl (by omega) (ts := x.c ++ [n]) (by simp) (by omega) (Rp.L_append (by simpa using hcsx) (Rp.L_single ⟨rfl, hn⟩)) ?_
  intro G4 y8 z8 (hle4 : Le G3 G4) he4 hS4
  rw [← he4] at hS4
  refine st_ ?_
  refine rn_ ?_; intros
  refine go_keep [1, 2, 4, 6] [0, 1, 2] ?_
  refine st_ ?_
  have hle04 := hle.trans hle4
  obtain ⟨csl, hcsl, hsrcl⟩ := Rp.srcS (Rp.S_mono hle04 hlo)
  have hdl : (f.l.drop 1).length = f.l.length - 1 := List.length_drop
  refine x_held [(2, bx, .c 81 [.v (.int .i64 x.v.k), .v (.int .i64 x.v.n), .v (.slice a1 x.v.l.length q1), .v (.slice a2 x.w.length q2), .v (.slice a6 (x.c.length + 1) c6)])] rfl (by rw [hP]; kernel_rfl) rfl rfl rfl ?_; refine st_ ?_
  refine h_take 0 rfl (by kernel_rfl) (by kernel_rfl) (by kernel_rfl) hQp (by rw [hnt]; rfl) (allIn (by repeat (first | exact trivial | refine ⟨rfl, ?_⟩))) (by first | exact Le.refl _ | assumption) (quiet_op (by rw [hty]; first | rfl | (refine st_ ?_; rfl))) ?_; refine st_ ?_
  refine h_take 2 rfl (by kernel_rfl) (by kernel_rfl) (by kernel_rfl) hQp (by rw [hnt]; rfl) (allIn (by repeat (first | exact trivial | refine ⟨rfl, ?_⟩))) (by first | exact Le.refl _ | assumption) (quiet_op (by rw [hty]; first | rfl | (refine st_ ?_; rfl))) ?_; refine st_ ?_
  refine h_two 1 3 rfl rfl (by kernel_rfl) ?_ ?_
  · refine rn_ ?_; intros
    refine h_hs (allIn (by repeat (first | exact trivial | refine ⟨rfl, ?_⟩))) (by first | exact Le.refl _ | assumption) ?_
    refine h_one 3 rfl (by kernel_rfl) ?_
    refine rn_ ?_; intros
    refine h_hs (allIn (by repeat (first | exact trivial | refine ⟨rfl, ?_⟩))) (by first | exact Le.refl _ | assumption) ?_
    refine h_take 4 rfl (by kernel_rfl) (by kernel_rfl) (by kernel_rfl) hQp (by rw [hnt]; rfl) (allIn (by repeat (first | exact trivial | refine ⟨rfl, ?_⟩))) (by first | exact Le.refl _ | assumption) (x := .v (Sx.sliced (some ⟨c0, o0, none⟩) cl 1 f.l.length 5)) ((quiet_sliceLo (k := .i64) (n := 1) (by rw [hty]; rfl) (by rw [hty]; rfl) rfl rfl rfl (by omega) (by omega)).cast rfl) ?_
    refine st_ ?_
    refine h_take 6 rfl (by kernel_rfl) (by kernel_rfl) (by kernel_rfl) hQp (by rw [hnt]; rfl) (allIn (by repeat (first | exact trivial | refine ⟨rfl, ?_⟩))) (by first | exact Le.refl _ | assumption) (quiet_op (by rw [hty]; first | rfl | (refine st_ ?_; rfl))) ?_; refine st_ ?_
    refine h_one 5 rfl (by kernel_rfl) ?_
    refine go_litrow 3 (n := 1) (size := 5) rfl (by omega) rfl (by omega) ?_
    refine st_ ?_
    refine go_append_any 3 (by rw [hnt]; rfl) (by rw [hty]; rfl) (by rw [hty]; rfl) (by decide) rfl rfl rfl (by omega) rfl (hsrcl.imp id fun f => f _ _ rfl) (Rp.L_len hcsl) (Rp.L_one hcsl) (by omega) (by simp only []; omega) ?_
    intro v1
    refine go_rowC 3 rfl ?_
    rintro a7 c7 rfl hc7
    refine go_pubL rT 3 rfl (by omega) (ts := ⟨x.v, x.w, x.c ++ [n]⟩ :: f.l.drop 1) (by simp; omega) (by omega) ⟨[_, _, _, _, _], _, rfl, ⟨_, _, _, rfl, ⟨VT.repC_mono hle04 hrx.v, hrx.b, Rp.S_mono hle04 hrx.w, (by simpa using hS4), fun ad n c h => by cases h; omega⟩⟩, by simpa using hcsl⟩ ?_
    intro G5 y9 z9 (hle5 : Le G4 G5) he5 hS5
    rw [← he5] at hS5
    refine st_ ?_
    refine rn_ ?_; intros
    refine h_hs (allIn (by repeat (first | exact trivial | refine ⟨rfl, ?_⟩))) (by first | exact Le.refl _ | assumption) ?_
    refine h_one 7 rfl (by kernel_rfl) ?_
    refine rn_ ?_; intros
    refine h_hs (allIn (by repeat (first | exact trivial | refine ⟨rfl, ?_⟩))) (by first | exact Le.refl _ | assumption) ?_
    refine h_one 8 rfl (by kernel_rfl) ?_
    refine rn_ ?_; intros
    refine h_hs (allIn (by repeat (first | exact trivial | refine ⟨rfl, ?_⟩))) (by first | exact Le.refl _ | assumption) ?_
    refine h_one 9 rfl (by kernel_rfl) ?_
    refine rn_ ?_; intros
    refine h_hs (allIn (by repeat (first | exact trivial | refine ⟨rfl, ?_⟩))) (by first | exact Le.refl _ | assumption) ?_
    refine h_end (by kernel_rfl) ?_
    refine rn_ ?_; intros
    refine x_retc rfl hQ hmb rfl (by rw [hty]; simp only [so, sq, zy, zz, tyE, SO', SQ', opQ, opStore, opAlloc, ev, putS, dOk, cv, SV.cs, SV.one, SV.bool?, eqB, Value.oneCell', ldOwn, binInt, binConst, binBool, binStr, isC, TK.agg, rv, rv1, ldV, resOne, resV, Nat.reduceAdd, Nat.reduceMul, Nat.reduceSub, Nat.reduceLT, Nat.reduceLeDiff, Nat.reduceEqDiff, Nat.reduceBEq, reduceIte, reduceCtorEq, eq_self]; try rfl) rfl ?_; simp only [SV.den, resV, dens]
    rw [hcf]
    have hle05 := hle04.trans hle5
    exact ⟨_, _, _, _, rfl, ⟨fun ad n c h => by cases h; omega, hS5, Rp.S_mono hle05 hf.b, by simpa using Rp.S_mono ((hle3.trans hle4).trans hle5) hS2, by simpa using Rp.S_mono (hle4.trans hle5) hS3⟩⟩
  · refine rn_ ?_; intros
    refine h_hs (allIn (by repeat (first | exact trivial | refine ⟨rfl, ?_⟩))) (by first | exact Le.refl _ | assumption) ?_
    refine h_take 4 rfl (by kernel_rfl) (by kernel_rfl) (by kernel_rfl) hQp (by rw [hnt]; rfl) (allIn (by repeat (first | exact trivial | refine ⟨rfl, ?_⟩))) (by first | exact Le.refl _ | assumption) (x := .v (Sx.sliced (some ⟨c0, o0, none⟩) cl 1 f.l.length 5)) ((quiet_sliceLo (k := .i64) (n := 1) (by rw [hty]; rfl) (by rw [hty]; rfl) rfl rfl rfl (by omega) (by omega)).cast rfl) ?_
    refine st_ ?_
    refine h_take 6 rfl (by kernel_rfl) (by kernel_rfl) (by kernel_rfl) hQp (by rw [hnt]; rfl) (allIn (by repeat (first | exact trivial | refine ⟨rfl, ?_⟩))) (by first | exact Le.refl _ | assumption) (quiet_op (by rw [hty]; first | rfl | (refine st_ ?_; rfl))) ?_; refine st_ ?_
    refine h_one 1 rfl (by kernel_rfl) ?_
    refine rn_ ?_; intros
    refine h_hs (allIn (by repeat (first | exact trivial | refine ⟨rfl, ?_⟩))) (by first | exact Le.refl _ | assumption) ?_
    refine h_one 5 rfl (by kernel_rfl) ?_
    refine go_litrow 3 (n := 1) (size := 5) rfl (by omega) rfl (by omega) ?_
    refine st_ ?_
    refine go_append_any 3 (by rw [hnt]; rfl) (by rw [hty]; rfl) (by rw [hty]; rfl) (by decide) rfl rfl rfl (by omega) rfl (hsrcl.imp id fun f => f _ _ rfl) (Rp.L_len hcsl) (Rp.L_one hcsl) (by omega) (by simp only []; omega) ?_
    intro v1
    refine go_rowC 3 rfl ?_
    rintro a7 c7 rfl hc7
    refine go_pubL rT 3 rfl (by omega) (ts := ⟨x.v, x.w, x.c ++ [n]⟩ :: f.l.drop 1) (by simp; omega) (by omega) ⟨[_, _, _, _, _], _, rfl, ⟨_, _, _, rfl, ⟨VT.repC_mono hle04 hrx.v, hrx.b, Rp.S_mono hle04 hrx.w, (by simpa using hS4), fun ad n c h => by cases h; omega⟩⟩, by simpa using hcsl⟩ ?_
    intro G5 y9 z9 (hle5 : Le G4 G5) he5 hS5
    rw [← he5] at hS5
    refine st_ ?_
    refine rn_ ?_; intros
    refine h_hs (allIn (by repeat (first | exact trivial | refine ⟨rfl, ?_⟩))) (by first | exact Le.refl _ | assumption) ?_
    refine h_one 7 rfl (by kernel_rfl) ?_
    refine rn_ ?_; intros
    refine h_hs (allIn (by repeat (first | exact trivial | refine ⟨rfl, ?_⟩))) (by first | exact Le.refl _ | assumption) ?_
    refine h_one 8 rfl (by kernel_rfl) ?_
    refine rn_ ?_; intros
    refine h_hs (allIn (by repeat (first | exact trivial | refine ⟨rfl, ?_⟩))) (by first | exact Le.refl _ | assumption) ?_
    refine h_one 9 rfl (by kernel_rfl) ?_
    refine rn_ ?_; intros
    refine h_hs (allIn (by repeat (first | exact trivial | refine ⟨rfl, ?_⟩))) (by first | exact Le.refl _ | assumption) ?_
    refine h_end (by kernel_rfl) ?_
    refine rn_ ?_; intros
    refine x_retc rfl hQ hmb rfl (by rw [hty]; simp only [so, sq, zy, zz, tyE, SO', SQ', opQ, opStore, opAlloc, ev, putS, dOk, cv, SV.cs, SV.one, SV.bool?, eqB, Value.oneCell', ldOwn, binInt, binConst, binBool, binStr, isC, TK.agg, rv, rv1, ldV, resOne, resV, Nat.reduceAdd, Nat.reduceMul, Nat.reduceSub, Nat.reduceLT, Nat.reduceLeDiff, Nat.reduceEqDiff, Nat.reduceBEq, reduceIte, reduceCtorEq, eq_self]; try rfl) rfl ?_; simp only [SV.den, resV, dens]
    rw [hcf]
    have hle05 := hle04.trans hle5
    exact ⟨_, _, _, _, rfl, ⟨fun ad n c h => by cases h; omega, hS5, Rp.S_mono hle05 hf.b, by simpa using Rp.S_mono ((hle3.trans hle4).trans hle5) hS2, by simpa using Rp.S_mono (hle4.trans hle5) hS3⟩⟩
end Go.Proofs.YthocgjchmpkhoaaDoor
namespace Go.Proofs.YthocgjchmpkhoaaDoor
set_option linter.unusedSimpArgs false
set_option linter.unusedVariables false
open Go.Sx
set_option maxHeartbeats 8000000
set_option maxRecDepth 20000
def plRet (r : List Bs × Bool) (v : Value) (G : Hp) : Prop := ∃ sl, v = .tuple #[sl, .bool r.2] ∧ rB.S G r.1 sl
theorem new_cases (v : VT) : newF v = (noF, 2) ∨ (newF v).2 = 0 := by
  rw [newF]; split
  · exact .inr rfl
  · exact .inl rfl
theorem step_e {f : Fc} (h : FcOk f) (hs : f.st = 1) : (stepF f).2 = 0 := by
  have h1 := h.s (.inl hs)
  rw [stepF, if_neg (by simp [hs])]
  cases hl : f.l.head? with
  | none => rw [List.head?_eq_none_iff] at hl; rw [hl] at h1; simp at h1
  | some x =>
    show (if isB x.v.k = true then (_ : Fc × Int) else _).2 = 0
    repeat' split
    all_goals rfl
theorem rplain_ok (v : VT) (sv : Value) (G : Hp) (hv : v.repC G sv) (hb : tsz v ≤ 1048576) : Pure Tryd.prog 8 [.agg #[.int .i64 v.k, .int .i64 v.n, sv]] G (plRet (plainF v)) := by
  obtain ⟨a1, q1, rfl⟩ := VT.repC_slice hv
  refine enterX ty tyok Tryd.func8 rfl Tryd.ntmps8 [.a [.v (.int .i64 v.k), .v (.int .i64 v.n), .v (.slice a1 v.l.length q1)]] (by simp) ?_
  intro C hP hQ hnt hty hmb hmh hro; have hQp := qp_body hQ; refine st_ ?_
  refine rn_ ?_; intros
  rename_i b0
  refine go_call (by rw [hnt]; rfl) (by rw [hP]; kernel_rfl) rfl (hP ▸ rnew_ok v _ G hv hb) ?_
  rintro r G1 (hle1 : Le G G1) ⟨t1, t2, t3, t4, rfl, hr⟩
  have hfc := new_fc v
  have hnc := new_cases v
  obtain ⟨f0, e0, hn0⟩ : ∃ f0 e0, newF v = (f0, e0) := ⟨_, _, rfl⟩
  have hpl : plainF v = if e0 = 0 ∧ (endF f0).st = 4 then ((endF f0).b, true) else ([], false) := by rw [plainF, hn0]
  rw [hn0] at hr hfc hnc ⊢
  simp only at hr hfc hnc
  obtain ⟨u1, w1, rfl⟩ := Rp.S_slice hr.l
  obtain ⟨u2, w2, rfl⟩ := Rp.S_slice hr.b
  obtain ⟨u3, w3, rfl⟩ := Rp.S_slice hr.c
  obtain ⟨u4, w4, rfl⟩ := Rp.S_slice hr.a
  simp only [fcL]
  refine rn_ ?_; intros
  rename_i b4
  rcases hnc with he | he
  · cases he
    refine go_keep [2, 3, 4, 5] [1] ?_
    refine st_ ?_
    refine x_loop rfl (fun q st => q = 0 ∧ st = ⟨[(2, .v (.slice none 0 0)), (3, .b false), (4, .p 1 b4 0), (5, .v (.int .i64 2))],
      [(1, b4, .c 45 (fcC noF (.slice u1 noF.l.length w1) (.slice u2 noF.b.length w2) (.slice u3 noF.c.length w3) (.slice u4 noF.cl.a.length w4)))], G1, []⟩) ⟨rfl, rfl⟩ ?_
    rintro q st ⟨rfl, rfl⟩ ih
    simp only [fcC]
    refine rn_ ?_; intros
    repeat (first | (refine go_gsplit rfl rfl (fun hc => absurd hc (by first | decide +kernel | (simp; first | done | fail))) (fun _ => ?_); refine st_ ?_; (refine rn_ ?_; intros)) | (refine go_gsplit rfl rfl (fun _ => ?_) (fun hc => absurd hc (by first | decide +kernel | (simp; first | done | fail))); refine st_ ?_; (refine rn_ ?_; intros)) | (refine x_split rfl rfl rfl (fun hc => absurd hc (by first | decide +kernel | (simp; first | done | fail))) (fun _ => ?_); refine st_ ?_; (refine ru_ ?_; intros)) | (refine x_split rfl rfl rfl (fun _ => ?_) (fun hc => absurd hc (by first | decide +kernel | (simp; first | done | fail))); refine st_ ?_; (refine ru_ ?_; intros)))
    repeat (refine go_gundef rfl (by rw [hnt]; rfl) rfl ?_; (refine st_ ?_; (refine rn_ ?_; intros)))
    (try (repeat (first | (refine go_gsplit rfl rfl (fun hc => absurd hc (by first | decide +kernel | (simp; first | done | fail))) (fun _ => ?_); refine st_ ?_; (refine rn_ ?_; intros)) | (refine go_gsplit rfl rfl (fun _ => ?_) (fun hc => absurd hc (by first | decide +kernel | (simp; first | done | fail))); refine st_ ?_; (refine rn_ ?_; intros)) | (refine x_split rfl rfl rfl (fun hc => absurd hc (by first | decide +kernel | (simp; first | done | fail))) (fun _ => ?_); refine st_ ?_; (refine ru_ ?_; intros)) | (refine x_split rfl rfl rfl (fun _ => ?_) (fun hc => absurd hc (by first | decide +kernel | (simp; first | done | fail))); refine st_ ?_; (refine ru_ ?_; intros)))))
    repeat (refine go_gundef rfl (by rw [hnt]; rfl) rfl ?_; (refine st_ ?_; (refine rn_ ?_; intros)))
    (try (repeat (first | (refine go_gsplit rfl rfl (fun hc => absurd hc (by first | decide +kernel | (simp; first | done | fail))) (fun _ => ?_); refine st_ ?_; (refine rn_ ?_; intros)) | (refine go_gsplit rfl rfl (fun _ => ?_) (fun hc => absurd hc (by first | decide +kernel | (simp; first | done | fail))); refine st_ ?_; (refine rn_ ?_; intros)) | (refine x_split rfl rfl rfl (fun hc => absurd hc (by first | decide +kernel | (simp; first | done | fail))) (fun _ => ?_); refine st_ ?_; (refine ru_ ?_; intros)) | (refine x_split rfl rfl rfl (fun _ => ?_) (fun hc => absurd hc (by first | decide +kernel | (simp; first | done | fail))); refine st_ ?_; (refine ru_ ?_; intros)))))
    refine rn_ ?_; intros
    refine x_retc rfl hQ hmb rfl (by rw [hty]; simp only [so, sq, zy, zz, tyE, SO', SQ', opQ, opStore, opAlloc, ev, putS, dOk, cv, SV.cs, SV.one, SV.bool?, eqB, Value.oneCell', ldOwn, binInt, binConst, binBool, binStr, isC, TK.agg, rv, rv1, ldV, resOne, resV, Nat.reduceAdd, Nat.reduceMul, Nat.reduceSub, Nat.reduceLT, Nat.reduceLeDiff, Nat.reduceEqDiff, Nat.reduceBEq, reduceIte, reduceCtorEq, eq_self]; try rfl) rfl ?_; simp only [SV.den, resV, dens]
    rw [hpl, if_neg (by simp)]
    exact ⟨_, rfl, Rp.S_nil _ _⟩
  subst he
  refine go_keep [2, 3, 4, 5] [1] ?_
  refine st_ ?_
  refine x_loop rfl (fun q st => ∃ (f : Fc) (G' : Hp) (u1 u2 u3 u4 : Option Addr) (w1 w2 w3 w4 : Nat), FcOk f ∧ q = (if f.st = 1 then mu f.l + 1 else 0) ∧ endF f0 = endF f ∧ f.rep G' (.slice u1 f.l.length w1) (.slice u2 f.b.length w2) (.slice u3 f.c.length w3) (.slice u4 f.cl.a.length w4) ∧
    st = ⟨[(2, .v (.slice none 0 0)), (3, .b false), (4, .p 1 b4 0), (5, .v (.int .i64 0))],
      [(1, b4, .c 45 (fcC f (.slice u1 f.l.length w1) (.slice u2 f.b.length w2) (.slice u3 f.c.length w3) (.slice u4 f.cl.a.length w4)))], G', []⟩) ⟨f0, G1, u1, u2, u3, u4, w1, w2, w3, w4, hfc, rfl, rfl, hr, rfl⟩ ?_
  rintro q st ⟨f, G2, u1, u2, u3, u4, w1, w2, w3, w4, hfk, hq, hend, hrf, rfl⟩ ih
  simp only [fcC]
  refine rn_ ?_; intros
  repeat (first | (refine go_gsplit rfl rfl (fun hc => absurd hc (by first | decide +kernel | (simp; first | done | fail))) (fun _ => ?_); refine st_ ?_; (refine rn_ ?_; intros)) | (refine go_gsplit rfl rfl (fun _ => ?_) (fun hc => absurd hc (by first | decide +kernel | (simp; first | done | fail))); refine st_ ?_; (refine rn_ ?_; intros)) | (refine x_split rfl rfl rfl (fun hc => absurd hc (by first | decide +kernel | (simp; first | done | fail))) (fun _ => ?_); refine st_ ?_; (refine ru_ ?_; intros)) | (refine x_split rfl rfl rfl (fun _ => ?_) (fun hc => absurd hc (by first | decide +kernel | (simp; first | done | fail))); refine st_ ?_; (refine ru_ ?_; intros)))
  by_cases hs : f.st = 1
  · rw [if_pos hs] at hq
    (refine x_split rfl rfl rfl (fun _ => ?_) (fun hc => absurd hc (by simpa using hs)); refine st_ ?_; (refine ru_ ?_; intros))
    refine rn_ ?_; intros
    refine go_call (by rw [hnt]; rfl) (by rw [hP]; kernel_rfl) rfl (hP ▸ rstep_ok f _ _ _ _ G2 hrf (fun h => hfk.s (.inl h)) hfk.v (fun x hx => by have := hfk.w x hx; omega) (by have := hfk.n; omega) (by have := hfk.n; omega)) ?_
    rintro r G3 (hle3 : Le G2 G3) ⟨t1, t2, t3, t4, rfl, hr3⟩
    have hfk3 := step_fc hfk
    have hmu := step_mu hfk hs
    rw [end_step hfk hs] at hend
    rw [step_e hfk hs]
    generalize (stepF f).1 = g at *
    obtain ⟨y1, z1, rfl⟩ := Rp.S_slice hr3.l
    obtain ⟨y2, z2, rfl⟩ := Rp.S_slice hr3.b
    obtain ⟨y3, z3, rfl⟩ := Rp.S_slice hr3.c
    obtain ⟨y4, z4, rfl⟩ := Rp.S_slice hr3.a
    simp only [fcL]
    refine rn_ ?_; intros
    refine go_keep [2, 3, 4, 5] [1] ?_
    refine st_ ?_
    exact ih (if g.st = 1 then mu g.l + 1 else 0) _ (by split <;> (try have := hmu (by assumption)) <;> omega) ⟨g, G3, y1, y2, y3, y4, z1, z2, z3, z4, hfk3, rfl, hend, hr3, rfl⟩
  rw [end_stop hs] at hend
  rw [hend] at hpl
  (refine x_split rfl rfl rfl (fun hc => absurd hc (by simpa using hs)) (fun _ => ?_); refine st_ ?_; (refine ru_ ?_; intros))
  refine rn_ ?_; intros
  repeat (first | (refine go_gsplit rfl rfl (fun hc => absurd hc (by first | decide +kernel | (simp; first | done | fail))) (fun _ => ?_); refine st_ ?_; (refine rn_ ?_; intros)) | (refine go_gsplit rfl rfl (fun _ => ?_) (fun hc => absurd hc (by first | decide +kernel | (simp; first | done | fail))); refine st_ ?_; (refine rn_ ?_; intros)) | (refine x_split rfl rfl rfl (fun hc => absurd hc (by first | decide +kernel | (simp; first | done | fail))) (fun _ => ?_); refine st_ ?_; (refine ru_ ?_; intros)) | (refine x_split rfl rfl rfl (fun _ => ?_) (fun hc => absurd hc (by first | decide +kernel | (simp; first | done | fail))); refine st_ ?_; (refine ru_ ?_; intros)))
  by_cases h4 : f.st = 4
  · (refine x_split rfl rfl rfl (fun hc => absurd hc (by simpa using h4)) (fun _ => ?_); refine st_ ?_; (refine ru_ ?_; intros))
    refine rn_ ?_; intros
    refine x_retc rfl hQ hmb rfl (by rw [hty]; simp only [so, sq, zy, zz, tyE, SO', SQ', opQ, opStore, opAlloc, ev, putS, dOk, cv, SV.cs, SV.one, SV.bool?, eqB, Value.oneCell', ldOwn, binInt, binConst, binBool, binStr, isC, TK.agg, rv, rv1, ldV, resOne, resV, Nat.reduceAdd, Nat.reduceMul, Nat.reduceSub, Nat.reduceLT, Nat.reduceLeDiff, Nat.reduceEqDiff, Nat.reduceBEq, reduceIte, reduceCtorEq, eq_self]; try rfl) rfl ?_; simp only [SV.den, resV, dens]
    rw [hpl, if_pos ⟨rfl, h4⟩]
    exact ⟨_, rfl, hrf.b⟩
  · (refine x_split rfl rfl rfl (fun _ => ?_) (fun hc => absurd hc (by simpa using h4)); refine st_ ?_; (refine ru_ ?_; intros))
    refine rn_ ?_; intros
    refine x_retc rfl hQ hmb rfl (by rw [hty]; simp only [so, sq, zy, zz, tyE, SO', SQ', opQ, opStore, opAlloc, ev, putS, dOk, cv, SV.cs, SV.one, SV.bool?, eqB, Value.oneCell', ldOwn, binInt, binConst, binBool, binStr, isC, TK.agg, rv, rv1, ldV, resOne, resV, Nat.reduceAdd, Nat.reduceMul, Nat.reduceSub, Nat.reduceLT, Nat.reduceLeDiff, Nat.reduceEqDiff, Nat.reduceBEq, reduceIte, reduceCtorEq, eq_self]; try rfl) rfl ?_; simp only [SV.den, resV, dens]
    rw [hpl, if_neg (fun h => h4 h.2)]
    exact ⟨_, rfl, Rp.S_nil _ _⟩
end Go.Proofs.YthocgjchmpkhoaaDoor
namespace Go.Proofs.YthocgjchmpkhoaaDoor
set_option linter.unusedSimpArgs false
set_option linter.unusedVariables false
open Go.Sx
set_option maxHeartbeats 8000000
set_option maxRecDepth 20000
def encB (L : List Bs) (k : Nat) (vs : List Value) (G : Hp) : Prop :=
  ∃ x s1 s2 s3, L[k]? = some x ∧ vs = [.int .i64 k, .agg (bsL x s1 s2 s3).toArray] ∧ x.rep G s1 s2 s3
theorem encB_mono (L : List Bs) : ∀ k vs G G', Le G G' → encB L k vs G → encB L k vs G' := by
  rintro k vs G G' hle ⟨x, s1, s2, s3, h1, h2, h3⟩
  exact ⟨x, s1, s2, s3, h1, h2, h3.mono hle⟩
theorem all1_ok (L : List Bs) (b : Nat) (sl : Value) (G : Hp) (hL : rB.S G L sl) (hs : ∀ x ∈ L, BsOk x) (hat : At G b 0 [sl]) : Iter Tryd.prog 35 [.pointer (some ⟨b, 0, none⟩)] G (encB L) L.length := by
  intro lp A B hy
  have h63 := Rp.S_len hL
  obtain ⟨adl, capl, rfl⟩ := Rp.S_slice hL
  refine enterZ ty tyok Tryd.func35 rfl Tryd.ntmps35 [.v (.func (.yield lp) #[] #[]), .v (.pointer (some ⟨b, 0, none⟩))] (by simp) ?_
  intro C Z M hP hQ hnt hty hmb hmh hro hG0; have hQp := qp_body hQ; refine st_ ?_
  have hy' : YOk C.P lp A B (encB L) L.length := by rw [hP]; exact hy
  refine rn_ ?_; intros
  refine go_q (by rw [hnt]; rfl) (quiet_load (by rw [hty]; rfl) rfl (by simp [TK.agg]) hat rfl) ?_
  refine rn_ ?_; intros
  refine go_keep [0, 5, 6, 7] [0] ?_
  refine st_ ?_
  refine x_loop rfl (fun q s => ∃ (j : Nat) (G' : Hp) (Z' M' : Nat → Prop), j ≤ L.length ∧ q = L.length - j ∧ Le G G' ∧
    s = ⟨[(0, .v (.func (.yield lp) #[] #[])), (5, .v (.slice adl L.length capl)), (6, .v (.int .i64 L.length)), (7, .v (.int .i64 j))], [(0, 0, .z (lim (A j) Z C.w0.heap.size) Z' M')], G', []⟩)
    ⟨0, G, Z, M, by omega, rfl, Le.refl _, rfl⟩ ?_
  rintro q s ⟨j, G1, Z1, M1, hj, hq, hle, rfl⟩ ih
  refine rn_ ?_; intros
  refine x_if rfl rfl rfl rfl (fun hjl => ?_) (fun hjl => ?_)
  · have hlt : j < L.length := by simp at hjl; omega
    obtain ⟨c7, o7, s1, s2, s3, rfl, hat7, hr7⟩ := rB_at hL hlt
    obtain ⟨a7, q7, rfl⟩ := VT.repC_slice hr7.v
    obtain ⟨a8, q8, rfl⟩ := Rp.S_slice hr7.w
    obtain ⟨a9, q9, rfl⟩ := Rp.S_slice hr7.c
    obtain ⟨hs1, hs2, hs3, hs4⟩ := hs _ (List.getElem_mem hlt)
    simp only [bsL] at hat7
    refine rn_ ?_; intros
    refine go_q (by rw [hnt]; rfl) (quiet_index (by rw [hty]; rfl) (by rw [hty]; rfl) rfl rfl rfl (by omega) (by omega)) ?_
    refine rn_ ?_; intros
    refine go_q (v := .agg #[.int .i64 L[j].k, .int .i64 L[j].n, .int .i64 L[j].v.k, .int .i64 L[j].v.n, .slice a7 L[j].v.l.length q7, .slice a8 L[j].w.length q8, .slice a9 L[j].c.length q9]) (by rw [hnt]; rfl) ((quiet_load (by rw [hty]; rfl) rfl (fun q => by cases q) (by simpa using hat7.mono hle) rfl).cast (by simp only [ldV]; rfl)) ?_
    refine rn_ ?_; intros
    refine go_call (by rw [hnt]; rfl) (by rw [hP]; kernel_rfl) rfl (hP ▸ copyBase_ok L[j] _ _ _ G1 (hr7.mono hle) hs1 hs2 hs3 hs4) ?_
    rintro v G2 (hle2 : Le G1 G2) ⟨t1, t2, t3, rfl, hcp⟩
    obtain ⟨b7, p7, rfl⟩ := VT.repC_slice hcp.v
    obtain ⟨b8, p8, rfl⟩ := Rp.S_slice hcp.w
    obtain ⟨b9, p9, rfl⟩ := Rp.S_slice hcp.c
    have henc : encB L j [.int .i64 j, .agg (bsL L[j] (.slice b7 L[j].v.l.length p7) (.slice b8 L[j].w.length p8) (.slice b9 L[j].c.length p9)).toArray] G2 := ⟨_, _, _, _, List.getElem?_eq_getElem hlt, rfl, hcp⟩
    simp only [bsL] at henc ⊢
    refine rn_ ?_; intros
    refine go_yield 0 hy' (by rw [hnt]; rfl) rfl rfl rfl rfl hlt henc (fun Z2 M2 => ?_) (fun Z2 M2 => ?_)
    · refine rn_ ?_; intros
      repeat (first | (refine go_gsplit rfl rfl (fun hc => absurd hc (by first | decide +kernel | (simp; first | done | fail))) (fun _ => ?_); refine st_ ?_; (refine rn_ ?_; intros)) | (refine go_gsplit rfl rfl (fun _ => ?_) (fun hc => absurd hc (by first | decide +kernel | (simp; first | done | fail))); refine st_ ?_; (refine rn_ ?_; intros)) | (refine x_split rfl rfl rfl (fun hc => absurd hc (by first | decide +kernel | (simp; first | done | fail))) (fun _ => ?_); refine st_ ?_; (refine ru_ ?_; intros)) | (refine x_split rfl rfl rfl (fun _ => ?_) (fun hc => absurd hc (by first | decide +kernel | (simp; first | done | fail))); refine st_ ?_; (refine ru_ ?_; intros)))
      refine rn_ ?_; intros
      rw [wr (n := (j : Int) + 1) (by omega) (by omega)]
      refine go_keep [0, 5, 6, 7] [0] ?_
      refine st_ ?_
      exact ih (L.length - (j + 1)) _ (by omega) ⟨j + 1, G2, Z2, M2, by omega, rfl, hle.trans hle2, rfl⟩
    · refine rn_ ?_; intros
      refine go_slot 17 (.b true) rfl rfl ?_
      refine rn_ ?_; intros
      refine x_retZ rfl hQ hmb hmh hG0 rfl (by rw [hty]; simp only [so, sq, zy, zz, tyE, SO', SQ', opQ, opStore, opAlloc, ev, putS, dOk, cv, SV.cs, SV.one, SV.bool?, eqB, Value.oneCell', ldOwn, binInt, binConst, binBool, binStr, isC, TK.agg, rv, rv1, ldV, resOne, resV, Nat.reduceAdd, Nat.reduceMul, Nat.reduceSub, Nat.reduceLT, Nat.reduceLeDiff, Nat.reduceEqDiff, Nat.reduceBEq, reduceIte, reduceCtorEq, eq_self]; try rfl) rfl rfl ?_
      exact .inr rfl
  · have hje : j = L.length := by simp at hjl; omega
    subst hje
    refine rn_ ?_; intros
    refine go_endZ hQ hmb hmh hG0 rfl (by rw [hty]; simp only [so, sq, zy, zz, tyE, SO', SQ', opQ, opStore, opAlloc, ev, putS, dOk, cv, SV.cs, SV.one, SV.bool?, eqB, Value.oneCell', ldOwn, binInt, binConst, binBool, binStr, isC, TK.agg, rv, rv1, ldV, resOne, resV, Nat.reduceAdd, Nat.reduceMul, Nat.reduceSub, Nat.reduceLT, Nat.reduceLeDiff, Nat.reduceEqDiff, Nat.reduceBEq, reduceIte, reduceCtorEq, eq_self]; try rfl) rfl rfl ?_
    exact .inl rfl
def allRet (L : List Bs) (v : Value) (G : Hp) : Prop := ∃ f cap, v = .func (.func f) #[] cap.toArray ∧ canCall Tryd.prog f = true ∧ Iter Tryd.prog f cap G (encB L) L.length
theorem fall_ok (b : Nat) (st : Int) (l : List Bs) (sl sb sc : Value) (G : Hp) (hz : st ≠ 0) (hS : rB.S G l sb) (hb : l.length ≤ 1000) (hs : ∀ x ∈ l, BsOk x) :
    PureW Tryd.prog 14 [.pointer (some ⟨b, 0, none⟩)] G (fzO b st sl sb sc) (fun v G' ow => allRet l v G' ∧ ow = fzO b st sl sb sc) := by
  refine enterW ty tyok Tryd.func14 rfl Tryd.ntmps14 [.p 0 b 0] (by simp) (mh := 1) rfl ?_
  intro C hP hQ hnt hty hmb hmh hro hG0 hmub; have hQp := qp_body hQ; refine st_ ?_
  simp only [enumO, fzO]
  refine rn_ ?_; intros
  refine go_callW [0] (ow := fzO b st sl sb sc) (by rw [hnt]; rfl) (by rw [hP]; kernel_rfl) rfl rfl rfl (.inr (by intro k hk; simp at hk; subst hk; rw [hmh]; omega)) (hP ▸ fbases_ok b st l sl sb sc G hz hS hb hs) ?_
  rintro v1 G1 ow (hle1 : Le G G1) ⟨⟨ad, cap, rfl, _, hS1⟩, rfl⟩
  simp only [setO, fzO]
  refine st_ ?_
  refine rn_ ?_; intros
  rename_i bl
  refine go_pub 1 rfl (by omega) ?_
  intro G2 (hle2 : Le G1 G2) hbl0
  have hbl : At G2 bl 0 [.slice ad l.length cap] := at_cellsG hbl0
  refine go_slot 2 (.v (.func (.func 35) #[] #[.pointer (some ⟨bl, 0, none⟩)])) rfl rfl ?_
  refine st_ ?_
  refine x_retW rfl hQ hmb hmh hG0 hmub rfl rfl (by rw [hty]; simp only [so, sq, zy, zz, tyE, SO', SQ', opQ, opStore, opAlloc, ev, putS, dOk, cv, SV.cs, SV.one, SV.bool?, eqB, Value.oneCell', ldOwn, binInt, binConst, binBool, binStr, isC, TK.agg, rv, rv1, ldV, resOne, resV, Nat.reduceAdd, Nat.reduceMul, Nat.reduceSub, Nat.reduceLT, Nat.reduceLeDiff, Nat.reduceEqDiff, Nat.reduceBEq, reduceIte, reduceCtorEq, eq_self]; try rfl) rfl rfl (by simp only [enumO]; exact (by repeat (first | exact plain_nil | refine plain_cons (fun _ h => h) ?_))) ?_; simp only [SV.den, resV, dens]
  exact ⟨⟨_, [.pointer (some ⟨bl, 0, none⟩)], rfl, by kernel_rfl, all1_ok l bl _ G2 (Rp.S_mono hle2 hS1) hs hbl⟩, rfl⟩
theorem GOk.H {f : Fc} {n : Nat} {G : Hp} {sl sb sc : Value} (h : GOk f n) (hn : n ≤ 1000) (hB : At G 0 0 bdsL) (h1 : CapOk sl) (h2 : CapOk sb) (h3 : CapOk sc) (h4 : rT.S G f.l sl) (h5 : rB.S G f.b sb) (h6 : rI.S G f.c sc) : FzH f G sl sb sc := by
  have hk := h.k.n
  have hc := h.c
  have hr := h.k.r
  exact ⟨hB, h1, h2, h3, h4, h5, h6, h.k.v, h.k.w, by omega, by omega, by omega, h.k.s, by simp only [isI64]; omega, h.z⟩
theorem fplain_ok (v : VT) (sv : Value) (G : Hp) (hB : At G 0 0 bdsL) (hv : v.repC G sv) (hb : tsz v ≤ 1048576) : Pure Tryd.prog 7 [.agg #[.int .i64 v.k, .int .i64 v.n, sv]] G (plRet (plainF v)) := by
  obtain ⟨a1, q1, rfl⟩ := VT.repC_slice hv
  refine enterX ty tyok Tryd.func7 rfl Tryd.ntmps7 [.a [.v (.int .i64 v.k), .v (.int .i64 v.n), .v (.slice a1 v.l.length q1)]] (by simp) ?_
  intro C hP hQ hnt hty hmb hmh hro; have hQp := qp_body hQ; refine st_ ?_
  refine rn_ ?_; intros
  refine go_callr 9 (by rw [hnt]; rfl) (by rw [hP]; kernel_rfl) rfl rfl (by omega) (hP ▸ fnew_ok v _ G hv hb) ?_
  rintro u G1 r e size n xs (hle1 : Le G G1) (⟨hev, g, sl, rfl, rfl, rfl, rfl, rfl, rfl, hcl, hS1⟩ | ⟨hev, rfl⟩)
  rotate_left
  · have hpl : plainF v = ([], false) := by rw [plainF, newF, if_neg (by simp [hev])]
    refine rn_ ?_; intros
    repeat (first | (refine go_gsplit rfl rfl (fun hc => absurd hc (by first | decide +kernel | (simp; first | done | fail))) (fun _ => ?_); refine st_ ?_; (refine rn_ ?_; intros)) | (refine go_gsplit rfl rfl (fun _ => ?_) (fun hc => absurd hc (by first | decide +kernel | (simp; first | done | fail))); refine st_ ?_; (refine rn_ ?_; intros)) | (refine x_split rfl rfl rfl (fun hc => absurd hc (by first | decide +kernel | (simp; first | done | fail))) (fun _ => ?_); refine st_ ?_; (refine ru_ ?_; intros)) | (refine x_split rfl rfl rfl (fun _ => ?_) (fun hc => absurd hc (by first | decide +kernel | (simp; first | done | fail))); refine st_ ?_; (refine ru_ ?_; intros)))
    refine rn_ ?_; intros
    refine x_retc rfl hQ hmb rfl (by rw [hty]; simp only [so, sq, zy, zz, tyE, SO', SQ', opQ, opStore, opAlloc, ev, putS, dOk, cv, SV.cs, SV.one, SV.bool?, eqB, Value.oneCell', ldOwn, binInt, binConst, binBool, binStr, isC, TK.agg, rv, rv1, ldV, resOne, resV, Nat.reduceAdd, Nat.reduceMul, Nat.reduceSub, Nat.reduceLT, Nat.reduceLeDiff, Nat.reduceEqDiff, Nat.reduceBEq, reduceIte, reduceCtorEq, eq_self]; try rfl) rfl ?_; simp only [SV.den, resV, dens]
    rw [hpl]
    exact ⟨_, rfl, Rp.S_nil _ _⟩
  have hn0 : newF v = (⟨1, [⟨v, [], []⟩], [], [], ⟨0, []⟩⟩, 0) := by rw [newF, if_pos hev]
  have hpl : plainF v = if (endF (newF v).1).st = 4 then ((endF (newF v).1).b, true) else ([], false) := by rw [plainF, hn0]; simp
  have hg0 := new_g hev 0
  rw [hn0] at hpl hg0
  simp only at hpl hg0
  refine go_unrow 9 (cells := [.v (.int .i64 1), .v sl, .v (.slice none 0 0), .v (.slice none 0 0)]) rfl ?_
  refine rn_ ?_; intros
  repeat (first | (refine go_gsplit rfl rfl (fun hc => absurd hc (by first | decide +kernel | (simp; first | done | fail))) (fun _ => ?_); refine st_ ?_; (refine rn_ ?_; intros)) | (refine go_gsplit rfl rfl (fun _ => ?_) (fun hc => absurd hc (by first | decide +kernel | (simp; first | done | fail))); refine st_ ?_; (refine rn_ ?_; intros)) | (refine x_split rfl rfl rfl (fun hc => absurd hc (by first | decide +kernel | (simp; first | done | fail))) (fun _ => ?_); refine st_ ?_; (refine ru_ ?_; intros)) | (refine x_split rfl rfl rfl (fun _ => ?_) (fun hc => absurd hc (by first | decide +kernel | (simp; first | done | fail))); refine st_ ?_; (refine ru_ ?_; intros)))
  refine rn_ ?_; intros
  refine go_slot 4 (.p 9 g 0) rfl rfl ?_
  refine go_keep [2, 3, 4] [9] ?_
  refine st_ ?_
  obtain ⟨f0, hf0⟩ : ∃ f0 : Fc, f0 = ⟨1, [⟨v, [], []⟩], [], [], ⟨0, []⟩⟩ := ⟨_, rfl⟩
  rw [← hf0] at hpl hg0
  refine x_loop rfl (fun q st => ∃ (f : Fc) (G' : Hp) (sl sb sc : Value), GOk f 0 ∧ q = (if f.st = 1 then mu f.l + 1 else 0) ∧ endF f0 = endF f ∧ Le G G' ∧ CapOk sl ∧ CapOk sb ∧ CapOk sc ∧ rT.S G' f.l sl ∧ rB.S G' f.b sb ∧ rI.S G' f.c sc ∧
    st = ⟨[(2, .v (.slice none 0 0)), (3, .b false), (4, .p 9 g 0)], [(9, g, .c 74 [.v (.int .i64 f.st), .v sl, .v sb, .v sc])], G', []⟩)
    ⟨f0, G1, sl, .slice none 0 0, .slice none 0 0, hg0, rfl, rfl, hle1, hcl, capNil, capNil, by rw [hf0]; exact hS1, by rw [hf0]; exact Rp.S_nil _ _, by rw [hf0]; exact Rp.S_nil _ _, by rw [hf0]⟩ ?_
  rintro q st ⟨f, G2, sl, sb, sc, hg, hq, hend, hle, h1, h2, h3, h4, h5, h6, rfl⟩ ih
  refine rn_ ?_; intros
  by_cases hs : f.st = 1
  · rw [if_pos hs] at hq
    (refine x_split rfl rfl rfl (fun _ => ?_) (fun hc => absurd hc (by simpa using hs)); refine st_ ?_; (refine ru_ ?_; intros))
    refine rn_ ?_; intros
    refine go_callW [9] (ow := fzO g f.st sl sb sc) (by rw [hnt]; rfl) (by rw [hP]; kernel_rfl) rfl rfl rfl (.inl (by intro k hk; simp at hk; subst hk; omega)) (hP ▸ fstep_ok f g sl sb sc G2 (hg.H (by omega) (hB.mono hle) h1 h2 h3 h4 h5 h6)) ?_
    rintro v2 G3 ow (hle3 : Le G2 G3) ⟨rfl, sl', sb', sc', k1, k2, k3, k4, k5, k6, rfl⟩
    simp only [setO, fzO]
    refine st_ ?_
    refine rn_ ?_; intros
    have hg3 := step_g hg
    have hmu := step_mu hg.k hs
    rw [end_step hg.k hs] at hend
    generalize (stepF f).1 = f2 at *
    refine go_keep [2, 3, 4] [9] ?_
    refine st_ ?_
    exact ih (if f2.st = 1 then mu f2.l + 1 else 0) _ (by split <;> (try have := hmu (by assumption)) <;> omega) ⟨f2, G3, sl', sb', sc', hg3, rfl, hend, hle.trans hle3, k1, k2, k3, k4, k5, k6, rfl⟩
  rw [end_stop hs] at hend
  rw [hend] at hpl
  (refine x_split rfl rfl rfl (fun hc => absurd hc (by simpa using hs)) (fun _ => ?_); refine st_ ?_; (refine ru_ ?_; intros))
  refine rn_ ?_; intros
  by_cases h44 : f.st = 4
  · (refine x_split rfl rfl rfl (fun hc => absurd hc (by simpa using h44)) (fun _ => ?_); refine st_ ?_; (refine ru_ ?_; intros))
    refine rn_ ?_; intros
    refine go_callW [9] (ow := fzO g f.st sl sb sc) (by rw [hnt]; rfl) (by rw [hP]; kernel_rfl) rfl rfl rfl (.inl (by intro k hk; simp at hk; subst hk; omega)) (hP ▸ fbases_ok g f.st f.b sl sb sc G2 hg.z h5 (by have := hg.k.n; omega) hg.b) ?_
    rintro v2 G3 ow (hle3 : Le G2 G3) ⟨⟨ad, cap, rfl, _, hS3⟩, rfl⟩
    simp only [setO, fzO]
    refine st_ ?_
    refine rn_ ?_; intros
    refine x_retc rfl hQ hmb rfl (by rw [hty]; simp only [so, sq, zy, zz, tyE, SO', SQ', opQ, opStore, opAlloc, ev, putS, dOk, cv, SV.cs, SV.one, SV.bool?, eqB, Value.oneCell', ldOwn, binInt, binConst, binBool, binStr, isC, TK.agg, rv, rv1, ldV, resOne, resV, Nat.reduceAdd, Nat.reduceMul, Nat.reduceSub, Nat.reduceLT, Nat.reduceLeDiff, Nat.reduceEqDiff, Nat.reduceBEq, reduceIte, reduceCtorEq, eq_self]; try rfl) rfl ?_; simp only [SV.den, resV, dens]
    rw [hpl, if_pos h44]
    exact ⟨_, rfl, hS3⟩
  · (refine x_split rfl rfl rfl (fun _ => ?_) (fun hc => absurd hc (by simpa using h44)); refine st_ ?_; (refine ru_ ?_; intros))
    refine rn_ ?_; intros
    refine x_retc rfl hQ hmb rfl (by rw [hty]; simp only [so, sq, zy, zz, tyE, SO', SQ', opQ, opStore, opAlloc, ev, putS, dOk, cv, SV.cs, SV.one, SV.bool?, eqB, Value.oneCell', ldOwn, binInt, binConst, binBool, binStr, isC, TK.agg, rv, rv1, ldV, resOne, resV, Nat.reduceAdd, Nat.reduceMul, Nat.reduceSub, Nat.reduceLT, Nat.reduceLeDiff, Nat.reduceEqDiff, Nat.reduceBEq, reduceIte, reduceCtorEq, eq_self]; try rfl) rfl ?_; simp only [SV.den, resV, dens]
    rw [hpl, if_neg h44]
    exact ⟨_, rfl, Rp.S_nil _ _⟩
end Go.Proofs.YthocgjchmpkhoaaDoor
namespace Go.Proofs.YthocgjchmpkhoaaDoor
set_option linter.unusedSimpArgs false
set_option linter.unusedVariables false
open Go.Sx
set_option maxHeartbeats 8000000
set_option maxRecDepth 20000
theorem num_ok (n : Int) (G : Hp) : Pure Tryd.prog 12 [.int .i64 n] G (fun r _ => r = .int .i64 n) := by
  refine enterX ty tyok Tryd.func12 rfl Tryd.ntmps12 [.v (.int .i64 n)] (by simp) ?_
  intro C hP hQ hnt hty hmb hmh hro; have hQp := qp_body hQ; refine st_ ?_
  refine rn_ ?_; intros
  refine x_retc rfl hQ hmb rfl (by rw [hty]; simp only [so, sq, zy, zz, tyE, SO', SQ', opQ, opStore, opAlloc, ev, putS, dOk, cv, SV.cs, SV.one, SV.bool?, eqB, Value.oneCell', ldOwn, binInt, binConst, binBool, binStr, isC, TK.agg, rv, rv1, ldV, resOne, resV, Nat.reduceAdd, Nat.reduceMul, Nat.reduceSub, Nat.reduceLT, Nat.reduceLeDiff, Nat.reduceEqDiff, Nat.reduceBEq, reduceIte, reduceCtorEq, eq_self]; try rfl) rfl ?_; simp only [SV.den, resV, dens]
theorem lval_ok (k n : Int) (ad : Option Addr) (m c : Nat) (G : Hp) : Pure Tryd.prog 16 [.int .i64 k, .int .i64 n, .slice ad m c] G (fun r _ => r = .agg #[.int .i64 k, .int .i64 n, .slice ad m c]) := by
  refine enterX ty tyok Tryd.func16 rfl Tryd.ntmps16 [.v (.int .i64 k), .v (.int .i64 n), .v (.slice ad m c)] (by simp) ?_
  intro C hP hQ hnt hty hmb hmh hro; have hQp := qp_body hQ; refine st_ ?_
  refine rn_ ?_; intros
  refine x_retc rfl hQ hmb rfl (by rw [hty]; simp only [so, sq, zy, zz, tyE, SO', SQ', opQ, opStore, opAlloc, ev, putS, dOk, cv, SV.cs, SV.one, SV.bool?, eqB, Value.oneCell', ldOwn, binInt, binConst, binBool, binStr, isC, TK.agg, rv, rv1, ldV, resOne, resV, Nat.reduceAdd, Nat.reduceMul, Nat.reduceSub, Nat.reduceLT, Nat.reduceLeDiff, Nat.reduceEqDiff, Nat.reduceBEq, reduceIte, reduceCtorEq, eq_self]; try rfl) rfl ?_; simp only [SV.den, resV, dens]
theorem same_ok (a b : List Bs) (sa sb : Value) (G : Hp) (ha : rB.S G a sa) (hb : rB.S G b sb) (h1 : a.length ≤ 100000) (h2 : b.length ≤ 100000) : Pure Tryd.prog 19 [sa, sb] G (fun r _ => r = .bool (eqL bsE a b)) := by
  obtain ⟨a1, q1, rfl⟩ := Rp.S_slice ha
  obtain ⟨a2, q2, rfl⟩ := Rp.S_slice hb
  refine enterX ty tyok Tryd.func19 rfl Tryd.ntmps19 [.v (.slice a1 a.length q1), .v (.slice a2 b.length q2)] (by simp) ?_
  intro C hP hQ hnt hty hmb hmh hro; have hQp := qp_body hQ; refine st_ ?_
  refine rn_ ?_; intros
  refine go_callf (by rw [hnt]; rfl) (by rw [hP]; kernel_rfl) rfl (hP ▸ bases_ok a b _ _ G ha hb) ?_; refine rn_ ?_; intros
  refine x_retc rfl hQ hmb rfl (by rw [hty]; simp only [so, sq, zy, zz, tyE, SO', SQ', opQ, opStore, opAlloc, ev, putS, dOk, cv, SV.cs, SV.one, SV.bool?, eqB, Value.oneCell', ldOwn, binInt, binConst, binBool, binStr, isC, TK.agg, rv, rv1, ldV, resOne, resV, Nat.reduceAdd, Nat.reduceMul, Nat.reduceSub, Nat.reduceLT, Nat.reduceLeDiff, Nat.reduceEqDiff, Nat.reduceBEq, reduceIte, reduceCtorEq, eq_self]; try rfl) rfl ?_; simp only [SV.den, resV, dens]
structure Ac where
  w : Int
  n : Int
  v : VT
def acL (x : Ac) (sv : Value) : List Value := [.int .i64 x.w, .int .i64 x.n, .int .i64 x.v.k, .int .i64 x.v.n, sv]
structure Ac.rep (G : Hp) (x : Ac) (sv : Value) : Prop where
  w : isI64 x.w
  n : isI64 x.n
  v : x.v.repC G sv
  b : tsz x.v ≤ 1048576
theorem Ac.rep.mono {G G' : Hp} {x : Ac} {sv : Value} (h : x.rep G sv) (hl : Le G G') : x.rep G' sv := ⟨h.w, h.n, VT.repC_mono hl h.v, h.b⟩
def rA : Rp Ac where
  size := 5
  e G x cs := ∃ sv, cs = acL x sv ∧ x.rep G sv
  mono hl h := by obtain ⟨a, h1, h2⟩ := h; exact ⟨a, h1, h2.mono hl⟩
  len h := by obtain ⟨a, rfl, _⟩ := h; rfl
  one h u hu := by
    obtain ⟨a, rfl, h2⟩ := h
    obtain ⟨_, _, rfl⟩ := VT.repC_slice h2.v
    simp [acL] at hu
    rcases hu with rfl | rfl | rfl | rfl | rfl <;> rfl
theorem rA_at {G : Hp} {l : List Ac} {ad : Option Addr} {n cap : Nat} (h : rA.S G l (.slice ad n cap)) {i : Nat} (hi : i < l.length) : ∃ b off sv, ad = some ⟨b, off, none⟩ ∧ At G b (off + i * 5) (acL l[i] sv) ∧ l[i].rep G sv := by
  obtain ⟨b, off, cap', c, hv, hat, sv, rfl, h1⟩ := Rp.S_get h hi
  cases hv
  exact ⟨b, off, sv, rfl, by simpa [rA] using hat, h1⟩
def fewA (x : Ac) : Bool := decide (tsz x.v ≤ 40)
def fewF (l : List Ac) (most : Int) : Bool := decide ((l.length : Int) ≤ most) && l.all fewA
theorem few_ok (l : List Ac) (sl : Value) (most : Int) (G : Hp) (hS : rA.S G l sl) (hl : l.length ≤ 2000000) : Pure Tryd.prog 5 [sl, .int .i64 most] G (fun v _ => v = .bool (fewF l most)) := by
  obtain ⟨a1, q1, rfl⟩ := Rp.S_slice hS
  refine enterX ty tyok Tryd.func5 rfl Tryd.ntmps5 [.v (.slice a1 l.length q1), .v (.int .i64 most)] (by simp) ?_
  intro C hP hQ hnt hty hmb hmh hro; have hQp := qp_body hQ; refine st_ ?_
  refine rn_ ?_; intros
  by_cases hm : (l.length : Int) ≤ most
  rotate_left
  · (refine x_split rfl rfl rfl (fun _ => ?_) (fun hc => absurd hc (by rw [Bool.not_eq_false]; exact decide_eq_true (by omega))); refine st_ ?_; (refine ru_ ?_; intros))
    refine rn_ ?_; intros
    refine x_retc rfl hQ hmb rfl (by rw [hty]; simp only [so, sq, zy, zz, tyE, SO', SQ', opQ, opStore, opAlloc, ev, putS, dOk, cv, SV.cs, SV.one, SV.bool?, eqB, Value.oneCell', ldOwn, binInt, binConst, binBool, binStr, isC, TK.agg, rv, rv1, ldV, resOne, resV, Nat.reduceAdd, Nat.reduceMul, Nat.reduceSub, Nat.reduceLT, Nat.reduceLeDiff, Nat.reduceEqDiff, Nat.reduceBEq, reduceIte, reduceCtorEq, eq_self]; try rfl) rfl ?_; simp only [SV.den, resV, dens]
    simp [fewF, hm]
  (refine x_split rfl rfl rfl (fun hc => absurd hc (by rw [Bool.not_eq_true]; exact decide_eq_false (by omega))) (fun _ => ?_); refine st_ ?_; (refine ru_ ?_; intros))
  refine rn_ ?_; intros
  refine go_keep [0, 4, 5] [] ?_
  refine st_ ?_
  refine x_loop rfl (fun q s => ∃ k : Nat, k ≤ l.length ∧ q = l.length - k ∧ (l.take k).all fewA = true ∧ s = ⟨[(0, .v (.slice a1 l.length q1)), (4, .b false), (5, .v (.int .i64 k))], [], G, []⟩) ⟨0, by omega, rfl, rfl, rfl⟩ ?_
  rintro q s ⟨k, hk, hq, hall, rfl⟩ ih
  refine rn_ ?_; intros
  refine x_if rfl rfl rfl rfl (fun hkl => ?_) (fun hkl => ?_)
  · have hlt : k < l.length := by simp at hkl; omega
    obtain ⟨c7, o7, sv, rfl, hat7, hr7⟩ := rA_at hS hlt
    obtain ⟨a7, q7, rfl⟩ := VT.repC_slice hr7.v
    have hb7 := hr7.b
    refine rn_ ?_; intros
    refine go_q (by rw [hnt]; rfl) (quiet_index (by rw [hty]; rfl) (by rw [hty]; rfl) rfl rfl rfl (by omega) (by omega)) ?_
    refine rn_ ?_; intros
    refine go_q (v := .agg #[.int .i64 l[k].v.k, .int .i64 l[k].v.n, .slice a7 l[k].v.l.length q7]) (by rw [hnt]; rfl) ((quiet_load (vs := [.int .i64 l[k].v.k, .int .i64 l[k].v.n, .slice a7 l[k].v.l.length q7]) (by rw [hty]; rfl) rfl (fun q => by cases q) (by simpa [acL] using hat7.sub 2 3 (by simp [acL])) rfl).cast (by simp only [ldV]; rfl)) ?_
    refine rn_ ?_; intros
    refine go_callf (by rw [hnt]; rfl) (by rw [hP]; kernel_rfl) rfl (hP ▸ refsize_ok l[k].v _ G (VT.repC_rep hr7.v) (by omega)) ?_; refine rn_ ?_; intros
    rw [cnt_eq l[k].v 0 (by omega)]
    by_cases h40 : tsz l[k].v ≤ 40
    · (refine x_split rfl rfl rfl (fun hc => absurd hc (by rw [Bool.not_eq_true]; exact decide_eq_false (by omega))) (fun _ => ?_); refine st_ ?_; (refine ru_ ?_; intros))
      refine rn_ ?_; intros
      rw [wr (n := (k : Int) + 1) (by omega) (by omega)]
      refine go_keep [0, 4, 5] [] ?_
      refine st_ ?_
      exact ih (l.length - (k + 1)) _ (by omega) ⟨k + 1, by omega, rfl, by rw [← List.take_append_getElem hlt, List.all_append, hall]; simp [fewA, h40], rfl⟩
    · (refine x_split rfl rfl rfl (fun _ => ?_) (fun hc => absurd hc (by rw [Bool.not_eq_false]; exact decide_eq_true (by omega))); refine st_ ?_; (refine ru_ ?_; intros))
      refine rn_ ?_; intros
      refine x_retc rfl hQ hmb rfl (by rw [hty]; simp only [so, sq, zy, zz, tyE, SO', SQ', opQ, opStore, opAlloc, ev, putS, dOk, cv, SV.cs, SV.one, SV.bool?, eqB, Value.oneCell', ldOwn, binInt, binConst, binBool, binStr, isC, TK.agg, rv, rv1, ldV, resOne, resV, Nat.reduceAdd, Nat.reduceMul, Nat.reduceSub, Nat.reduceLT, Nat.reduceLeDiff, Nat.reduceEqDiff, Nat.reduceBEq, reduceIte, reduceCtorEq, eq_self]; try rfl) rfl ?_; simp only [SV.den, resV, dens]
      have : l.all fewA = false := by
        rw [List.all_eq_false]
        exact ⟨l[k], List.getElem_mem _, by simp [fewA, h40]⟩
      simp [fewF, this]
  have hge : k = l.length := by simp at hkl; omega
  rw [hge, List.take_length] at hall
  refine rn_ ?_; intros
  refine x_retc rfl hQ hmb rfl (by rw [hty]; simp only [so, sq, zy, zz, tyE, SO', SQ', opQ, opStore, opAlloc, ev, putS, dOk, cv, SV.cs, SV.one, SV.bool?, eqB, Value.oneCell', ldOwn, binInt, binConst, binBool, binStr, isC, TK.agg, rv, rv1, ldV, resOne, resV, Nat.reduceAdd, Nat.reduceMul, Nat.reduceSub, Nat.reduceLT, Nat.reduceLeDiff, Nat.reduceEqDiff, Nat.reduceBEq, reduceIte, reduceCtorEq, eq_self]; try rfl) rfl ?_; simp only [SV.den, resV, dens]
  simp [fewF, hm, hall]
end Go.Proofs.YthocgjchmpkhoaaDoor
namespace Go.Proofs.YthocgjchmpkhoaaDoor
set_option linter.unusedSimpArgs false
set_option linter.unusedVariables false
open Go.Sx
set_option maxHeartbeats 16000000
set_option maxRecDepth 20000
def actG (f : Fc) (x : Ac) : Fc := if 0 ≤ x.w ∧ x.w ≤ 3 then (stepF f).1 else if x.w = 4 ∨ x.w = 5 then (giveG f x.v).1 else if x.w = 6 then (condG f x.n).1 else f
def actF (f : Fc) (x : Ac) : Fc := if 0 ≤ x.w ∧ x.w ≤ 3 then (stepF f).1 else if x.w = 4 ∨ x.w = 5 then (giveF f x.v).1 else if x.w = 6 then (condF f x.n).1 else f
def actRet (f F : Fc) (x : Ac) (v : Value) (G : Hp) (ow : Lds) : Prop := ∃ b tl tb tc ta t, v = .tuple #[.pointer (some ⟨b, 0, none⟩), .agg (fcL (actF F x) tl tb tc ta).toArray, .bool t] ∧ (actF F x).rep G tl tb tc ta ∧ FzR G (actG f x) b ow
def actRet' (g F : Fc) (v : Value) (G : Hp) (ow : Lds) : Prop := ∃ b tl tb tc ta t, v = .tuple #[.pointer (some ⟨b, 0, none⟩), .agg (fcL F tl tb tc ta).toArray, .bool t] ∧ F.rep G tl tb tc ta ∧ FzR G g b ow
theorem actRetE (f F : Fc) (x : Ac) : actRet f F x = actRet' (actG f x) (actF F x) := rfl
structure ROk (F : Fc) : Prop where
  v : ∀ x ∈ F.l, vld x.v = true
  w : ∀ x ∈ F.l, x.w.length ≤ 40 ∧ x.c.length ≤ 40
  n : F.l.length + F.b.length ≤ 32
  s : F.st = 1 ∨ F.st = 2 ∨ F.st = 3 → 1 ≤ F.l.length
theorem rok_of {g F : Fc} {n : Nat} (h : RelF g F) (hg : GOk g n) : ROk F := by
  rcases h.l with ⟨h1, _⟩ | ⟨_, _, x, _, h2, h3⟩
  · refine ⟨fun x hx => hg.k.v x (by rw [h1]; exact hx), fun x hx => by have := hg.k.w x (by rw [h1]; exact hx); omega, by have := hg.k.n; rw [h1, h.b] at this; exact this, fun hs => by rw [← h1]; exact hg.k.s (by rw [h.st]; exact hs)⟩
  · obtain ⟨r, hgl⟩ : ∃ r, g.l = x :: r := by
      cases hl : g.l with
      | nil => rw [hl] at h2; cases h2
      | cons y r => rw [hl] at h2; cases h2; exact ⟨r, rfl⟩
    obtain ⟨r', hFl⟩ : ∃ r', F.l = ⟨x.v, x.w, x.c ++ [F.c.getLastD 0]⟩ :: r' := by
      cases hl : F.l with
      | nil => rw [hl] at h3; cases h3
      | cons y r => rw [hl] at h3; cases h3; exact ⟨r, rfl⟩
    have hr : r = r' := by have := h.d; rw [hgl, hFl] at this; simpa using this
    subst hr
    have hxm : x ∈ g.l := by rw [hgl]; simp
    have hmem : ∀ y ∈ r, y ∈ g.l := fun y hy => by rw [hgl]; simp [hy]
    refine ⟨fun y hy => ?_, fun y hy => ?_, ?_, fun _ => by rw [hFl]; simp⟩
    · rw [hFl] at hy
      rcases List.mem_cons.1 hy with rfl | hy
      · exact hg.k.v x hxm
      · exact hg.k.v y (hmem y hy)
    · rw [hFl] at hy
      rcases List.mem_cons.1 hy with rfl | hy
      · have := hg.k.w x hxm
        simp only [List.length_append, List.length_cons, List.length_nil]
        omega
      · have := hg.k.w y (hmem y hy)
        omega
    · have := hg.k.n
      rw [hgl, h.b] at this
      rw [hFl]
      simpa using this
theorem act_ok (f F : Fc) (x : Ac) (b m : Nat) (sl sb sc tl tb tc ta sv : Value) (G : Hp) (h : FzH f G sl sb sc) (hs : ∀ y ∈ f.b, BsOk y) (hnc : f.st = 2 → ∀ y ∈ f.l.head?, y.v.k = 12 → 1 ≤ f.c.length) (hF : F.rep G tl tb tc ta) (hFc : ROk F) (hFm : F.c.length ≤ 1000) (hx : x.rep G sv) :
    PureW Tryd.prog 13 [.pointer (some ⟨b, 0, none⟩), .agg (fcL F tl tb tc ta).toArray, .agg (acL x sv).toArray] G (fzO b f.st sl sb sc) (actRet f F x) := by
  have hF0 := hF
  have hFn := hFc.n
  obtain ⟨al, cl, rfl⟩ := Rp.S_slice hF.l
  obtain ⟨ab, cb, rfl⟩ := Rp.S_slice hF.b
  obtain ⟨ac, cc, rfl⟩ := Rp.S_slice hF.c
  obtain ⟨aa, ca, rfl⟩ := Rp.S_slice hF.a
  obtain ⟨av, qv, rfl⟩ := VT.repC_slice hx.v
  refine enterW ty tyok Tryd.func13 rfl Tryd.ntmps13 [.p 0 b 0, .a (fcC F (.slice al F.l.length cl) (.slice ab F.b.length cb) (.slice ac F.c.length cc) (.slice aa F.cl.a.length ca)), .a [.v (.int .i64 x.w), .v (.int .i64 x.n), .v (.int .i64 x.v.k), .v (.int .i64 x.v.n), .v (.slice av x.v.l.length qv)]] (by simp) (mh := 1) rfl ?_
  simp only [fcC]
  intro C hP hQ hnt hty hmb hmh hro hG0 hmub; have hQp := qp_body hQ; refine st_ ?_
  simp only [enumO, fzO]
  refine rn_ ?_; intros
  rename_i b1 b2 b3
  refine go_keep [0, 4, 5, 6, 7, 8, 16, 17] [0, 1, 2, 3] ?_
  refine st_ ?_
  refine cut_tailK 1 (fun s' => s' = ⟨[(0, .p 0 b 0), (4, .p 1 b1 0), (5, .p 2 b2 0), (6, .v (.pointer none)), (7, .p 3 b3 0), (8, .b false), (16, .v (.int .i64 x.w)), (17, .v (.bool (decide (0 ≤ x.w ∧ x.w ≤ 3))))],
    [(0, b, .c 74 [.v (.int .i64 f.st), .v sl, .v sb, .v sc]), (1, b1, .c 45 [.v (.int .i64 F.st), .v (.slice al F.l.length cl), .v (.slice ab F.b.length cb), .v (.slice ac F.c.length cc), .v (.int .i64 F.cl.f), .v (.slice aa F.cl.a.length ca)]), (2, b2, .c 28 [.v (.int .i64 x.w), .v (.int .i64 x.n), .v (.int .i64 x.v.k), .v (.int .i64 x.v.n), .v (.slice av x.v.l.length qv)]), (3, b3, .c 45 [.v (.int .i64 0), .v (.slice none 0 0), .v (.slice none 0 0), .v (.slice none 0 0), .v (.int .i64 0), .v (.slice none 0 0)])], G, []⟩) ?_ ?_
  rotate_left
  · intro Kr key
    simp only [List.take_succ_cons, List.take_zero, List.cons_append, List.nil_append]
    by_cases k0 : x.w = 0
    · (refine x_split rfl rfl rfl (fun _ => ?_) (fun hc => absurd hc (by simpa using k0)); refine st_ ?_; (refine ru_ ?_; intros))
      refine go_slot 17 (.v (.bool (decide (0 ≤ x.w ∧ x.w ≤ 3)))) rfl (by simp [SV.den, k0]) ?_
      refine go_keep [0, 4, 5, 6, 7, 8, 16, 17] [0, 1, 2, 3] ?_
      refine st_ ?_
      exact key _ rfl
    (refine x_split rfl rfl rfl (fun hc => absurd hc (by simpa using k0)) (fun _ => ?_); refine st_ ?_; (refine ru_ ?_; intros))
    refine rn_ ?_; intros
    by_cases k1 : x.w = 1
    · (refine x_split rfl rfl rfl (fun _ => ?_) (fun hc => absurd hc (by simpa using k1)); refine st_ ?_; (refine ru_ ?_; intros))
      refine go_slot 17 (.v (.bool (decide (0 ≤ x.w ∧ x.w ≤ 3)))) rfl (by simp [SV.den, k1]) ?_
      refine go_keep [0, 4, 5, 6, 7, 8, 16, 17] [0, 1, 2, 3] ?_
      refine st_ ?_
      exact key _ rfl
    (refine x_split rfl rfl rfl (fun hc => absurd hc (by simpa using k1)) (fun _ => ?_); refine st_ ?_; (refine ru_ ?_; intros))
    refine rn_ ?_; intros
    by_cases k2 : x.w = 2
    · (refine x_split rfl rfl rfl (fun _ => ?_) (fun hc => absurd hc (by simpa using k2)); refine st_ ?_; (refine ru_ ?_; intros))
      refine go_slot 17 (.v (.bool (decide (0 ≤ x.w ∧ x.w ≤ 3)))) rfl (by simp [SV.den, k2]) ?_
      refine go_keep [0, 4, 5, 6, 7, 8, 16, 17] [0, 1, 2, 3] ?_
      refine st_ ?_
      exact key _ rfl
    (refine x_split rfl rfl rfl (fun hc => absurd hc (by simpa using k2)) (fun _ => ?_); refine st_ ?_; (refine ru_ ?_; intros))
    refine rn_ ?_; intros
    refine go_slot 17 (.v (.bool (decide (0 ≤ x.w ∧ x.w ≤ 3)))) rfl (by simp only [SV.den]; congr 1; rw [Bool.eq_iff_iff]; simp; omega) ?_
    refine go_keep [0, 4, 5, 6, 7, 8, 16, 17] [0, 1, 2, 3] ?_
    refine st_ ?_
    exact key _ rfl
  rintro s' rfl
  simp only [List.drop_succ_cons, List.drop_zero]
  by_cases h03 : 0 ≤ x.w ∧ x.w ≤ 3
  · have ha : actF F x = (stepF F).1 := by rw [actF, if_pos h03]
    have hg : actG f x = (stepF f).1 := by rw [actG, if_pos h03]
    rw [actRetE, ha, hg] at hQ
    (refine x_split rfl rfl rfl (fun _ => ?_) (fun hc => absurd hc (by rw [Bool.not_eq_false]; exact decide_eq_true h03)); refine st_ ?_; (refine ru_ ?_; intros))
    refine rn_ ?_; intros
    refine go_call (by rw [hnt]; rfl) (by rw [hP]; kernel_rfl) rfl (hP ▸ rstep_ok F _ _ _ _ G hF (fun h => hFc.s (.inl h)) hFc.v (fun x hx => by have := hFc.w x hx; omega) (by omega) (by omega)) ?_
    rintro v G1 (hle1 : Le G G1) ⟨t1, t2, t3, t4, rfl, hpr⟩
    generalize (stepF F) = pp at *
    obtain ⟨u1, w1, rfl⟩ := Rp.S_slice hpr.l
    obtain ⟨u2, w2, rfl⟩ := Rp.S_slice hpr.b
    obtain ⟨u3, w3, rfl⟩ := Rp.S_slice hpr.c
    obtain ⟨u4, w4, rfl⟩ := Rp.S_slice hpr.a
    simp only [fcL]
    refine rn_ ?_; intros
    rename_i b4
    refine x_held [(4, b4, .c 45 [.v (.int .i64 pp.1.st), .v (.slice u1 pp.1.l.length w1), .v (.slice u2 pp.1.b.length w2), .v (.slice u3 pp.1.c.length w3), .v (.int .i64 pp.1.cl.f), .v (.slice u4 pp.1.cl.a.length w4)])] rfl (by rw [hP]; kernel_rfl) rfl rfl rfl ?_; refine st_ ?_
    refine h_take 0 rfl (by kernel_rfl) (by kernel_rfl) (by kernel_rfl) hQp (by rw [hnt]; rfl) (allIn (by repeat (first | exact trivial | refine ⟨rfl, ?_⟩))) (by first | exact Le.refl _ | assumption) (quiet_op (by rw [hty]; first | rfl | (refine st_ ?_; rfl))) ?_; refine st_ ?_
    refine h_take 1 rfl (by kernel_rfl) (by kernel_rfl) (by kernel_rfl) hQp (by rw [hnt]; rfl) (allIn (by repeat (first | exact trivial | refine ⟨rfl, ?_⟩))) (by first | exact Le.refl _ | assumption) (quiet_op (by rw [hty]; first | rfl | (refine st_ ?_; rfl))) ?_; refine st_ ?_
    refine h_take 2 rfl (by kernel_rfl) (by kernel_rfl) (by kernel_rfl) hQp (by rw [hnt]; rfl) (allIn (by repeat (first | exact trivial | refine ⟨rfl, ?_⟩))) (by first | exact Le.refl _ | assumption) (quiet_op (by rw [hty]; first | rfl | (refine st_ ?_; rfl))) ?_; refine st_ ?_
    refine h_take 5 rfl (by kernel_rfl) (by kernel_rfl) (by kernel_rfl) hQp (by rw [hnt]; rfl) (allIn (by repeat (first | exact trivial | refine ⟨rfl, ?_⟩))) (by first | exact Le.refl _ | assumption) (quiet_op (by rw [hty]; first | rfl | (refine st_ ?_; rfl))) ?_; refine st_ ?_
    refine h_one 3 rfl (by kernel_rfl) ?_
    refine go_callW [0] (ow := fzO b f.st sl sb sc) (by rw [hnt]; rfl) (by rw [hP]; kernel_rfl) rfl rfl rfl (.inr (by intro k hk; simp at hk; subst hk; rw [hmh]; omega)) (hP ▸ fstep_ok f b sl sb sc G1 (h.mono hle1)) ?_
    rintro v2 G2 ow (hle2 : Le G1 G2) ⟨rfl, sl', sb', sc', k1, k2, k3, k4, k5, k6, rfl⟩
    simp only [setO, fzO]
    refine st_ ?_
    refine rn_ ?_; intros
    refine h_hs (allIn (by repeat (first | exact trivial | refine ⟨rfl, ?_⟩))) (by first | exact Le.refl _ | assumption) ?_
    refine h_one 4 rfl (by kernel_rfl) ?_
    refine go_callf (by rw [hnt]; rfl) (by rw [hP]; kernel_rfl) rfl (hP ▸ num_ok _ _) ?_
    refine rn_ ?_; intros
    refine h_hs (allIn (by repeat (first | exact trivial | refine ⟨rfl, ?_⟩))) (by first | exact Le.refl _ | assumption) ?_
    refine h_take 6 rfl (by kernel_rfl) (by kernel_rfl) (by kernel_rfl) hQp (by rw [hnt]; rfl) (allIn (by repeat (first | exact trivial | refine ⟨rfl, ?_⟩))) (by first | exact Le.refl _ | assumption) (quiet_op (by rw [hty]; first | rfl | (refine st_ ?_; rfl))) ?_; refine st_ ?_
    refine h_one 7 rfl (by kernel_rfl) ?_
    refine rn_ ?_; intros
    refine h_hs (allIn (by repeat (first | exact trivial | refine ⟨rfl, ?_⟩))) (by first | exact Le.refl _ | assumption) ?_
    refine h_one 8 rfl (by kernel_rfl) ?_
    refine rn_ ?_; intros
    refine h_hs (allIn (by repeat (first | exact trivial | refine ⟨rfl, ?_⟩))) (by first | exact Le.refl _ | assumption) ?_
    refine h_one 9 rfl (by kernel_rfl) ?_
    refine rn_ ?_; intros
    refine h_hs (allIn (by repeat (first | exact trivial | refine ⟨rfl, ?_⟩))) (by first | exact Le.refl _ | assumption) ?_
    refine h_end (by kernel_rfl) ?_
    refine rn_ ?_; intros
    refine x_retW rfl hQ hmb hmh hG0 hmub rfl rfl (by rw [hty]; simp only [so, sq, zy, zz, tyE, SO', SQ', opQ, opStore, opAlloc, ev, putS, dOk, cv, SV.cs, SV.one, SV.bool?, eqB, Value.oneCell', ldOwn, binInt, binConst, binBool, binStr, isC, TK.agg, rv, rv1, ldV, resOne, resV, Nat.reduceAdd, Nat.reduceMul, Nat.reduceSub, Nat.reduceLT, Nat.reduceLeDiff, Nat.reduceEqDiff, Nat.reduceBEq, reduceIte, reduceCtorEq, eq_self]; try rfl) rfl rfl (by simp only [enumO]; exact (by repeat (first | exact plain_nil | refine plain_cons (fun _ h => h) ?_))) ?_; simp only [SV.den, resV, dens]
    exact ⟨b, _, _, _, _, _, rfl, hpr.mono hle2, sl', sb', sc', k1, k2, k3, k4, k5, k6, rfl⟩
  (refine x_split rfl rfl rfl (fun hc => absurd hc (by rw [Bool.not_eq_true]; exact decide_eq_false h03)) (fun _ => ?_); refine st_ ?_; (refine ru_ ?_; intros))
  refine rn_ ?_; intros
  refine go_keep [0, 4, 5, 6, 7, 8, 16, 34, 35] [0, 1, 2, 3] ?_
  refine st_ ?_
  refine cut_tailK 1 (fun s' => s' = ⟨[(0, .p 0 b 0), (4, .p 1 b1 0), (5, .p 2 b2 0), (6, .v (.pointer none)), (7, .p 3 b3 0), (8, .b false), (16, .v (.int .i64 x.w)), (34, .v (.bool (decide (x.w = 4 ∨ x.w = 5))))],
    [(0, b, .c 74 [.v (.int .i64 f.st), .v sl, .v sb, .v sc]), (1, b1, .c 45 [.v (.int .i64 F.st), .v (.slice al F.l.length cl), .v (.slice ab F.b.length cb), .v (.slice ac F.c.length cc), .v (.int .i64 F.cl.f), .v (.slice aa F.cl.a.length ca)]), (2, b2, .c 28 [.v (.int .i64 x.w), .v (.int .i64 x.n), .v (.int .i64 x.v.k), .v (.int .i64 x.v.n), .v (.slice av x.v.l.length qv)]), (3, b3, .c 45 [.v (.int .i64 0), .v (.slice none 0 0), .v (.slice none 0 0), .v (.slice none 0 0), .v (.int .i64 0), .v (.slice none 0 0)])], G, []⟩) ?_ ?_
  rotate_left
  · intro Kr key
    simp only [List.take_succ_cons, List.take_zero, List.cons_append, List.nil_append]
    by_cases k4 : x.w = 4
    · (refine x_split rfl rfl rfl (fun _ => ?_) (fun hc => absurd hc (by simpa using k4)); refine st_ ?_; (refine ru_ ?_; intros))
      refine go_slot 34 (.v (.bool (decide (x.w = 4 ∨ x.w = 5)))) rfl (by simp [SV.den, k4]) ?_
      refine go_keep [0, 4, 5, 6, 7, 8, 16, 34] [0, 1, 2, 3] ?_
      refine st_ ?_
      exact key _ rfl
    (refine x_split rfl rfl rfl (fun hc => absurd hc (by simpa using k4)) (fun _ => ?_); refine st_ ?_; (refine ru_ ?_; intros))
    refine rn_ ?_; intros
    refine go_slot 34 (.v (.bool (decide (x.w = 4 ∨ x.w = 5)))) rfl (by simp only [SV.den]; congr 1; rw [Bool.eq_iff_iff]; simp; omega) ?_
    refine go_keep [0, 4, 5, 6, 7, 8, 16, 34] [0, 1, 2, 3] ?_
    refine st_ ?_
    exact key _ rfl
  rintro s' rfl
  simp only [List.drop_succ_cons, List.drop_zero]
  by_cases h45 : x.w = 4 ∨ x.w = 5
  · have ha : actF F x = (giveF F x.v).1 := by rw [actF, if_neg h03, if_pos h45]
    have hg : actG f x = (giveG f x.v).1 := by rw [actG, if_neg h03, if_pos h45]
    rw [actRetE, ha, hg] at hQ
    (refine x_split rfl rfl rfl (fun _ => ?_) (fun hc => absurd hc (by rw [Bool.not_eq_false]; exact decide_eq_true h45)); refine st_ ?_; (refine ru_ ?_; intros))
    refine rn_ ?_; intros
    refine go_call (by rw [hnt]; rfl) (by rw [hP]; kernel_rfl) rfl (hP ▸ rgive_ok F _ _ _ _ x.v _ G hF hx.v hx.b (fun h => hFc.s (.inr (.inl h))) (by omega) (by omega)) ?_
    rintro v G1 (hle1 : Le G G1) ⟨t1, t2, t3, t4, rfl, hpr⟩
    generalize (giveF F x.v) = pp at *
    obtain ⟨u1, w1, rfl⟩ := Rp.S_slice hpr.l
    obtain ⟨u2, w2, rfl⟩ := Rp.S_slice hpr.b
    obtain ⟨u3, w3, rfl⟩ := Rp.S_slice hpr.c
    obtain ⟨u4, w4, rfl⟩ := Rp.S_slice hpr.a
    simp only [fcL]
    refine rn_ ?_; intros
    rename_i b4
    refine x_held [(4, b4, .c 45 [.v (.int .i64 pp.1.st), .v (.slice u1 pp.1.l.length w1), .v (.slice u2 pp.1.b.length w2), .v (.slice u3 pp.1.c.length w3), .v (.int .i64 pp.1.cl.f), .v (.slice u4 pp.1.cl.a.length w4)]), (2, b2, .c 28 [.v (.int .i64 x.w), .v (.int .i64 x.n), .v (.int .i64 x.v.k), .v (.int .i64 x.v.n), .v (.slice av x.v.l.length qv)])] rfl (by rw [hP]; kernel_rfl) rfl rfl rfl ?_; refine st_ ?_
    refine h_take 0 rfl (by kernel_rfl) (by kernel_rfl) (by kernel_rfl) hQp (by rw [hnt]; rfl) (allIn (by repeat (first | exact trivial | refine ⟨rfl, ?_⟩))) (by first | exact Le.refl _ | assumption) (quiet_op (by rw [hty]; first | rfl | (refine st_ ?_; rfl))) ?_; refine st_ ?_
    refine h_take 1 rfl (by kernel_rfl) (by kernel_rfl) (by kernel_rfl) hQp (by rw [hnt]; rfl) (allIn (by repeat (first | exact trivial | refine ⟨rfl, ?_⟩))) (by first | exact Le.refl _ | assumption) (quiet_op (by rw [hty]; first | rfl | (refine st_ ?_; rfl))) ?_; refine st_ ?_
    refine h_take 2 rfl (by kernel_rfl) (by kernel_rfl) (by kernel_rfl) hQp (by rw [hnt]; rfl) (allIn (by repeat (first | exact trivial | refine ⟨rfl, ?_⟩))) (by first | exact Le.refl _ | assumption) (quiet_op (by rw [hty]; first | rfl | (refine st_ ?_; rfl))) ?_; refine st_ ?_
    refine h_take 3 rfl (by kernel_rfl) (by kernel_rfl) (by kernel_rfl) hQp (by rw [hnt]; rfl) (allIn (by repeat (first | exact trivial | refine ⟨rfl, ?_⟩))) (by first | exact Le.refl _ | assumption) (quiet_op (by rw [hty]; first | rfl | (refine st_ ?_; rfl))) ?_; refine st_ ?_
    refine h_take 4 rfl (by kernel_rfl) (by kernel_rfl) (by kernel_rfl) hQp (by rw [hnt]; rfl) (allIn (by repeat (first | exact trivial | refine ⟨rfl, ?_⟩))) (by first | exact Le.refl _ | assumption) (quiet_op (by rw [hty]; first | rfl | (refine st_ ?_; rfl))) ?_; refine st_ ?_
    refine h_take 7 rfl (by kernel_rfl) (by kernel_rfl) (by kernel_rfl) hQp (by rw [hnt]; rfl) (allIn (by repeat (first | exact trivial | refine ⟨rfl, ?_⟩))) (by first | exact Le.refl _ | assumption) (quiet_op (by rw [hty]; first | rfl | (refine st_ ?_; rfl))) ?_; refine st_ ?_
    refine h_one 5 rfl (by kernel_rfl) ?_
    refine go_callW [0] (ow := fzO b f.st sl sb sc) (by rw [hnt]; rfl) (by rw [hP]; kernel_rfl) rfl rfl rfl (.inr (by intro k hk; simp at hk; subst hk; rw [hmh]; omega)) (hP ▸ fgive_ok f x.v _ b sl sb sc G1 (h.mono hle1) (VT.repC_mono hle1 hx.v) hx.b hnc) ?_
    rintro v2 G2 ow (hle2 : Le G1 G2) ⟨rfl, sl', sb', sc', k1, k2, k3, k4, k5, k6, rfl⟩
    simp only [setO, fzO]
    refine st_ ?_
    refine rn_ ?_; intros
    refine h_hs (allIn (by repeat (first | exact trivial | refine ⟨rfl, ?_⟩))) (by first | exact Le.refl _ | assumption) ?_
    refine h_one 6 rfl (by kernel_rfl) ?_
    refine go_callf (by rw [hnt]; rfl) (by rw [hP]; kernel_rfl) rfl (hP ▸ num_ok _ _) ?_
    refine rn_ ?_; intros
    refine h_hs (allIn (by repeat (first | exact trivial | refine ⟨rfl, ?_⟩))) (by first | exact Le.refl _ | assumption) ?_
    refine h_take 8 rfl (by kernel_rfl) (by kernel_rfl) (by kernel_rfl) hQp (by rw [hnt]; rfl) (allIn (by repeat (first | exact trivial | refine ⟨rfl, ?_⟩))) (by first | exact Le.refl _ | assumption) (quiet_op (by rw [hty]; first | rfl | (refine st_ ?_; rfl))) ?_; refine st_ ?_
    refine h_one 9 rfl (by kernel_rfl) ?_
    refine rn_ ?_; intros
    refine h_hs (allIn (by repeat (first | exact trivial | refine ⟨rfl, ?_⟩))) (by first | exact Le.refl _ | assumption) ?_
    refine h_one 10 rfl (by kernel_rfl) ?_
    refine rn_ ?_; intros
    refine h_hs (allIn (by repeat (first | exact trivial | refine ⟨rfl, ?_⟩))) (by first | exact Le.refl _ | assumption) ?_
    refine h_one 11 rfl (by kernel_rfl) ?_
    refine rn_ ?_; intros
    refine h_hs (allIn (by repeat (first | exact trivial | refine ⟨rfl, ?_⟩))) (by first | exact Le.refl _ | assumption) ?_
    refine h_end (by kernel_rfl) ?_
    refine rn_ ?_; intros
    refine x_retW rfl hQ hmb hmh hG0 hmub rfl rfl (by rw [hty]; simp only [so, sq, zy, zz, tyE, SO', SQ', opQ, opStore, opAlloc, ev, putS, dOk, cv, SV.cs, SV.one, SV.bool?, eqB, Value.oneCell', ldOwn, binInt, binConst, binBool, binStr, isC, TK.agg, rv, rv1, ldV, resOne, resV, Nat.reduceAdd, Nat.reduceMul, Nat.reduceSub, Nat.reduceLT, Nat.reduceLeDiff, Nat.reduceEqDiff, Nat.reduceBEq, reduceIte, reduceCtorEq, eq_self]; try rfl) rfl rfl (by simp only [enumO]; exact (by repeat (first | exact plain_nil | refine plain_cons (fun _ h => h) ?_))) ?_; simp only [SV.den, resV, dens]
    exact ⟨b, _, _, _, _, _, rfl, hpr.mono hle2, sl', sb', sc', k1, k2, k3, k4, k5, k6, rfl⟩
  (refine x_split rfl rfl rfl (fun hc => absurd hc (by rw [Bool.not_eq_true]; exact decide_eq_false h45)) (fun _ => ?_); refine st_ ?_; (refine ru_ ?_; intros))
  refine rn_ ?_; intros
  by_cases h6 : x.w = 6
  · have ha : actF F x = (condF F x.n).1 := by rw [actF, if_neg h03, if_neg h45, if_pos h6]
    have hg : actG f x = (condG f x.n).1 := by rw [actG, if_neg h03, if_neg h45, if_pos h6]
    rw [actRetE, ha, hg] at hQ
    (refine x_split rfl rfl rfl (fun _ => ?_) (fun hc => absurd hc (by simpa using h6)); refine st_ ?_; (refine ru_ ?_; intros))
    refine rn_ ?_; intros
    refine go_call (by rw [hnt]; rfl) (by rw [hP]; kernel_rfl) rfl (hP ▸ rcond_ok F _ _ _ _ x.n G hF hx.n (fun h => hFc.s (.inr (.inr h))) hFc.v (fun x hx => by have := hFc.w x hx; omega) (by omega) (by omega)) ?_
    rintro v G1 (hle1 : Le G G1) ⟨t1, t2, t3, t4, rfl, hpr⟩
    generalize (condF F x.n) = pp at *
    obtain ⟨u1, w1, rfl⟩ := Rp.S_slice hpr.l
    obtain ⟨u2, w2, rfl⟩ := Rp.S_slice hpr.b
    obtain ⟨u3, w3, rfl⟩ := Rp.S_slice hpr.c
    obtain ⟨u4, w4, rfl⟩ := Rp.S_slice hpr.a
    simp only [fcL]
    refine rn_ ?_; intros
    rename_i b4
    refine x_held [(4, b4, .c 45 [.v (.int .i64 pp.1.st), .v (.slice u1 pp.1.l.length w1), .v (.slice u2 pp.1.b.length w2), .v (.slice u3 pp.1.c.length w3), .v (.int .i64 pp.1.cl.f), .v (.slice u4 pp.1.cl.a.length w4)]), (2, b2, .c 28 [.v (.int .i64 x.w), .v (.int .i64 x.n), .v (.int .i64 x.v.k), .v (.int .i64 x.v.n), .v (.slice av x.v.l.length qv)])] rfl (by rw [hP]; kernel_rfl) rfl rfl rfl ?_; refine st_ ?_
    refine h_take 0 rfl (by kernel_rfl) (by kernel_rfl) (by kernel_rfl) hQp (by rw [hnt]; rfl) (allIn (by repeat (first | exact trivial | refine ⟨rfl, ?_⟩))) (by first | exact Le.refl _ | assumption) (quiet_op (by rw [hty]; first | rfl | (refine st_ ?_; rfl))) ?_; refine st_ ?_
    refine h_take 1 rfl (by kernel_rfl) (by kernel_rfl) (by kernel_rfl) hQp (by rw [hnt]; rfl) (allIn (by repeat (first | exact trivial | refine ⟨rfl, ?_⟩))) (by first | exact Le.refl _ | assumption) (quiet_op (by rw [hty]; first | rfl | (refine st_ ?_; rfl))) ?_; refine st_ ?_
    refine h_take 2 rfl (by kernel_rfl) (by kernel_rfl) (by kernel_rfl) hQp (by rw [hnt]; rfl) (allIn (by repeat (first | exact trivial | refine ⟨rfl, ?_⟩))) (by first | exact Le.refl _ | assumption) (quiet_op (by rw [hty]; first | rfl | (refine st_ ?_; rfl))) ?_; refine st_ ?_
    refine h_take 3 rfl (by kernel_rfl) (by kernel_rfl) (by kernel_rfl) hQp (by rw [hnt]; rfl) (allIn (by repeat (first | exact trivial | refine ⟨rfl, ?_⟩))) (by first | exact Le.refl _ | assumption) (quiet_op (by rw [hty]; first | rfl | (refine st_ ?_; rfl))) ?_; refine st_ ?_
    refine h_take 4 rfl (by kernel_rfl) (by kernel_rfl) (by kernel_rfl) hQp (by rw [hnt]; rfl) (allIn (by repeat (first | exact trivial | refine ⟨rfl, ?_⟩))) (by first | exact Le.refl _ | assumption) (quiet_op (by rw [hty]; first | rfl | (refine st_ ?_; rfl))) ?_; refine st_ ?_
    refine h_take 7 rfl (by kernel_rfl) (by kernel_rfl) (by kernel_rfl) hQp (by rw [hnt]; rfl) (allIn (by repeat (first | exact trivial | refine ⟨rfl, ?_⟩))) (by first | exact Le.refl _ | assumption) (quiet_op (by rw [hty]; first | rfl | (refine st_ ?_; rfl))) ?_; refine st_ ?_
    refine h_one 5 rfl (by kernel_rfl) ?_
    refine go_callW [0] (ow := fzO b f.st sl sb sc) (by rw [hnt]; rfl) (by rw [hP]; kernel_rfl) rfl rfl rfl (.inr (by intro k hk; simp at hk; subst hk; rw [hmh]; omega)) (hP ▸ fcond_ok f x.n b sl sb sc G1 (h.mono hle1) hx.n) ?_
    rintro v2 G2 ow (hle2 : Le G1 G2) ⟨rfl, sl', sb', sc', k1, k2, k3, k4, k5, k6, rfl⟩
    simp only [setO, fzO]
    refine st_ ?_
    refine rn_ ?_; intros
    refine h_hs (allIn (by repeat (first | exact trivial | refine ⟨rfl, ?_⟩))) (by first | exact Le.refl _ | assumption) ?_
    refine h_one 6 rfl (by kernel_rfl) ?_
    refine go_callf (by rw [hnt]; rfl) (by rw [hP]; kernel_rfl) rfl (hP ▸ num_ok _ _) ?_
    refine rn_ ?_; intros
    refine h_hs (allIn (by repeat (first | exact trivial | refine ⟨rfl, ?_⟩))) (by first | exact Le.refl _ | assumption) ?_
    refine h_take 8 rfl (by kernel_rfl) (by kernel_rfl) (by kernel_rfl) hQp (by rw [hnt]; rfl) (allIn (by repeat (first | exact trivial | refine ⟨rfl, ?_⟩))) (by first | exact Le.refl _ | assumption) (quiet_op (by rw [hty]; first | rfl | (refine st_ ?_; rfl))) ?_; refine st_ ?_
    refine h_one 9 rfl (by kernel_rfl) ?_
    refine rn_ ?_; intros
    refine h_hs (allIn (by repeat (first | exact trivial | refine ⟨rfl, ?_⟩))) (by first | exact Le.refl _ | assumption) ?_
    refine h_one 10 rfl (by kernel_rfl) ?_
    refine rn_ ?_; intros
    refine h_hs (allIn (by repeat (first | exact trivial | refine ⟨rfl, ?_⟩))) (by first | exact Le.refl _ | assumption) ?_
    refine h_one 11 rfl (by kernel_rfl) ?_
    refine rn_ ?_; intros
    refine h_hs (allIn (by repeat (first | exact trivial | refine ⟨rfl, ?_⟩))) (by first | exact Le.refl _ | assumption) ?_
    refine h_end (by kernel_rfl) ?_
    refine rn_ ?_; intros
    refine x_retW rfl hQ hmb hmh hG0 hmub rfl rfl (by rw [hty]; simp only [so, sq, zy, zz, tyE, SO', SQ', opQ, opStore, opAlloc, ev, putS, dOk, cv, SV.cs, SV.one, SV.bool?, eqB, Value.oneCell', ldOwn, binInt, binConst, binBool, binStr, isC, TK.agg, rv, rv1, ldV, resOne, resV, Nat.reduceAdd, Nat.reduceMul, Nat.reduceSub, Nat.reduceLT, Nat.reduceLeDiff, Nat.reduceEqDiff, Nat.reduceBEq, reduceIte, reduceCtorEq, eq_self]; try rfl) rfl rfl (by simp only [enumO]; exact (by repeat (first | exact plain_nil | refine plain_cons (fun _ h => h) ?_))) ?_; simp only [SV.den, resV, dens]
    exact ⟨b, _, _, _, _, _, rfl, hpr.mono hle2, sl', sb', sc', k1, k2, k3, k4, k5, k6, rfl⟩
  have ha : actF F x = F := by rw [actF, if_neg h03, if_neg h45, if_neg h6]
  have hg : actG f x = f := by rw [actG, if_neg h03, if_neg h45, if_neg h6]
  rw [actRetE, ha, hg] at hQ
  (refine x_split rfl rfl rfl (fun hc => absurd hc (by simpa using h6)) (fun _ => ?_); refine st_ ?_; (refine ru_ ?_; intros))
  refine rn_ ?_; intros
  refine x_held [(1, b1, .c 45 [.v (.int .i64 F.st), .v (.slice al F.l.length cl), .v (.slice ab F.b.length cb), .v (.slice ac F.c.length cc), .v (.int .i64 F.cl.f), .v (.slice aa F.cl.a.length ca)])] rfl (by rw [hP]; kernel_rfl) rfl rfl rfl ?_; refine st_ ?_
  refine h_take 0 rfl (by kernel_rfl) (by kernel_rfl) (by kernel_rfl) hQp (by rw [hnt]; rfl) (allIn (by repeat (first | exact trivial | refine ⟨rfl, ?_⟩))) (by first | exact Le.refl _ | assumption) (quiet_op (by rw [hty]; first | rfl | (refine st_ ?_; rfl))) ?_; refine st_ ?_
  refine h_take 2 rfl (by kernel_rfl) (by kernel_rfl) (by kernel_rfl) hQp (by rw [hnt]; rfl) (allIn (by repeat (first | exact trivial | refine ⟨rfl, ?_⟩))) (by first | exact Le.refl _ | assumption) (quiet_op (by rw [hty]; first | rfl | (refine st_ ?_; rfl))) ?_; refine st_ ?_
  refine h_one 1 rfl (by kernel_rfl) ?_
  refine go_callW [0] (ow := fzO b f.st sl sb sc) (by rw [hnt]; rfl) (by rw [hP]; kernel_rfl) rfl rfl rfl (.inr (by intro k hk; simp at hk; subst hk; rw [hmh]; omega)) (hP ▸ fcopy_ok f b sl sb sc G h hs) ?_
  rintro v2 G2 ow (hle2 : Le G G2) ⟨b', rfl, sl', sb', sc', k1, k2, k3, k4, k5, k6, rfl⟩
  simp only [setO, fzO]
  refine st_ ?_
  refine rn_ ?_; intros
  refine h_hs (allIn (by repeat (first | exact trivial | refine ⟨rfl, ?_⟩))) (by first | exact Le.refl _ | assumption) ?_
  refine h_one 3 rfl (by kernel_rfl) ?_
  refine rn_ ?_; intros
  refine h_hs (allIn (by repeat (first | exact trivial | refine ⟨rfl, ?_⟩))) (by first | exact Le.refl _ | assumption) ?_
  refine h_one 4 rfl (by kernel_rfl) ?_
  refine rn_ ?_; intros
  refine h_hs (allIn (by repeat (first | exact trivial | refine ⟨rfl, ?_⟩))) (by first | exact Le.refl _ | assumption) ?_
  refine h_one 5 rfl (by kernel_rfl) ?_
  refine rn_ ?_; intros
  refine h_hs (allIn (by repeat (first | exact trivial | refine ⟨rfl, ?_⟩))) (by first | exact Le.refl _ | assumption) ?_
  refine h_end (by kernel_rfl) ?_
  refine rn_ ?_; intros
  refine x_retW rfl hQ hmb hmh hG0 hmub rfl rfl (by rw [hty]; simp only [so, sq, zy, zz, tyE, SO', SQ', opQ, opStore, opAlloc, ev, putS, dOk, cv, SV.cs, SV.one, SV.bool?, eqB, Value.oneCell', ldOwn, binInt, binConst, binBool, binStr, isC, TK.agg, rv, rv1, ldV, resOne, resV, Nat.reduceAdd, Nat.reduceMul, Nat.reduceSub, Nat.reduceLT, Nat.reduceLeDiff, Nat.reduceEqDiff, Nat.reduceBEq, reduceIte, reduceCtorEq, eq_self]; try rfl) rfl rfl (by simp only [enumO]; exact (by repeat (first | exact plain_nil | refine plain_cons (fun _ h => h) ?_))) ?_; simp only [SV.den, resV, dens]
  exact ⟨b', _, _, _, _, _, rfl, hF.mono hle2, sl', sb', sc', k1, k2, k3, k4, k5, k6, rfl⟩
theorem act_g {f : Fc} {n : Nat} (h : GOk f n) (x : Ac) : GOk (actG f x) (n + 1) := by
  rw [actG]
  split
  · exact (step_g h).up (by omega)
  · split
    · exact (give_g h _).up (by omega)
    · split
      · exact cond_g h _
      · exact h.up (by omega)
theorem act_rel {g F : Fc} (h : RelF g F) (x : Ac) : RelF (actG g x) (actF F x) := by
  rw [actG, actF]
  split
  · exact rel_step h
  · split
    · exact rel_give h _
    · split
      · exact rel_cond h _
      · exact h
theorem run_g {n : Nat} : ∀ (k : Nat) {f : Fc}, GOk f n → GOk (runF k f) n
  | 0, _, h => h
  | k + 1, f, h => by
    rw [runF]
    split
    · exact run_g k (step_g h)
    · exact h
theorem plain_bs (v : VT) : ∀ b ∈ (plainF v).1, BsOk b := by
  intro b hb
  rw [plainF] at hb
  split at hb
  · rename_i h
    have hev : evF v = true := by
      cases he : evF v
      · rw [newF, if_neg (by simp [he])] at h; exact absurd h.1 (by decide)
      · rfl
    exact (run_g _ (new_g hev 0)).b b hb
  · cases hb
end Go.Proofs.YthocgjchmpkhoaaDoor
namespace Go.Sx
set_option linter.unusedSimpArgs false
set_option linter.unusedVariables false
open Go.RowKit
section
variable {C : Ctx} {R : Array Oper} {d : Option Tmp} {t : TypeId} {pos : String} {aft : Array Edge} {K : List KI} {s : St} {own0 : List (Nat × Nat × OO)} {G0 : Hp}
theorem h_ind (I : Nat → Array Bool → St → Prop) {n : Nat} {l : Array Bool} (h0 : I n l s)
    (step : ∀ n l s, I n l s → (∀ m l' s', m < n → I m l' s' → SGo C (.h (Hold C own0 G0) R m l' :: K) s') → SGo C (.h (Hold C own0 G0) R n l :: K) s) : SGo C (.h (Hold C own0 G0) R n l :: K) s := by
  induction n using Nat.strongRecOn generalizing l s with
  | _ n ih => exact step n l s h0 fun m l' s' hm hI => ih m hm hI
theorem h_three (i j k : Nat) {n : Nat} {listed : Array Bool} {op op' op'' : Op} {g g' g'' : Option (Nat × Bool)} {d' d'' : Option Tmp} {t' t'' : TypeId} {pos' pos'' : String} {aft' aft'' : Array Edge} (hi : R[i]? = some ⟨d, op, t, pos, aft, g⟩) (hj : R[j]? = some ⟨d', op', t', pos', aft', g'⟩) (hk : R[k]? = some ⟨d'', op'', t'', pos'', aft'', g''⟩) (hr : Region.ready .any R listed = [i, j, k])
    (h : SGo C (.ops R [⟨d, op, t, pos, aft, g⟩] :: .hs (Hold C own0 G0) :: .h (Hold C own0 G0) R n (listed.setIfInBounds i true) :: K) s)
    (h' : SGo C (.ops R [⟨d', op', t', pos', aft', g'⟩] :: .hs (Hold C own0 G0) :: .h (Hold C own0 G0) R n (listed.setIfInBounds j true) :: K) s)
    (h'' : SGo C (.ops R [⟨d'', op'', t'', pos'', aft'', g''⟩] :: .hs (Hold C own0 G0) :: .h (Hold C own0 G0) R n (listed.setIfInBounds k true) :: K) s) : SGo C (.h (Hold C own0 G0) R (n + 1) listed :: K) s := by
  intro a w hS
  have h1 := h a w hS
  have h2 := h' a w hS
  have h3 := h'' a w hS
  show wpAnyHI _ _ _ _ _ _ _ _ _ _
  refine wpAnyHI_all hr (by simp) ?_
  intro q hq
  simp only [List.mem_cons, List.not_mem_nil, or_false] at hq
  rcases hq with rfl | rfl | rfl
  · exact h_step hi h1
  · exact h_step hj h2
  · exact h_step hk h3
theorem h_four (i j k m : Nat) {n : Nat} {listed : Array Bool} {op op' op'' op3 : Op} {g g' g'' g3 : Option (Nat × Bool)} {d' d'' d3 : Option Tmp} {t' t'' t3 : TypeId} {pos' pos'' pos3 : String} {aft' aft'' aft3 : Array Edge} (hi : R[i]? = some ⟨d, op, t, pos, aft, g⟩) (hj : R[j]? = some ⟨d', op', t', pos', aft', g'⟩) (hk : R[k]? = some ⟨d'', op'', t'', pos'', aft'', g''⟩) (hm : R[m]? = some ⟨d3, op3, t3, pos3, aft3, g3⟩) (hr : Region.ready .any R listed = [i, j, k, m])
    (h : SGo C (.ops R [⟨d, op, t, pos, aft, g⟩] :: .hs (Hold C own0 G0) :: .h (Hold C own0 G0) R n (listed.setIfInBounds i true) :: K) s)
    (h' : SGo C (.ops R [⟨d', op', t', pos', aft', g'⟩] :: .hs (Hold C own0 G0) :: .h (Hold C own0 G0) R n (listed.setIfInBounds j true) :: K) s)
    (h'' : SGo C (.ops R [⟨d'', op'', t'', pos'', aft'', g''⟩] :: .hs (Hold C own0 G0) :: .h (Hold C own0 G0) R n (listed.setIfInBounds k true) :: K) s)
    (h3 : SGo C (.ops R [⟨d3, op3, t3, pos3, aft3, g3⟩] :: .hs (Hold C own0 G0) :: .h (Hold C own0 G0) R n (listed.setIfInBounds m true) :: K) s) : SGo C (.h (Hold C own0 G0) R (n + 1) listed :: K) s := by
  intro a w hS
  have h1 := h a w hS
  have h2 := h' a w hS
  have h3' := h'' a w hS
  have h4 := h3 a w hS
  show wpAnyHI _ _ _ _ _ _ _ _ _ _
  refine wpAnyHI_all hr (by simp) ?_
  intro q hq
  simp only [List.mem_cons, List.not_mem_nil, or_false] at hq
  rcases hq with rfl | rfl | rfl | rfl
  · exact h_step hi h1
  · exact h_step hj h2
  · exact h_step hk h3'
  · exact h_step hm h4
end
end Go.Sx
namespace Go.Proofs.YthocgjchmpkhoaaDoor
set_option linter.unusedSimpArgs false
set_option linter.unusedVariables false
open Go.Sx
def cT : VT := .mk 4 1 []
def v5 : VT := .mk 2 5 []
def sT : VT := .mk 5 0 [cT, v5]
def rcT : VT := .mk 6 0 [cT]
def nvT : VT := .mk 8 0 []
def e1T : VT := .mk 9 0 [sT, .mk 10 3 [rcT], nvT]
def v7 : VT := .mk 2 7 []
def v9 : VT := .mk 2 9 []
def e2T : VT := .mk 10 3 [.mk 10 4 [sT, v7]]
def e3T : VT := .mk 12 2 [v9]
def e3B : VT := .mk 9 0 [sT]
def e4T : VT := .mk 11 2 []
def unT : VT := .mk 1 0 []
def sendB (w : List Cl) (c : List Int) : Bs := ⟨5, 1, v5, w, c⟩
structure FzS (G : Hp) (f : Fc) (sl sb sc : Value) : Prop where
  cl : CapOk sl
  cb : CapOk sb
  cc : CapOk sc
  l : rT.S G f.l sl
  b : rB.S G f.b sb
  c : rI.S G f.c sc
theorem FzS.mono {G G' : Hp} {f : Fc} {sl sb sc : Value} (h : FzS G f sl sb sc) (hl : Le G G') : FzS G' f sl sb sc := ⟨h.cl, h.cb, h.cc, Rp.S_mono hl h.l, Rp.S_mono hl h.b, Rp.S_mono hl h.c⟩
def FzN (G : Hp) (f : Fc) (s : Int) (b : Nat) (ow : Lds) : Prop := ∃ sl sb sc, FzS G f sl sb sc ∧ ow = fzO b s sl sb sc
theorem fzN_of {G : Hp} {f f' : Fc} {s : Int} {b : Nat} {ow : Lds} (h : FzR G f b ow) (hf : f = f') (hs : f'.st = s) : FzN G f' s b ow := by
  subst hf
  obtain ⟨sl, sb, sc, h1, h2, h3, h4, h5, h6, rfl⟩ := h
  rw [hs]
  exact ⟨sl, sb, sc, ⟨h1, h2, h3, h4, h5, h6⟩, rfl⟩
theorem pureW_weak {P : Program} {f : FuncId} {args : List Value} {G : Hp} {ow : Lds} {φ ψ : Value → Hp → Lds → Prop} (h : PureW P f args G ow φ) (hi : ∀ v G' ow', φ v G' ow' → ψ v G' ow') : PureW P f args G ow ψ := fun w hw hL =>
  (h w hw hL).mono fun e w' he => by
    obtain ⟨v, G', ow', q0, q1, q2, q3, q4, q5, q6, q7, q8, q9⟩ := he
    exact ⟨v, G', ow', q0, q1, q2, q3, q4, q5, q6, q7, q8, hi _ _ _ q9⟩
section
variable {f f' : Fc} {s s' : Int} {n b : Nat} {G : Hp} {sl sb sc : Value}
theorem wH (hg : GOk f n) (hn : n ≤ 1000) (hB : At G 0 0 bdsL) (hS : FzS G f sl sb sc) : FzH f G sl sb sc := hg.H hn hB hS.cl hS.cb hS.cc hS.l hS.b hS.c
theorem wstep (h : stepF f = (f', 0)) (hs : f.st = s) (hs' : f'.st = s') (hg : GOk f n) (hn : n ≤ 1000) (hB : At G 0 0 bdsL) (hS : FzS G f sl sb sc) :
    PureW Tryd.prog 17 [.pointer (some ⟨b, 0, none⟩)] G (fzO b s sl sb sc) (fun v G' ow => v = .int .i64 0 ∧ FzN G' f' s' b ow) := by
  have := fstep_ok f b sl sb sc G (wH hg hn hB hS)
  rw [hs, h] at this
  refine pureW_weak this fun v G' ow ⟨h1, h2⟩ => ⟨h1, fzN_of h2 rfl hs'⟩
theorem wgive {v : VT} {sv : Value} (h : giveG f v = (f', 0)) (hs : f.st = s) (hs' : f'.st = s') (hg : GOk f n) (hn : n ≤ 1000) (hB : At G 0 0 bdsL) (hS : FzS G f sl sb sc) (hv : v.repC G sv) (hvt : tsz v ≤ 1048576) :
    PureW Tryd.prog 23 [.pointer (some ⟨b, 0, none⟩), .agg #[.int .i64 v.k, .int .i64 v.n, sv]] G (fzO b s sl sb sc) (fun u G' ow => u = .int .i64 0 ∧ FzN G' f' s' b ow) := by
  have := fgive_ok f v sv b sl sb sc G (wH hg hn hB hS) hv hvt hg.h
  rw [hs, h] at this
  refine pureW_weak this fun v G' ow ⟨h1, h2⟩ => ⟨h1, fzN_of h2 rfl hs'⟩
theorem wcond {m : Int} (h : condG f m = (f', 0)) (hs : f.st = s) (hs' : f'.st = s') (hg : GOk f n) (hn : n ≤ 1000) (hB : At G 0 0 bdsL) (hS : FzS G f sl sb sc) (hm : isI64 m) :
    PureW Tryd.prog 21 [.pointer (some ⟨b, 0, none⟩), .int .i64 m] G (fzO b s sl sb sc) (fun u G' ow => u = .int .i64 0 ∧ FzN G' f' s' b ow) := by
  have := fcond_ok f m b sl sb sc G (wH hg hn hB hS) hm
  rw [hs, h] at this
  refine pureW_weak this fun v G' ow ⟨h1, h2⟩ => ⟨h1, fzN_of h2 rfl hs'⟩
theorem wcall {cl : Cl} (h : callG f = cl) (hs : f.st = 2) (hg : GOk f n) (hn : n ≤ 1000) (hB : At G 0 0 bdsL) (hS : FzS G f sl sb sc) :
    PureW Tryd.prog 22 [.pointer (some ⟨b, 0, none⟩)] G (fzO b 2 sl sb sc) (fun v G' ow => (∃ s1, v = .tuple #[.agg #[.int .i64 cl.f, s1], .bool true] ∧ rV.S G' cl.a s1) ∧ ow = fzO b 2 sl sb sc) := by
  have := fcall_ok f b sl sb sc G (wH hg hn hB hS) hs (hg.h hs)
  rw [hs, h] at this
  exact this
end
def f1s : Nat → Fc
  | 0 => (newF e1T).1
  | n + 1 => (stepF (f1s n)).1
def o0 : Fc := (newF e4T).1
def o1 : Fc := (stepF o0).1
def o2 : Fc := (giveG o1 unT).1
def o3 : Fc := (stepF o2).1
def g0F : Fc := (newF e3T).1
def g1F : Fc := (stepF g0F).1
def g2F : Fc := (condG g1F 6).1
def g3F : Fc := (giveG g2F e3B).1
def g4F : Fc := (stepF g3F).1
def g5F : Fc := (stepF g4F).1
theorem f1s_g : ∀ n, GOk (f1s n) 0
  | 0 => new_g rfl 0
  | n + 1 => step_g (f1s_g n)
theorem f1s_e : ∀ n, n < 5 → stepF (f1s n) = (f1s (n + 1), 0) ∧ (f1s n).st = 1 := by
  intro n hn
  rcases n with _ | _ | _ | _ | _ | n
  · exact ⟨rfl, rfl⟩
  · exact ⟨rfl, rfl⟩
  · exact ⟨rfl, rfl⟩
  · exact ⟨rfl, rfl⟩
  · exact ⟨rfl, rfl⟩
  · omega
def f1B : List Bs := [sendB [] [], ⟨6, 1, zV, [⟨3, []⟩], []⟩, ⟨8, 0, zV, [], []⟩]
theorem f1s_5 : (f1s 5).st = 4 ∧ (f1s 5).b = f1B := ⟨rfl, rfl⟩
theorem o0_g : GOk o0 0 := new_g rfl 0
theorem o1_g : GOk o1 0 := step_g o0_g
theorem o2_g : GOk o2 0 := give_g o1_g _
theorem o_e : stepF o0 = (o1, 0) ∧ giveG o1 unT = (o2, 0) ∧ stepF o2 = (o3, 0) := ⟨rfl, rfl, rfl⟩
theorem o_s : o0.st = 1 ∧ o1.st = 2 ∧ o2.st = 1 ∧ o3.st = 5 := ⟨rfl, rfl, rfl, rfl⟩
theorem g0_g : GOk g0F 0 := new_g rfl 0
theorem g1_g : GOk g1F 0 := step_g g0_g
theorem g2_g : GOk g2F 1 := cond_g g1_g _
theorem g3_g : GOk g3F 1 := give_g g2_g _
theorem g4_g : GOk g4F 1 := step_g g3_g
theorem g5_g : GOk g5F 1 := step_g g4_g
theorem g_e : stepF g0F = (g1F, 0) ∧ condG g1F 6 = (g2F, 0) ∧ giveG g2F e3B = (g3F, 0) ∧ stepF g3F = (g4F, 0) ∧ stepF g4F = (g5F, 0) := ⟨rfl, rfl, rfl, rfl, rfl⟩
theorem g_s : g0F.st = 1 ∧ g1F.st = 3 ∧ g2F.st = 2 ∧ g3F.st = 1 ∧ g4F.st = 1 ∧ g5F.st = 4 := ⟨rfl, rfl, rfl, rfl, rfl, rfl⟩
theorem g_c : callG g2F = ⟨2, [v9, .mk 13 6 []]⟩ ∧ g5F.b = [sendB [] [6]] ∧ g5F.c = [6] := ⟨rfl, rfl, rfl⟩
theorem e2_p : plainF e2T = ([sendB [⟨4, [v7]⟩, ⟨3, []⟩] []], true) := rfl
theorem o_c : callG o1 = ⟨2, []⟩ := rfl
theorem L_repVC {G : Hp} : ∀ {l : List VT} {cs : List Value}, rV.L G l cs → repVC G l cs
  | [], cs, h => by simp only [repVC]; exact h
  | x :: l, cs, h => by
    obtain ⟨c, d, rfl, ⟨sl, rfl, h1, _⟩, h2⟩ := h
    simp only [repVC]
    exact ⟨sl, d, rfl, h1, L_repVC h2⟩
theorem repC_S {G : Hp} {k n : Int} {l : List VT} {ad : Option Addr} {m c : Nat} (hk : isI64 k) (hn : isI64 n) (h : rV.S G l (.slice ad m c)) (hc : m ≤ c) : (VT.mk k n l).repC G (.slice ad m c) := by
  rw [repC_iff]
  obtain ⟨h63, ad', c', e, h⟩ := h
  cases e
  refine ⟨hk, hn, h63, _, _, rfl, hc, ?_⟩
  rcases h with h | ⟨b, off, cs, h1, h2, h3⟩
  · exact .inl h
  · exact .inr ⟨b, off, cs, h1, h2, L_repVC h3⟩
theorem repC_leaf (G : Hp) (k n : Int) (hk : isI64 k) (hn : isI64 n) : (VT.mk k n []).repC G (.slice none 0 0) := repC_S hk hn (Rp.S_nil _ _) (Nat.le_refl _)
theorem rV_row {G : Hp} {l : List VT} {b : Nat} {cs : List Value} {m : Nat} (h : At G b 0 cs) (hL : rV.L G l cs) (hm : m = l.length) (h63 : m ≤ 9223372036854775807) : rV.S G l (.slice (some ⟨b, 0, none⟩) m m) := by
  subst hm
  exact ⟨h63, _, _, rfl, .inr ⟨b, 0, cs, rfl, h, hL⟩⟩
theorem rB_row {G : Hp} {l : List Bs} {b : Nat} {cs : List Value} {m : Nat} (h : At G b 0 cs) (hL : rB.L G l cs) (hm : m = l.length) (h63 : m ≤ 9223372036854775807) : rB.S G l (.slice (some ⟨b, 0, none⟩) m m) := by
  subst hm
  exact ⟨h63, _, _, rfl, .inr ⟨b, 0, cs, rfl, h, hL⟩⟩
theorem rC_row {G : Hp} {l : List Cl} {b : Nat} {cs : List Value} {m : Nat} (h : At G b 0 cs) (hL : rC.L G l cs) (hm : m = l.length) (h63 : m ≤ 9223372036854775807) : rC.S G l (.slice (some ⟨b, 0, none⟩) m m) := by
  subst hm
  exact ⟨h63, _, _, rfl, .inr ⟨b, 0, cs, rfl, h, hL⟩⟩
theorem rI_row {G : Hp} {l : List Int} {b : Nat} {cs : List Value} {m : Nat} (h : At G b 0 cs) (hL : rI.L G l cs) (hm : m = l.length) (h63 : m ≤ 9223372036854775807) : rI.S G l (.slice (some ⟨b, 0, none⟩) m m) := by
  subst hm
  exact ⟨h63, _, _, rfl, .inr ⟨b, 0, cs, rfl, h, hL⟩⟩
theorem rV1 {G : Hp} {x : VT} {sl : Value} (h : x.repC G sl) (hb : tsz x ≤ 1048576) : rV.L G [x] [.int .i64 x.k, .int .i64 x.n, sl] := Rp.L_single ⟨_, rfl, h, hb⟩
theorem rV2 {G : Hp} {x y : VT} {sl sm : Value} (h : x.repC G sl) (hb : tsz x ≤ 1048576) (h2 : y.repC G sm) (hb2 : tsz y ≤ 1048576) : rV.L G [x, y] [.int .i64 x.k, .int .i64 x.n, sl, .int .i64 y.k, .int .i64 y.n, sm] := Rp.L_append (rV1 h hb) (rV1 h2 hb2)
end Go.Proofs.YthocgjchmpkhoaaDoor
namespace Go.Proofs.YthocgjchmpkhoaaDoor
set_option linter.unusedSimpArgs false
set_option linter.unusedVariables false
open Go.Sx
set_option maxHeartbeats 16000000
set_option maxRecDepth 20000
theorem w5 {C : Ctx} (hP : C.P = Tryd.prog) (hQ : C.Q = bodyPost C.P Tryd.f6 (Ret [] C.w0 C.G0 (fun v _ => v = .bool true))) (hnt : C.nt = 242) (hty : C.ty = ty) (hmb : C.mb = []) (hmh : C.mh = 0) (hro : C.ro = none) (G : Hp) (hB : At G 0 0 bdsL) : SGo C [.code (c2 (c2 (c2 (c2 (c2 (c2 (c2 (c2 (c2 (c2 (c2 (c2 (c2 (c2 (c2 (c2 (c2 (c2 (c2 (Tryd.f6.body.getD .skip))))))))))))))))))))] ⟨[(0, .b false)], [], G, []⟩ := by
  have hQp := qp_body hQ
  refine rn_ ?_; intros
  refine go_callf (by rw [hnt]; rfl) (by rw [hP]; kernel_rfl) rfl (hP ▸ lval_ok 11 2 _ _ _ _) ?_
  refine rn_ ?_; intros
  refine go_callr 40 (by rw [hnt]; rfl) (by rw [hP]; kernel_rfl) rfl rfl (by omega) (hP ▸ fnew_ok e4T _ G (repC_leaf G 11 2 (by simp [isI64]) (by simp [isI64])) (by decide)) ?_
  rintro u G1 r e size n xs (hle1 : Le G G1) (⟨_, g, sl, rfl, rfl, rfl, rfl, rfl, rfl, hcl, hS1⟩ | ⟨hev, _⟩)
  rotate_left
  · exact absurd hev (by decide)
  obtain ⟨sb, hsb⟩ : ∃ sb, sb = Value.slice none 0 0 := ⟨_, rfl⟩
  obtain ⟨sc, hsc⟩ : ∃ sc, sc = Value.slice none 0 0 := ⟨_, rfl⟩
  have hz0 : FzS G1 o0 sl sb sc := by rw [hsb, hsc]; exact ⟨hcl, capNil, capNil, hS1, Rp.S_nil _ _, Rp.S_nil _ _⟩
  refine go_unrow 40 (cells := [.v (.int .i64 1), .v sl, .v sb, .v sc]) (by rw [hsb, hsc]; rfl) ?_
  clear hsb hsc hS1 hcl
  refine rn_ ?_; intros
  refine go_callW [40] (ow := fzO g 1 sl sb sc) (by rw [hnt]; rfl) (by rw [hP]; kernel_rfl) rfl rfl rfl (.inl (by intro k hk; omega)) (hP ▸ wstep o_e.1 o_s.1 o_s.2.1 o0_g (by omega) (hB.mono hle1) hz0) ?_
  clear hz0
  rintro v G2 ow (hle2 : Le G1 G2) ⟨rfl, sl, sb, sc, hz1, rfl⟩
  have hle02 := hle1.trans hle2
  simp only [setO, fzO]
  refine st_ ?_
  refine rn_ ?_; intros
  refine go_callW [40] (ow := fzO g 2 sl sb sc) (by rw [hnt]; rfl) (by rw [hP]; kernel_rfl) rfl rfl rfl (.inl (by intro k hk; omega)) (hP ▸ wcall o_c o_s.2.1 o1_g (by omega) (hB.mono hle02) hz1) ?_
  rintro v G3 ow (hle3 : Le G2 G3) ⟨⟨s1, rfl, hs1⟩, rfl⟩
  obtain ⟨y1, z1, rfl⟩ := Rp.S_slice hs1
  have hle03 := hle02.trans hle3
  simp only [setO, fzO]
  refine st_ ?_
  refine rn_ ?_; intros
  refine go_callf (by rw [hnt]; rfl) (by rw [hP]; kernel_rfl) rfl (hP ▸ lval_ok 1 0 _ _ _ _) ?_
  refine rn_ ?_; intros
  refine go_callW [40] (ow := fzO g 2 sl sb sc) (by rw [hnt]; rfl) (by rw [hP]; kernel_rfl) rfl rfl rfl (.inl (by intro k hk; omega)) (hP ▸ wgive (v := unT) o_e.2.1 o_s.2.1 o_s.2.2.1 o1_g (by omega) (hB.mono hle03) (hz1.mono hle3) (repC_leaf G3 1 0 (by simp [isI64]) (by simp [isI64])) (by decide)) ?_
  rintro v G4 ow (hle4 : Le G3 G4) ⟨rfl, sl, sb, sc, hz2, rfl⟩
  have hle04 := hle03.trans hle4
  simp only [setO, fzO]
  refine st_ ?_
  refine rn_ ?_; intros
  refine go_callW [40] (ow := fzO g 1 sl sb sc) (by rw [hnt]; rfl) (by rw [hP]; kernel_rfl) rfl rfl rfl (.inl (by intro k hk; omega)) (hP ▸ wstep o_e.2.2 o_s.2.2.1 o_s.2.2.2 o2_g (by omega) (hB.mono hle04) hz2) ?_
  rintro v G5 ow (hle5 : Le G4 G5) ⟨rfl, sl, sb, sc, hz3, rfl⟩
  have hle05 := hle04.trans hle5
  simp only [setO, fzO]
  refine st_ ?_
  refine rn_ ?_; intros
  refine go_callf (by rw [hnt]; rfl) (by rw [hP]; kernel_rfl) rfl (hP ▸ lval_ok 1 0 _ _ _ _) ?_
  refine rn_ ?_; intros
  refine go_callr 60 (by rw [hnt]; rfl) (by rw [hP]; kernel_rfl) rfl rfl (by omega) (hP ▸ fnew_ok unT _ G5 (repC_leaf G5 1 0 (by simp [isI64]) (by simp [isI64])) (by decide)) ?_
  rintro u G6 r e size n xs (hle6 : Le G5 G6) (⟨hev, _⟩ | ⟨_, rfl⟩)
  · exact absurd hev (by decide)
  refine rn_ ?_; intros
  refine go_callf (by rw [hnt]; rfl) (by rw [hP]; kernel_rfl) rfl (hP ▸ num_ok _ _) ?_
  refine rn_ ?_; intros
  refine go_callf (by rw [hnt]; rfl) (by rw [hP]; kernel_rfl) rfl (hP ▸ num_ok _ _) ?_
  refine rn_ ?_; intros
  refine go_callf (by rw [hnt]; rfl) (by rw [hP]; kernel_rfl) rfl (hP ▸ num_ok _ _) ?_
  refine rn_ ?_; intros
  refine go_callf (by rw [hnt]; rfl) (by rw [hP]; kernel_rfl) rfl (hP ▸ num_ok _ _) ?_
  refine rn_ ?_; intros
  refine go_slot 224 (.b true) rfl (by simp [SV.den]; decide) ?_
  refine rn_ ?_; intros
  refine go_slot 227 (.b true) rfl (by simp [SV.den]) ?_; refine rn_ ?_; intros
  refine go_slot 232 (.b true) rfl (by simp [SV.den]) ?_; refine rn_ ?_; intros
  refine go_callW [40] (ow := fzO g 5 sl sb sc) (by rw [hnt]; rfl) (by rw [hP]; kernel_rfl) rfl rfl rfl (.inl (by intro k hk; omega)) (hP ▸ fstate_ok g 5 sl sb sc G6 (by omega)) ?_
  rintro v G7 ow (hle7 : Le G6 G7) ⟨rfl, rfl⟩
  simp only [setO, fzO]
  refine st_ ?_
  refine rn_ ?_; intros
  refine go_slot 237 (.b true) rfl (by simp [SV.den]) ?_; refine rn_ ?_; intros
  refine go_callf (by rw [hnt]; rfl) (by rw [hP]; kernel_rfl) rfl (hP ▸ num_ok _ _) ?_
  refine rn_ ?_; intros
  refine x_retc rfl hQ hmb rfl (by rw [hty]; simp only [so, sq, zy, zz, tyE, SO', SQ', opQ, opStore, opAlloc, ev, putS, dOk, cv, SV.cs, SV.one, SV.bool?, eqB, Value.oneCell', ldOwn, binInt, binConst, binBool, binStr, isC, TK.agg, rv, rv1, ldV, resOne, resV, Nat.reduceAdd, Nat.reduceMul, Nat.reduceSub, Nat.reduceLT, Nat.reduceLeDiff, Nat.reduceEqDiff, Nat.reduceBEq, reduceIte, reduceCtorEq, eq_self]; try rfl) rfl ?_; simp only [SV.den, resV, dens]
end Go.Proofs.YthocgjchmpkhoaaDoor
