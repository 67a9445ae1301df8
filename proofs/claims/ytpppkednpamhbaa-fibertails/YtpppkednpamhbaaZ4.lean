/-
  Rows.FiberTailsSaid is proved here.
-/
import Derived.Test.YtpppkednpamhbaaZ3
import Derived.Deep.Strs
import Derived.Deep.Slices
import Derived.Test.YtpppkednpamhbaaRows
import Derived.WalkKit
import Derived.ProofKit
import Derived.OpenShut
import Derived.JoinedCond
import Derived.Carry
set_option linter.unusedSimpArgs false
set_option linter.unusedVariables false
namespace Go.Proofs.Ytpppkednpamhbaa
set_option linter.unusedSimpArgs false
set_option linter.unusedVariables false
open Go.Sx
set_option maxHeartbeats 16000000
set_option maxRecDepth 20000
theorem wrapI (n : Int) : isI64 (IntKind.i64.wrap n) := by
  simp only [IntKind.wrap, IntKind.signed, IntKind.bits, isI64]
  simp
  omega
theorem kOf_64 (op : Int) : isI64 (kOf op) := by
  unfold kOf isI64
  repeat' split
  all_goals omega
theorem two_some {l : List VT} {g : VT → VT → Option VT} {o : Option VT} (h : two l g = some o) : ∃ a b t, l = a :: b :: t ∧ g a b = o := by
  cases l with
  | nil => cases h
  | cons a l =>
    cases l with
    | nil => cases h
    | cons b t => injection h with h; exact ⟨a, b, t, rfl, h⟩
theorem numd_cases (a b : VT) (g : Int → Int → Int) (hg : ∀ m n, isI64 (g m n)) : ∃ kk nn ee, numd a b g = .tuple #[.agg #[.int .i64 kk, .int .i64 nn, .slice none 0 0], .int .i64 ee] ∧ ((numF a b g = none ∧ ee ≠ 0) ∨ (numF a b g = some (.mk kk nn []) ∧ ee = 0 ∧ ∀ G, (VT.mk kk nn []).rep G (.slice none 0 0))) := by
  unfold numd numF
  cases h1 : vld a && vld b with
  | false => exact ⟨0, 0, 40, rfl, .inl ⟨rfl, by decide⟩⟩
  | true =>
    cases h2 : a.k == 2 && b.k == 2 with
    | false => exact ⟨0, 0, 41, rfl, .inl ⟨rfl, by decide⟩⟩
    | true => exact ⟨2, _, 0, rfl, .inr ⟨rfl, rfl, fun G => ⟨by simp [isI64], hg _ _, by simp, none, 0, rfl, .inl rfl⟩⟩⟩
theorem rW_repM {G : Hp} {k n : Int} {l : List VT} {sl : Value} (hk : isI64 k) (hn : isI64 n) (h : rW.S G l sl) : (VT.mk k n l).rep G sl := by
  obtain ⟨h1, ad, cap, rfl, h | ⟨b, off, cs, h2, h3, h4⟩⟩ := h
  · exact ⟨hk, hn, h1, ad, cap, rfl, .inl h⟩
  · exact ⟨hk, hn, h1, ad, cap, rfl, .inr ⟨b, off, cs, h2, h3, rW_repV h4⟩⟩
def resPost (o : Option VT) (v : Value) (G : Hp) : Prop := match o with
  | none => ∃ k n e, v = .tuple #[.agg #[.int .i64 k, .int .i64 n, .slice none 0 0], .int .i64 e] ∧ e ≠ 0
  | some y => ∃ sl, v = .tuple #[.agg #[.int .i64 y.k, .int .i64 y.n, sl], .int .i64 0] ∧ y.rep G sl ∧ tsz y ≤ 1000
theorem result_ok (b1 g cap : Nat) (m : Fm) (x : Fw) (r : List Fw) (nd : Nd) (sl : Value) (o : Option VT) (off : Nat) (G : Hp) (hoff : off = r.length * 4) (hxv : rW.S G m.vars x.vars) (hxd : rW.S G m.done x.done.v) (hsl : rI.S G nd.l sl) (hn64 : isI64 nd.n) (ho : resF m nd = some o) :
    PureW Try.prog 32 [.pointer (some ⟨g, off, none⟩), .agg #[.int .i64 nd.op, .int .i64 nd.n, sl]] G [frO b1 (.slice (some ⟨g, 0, none⟩) (r.length + 1) cap) (x :: r)] (fun v G' ow => ow = [frO b1 (.slice (some ⟨g, 0, none⟩) (r.length + 1) cap) (x :: r)] ∧ resPost o v G') := by
  subst hoff
  obtain ⟨asl, csl, rfl⟩ := Rp.S_slice hsl
  obtain ⟨xfn, xnd, xvars, xe, xsz, xdv, xn, xxs⟩ := x
  simp only at hxv hxd
  obtain ⟨av, cv', rfl⟩ := Rp.S_slice hxv
  obtain ⟨ad, cd, rfl⟩ := Rp.S_slice hxd
  have hlen := encF_len (⟨xfn, xnd, .slice av m.vars.length cv', ⟨xe, xsz, .slice ad m.done.length cd, xn, xxs⟩⟩ :: r)
  simp only [List.length_cons] at hlen
  generalize hX : (⟨xfn, xnd, .slice av m.vars.length cv', ⟨xe, xsz, .slice ad m.done.length cd, xn, xxs⟩⟩ : Fw) = x at hlen
  have hcl : cellsF x = [.int .i64 xfn, .int .i64 xnd, .slice av m.vars.length cv', .slice ad m.done.length cd] := by rw [← hX]; rfl
  unfold resF at ho
  refine enterW ty tyok Try.func32 rfl Try.ntmps32 [.v (.pointer (some ⟨g, r.length * 4, none⟩)), .a [.v (.int .i64 nd.op), .v (.int .i64 nd.n), .v (.slice asl nd.l.length csl)]] (by simp) (mh := 1) rfl ?_
  intro C hP hQ hnt hty hmb hmh hro hG0 hmub; have hQp := qp_body hQ; refine st_ ?_
  simp only [enumO, frO, List.length_cons]
  refine rn_ ?_; intros
  rename_i b3 b4
  refine x_split rfl rfl rfl (fun h3 => ?_) (fun h3 => ?_) <;> (refine st_ ?_; (refine ru_ ?_; intros))
  · have h3 : nd.op = 3 := by simpa using h3
    rw [if_pos h3] at ho
    split at ho
    rotate_left
    · cases ho
    rename_i hn0
    cases hv : m.vars[nd.n.toNat]? with
    | none => rw [hv] at ho; cases ho
    | some y =>
    rw [hv] at ho
    simp only [Option.map_some, Option.some.injEq] at ho
    subst ho
    obtain ⟨hi, hy⟩ := List.getElem?_eq_some_iff.1 hv
    obtain ⟨bV, oV, sv, rfl, hatV, hrV, htV⟩ := rW_at hxv hi
    rw [hy] at hatV hrV htV
    obtain ⟨a9, c9, rfl⟩ := VT.rep_slice hrV
    refine rn_ ?_; intros
    refine x_heldP [(0, b1, .row (.slice (some ⟨g, 0, none⟩) (r.length + 1) cap) 77 4 (r.length + 1) (encF (x :: r))), (1, b3, .c 26 [.v (.int .i64 nd.op), .v (.int .i64 nd.n), .v (.slice asl nd.l.length csl)])] 8 rfl (by rw [hP]; kernel_rfl) rfl rfl rfl ?_; refine st_ ?_
    refine hu_take0 0 rfl (by kernel_rfl) (by kernel_rfl) (by kernel_rfl) (by decide) (fun c a w v => hQp c a w _ v) (by rw [hnt]; rfl) (allIn (by repeat (first | exact trivial | refine ⟨rfl, ?_⟩))) (by first | exact Le.refl _ | assumption) (quiet_op (by rw [hty]; first | rfl | (refine st_ ?_; rfl))) ?_; refine st_ ?_
    refine hu_take0 1 rfl (by kernel_rfl) (by kernel_rfl) (by kernel_rfl) (by decide) (fun c a w v => hQp c a w _ v) (by rw [hnt]; rfl) (allIn (by repeat (first | exact trivial | refine ⟨rfl, ?_⟩))) (by first | exact Le.refl _ | assumption) (quiet_op (by rw [hty]; first | rfl | (refine st_ ?_; rfl))) ?_; refine st_ ?_
    refine hu_take0 2 rfl (by kernel_rfl) (by kernel_rfl) (by kernel_rfl) (by decide) (fun c a w v => hQp c a w _ v) (by rw [hnt]; rfl) (allIn (by repeat (first | exact trivial | refine ⟨rfl, ?_⟩))) (by first | exact Le.refl _ | assumption) (quiet_op (by rw [hty]; first | rfl | (refine st_ ?_; rfl))) ?_; refine st_ ?_
    refine hu_takeB 3 [3, 8] rfl (by kernel_rfl) (by kernel_rfl) (by kernel_rfl) (by kernel_rfl) (fun c a w v => hQp c a w _ v) (by rw [hnt]; rfl) (allIn (by repeat (first | exact trivial | refine ⟨rfl, ?_⟩))) (by first | exact Le.refl _ | assumption) (x := .v (.slice (some ⟨bV, oV, none⟩) m.vars.length cv')) ((quiet_loadR (k := 0) (by rw [hty]; rfl) rfl (by simp [TK.agg]) rfl (by simp only []; omega)).cast (by exact encF_ld (j := 2) (by omega) (by rw [hcl]; rfl))) ?_
    refine st_ ?_
    refine hu_take0 4 rfl (by kernel_rfl) (by kernel_rfl) (by kernel_rfl) (by decide) (fun c a w v => hQp c a w _ v) (by rw [hnt]; rfl) (allIn (by repeat (first | exact trivial | refine ⟨rfl, ?_⟩))) (by first | exact Le.refl _ | assumption) (quiet_op (by rw [hty]; first | rfl | (refine st_ ?_; rfl))) ?_; refine st_ ?_
    refine hu_takeB 5 [5, 8] rfl (by kernel_rfl) (by kernel_rfl) (by kernel_rfl) (by kernel_rfl) (fun c a w v => hQp c a w _ v) (by rw [hnt]; rfl) (allIn (by repeat (first | exact trivial | refine ⟨rfl, ?_⟩))) (by first | exact Le.refl _ | assumption) (quiet_op (by rw [hty]; first | rfl | (refine st_ ?_; rfl))) ?_; refine st_ ?_
    refine hu_takeB 6 [6, 8] rfl (by kernel_rfl) (by kernel_rfl) (by kernel_rfl) (by kernel_rfl) (fun c a w v => hQp c a w _ v) (by rw [hnt]; rfl) (allIn (by repeat (first | exact trivial | refine ⟨rfl, ?_⟩))) (by first | exact Le.refl _ | assumption) (x := .v (.pointer (some ⟨bV, oV + nd.n.toNat * 3, none⟩))) ((quiet_index (by rw [hty]; rfl) (by rw [hty]; rfl) rfl rfl rfl (by omega) (by omega)).cast (by rfl)) ?_
    refine st_ ?_
    refine hu_takeB 7 [7, 8] rfl (by kernel_rfl) (by kernel_rfl) (by kernel_rfl) (by kernel_rfl) (fun c a w v => hQp c a w _ v) (by rw [hnt]; rfl) (allIn (by repeat (first | exact trivial | refine ⟨rfl, ?_⟩))) (by first | exact Le.refl _ | assumption) (x := .a [.v (.int .i64 y.k), .v (.int .i64 y.n), .v (.slice a9 y.l.length c9)]) ((quiet_load (by rw [hty]; rfl) rfl (by simp [TK.agg]) hatV rfl).cast (by rfl)) ?_
    refine st_ ?_
    refine hu_last 8 [] rfl (by kernel_rfl) rfl ?_
    refine rn_ ?_; intros
    refine h_one 9 rfl (by kernel_rfl) ?_
    refine rn_ ?_; intros
    refine h_hs (allIn (by repeat (first | exact trivial | refine ⟨rfl, ?_⟩))) (by first | exact Le.refl _ | assumption) ?_
    refine h_end (by kernel_rfl) ?_
    refine rn_ ?_; intros
    refine x_retW rfl hQ hmb hmh hG0 hmub rfl rfl (by rw [hty]; simp only [so, sq, zy, zz, tyE, SO', SQ', opQ, opStore, opAlloc, ev, putS, dOk, cv, SV.cs, SV.one, SV.bool?, eqB, Value.oneCell', ldOwn, binInt, binConst, binBool, binStr, isC, TK.agg, rv, rv1, ldV, resOne, resV, Nat.reduceAdd, Nat.reduceMul, Nat.reduceSub, Nat.reduceLT, Nat.reduceLeDiff, Nat.reduceEqDiff, Nat.reduceBEq, reduceIte, reduceCtorEq, eq_self]; try rfl) rfl rfl (by simp only [enumO]; exact (by repeat (first | exact plain_nil | refine plain_cons (fun _ h => h) ?_))) ?_; simp only [SV.den, resV, dens]
    exact ⟨rfl, _, rfl, hrV, htV⟩
  refine rn_ ?_; intros
  refine x_split rfl rfl rfl (fun h6 => ?_) (fun h6 => ?_) <;> (refine st_ ?_; (refine ru_ ?_; intros))
  · have hop : nd.op = 6 := by simpa using h6
    simp only [hop, Int.reduceEq, if_false, if_true] at ho
    obtain ⟨a, b', t, hdn, ho⟩ := two_some ho
    subst ho
    have hl2 : 2 ≤ m.done.length := by rw [hdn]; simp
    obtain ⟨bD, oD, s0, rfl, hat0, hr0, ht0⟩ := rW_at hxd (i := 0) (by omega)
    obtain ⟨bD', oD', s1, e1, hat1, hr1, ht1⟩ := rW_at hxd (i := 1) (by omega)
    cases e1
    have e0 : m.done[0]'(by omega) = a := by simp [hdn]
    have e1 : m.done[1]'(by omega) = b' := by simp [hdn]
    rw [e0] at hat0 hr0 ht0
    rw [e1] at hat1 hr1 ht1
    obtain ⟨a8, c8, rfl⟩ := VT.rep_slice hr0
    obtain ⟨a9, c9, rfl⟩ := VT.rep_slice hr1
    refine rn_ ?_; intros
    refine x_heldP [(0, b1, .row (.slice (some ⟨g, 0, none⟩) (r.length + 1) cap) 77 4 (r.length + 1) (encF (x :: r)))] 15 rfl (by rw [hP]; kernel_rfl) rfl rfl rfl ?_; refine st_ ?_
    refine hu_take0 0 rfl (by kernel_rfl) (by kernel_rfl) (by kernel_rfl) (by decide) (fun c a w v => hQp c a w _ v) (by rw [hnt]; rfl) (allIn (by repeat (first | exact trivial | refine ⟨rfl, ?_⟩))) (by first | exact Le.refl _ | assumption) (quiet_op (by rw [hty]; first | rfl | (refine st_ ?_; rfl))) ?_; refine st_ ?_
    refine hu_take0 1 rfl (by kernel_rfl) (by kernel_rfl) (by kernel_rfl) (by decide) (fun c a w v => hQp c a w _ v) (by rw [hnt]; rfl) (allIn (by repeat (first | exact trivial | refine ⟨rfl, ?_⟩))) (by first | exact Le.refl _ | assumption) (quiet_op (by rw [hty]; first | rfl | (refine st_ ?_; rfl))) ?_; refine st_ ?_
    refine hu_take0 2 rfl (by kernel_rfl) (by kernel_rfl) (by kernel_rfl) (by decide) (fun c a w v => hQp c a w _ v) (by rw [hnt]; rfl) (allIn (by repeat (first | exact trivial | refine ⟨rfl, ?_⟩))) (by first | exact Le.refl _ | assumption) (quiet_op (by rw [hty]; first | rfl | (refine st_ ?_; rfl))) ?_; refine st_ ?_
    refine hu_takeB 3 [3, 15] rfl (by kernel_rfl) (by kernel_rfl) (by kernel_rfl) (by kernel_rfl) (fun c a w v => hQp c a w _ v) (by rw [hnt]; rfl) (allIn (by repeat (first | exact trivial | refine ⟨rfl, ?_⟩))) (by first | exact Le.refl _ | assumption) (x := .v (.slice (some ⟨bD, oD, none⟩) m.done.length cd)) ((quiet_loadR (k := 0) (by rw [hty]; rfl) rfl (by simp [TK.agg]) rfl (by simp only []; omega)).cast (by exact encF_ld (j := 3) (by omega) (by rw [hcl]; rfl))) ?_
    refine st_ ?_
    refine hu_takeB 4 [4, 15] rfl (by kernel_rfl) (by kernel_rfl) (by kernel_rfl) (by kernel_rfl) (fun c a w v => hQp c a w _ v) (by rw [hnt]; rfl) (allIn (by repeat (first | exact trivial | refine ⟨rfl, ?_⟩))) (by first | exact Le.refl _ | assumption) (x := .v (.pointer (some ⟨bD, oD + 0 * 3, none⟩))) ((quiet_index (by rw [hty]; rfl) (by rw [hty]; rfl) rfl rfl rfl (by omega) (by omega)).cast (by rfl)) ?_
    refine st_ ?_
    refine hu_takeB 5 [5, 15] rfl (by kernel_rfl) (by kernel_rfl) (by kernel_rfl) (by kernel_rfl) (fun c a w v => hQp c a w _ v) (by rw [hnt]; rfl) (allIn (by repeat (first | exact trivial | refine ⟨rfl, ?_⟩))) (by first | exact Le.refl _ | assumption) (x := .a [.v (.int .i64 a.k), .v (.int .i64 a.n), .v (.slice a8 a.l.length c8)]) ((quiet_load (by rw [hty]; rfl) rfl (by simp [TK.agg]) hat0 rfl).cast (by rfl)) ?_
    refine st_ ?_
    refine hu_take0 6 rfl (by kernel_rfl) (by kernel_rfl) (by kernel_rfl) (by decide) (fun c a w v => hQp c a w _ v) (by rw [hnt]; rfl) (allIn (by repeat (first | exact trivial | refine ⟨rfl, ?_⟩))) (by first | exact Le.refl _ | assumption) (quiet_op (by rw [hty]; first | rfl | (refine st_ ?_; rfl))) ?_; refine st_ ?_
    refine hu_take0 7 rfl (by kernel_rfl) (by kernel_rfl) (by kernel_rfl) (by decide) (fun c a w v => hQp c a w _ v) (by rw [hnt]; rfl) (allIn (by repeat (first | exact trivial | refine ⟨rfl, ?_⟩))) (by first | exact Le.refl _ | assumption) (quiet_op (by rw [hty]; first | rfl | (refine st_ ?_; rfl))) ?_; refine st_ ?_
    refine hu_take0 8 rfl (by kernel_rfl) (by kernel_rfl) (by kernel_rfl) (by decide) (fun c a w v => hQp c a w _ v) (by rw [hnt]; rfl) (allIn (by repeat (first | exact trivial | refine ⟨rfl, ?_⟩))) (by first | exact Le.refl _ | assumption) (quiet_op (by rw [hty]; first | rfl | (refine st_ ?_; rfl))) ?_; refine st_ ?_
    refine hu_takeB 9 [9, 15] rfl (by kernel_rfl) (by kernel_rfl) (by kernel_rfl) (by kernel_rfl) (fun c a w v => hQp c a w _ v) (by rw [hnt]; rfl) (allIn (by repeat (first | exact trivial | refine ⟨rfl, ?_⟩))) (by first | exact Le.refl _ | assumption) (x := .v (.slice (some ⟨bD, oD, none⟩) m.done.length cd)) ((quiet_loadR (k := 0) (by rw [hty]; rfl) rfl (by simp [TK.agg]) rfl (by simp only []; omega)).cast (by exact encF_ld (j := 3) (by omega) (by rw [hcl]; rfl))) ?_
    refine st_ ?_
    refine hu_takeB 10 [10, 15] rfl (by kernel_rfl) (by kernel_rfl) (by kernel_rfl) (by kernel_rfl) (fun c a w v => hQp c a w _ v) (by rw [hnt]; rfl) (allIn (by repeat (first | exact trivial | refine ⟨rfl, ?_⟩))) (by first | exact Le.refl _ | assumption) (x := .v (.pointer (some ⟨bD, oD + 1 * 3, none⟩))) ((quiet_index (by rw [hty]; rfl) (by rw [hty]; rfl) rfl rfl rfl (by omega) (by omega)).cast (by rfl)) ?_
    refine st_ ?_
    refine hu_takeB 11 [11, 15] rfl (by kernel_rfl) (by kernel_rfl) (by kernel_rfl) (by kernel_rfl) (fun c a w v => hQp c a w _ v) (by rw [hnt]; rfl) (allIn (by repeat (first | exact trivial | refine ⟨rfl, ?_⟩))) (by first | exact Le.refl _ | assumption) (x := .a [.v (.int .i64 b'.k), .v (.int .i64 b'.n), .v (.slice a9 b'.l.length c9)]) ((quiet_load (by rw [hty]; rfl) rfl (by simp [TK.agg]) hat1 rfl).cast (by rfl)) ?_
    refine st_ ?_
    refine hu_one 12 rfl (by kernel_rfl) ?_
    refine go_call (by rw [hnt]; rfl) (by rw [hP]; kernel_rfl) rfl (hP ▸ add_ok a b' _ _ G hr0 hr1) ?_
    rintro _ G3 (hle3 : Le G G3) rfl
    obtain ⟨kk, nn, ee, hnum, hcs⟩ := numd_cases a b' (fun m n => IntKind.i64.wrap (m + n)) (fun _ _ => wrapI _)
    rw [hnum]
    refine rn_ ?_; intros
    refine h_hs (allIn (by repeat (first | exact trivial | refine ⟨rfl, ?_⟩))) (by first | exact Le.refl _ | assumption) ?_
    refine hu_take0 13 rfl (by kernel_rfl) (by kernel_rfl) (by kernel_rfl) (by decide) (fun c a w v => hQp c a w _ v) (by rw [hnt]; rfl) (allIn (by repeat (first | exact trivial | refine ⟨rfl, ?_⟩))) (by first | exact Le.refl _ | assumption) (quiet_op (by rw [hty]; first | rfl | (refine st_ ?_; rfl))) ?_; refine st_ ?_
    refine hu_take0 14 rfl (by kernel_rfl) (by kernel_rfl) (by kernel_rfl) (by decide) (fun c a w v => hQp c a w _ v) (by rw [hnt]; rfl) (allIn (by repeat (first | exact trivial | refine ⟨rfl, ?_⟩))) (by first | exact Le.refl _ | assumption) (quiet_op (by rw [hty]; first | rfl | (refine st_ ?_; rfl))) ?_; refine st_ ?_
    refine hu_last 15 [] rfl (by kernel_rfl) rfl ?_
    refine rn_ ?_; intros
    refine h_one 16 rfl (by kernel_rfl) ?_
    refine rn_ ?_; intros
    refine h_hs (allIn (by repeat (first | exact trivial | refine ⟨rfl, ?_⟩))) (by first | exact Le.refl _ | assumption) ?_
    refine h_end (by kernel_rfl) ?_
    refine rn_ ?_; intros
    refine x_retW rfl hQ hmb hmh hG0 hmub rfl rfl (by rw [hty]; simp only [so, sq, zy, zz, tyE, SO', SQ', opQ, opStore, opAlloc, ev, putS, dOk, cv, SV.cs, SV.one, SV.bool?, eqB, Value.oneCell', ldOwn, binInt, binConst, binBool, binStr, isC, TK.agg, rv, rv1, ldV, resOne, resV, Nat.reduceAdd, Nat.reduceMul, Nat.reduceSub, Nat.reduceLT, Nat.reduceLeDiff, Nat.reduceEqDiff, Nat.reduceBEq, reduceIte, reduceCtorEq, eq_self]; try rfl) rfl rfl (by simp only [enumO]; exact (by repeat (first | exact plain_nil | refine plain_cons (fun _ h => h) ?_))) ?_; simp only [SV.den, resV, dens]
    refine ⟨rfl, ?_⟩
    rcases hcs with ⟨hn, he⟩ | ⟨hn, he, hr⟩
    · rw [hn]; exact ⟨_, _, _, rfl, he⟩
    · rw [hn]; subst he; exact ⟨_, rfl, hr G3, by simp [tsz, tszL]⟩
  refine rn_ ?_; intros
  refine x_split rfl rfl rfl (fun h7 => ?_) (fun h7 => ?_) <;> (refine st_ ?_; (refine ru_ ?_; intros))
  · have hop : nd.op = 7 := by simpa using h7
    simp only [hop, Int.reduceEq, if_false, if_true] at ho
    obtain ⟨a, b', t, hdn, ho⟩ := two_some ho
    subst ho
    have hl2 : 2 ≤ m.done.length := by rw [hdn]; simp
    obtain ⟨bD, oD, s0, rfl, hat0, hr0, ht0⟩ := rW_at hxd (i := 0) (by omega)
    obtain ⟨bD', oD', s1, e1, hat1, hr1, ht1⟩ := rW_at hxd (i := 1) (by omega)
    cases e1
    have e0 : m.done[0]'(by omega) = a := by simp [hdn]
    have e1 : m.done[1]'(by omega) = b' := by simp [hdn]
    rw [e0] at hat0 hr0 ht0
    rw [e1] at hat1 hr1 ht1
    obtain ⟨a8, c8, rfl⟩ := VT.rep_slice hr0
    obtain ⟨a9, c9, rfl⟩ := VT.rep_slice hr1
    refine rn_ ?_; intros
    refine x_heldP [(0, b1, .row (.slice (some ⟨g, 0, none⟩) (r.length + 1) cap) 77 4 (r.length + 1) (encF (x :: r)))] 15 rfl (by rw [hP]; kernel_rfl) rfl rfl rfl ?_; refine st_ ?_
    refine hu_take0 0 rfl (by kernel_rfl) (by kernel_rfl) (by kernel_rfl) (by decide) (fun c a w v => hQp c a w _ v) (by rw [hnt]; rfl) (allIn (by repeat (first | exact trivial | refine ⟨rfl, ?_⟩))) (by first | exact Le.refl _ | assumption) (quiet_op (by rw [hty]; first | rfl | (refine st_ ?_; rfl))) ?_; refine st_ ?_
    refine hu_take0 1 rfl (by kernel_rfl) (by kernel_rfl) (by kernel_rfl) (by decide) (fun c a w v => hQp c a w _ v) (by rw [hnt]; rfl) (allIn (by repeat (first | exact trivial | refine ⟨rfl, ?_⟩))) (by first | exact Le.refl _ | assumption) (quiet_op (by rw [hty]; first | rfl | (refine st_ ?_; rfl))) ?_; refine st_ ?_
    refine hu_take0 2 rfl (by kernel_rfl) (by kernel_rfl) (by kernel_rfl) (by decide) (fun c a w v => hQp c a w _ v) (by rw [hnt]; rfl) (allIn (by repeat (first | exact trivial | refine ⟨rfl, ?_⟩))) (by first | exact Le.refl _ | assumption) (quiet_op (by rw [hty]; first | rfl | (refine st_ ?_; rfl))) ?_; refine st_ ?_
    refine hu_takeB 3 [3, 15] rfl (by kernel_rfl) (by kernel_rfl) (by kernel_rfl) (by kernel_rfl) (fun c a w v => hQp c a w _ v) (by rw [hnt]; rfl) (allIn (by repeat (first | exact trivial | refine ⟨rfl, ?_⟩))) (by first | exact Le.refl _ | assumption) (x := .v (.slice (some ⟨bD, oD, none⟩) m.done.length cd)) ((quiet_loadR (k := 0) (by rw [hty]; rfl) rfl (by simp [TK.agg]) rfl (by simp only []; omega)).cast (by exact encF_ld (j := 3) (by omega) (by rw [hcl]; rfl))) ?_
    refine st_ ?_
    refine hu_takeB 4 [4, 15] rfl (by kernel_rfl) (by kernel_rfl) (by kernel_rfl) (by kernel_rfl) (fun c a w v => hQp c a w _ v) (by rw [hnt]; rfl) (allIn (by repeat (first | exact trivial | refine ⟨rfl, ?_⟩))) (by first | exact Le.refl _ | assumption) (x := .v (.pointer (some ⟨bD, oD + 0 * 3, none⟩))) ((quiet_index (by rw [hty]; rfl) (by rw [hty]; rfl) rfl rfl rfl (by omega) (by omega)).cast (by rfl)) ?_
    refine st_ ?_
    refine hu_takeB 5 [5, 15] rfl (by kernel_rfl) (by kernel_rfl) (by kernel_rfl) (by kernel_rfl) (fun c a w v => hQp c a w _ v) (by rw [hnt]; rfl) (allIn (by repeat (first | exact trivial | refine ⟨rfl, ?_⟩))) (by first | exact Le.refl _ | assumption) (x := .a [.v (.int .i64 a.k), .v (.int .i64 a.n), .v (.slice a8 a.l.length c8)]) ((quiet_load (by rw [hty]; rfl) rfl (by simp [TK.agg]) hat0 rfl).cast (by rfl)) ?_
    refine st_ ?_
    refine hu_take0 6 rfl (by kernel_rfl) (by kernel_rfl) (by kernel_rfl) (by decide) (fun c a w v => hQp c a w _ v) (by rw [hnt]; rfl) (allIn (by repeat (first | exact trivial | refine ⟨rfl, ?_⟩))) (by first | exact Le.refl _ | assumption) (quiet_op (by rw [hty]; first | rfl | (refine st_ ?_; rfl))) ?_; refine st_ ?_
    refine hu_take0 7 rfl (by kernel_rfl) (by kernel_rfl) (by kernel_rfl) (by decide) (fun c a w v => hQp c a w _ v) (by rw [hnt]; rfl) (allIn (by repeat (first | exact trivial | refine ⟨rfl, ?_⟩))) (by first | exact Le.refl _ | assumption) (quiet_op (by rw [hty]; first | rfl | (refine st_ ?_; rfl))) ?_; refine st_ ?_
    refine hu_take0 8 rfl (by kernel_rfl) (by kernel_rfl) (by kernel_rfl) (by decide) (fun c a w v => hQp c a w _ v) (by rw [hnt]; rfl) (allIn (by repeat (first | exact trivial | refine ⟨rfl, ?_⟩))) (by first | exact Le.refl _ | assumption) (quiet_op (by rw [hty]; first | rfl | (refine st_ ?_; rfl))) ?_; refine st_ ?_
    refine hu_takeB 9 [9, 15] rfl (by kernel_rfl) (by kernel_rfl) (by kernel_rfl) (by kernel_rfl) (fun c a w v => hQp c a w _ v) (by rw [hnt]; rfl) (allIn (by repeat (first | exact trivial | refine ⟨rfl, ?_⟩))) (by first | exact Le.refl _ | assumption) (x := .v (.slice (some ⟨bD, oD, none⟩) m.done.length cd)) ((quiet_loadR (k := 0) (by rw [hty]; rfl) rfl (by simp [TK.agg]) rfl (by simp only []; omega)).cast (by exact encF_ld (j := 3) (by omega) (by rw [hcl]; rfl))) ?_
    refine st_ ?_
    refine hu_takeB 10 [10, 15] rfl (by kernel_rfl) (by kernel_rfl) (by kernel_rfl) (by kernel_rfl) (fun c a w v => hQp c a w _ v) (by rw [hnt]; rfl) (allIn (by repeat (first | exact trivial | refine ⟨rfl, ?_⟩))) (by first | exact Le.refl _ | assumption) (x := .v (.pointer (some ⟨bD, oD + 1 * 3, none⟩))) ((quiet_index (by rw [hty]; rfl) (by rw [hty]; rfl) rfl rfl rfl (by omega) (by omega)).cast (by rfl)) ?_
    refine st_ ?_
    refine hu_takeB 11 [11, 15] rfl (by kernel_rfl) (by kernel_rfl) (by kernel_rfl) (by kernel_rfl) (fun c a w v => hQp c a w _ v) (by rw [hnt]; rfl) (allIn (by repeat (first | exact trivial | refine ⟨rfl, ?_⟩))) (by first | exact Le.refl _ | assumption) (x := .a [.v (.int .i64 b'.k), .v (.int .i64 b'.n), .v (.slice a9 b'.l.length c9)]) ((quiet_load (by rw [hty]; rfl) rfl (by simp [TK.agg]) hat1 rfl).cast (by rfl)) ?_
    refine st_ ?_
    refine hu_one 12 rfl (by kernel_rfl) ?_
    refine go_call (by rw [hnt]; rfl) (by rw [hP]; kernel_rfl) rfl (hP ▸ sub_ok a b' _ _ G hr0 hr1) ?_
    rintro _ G3 (hle3 : Le G G3) rfl
    obtain ⟨kk, nn, ee, hnum, hcs⟩ := numd_cases a b' (fun m n => IntKind.i64.wrap (m - n)) (fun _ _ => wrapI _)
    rw [hnum]
    refine rn_ ?_; intros
    refine h_hs (allIn (by repeat (first | exact trivial | refine ⟨rfl, ?_⟩))) (by first | exact Le.refl _ | assumption) ?_
    refine hu_take0 13 rfl (by kernel_rfl) (by kernel_rfl) (by kernel_rfl) (by decide) (fun c a w v => hQp c a w _ v) (by rw [hnt]; rfl) (allIn (by repeat (first | exact trivial | refine ⟨rfl, ?_⟩))) (by first | exact Le.refl _ | assumption) (quiet_op (by rw [hty]; first | rfl | (refine st_ ?_; rfl))) ?_; refine st_ ?_
    refine hu_take0 14 rfl (by kernel_rfl) (by kernel_rfl) (by kernel_rfl) (by decide) (fun c a w v => hQp c a w _ v) (by rw [hnt]; rfl) (allIn (by repeat (first | exact trivial | refine ⟨rfl, ?_⟩))) (by first | exact Le.refl _ | assumption) (quiet_op (by rw [hty]; first | rfl | (refine st_ ?_; rfl))) ?_; refine st_ ?_
    refine hu_last 15 [] rfl (by kernel_rfl) rfl ?_
    refine rn_ ?_; intros
    refine h_one 16 rfl (by kernel_rfl) ?_
    refine rn_ ?_; intros
    refine h_hs (allIn (by repeat (first | exact trivial | refine ⟨rfl, ?_⟩))) (by first | exact Le.refl _ | assumption) ?_
    refine h_end (by kernel_rfl) ?_
    refine rn_ ?_; intros
    refine x_retW rfl hQ hmb hmh hG0 hmub rfl rfl (by rw [hty]; simp only [so, sq, zy, zz, tyE, SO', SQ', opQ, opStore, opAlloc, ev, putS, dOk, cv, SV.cs, SV.one, SV.bool?, eqB, Value.oneCell', ldOwn, binInt, binConst, binBool, binStr, isC, TK.agg, rv, rv1, ldV, resOne, resV, Nat.reduceAdd, Nat.reduceMul, Nat.reduceSub, Nat.reduceLT, Nat.reduceLeDiff, Nat.reduceEqDiff, Nat.reduceBEq, reduceIte, reduceCtorEq, eq_self]; try rfl) rfl rfl (by simp only [enumO]; exact (by repeat (first | exact plain_nil | refine plain_cons (fun _ h => h) ?_))) ?_; simp only [SV.den, resV, dens]
    refine ⟨rfl, ?_⟩
    rcases hcs with ⟨hn, he⟩ | ⟨hn, he, hr⟩
    · rw [hn]; exact ⟨_, _, _, rfl, he⟩
    · rw [hn]; subst he; exact ⟨_, rfl, hr G3, by simp [tsz, tszL]⟩
  refine rn_ ?_; intros
  refine x_split rfl rfl rfl (fun h8 => ?_) (fun h8 => ?_) <;> (refine st_ ?_; (refine ru_ ?_; intros))
  · have hop : nd.op = 8 := by simpa using h8
    simp only [hop, Int.reduceEq, if_false, if_true] at ho
    cases ho
  refine rn_ ?_; intros
  refine x_split rfl rfl rfl (fun h9 => ?_) (fun h9 => ?_) <;> (refine st_ ?_; (refine ru_ ?_; intros))
  · have hop : nd.op = 9 := by simpa using h9
    simp only [hop, Int.reduceEq, if_false, if_true] at ho
    cases ho
  refine rn_ ?_; intros
  refine x_split rfl rfl rfl (fun h11 => ?_) (fun h11 => ?_) <;> (refine st_ ?_; (refine ru_ ?_; intros))
  · have hop : nd.op = 11 := by simpa using h11
    simp only [hop, Int.reduceEq, if_false, if_true] at ho
    cases ho
  refine rn_ ?_; intros
  refine x_split rfl rfl rfl (fun h12 => ?_) (fun h12 => ?_) <;> (refine st_ ?_; (refine ru_ ?_; intros))
  · have hop : nd.op = 12 := by simpa using h12
    simp only [hop, Int.reduceEq, if_false, if_true] at ho
    cases ho
  have g3 : ¬ nd.op = 3 := by simpa using h3
  have g6 : ¬ nd.op = 6 := by simpa using h6
  have g7 : ¬ nd.op = 7 := by simpa using h7
  have g8 : ¬ nd.op = 8 := by simpa using h8
  have g9 : ¬ nd.op = 9 := by simpa using h9
  have g11 : ¬ nd.op = 11 := by simpa using h11
  have g12 : ¬ nd.op = 12 := by simpa using h12
  rw [if_neg g3, if_neg g6, if_neg g7, if_neg g8, if_neg g9, if_neg g11, if_neg g12] at ho
  split at ho
  rotate_left
  · cases ho
  rw [Option.some.injEq] at ho
  rename_i hts
  subst ho
  refine rn_ ?_; intros
  refine x_heldP [(0, b1, .row (.slice (some ⟨g, 0, none⟩) (r.length + 1) cap) 77 4 (r.length + 1) (encF (x :: r))), (1, b3, .c 26 [.v (.int .i64 nd.op), .v (.int .i64 nd.n), .v (.slice asl nd.l.length csl)])] 12 rfl (by rw [hP]; kernel_rfl) rfl rfl rfl ?_; refine st_ ?_
  refine hu_take0 0 rfl (by kernel_rfl) (by kernel_rfl) (by kernel_rfl) (by decide) (fun c a w v => hQp c a w _ v) (by rw [hnt]; rfl) (allIn (by repeat (first | exact trivial | refine ⟨rfl, ?_⟩))) (by first | exact Le.refl _ | assumption) (quiet_op (by rw [hty]; first | rfl | (refine st_ ?_; rfl))) ?_; refine st_ ?_
  refine hu_takeB 1 [1, 12] rfl (by kernel_rfl) (by kernel_rfl) (by kernel_rfl) (by kernel_rfl) (fun c a w v => hQp c a w _ v) (by rw [hnt]; rfl) (allIn (by repeat (first | exact trivial | refine ⟨rfl, ?_⟩))) (by first | exact Le.refl _ | assumption) (quiet_op (by rw [hty]; first | rfl | (refine st_ ?_; rfl))) ?_; refine st_ ?_
  refine hu_take0 3 rfl (by kernel_rfl) (by kernel_rfl) (by kernel_rfl) (by decide) (fun c a w v => hQp c a w _ v) (by rw [hnt]; rfl) (allIn (by repeat (first | exact trivial | refine ⟨rfl, ?_⟩))) (by first | exact Le.refl _ | assumption) (quiet_op (by rw [hty]; first | rfl | (refine st_ ?_; rfl))) ?_; refine st_ ?_
  refine hu_takeB 4 [4, 12] rfl (by kernel_rfl) (by kernel_rfl) (by kernel_rfl) (by kernel_rfl) (fun c a w v => hQp c a w _ v) (by rw [hnt]; rfl) (allIn (by repeat (first | exact trivial | refine ⟨rfl, ?_⟩))) (by first | exact Le.refl _ | assumption) (quiet_op (by rw [hty]; first | rfl | (refine st_ ?_; rfl))) ?_; refine st_ ?_
  refine hu_take0 5 rfl (by kernel_rfl) (by kernel_rfl) (by kernel_rfl) (by decide) (fun c a w v => hQp c a w _ v) (by rw [hnt]; rfl) (allIn (by repeat (first | exact trivial | refine ⟨rfl, ?_⟩))) (by first | exact Le.refl _ | assumption) (quiet_op (by rw [hty]; first | rfl | (refine st_ ?_; rfl))) ?_; refine st_ ?_
  refine hu_take0 6 rfl (by kernel_rfl) (by kernel_rfl) (by kernel_rfl) (by decide) (fun c a w v => hQp c a w _ v) (by rw [hnt]; rfl) (allIn (by repeat (first | exact trivial | refine ⟨rfl, ?_⟩))) (by first | exact Le.refl _ | assumption) (quiet_op (by rw [hty]; first | rfl | (refine st_ ?_; rfl))) ?_; refine st_ ?_
  refine hu_take0 7 rfl (by kernel_rfl) (by kernel_rfl) (by kernel_rfl) (by decide) (fun c a w v => hQp c a w _ v) (by rw [hnt]; rfl) (allIn (by repeat (first | exact trivial | refine ⟨rfl, ?_⟩))) (by first | exact Le.refl _ | assumption) (quiet_op (by rw [hty]; first | rfl | (refine st_ ?_; rfl))) ?_; refine st_ ?_
  refine hu_takeB 8 [8, 12] rfl (by kernel_rfl) (by kernel_rfl) (by kernel_rfl) (by kernel_rfl) (fun c a w v => hQp c a w _ v) (by rw [hnt]; rfl) (allIn (by repeat (first | exact trivial | refine ⟨rfl, ?_⟩))) (by first | exact Le.refl _ | assumption) (x := .v (.slice ad m.done.length cd)) ((quiet_loadR (k := 0) (by rw [hty]; rfl) rfl (by simp [TK.agg]) rfl (by simp only []; omega)).cast (by exact encF_ld (j := 3) (by omega) (by rw [hcl]; rfl))) ?_
  refine st_ ?_
  refine hu_one 2 rfl (by kernel_rfl) ?_
  refine go_callf (by rw [hnt]; rfl) (by rw [hP]; kernel_rfl) rfl (hP ▸ kindOf_ok nd.op G) ?_; refine rn_ ?_; intros
  refine h_hs (allIn (by repeat (first | exact trivial | refine ⟨rfl, ?_⟩))) (by first | exact Le.refl _ | assumption) ?_
  refine hu_one 9 rfl (by kernel_rfl) ?_
  refine go_call (by rw [hnt]; rfl) (by rw [hP]; kernel_rfl) rfl (hP ▸ make_ok (kOf nd.op) nd.n m.done _ G (rW_repM (kOf_64 _) hn64 hxd) (by omega)) ?_
  rintro v G3 (hle3 : Le G G3) hm
  rcases hm with ⟨hv, a3, c3, rfl, hr⟩ | ⟨hv, rfl⟩
  · refine rn_ ?_; intros
    refine h_hs (allIn (by repeat (first | exact trivial | refine ⟨rfl, ?_⟩))) (by first | exact Le.refl _ | assumption) ?_
    refine hu_take0 10 rfl (by kernel_rfl) (by kernel_rfl) (by kernel_rfl) (by decide) (fun c a w v => hQp c a w _ v) (by rw [hnt]; rfl) (allIn (by repeat (first | exact trivial | refine ⟨rfl, ?_⟩))) (by first | exact Le.refl _ | assumption) (quiet_op (by rw [hty]; first | rfl | (refine st_ ?_; rfl))) ?_; refine st_ ?_
    refine hu_take0 11 rfl (by kernel_rfl) (by kernel_rfl) (by kernel_rfl) (by decide) (fun c a w v => hQp c a w _ v) (by rw [hnt]; rfl) (allIn (by repeat (first | exact trivial | refine ⟨rfl, ?_⟩))) (by first | exact Le.refl _ | assumption) (quiet_op (by rw [hty]; first | rfl | (refine st_ ?_; rfl))) ?_; refine st_ ?_
    refine hu_last 12 [] rfl (by kernel_rfl) rfl ?_
    refine rn_ ?_; intros
    refine h_one 13 rfl (by kernel_rfl) ?_
    refine rn_ ?_; intros
    refine h_hs (allIn (by repeat (first | exact trivial | refine ⟨rfl, ?_⟩))) (by first | exact Le.refl _ | assumption) ?_
    refine h_end (by kernel_rfl) ?_
    refine rn_ ?_; intros
    refine x_retW rfl hQ hmb hmh hG0 hmub rfl rfl (by rw [hty]; simp only [so, sq, zy, zz, tyE, SO', SQ', opQ, opStore, opAlloc, ev, putS, dOk, cv, SV.cs, SV.one, SV.bool?, eqB, Value.oneCell', ldOwn, binInt, binConst, binBool, binStr, isC, TK.agg, rv, rv1, ldV, resOne, resV, Nat.reduceAdd, Nat.reduceMul, Nat.reduceSub, Nat.reduceLT, Nat.reduceLeDiff, Nat.reduceEqDiff, Nat.reduceBEq, reduceIte, reduceCtorEq, eq_self]; try rfl) rfl rfl (by simp only [enumO]; exact (by repeat (first | exact plain_nil | refine plain_cons (fun _ h => h) ?_))) ?_; simp only [SV.den, resV, dens]
    exact ⟨rfl, by rw [if_pos hv]; exact ⟨_, rfl, hr, hts⟩⟩
  · refine rn_ ?_; intros
    refine h_hs (allIn (by repeat (first | exact trivial | refine ⟨rfl, ?_⟩))) (by first | exact Le.refl _ | assumption) ?_
    refine hu_take0 10 rfl (by kernel_rfl) (by kernel_rfl) (by kernel_rfl) (by decide) (fun c a w v => hQp c a w _ v) (by rw [hnt]; rfl) (allIn (by repeat (first | exact trivial | refine ⟨rfl, ?_⟩))) (by first | exact Le.refl _ | assumption) (quiet_op (by rw [hty]; first | rfl | (refine st_ ?_; rfl))) ?_; refine st_ ?_
    refine hu_take0 11 rfl (by kernel_rfl) (by kernel_rfl) (by kernel_rfl) (by decide) (fun c a w v => hQp c a w _ v) (by rw [hnt]; rfl) (allIn (by repeat (first | exact trivial | refine ⟨rfl, ?_⟩))) (by first | exact Le.refl _ | assumption) (quiet_op (by rw [hty]; first | rfl | (refine st_ ?_; rfl))) ?_; refine st_ ?_
    refine hu_last 12 [] rfl (by kernel_rfl) rfl ?_
    refine rn_ ?_; intros
    refine h_one 13 rfl (by kernel_rfl) ?_
    refine rn_ ?_; intros
    refine h_hs (allIn (by repeat (first | exact trivial | refine ⟨rfl, ?_⟩))) (by first | exact Le.refl _ | assumption) ?_
    refine h_end (by kernel_rfl) ?_
    refine rn_ ?_; intros
    refine x_retW rfl hQ hmb hmh hG0 hmub rfl rfl (by rw [hty]; simp only [so, sq, zy, zz, tyE, SO', SQ', opQ, opStore, opAlloc, ev, putS, dOk, cv, SV.cs, SV.one, SV.bool?, eqB, Value.oneCell', ldOwn, binInt, binConst, binBool, binStr, isC, TK.agg, rv, rv1, ldV, resOne, resV, Nat.reduceAdd, Nat.reduceMul, Nat.reduceSub, Nat.reduceLT, Nat.reduceLeDiff, Nat.reduceEqDiff, Nat.reduceBEq, reduceIte, reduceCtorEq, eq_self]; try rfl) rfl rfl (by simp only [enumO]; exact (by repeat (first | exact plain_nil | refine plain_cons (fun _ h => h) ?_))) ?_; simp only [SV.den, resV, dens]
    exact ⟨rfl, by rw [if_neg (by rw [hv]; decide)]; exact ⟨_, _, _, rfl, by decide⟩⟩
end Go.Proofs.Ytpppkednpamhbaa
namespace Go.Proofs.Ytpppkednpamhbaa
set_option linter.unusedSimpArgs false
set_option linter.unusedVariables false
open Go.Sx
set_option maxHeartbeats 16000000
set_option maxRecDepth 20000
theorem lay_end {xs c vs : List Value} {z : List Value} {off : Nat} (ho : off = xs.length) (hv : vs = c) (hz : z.length = c.length := by rfl) : lay (xs ++ z) off vs = some (xs ++ c) := by
  subst ho hv
  have := lay_m xs vs z [] hz
  simpa using this
theorem encF_trunc (x : Fw) (r : List Fw) : (encF (x :: r)).take (r.length * 4) = encF r := by
  simp only [encF]
  rw [← encF_len r, List.take_left]
theorem down_nd {p : Pr} {n : Nat} {x : Fm} {r : List Fm} {o : Int × List Fm} (h : downF p n (x :: r) = some o) : ∃ nd, ndAt p x.fn x.nd = some nd := by
  cases n with
  | zero => cases h
  | succ n =>
    simp only [downF] at h
    cases hnd : ndAt p x.fn x.nd with
    | none => rw [hnd] at h; cases h
    | some nd => exact ⟨nd, rfl⟩
theorem prod_ok (b cb : Nat) (p : Pr) (ps : Value) (s o : Fb) (v : VT) (slv : Value) (ow : Lds) (G : Hp) (hc : At G cb 0 [ps]) (hp : rF.S G p ps) (hfb : fbO G b cb s ow) (hv : v.rep G slv) (htv1 : tsz v ≤ 1000) (ho : prodF p s v = some o) :
    PureT Try.prog 34 [.pointer (some ⟨b, 0, none⟩), .agg #[.int .i64 v.k, .int .i64 v.n, slv]] G ow (fun _ G' ow' => fbO G' b cb o ow') := by
  obtain ⟨vl, fs, b1, b2, b3, rs, Z, hvl, htv, hfs, hl256, hdn, rfl⟩ := hfb
  obtain ⟨a9, c9, rfl⟩ := VT.rep_slice hv
  unfold prodF at ho
  cases hsl : s.l with
  | nil => rw [hsl] at ho; cases ho
  | cons m l =>
  rw [hsl] at ho hfs hl256 hdn
  obtain ⟨x, r, rfl, hx, hr⟩ := hfs
  have hrl := hr.len
  refine enterT ty tyok Try.func34 rfl Try.ntmps34 [.p 0 b 0, .a [.v (.int .i64 v.k), .v (.int .i64 v.n), .v (.slice a9 v.l.length c9)]] (by simp) (by simp) (plainL (by simp only [enumO]; exact (by repeat (first | exact plain_nil | refine plain_cons (fun _ h => h) ?_)))) ?_
  intro C w0 hP hQ hnt hty hmb hmh hro hG0 hb0; have hQp := qp_body hQ; refine st_ ?_
  generalize hrest : restB w0 _ G = Zr
  simp only [enumO, fhO, frO, fzO, fdO, List.cons_append, List.nil_append, List.length_cons, List.drop_succ_cons, List.drop_zero]
  refine go_rowcases 1 rfl (fun _ h _ => by simp at h) ?_
  rintro g cap rfl hcap hlen
  simp only [List.length_cons] at hl256
  refine rn_ ?_; intros
  rename_i b5
  have ew : IntKind.i64.wrap (((r.length + 1 : Nat) : Int) - 1) = (r.length : Int) := by rw [wr (by omega) (by omega)]; omega
  refine x_heldP [(0, b, .c 80 [.v (.pointer (some ⟨cb, 0, none⟩)), .v (.int .i64 s.st), .v (.int .i64 s.val.k), .v (.int .i64 s.val.n), .v vl, .v (.slice (some ⟨g, 0, none⟩) (r.length + 1) cap)])] 14 rfl (by rw [hP]; kernel_rfl) rfl rfl rfl ?_; refine st_ ?_
  refine hu_take0 0 rfl (by kernel_rfl) (by kernel_rfl) (by kernel_rfl) (by decide) (fun c a w v => hQp c a w _ v) (by rw [hnt]; rfl) (allIn (by repeat (first | exact trivial | refine ⟨rfl, ?_⟩))) (by first | exact Le.refl _ | assumption) (quiet_op (by rw [hty]; first | rfl | (refine st_ ?_; rfl))) ?_; refine st_ ?_
  refine hu_take0 1 rfl (by kernel_rfl) (by kernel_rfl) (by kernel_rfl) (by decide) (fun c a w v => hQp c a w _ v) (by rw [hnt]; rfl) (allIn (by repeat (first | exact trivial | refine ⟨rfl, ?_⟩))) (by first | exact Le.refl _ | assumption) (quiet_op (by rw [hty]; first | rfl | (refine st_ ?_; rfl))) ?_; refine st_ ?_
  refine hu_take0 2 rfl (by kernel_rfl) (by kernel_rfl) (by kernel_rfl) (by decide) (fun c a w v => hQp c a w _ v) (by rw [hnt]; rfl) (allIn (by repeat (first | exact trivial | refine ⟨rfl, ?_⟩))) (by first | exact Le.refl _ | assumption) (quiet_op (by rw [hty]; first | rfl | (refine st_ ?_; rfl))) ?_; refine st_ ?_
  refine hu_take0 3 rfl (by kernel_rfl) (by kernel_rfl) (by kernel_rfl) (by decide) (fun c a w v => hQp c a w _ v) (by rw [hnt]; rfl) (allIn (by repeat (first | exact trivial | refine ⟨rfl, ?_⟩))) (by first | exact Le.refl _ | assumption) (quiet_op (by rw [hty]; first | rfl | (refine st_ ?_; rfl))) ?_; refine st_ ?_
  refine hu_takeB 4 [4, 14] rfl (by kernel_rfl) (by kernel_rfl) (by kernel_rfl) (by kernel_rfl) (fun c a w v => hQp c a w _ v) (by rw [hnt]; rfl) (allIn (by repeat (first | exact trivial | refine ⟨rfl, ?_⟩))) (by first | exact Le.refl _ | assumption) (quiet_op (by rw [hty]; first | rfl | (refine st_ ?_; rfl))) ?_; refine st_ ?_
  refine hu_take0 5 rfl (by kernel_rfl) (by kernel_rfl) (by kernel_rfl) (by decide) (fun c a w v => hQp c a w _ v) (by rw [hnt]; rfl) (allIn (by repeat (first | exact trivial | refine ⟨rfl, ?_⟩))) (by first | exact Le.refl _ | assumption) (quiet_op (by rw [hty]; first | rfl | (refine st_ ?_; rfl))) ?_; refine st_ ?_
  refine hu_take0 6 rfl (by kernel_rfl) (by kernel_rfl) (by kernel_rfl) (by decide) (fun c a w v => hQp c a w _ v) (by rw [hnt]; rfl) (allIn (by repeat (first | exact trivial | refine ⟨rfl, ?_⟩))) (by first | exact Le.refl _ | assumption) (quiet_op (by rw [hty]; first | rfl | (refine st_ ?_; rfl))) ?_; refine st_ ?_
  refine hu_take0 7 rfl (by kernel_rfl) (by kernel_rfl) (by kernel_rfl) (by decide) (fun c a w v => hQp c a w _ v) (by rw [hnt]; rfl) (allIn (by repeat (first | exact trivial | refine ⟨rfl, ?_⟩))) (by first | exact Le.refl _ | assumption) (quiet_op (by rw [hty]; first | rfl | (refine st_ ?_; rfl))) ?_; refine st_ ?_
  refine hu_takeB 8 [8, 14] rfl (by kernel_rfl) (by kernel_rfl) (by kernel_rfl) (by kernel_rfl) (fun c a w v => hQp c a w _ v) (by rw [hnt]; rfl) (allIn (by repeat (first | exact trivial | refine ⟨rfl, ?_⟩))) (by first | exact Le.refl _ | assumption) (quiet_op (by rw [hty]; first | rfl | (refine st_ ?_; rfl))) ?_; refine st_ ?_
  refine hu_take0 9 rfl (by kernel_rfl) (by kernel_rfl) (by kernel_rfl) (by decide) (fun c a w v => hQp c a w _ v) (by rw [hnt]; rfl) (allIn (by repeat (first | exact trivial | refine ⟨rfl, ?_⟩))) (by first | exact Le.refl _ | assumption) (quiet_op (by rw [hty]; first | rfl | (refine st_ ?_; rfl))) ?_; refine st_ ?_
  refine hu_take0 10 rfl (by kernel_rfl) (by kernel_rfl) (by kernel_rfl) (by decide) (fun c a w v => hQp c a w _ v) (by rw [hnt]; rfl) (allIn (by repeat (first | exact trivial | refine ⟨rfl, ?_⟩))) (by first | exact Le.refl _ | assumption) (quiet_op (by rw [hty]; first | rfl | (refine st_ ?_; rfl))) ?_; refine st_ ?_
  simp only [ew]
  refine hu_takeB 11 [11, 14] rfl (by kernel_rfl) (by kernel_rfl) (by kernel_rfl) (by kernel_rfl) (fun c a w v => hQp c a w _ v) (by rw [hnt]; rfl) (allIn (by repeat (first | exact trivial | refine ⟨rfl, ?_⟩))) (by first | exact Le.refl _ | assumption) (x := .v (.slice (some ⟨g, 0, none⟩) r.length cap)) ((quiet_sliceHi (by rw [hty]; rfl) (by rw [hty]; rfl) rfl rfl rfl (by omega) (by omega)).cast (by simp [SV.den, Sx.sliced, Addr.add])) ?_
  refine st_ ?_
  refine hu_take0 12 rfl (by kernel_rfl) (by kernel_rfl) (by kernel_rfl) (by decide) (fun c a w v => hQp c a w _ v) (by rw [hnt]; rfl) (allIn (by repeat (first | exact trivial | refine ⟨rfl, ?_⟩))) (by first | exact Le.refl _ | assumption) (quiet_op (by rw [hty]; first | rfl | (refine st_ ?_; rfl))) ?_; refine st_ ?_
  refine hu_take0 13 rfl (by kernel_rfl) (by kernel_rfl) (by kernel_rfl) (by decide) (fun c a w v => hQp c a w _ v) (by rw [hnt]; rfl) (allIn (by repeat (first | exact trivial | refine ⟨rfl, ?_⟩))) (by first | exact Le.refl _ | assumption) (quiet_op (by rw [hty]; first | rfl | (refine st_ ?_; rfl))) ?_; refine st_ ?_
  refine hu_last 14 [] rfl (by kernel_rfl) rfl ?_
  refine rn_ ?_; intros
  refine h_end (by kernel_rfl) ?_
  refine go_trunc 1 r.length (by omega) rfl ?_
  refine st_ ?_
  rw [encF_trunc]
  refine rn_ ?_; intros
  refine x_split rfl rfl rfl (fun h0 => ?_) (fun h0 => ?_) <;> (refine st_ ?_; (refine ru_ ?_; intros))
  · have hl0 : l = [] := List.eq_nil_of_length_eq_zero (by rw [← hrl]; simpa using h0)
    subst hl0
    injection ho with ho
    subst ho
    refine rn_ ?_; intros
    refine x_heldP [(1000, b5, .c 43 [.v (.int .i64 v.k), .v (.int .i64 v.n), .v (.slice a9 v.l.length c9)])] 9 rfl (by rw [hP]; kernel_rfl) rfl rfl rfl ?_; refine st_ ?_
    refine hu_take0 0 rfl (by kernel_rfl) (by kernel_rfl) (by kernel_rfl) (by decide) (fun c a w v => hQp c a w _ v) (by rw [hnt]; rfl) (allIn (by repeat (first | exact trivial | refine ⟨rfl, ?_⟩))) (by first | exact Le.refl _ | assumption) (quiet_op (by rw [hty]; first | rfl | (refine st_ ?_; rfl))) ?_; refine st_ ?_
    refine hu_take0 1 rfl (by kernel_rfl) (by kernel_rfl) (by kernel_rfl) (by decide) (fun c a w v => hQp c a w _ v) (by rw [hnt]; rfl) (allIn (by repeat (first | exact trivial | refine ⟨rfl, ?_⟩))) (by first | exact Le.refl _ | assumption) (quiet_op (by rw [hty]; first | rfl | (refine st_ ?_; rfl))) ?_; refine st_ ?_
    refine hu_take0 2 rfl (by kernel_rfl) (by kernel_rfl) (by kernel_rfl) (by decide) (fun c a w v => hQp c a w _ v) (by rw [hnt]; rfl) (allIn (by repeat (first | exact trivial | refine ⟨rfl, ?_⟩))) (by first | exact Le.refl _ | assumption) (quiet_op (by rw [hty]; first | rfl | (refine st_ ?_; rfl))) ?_; refine st_ ?_
    refine hu_takeB 3 [3, 9] rfl (by kernel_rfl) (by kernel_rfl) (by kernel_rfl) (by kernel_rfl) (fun c a w v => hQp c a w _ v) (by rw [hnt]; rfl) (allIn (by repeat (first | exact trivial | refine ⟨rfl, ?_⟩))) (by first | exact Le.refl _ | assumption) (quiet_op (by rw [hty]; first | rfl | (refine st_ ?_; rfl))) ?_; refine st_ ?_
    refine hu_take0 4 rfl (by kernel_rfl) (by kernel_rfl) (by kernel_rfl) (by decide) (fun c a w v => hQp c a w _ v) (by rw [hnt]; rfl) (allIn (by repeat (first | exact trivial | refine ⟨rfl, ?_⟩))) (by first | exact Le.refl _ | assumption) (quiet_op (by rw [hty]; first | rfl | (refine st_ ?_; rfl))) ?_; refine st_ ?_
    refine hu_take0 5 rfl (by kernel_rfl) (by kernel_rfl) (by kernel_rfl) (by decide) (fun c a w v => hQp c a w _ v) (by rw [hnt]; rfl) (allIn (by repeat (first | exact trivial | refine ⟨rfl, ?_⟩))) (by first | exact Le.refl _ | assumption) (quiet_op (by rw [hty]; first | rfl | (refine st_ ?_; rfl))) ?_; refine st_ ?_
    refine hu_one 6 rfl (by kernel_rfl) ?_
    refine rn_ ?_; intros
    refine h_hs (allIn (by repeat (first | exact trivial | refine ⟨rfl, ?_⟩))) (by first | exact Le.refl _ | assumption) ?_
    refine hu_take0 7 rfl (by kernel_rfl) (by kernel_rfl) (by kernel_rfl) (by decide) (fun c a w v => hQp c a w _ v) (by rw [hnt]; rfl) (allIn (by repeat (first | exact trivial | refine ⟨rfl, ?_⟩))) (by first | exact Le.refl _ | assumption) (quiet_op (by rw [hty]; first | rfl | (refine st_ ?_; rfl))) ?_; refine st_ ?_
    refine hu_take0 8 rfl (by kernel_rfl) (by kernel_rfl) (by kernel_rfl) (by decide) (fun c a w v => hQp c a w _ v) (by rw [hnt]; rfl) (allIn (by repeat (first | exact trivial | refine ⟨rfl, ?_⟩))) (by first | exact Le.refl _ | assumption) (quiet_op (by rw [hty]; first | rfl | (refine st_ ?_; rfl))) ?_; refine st_ ?_
    refine hu_last 9 [] rfl (by kernel_rfl) rfl ?_
    refine rn_ ?_; intros
    refine h_one 10 rfl (by kernel_rfl) ?_
    refine rn_ ?_; intros
    refine h_hs (allIn (by repeat (first | exact trivial | refine ⟨rfl, ?_⟩))) (by first | exact Le.refl _ | assumption) ?_
    refine h_one 11 rfl (by kernel_rfl) ?_
    refine rn_ ?_; intros
    refine h_hs (allIn (by repeat (first | exact trivial | refine ⟨rfl, ?_⟩))) (by first | exact Le.refl _ | assumption) ?_
    refine h_one 12 rfl (by kernel_rfl) ?_
    refine rn_ ?_; intros
    refine h_hs (allIn (by repeat (first | exact trivial | refine ⟨rfl, ?_⟩))) (by first | exact Le.refl _ | assumption) ?_
    refine h_end (by kernel_rfl) ?_
    refine rn_ ?_; intros
    refine go_rownil 1 rfl ?_
    refine go_znull 2 rfl ?_
    intro Z5
    refine st_ ?_
    refine x_ret0T rfl hQ hmh hb0 rfl (by simp) rfl rfl (by rw [hrest]; rfl) (by first | exact Le.refl _ | assumption | exact (Le.refl _)) rfl (by simp only [enumO]; exact (by repeat (first | exact plain_nil | refine plain_cons (fun _ h => h) ?_))) ?_
    intro _
    exact ⟨_, .slice none 0 0, b1, b2, b3, [], Z5, hv, htv1, rfl, by simp, fun _ _ h => by simp at h, rfl⟩
  · cases l with
    | nil => exact absurd h0 (by simp at hrl; simp [hrl])
    | cons y l =>
    simp only [] at ho
    split at ho
    rotate_left
    · cases ho
    rename_i hyl
    obtain ⟨o1, ho1, rfl⟩ := Option.map_eq_some_iff.1 ho
    obtain ⟨nd, hnd⟩ := down_nd ho1
    simp only [] at hnd
    obtain ⟨yx, r2, rfl, hy, hr2⟩ := hr
    have hrl2 := hr2.len
    obtain ⟨yfn, ynd, yvars, ye, ysz, ydv, yn, yxs⟩ := yx
    obtain ⟨x1, x2, x3, x4, x5, x6, x7⟩ := hy
    obtain ⟨d1, d2, d3, d4, d5, ad, cd, d6, d7⟩ := x7
    simp only at x1 x2 x5 x6 d1 d2 d3 d4 d5 d6
    subst x1 x2 d1 d2 d3 d6
    obtain ⟨av, cv', rfl⟩ := Rp.S_slice x6
    have hyx := Rp.L_len d4
    simp only [rW] at hyx
    have hlen2 := encF_len (⟨y.fn, y.nd, .slice av y.vars.length cv', ⟨43, 3, .slice ad y.done.length cd, y.done.length, yxs⟩⟩ :: r2)
    simp only [List.length_cons] at hlen2
    simp only [List.map_cons]
    refine go_zpop 2 3 rfl rfl (by decide) (.inl ⟨by rw [hmh]; omega, by rw [hmh]; omega⟩) ?_
    intro Z3
    refine st_ ?_
    refine go_callW [0, 1] (by rw [hnt]; rfl) (by rw [hP]; kernel_rfl) rfl rfl rfl (.inl (by rw [hmh]; simp)) (by rw [hP]; exact last_ok b cb b1 s.st s.val.k s.val.n vl _ ps p y l (⟨y.fn, y.nd, .slice av y.vars.length cv', ⟨43, 3, .slice ad y.done.length cd, y.done.length, yxs⟩⟩ :: r2) nd G hc hp ⟨_, _, rfl, ⟨rfl, rfl, x3, x4, x5, x6, ⟨rfl, rfl, rfl, d4, d5, _, _, rfl, d7⟩⟩, hr2⟩ hnd (by simp at hl256; omega)) ?_
    rintro v5 G2 ow5 (hle2 : Le G G2) ⟨rfl, g', cap', sl', e1, rfl, hsl'⟩
    injection e1 with q1 q2 q3
    injection q1 with q1
    injection q1 with q4 q5 q6
    subst q4 q3
    obtain ⟨asl, csl, rfl⟩ := Rp.S_slice hsl'
    have hc2 := hc.mono hle2
    have hp2 := Rp.S_mono hle2 hp
    simp only [setO, stk, fhO, frO, List.length_cons]
    refine rn_ ?_; intros
    refine x_heldP [(1, b1, .row (.slice (some ⟨g, 0, none⟩) (r2.length + 1) cap) 77 4 (r2.length + 1) (encF (⟨y.fn, y.nd, .slice av y.vars.length cv', ⟨43, 3, .slice ad y.done.length cd, y.done.length, yxs⟩⟩ :: r2))), (1000, b5, .c 43 [.v (.int .i64 v.k), .v (.int .i64 v.n), .v (.slice a9 v.l.length c9)])] 7 rfl (by rw [hP]; kernel_rfl) rfl rfl rfl ?_; refine st_ ?_
    refine hu_take0 0 rfl (by kernel_rfl) (by kernel_rfl) (by kernel_rfl) (by decide) (fun c a w v => hQp c a w _ v) (by rw [hnt]; rfl) (allIn (by repeat (first | exact trivial | refine ⟨rfl, ?_⟩))) (by first | exact Le.refl _ | assumption) (quiet_op (by rw [hty]; first | rfl | (refine st_ ?_; rfl))) ?_; refine st_ ?_
    refine hu_take0 1 rfl (by kernel_rfl) (by kernel_rfl) (by kernel_rfl) (by decide) (fun c a w v => hQp c a w _ v) (by rw [hnt]; rfl) (allIn (by repeat (first | exact trivial | refine ⟨rfl, ?_⟩))) (by first | exact Le.refl _ | assumption) (quiet_op (by rw [hty]; first | rfl | (refine st_ ?_; rfl))) ?_; refine st_ ?_
    refine hu_take0 2 rfl (by kernel_rfl) (by kernel_rfl) (by kernel_rfl) (by decide) (fun c a w v => hQp c a w _ v) (by rw [hnt]; rfl) (allIn (by repeat (first | exact trivial | refine ⟨rfl, ?_⟩))) (by first | exact Le.refl _ | assumption) (quiet_op (by rw [hty]; first | rfl | (refine st_ ?_; rfl))) ?_; refine st_ ?_
    refine hu_takeB 3 [3, 7] rfl (by kernel_rfl) (by kernel_rfl) (by kernel_rfl) (by kernel_rfl) (fun c a w v => hQp c a w _ v) (by rw [hnt]; rfl) (allIn (by repeat (first | exact trivial | refine ⟨rfl, ?_⟩))) (by first | exact Le.refl _ | assumption) (x := .v (.slice ad y.done.length cd)) ((quiet_loadR (k := 1) (by rw [hty]; rfl) rfl (by simp [TK.agg]) rfl (by simp only []; omega)).cast (by exact encF_ld (j := 3) (by omega) rfl)) ?_
    refine st_ ?_
    refine hu_takeB 4 [4, 7] rfl (by kernel_rfl) (by kernel_rfl) (by kernel_rfl) (by kernel_rfl) (fun c a w v => hQp c a w _ v) (by rw [hnt]; rfl) (allIn (by repeat (first | exact trivial | refine ⟨rfl, ?_⟩))) (by first | exact Le.refl _ | assumption) (quiet_op (by rw [hty]; first | rfl | (refine st_ ?_; rfl))) ?_; refine st_ ?_
    refine hu_take0 5 rfl (by kernel_rfl) (by kernel_rfl) (by kernel_rfl) (by decide) (fun c a w v => hQp c a w _ v) (by rw [hnt]; rfl) (allIn (by repeat (first | exact trivial | refine ⟨rfl, ?_⟩))) (by first | exact Le.refl _ | assumption) (quiet_op (by rw [hty]; first | rfl | (refine st_ ?_; rfl))) ?_; refine st_ ?_
    refine hu_one 6 rfl (by kernel_rfl) ?_
    refine rn_ ?_; intros
    refine h_hs (allIn (by repeat (first | exact trivial | refine ⟨rfl, ?_⟩))) (by first | exact Le.refl _ | assumption) ?_
    refine hu_last 7 [] rfl (by kernel_rfl) rfl ?_
    refine go_appendL 3 (by rw [hnt]; rfl) (by rw [hty]; rfl) (by rw [hty]; rfl) (by decide) rfl rfl rfl rfl (src_own 3 rfl rfl) rfl (by simp [dens, SV.den, Value.oneCell']) (by omega) (by simp only []; omega) ?_
    intro v6
    refine go_rowcases 3 rfl (fun _ h _ => by omega) ?_
    rintro g3 cap3 rfl hcap3 hlen3
    refine rn_ ?_; intros
    have hrv2 := VT.rep_mono hle2 hv
    have hfs3 : fsOk G2 (⟨y.fn, y.nd, y.vars, y.done ++ [v]⟩ :: l) (⟨y.fn, y.nd, .slice av y.vars.length cv', ⟨43, 3, .slice (some ⟨g3, 0, none⟩) (y.done.length + 1) cap3, y.done.length + 1, yxs ++ [.int .i64 v.k, .int .i64 v.n, .slice a9 v.l.length c9]⟩⟩ :: r2) :=
      ⟨_, _, rfl, ⟨rfl, rfl, x3, x4, x5, Rp.S_mono hle2 x6, ⟨rfl, rfl, by simp, Rp.L_append (Rp.L_mono hle2 d4) (Rp.L_single ⟨_, rfl, hrv2, htv1⟩), by simp; omega, some ⟨g3, 0, none⟩, cap3, by simp, by simp; omega⟩⟩, hr2.mono hle2⟩
    refine h_take 8 rfl (by kernel_rfl) (by kernel_rfl) (by kernel_rfl) hQp (by rw [hnt]; rfl) (allIn (by repeat (first | exact trivial | refine ⟨rfl, ?_⟩))) (by first | exact Le.refl _ | assumption) (x := .v (.pointer (some ⟨g3, y.done.length * 3, none⟩))) ((quiet_index (by rw [hty]; rfl) (by rw [hty]; rfl) rfl rfl rfl (by omega) (by omega)).cast (by simp [SV.den])) ?_
    refine st_ ?_
    refine h_take 10 rfl (by kernel_rfl) (by kernel_rfl) (by kernel_rfl) hQp (by rw [hnt]; rfl) (allIn (by repeat (first | exact trivial | refine ⟨rfl, ?_⟩))) (by first | exact Le.refl _ | assumption) (quiet_op (by rw [hty]; first | rfl | (refine st_ ?_; rfl))) ?_; refine st_ ?_
    refine h_take 11 rfl (by kernel_rfl) (by kernel_rfl) (by kernel_rfl) hQp (by rw [hnt]; rfl) (allIn (by repeat (first | exact trivial | refine ⟨rfl, ?_⟩))) (by first | exact Le.refl _ | assumption) (quiet_op (by rw [hty]; first | rfl | (refine st_ ?_; rfl))) ?_; refine st_ ?_
    refine h_two 9 12 rfl rfl (by kernel_rfl) ?_ ?_
    · refine rn_ ?_; intros
      refine go_storeR (k := 3) (xs' := yxs ++ [.int .i64 v.k, .int .i64 v.n, .slice a9 v.l.length c9]) (by rw [hnt]; rfl) (by rw [hty]; rfl) rfl rfl rfl rfl rfl rfl (lay_end (by omega) rfl) ?_
      refine rn_ ?_; intros
      refine h_hs (allIn (by repeat (first | exact trivial | refine ⟨rfl, ?_⟩))) (by first | exact Le.refl _ | assumption) ?_
      refine h_one 12 rfl (by kernel_rfl) ?_
      refine go_storeR (k := 1) (xs' := encF (⟨y.fn, y.nd, .slice av y.vars.length cv', ⟨43, 3, .slice (some ⟨g3, 0, none⟩) (y.done.length + 1) cap3, y.done.length + 1, yxs ++ [.int .i64 v.k, .int .i64 v.n, .slice a9 v.l.length c9]⟩⟩ :: r2)) (by rw [hnt]; rfl) (by rw [hty]; rfl) rfl rfl rfl rfl rfl rfl (encF_lay (j := 3) (us := [.slice (some ⟨g3, 0, none⟩) (y.done.length + 1) cap3]) (by omega) rfl rfl) ?_
      refine rn_ ?_; intros
      refine h_hs (allIn (by repeat (first | exact trivial | refine ⟨rfl, ?_⟩))) (by first | exact Le.refl _ | assumption) ?_
      refine h_end (by kernel_rfl) ?_
      refine rn_ ?_; intros
      refine go_callT [0, 1, 2, 3] (by rw [hnt]; rfl) (by rw [hP]; kernel_rfl) rfl rfl rfl (by rw [hmh]; simp) (by rw [hP]; exact desc_ok b cb p ps ⟨s.st, s.val, ⟨y.fn, y.nd, y.vars, y.done ++ [v]⟩ :: l⟩ 600 o1 _ G2 hc2 hp2 ⟨vl, _, b1, b2, b3, ⟨y.fn, y.nd, .slice av y.vars.length cv', ⟨43, 3, .slice (some ⟨g3, 0, none⟩) (y.done.length + 1) cap3, y.done.length + 1, yxs ++ [.int .i64 v.k, .int .i64 v.n, .slice a9 v.l.length c9]⟩⟩ :: r2, Z3, VT.rep_mono hle2 hvl, htv, hfs3, by simp at hl256 ⊢; omega, rfl⟩ ho1) ?_
      rintro v6 G6 ow6 (hle6 : Le G2 G6) ⟨vl6, fs6, c1, c2, c3, rs6, Z6, w1, w2, w3, w4, w5, rfl⟩
      simp only [setO, stk, fhO, frO, fzO, fdO]
      refine rn_ ?_; intros
      have hleA := hle2.trans hle6
      refine x_endT hQ hmh hb0 rfl (by simp) rfl rfl (by rw [hrest]; rfl) (by first | exact Le.refl _ | assumption | exact hleA) rfl (by simp only [enumO]; exact (by repeat (first | exact plain_nil | refine plain_cons (fun _ h => h) ?_))) ?_
      intro _
      exact ⟨vl6, fs6, c1, c2, c3, rs6, Z6, w1, w2, w3, w4, w5, rfl⟩
    · refine rn_ ?_; intros
      refine go_storeR (k := 1) (xs' := encF (⟨y.fn, y.nd, .slice av y.vars.length cv', ⟨43, 3, .slice (some ⟨g3, 0, none⟩) (y.done.length + 1) cap3, y.done.length + 1, yxs ++ [.int .i64 v.k, .int .i64 v.n, .slice a9 v.l.length c9]⟩⟩ :: r2)) (by rw [hnt]; rfl) (by rw [hty]; rfl) rfl rfl rfl rfl rfl rfl (encF_lay (j := 3) (us := [.slice (some ⟨g3, 0, none⟩) (y.done.length + 1) cap3]) (by omega) rfl rfl) ?_
      refine rn_ ?_; intros
      refine h_hs (allIn (by repeat (first | exact trivial | refine ⟨rfl, ?_⟩))) (by first | exact Le.refl _ | assumption) ?_
      refine h_one 9 rfl (by kernel_rfl) ?_
      refine go_storeR (k := 3) (xs' := yxs ++ [.int .i64 v.k, .int .i64 v.n, .slice a9 v.l.length c9]) (by rw [hnt]; rfl) (by rw [hty]; rfl) rfl rfl rfl rfl rfl rfl (lay_end (by omega) rfl) ?_
      refine rn_ ?_; intros
      refine h_hs (allIn (by repeat (first | exact trivial | refine ⟨rfl, ?_⟩))) (by first | exact Le.refl _ | assumption) ?_
      refine h_end (by kernel_rfl) ?_
      refine rn_ ?_; intros
      refine go_callT [0, 1, 2, 3] (by rw [hnt]; rfl) (by rw [hP]; kernel_rfl) rfl rfl rfl (by rw [hmh]; simp) (by rw [hP]; exact desc_ok b cb p ps ⟨s.st, s.val, ⟨y.fn, y.nd, y.vars, y.done ++ [v]⟩ :: l⟩ 600 o1 _ G2 hc2 hp2 ⟨vl, _, b1, b2, b3, ⟨y.fn, y.nd, .slice av y.vars.length cv', ⟨43, 3, .slice (some ⟨g3, 0, none⟩) (y.done.length + 1) cap3, y.done.length + 1, yxs ++ [.int .i64 v.k, .int .i64 v.n, .slice a9 v.l.length c9]⟩⟩ :: r2, Z3, VT.rep_mono hle2 hvl, htv, hfs3, by simp at hl256 ⊢; omega, rfl⟩ ho1) ?_
      rintro v6 G6 ow6 (hle6 : Le G2 G6) ⟨vl6, fs6, c1, c2, c3, rs6, Z6, w1, w2, w3, w4, w5, rfl⟩
      simp only [setO, stk, fhO, frO, fzO, fdO]
      refine rn_ ?_; intros
      have hleA := hle2.trans hle6
      refine x_endT hQ hmh hb0 rfl (by simp) rfl rfl (by rw [hrest]; rfl) (by first | exact Le.refl _ | assumption | exact hleA) rfl (by simp only [enumO]; exact (by repeat (first | exact plain_nil | refine plain_cons (fun _ h => h) ?_))) ?_
      intro _
      exact ⟨vl6, fs6, c1, c2, c3, rs6, Z6, w1, w2, w3, w4, w5, rfl⟩
end Go.Proofs.Ytpppkednpamhbaa
namespace Go.Proofs.Ytpppkednpamhbaa
set_option linter.unusedSimpArgs false
set_option linter.unusedVariables false
open Go.Sx
set_option maxHeartbeats 16000000
set_option maxRecDepth 20000
theorem step_ok (b cb : Nat) (p : Pr) (ps : Value) (s o : Fb) (e : Int) (ow : Lds) (G : Hp) (hc : At G cb 0 [ps]) (hp : rF.S G p ps) (hfb : fbO G b cb s ow) (h : stepP p s = some (e, o)) :
    PureT Try.prog 11 [.pointer (some ⟨b, 0, none⟩)] G ow (fun v G' ow' => v = .int .i64 e ∧ fbO G' b cb o ow') := by
  obtain ⟨vl, fs, b1, b2, b3, rs, Z, hvl, htv, hfs, hl256, hdn, rfl⟩ := hfb
  unfold stepP at h
  refine enterT ty tyok Try.func11 rfl Try.ntmps11 [.p 0 b 0] (by simp) (by simp) (plainL (by simp only [enumO]; exact (by repeat (first | exact plain_nil | refine plain_cons (fun _ h => h) ?_)))) ?_
  intro C w0 hP hQ hnt hty hmb hmh hro hG0 hb0; have hQp := qp_body hQ; refine st_ ?_
  generalize hrest : restB w0 _ G = Zr
  simp only [enumO, frO, fzO, fdO, List.cons_append, List.nil_append]
  refine rn_ ?_; intros
  refine go_callW [0] (by rw [hnt]; rfl) (by rw [hP]; kernel_rfl) rfl rfl rfl (.inl (by rw [hmh]; simp)) (by rw [hP]; exact miss_ok b cb s.st s.val.k s.val.n vl fs G) ?_
  rintro v5 G1 ow5 (hle1 : Le G G1) ⟨rfl, rfl⟩
  simp only [setO, stk, fhO]
  refine rn_ ?_; intros
  (refine x_split rfl rfl rfl (fun hc => absurd hc (by first | decide +kernel | (simp; first | done | fail))) (fun _ => ?_); refine st_ ?_; (refine ru_ ?_; intros))
  refine rn_ ?_; intros
  refine x_split rfl rfl rfl (fun h1 => ?_) (fun h1 => ?_) <;> (refine st_ ?_; (refine ru_ ?_; intros))
  · have h1 : s.st ≠ 1 := by simpa using h1
    rw [if_pos h1] at h
    cases h
    refine rn_ ?_; intros
    refine x_retT rfl hQ hmh hb0 rfl (by simp) rfl (by rw [hty]; simp only [so, sq, zy, zz, tyE, SO', SQ', opQ, opStore, opAlloc, ev, putS, dOk, cv, SV.cs, SV.one, SV.bool?, eqB, Value.oneCell', ldOwn, binInt, binConst, binBool, binStr, isC, TK.agg, rv, rv1, ldV, resOne, resV, Nat.reduceAdd, Nat.reduceMul, Nat.reduceSub, Nat.reduceLT, Nat.reduceLeDiff, Nat.reduceEqDiff, Nat.reduceBEq, reduceIte, reduceCtorEq, eq_self]; try rfl) rfl (by rw [hrest]; rfl) (by first | exact Le.refl _ | assumption) rfl (by simp only [enumO]; exact (by repeat (first | exact plain_nil | refine plain_cons (fun _ h => h) ?_))) ?_; simp only [SV.den, resV, dens]
    exact ⟨by first | rfl | trivial, vl, fs, b1, b2, b3, rs, Z, VT.rep_mono hle1 hvl, htv, hfs.mono hle1, hl256, fun m x q q' => Rp.S_mono hle1 (hdn m x q q'), rfl⟩
  have h1 : ¬ s.st ≠ 1 := by simpa using h1
  rw [if_neg h1] at h
  cases hsl : s.l with
  | nil => rw [hsl] at h; cases h
  | cons m l =>
  rw [hsl] at h hfs hl256 hdn
  simp only [] at h
  cases hnd : ndAt p m.fn m.nd with
  | none => rw [hnd] at h; cases h
  | some nd =>
  rw [hnd] at h
  simp only [] at h
  have hc1 := hc.mono hle1
  have hp1 := Rp.S_mono hle1 hp
  refine rn_ ?_; intros
  refine go_callW [0, 1] (by rw [hnt]; rfl) (by rw [hP]; kernel_rfl) rfl rfl rfl (.inl (by rw [hmh]; simp)) (by rw [hP]; exact last_ok b cb b1 s.st s.val.k s.val.n vl fs ps p m l rs nd G1 hc1 hp1 (hfs.mono hle1) hnd (by simp at hl256; omega)) ?_
  rintro v G2 ow2 (hle2 : Le G1 G2) ⟨rfl, g, cap, sl, rfl, rfl, hrI⟩
  obtain ⟨asl, csl, rfl⟩ := Rp.S_slice hrI
  have hrI := Rp.S_mono hle2 hrI
  have hle12 := hle1.trans hle2
  have hc2 := hc.mono hle12
  have hp2 := Rp.S_mono hle12 hp
  have hfs := hfs.mono hle12
  obtain ⟨x, r, rfl, hx, hr⟩ := hfs
  have hds := Rp.S_mono hle12 (hdn m x rfl rfl)
  obtain ⟨xfn, xnd, xvars, xe, xsz, xdv, xn, xxs⟩ := x
  obtain ⟨x1, x2, x3, x4, x5, x6, x7⟩ := hx
  obtain ⟨d1, d2, d3, d4, d5, ad, cd, d6, d7⟩ := x7
  simp only at x1 x2 x5 x6 d1 d2 d3 d4 d5 d6 hds
  subst x1 x2 d1 d2 d3 d6
  obtain ⟨av, cv', rfl⟩ := Rp.S_slice x6
  have hlen := encF_len (⟨m.fn, m.nd, .slice av m.vars.length cv', ⟨43, 3, .slice ad m.done.length cd, m.done.length, xxs⟩⟩ :: r)
  simp only [List.length_cons] at hlen hl256
  have hrl := hr.len
  obtain ⟨_, _, _, _, _, _, _, _, _, _, _, _, _, _, _, _, hop64, hn64, _⟩ := nd_at hp hnd
  simp only [setO, stk, frO, fhO, List.length_cons, List.drop_succ_cons, List.drop_zero]
  refine rn_ ?_; intros
  rename_i b4
  refine x_split rfl rfl rfl (fun h2 => ?_) (fun h2 => ?_) <;> (refine st_ ?_; (refine ru_ ?_; intros))
  · have h2 : nd.op = 13 := by simpa using h2
    rw [if_pos h2] at h
    obtain ⟨o2, ho2, heq⟩ := Option.map_eq_some_iff.1 h
    cases heq
    obtain ⟨o1, ho1, rfl⟩ := Option.map_eq_some_iff.1 ho2
    refine rn_ ?_; intros
    refine x_heldP [(1, b1, .row (.slice (some ⟨g, 0, none⟩) (r.length + 1) cap) 77 4 (r.length + 1) (encF (⟨m.fn, m.nd, .slice av m.vars.length cv', ⟨43, 3, .slice ad m.done.length cd, m.done.length, xxs⟩⟩ :: r))), (1000, b4, .c 26 [.v (.int .i64 nd.op), .v (.int .i64 nd.n), .v (.slice asl nd.l.length csl)])] 9 rfl (by rw [hP]; kernel_rfl) rfl rfl rfl ?_; refine st_ ?_
    refine hu_take0 0 rfl (by kernel_rfl) (by kernel_rfl) (by kernel_rfl) (by decide) (fun c a w v => hQp c a w _ v) (by rw [hnt]; rfl) (allIn (by repeat (first | exact trivial | refine ⟨rfl, ?_⟩))) (by first | exact Le.refl _ | assumption) (quiet_op (by rw [hty]; first | rfl | (refine st_ ?_; rfl))) ?_; refine st_ ?_
    refine hu_take0 1 rfl (by kernel_rfl) (by kernel_rfl) (by kernel_rfl) (by decide) (fun c a w v => hQp c a w _ v) (by rw [hnt]; rfl) (allIn (by repeat (first | exact trivial | refine ⟨rfl, ?_⟩))) (by first | exact Le.refl _ | assumption) (quiet_op (by rw [hty]; first | rfl | (refine st_ ?_; rfl))) ?_; refine st_ ?_
    refine hu_takeB 2 [2, 9] rfl (by kernel_rfl) (by kernel_rfl) (by kernel_rfl) (by kernel_rfl) (fun c a w v => hQp c a w _ v) (by rw [hnt]; rfl) (allIn (by repeat (first | exact trivial | refine ⟨rfl, ?_⟩))) (by first | exact Le.refl _ | assumption) (quiet_op (by rw [hty]; first | rfl | (refine st_ ?_; rfl))) ?_; refine st_ ?_
    refine hu_take0 3 rfl (by kernel_rfl) (by kernel_rfl) (by kernel_rfl) (by decide) (fun c a w v => hQp c a w _ v) (by rw [hnt]; rfl) (allIn (by repeat (first | exact trivial | refine ⟨rfl, ?_⟩))) (by first | exact Le.refl _ | assumption) (quiet_op (by rw [hty]; first | rfl | (refine st_ ?_; rfl))) ?_; refine st_ ?_
    refine hu_take0 4 rfl (by kernel_rfl) (by kernel_rfl) (by kernel_rfl) (by decide) (fun c a w v => hQp c a w _ v) (by rw [hnt]; rfl) (allIn (by repeat (first | exact trivial | refine ⟨rfl, ?_⟩))) (by first | exact Le.refl _ | assumption) (quiet_op (by rw [hty]; first | rfl | (refine st_ ?_; rfl))) ?_; refine st_ ?_
    refine hu_take0 5 rfl (by kernel_rfl) (by kernel_rfl) (by kernel_rfl) (by decide) (fun c a w v => hQp c a w _ v) (by rw [hnt]; rfl) (allIn (by repeat (first | exact trivial | refine ⟨rfl, ?_⟩))) (by first | exact Le.refl _ | assumption) (quiet_op (by rw [hty]; first | rfl | (refine st_ ?_; rfl))) ?_; refine st_ ?_
    refine hu_takeB 6 [6, 9] rfl (by kernel_rfl) (by kernel_rfl) (by kernel_rfl) (by kernel_rfl) (fun c a w v => hQp c a w _ v) (by rw [hnt]; rfl) (allIn (by repeat (first | exact trivial | refine ⟨rfl, ?_⟩))) (by first | exact Le.refl _ | assumption) (x := .v (.slice ad m.done.length cd)) ((quiet_loadR (k := 1) (by rw [hty]; rfl) rfl (by simp [TK.agg]) rfl (by simp only []; omega)).cast (by exact encF_ld (j := 3) (by omega) rfl)) ?_
    refine st_ ?_
    refine hu_take0 7 rfl (by kernel_rfl) (by kernel_rfl) (by kernel_rfl) (by decide) (fun c a w v => hQp c a w _ v) (by rw [hnt]; rfl) (allIn (by repeat (first | exact trivial | refine ⟨rfl, ?_⟩))) (by first | exact Le.refl _ | assumption) (quiet_op (by rw [hty]; first | rfl | (refine st_ ?_; rfl))) ?_; refine st_ ?_
    refine hu_take0 8 rfl (by kernel_rfl) (by kernel_rfl) (by kernel_rfl) (by decide) (fun c a w v => hQp c a w _ v) (by rw [hnt]; rfl) (allIn (by repeat (first | exact trivial | refine ⟨rfl, ?_⟩))) (by first | exact Le.refl _ | assumption) (quiet_op (by rw [hty]; first | rfl | (refine st_ ?_; rfl))) ?_; refine st_ ?_
    refine hu_last 9 [] rfl (by kernel_rfl) rfl ?_
    refine go_storeR (k := 1) (xs' := encF (⟨nd.n, 0, .slice ad m.done.length cd, rw0⟩ :: r)) (by rw [hnt]; rfl) (by rw [hty]; rfl) rfl rfl rfl rfl rfl rfl (encF_lay (j := 0) (us := [.int .i64 nd.n, .int .i64 0, .slice ad m.done.length cd, .slice none 0 0]) (by omega) rfl rfl) ?_
    refine rn_ ?_; intros
    refine h_end (by kernel_rfl) ?_
    refine rn_ ?_; intros
    refine go_callT [0, 1, 2, 3] (by rw [hnt]; rfl) (by rw [hP]; kernel_rfl) rfl rfl rfl (by rw [hmh]; simp) (by rw [hP]; exact desc_ok b cb p ps ⟨s.st, s.val, ⟨nd.n, 0, m.done, []⟩ :: l⟩ 600 o1 _ G2 hc2 hp2 ⟨vl, _, b1, b2, b3, ⟨nd.n, 0, .slice ad m.done.length cd, rw0⟩ :: r, Z, VT.rep_mono hle12 hvl, htv, ⟨_, _, rfl, ⟨rfl, rfl, hn64, (by simp [isI64] : isI64 0), fun _ _ _ q => by injection q with _ q2 q3; omega, hds, rw0_ok _⟩, hr⟩, by simp; omega, rfl⟩ ho1) ?_
    rintro v6 G6 ow6 (hle6 : Le _ G6) ⟨vl6, fs6, c1, c2, c3, rs6, Z6, w1, w2, w3, w4, w5, rfl⟩
    simp only [setO, stk, fhO, frO, fzO, fdO]
    refine rn_ ?_; intros
    have hleA := hle12.trans hle6
    refine x_retT rfl hQ hmh hb0 rfl (by simp) rfl (by rw [hty]; simp only [so, sq, zy, zz, tyE, SO', SQ', opQ, opStore, opAlloc, ev, putS, dOk, cv, SV.cs, SV.one, SV.bool?, eqB, Value.oneCell', ldOwn, binInt, binConst, binBool, binStr, isC, TK.agg, rv, rv1, ldV, resOne, resV, Nat.reduceAdd, Nat.reduceMul, Nat.reduceSub, Nat.reduceLT, Nat.reduceLeDiff, Nat.reduceEqDiff, Nat.reduceBEq, reduceIte, reduceCtorEq, eq_self]; try rfl) rfl (by rw [hrest]; rfl) (by first | exact Le.refl _ | assumption) rfl (by simp only [enumO]; exact (by repeat (first | exact plain_nil | refine plain_cons (fun _ h => h) ?_))) ?_; simp only [SV.den, resV, dens]
    exact ⟨by first | rfl | trivial, vl6, fs6, c1, c2, c3, rs6, Z6, w1, w2, w3, w4, w5, rfl⟩
  have h2 : ¬ nd.op = 13 := by simpa using h2
  rw [if_neg h2] at h
  cases hres : resF m nd with
  | none => rw [hres] at h; cases h
  | some ov =>
  rw [hres] at h
  refine rn_ ?_; intros
  refine go_callW [1] (by rw [hnt]; rfl) (by rw [hP]; kernel_rfl) rfl rfl rfl (.inl (by rw [hmh]; simp)) (by rw [hP]; exact result_ok b1 g cap m ⟨m.fn, m.nd, .slice av m.vars.length cv', ⟨43, 3, .slice ad m.done.length cd, m.done.length, xxs⟩⟩ r nd _ ov (l.length * 4) G2 (by rw [hrl]) x6 hds hrI hn64 hres) ?_
  rintro v3 G3 ow3 (hle3 : Le G2 G3) ⟨rfl, hpost⟩
  have hle13 := hle12.trans hle3
  cases ov with
  | none =>
    simp only [] at h
    cases h
    obtain ⟨k5, n5, e5, rfl, he5⟩ := hpost
    simp only [setO, stk, frO, List.length_cons, Nat.one_ne_zero, if_false, if_true]
    refine st_ ?_
    refine rn_ ?_; intros
    refine x_split rfl rfl rfl (fun h9 => ?_) (fun h9 => ?_) <;> (refine st_ ?_; (refine ru_ ?_; intros))
    rotate_left
    · exact absurd h9 (by simpa using he5)
    refine rn_ ?_; intros
    refine go_callW [0] (by rw [hnt]; rfl) (by rw [hP]; kernel_rfl) rfl rfl rfl (.inl (by rw [hmh]; simp)) (by rw [hP]; exact fail_ok b cb s.st s.val.k s.val.n vl _ _) ?_
    rintro v5 G5 ow5 (hle5 : Le _ G5) rfl
    simp only [setO, stk, fhO]
    refine rn_ ?_; intros
    refine go_rownil 1 rfl ?_
    refine go_znull 2 rfl ?_
    intro Z5
    refine st_ ?_
    have hleA := hle13.trans hle5
    refine x_retT rfl hQ hmh hb0 rfl (by simp) rfl (by rw [hty]; simp only [so, sq, zy, zz, tyE, SO', SQ', opQ, opStore, opAlloc, ev, putS, dOk, cv, SV.cs, SV.one, SV.bool?, eqB, Value.oneCell', ldOwn, binInt, binConst, binBool, binStr, isC, TK.agg, rv, rv1, ldV, resOne, resV, Nat.reduceAdd, Nat.reduceMul, Nat.reduceSub, Nat.reduceLT, Nat.reduceLeDiff, Nat.reduceEqDiff, Nat.reduceBEq, reduceIte, reduceCtorEq, eq_self]; try rfl) rfl (by rw [hrest]; rfl) (by first | exact Le.refl _ | assumption) rfl (by simp only [enumO]; exact (by repeat (first | exact plain_nil | refine plain_cons (fun _ h => h) ?_))) ?_; simp only [SV.den, resV, dens]
    exact ⟨by first | rfl | trivial, vl, .slice none 0 0, b1, b2, b3, [], Z5, VT.rep_mono hleA hvl, htv, rfl, by simp, fun _ _ q => by simp at q, rfl⟩
  | some y =>
    simp only [] at h
    obtain ⟨o2, ho2, heq⟩ := Option.map_eq_some_iff.1 h
    cases heq
    obtain ⟨sy, rfl, hry, hyt⟩ := hpost
    obtain ⟨a8, c8, rfl⟩ := VT.rep_slice hry
    have hc3 := hc.mono hle13
    have hp3 := Rp.S_mono hle13 hp
    simp only [setO, stk, frO, List.length_cons, Nat.one_ne_zero, if_false, if_true]
    refine st_ ?_
    refine rn_ ?_; intros
    (refine x_split rfl rfl rfl (fun hc => absurd hc (by first | decide +kernel | (simp; first | done | fail))) (fun _ => ?_); refine st_ ?_; (refine ru_ ?_; intros))
    refine rn_ ?_; intros
    refine go_callT [0, 1, 2, 3] (by rw [hnt]; rfl) (by rw [hP]; kernel_rfl) rfl rfl rfl (by rw [hmh]; simp) (by rw [hP]; exact prod_ok b cb p ps s o y _ _ G3 hc3 hp3 ⟨vl, _, b1, b2, b3, ⟨m.fn, m.nd, .slice av m.vars.length cv', ⟨43, 3, .slice ad m.done.length cd, m.done.length, xxs⟩⟩ :: r, Z, VT.rep_mono hle13 hvl, htv, by rw [hsl]; exact ⟨_, _, rfl, ⟨rfl, rfl, x3, x4, x5, Rp.S_mono hle3 x6, ⟨rfl, rfl, rfl, Rp.L_mono hle3 d4, d5, _, _, rfl, d7⟩⟩, hr.mono hle3⟩, by rw [hsl]; exact hl256, fun m' x' q q' => by rw [hsl] at q; cases q; cases q'; exact Rp.S_mono hle3 hds, rfl⟩ hry hyt ho2) ?_
    rintro v6 G6 ow6 (hle6 : Le _ G6) ⟨vl6, fs6, c1, c2, c3, rs6, Z6, w1, w2, w3, w4, w5, rfl⟩
    simp only [setO, stk, fhO, frO, fzO, fdO]
    refine rn_ ?_; intros
    have hleA := hle13.trans hle6
    refine x_retT rfl hQ hmh hb0 rfl (by simp) rfl (by rw [hty]; simp only [so, sq, zy, zz, tyE, SO', SQ', opQ, opStore, opAlloc, ev, putS, dOk, cv, SV.cs, SV.one, SV.bool?, eqB, Value.oneCell', ldOwn, binInt, binConst, binBool, binStr, isC, TK.agg, rv, rv1, ldV, resOne, resV, Nat.reduceAdd, Nat.reduceMul, Nat.reduceSub, Nat.reduceLT, Nat.reduceLeDiff, Nat.reduceEqDiff, Nat.reduceBEq, reduceIte, reduceCtorEq, eq_self]; try rfl) rfl (by rw [hrest]; rfl) (by first | exact Le.refl _ | assumption) rfl (by simp only [enumO]; exact (by repeat (first | exact plain_nil | refine plain_cons (fun _ h => h) ?_))) ?_; simp only [SV.den, resV, dens]
    exact ⟨by first | rfl | trivial, vl6, fs6, c1, c2, c3, rs6, Z6, w1, w2, w3, w4, w5, rfl⟩
end Go.Proofs.Ytpppkednpamhbaa
namespace Go.Proofs.Ytpppkednpamhbaa
set_option linter.unusedSimpArgs false
set_option linter.unusedVariables false
open Go.Sx
set_option maxHeartbeats 16000000
set_option maxRecDepth 20000
theorem run_ok (b cb : Nat) (p : Pr) (ps : Value) (s o : Fb) (most : Int) (n : Nat) (ow : Lds) (G : Hp) (hm0 : 0 ≤ most) (hm1 : most ≤ 1000000) (hc : At G cb 0 [ps]) (hp : rF.S G p ps) (hfb : fbO G b cb s ow) (h : runP p most.toNat s = some (n, o)) :
    PureT Try.prog 12 [.pointer (some ⟨b, 0, none⟩), .int .i64 most] G ow (fun v G' ow' => v = .tuple #[.int .i64 n, .int .i64 0] ∧ fbO G' b cb o ow') := by
  obtain ⟨vl, fs, b1, b2, b3, rs, Z, hvl, htv, hfs, hl256, hdn, rfl⟩ := hfb
  refine enterT ty tyok Try.func12 rfl Try.ntmps12 [.p 0 b 0, .v (.int .i64 most)] (by simp) (by simp) (plainL (by simp only [enumO]; exact (by repeat (first | exact plain_nil | refine plain_cons (fun _ h => h) ?_)))) ?_
  intro C w0 hP hQ hnt hty hmb hmh hro hG0 hb0; have hQp := qp_body hQ; refine st_ ?_
  generalize hrest : restB w0 _ G = Zr
  simp only [enumO, frO, fzO, fdO, List.cons_append, List.nil_append]
  refine rn_ ?_; intros
  refine go_callW [0] (by rw [hnt]; rfl) (by rw [hP]; kernel_rfl) rfl rfl rfl (.inl (by rw [hmh]; simp)) (by rw [hP]; exact miss_ok b cb s.st s.val.k s.val.n vl fs G) ?_
  rintro v5 G1 ow5 (hle1 : Le G G1) ⟨rfl, rfl⟩
  simp only [setO, stk, fhO]
  refine rn_ ?_; intros
  (refine x_split rfl rfl rfl (fun hc => absurd hc (by first | decide +kernel | (simp; first | done | fail))) (fun _ => ?_); refine st_ ?_; (refine ru_ ?_; intros))
  refine rn_ ?_; intros
  refine go_keep [0, 1, 4, 5, 6] [0, 1, 2, 3, 999] ?_
  refine st_ ?_
  refine x_loop rfl (fun q s' => ∃ (k : Nat) (s1 : Fb) (G1 : Hp) (j : Nat) (vl fs : Value) (b1 b2 b3 : Nat) (rs : List Fw) (Z : Nat → Prop), Le G G1 ∧ k + q = most.toNat ∧ runP p q s1 = some (j, o) ∧ k + j = n ∧ s1.val.rep G1 vl ∧ tsz s1.val ≤ 1000 ∧ fsOk G1 s1.l rs ∧ s1.l.length ≤ 256 ∧ (∀ m x, s1.l.head? = some m → rs.head? = some x → rW.S G1 m.done x.done.v) ∧
    s' = ⟨[(0, .p 0 b 0), (1, .v (.int .i64 most)), (4, .v (.int .i64 0)), (5, .v (.int .i64 0)), (6, .v (.int .i64 k))], [(0, b, .c 80 [.v (.pointer (some ⟨cb, 0, none⟩)), .v (.int .i64 s1.st), .v (.int .i64 s1.val.k), .v (.int .i64 s1.val.n), .v vl, .v fs]), (1, b1, .row fs 77 4 rs.length (encF rs)), (2, b2, .z (ZR ((rs.drop 1).map (·.done))) Z Z), (3, b3, .row rw0.v rw0.e rw0.size rw0.n rw0.xs), (999, 0, .z (ZRest w0) Zr Zr)], G1, []⟩)
    ⟨0, s, G1, n, vl, fs, b1, b2, b3, rs, Z, hle1, by omega, h, by omega, VT.rep_mono hle1 hvl, htv, hfs.mono hle1, hl256, fun m x q q' => Rp.S_mono hle1 (hdn m x q q'), rfl⟩ ?_
  clear hvl htv hfs hl256 hdn hle1 h
  rintro q s' ⟨k, s1, G1, j, vl, fs, b1, b2, b3, rs, Z, hle1, hkq, hrun, hkj, hvl, htv, hfs, hl256, hdn, rfl⟩ ih
  have hc1 := hc.mono hle1
  have hp1 := Rp.S_mono hle1 hp
  refine rn_ ?_; intros
  refine go_gsplit rfl rfl (fun h1 => ?_) (fun h1 => ?_) <;> (refine st_ ?_; (refine rn_ ?_; intros))
  · have hlt : (k : Int) < most := by simpa using h1
    cases q with
    | zero => exfalso; omega
    | succ q =>
    simp only [runP] at hrun
    cases hst : stepP p s1 with
    | none => rw [hst] at hrun; cases hrun
    | some es =>
    obtain ⟨e, s2⟩ := es
    rw [hst] at hrun
    simp only [] at hrun
    refine go_callT [0, 1, 2, 3] (by rw [hnt]; rfl) (by rw [hP]; kernel_rfl) rfl rfl rfl (by rw [hmh]; simp) (by rw [hP]; exact step_ok b cb p ps s1 s2 e _ G1 hc1 hp1 ⟨vl, fs, b1, b2, b3, rs, Z, hvl, htv, hfs, hl256, hdn, rfl⟩ hst) ?_
    rintro v6 G6 ow6 (hle6 : Le _ G6) ⟨rfl, vl6, fs6, c1, c2, c3, rs6, Z6, w1, w2, w3, w4, w5, rfl⟩
    simp only [setO, stk, fhO, frO, fzO, fdO]
    have hleA := hle1.trans hle6
    refine rn_ ?_; intros
    refine x_split rfl rfl rfl (fun h9 => ?_) (fun h9 => ?_) <;> (refine st_ ?_; (refine ru_ ?_; intros))
    · have he : e = 0 := by simpa using h9
      rw [if_pos he] at hrun
      obtain ⟨⟨j2, o2⟩, hj, hq⟩ := Option.map_eq_some_iff.1 hrun
      cases hq
      refine rn_ ?_; intros
      rw [wr (n := (k : Int) + 1) (by omega) (by omega)]
      refine go_keep [0, 1, 4, 5, 6] [0, 1, 2, 3, 999] ?_
      refine st_ ?_
      exact ih q _ (by omega) ⟨k + 1, s2, G6, j2, vl6, fs6, c1, c2, c3, rs6, Z6, hleA, by omega, hj, by omega, w1, w2, w3, w4, w5, rfl⟩
    · have he : ¬ e = 0 := by simpa using h9
      rw [if_neg he] at hrun
      cases hrun
      refine rn_ ?_; intros
      refine x_retT rfl hQ hmh hb0 rfl (by simp) rfl (by rw [hty]; simp only [so, sq, zy, zz, tyE, SO', SQ', opQ, opStore, opAlloc, ev, putS, dOk, cv, SV.cs, SV.one, SV.bool?, eqB, Value.oneCell', ldOwn, binInt, binConst, binBool, binStr, isC, TK.agg, rv, rv1, ldV, resOne, resV, Nat.reduceAdd, Nat.reduceMul, Nat.reduceSub, Nat.reduceLT, Nat.reduceLeDiff, Nat.reduceEqDiff, Nat.reduceBEq, reduceIte, reduceCtorEq, eq_self]; try rfl) rfl (by rw [hrest]; rfl) (by first | exact Le.refl _ | assumption) rfl (by simp only [enumO]; exact (by repeat (first | exact plain_nil | refine plain_cons (fun _ h => h) ?_))) ?_; simp only [SV.den, resV, dens]
      exact ⟨by rw [← hkj]; rfl, vl6, fs6, c1, c2, c3, rs6, Z6, w1, w2, w3, w4, w5, rfl⟩
  · have hge : ¬ (k : Int) < most := by simpa using h1
    cases q with
    | succ q => exfalso; omega
    | zero =>
    simp only [runP, Option.some.injEq, Prod.mk.injEq] at hrun
    obtain ⟨rfl, rfl⟩ := hrun
    refine rn_ ?_; intros
    trace_state
    refine x_retT rfl hQ hmh hb0 rfl (by simp) rfl (by rw [hty]; simp only [so, sq, zy, zz, tyE, SO', SQ', opQ, opStore, opAlloc, ev, putS, dOk, cv, SV.cs, SV.one, SV.bool?, eqB, Value.oneCell', ldOwn, binInt, binConst, binBool, binStr, isC, TK.agg, rv, rv1, ldV, resOne, resV, Nat.reduceAdd, Nat.reduceMul, Nat.reduceSub, Nat.reduceLT, Nat.reduceLeDiff, Nat.reduceEqDiff, Nat.reduceBEq, reduceIte, reduceCtorEq, eq_self]; try rfl) rfl (by rw [hrest]; rfl) (by first | exact Le.refl _ | assumption) rfl (by simp only [enumO]; exact (by repeat (first | exact plain_nil | refine plain_cons (fun _ h => h) ?_))) ?_; simp only [SV.den, resV, dens]
    exact ⟨by rw [← hkj]; rfl, vl, fs, b1, b2, b3, rs, Z, hvl, htv, hfs, hl256, hdn, rfl⟩
theorem state_ok (b cb : Nat) (st k n : Int) (vl fs : Value) (G : Hp) :
    PureW Try.prog 19 [.pointer (some ⟨b, 0, none⟩)] G [fhO b cb st k n vl fs] (fun v _ ow => v = .int .i64 st ∧ ow = [fhO b cb st k n vl fs]) := by
  refine enterW ty tyok Try.func19 rfl Try.ntmps19 [.p 0 b 0] (by simp) (mh := 1) rfl ?_
  intro C hP hQ hnt hty hmb hmh hro hG0 hmub; have hQp := qp_body hQ; refine st_ ?_
  simp only [enumO]
  refine rn_ ?_; intros
  refine go_callW [0] (by rw [hnt]; rfl) (by rw [hP]; kernel_rfl) rfl rfl rfl (.inr (by rw [hmh]; decide)) (by rw [hP]; exact miss_ok b cb st k n vl fs G) ?_
  rintro v5 G1 ow5 (hle1 : Le G G1) ⟨rfl, rfl⟩
  simp only [setO, stk, fhO]
  refine rn_ ?_; intros
  (refine x_split rfl rfl rfl (fun hc => absurd hc (by first | decide +kernel | (simp; first | done | fail))) (fun _ => ?_); refine st_ ?_; (refine ru_ ?_; intros))
  refine rn_ ?_; intros
  refine x_retW rfl hQ hmb hmh hG0 hmub rfl rfl (by rw [hty]; simp only [so, sq, zy, zz, tyE, SO', SQ', opQ, opStore, opAlloc, ev, putS, dOk, cv, SV.cs, SV.one, SV.bool?, eqB, Value.oneCell', ldOwn, binInt, binConst, binBool, binStr, isC, TK.agg, rv, rv1, ldV, resOne, resV, Nat.reduceAdd, Nat.reduceMul, Nat.reduceSub, Nat.reduceLT, Nat.reduceLeDiff, Nat.reduceEqDiff, Nat.reduceBEq, reduceIte, reduceCtorEq, eq_self]; try rfl) rfl rfl (by simp only [enumO]; exact (by repeat (first | exact plain_nil | refine plain_cons (fun _ h => h) ?_))) ?_; simp only [SV.den, resV, dens]
  exact ⟨by first | rfl | trivial, rfl⟩
theorem frames_ok (b cb : Nat) (st k n : Int) (vl : Value) (ad : Option Addr) (m c : Nat) (G : Hp) :
    PureW Try.prog 10 [.pointer (some ⟨b, 0, none⟩)] G [fhO b cb st k n vl (.slice ad m c)] (fun v _ ow => v = .int .i64 m ∧ ow = [fhO b cb st k n vl (.slice ad m c)]) := by
  refine enterW ty tyok Try.func10 rfl Try.ntmps10 [.p 0 b 0] (by simp) (mh := 1) rfl ?_
  intro C hP hQ hnt hty hmb hmh hro hG0 hmub; have hQp := qp_body hQ; refine st_ ?_
  simp only [enumO]
  refine rn_ ?_; intros
  refine go_callW [0] (by rw [hnt]; rfl) (by rw [hP]; kernel_rfl) rfl rfl rfl (.inr (by rw [hmh]; decide)) (by rw [hP]; exact miss_ok b cb st k n vl _ G) ?_
  rintro v5 G1 ow5 (hle1 : Le G G1) ⟨rfl, rfl⟩
  simp only [setO, stk, fhO]
  refine rn_ ?_; intros
  (refine x_split rfl rfl rfl (fun hc => absurd hc (by first | decide +kernel | (simp; first | done | fail))) (fun _ => ?_); refine st_ ?_; (refine ru_ ?_; intros))
  refine rn_ ?_; intros
  refine x_retW rfl hQ hmb hmh hG0 hmub rfl rfl (by rw [hty]; simp only [so, sq, zy, zz, tyE, SO', SQ', opQ, opStore, opAlloc, ev, putS, dOk, cv, SV.cs, SV.one, SV.bool?, eqB, Value.oneCell', ldOwn, binInt, binConst, binBool, binStr, isC, TK.agg, rv, rv1, ldV, resOne, resV, Nat.reduceAdd, Nat.reduceMul, Nat.reduceSub, Nat.reduceLT, Nat.reduceLeDiff, Nat.reduceEqDiff, Nat.reduceBEq, reduceIte, reduceCtorEq, eq_self]; try rfl) rfl rfl (by simp only [enumO]; exact (by repeat (first | exact plain_nil | refine plain_cons (fun _ h => h) ?_))) ?_; simp only [SV.den, resV, dens]
  exact ⟨by first | rfl | trivial, rfl⟩
end Go.Proofs.Ytpppkednpamhbaa
namespace Go.Sx
set_option linter.unusedSimpArgs false
set_option linter.unusedVariables false
open Go.RowKit
section
variable {C : Ctx} {K : List KI} {s : St} {R : Array Oper} {l : List Oper} {d : Option Tmp} {t : TypeId} {pos : String} {aft : Array Edge} {v : Value}
theorem go_torow (k : Nat) {b size : Nat} {e : TypeId} {cells : List SV} (hk : lk k s.own = some (b, .c e cells)) (hc : cells.length = size)
    (h : SGo C K ⟨s.sl, stk k (b, .row (.slice (some ⟨b, 0, none⟩) 1 1) e size 1 (dens cells)) s.own, s.G, s.df⟩) : SGo C K s := by
  intro a w hS
  refine h a w ⟨hS.sl, hS.nt, hS.df, ?_⟩
  obtain ⟨f1, f2⟩ := hS.mem.own _ _ _ hk
  simp only [OO.holds] at f1
  refine hS.mem.put hk rfl rfl rfl (Nat.le_refl _) (fun _ _ _ => rfl) ?_ (fun j => ⟨fun hg => .inl (by simp [OO.blks, Value.ownBlock] at hg ⊢; exact hg.symm), fun hg => .inl (by simp [OO.mut, Value.ownBlock] at hg ⊢; exact hg.symm)⟩)
  have hl : (dens cells).length = 1 * size := by simp [dens_eq, hc]
  refine ⟨hl, .inr ⟨b, 1, (dens cells).toArray, rfl, Nat.zero_le _, f1, Nat.le_refl _, by decide, by simpa using hl, ?_⟩⟩
  rw [← hl]
  simp
theorem go_torowN (k : Nat) {b size n : Nat} {e : TypeId} {cells : List SV} (hk : lk k s.own = some (b, .c e cells)) (hc : cells.length = n * size) (hn : n ≤ 1000)
    (h : SGo C K ⟨s.sl, stk k (b, .row (.slice (some ⟨b, 0, none⟩) n n) e size n (dens cells)) s.own, s.G, s.df⟩) : SGo C K s := by
  intro a w hS
  refine h a w ⟨hS.sl, hS.nt, hS.df, ?_⟩
  obtain ⟨f1, f2⟩ := hS.mem.own _ _ _ hk
  simp only [OO.holds] at f1
  refine hS.mem.put hk rfl rfl rfl (Nat.le_refl _) (fun _ _ _ => rfl) ?_ (fun j => ⟨fun hg => .inl (by simp [OO.blks, Value.ownBlock] at hg ⊢; exact hg.symm), fun hg => .inl (by simp [OO.mut, Value.ownBlock] at hg ⊢; exact hg.symm)⟩)
  have hl : (dens cells).length = n * size := by simp [dens_eq, hc]
  refine ⟨hl, .inr ⟨b, n, (dens cells).toArray, rfl, Nat.zero_le _, f1, Nat.le_refl _, Nat.le_trans hn (by decide), by simpa using hl, ?_⟩⟩
  rw [← hl]
  simp
theorem q_callW (ks : List Nat) {f : FuncId} {args : Array Operand} {tys : Array TypeId} {vs : List SV} {ow : Lds} (hd : dOk C.nt d = true) (hf : canCall C.P f = true) (ha : evs s.sl args.toList = some vs)
    (hk : lkAll s.own ks = some ow) (hn : noDup ks = true) (hc : PureW C.P f (dens vs) s.G ow (fun r _ ow' => r = v ∧ ow' = ow))
    (h : SGo C (.q (Mem C s.own s.G) R l :: K) ⟨putS d (rv v) s.sl, s.own, s.G, s.df⟩) : SGo C (.q (Mem C s.own s.G) R (⟨d, .call ⟨.value (.func f), args, tys⟩, t, pos, aft, none⟩ :: l) :: K) s := by
  intro a w hS
  have hargs : args.map a.eval = (dens vs).toArray := by apply Array.ext'; rw [Array.toList_map]; exact evs_ok hS.sl ha
  have hrun : ∀ w', (execOp a.eval ⟨d, .call ⟨.value (.func f), args, tys⟩, t, pos, aft, none⟩).run C.P w' = .ok (.enter f (dens vs).toArray) w' := by
    intro w'
    simp only [execOp, resolve, hargs, Act.eval, Deferred.ofValue, Sem.run_bind, Sem.run_pure, Result.andThen_ok, invoke]
    simp [callFunc_ok hf]
  simp only [wpK, wpQuiet]
  rw [if_pos (by simp [Region.wanted])]
  refine ⟨v, fun w' hw' => ?_, ?_⟩
  · unfold Oper.quietAt
    rw [hrun w']
    have hS' : ∀ {k b o}, lk k s.own = some (b, o) → o.holds C.w0.heap.size w' b := fun e => (hw'.own _ _ _ e).1
    refine ⟨rfl, (hc w' hw'.has (Lent.of (C := C) hw' hk hn)).mono ?_⟩
    rintro e w'' ⟨u, G', ow', rfl, q1, q2, q3, q4, q5, q6, q7, q8, rfl, rfl⟩
    refine ⟨rfl, ?_⟩
    obtain ⟨k1, k2⟩ := lkAll_get hk
    have hidx : ∀ {i : Nat} {x : Nat × OO}, ow'[i]? = some x → ∃ k, ks[i]? = some k ∧ lk k s.own = some x := fun {i x} e => by
      have hi : i < ks.length := by
        rcases Nat.lt_or_ge i ow'.length with q | q
        · omega
        · rw [List.getElem?_eq_none q] at e; cases e
      obtain ⟨x', e1, e2⟩ := k2 i ks[i] (by rw [List.getElem?_eq_getElem hi])
      rw [e] at e1; cases e1
      exact ⟨ks[i], by rw [List.getElem?_eq_getElem hi], e2⟩
    have hle : Le s.G G' := fun b o e => by rw [q4 b (lt_of_heap (hw'.has b o e))]; exact e
    refine ⟨fun k b o e => ?_, hw'.inj, ?_⟩
    · obtain ⟨g1, g2⟩ := hw'.own _ _ _ e
      refine ⟨?_, g2⟩
      by_cases hkk : k ∈ ks
      · obtain ⟨i, hi, hi2⟩ := List.getElem_of_mem hkk
        obtain ⟨x', e1, e2⟩ := k2 i ks[i] (by rw [List.getElem?_eq_getElem hi])
        rw [hi2, e] at e2
        cases e2
        exact (q5.own _ _ _ e1).1
      · refine OO.holds_same g1 q1 fun g hg => q2 g (hw'.lt e hg) ?_
        rintro ⟨i, b', o', e', hg'⟩
        obtain ⟨k', e1, e2⟩ := hidx e'
        have := hw'.inj _ _ _ _ _ _ g e e2 hg (OO.mut_blks (hw'.own _ _ _ e2).1 hg')
        subst this
        exact hkk (List.mem_of_getElem? e1)
    · have hg := hw'.grow
      refine ⟨q1.os.trans hg.os, q1.tape.trans hg.tape, q1.output.trans hg.output, Nat.le_trans hg.size q1.size, fun j hj hm => ?_, fun b o e => q3 b o (hle b o e), hg.old⟩
      rw [q2 j (by have := hg.size; omega) ?_]
      · exact hg.blk j hj hm
      · rintro ⟨i, b, o, e, hgj⟩
        obtain ⟨k', _, e2⟩ := hidx e
        obtain ⟨_, q⟩ := hw'.own _ _ _ e2
        obtain ⟨_, p1, p2⟩ := q j hgj
        rcases Nat.lt_or_ge k' C.mh with p3 | p3
        · rcases p2 p3 with p4 | p4
          · exact hm p4
          · omega
        · have := p1 p3; omega
  · have hS' := hS.put hd (rv v) hS.mem
    rw [rv_den] at hS'
    have := h _ _ hS'
    simpa only [wpK] using this
end
end Go.Sx
namespace Go.Proofs.Ytpppkednpamhbaa
set_option linter.unusedSimpArgs false
set_option linter.unusedVariables false
open Go.Sx
set_option maxHeartbeats 16000000
set_option maxRecDepth 20000
theorem rowsP_len : ∀ {p : Pr} {vs : Cs}, okC p vs → ∀ (i : Nat) (r : Rw), (rowsP p vs)[i]? = some r → i ≠ (rowsP p vs).length := fun _ i r e => by
  have := (List.getElem?_eq_some_iff.1 e).1; omega
theorem copyr_ok (p : Pr) (ps : Value) (G : Hp) (hps : rF.S G p ps) (hb : bdP p) :
    PureR Try.prog 25 [.agg #[ps]] G (fun v G' r e size n xs => v = .agg #[r] ∧ e = 33 ∧ size = 2 ∧ n = p.length ∧ rF.L G' p xs) := by
  have hok := rF_ok hps
  refine (copyp_ok p ps G hps hb).toR ?_
  rintro v G1 rs hle ⟨ad, cap, vs, hvs, rfl, rfl⟩
  refine ⟨(rowsP p vs).length, _, by simp; rfl, fun G2 hle2 hr => ⟨rfl, rfl, rfl, rfl, encP_L hvs hok hb.2 fun i r e => hr i r (rowsP_len hvs i r e) ?_⟩⟩
  rw [List.getElem?_append_left (List.getElem?_eq_some_iff.1 e).1]; exact e
theorem copys_ok (p : Pr) (ps : Value) (G : Hp) (hps : rF.S G p ps) (hb : bdP p) :
    Pure Try.prog 25 [.agg #[ps]] G (fun v G' => ∃ sl, v = .agg #[sl] ∧ rF.S G' p sl) := by
  have h63 := hb.1
  refine (copyr_ok p ps G hps hb).pure ?_ ?_
  · rintro v G' e size hle ⟨rfl, _, _, hn, hL⟩
    have : p = [] := List.length_eq_zero_iff.1 hn.symm
    subst this
    exact ⟨_, rfl, Rp.S_nil _ _⟩
  · rintro v G1 G2 g cap e size n xs hle hle2 hat ⟨rfl, _, _, rfl, hL⟩
    exact ⟨_, rfl, by omega, _, _, rfl, .inr ⟨_, _, _, rfl, hat, Rp.L_mono hle2 hL⟩⟩
theorem load_ok (p : Pr) (ps : Value) (G : Hp) (hps : rF.S G p ps) (hb : bdP p) (hw : (whP p).2.2 = 0) :
    Pure Try.prog 6 [.agg #[ps]] G (fun v G' => ∃ cb ps', v = .tuple #[.pointer (some ⟨cb, 0, none⟩), .int .i64 0] ∧ At G' cb 0 [ps'] ∧ rF.S G' p ps') := by
  have hck := checkp_ok p ps G hps
  rw [hw] at hck
  obtain ⟨adp, capp, rfl⟩ := Rp.S_slice hps
  refine enterX ty tyok Try.func6 rfl Try.ntmps6 [.a [.v (.slice adp p.length capp)]] (by simp) ?_
  intro C hP hQ hnt hty hmb hmh hro; have hQp := qp_body hQ; refine st_ ?_
  refine rn_ ?_; intros
  refine go_callf (by rw [hnt]; rfl) (by rw [hP]; kernel_rfl) rfl (hP ▸ hck) ?_; refine rn_ ?_; intros
  (refine x_split rfl rfl rfl (fun hc => absurd hc (by first | decide +kernel | (simp; first | done | fail))) (fun _ => ?_); refine st_ ?_; (refine ru_ ?_; intros))
  refine rn_ ?_; intros
  refine go_call (by rw [hnt]; rfl) (by rw [hP]; kernel_rfl) rfl (hP ▸ copys_ok p _ G hps hb) ?_
  rintro v G1 (hle1 : Le G G1) ⟨sl, rfl, hS⟩
  obtain ⟨ad2, cap2, rfl⟩ := Rp.S_slice hS
  refine rn_ ?_; intros
  rename_i b1 b2
  refine go_pub 1 rfl (by omega) ?_
  intro G2 (hle2 : Le G1 G2) hG2
  refine st_ ?_
  refine x_retc rfl hQ hmb rfl (by rw [hty]; simp only [so, sq, zy, zz, tyE, SO', SQ', opQ, opStore, opAlloc, ev, putS, dOk, cv, SV.cs, SV.one, SV.bool?, eqB, Value.oneCell', ldOwn, binInt, binConst, binBool, binStr, isC, TK.agg, rv, rv1, ldV, resOne, resV, Nat.reduceAdd, Nat.reduceMul, Nat.reduceSub, Nat.reduceLT, Nat.reduceLeDiff, Nat.reduceEqDiff, Nat.reduceBEq, reduceIte, reduceCtorEq, eq_self]; try rfl) rfl ?_; simp only [SV.den, resV, dens]
  exact ⟨b2, _, rfl, at_cells hG2, Rp.S_mono hle2 hS⟩
theorem miss2_ok (p : Pr) (ps : Value) (cb : Nat) (G : Hp) (hc : At G cb 0 [ps]) (hps : rF.S G p ps) (h0 : p.length ≠ 0) : Pure Try.prog 26 [.pointer (some ⟨cb, 0, none⟩)] G (fun v _ => v = .bool false) := by
  obtain ⟨adp, capp, rfl⟩ := Rp.S_slice hps
  refine enterX ty tyok Try.func26 rfl Try.ntmps26 [.v (.pointer (some ⟨cb, 0, none⟩))] (by simp) ?_
  intro C hP hQ hnt hty hmb hmh hro; have hQp := qp_body hQ; refine st_ ?_
  refine rn_ ?_; intros
  refine go_q (v := .bool false) (by rw [hnt]; rfl) ((quiet_pnil (by rw [hty]; rfl) rfl rfl).cast (by rfl)) ?_
  refine rn_ ?_; intros
  refine go_slot 5 (.b false) rfl rfl ?_
  refine rn_ ?_; intros
  refine go_q (by rw [hnt]; rfl) (quiet_load (by rw [hty]; rfl) rfl (by simp [TK.agg]) hc rfl) ?_; refine rn_ ?_; intros
  refine x_ret rfl hQ hmb (by rw [hty]; rfl) rfl ?_; simp only [SV.den, resV]
  simp; intro hp0; subst hp0; simp at h0
theorem begin_err (p : Pr) (ps : Value) (cb : Nat) (f : Int) (ad : Option Addr) (n c : Nat) (e : Int) (G : Hp) (hc : At G cb 0 [ps]) (hps : rF.S G p ps) (h0 : p.length ≠ 0)
    (h : ((f < 0 ∨ (p.length : Int) ≤ f) ∧ e = 4) ∨ (0 ≤ f ∧ f < p.length ∧ (n : Int) ≠ (fu p f.toNat).params ∧ e = 2)) :
    Pure Try.prog 7 [.pointer (some ⟨cb, 0, none⟩), .int .i64 f, .slice ad n c] G (fun v _ => v = .tuple #[.pointer none, .int .i64 e]) := by
  have hms := miss2_ok p ps cb G hc hps h0
  have hps0 := hps
  obtain ⟨adp, capp, rfl⟩ := Rp.S_slice hps
  refine enterX ty tyok Try.func7 rfl Try.ntmps7 [.v (.pointer (some ⟨cb, 0, none⟩)), .v (.int .i64 f), .v (.slice ad n c)] (by simp) ?_
  intro C hP hQ hnt hty hmb hmh hro; have hQp := qp_body hQ; refine st_ ?_
  refine rn_ ?_; intros
  refine go_callf (by rw [hnt]; rfl) (by rw [hP]; kernel_rfl) rfl (hP ▸ hms) ?_; refine rn_ ?_; intros
  (refine x_split rfl rfl rfl (fun hc => absurd hc (by first | decide +kernel | (simp; first | done | fail))) (fun _ => ?_); refine st_ ?_; (refine ru_ ?_; intros))
  refine rn_ ?_; intros
  refine go_gsplit rfl rfl (fun h1 => ?_) (fun h1 => ?_) <;> (refine st_ ?_; (refine rn_ ?_; intros))
  · refine rn_ ?_; intros
    refine x_retc rfl hQ hmb rfl (by rw [hty]; simp only [so, sq, zy, zz, tyE, SO', SQ', opQ, opStore, opAlloc, ev, putS, dOk, cv, SV.cs, SV.one, SV.bool?, eqB, Value.oneCell', ldOwn, binInt, binConst, binBool, binStr, isC, TK.agg, rv, rv1, ldV, resOne, resV, Nat.reduceAdd, Nat.reduceMul, Nat.reduceSub, Nat.reduceLT, Nat.reduceLeDiff, Nat.reduceEqDiff, Nat.reduceBEq, reduceIte, reduceCtorEq, eq_self]; try rfl) rfl ?_; simp only [SV.den, resV, dens]
    rcases h with ⟨_, rfl⟩ | ⟨h3, h4, _⟩
    · rfl
    · exfalso; simp at h1; omega
  · refine go_q (by rw [hnt]; rfl) (quiet_load (by rw [hty]; rfl) rfl (by simp [TK.agg]) hc rfl) ?_; refine rn_ ?_; intros
    refine x_split rfl rfl rfl (fun h2 => ?_) (fun h2 => ?_) <;> (refine st_ ?_; (refine ru_ ?_; intros))
    · refine rn_ ?_; intros
      refine x_retc rfl hQ hmb rfl (by rw [hty]; simp only [so, sq, zy, zz, tyE, SO', SQ', opQ, opStore, opAlloc, ev, putS, dOk, cv, SV.cs, SV.one, SV.bool?, eqB, Value.oneCell', ldOwn, binInt, binConst, binBool, binStr, isC, TK.agg, rv, rv1, ldV, resOne, resV, Nat.reduceAdd, Nat.reduceMul, Nat.reduceSub, Nat.reduceLT, Nat.reduceLeDiff, Nat.reduceEqDiff, Nat.reduceBEq, reduceIte, reduceCtorEq, eq_self]; try rfl) rfl ?_; simp only [SV.den, resV, dens]
      rcases h with ⟨_, rfl⟩ | ⟨h3, h4, _⟩
      · rfl
      · exfalso; simp at h2; omega
    · have hf0 : 0 ≤ f := by simpa using h1
      have hf1 : f < p.length := by simp at h2; omega
      obtain ⟨bF, oF, ns, rfl, hat, hp64, _⟩ := rF_at hps0 (i := f.toNat) (by omega)
      have hat0 : At G bF (oF + f.toNat * 2) [.int .i64 (fu p f.toNat).params] := by simpa using hat.sub 0 1 (by simp)
      refine rn_ ?_; intros
      refine go_q (by rw [hnt]; rfl) (quiet_load (by rw [hty]; rfl) rfl (by simp [TK.agg]) hc rfl) ?_; refine rn_ ?_; intros
      refine go_q (v := .pointer (some ⟨bF, oF + f.toNat * 2, none⟩)) (by rw [hnt]; rfl) ((quiet_index (by rw [hty]; rfl) (by rw [hty]; rfl) rfl rfl rfl (by omega) (by omega)).cast (by rfl)) ?_
      refine rn_ ?_; intros
      refine go_q (by rw [hnt]; rfl) (quiet_load (by rw [hty]; rfl) rfl (by simp [TK.agg]) hat0 rfl) ?_; refine rn_ ?_; intros
      refine x_split rfl rfl rfl (fun h3 => ?_) (fun h3 => ?_) <;> (refine st_ ?_; (refine ru_ ?_; intros))
      · refine rn_ ?_; intros
        refine x_retc rfl hQ hmb rfl (by rw [hty]; simp only [so, sq, zy, zz, tyE, SO', SQ', opQ, opStore, opAlloc, ev, putS, dOk, cv, SV.cs, SV.one, SV.bool?, eqB, Value.oneCell', ldOwn, binInt, binConst, binBool, binStr, isC, TK.agg, rv, rv1, ldV, resOne, resV, Nat.reduceAdd, Nat.reduceMul, Nat.reduceSub, Nat.reduceLT, Nat.reduceLeDiff, Nat.reduceEqDiff, Nat.reduceBEq, reduceIte, reduceCtorEq, eq_self]; try rfl) rfl ?_; simp only [SV.den, resV, dens]
        rcases h with ⟨q, _⟩ | ⟨_, _, _, rfl⟩
        · exfalso; omega
        · rfl
      · exfalso
        simp at h3
        rcases h with ⟨q, _⟩ | ⟨_, _, q, _⟩
        · omega
        · exact q h3
def nilO : Lds := [(0, .row rw0.v rw0.e rw0.size rw0.n rw0.xs), (0, .row rw0.v rw0.e rw0.size rw0.n rw0.xs), (0, .row rw0.v rw0.e rw0.size rw0.n rw0.xs), (0, .row rw0.v rw0.e rw0.size rw0.n rw0.xs)]
theorem begin_ok (p : Pr) (ps : Value) (cb : Nat) (f : Int) (av : List VT) (sl : Value) (o : Int × List Fm) (G : Hp) (hc : At G cb 0 [ps]) (hps : rF.S G p ps) (hf0 : 0 ≤ f) (hf1 : f < p.length) (hpl : p.length ≤ 100) (hn : (av.length : Int) = (fu p f.toNat).params) (hal : av.length ≤ 100)
    (hS : rW.S G av sl) (hck : ∀ v ∈ av, vld v = true) (hd : downF p 600 [⟨f, 0, av, []⟩] = some o) :
    PureT Try.prog 7 [.pointer (some ⟨cb, 0, none⟩), .int .i64 f, sl] G nilO (fun v G' ow' => ∃ b, v = .tuple #[.pointer (some ⟨b, 0, none⟩), .int .i64 0] ∧ fbO G' b cb ⟨o.1, vt0, o.2⟩ ow') := by
  have hms := miss2_ok p ps cb G hc hps (by omega)
  have hps0 := hps
  obtain ⟨ad, c, rfl⟩ := Rp.S_slice hS
  obtain ⟨bF, oF, ns, cF, rfl, hat, hp64, _⟩ : ∃ bF oF ns cF, ps = .slice (some ⟨bF, oF, none⟩) p.length cF ∧ At G bF (oF + f.toNat * 2) [.int .i64 (fu p f.toNat).params, ns] ∧ isI64 (fu p f.toNat).params ∧ rN.S G (fu p f.toNat).nodes ns := by
    obtain ⟨adp, capp, rfl⟩ := Rp.S_slice hps
    obtain ⟨bF, oF, ns, rfl, q⟩ := rF_at hps0 (i := f.toNat) (by omega)
    exact ⟨bF, oF, ns, capp, rfl, q⟩
  have hat0 : At G bF (oF + f.toNat * 2) [.int .i64 (fu p f.toNat).params] := by simpa using hat.sub 0 1 (by simp)
  refine enterT ty tyok Try.func7 rfl Try.ntmps7 [.v (.pointer (some ⟨cb, 0, none⟩)), .v (.int .i64 f), .v (.slice ad av.length c)] (by simp) (by simp [nilO]) (plainL (by simp only [enumO, nilO]; exact (by repeat (first | exact plain_nil | refine plain_cons (fun _ h => h) ?_)))) ?_
  intro C w0 hP hQ hnt hty hmb hmh hro hG0 hb0; have hQp := qp_body hQ; refine st_ ?_
  generalize hrest : restB w0 _ G = Zr
  simp only [enumO, nilO, List.cons_append, List.nil_append]
  refine rn_ ?_; intros
  refine go_callf (by rw [hnt]; rfl) (by rw [hP]; kernel_rfl) rfl (hP ▸ hms) ?_; refine rn_ ?_; intros
  (refine x_split rfl rfl rfl (fun hc => absurd hc (by first | decide +kernel | (simp; first | done | fail))) (fun _ => ?_); refine st_ ?_; (refine ru_ ?_; intros))
  refine rn_ ?_; intros
  refine go_gsplit rfl rfl (fun h1 => ?_) (fun h1 => ?_) <;> (refine st_ ?_; (refine rn_ ?_; intros))
  · exfalso; simp at h1; omega
  refine go_q (by rw [hnt]; rfl) (quiet_load (by rw [hty]; rfl) rfl (by simp [TK.agg]) hc rfl) ?_; refine rn_ ?_; intros
  refine x_split rfl rfl rfl (fun h2 => ?_) (fun h2 => ?_) <;> (refine st_ ?_; (refine ru_ ?_; intros))
  · exfalso; simp at h2; omega
  refine rn_ ?_; intros
  refine go_q (by rw [hnt]; rfl) (quiet_load (by rw [hty]; rfl) rfl (by simp [TK.agg]) hc rfl) ?_; refine rn_ ?_; intros
  refine go_q (v := .pointer (some ⟨bF, oF + f.toNat * 2, none⟩)) (by rw [hnt]; rfl) ((quiet_index (by rw [hty]; rfl) (by rw [hty]; rfl) rfl rfl rfl (by omega) (by omega)).cast (by rfl)) ?_
  refine rn_ ?_; intros
  refine go_q (by rw [hnt]; rfl) (quiet_load (by rw [hty]; rfl) rfl (by simp [TK.agg]) hat0 rfl) ?_; refine rn_ ?_; intros
  refine x_split rfl rfl rfl (fun h3 => ?_) (fun h3 => ?_) <;> (refine st_ ?_; (refine ru_ ?_; intros))
  · exfalso; simp at h3; exact h3 hn
  refine rn_ ?_; intros
  refine go_make 10 (by rw [hnt]; rfl) (by rw [hty]; rfl) (by rw [hty]; rfl) rfl rfl (Nat.zero_le _) rfl (by rw [hmh]; omega) (by omega) (by simp only []; omega) (by simp) ?_
  intro g10
  refine rn_ ?_; intros
  refine go_keep [0, 1, 2, 6, 7, 8, 41, 42, 43] [0, 1, 2, 3, 999, 10] ?_
  refine st_ ?_
  refine x_loop rfl (fun q s' => ∃ (k : Nat) (G1 : Hp) (ad3 : Option Addr) (cap3 : Nat) (xs : List Value), k ≤ av.length ∧ q = av.length - k ∧ Le G G1 ∧ rW.L G1 (av.take k) xs ∧
    s' = ⟨[(0, .v (.pointer (some ⟨cb, 0, none⟩))), (1, .v (.int .i64 f)), (2, .v (.slice ad av.length c)), (6, .v (.pointer none)), (7, .v (.int .i64 0)), (8, .v (.slice ad3 k cap3)), (41, .v (.slice ad av.length c)), (42, .v (.int .i64 av.length)), (43, .v (.int .i64 k))],
      [(0, 0, .row rw0.v rw0.e rw0.size rw0.n rw0.xs), (1, 0, .row rw0.v rw0.e rw0.size rw0.n rw0.xs), (2, 0, .row rw0.v rw0.e rw0.size rw0.n rw0.xs), (3, 0, .row rw0.v rw0.e rw0.size rw0.n rw0.xs), (999, 0, .z (ZRest w0) Zr Zr), (10, g10, .row (.slice ad3 k cap3) 43 3 k xs)], G1, []⟩) ⟨0, G, some ⟨g10, 0, none⟩, av.length, [], by omega, rfl, Le.refl _, rfl, rfl⟩ ?_
  rintro q s' ⟨k, G1, ad3, cap3, xs, hk, hq, hle1, hxs, rfl⟩ ih
  refine rn_ ?_; intros
  refine x_if rfl rfl rfl rfl (fun hjl => ?_) (fun hjl => ?_)
  · have hlt : k < av.length := by simp at hjl; omega
    have htk : av.take (k + 1) = av.take k ++ [av[k]] := by rw [List.take_append_getElem]
    have hvv := hck av[k] (List.getElem_mem _)
    obtain ⟨bV, oV, sv, rfl, hatV, hrV, htV⟩ := rW_at (Rp.S_mono hle1 hS) hlt
    obtain ⟨a9, c9, rfl⟩ := VT.rep_slice hrV
    have hchk := check_ok av[k] _ G1 hrV
    rw [show chk av[k] = 0 by simp [chk, hvv]] at hchk
    refine rn_ ?_; intros
    refine go_q (by rw [hnt]; rfl) (quiet_index (by rw [hty]; rfl) (by rw [hty]; rfl) rfl rfl rfl (by omega) (by omega)) ?_
    refine rn_ ?_; intros
    refine go_q (v := .agg #[.int .i64 av[k].k, .int .i64 av[k].n, .slice a9 av[k].l.length c9]) (by rw [hnt]; rfl) ((quiet_load (by rw [hty]; rfl) rfl (by simp [TK.agg]) (by simpa using hatV) rfl).cast (by rfl)) ?_
    refine rn_ ?_; intros
    refine go_callf (by rw [hnt]; rfl) (by rw [hP]; kernel_rfl) rfl (hP ▸ hchk) ?_; refine rn_ ?_; intros
    (refine x_split rfl rfl rfl (fun hc => absurd hc (by first | decide +kernel | (simp; first | done | fail))) (fun _ => ?_); refine st_ ?_; (refine ru_ ?_; intros))
    refine rn_ ?_; intros
    refine go_call (by rw [hnt]; rfl) (by rw [hP]; kernel_rfl) rfl (hP ▸ copy_ok av[k] _ G1 hrV (by omega)) ?_
    rintro v2 G2 (hle2 : Le G1 G2) (⟨_, a8, c8, rfl, hr8⟩ | ⟨hns, _⟩)
    rotate_left
    · simp [vld, hns] at hvv
    refine rn_ ?_; intros
    refine go_append 10 (by rw [hnt]; rfl) (by rw [hty]; rfl) (by rw [hty]; rfl) (by decide) rfl rfl rfl (by rw [hmh]; omega) rfl (src_own 3 rfl rfl) rfl (by simp [dens, SV.den, Value.oneCell']) (by omega) (by simp only []; omega) ?_
    intro v'
    refine go_rowS 10 rfl ?_
    rintro ad4 cap4 rfl
    refine rn_ ?_; intros
    rw [wr (n := (k : Int) + 1) (by omega) (by omega)]
    refine go_keep [0, 1, 2, 6, 7, 8, 41, 42, 43] [0, 1, 2, 3, 999, 10] ?_
    refine st_ ?_
    refine ih (av.length - (k + 1)) _ (by omega) ⟨k + 1, G2, ad4, cap4, _, by omega, rfl, hle1.trans hle2, ?_, rfl⟩
    rw [htk]
    exact Rp.L_append (Rp.L_mono hle2 hxs) (Rp.L_single ⟨_, rfl, hr8, htV⟩)
  have hkl : k = av.length := by simp at hjl; omega
  subst hkl
  rw [List.take_length] at hxs
  refine go_rowC 10 rfl ?_
  intro ad5 cap5 e5 hcap5
  injection e5 with q1 q2 q3
  subst q1 q3
  refine go_pubL rW 10 rfl (by rw [hmh]; omega) rfl (by omega) hxs ?_
  intro G2 ad6 cap6 (hle2 : Le G1 G2) e6 hS6
  injection e6 with q1 q2 q3
  subst q1 q3
  refine st_ ?_
  refine rn_ ?_; intros
  rename_i b8 b9
  refine go_torow 1000 (size := 4) rfl rfl ?_
  refine go_drop 0 ?_
  refine go_drop 1 ?_
  refine go_drop 2 ?_
  refine st_ ?_
  refine go_rekey 1001 0 rfl rfl (by rw [hmh]; omega) (by rw [hmh]; omega) ?_
  refine go_rekey 1000 1 rfl rfl (by rw [hmh]; omega) (by rw [hmh]; omega) ?_
  refine go_znil 2 rfl (by rw [hmh]; omega) ?_
  intro Z2
  refine st_ ?_
  refine go_see 0 [.v (.pointer (some ⟨cb, 0, none⟩)), .v (.int .i64 0), .v (.int .i64 0), .v (.int .i64 0), .v (.slice none 0 0), .v (.slice (some ⟨b8, 0, none⟩) 1 1)] rfl rfl ?_
  refine go_slot 11 (.p 0 b9 0) rfl rfl ?_
  refine go_slot 63 (.p 0 b9 0) rfl rfl ?_
  refine go_keep [6, 7, 11, 63] [0, 1, 2, 3, 999] ?_
  refine st_ ?_
  have hle12 := hle1.trans hle2
  refine go_callT [0, 1, 2, 3] (by rw [hnt]; rfl) (by rw [hP]; kernel_rfl) rfl rfl rfl (by rw [hmh]; simp) (by rw [hP]; exact desc_ok b9 cb p _ ⟨0, vt0, [⟨f, 0, av, []⟩]⟩ 600 o _ G2 (hc.mono hle12) (Rp.S_mono hle12 hps) ⟨.slice none 0 0, (.slice (some ⟨b8, 0, none⟩) 1 1), b8, 0, 0, [⟨f, 0, .slice ad3 av.length cap3, rw0⟩], Z2, ⟨by simp [isI64], by simp [isI64], by simp, none, 0, rfl, .inl rfl⟩, by simp [vt0, tsz, tszL], ⟨_, _, rfl, ⟨rfl, rfl, (⟨by omega, by omega⟩ : isI64 f), (by simp [isI64] : isI64 0), fun _ _ _ q => by injection q with _ q2 q3; omega, hS6, rw0_ok _⟩, rfl⟩, by simp, rfl⟩ hd) ?_
  rintro v6 G6 ow6 (hle6 : Le _ G6) ⟨vl6, fs6, c1, c2, c3, rs6, Z6, w1, w2, w3, w4, w5, rfl⟩
  simp only [setO, stk, fhO, frO, fzO, fdO]
  refine rn_ ?_; intros
  have hleA := hle12.trans hle6
  refine x_retT rfl hQ hmh hb0 rfl (by first | (simp; done) | decide) rfl (by rw [hty]; simp only [so, sq, zy, zz, tyE, SO', SQ', opQ, opStore, opAlloc, ev, putS, dOk, cv, SV.cs, SV.one, SV.bool?, eqB, Value.oneCell', ldOwn, binInt, binConst, binBool, binStr, isC, TK.agg, rv, rv1, ldV, resOne, resV, Nat.reduceAdd, Nat.reduceMul, Nat.reduceSub, Nat.reduceLT, Nat.reduceLeDiff, Nat.reduceEqDiff, Nat.reduceBEq, reduceIte, reduceCtorEq, eq_self]; try rfl) rfl (by rw [hrest]; rfl) (by first | exact Le.refl _ | assumption) rfl (by simp only [enumO]; exact (by repeat (first | exact plain_nil | refine plain_cons (fun _ h => h) ?_))) ?_; simp only [SV.den, resV, dens]
  exact ⟨b9, by first | rfl | trivial, vl6, fs6, c1, c2, c3, rs6, Z6, w1, w2, w3, w4, w5, rfl⟩
end Go.Proofs.Ytpppkednpamhbaa
namespace Go.Proofs.Ytpppkednpamhbaa
set_option linter.unusedSimpArgs false
set_option linter.unusedVariables false
open Go.Sx
set_option maxHeartbeats 16000000
set_option maxRecDepth 20000
theorem value_ok (b cb : Nat) (st : Int) (x : VT) (vl fs : Value) (G : Hp) (hx : x.rep G vl) (ht : tsz x ≤ 1000) (hs : sml x = true) :
    PureW Try.prog 13 [.pointer (some ⟨b, 0, none⟩)] G [fhO b cb st x.k x.n vl fs] (fun v G' ow => ow = [fhO b cb st x.k x.n vl fs] ∧ ((st ≠ 3 ∧ v = .tuple #[zeroV, .bool false]) ∨ (st = 3 ∧ ∃ sl, v = .tuple #[.agg #[.int .i64 x.k, .int .i64 x.n, sl], .bool true] ∧ x.rep G' sl))) := by
  obtain ⟨a9, c9, rfl⟩ := VT.rep_slice hx
  refine enterW ty tyok Try.func13 rfl Try.ntmps13 [.p 0 b 0] (by simp) (mh := 1) rfl ?_
  intro C hP hQ hnt hty hmb hmh hro hG0 hmub; have hQp := qp_body hQ; refine st_ ?_
  simp only [enumO]
  refine rn_ ?_; intros
  refine go_callW [0] (by rw [hnt]; rfl) (by rw [hP]; kernel_rfl) rfl rfl rfl (.inr (by rw [hmh]; decide)) (by rw [hP]; exact state_ok b cb st x.k x.n _ fs G) ?_
  rintro v5 G1 ow5 (hle1 : Le G G1) ⟨rfl, rfl⟩
  simp only [setO, stk, fhO]
  refine rn_ ?_; intros
  refine x_split rfl rfl rfl (fun h1 => ?_) (fun h1 => ?_) <;> (refine st_ ?_; (refine ru_ ?_; intros))
  · refine rn_ ?_; intros
    refine x_retW rfl hQ hmb hmh hG0 hmub rfl rfl (by rw [hty]; simp only [so, sq, zy, zz, tyE, SO', SQ', opQ, opStore, opAlloc, ev, putS, dOk, cv, SV.cs, SV.one, SV.bool?, eqB, Value.oneCell', ldOwn, binInt, binConst, binBool, binStr, isC, TK.agg, rv, rv1, ldV, resOne, resV, Nat.reduceAdd, Nat.reduceMul, Nat.reduceSub, Nat.reduceLT, Nat.reduceLeDiff, Nat.reduceEqDiff, Nat.reduceBEq, reduceIte, reduceCtorEq, eq_self]; try rfl) rfl rfl (by simp only [enumO]; exact (by repeat (first | exact plain_nil | refine plain_cons (fun _ h => h) ?_))) ?_; simp only [SV.den, resV, dens]
    exact ⟨rfl, .inl ⟨by simpa using h1, by first | rfl | trivial⟩⟩
  · refine rn_ ?_; intros
    refine go_call (by rw [hnt]; rfl) (by rw [hP]; kernel_rfl) rfl (hP ▸ copy_ok x _ G1 (VT.rep_mono hle1 hx) (by omega)) ?_
    rintro v2 G2 (hle2 : Le G1 G2) (⟨_, a8, c8, rfl, hr8⟩ | ⟨hns, _⟩)
    rotate_left
    · rw [hs] at hns; cases hns
    refine rn_ ?_; intros
    refine x_retW rfl hQ hmb hmh hG0 hmub rfl rfl (by rw [hty]; simp only [so, sq, zy, zz, tyE, SO', SQ', opQ, opStore, opAlloc, ev, putS, dOk, cv, SV.cs, SV.one, SV.bool?, eqB, Value.oneCell', ldOwn, binInt, binConst, binBool, binStr, isC, TK.agg, rv, rv1, ldV, resOne, resV, Nat.reduceAdd, Nat.reduceMul, Nat.reduceSub, Nat.reduceLT, Nat.reduceLeDiff, Nat.reduceEqDiff, Nat.reduceBEq, reduceIte, reduceCtorEq, eq_self]; try rfl) rfl rfl (by simp only [enumO]; exact (by repeat (first | exact plain_nil | refine plain_cons (fun _ h => h) ?_))) ?_; simp only [SV.den, resV, dens]
    exact ⟨rfl, .inr ⟨by simpa using h1, _, rfl, hr8⟩⟩
theorem want_ok (b cb b1 : Nat) (k n : Int) (vl fs ps : Value) (p : Pr) (m : Fm) (l : List Fm) (rs : List Fw) (nd : Nd) (G : Hp) (hc : At G cb 0 [ps]) (hp : rF.S G p ps) (hfs : fsOk G (m :: l) rs) (hnd : ndAt p m.fn m.nd = some nd) (hlm : l.length ≤ 300) (hop : nd.op = 15) :
    PureW Try.prog 22 [.pointer (some ⟨b, 0, none⟩)] G [fhO b cb 2 k n vl fs, frO b1 fs rs] (fun v _ ow => v = .tuple #[.agg #[.int .i64 1, .int .i64 0, .slice none 0 0], .bool true] ∧ ow = [fhO b cb 2 k n vl fs, frO b1 fs rs]) := by
  refine enterW ty tyok Try.func22 rfl Try.ntmps22 [.p 0 b 0] (by simp) (mh := 2) rfl ?_
  intro C hP hQ hnt hty hmb hmh hro hG0 hmub; have hQp := qp_body hQ; refine st_ ?_
  simp only [enumO]
  refine rn_ ?_; intros
  refine go_callW [0] (by rw [hnt]; rfl) (by rw [hP]; kernel_rfl) rfl rfl rfl (.inr (by rw [hmh]; decide)) (by rw [hP]; exact state_ok b cb 2 k n _ fs G) ?_
  rintro v5 G1 ow5 (hle1 : Le G G1) ⟨rfl, rfl⟩
  simp only [setO, stk]
  refine rn_ ?_; intros
  (refine x_split rfl rfl rfl (fun hc => absurd hc (by first | decide +kernel | (simp; first | done | fail))) (fun _ => ?_); refine st_ ?_; (refine ru_ ?_; intros))
  refine rn_ ?_; intros
  refine go_callW [0, 1] (by rw [hnt]; rfl) (by rw [hP]; kernel_rfl) rfl rfl rfl (.inr (by rw [hmh]; decide)) (by rw [hP]; exact last_ok b cb b1 2 k n vl fs ps p m l rs nd G1 (hc.mono hle1) (Rp.S_mono hle1 hp) (hfs.mono hle1) hnd hlm) ?_
  rintro v G2 ow2 (hle2 : Le G1 G2) ⟨rfl, g, cap, sl, rfl, rfl, hrI⟩
  obtain ⟨asl, csl, rfl⟩ := Rp.S_slice hrI
  simp only [setO, stk, fhO, frO]
  refine rn_ ?_; intros
  simp only [hop]
  refine rn_ ?_; intros
  (refine x_split rfl rfl rfl (fun hc => absurd hc (by first | decide +kernel | (simp; first | done | fail))) (fun _ => ?_); refine st_ ?_; (refine ru_ ?_; intros))
  refine rn_ ?_; intros
  (refine x_split rfl rfl rfl (fun hc => absurd hc (by first | decide +kernel | (simp; first | done | fail))) (fun _ => ?_); refine st_ ?_; (refine ru_ ?_; intros))
  refine rn_ ?_; intros
  refine x_retW rfl hQ hmb hmh hG0 hmub rfl rfl (by rw [hty]; simp only [so, sq, zy, zz, tyE, SO', SQ', opQ, opStore, opAlloc, ev, putS, dOk, cv, SV.cs, SV.one, SV.bool?, eqB, Value.oneCell', ldOwn, binInt, binConst, binBool, binStr, isC, TK.agg, rv, rv1, ldV, resOne, resV, Nat.reduceAdd, Nat.reduceMul, Nat.reduceSub, Nat.reduceLT, Nat.reduceLeDiff, Nat.reduceEqDiff, Nat.reduceBEq, reduceIte, reduceCtorEq, eq_self]; try rfl) rfl rfl (by simp only [enumO]; exact (by repeat (first | exact plain_nil | refine plain_cons (fun _ h => h) ?_))) ?_; simp only [SV.den, resV, dens]
  exact ⟨by first | rfl | trivial, rfl⟩
theorem resume_ok (b cb : Nat) (p : Pr) (ps : Value) (s o : Fb) (v : VT) (slv : Value) (ow : Lds) (G : Hp) (hc : At G cb 0 [ps]) (hp : rF.S G p ps) (hfb : fbO G b cb s ow) (hv : v.rep G slv) (hvv : vld v = true) (htv1 : tsz v ≤ 1000) (hst : s.st = 2) (ho : prodF p s v = some o) :
    PureT Try.prog 23 [.pointer (some ⟨b, 0, none⟩), .agg #[.int .i64 v.k, .int .i64 v.n, slv]] G ow (fun r G' ow' => r = .int .i64 0 ∧ fbO G' b cb o ow') := by
  have hchk := check_ok v slv G hv
  rw [show chk v = 0 by simp [chk, hvv]] at hchk
  obtain ⟨vl, fs, b1, b2, b3, rs, Z, hvl, htv, hfs, hl256, hdn, rfl⟩ := hfb
  obtain ⟨a9, c9, rfl⟩ := VT.rep_slice hv
  refine enterT ty tyok Try.func23 rfl Try.ntmps23 [.p 0 b 0, .a [.v (.int .i64 v.k), .v (.int .i64 v.n), .v (.slice a9 v.l.length c9)]] (by simp) (by simp) (plainL (by simp only [enumO]; exact (by repeat (first | exact plain_nil | refine plain_cons (fun _ h => h) ?_)))) ?_
  intro C w0 hP hQ hnt hty hmb hmh hro hG0 hb0; have hQp := qp_body hQ; refine st_ ?_
  generalize hrest : restB w0 _ G = Zr
  simp only [enumO, frO, fzO, fdO, List.cons_append, List.nil_append]
  refine rn_ ?_; intros
  refine go_callW [0] (by rw [hnt]; rfl) (by rw [hP]; kernel_rfl) rfl rfl rfl (.inl (by rw [hmh]; simp)) (by rw [hP]; exact miss_ok b cb s.st s.val.k s.val.n vl fs G) ?_
  rintro v5 G1 ow5 (hle1 : Le G G1) ⟨rfl, rfl⟩
  simp only [setO, stk, fhO]
  refine rn_ ?_; intros
  (refine x_split rfl rfl rfl (fun hc => absurd hc (by first | decide +kernel | (simp; first | done | fail))) (fun _ => ?_); refine st_ ?_; (refine ru_ ?_; intros))
  refine rn_ ?_; intros
  have hck1 := check_ok v _ G1 (VT.rep_mono hle1 hv)
  rw [show chk v = 0 by simp [chk, hvv]] at hck1
  refine go_callf (by rw [hnt]; rfl) (by rw [hP]; kernel_rfl) rfl (hP ▸ hck1) ?_
  refine rn_ ?_; intros
  (refine x_split rfl rfl rfl (fun hc => absurd hc (by first | decide +kernel | (simp; first | done | fail))) (fun _ => ?_); refine st_ ?_; (refine ru_ ?_; intros))
  refine rn_ ?_; intros
  refine x_split rfl rfl rfl (fun h1 => ?_) (fun h1 => ?_) <;> (refine st_ ?_; (refine ru_ ?_; intros))
  · exact absurd hst (by simpa using h1)
  refine rn_ ?_; intros
  refine go_call (by rw [hnt]; rfl) (by rw [hP]; kernel_rfl) rfl (hP ▸ copy_ok v _ G1 (VT.rep_mono hle1 hv) (by omega)) ?_
  rintro v2 G2 (hle2 : Le G1 G2) (⟨_, a8, c8, rfl, hr8⟩ | ⟨hns, _⟩)
  rotate_left
  · simp [vld, hns] at hvv
  refine rn_ ?_; intros
  have hle12 := hle1.trans hle2
  refine go_callT [0, 1, 2, 3] (by rw [hnt]; rfl) (by rw [hP]; kernel_rfl) rfl rfl rfl (by rw [hmh]; simp) (by rw [hP]; exact prod_ok b cb p ps s o v _ _ G2 (hc.mono hle12) (Rp.S_mono hle12 hp) ⟨vl, _, b1, b2, b3, rs, Z, VT.rep_mono hle12 hvl, htv, hfs.mono hle12, hl256, fun m x q q' => Rp.S_mono hle12 (hdn m x q q'), rfl⟩ hr8 htv1 ho) ?_
  rintro v6 G6 ow6 (hle6 : Le _ G6) ⟨vl6, fs6, c1, c2, c3, rs6, Z6, w1, w2, w3, w4, w5, rfl⟩
  simp only [setO, stk, fhO, frO, fzO, fdO]
  refine rn_ ?_; intros
  have hleA := hle12.trans hle6
  refine x_retT rfl hQ hmh hb0 rfl (by first | (simp; done) | decide) rfl (by rw [hty]; simp only [so, sq, zy, zz, tyE, SO', SQ', opQ, opStore, opAlloc, ev, putS, dOk, cv, SV.cs, SV.one, SV.bool?, eqB, Value.oneCell', ldOwn, binInt, binConst, binBool, binStr, isC, TK.agg, rv, rv1, ldV, resOne, resV, Nat.reduceAdd, Nat.reduceMul, Nat.reduceSub, Nat.reduceLT, Nat.reduceLeDiff, Nat.reduceEqDiff, Nat.reduceBEq, reduceIte, reduceCtorEq, eq_self]; try rfl) rfl (by rw [hrest]; rfl) (by first | exact Le.refl _ | assumption) rfl (by simp only [enumO]; exact (by repeat (first | exact plain_nil | refine plain_cons (fun _ h => h) ?_))) ?_; simp only [SV.den, resV, dens]
  exact ⟨by first | rfl | trivial, vl6, fs6, c1, c2, c3, rs6, Z6, w1, w2, w3, w4, w5, rfl⟩
end Go.Proofs.Ytpppkednpamhbaa
namespace Go.Proofs.Ytpppkednpamhbaa
set_option linter.unusedSimpArgs false
set_option linter.unusedVariables false
open Go.Sx
set_option maxRecDepth 100000
set_option maxHeartbeats 4000000
def iV (k : Int) : VT := .mk 2 k []
def givenP : Pr := [⟨0, [⟨4, 0, [1, 2]⟩, ⟨1, 5, []⟩, ⟨6, 0, [3, 4]⟩, ⟨3, 0, []⟩, ⟨1, 2, []⟩]⟩, ⟨1, [⟨5, 0, [1, 2, 3]⟩, ⟨3, 0, []⟩, ⟨13, 1, [4]⟩, ⟨15, 0, []⟩, ⟨7, 0, [5, 6]⟩, ⟨3, 0, []⟩, ⟨1, 1, []⟩]⟩]
def rS (k : Int) : Fb := ⟨1, vt0, [⟨1, 1, [iV k], []⟩, ⟨1, 0, [iV k], []⟩]⟩
theorem wrap_le {k : Int} (h0 : 0 ≤ k) (h1 : k ≤ 1000000) : IntKind.i64.wrap k = k := wr (by omega) (by omega)
theorem given_wh : (whP givenP).2.2 = 0 := by rfl
theorem given_bd : bdP givenP := by
  refine ⟨by decide, ?_⟩
  intro f hf
  simp only [givenP, List.mem_cons, List.not_mem_nil, or_false] at hf
  rcases hf with rfl | rfl
  all_goals
    refine ⟨by decide, ?_⟩
    intro x hx
    simp only [List.mem_cons, List.not_mem_nil, or_false] at hx
    rcases hx with rfl | rfl | rfl | rfl | rfl | rfl | rfl <;> decide
theorem given_d0 : downF givenP 600 [⟨0, 0, [], []⟩] = some (1, [⟨0, 1, [], []⟩, ⟨0, 0, [], []⟩]) := by rfl
theorem given_r0 : runP givenP 99 ⟨1, vt0, [⟨0, 1, [], []⟩, ⟨0, 0, [], []⟩]⟩ = some (4, ⟨3, iV 7, []⟩) := by rfl
theorem given_d1 : downF givenP 600 [⟨1, 0, [iV 1000], []⟩] = some (1, (rS 1000).l) := by rfl
theorem given_du : downF givenP 600 [⟨1, 0, [.mk 1 0 []], []⟩] = some (1, [⟨1, 1, [.mk 1 0 []], []⟩, ⟨1, 0, [.mk 1 0 []], []⟩]) := by rfl
theorem given_ru : runP givenP 9 ⟨1, vt0, [⟨1, 1, [.mk 1 0 []], []⟩, ⟨1, 0, [.mk 1 0 []], []⟩]⟩ = some (1, ⟨4, vt0, []⟩) := by rfl
def chS : Fb := ⟨2, vt0, [⟨1, 3, [iV 0], []⟩]⟩
theorem given_p : prodF givenP chS (.mk 4 3 []) = some ⟨3, .mk 4 3 [], []⟩ := by rfl
theorem given_z (q : Nat) : runP givenP (q + 2) (rS 0) = some (1, chS) := by rfl
theorem given_5 (j q : Nat) : runP givenP (q + 5) (rS ((j + 1 : Nat) : Int)) = (((((runP givenP q (rS (IntKind.i64.wrap (((j + 1 : Nat) : Int) - 1)))).map fun o => (o.1 + 1, o.2)).map fun o => (o.1 + 1, o.2)).map fun o => (o.1 + 1, o.2)).map fun o => (o.1 + 1, o.2)).map fun o => (o.1 + 1, o.2) := by rfl
theorem given_j : ∀ (j q : Nat), j ≤ 1000 → runP givenP (q + 2 + 5 * j) (rS (j : Int)) = some (5 * j + 1, chS)
  | 0, q, _ => given_z q
  | j + 1, q, h => by
    have ih := given_j j q (by omega)
    rw [show q + 2 + 5 * (j + 1) = (q + 2 + 5 * j) + 5 by omega, given_5, show (((j + 1 : Nat) : Int) - 1) = (j : Int) by omega, wrap_le (by omega) (by omega), ih]
    simp only [Option.map_some, Option.some.injEq, Prod.mk.injEq, and_true]
    omega
theorem given_r1 : runP givenP 9999 (rS 1000) = some (5001, chS) := given_j 1000 4997 (by omega)
def nsF : Nat → List Nd × Nat
  | 0 => ([⟨5, 0, [1, 2, 3]⟩, ⟨3, 0, []⟩, ⟨0, 0, []⟩, ⟨2, 0, []⟩], 2)
  | i + 1 => ((nsF i).1.set (nsF i).2 ⟨4, 0, [((nsF i).1.length : Int), (nsF i).1.length + 1]⟩ ++ [⟨1, i, []⟩, ⟨0, 0, []⟩], (nsF i).1.length + 1)
def nsE (m : Nat) : List Nd := (nsF m).1.set (nsF m).2 ⟨13, 1, [((nsF m).1.length : Int)]⟩ ++ [⟨7, 0, [((nsF m).1.length : Int) + 1, (nsF m).1.length + 2]⟩, ⟨3, 0, []⟩, ⟨1, 1, []⟩]
def tailP (m : Nat) : Pr := [⟨0, [⟨2, 0, []⟩]⟩, ⟨1, nsE m⟩]
theorem nsF_len : ∀ i : Nat, (nsF i).1.length = 4 + 2 * i ∧ (nsF i).2 < 4 + 2 * i
  | 0 => by decide
  | i + 1 => by
    obtain ⟨h1, h2⟩ := nsF_len i
    simp only [nsF, List.length_append, List.length_set, h1, List.length_cons, List.length_nil]
    omega
def atN : Nat → Nat
  | 0 => 2
  | i + 1 => 5 + 2 * i
theorem nsF_at : ∀ i : Nat, (nsF i).2 = atN i
  | 0 => rfl
  | i + 1 => by
    show (nsF i).1.length + 1 = 5 + 2 * i
    rw [(nsF_len i).1]; omega
def ndT (n : Nat) : Nd := if n = 0 then ⟨5, 0, [1, 2, 3]⟩ else if n = 1 then ⟨3, 0, []⟩ else if n = 2 then ⟨4, 0, [4, 5]⟩ else if n = 3 then ⟨2, 0, []⟩ else if n % 2 = 0 then ⟨1, ((n - 4) / 2 : Nat), []⟩ else ⟨4, 0, [(n + 1 : Nat), (n + 2 : Nat)]⟩
theorem atN_lt (i : Nat) : atN i < 4 + 2 * i ∧ (2 ≤ atN i) ∧ (atN i = 2 ∨ atN i % 2 = 1) ∧ atN i ≠ 3 ∧ atN i ≠ 4 + 2 * i ∧ atN i ≠ 5 + 2 * i := by
  cases i with
  | zero => decide
  | succ i => show 5 + 2 * i < _ ∧ 2 ≤ 5 + 2 * i ∧ (5 + 2 * i = 2 ∨ (5 + 2 * i) % 2 = 1) ∧ 5 + 2 * i ≠ 3 ∧ 5 + 2 * i ≠ _ ∧ 5 + 2 * i ≠ _; omega
theorem ndT_at (i : Nat) : ndT (atN i) = ⟨4, 0, [((4 + 2 * i : Nat) : Int), ((4 + 2 * i : Nat) : Int) + 1]⟩ := by
  cases i with
  | zero => rfl
  | succ i =>
    show ndT (5 + 2 * i) = _
    simp only [ndT]
    rw [if_neg (show ¬ 5 + 2 * i = 0 by omega), if_neg (show ¬ 5 + 2 * i = 1 by omega), if_neg (show ¬ 5 + 2 * i = 2 by omega), if_neg (show ¬ 5 + 2 * i = 3 by omega), if_neg (show ¬ (5 + 2 * i) % 2 = 0 by omega)]
    rw [show 5 + 2 * i + 1 = 4 + 2 * (i + 1) by omega, show ((5 + 2 * i + 2 : Nat) : Int) = ((4 + 2 * (i + 1) : Nat) : Int) + 1 by omega]
theorem ndT_even (i : Nat) : ndT (4 + 2 * i) = ⟨1, i, []⟩ := by
  simp only [ndT]
  rw [if_neg (show ¬ 4 + 2 * i = 0 by omega), if_neg (show ¬ 4 + 2 * i = 1 by omega), if_neg (show ¬ 4 + 2 * i = 2 by omega), if_neg (show ¬ 4 + 2 * i = 3 by omega), if_pos (show (4 + 2 * i) % 2 = 0 by omega)]
  rw [show (4 + 2 * i - 4) / 2 = i by omega]
theorem nsF_get : ∀ (i n : Nat), (nsF i).1[n]? = if 4 + 2 * i ≤ n then none else if n = atN i then some ⟨0, 0, []⟩ else some (ndT n)
  | 0, n => by
    match n with
    | 0 => rfl
    | 1 => rfl
    | 2 => rfl
    | 3 => rfl
    | n + 4 => simp [nsF]
  | i + 1, n => by
    have ih := nsF_get i
    obtain ⟨hl, hlt⟩ := nsF_len i
    obtain ⟨a1, a2, a3, a4, a5, a6⟩ := atN_lt i
    simp only [nsF]
    rw [nsF_at]
    rcases Nat.lt_or_ge n (4 + 2 * i) with h | h
    · rw [List.getElem?_append_left (by rw [List.length_set, hl]; exact h), List.getElem?_set, if_neg (show ¬ 4 + 2 * (i + 1) ≤ n by omega), if_neg (show ¬ n = atN (i + 1) by simp only [atN]; omega)]
      split
      · rename_i he
        subst he
        rw [if_pos (show atN i < (nsF i).1.length by omega), ndT_at, hl]
      · rename_i he
        rw [ih n, if_neg (show ¬ 4 + 2 * i ≤ n by omega), if_neg (fun q => he q.symm)]
    · rw [List.getElem?_append_right (by rw [List.length_set, hl]; exact h), List.length_set, hl]
      rcases Nat.lt_or_ge n (6 + 2 * i) with h2 | h2
      · rw [if_neg (show ¬ 4 + 2 * (i + 1) ≤ n by omega)]
        rcases Nat.lt_or_ge n (5 + 2 * i) with h3 | h3
        · have : n = 4 + 2 * i := by omega
          subst this
          rw [Nat.sub_self, if_neg (show ¬ 4 + 2 * i = atN (i + 1) by simp only [atN]; omega), ndT_even]
          rfl
        · have : n = 5 + 2 * i := by omega
          subst this
          rw [show 5 + 2 * i - (4 + 2 * i) = 1 by omega, if_pos (by simp only [atN])]
          rfl
      · rw [if_pos (show 4 + 2 * (i + 1) ≤ n by omega), List.getElem?_eq_none (by simp only [List.length_cons, List.length_nil]; omega)]
theorem nsE_get (m n : Nat) : (nsE m)[n]? = if n < 4 + 2 * m then (if n = atN m then some ⟨13, 1, [((4 + 2 * m : Nat) : Int)]⟩ else some (ndT n)) else if n = 4 + 2 * m then some ⟨7, 0, [((4 + 2 * m : Nat) : Int) + 1, ((4 + 2 * m : Nat) : Int) + 2]⟩ else if n = 5 + 2 * m then some ⟨3, 0, []⟩ else if n = 6 + 2 * m then some ⟨1, 1, []⟩ else none := by
  obtain ⟨hl, hlt⟩ := nsF_len m
  obtain ⟨a1, a2, a3, a4, a5, a6⟩ := atN_lt m
  simp only [nsE]
  rw [nsF_at, hl]
  split
  · rename_i h
    rw [List.getElem?_append_left (by rw [List.length_set, hl]; exact h), List.getElem?_set]
    split
    · rename_i he
      subst he
      rw [if_pos (show atN m < (nsF m).1.length by omega), if_pos rfl]
    · rename_i he
      rw [nsF_get, if_neg (show ¬ 4 + 2 * m ≤ n by omega), if_neg (fun q => he q.symm), if_neg (fun q => he q.symm)]
  · rename_i h
    rw [List.getElem?_append_right (by rw [List.length_set, hl]; omega), List.length_set, hl]
    split
    · rename_i he; subst he; rw [Nat.sub_self]; rfl
    · split
      · rename_i he; subst he; rw [show 5 + 2 * m - (4 + 2 * m) = 1 by omega]; rfl
      · split
        · rename_i he; subst he; rw [show 6 + 2 * m - (4 + 2 * m) = 2 by omega]; rfl
        · rw [List.getElem?_eq_none (by simp only [List.length_cons, List.length_nil]; omega)]
theorem tl_at (m n : Nat) : ndAt (tailP m) 1 (n : Int) = (nsE m)[n]? := by
  simp only [ndAt, tailP]
  rw [if_pos (show (0 : Int) ≤ 1 ∧ (0 : Int) ≤ (n : Int) by omega)]
  rfl
end Go.Proofs.Ytpppkednpamhbaa
namespace Go.Proofs.Ytpppkednpamhbaa
set_option linter.unusedSimpArgs false
set_option linter.unusedVariables false
open Go.Sx
set_option maxHeartbeats 16000000
set_option maxRecDepth 20000
theorem rI_Lm {G : Hp} : ∀ {l : List Int}, (∀ n ∈ l, isI64 n) → rI.L G l (l.map (.int .i64 ·))
  | [], _ => rfl
  | x :: l, h => ⟨[.int .i64 x], _, rfl, ⟨rfl, h x (by simp)⟩, rI_Lm fun n hn => h n (by simp [hn])⟩
theorem rI_mk {G : Hp} {b cap : Nat} {l : List Int} {cs : List Value} (h : At G b 0 cs) (hcs : cs = l.map (.int .i64 ·)) (hl : ∀ n ∈ l, isI64 n) (hn : l.length ≤ 1000) : rI.S G l (.slice (some ⟨b, 0, none⟩) l.length cap) := by
  subst hcs
  exact ⟨by omega, _, _, rfl, .inr ⟨b, 0, _, rfl, h, rI_Lm hl⟩⟩
theorem rN_c {G : Hp} {op n : Int} {l : List Int} {sl : Value} {ns : List Nd} {cs : List Value} (h1 : isI64 op) (h2 : isI64 n) (h3 : rI.S G l sl) (h : rN.L G ns cs) : rN.L G (⟨op, n, l⟩ :: ns) (.int .i64 op :: .int .i64 n :: sl :: cs) :=
  ⟨[.int .i64 op, .int .i64 n, sl], cs, rfl, ⟨sl, rfl, h1, h2, h3⟩, h⟩
theorem rN_mk {G : Hp} {b cap : Nat} {l : List Nd} {cs : List Value} (h : At G b 0 cs) (hl : rN.L G l cs) (hn : l.length ≤ 1000) : rN.S G l (.slice (some ⟨b, 0, none⟩) l.length cap) := ⟨by omega, _, _, rfl, .inr ⟨b, 0, _, rfl, h, hl⟩⟩
theorem rF_mk {G : Hp} {b cap : Nat} {l : List Fu} {cs : List Value} (h : At G b 0 cs) (hl : rF.L G l cs) (hn : l.length ≤ 1000) : rF.S G l (.slice (some ⟨b, 0, none⟩) l.length cap) := ⟨by omega, _, _, rfl, .inr ⟨b, 0, _, rfl, h, hl⟩⟩
theorem numL_ok (e : Int) (G : Hp) : Pure Try.prog 9 [.int .i64 e] G (fun v _ => v = .int .i64 e) := by
  refine enterX ty tyok Try.func9 rfl Try.ntmps9 [.v (.int .i64 e)] (by simp) ?_
  intro C hP hQ hnt hty hmb hmh hro; have hQp := qp_body hQ; refine st_ ?_
  refine rn_ ?_; intros
  refine x_ret rfl hQ hmb (by rw [hty]; rfl) rfl ?_; simp only [SV.den, resV]
theorem numb_ok (n : Int) (G : Hp) : Pure Try.prog 8 [.int .i64 n] G (fun v _ => v = .agg #[.int .i64 2, .int .i64 n, .slice none 0 0]) := by
  refine enterX ty tyok Try.func8 rfl Try.ntmps8 [.v (.int .i64 n)] (by simp) ?_
  intro C hP hQ hnt hty hmb hmh hro; have hQp := qp_body hQ; refine st_ ?_
  refine rn_ ?_; intros
  refine x_retc rfl hQ hmb rfl (by rw [hty]; simp only [so, sq, zy, zz, tyE, SO', SQ', opQ, opStore, opAlloc, ev, putS, dOk, cv, SV.cs, SV.one, SV.bool?, eqB, Value.oneCell', ldOwn, binInt, binConst, binBool, binStr, isC, TK.agg, rv, rv1, ldV, resOne, resV, Nat.reduceAdd, Nat.reduceMul, Nat.reduceSub, Nat.reduceLT, Nat.reduceLeDiff, Nat.reduceEqDiff, Nat.reduceBEq, reduceIte, reduceCtorEq, eq_self]; try rfl) rfl ?_; simp only [SV.den, resV, dens]
theorem given_ok (G : Hp) : Pure Try.prog 21 [] G (fun v G' => ∃ ps, v = .agg #[ps] ∧ rF.S G' givenP ps) := by
  refine enterX ty tyok Try.func21 rfl Try.ntmps21 [] (by simp) ?_
  intro C hP hQ hnt hty hmb hmh hro; have hQp := qp_body hQ; refine st_ ?_
  refine rn_ ?_; intros
  rename_i b0 b1 b2 b3 b4 b5 b6 b7 b8
  refine go_pub 1 rfl (by omega) ?_
  intro G1 (hle1 : Le G G1) hG1
  refine go_pub 2 rfl (by omega) ?_
  intro G2 (hle2 : Le G1 G2) hG2
  refine go_pub 3 rfl (by omega) ?_
  intro G3 (hle3 : Le G2 G3) hG3
  refine go_pub 4 rfl (by omega) ?_
  intro G4 (hle4 : Le G3 G4) hG4
  refine go_pub 5 rfl (by omega) ?_
  intro G5 (hle5 : Le G4 G5) hG5
  refine go_pub 6 rfl (by omega) ?_
  intro G6 (hle6 : Le G5 G6) hG6
  refine go_pub 7 rfl (by omega) ?_
  intro G7 (hle7 : Le G6 G7) hG7
  refine go_pub 8 rfl (by omega) ?_
  intro G8 (hle8 : Le G7 G8) hG8
  refine st_ ?_
  refine rn_ ?_; intros
  refine x_retc rfl hQ hmb rfl (by rw [hty]; simp only [so, sq, zy, zz, tyE, SO', SQ', opQ, opStore, opAlloc, ev, putS, dOk, cv, SV.cs, SV.one, SV.bool?, eqB, Value.oneCell', ldOwn, binInt, binConst, binBool, binStr, isC, TK.agg, rv, rv1, ldV, resOne, resV, Nat.reduceAdd, Nat.reduceMul, Nat.reduceSub, Nat.reduceLT, Nat.reduceLeDiff, Nat.reduceEqDiff, Nat.reduceBEq, reduceIte, reduceCtorEq, eq_self]; try rfl) rfl ?_; simp only [SV.den, resV, dens]
  have q1 := (at_cells hG1).mono (((((((hle2).trans hle3).trans hle4).trans hle5).trans hle6).trans hle7).trans hle8)
  have q2 := (at_cells hG2).mono ((((((hle3).trans hle4).trans hle5).trans hle6).trans hle7).trans hle8)
  have q3 := (at_cells hG3).mono (((((hle4).trans hle5).trans hle6).trans hle7).trans hle8)
  have q4 := (at_cells hG4).mono ((((hle5).trans hle6).trans hle7).trans hle8)
  have q5 := (at_cells hG5).mono (((hle6).trans hle7).trans hle8)
  have q6 := (at_cells hG6).mono ((hle7).trans hle8)
  have q7 := (at_cells hG7).mono (hle8)
  have q8 := at_cells hG8
  refine ⟨_, rfl, rF_mk (l := givenP) q8 (rF_cons (by simp [isI64]) (rN_mk q3 (rN_c (by simp [isI64]) (by simp [isI64]) (rI_mk q1 rfl (by simp [isI64]) (by simp)) (rN_c (by simp [isI64]) (by simp [isI64]) (Rp.S_nil _ _) (rN_c (by simp [isI64]) (by simp [isI64]) (rI_mk q2 rfl (by simp [isI64]) (by simp)) (rN_c (by simp [isI64]) (by simp [isI64]) (Rp.S_nil _ _) (rN_c (by simp [isI64]) (by simp [isI64]) (Rp.S_nil _ _) rfl))))) (by simp)) (rF_cons (by simp [isI64]) (rN_mk q7 (rN_c (by simp [isI64]) (by simp [isI64]) (rI_mk q4 rfl (by simp [isI64]) (by simp)) (rN_c (by simp [isI64]) (by simp [isI64]) (Rp.S_nil _ _) (rN_c (by simp [isI64]) (by simp [isI64]) (rI_mk q5 rfl (by simp [isI64]) (by simp)) (rN_c (by simp [isI64]) (by simp [isI64]) (Rp.S_nil _ _) (rN_c (by simp [isI64]) (by simp [isI64]) (rI_mk q6 rfl (by simp [isI64]) (by simp)) (rN_c (by simp [isI64]) (by simp [isI64]) (Rp.S_nil _ _) (rN_c (by simp [isI64]) (by simp [isI64]) (Rp.S_nil _ _) rfl))))))) (by simp)) rfl)) (by decide)⟩
end Go.Proofs.Ytpppkednpamhbaa
namespace Go.Proofs.Ytpppkednpamhbaa
set_option linter.unusedSimpArgs false
set_option linter.unusedVariables false
open Go.Sx
set_option maxHeartbeats 40000000
set_option maxRecDepth 20000
theorem rW_one {G : Hp} {b c : Nat} {k n : Int} (h : At G b 0 [.int .i64 k, .int .i64 n, .slice none 0 0]) (hk : isI64 k) (hn : isI64 n) : rW.S G [.mk k n []] (.slice (some ⟨b, 0, none⟩) 1 c) :=
  ⟨by simp, _, _, rfl, .inr ⟨b, 0, _, rfl, h, [_, _, _], [], rfl, ⟨_, rfl, ⟨hk, hn, by simp, none, 0, rfl, .inl rfl⟩, by simp [tsz, tszL]⟩, rfl⟩⟩
theorem rep0 {G : Hp} {k n : Int} (hk : isI64 k) (hn : isI64 n) : (VT.mk k n []).rep G (.slice none 0 0) := ⟨hk, hn, by simp, none, 0, rfl, .inl rfl⟩
theorem wB {C : Ctx} (hP : C.P = Try.prog) (hQ : C.Q = bodyPost C.P Try.f5 (Ret [] C.w0 C.G0 (fun v _ => v = .bool true))) (hnt : C.nt = 201) (hty : C.ty = ty) (hmb : C.mb = []) (hmh : C.mh = 0) (hro : C.ro = none)
    (cb bb c1 c2 c3 : Nat) (vlb fsb ps : Value) (rsd : List Fw) (Zb : Nat → Prop) (G : Hp) (hc : At G cb 0 [ps]) (hp : rF.S G givenP ps) (v1 : vt0.rep G vlb) (v2 : tsz vt0 ≤ 1000) (v3 : fsOk G chS.l rsd) (v4 : chS.l.length ≤ 256) (v5 : ∀ m x, chS.l.head? = some m → rsd.head? = some x → rW.S G m.done x.done.v) :
    SGo C [.code (Go.Sx.c2 (Go.Sx.c1 (Go.Sx.c2 (Go.Sx.c2 (Go.Sx.c2 (Go.Sx.c2 (Go.Sx.c2 (Go.Sx.c2 (Go.Sx.c2 (Go.Sx.c2 (Go.Sx.c2 (Try.f5.body.getD .skip)))))))))))), .code (Go.Sx.c2 (Go.Sx.c2 (Go.Sx.c2 (Go.Sx.c2 (Go.Sx.c2 (Go.Sx.c2 (Go.Sx.c2 (Go.Sx.c2 (Go.Sx.c2 (Go.Sx.c2 (Try.f5.body.getD .skip)))))))))))] ⟨[(0, .b false), (1, .v (.pointer (some ⟨cb, 0, none⟩))), (10, .v (.pointer (some ⟨bb, 0, none⟩))), (127, .b false)],
      [(30, bb, .c 80 [.v (.pointer (some ⟨cb, 0, none⟩)), .v (.int .i64 2), .v (.int .i64 vt0.k), .v (.int .i64 vt0.n), .v vlb, .v fsb]), (31, c1, .row fsb 77 4 rsd.length (encF rsd)), (32, c2, .z (ZR ((rsd.drop 1).map (·.done))) Zb Zb), (33, c3, .row rw0.v rw0.e rw0.size rw0.n rw0.xs)], G, []⟩ := by
  have hQp := qp_body hQ
  refine rn_ ?_; intros
  refine go_callT [30, 31, 32, 33] (by rw [hnt]; rfl) (by rw [hP]; kernel_rfl) rfl rfl rfl (by rw [hmh]; simp) (by rw [hP]; exact resume_ok bb cb givenP ps chS ⟨3, .mk 4 3 [], []⟩ (.mk 4 3 []) (.slice none 0 0) _ G hc hp ⟨vlb, fsb, c1, c2, c3, rsd, Zb, v1, v2, v3, v4, v5, rfl⟩ (rep0 (by simp [isI64]) (by simp [isI64])) rfl (by simp [tsz, tszL]) rfl given_p) ?_
  clear v1 v2 v3 v4 v5
  rintro _ G1 ow1 (hle1 : Le G G1) ⟨rfl, vlb, fsb, c1, c2, c3, rse, Zb, v1, v2, v3, v4, v5, rfl⟩
  simp only [setO, fhO, frO, fzO, fdO]
  refine st_ ?_
  refine rn_ ?_; intros
  refine go_callW [30] (by rw [hnt]; rfl) (by rw [hP]; kernel_rfl) rfl rfl rfl (.inl (by rw [hmh]; simp)) (by rw [hP]; exact value_ok bb cb 3 (.mk 4 3 []) vlb fsb G1 v1 v2 rfl) ?_
  rintro _ G2 ow2 (hle2 : Le G1 G2) ⟨rfl, ⟨q, _⟩ | ⟨_, slx, rfl, hrx⟩⟩
  · exact absurd rfl q
  obtain ⟨y1, y2, rfl⟩ := VT.rep_slice hrx
  simp only [setO, fhO, frO, fzO, fdO]
  refine st_ ?_
  refine rn_ ?_; intros
  rename_i b34 b35 b36
  refine go_pub 36 rfl (by omega) ?_
  intro G3 (hle3 : Le G2 G3) hG3
  refine go_nilrow 40 43 3 rfl (by omega) ?_
  refine go_nilrow 41 43 3 rfl (by omega) ?_
  refine go_nilrow 42 43 3 rfl (by omega) ?_
  refine go_nilrow 43 43 3 rfl (by omega) ?_
  refine st_ ?_
  have hle13 := (hle1.trans hle2).trans hle3
  have hc3 := hc.mono hle13
  have hp3 := Rp.S_mono hle13 hp
  refine go_callT [40, 41, 42, 43] (by rw [hnt]; rfl) (by rw [hP]; kernel_rfl) rfl rfl rfl (by rw [hmh]; simp) (by rw [hP]; exact begin_ok givenP ps cb 1 [.mk 1 0 []] (.slice (some ⟨b36, 0, none⟩) 1 1) _ G3 hc3 hp3 (by omega) (by decide) (by decide) rfl (by simp) (rW_one (at_cells hG3) (by simp [isI64]) (by simp [isI64])) (by simp; rfl) given_du) ?_
  rintro _ G4 ow4 (hle4 : Le G3 G4) ⟨bd, rfl, vld', fsd, d1, d2, d3, rsf, Zd, w1, w2, w3, w4, w5, rfl⟩
  simp only [setO, fhO, frO, fzO, fdO]
  refine st_ ?_
  refine rn_ ?_; intros
  have hc4 := hc3.mono hle4
  have hp4 := Rp.S_mono hle4 hp3
  refine go_keep [0, 1, 10, 16, 17, 18, 19, 20, 21, 145] [30, 31, 32, 33, 34, 35, 40, 41, 42, 43] ?_
  refine st_ ?_
  refine go_callT [40, 41, 42, 43] (by rw [hnt]; rfl) (by rw [hP]; kernel_rfl) rfl rfl rfl (by rw [hmh]; simp) (by rw [hP]; exact run_ok bd cb givenP ps ⟨1, vt0, [⟨1, 1, [.mk 1 0 []], []⟩, ⟨1, 0, [.mk 1 0 []], []⟩]⟩ ⟨4, vt0, []⟩ 9 1 _ G4 (by omega) (by omega) hc4 hp4 ⟨vld', fsd, d1, d2, d3, rsf, Zd, w1, w2, w3, w4, w5, rfl⟩ given_ru) ?_
  clear w1 w2 w3 w4 w5
  rintro _ G5 ow5 (hle5 : Le G4 G5) ⟨rfl, vld', fsd, d1, d2, d3, rsg, Zd, w1, w2, w3, w4, w5, rfl⟩
  simp only [setO, fhO, frO, fzO, fdO]
  refine st_ ?_
  refine rn_ ?_; intros
  have hc5 := hc4.mono hle5
  have hp5 := Rp.S_mono hle5 hp4
  refine go_keep [0, 1, 10, 16, 17, 18, 19, 20, 21, 22, 23, 150] [30, 31, 32, 33, 34, 35, 40, 41, 42, 43] ?_
  refine st_ ?_
  have hle15 := hle4.trans hle5
  have hsame : Pure Try.prog 20 [.agg #[.int .i64 (VT.mk 4 3 []).k, .int .i64 (VT.mk 4 3 []).n, .slice y1 (VT.mk 4 3 []).l.length y2], .agg #[.int .i64 4, .int .i64 3, .slice none 0 0]] G5 (fun r _ => r = .bool true) :=
    (refSame_ok (.mk 4 3 []) (.mk 4 3 []) _ _ G5 (VT.rep_mono (hle3.trans hle15) hrx) (rep0 (by simp [isI64]) (by simp [isI64])) (by decide +kernel) (by decide +kernel)).val (by rfl)
  have hcE := begin_err givenP ps cb 2 none 0 0 4 G5 hc5 hp5 (by decide) (.inl ⟨.inr (by decide), rfl⟩)
  have hcF := begin_err givenP ps cb 1 none 0 0 2 G5 hc5 hp5 (by decide) (.inr ⟨by decide, by decide, by decide, rfl⟩)
  refine go_callf (by rw [hnt]; rfl) (by rw [hP]; kernel_rfl) rfl (hP ▸ hcE) ?_; refine rn_ ?_; intros
  refine go_callf (by rw [hnt]; rfl) (by rw [hP]; kernel_rfl) rfl (hP ▸ hcF) ?_; refine rn_ ?_; intros
  refine go_callf (by rw [hnt]; rfl) (by rw [hP]; kernel_rfl) rfl (hP ▸ numL_ok 0 _) ?_; refine rn_ ?_; intros
  refine go_callf (by rw [hnt]; rfl) (by rw [hP]; kernel_rfl) rfl (hP ▸ numL_ok 0 _) ?_; refine rn_ ?_; intros
  refine go_callf (by rw [hnt]; rfl) (by rw [hP]; kernel_rfl) rfl (hP ▸ numL_ok 0 _) ?_; refine rn_ ?_; intros
  (refine go_gsplit rfl rfl (fun _ => ?_) (fun hc => absurd hc (by first | decide +kernel | (simp; first | done | fail))); refine st_ ?_; (refine rn_ ?_; intros))
  (refine go_gsplit rfl rfl (fun _ => ?_) (fun hc => absurd hc (by first | decide +kernel | (simp; first | done | fail))); refine st_ ?_; (refine rn_ ?_; intros))
  refine go_callf (by rw [hnt]; rfl) (by rw [hP]; kernel_rfl) rfl (hP ▸ hsame) ?_; refine rn_ ?_; intros
  (refine go_gsplit rfl rfl (fun _ => ?_) (fun hc => absurd hc (by first | decide +kernel | (simp; first | done | fail))); refine st_ ?_; (refine rn_ ?_; intros))
  have hst : stepP givenP ⟨3, .mk 4 3 [], []⟩ = some (100, ⟨3, .mk 4 3 [], []⟩) := rfl
  have hle05 := (hle2.trans hle3).trans hle15
  refine go_callT [30, 31, 32, 33] (by rw [hnt]; rfl) (by rw [hP]; kernel_rfl) rfl rfl rfl (by rw [hmh]; simp) (by rw [hP]; exact step_ok bb cb givenP ps ⟨3, .mk 4 3 [], []⟩ ⟨3, .mk 4 3 [], []⟩ 100 _ G5 hc5 hp5 ⟨vlb, fsb, c1, c2, c3, rse, Zb, VT.rep_mono hle05 v1, v2, v3.mono hle05, v4, fun m x q q' => Rp.S_mono hle05 (v5 m x q q'), rfl⟩ hst) ?_
  rintro _ G6 ow6 (hle6 : Le G5 G6) ⟨rfl, vlc, fsc, e1, e2, e3, rsh, Ze, x1, x2, x3, x4, x5, rfl⟩
  simp only [setO, fhO, frO, fzO, fdO]
  refine st_ ?_
  refine rn_ ?_; intros
  refine go_callf (by rw [hnt]; rfl) (by rw [hP]; kernel_rfl) rfl (hP ▸ numL_ok 100 _) ?_; refine rn_ ?_; intros
  (refine go_gsplit rfl rfl (fun _ => ?_) (fun hc => absurd hc (by first | decide +kernel | (simp; first | done | fail))); refine st_ ?_; (refine rn_ ?_; intros))
  (refine go_gsplit rfl rfl (fun _ => ?_) (fun hc => absurd hc (by first | decide +kernel | (simp; first | done | fail))); refine st_ ?_; (refine rn_ ?_; intros))
  refine go_callW [40] (by rw [hnt]; rfl) (by rw [hP]; kernel_rfl) rfl rfl rfl (.inl (by rw [hmh]; simp)) (by rw [hP]; exact state_ok bd cb 4 vt0.k vt0.n vld' fsd G6) ?_
  rintro _ G7 ow7 (hle7 : Le G6 G7) ⟨rfl, rfl⟩
  simp only [setO, fhO, frO, fzO, fdO]
  refine st_ ?_
  refine rn_ ?_; intros
  (refine go_gsplit rfl rfl (fun _ => ?_) (fun hc => absurd hc (by first | decide +kernel | (simp; first | done | fail))); refine st_ ?_; (refine rn_ ?_; intros))
  refine go_callf (by rw [hnt]; rfl) (by rw [hP]; kernel_rfl) rfl (hP ▸ numL_ok 4 _) ?_; refine rn_ ?_; intros
  (refine go_gsplit rfl rfl (fun _ => ?_) (fun hc => absurd hc (by first | decide +kernel | (simp; first | done | fail))); refine st_ ?_; (refine rn_ ?_; intros))
  refine go_callf (by rw [hnt]; rfl) (by rw [hP]; kernel_rfl) rfl (hP ▸ numL_ok 2 _) ?_; refine rn_ ?_; intros
  refine x_retc rfl hQ hmb rfl (by rw [hty]; simp only [so, sq, zy, zz, tyE, SO', SQ', opQ, opStore, opAlloc, ev, putS, dOk, cv, SV.cs, SV.one, SV.bool?, eqB, Value.oneCell', ldOwn, binInt, binConst, binBool, binStr, isC, TK.agg, rv, rv1, ldV, resOne, resV, Nat.reduceAdd, Nat.reduceMul, Nat.reduceSub, Nat.reduceLT, Nat.reduceLeDiff, Nat.reduceEqDiff, Nat.reduceBEq, reduceIte, reduceCtorEq, eq_self]; try rfl) rfl ?_; simp only [SV.den, resV, dens]
end Go.Proofs.Ytpppkednpamhbaa
namespace Go.Proofs.Ytpppkednpamhbaa
set_option linter.unusedSimpArgs false
set_option linter.unusedVariables false
open Go.Sx
set_option maxHeartbeats 40000000
set_option maxRecDepth 20000
theorem works10_ok (G : Hp) : Pure Try.prog 5 [] G (fun v _ => v = .bool true) := by
  refine enterX ty tyok Try.func5 rfl Try.ntmps5 [] (by simp) ?_
  intro C hP hQ hnt hty hmb hmh hro; have hQp := qp_body hQ; refine st_ ?_
  refine rn_ ?_; intros
  refine go_call (by rw [hnt]; rfl) (by rw [hP]; kernel_rfl) rfl (hP ▸ given_ok G) ?_
  rintro _ G1 (hle1 : Le G G1) ⟨ps0, rfl, hps0⟩
  obtain ⟨ap0, cp0, rfl⟩ := Rp.S_slice hps0
  refine rn_ ?_; intros
  refine go_call (by rw [hnt]; rfl) (by rw [hP]; kernel_rfl) rfl (hP ▸ load_ok givenP _ G1 hps0 given_bd given_wh) ?_
  rintro _ G2 (hle2 : Le G1 G2) ⟨cb, ps, rfl, hc, hp⟩
  refine rn_ ?_; intros
  refine go_nilrow 20 43 3 rfl (by omega) ?_
  refine go_nilrow 21 43 3 rfl (by omega) ?_
  refine go_nilrow 22 43 3 rfl (by omega) ?_
  refine go_nilrow 23 43 3 rfl (by omega) ?_
  refine st_ ?_
  refine go_callT [20, 21, 22, 23] (by rw [hnt]; rfl) (by rw [hP]; kernel_rfl) rfl rfl rfl (by rw [hmh]; simp) (by rw [hP]; exact begin_ok givenP ps cb 0 [] _ _ G2 hc hp (by omega) (by decide) (by decide) rfl (by simp) (Rp.S_nil _ _) (by simp) given_d0) ?_
  rintro _ G3 ow3 (hle3 : Le G2 G3) ⟨ba, rfl, vla, fsa, a1, a2, a3, rsa, Za, u1, u2, u3, u4, u5, rfl⟩
  simp only [setO, fhO, frO, fzO, fdO]
  refine st_ ?_
  refine rn_ ?_; intros
  refine go_rowC 21 rfl ?_
  rintro qa1 qa2 rfl hqa
  have hra : rsa.length = 2 := u3.len
  refine go_callW [20] (by rw [hnt]; rfl) (by rw [hP]; kernel_rfl) rfl rfl rfl (.inl (by rw [hmh]; simp)) (by rw [hP]; exact frames_ok ba cb 1 vt0.k vt0.n vla qa1 rsa.length qa2 G3) ?_
  rintro _ G4 ow4 (hle4 : Le G3 G4) ⟨rfl, rfl⟩
  simp only [setO, fhO, frO, fzO, fdO]
  refine st_ ?_
  refine rn_ ?_; intros
  have hc4 := hc.mono (hle3.trans hle4)
  have hp4 := Rp.S_mono (hle3.trans hle4) hp
  refine go_callT [20, 21, 22, 23] (by rw [hnt]; rfl) (by rw [hP]; kernel_rfl) rfl rfl rfl (by rw [hmh]; simp) (by rw [hP]; exact run_ok ba cb givenP ps ⟨1, vt0, [⟨0, 1, [], []⟩, ⟨0, 0, [], []⟩]⟩ ⟨3, iV 7, []⟩ 99 4 _ G4 (by omega) (by omega) hc4 hp4 ⟨vla, _, a1, a2, a3, rsa, Za, VT.rep_mono hle4 u1, u2, u3.mono hle4, u4, fun m x q q' => Rp.S_mono hle4 (u5 m x q q'), rfl⟩ given_r0) ?_
  clear u1 u2 u3 u4 u5 hqa
  rintro _ G5 ow5 (hle5 : Le G4 G5) ⟨rfl, vla, fsa, a1, a2, a3, rsb, Za, u1, u2, u3, u4, u5, rfl⟩
  simp only [setO, fhO, frO, fzO, fdO]
  refine st_ ?_
  refine rn_ ?_; intros
  refine go_callW [20] (by rw [hnt]; rfl) (by rw [hP]; kernel_rfl) rfl rfl rfl (.inl (by rw [hmh]; simp)) (by rw [hP]; exact value_ok ba cb 3 (iV 7) vla fsa G5 u1 u2 rfl) ?_
  rintro _ G6 ow6 (hle6 : Le G5 G6) ⟨rfl, ⟨q, _⟩ | ⟨_, sl7, rfl, hr7⟩⟩
  · exact absurd rfl q
  obtain ⟨y1, y2, rfl⟩ := VT.rep_slice hr7
  simp only [setO, fhO, frO, fzO, fdO]
  refine st_ ?_
  refine rn_ ?_; intros
  refine go_callf (by rw [hnt]; rfl) (by rw [hP]; kernel_rfl) rfl (hP ▸ numb_ok 1000 _) ?_; refine rn_ ?_; intros
  refine go_keep [0, 1, 2, 3, 4, 5, 6, 7, 8, 9, 51, 52, 53] [20, 21, 22, 23, 24, 25] ?_
  refine st_ ?_
  rename_i b24 b25
  refine go_pub 25 rfl (by omega) ?_
  intro G7 (hle7 : Le G6 G7) hG7
  refine go_nilrow 30 43 3 rfl (by omega) ?_
  refine go_nilrow 31 43 3 rfl (by omega) ?_
  refine go_nilrow 32 43 3 rfl (by omega) ?_
  refine go_nilrow 33 43 3 rfl (by omega) ?_
  refine st_ ?_
  have hle47 := (hle5.trans hle6).trans hle7
  have hc7 := hc4.mono hle47
  have hp7 := Rp.S_mono hle47 hp4
  refine go_callT [30, 31, 32, 33] (by rw [hnt]; rfl) (by rw [hP]; kernel_rfl) rfl rfl rfl (by rw [hmh]; simp) (by rw [hP]; exact begin_ok givenP ps cb 1 [iV 1000] (.slice (some ⟨b25, 0, none⟩) 1 1) _ G7 hc7 hp7 (by omega) (by decide) (by decide) rfl (by simp) (rW_one (at_cells hG7) (by simp [isI64]) (by simp [isI64])) (by simp; rfl) given_d1) ?_
  rintro _ G8 ow8 (hle8 : Le G7 G8) ⟨bb, rfl, vlb, fsb, c1, c2, c3, rsc, Zb, v1, v2, v3, v4, v5, rfl⟩
  simp only [setO, fhO, frO, fzO, fdO]
  refine st_ ?_
  refine rn_ ?_; intros
  refine go_keep [0, 1, 2, 3, 4, 5, 6, 7, 8, 9, 10, 11, 58] [20, 21, 22, 23, 24, 30, 31, 32, 33] ?_
  refine st_ ?_
  refine go_callT [30, 31, 32, 33] (by rw [hnt]; rfl) (by rw [hP]; kernel_rfl) rfl rfl rfl (by rw [hmh]; simp) (by rw [hP]; exact run_ok bb cb givenP ps (rS 1000) chS 9999 5001 _ G8 (by omega) (by omega) (hc7.mono hle8) (Rp.S_mono hle8 hp7) ⟨vlb, _, c1, c2, c3, rsc, Zb, v1, v2, v3, v4, v5, rfl⟩ given_r1) ?_
  clear v1 v2 v3 v4 v5
  rintro _ G9 ow9 (hle9 : Le G8 G9) ⟨rfl, vlb, fsb, c1, c2, c3, rsd, Zb, v1, v2, v3, v4, v5, rfl⟩
  simp only [setO, fhO, frO, fzO, fdO]
  refine st_ ?_
  refine rn_ ?_; intros
  have hc9 := hc7.mono (hle8.trans hle9)
  have hp9 := Rp.S_mono (hle8.trans hle9) hp7
  refine go_callW [30, 31] (by rw [hnt]; rfl) (by rw [hP]; kernel_rfl) rfl rfl rfl (.inl (by rw [hmh]; simp)) (by rw [hP]; exact want_ok bb cb c1 vt0.k vt0.n vlb fsb ps givenP ⟨1, 3, [iV 0], []⟩ [] rsd ⟨15, 0, []⟩ G9 hc9 hp9 v3 rfl (by simp) rfl) ?_
  rintro _ G10 ow10 (hle10 : Le G9 G10) ⟨rfl, rfl⟩
  simp only [setO, fhO, frO, fzO, fdO]
  refine st_ ?_
  refine rn_ ?_; intros
  refine go_rowC 31 rfl ?_
  rintro qa1 qb2 rfl hqb
  have hrd : rsd.length = 1 := v3.len
  simp only [hra, hrd]
  refine go_keep [0, 1, 2, 3, 4, 5, 6, 7, 8, 9, 10, 11, 12, 13, 14, 15] [20, 21, 22, 23, 24, 30, 31, 32, 33, 34] ?_
  refine st_ ?_
  have hsame : Pure Try.prog 20 [.agg #[.int .i64 (iV 7).k, .int .i64 (iV 7).n, .slice y1 (iV 7).l.length y2], .agg #[.int .i64 2, .int .i64 7, .slice none 0 0]] G10 (fun r _ => r = .bool true) :=
    (refSame_ok (iV 7) (iV 7) _ _ G10 (VT.rep_mono (((hle7.trans hle8).trans hle9).trans hle10) hr7) ⟨by simp [isI64], by simp [isI64], by simp, none, 0, rfl, .inl rfl⟩ (by decide +kernel) (by decide +kernel)).val (by rfl)
  refine x_draw rfl (by rw [hP]; kernel_rfl) rfl (by kernel_rfl) ?_
  refine runq 400 hty hnt ?_; refine st_ ?_
  refine q_callf (by rw [hnt]; rfl) (by rw [hP]; kernel_rfl) rfl (hP ▸ numL_ok 0 _) ?_; refine runq 400 hty hnt ?_; refine st_ ?_
  refine q_callf (by rw [hnt]; rfl) (by rw [hP]; kernel_rfl) rfl (hP ▸ numL_ok 0 _) ?_; refine runq 400 hty hnt ?_; refine st_ ?_
  refine q_callf (by rw [hnt]; rfl) (by rw [hP]; kernel_rfl) rfl (hP ▸ numL_ok 0 _) ?_; refine runq 400 hty hnt ?_; refine st_ ?_
  refine q_callf (by rw [hnt]; rfl) (by rw [hP]; kernel_rfl) rfl (hP ▸ numL_ok 0 _) ?_; refine runq 400 hty hnt ?_; refine st_ ?_
  refine q_callf (by rw [hnt]; rfl) (by rw [hP]; kernel_rfl) rfl (hP ▸ numL_ok 0 _) ?_; refine runq 400 hty hnt ?_; refine st_ ?_
  (refine go_qsplit rfl rfl (fun hc => absurd hc (by decide +kernel)) (fun _ => ?_); refine st_ ?_; (try (refine runq 400 hty hnt ?_; refine st_ ?_)))
  (refine go_qsplit rfl rfl (fun hc => absurd hc (by decide +kernel)) (fun _ => ?_); refine st_ ?_; (try (refine runq 400 hty hnt ?_; refine st_ ?_)))
  (refine go_qsplit rfl rfl (fun hc => absurd hc (by decide +kernel)) (fun _ => ?_); refine st_ ?_; (try (refine runq 400 hty hnt ?_; refine st_ ?_)))
  refine q_callW [20] (by rw [hnt]; rfl) (by rw [hP]; kernel_rfl) rfl rfl rfl (by rw [hP]; exact state_ok ba cb 3 (iV 7).k (iV 7).n vla fsa G10) ?_
  refine runq 400 hty hnt ?_; refine st_ ?_
  (refine go_qsplit rfl rfl (fun hc => absurd hc (by decide +kernel)) (fun _ => ?_); refine st_ ?_; (try (refine runq 400 hty hnt ?_; refine st_ ?_)))
  (refine go_qsplit rfl rfl (fun hc => absurd hc (by decide +kernel)) (fun _ => ?_); refine st_ ?_; (try (refine runq 400 hty hnt ?_; refine st_ ?_)))
  refine q_callf (by rw [hnt]; rfl) (by rw [hP]; kernel_rfl) rfl (hP ▸ numb_ok 7 _) ?_; refine runq 400 hty hnt ?_; refine st_ ?_
  refine q_callf (by rw [hnt]; rfl) (by rw [hP]; kernel_rfl) rfl (hP ▸ hsame) ?_; refine runq 400 hty hnt ?_; refine st_ ?_
  (refine go_qsplit rfl rfl (fun hc => absurd hc (by decide +kernel)) (fun _ => ?_); refine st_ ?_; (try (refine runq 400 hty hnt ?_; refine st_ ?_)))
  (refine go_qsplit rfl rfl (fun hc => absurd hc (by decide +kernel)) (fun _ => ?_); refine st_ ?_; (try (refine runq 400 hty hnt ?_; refine st_ ?_)))
  refine q_callW [30] (by rw [hnt]; rfl) (by rw [hP]; kernel_rfl) rfl rfl rfl (by rw [hP]; exact state_ok bb cb 2 vt0.k vt0.n vlb _ G10) ?_
  refine runq 400 hty hnt ?_; refine st_ ?_
  (refine go_qsplit rfl rfl (fun hc => absurd hc (by decide +kernel)) (fun _ => ?_); refine st_ ?_; (try (refine runq 400 hty hnt ?_; refine st_ ?_)))
  (refine go_qsplit rfl rfl (fun hc => absurd hc (by decide +kernel)) (fun _ => ?_); refine st_ ?_; (try (refine runq 400 hty hnt ?_; refine st_ ?_)))
  (refine go_qsplit rfl rfl (fun hc => absurd hc (by decide +kernel)) (fun _ => ?_); refine st_ ?_; (try (refine runq 400 hty hnt ?_; refine st_ ?_)))
  refine q_callW [30] (by rw [hnt]; rfl) (by rw [hP]; kernel_rfl) rfl rfl rfl (by rw [hP]; exact frames_ok bb cb 2 vt0.k vt0.n vlb qa1 1 qb2 G10) ?_
  refine runq 400 hty hnt ?_; refine st_ ?_
  refine q_end ?_; refine rn_ ?_; intros
  refine go_slot 127 (.b false) rfl rfl ?_
  refine go_keep [0, 1, 10, 127] [30, 31, 32, 33] ?_
  refine st_ ?_
  have hfin := wB hP hQ hnt hty hmb hmh hro cb bb c1 c2 c3 vlb (.slice qa1 1 qb2) ps rsd Zb G10 (hc9.mono hle10) (Rp.S_mono hle10 hp9) (VT.rep_mono hle10 v1) v2 (v3.mono hle10) v4 (fun m x q q' => Rp.S_mono hle10 (v5 m x q q'))
  rw [hrd] at hfin
  exact hfin
end Go.Proofs.Ytpppkednpamhbaa
namespace Go.Proofs.Ytpppkednpamhbaa
set_option linter.unusedSimpArgs false
set_option linter.unusedVariables false
open Go.Sx
set_option maxRecDepth 100000
set_option maxHeartbeats 4000000
def varsT (k : Int) (i : Nat) : List VT := iV k :: (List.range i).map fun (t : Nat) => iV (t : Int)
theorem varsT_succ (k : Int) (i : Nat) : varsT k i ++ [iV (i : Int)] = varsT k (i + 1) := by simp [varsT, List.range_succ]
theorem varsT_len (k : Int) (i : Nat) : (varsT k i).length = i + 1 := by simp [varsT]
def SF (m : Nat) (k : Int) (i : Nat) : List Fm :=
  if i < m then [⟨1, ((4 + 2 * i : Nat) : Int), varsT k i, []⟩, ⟨1, (atN i : Nat), varsT k i, []⟩]
  else [⟨1, ((5 + 2 * m : Nat) : Int), varsT k m, []⟩, ⟨1, ((4 + 2 * m : Nat) : Int), varsT k m, []⟩, ⟨1, (atN m : Nat), varsT k m, []⟩]
theorem nd_let {m i : Nat} (h : i < m) : ndAt (tailP m) 1 (atN i : Nat) = some ⟨4, 0, [((4 + 2 * i : Nat) : Int), ((4 + 2 * i : Nat) : Int) + 1]⟩ := by
  obtain ⟨a1, _⟩ := atN_lt i
  have hne : atN i ≠ atN m := by
    cases i <;> cases m <;> simp only [atN] <;> omega
  rw [tl_at, nsE_get, if_pos (show atN i < 4 + 2 * m by omega), if_neg hne, ndT_at]
theorem nd_int {m i : Nat} (h : i < m) : ndAt (tailP m) 1 ((4 + 2 * i : Nat) : Int) = some ⟨1, i, []⟩ := by
  have hne : 4 + 2 * i ≠ atN m := by
    cases m <;> simp only [atN] <;> omega
  rw [tl_at, nsE_get, if_pos (show 4 + 2 * i < 4 + 2 * m by omega), if_neg hne, ndT_even]
theorem nd_call (m : Nat) : ndAt (tailP m) 1 (atN m : Nat) = some ⟨13, 1, [((4 + 2 * m : Nat) : Int)]⟩ := by
  obtain ⟨a1, _⟩ := atN_lt m
  rw [tl_at, nsE_get, if_pos a1, if_pos rfl]
theorem nd_sub (m : Nat) : ndAt (tailP m) 1 ((4 + 2 * m : Nat) : Int) = some ⟨7, 0, [((5 + 2 * m : Nat) : Int), ((6 + 2 * m : Nat) : Int)]⟩ := by
  rw [tl_at, nsE_get, if_neg (show ¬ 4 + 2 * m < 4 + 2 * m by omega), if_pos rfl, show ((4 + 2 * m : Nat) : Int) + 1 = ((5 + 2 * m : Nat) : Int) by omega, show ((4 + 2 * m : Nat) : Int) + 2 = ((6 + 2 * m : Nat) : Int) by omega]
theorem nd_var (m : Nat) : ndAt (tailP m) 1 ((5 + 2 * m : Nat) : Int) = some ⟨3, 0, []⟩ := by
  rw [tl_at, nsE_get, if_neg (show ¬ 5 + 2 * m < 4 + 2 * m by omega), if_neg (show ¬ 5 + 2 * m = 4 + 2 * m by omega), if_pos rfl]
theorem nd_one (m : Nat) : ndAt (tailP m) 1 ((6 + 2 * m : Nat) : Int) = some ⟨1, 1, []⟩ := by
  rw [tl_at, nsE_get, if_neg (show ¬ 6 + 2 * m < 4 + 2 * m by omega), if_neg (show ¬ 6 + 2 * m = 4 + 2 * m by omega), if_neg (show ¬ 6 + 2 * m = 5 + 2 * m by omega), if_pos rfl]
theorem nd_0 (m : Nat) : ndAt (tailP m) 1 0 = some ⟨5, 0, [1, 2, 3]⟩ := by
  have hne : 0 ≠ atN m := by cases m <;> simp only [atN] <;> omega
  rw [show (0 : Int) = ((0 : Nat) : Int) from rfl, tl_at, nsE_get, if_pos (show 0 < 4 + 2 * m by omega), if_neg hne]; rfl
theorem nd_1 (m : Nat) : ndAt (tailP m) 1 1 = some ⟨3, 0, []⟩ := by
  have hne : 1 ≠ atN m := by cases m <;> simp only [atN] <;> omega
  have := tl_at m 1
  rw [nsE_get, if_pos (show 1 < 4 + 2 * m by omega), if_neg hne] at this
  exact this
theorem nd_3 (m : Nat) : ndAt (tailP m) 1 3 = some ⟨2, 0, []⟩ := by
  have hne : 3 ≠ atN m := by cases m <;> simp only [atN] <;> omega
  rw [show (3 : Int) = ((3 : Nat) : Int) from rfl, tl_at, nsE_get, if_pos (show 3 < 4 + 2 * m by omega), if_neg hne]; rfl
theorem dPush {p : Pr} {a k op n : Int} {L : List Int} {v d : List VT} {r : List Fm} (q : Nat) (h : ndAt p 1 a = some ⟨op, n, L⟩) (hk : L[d.length]? = some k) (h4 : ¬ (op = 4 ∧ d.length = 1)) (h5 : ¬ (op = 5 ∧ d.length = 1)) (hr : r.length + 1 < 256) :
    downF p (q + 1) (⟨1, a, v, d⟩ :: r) = downF p q (⟨1, k, v, []⟩ :: ⟨1, a, v, d⟩ :: r) := by
  have hl : ¬ d.length = L.length := by have := (List.getElem?_eq_some_iff.1 hk).1; omega
  rw [downF]
  simp only [h, hk]
  rw [if_neg h4, if_neg h5, if_neg hl, if_neg (show ¬ 256 ≤ r.length + 1 by omega)]
theorem dReady {p : Pr} {a op n : Int} {L : List Int} {v d : List VT} {r : List Fm} (q : Nat) (h : ndAt p 1 a = some ⟨op, n, L⟩) (hl : d.length = L.length) (h4 : ¬ (op = 4 ∧ d.length = 1)) (h5 : ¬ (op = 5 ∧ d.length = 1)) (h24 : op ≠ 24) (h15 : ¬ (op = 15 ∨ op = 14)) :
    downF p (q + 1) (⟨1, a, v, d⟩ :: r) = some (1, ⟨1, a, v, d⟩ :: r) := by
  rw [downF]
  simp only [h]
  rw [if_neg h4, if_neg h5, if_pos hl]
  simp only [readyF]
  rw [if_neg h24, if_neg h15]
theorem dLet {p : Pr} {a b c n : Int} {v : List VT} {t : VT} {r : List Fm} (q : Nat) (h : ndAt p 1 a = some ⟨4, n, [b, c]⟩) (hv : v.length < 100000) : downF p (q + 1) (⟨1, a, v, [t]⟩ :: r) = downF p q (⟨1, c, v ++ [t], []⟩ :: r) := by
  rw [downF]
  simp only [h]
  rw [if_pos ⟨trivial, rfl⟩]
  show (if v.length < 100000 then _ else none) = _
  rw [if_pos hv]
theorem dIf {p : Pr} {a x y z n : Int} {v : List VT} {t : VT} {r : List Fm} {b : Bool} (q : Nat) (h : ndAt p 1 a = some ⟨5, n, [x, y, z]⟩) (ht : trF t = some b) : downF p (q + 1) (⟨1, a, v, [t]⟩ :: r) = downF p q (⟨1, if b then y else z, v, []⟩ :: r) := by
  rw [downF]
  simp only [h]
  rw [if_neg (fun h => absurd h.1 (by decide)), if_pos ⟨trivial, rfl⟩, ht]
  rfl
theorem down_at {m i : Nat} (h : i ≤ m) (k : Int) (q : Nat) : downF (tailP m) (q + 4) [⟨1, (atN i : Nat), varsT k i, []⟩] = some (1, SF m k i) := by
  rcases Nat.lt_or_ge i m with h1 | h1
  · rw [dPush (k := ((4 + 2 * i : Nat) : Int)) _ (nd_let h1) rfl (by simp) (by simp) (by simp), dReady _ (nd_int h1) rfl (by simp) (by simp) (by simp) (by simp), SF, if_pos h1]
  · have : i = m := by omega
    subst this
    rw [dPush (k := ((4 + 2 * i : Nat) : Int)) _ (nd_call i) rfl (by simp) (by simp) (by simp), dPush (k := ((5 + 2 * i : Nat) : Int)) _ (nd_sub i) rfl (by simp) (by simp) (by simp), dReady _ (nd_var i) rfl (by simp) (by simp) (by simp) (by simp), SF, if_neg (Nat.lt_irrefl _)]
theorem trI (k : Int) : trF (iV k) = some (k != 0) := rfl
theorem st_val {p : Pr} {x y : Fm} {r : List Fm} {nd : Nd} {v : VT} {o : Int × List Fm} (h : ndAt p x.fn x.nd = some nd) (h13 : nd.op ≠ 13) (hv : resF x nd = some (some v)) (hy : y.done.length < 1000) (hd : downF p 600 (⟨y.fn, y.nd, y.vars, y.done ++ [v]⟩ :: r) = some o) :
    stepP p ⟨1, vt0, x :: y :: r⟩ = some (0, ⟨o.1, vt0, o.2⟩) := by
  unfold stepP
  rw [if_neg (by simp)]
  simp only [h]
  rw [if_neg h13, hv]
  simp only [prodF]
  rw [if_pos hy, goF, hd]
  rfl
theorem res_int (t : Int) (x : Fm) (hx : x.done = []) : resF x ⟨1, t, []⟩ = some (some (iV t)) := by
  obtain ⟨_, _, _, _⟩ := x
  simp only at hx
  subst hx
  rfl
theorem res_var (x : Fm) (v : VT) (r : List VT) (hx : x.vars = v :: r) : resF x ⟨3, 0, []⟩ = some (some v) := by
  obtain ⟨_, _, _, _⟩ := x
  simp only at hx
  subst hx
  rfl
theorem st_0 {m : Nat} {k : Int} (hk : k ≠ 0) : stepP (tailP m) (rS k) = some (0, ⟨1, vt0, SF m k 0⟩) := by
  refine st_val (o := (1, SF m k 0)) (nd_1 m) (by simp) (res_var _ _ _ rfl) (by simp) ?_
  rw [List.nil_append, dIf 599 (nd_0 m) (trI k), show (k != 0) = true by simpa using hk]
  exact down_at (i := 0) (Nat.zero_le _) k 595
theorem st_let {m i : Nat} {k : Int} (hm : m ≤ 20) (h : i < m) : stepP (tailP m) ⟨1, vt0, SF m k i⟩ = some (0, ⟨1, vt0, SF m k (i + 1)⟩) := by
  rw [SF, if_pos h]
  refine st_val (o := (1, SF m k (i + 1))) (nd_int h) (by simp) (res_int _ _ rfl) (by simp) ?_
  rw [List.nil_append, dLet 599 (nd_let h) (by rw [varsT_len]; omega), varsT_succ, show ((4 + 2 * i : Nat) : Int) + 1 = ((atN (i + 1) : Nat) : Int) by simp only [atN]; omega]
  exact down_at (by omega) k 595
def SC1 (m : Nat) (k : Int) : Fb := ⟨1, vt0, [⟨1, ((6 + 2 * m : Nat) : Int), varsT k m, []⟩, ⟨1, ((4 + 2 * m : Nat) : Int), varsT k m, [iV k]⟩, ⟨1, (atN m : Nat), varsT k m, []⟩]⟩
def SC2 (m : Nat) (k : Int) : Fb := ⟨1, vt0, [⟨1, ((4 + 2 * m : Nat) : Int), varsT k m, [iV k, iV 1]⟩, ⟨1, (atN m : Nat), varsT k m, []⟩]⟩
def SC3 (m : Nat) (k : Int) : Fb := ⟨1, vt0, [⟨1, (atN m : Nat), varsT k m, [iV (IntKind.i64.wrap (k - 1))]⟩]⟩
theorem st_c0 (m : Nat) (k : Int) : stepP (tailP m) ⟨1, vt0, SF m k m⟩ = some (0, SC1 m k) := by
  rw [SF, if_neg (Nat.lt_irrefl _)]
  refine st_val (o := (1, (SC1 m k).l)) (nd_var m) (by simp) (res_var _ _ _ rfl) (by simp) ?_
  rw [List.nil_append, dPush (k := ((6 + 2 * m : Nat) : Int)) 599 (nd_sub m) rfl (by simp) (by simp) (by simp), dReady _ (nd_one m) rfl (by simp) (by simp) (by simp) (by simp)]
  rfl
theorem st_c1 (m : Nat) (k : Int) : stepP (tailP m) (SC1 m k) = some (0, SC2 m k) := by
  refine st_val (o := (1, (SC2 m k).l)) (nd_one m) (by simp) (res_int _ _ rfl) (by simp) ?_
  exact dReady 599 (nd_sub m) rfl (by simp) (by simp) (by simp) (by simp)
theorem st_c2 (m : Nat) (k : Int) : stepP (tailP m) (SC2 m k) = some (0, SC3 m k) := by
  refine st_val (o := (1, (SC3 m k).l)) (nd_sub m) (by simp) rfl (by simp) ?_
  exact dReady 599 (nd_call m) rfl (by simp) (by simp) (by simp) (by simp)
theorem st_c3 (m : Nat) (k : Int) : stepP (tailP m) (SC3 m k) = some (0, rS (IntKind.i64.wrap (k - 1))) := by
  unfold stepP
  rw [if_neg (by simp [SC3])]
  simp only [SC3, nd_call]
  rw [if_pos trivial, goF, dPush (k := 1) 599 (nd_0 m) rfl (by simp) (by simp) (by simp), dReady _ (nd_1 m) rfl (by simp) (by simp) (by simp) (by simp)]
  rfl
def roundS (m : Nat) (k : Int) (s : Nat) : Fb :=
  if s = 0 then rS k else if s ≤ m + 1 then ⟨1, vt0, SF m k (s - 1)⟩ else if s = m + 2 then SC1 m k else if s = m + 3 then SC2 m k else if s = m + 4 then SC3 m k else rS (IntKind.i64.wrap (k - 1))
theorem round_st {m : Nat} {k : Int} (hm : m ≤ 20) (hk : k ≠ 0) {s : Nat} (hs : s < 5 + m) : stepP (tailP m) (roundS m k s) = some (0, roundS m k (s + 1)) ∧ (roundS m k s).l.length ≤ 3 := by
  have hSF : ∀ i, (SF m k i).length ≤ 3 := fun i => by unfold SF; split <;> simp
  rcases Nat.lt_or_ge s 1 with h | h
  · have : s = 0 := by omega
    subst this
    rw [roundS, if_pos rfl, roundS, if_neg (show ¬ 0 + 1 = 0 by omega), if_pos (show 0 + 1 ≤ m + 1 by omega)]
    exact ⟨st_0 hk, by simp [rS]⟩
  rw [roundS, if_neg (show ¬ s = 0 by omega), roundS, if_neg (show ¬ s + 1 = 0 by omega)]
  rcases Nat.lt_or_ge s (m + 1) with h1 | h1
  · rw [if_pos (show s ≤ m + 1 by omega), if_pos (show s + 1 ≤ m + 1 by omega)]
    have := st_let (k := k) hm (show s - 1 < m by omega)
    rw [show s - 1 + 1 = s + 1 - 1 by omega] at this
    exact ⟨this, hSF _⟩
  rcases Nat.lt_or_ge s (m + 2) with h2 | h2
  · have : s = m + 1 := by omega
    subst this
    rw [if_pos (Nat.le_refl _), if_neg (show ¬ m + 1 + 1 ≤ m + 1 by omega), if_pos rfl, show m + 1 - 1 = m by omega]
    exact ⟨st_c0 m k, hSF _⟩
  rcases Nat.lt_or_ge s (m + 3) with h3 | h3
  · have : s = m + 2 := by omega
    subst this
    rw [if_neg (show ¬ m + 2 ≤ m + 1 by omega), if_pos rfl, if_neg (show ¬ m + 2 + 1 ≤ m + 1 by omega), if_neg (show ¬ m + 2 + 1 = m + 2 by omega), if_pos rfl]
    exact ⟨st_c1 m k, by simp [SC1]⟩
  rcases Nat.lt_or_ge s (m + 4) with h4 | h4
  · have : s = m + 3 := by omega
    subst this
    rw [if_neg (show ¬ m + 3 ≤ m + 1 by omega), if_neg (show ¬ m + 3 = m + 2 by omega), if_pos rfl, if_neg (show ¬ m + 3 + 1 ≤ m + 1 by omega), if_neg (show ¬ m + 3 + 1 = m + 2 by omega), if_neg (show ¬ m + 3 + 1 = m + 3 by omega), if_pos rfl]
    exact ⟨st_c2 m k, by simp [SC2]⟩
  · have : s = m + 4 := by omega
    subst this
    rw [if_neg (show ¬ m + 4 ≤ m + 1 by omega), if_neg (show ¬ m + 4 = m + 2 by omega), if_neg (show ¬ m + 4 = m + 3 by omega), if_pos rfl, if_neg (show ¬ m + 4 + 1 ≤ m + 1 by omega), if_neg (show ¬ m + 4 + 1 = m + 2 by omega), if_neg (show ¬ m + 4 + 1 = m + 3 by omega), if_neg (show ¬ m + 4 + 1 = m + 4 by omega)]
    exact ⟨st_c3 m k, by simp [SC3]⟩
theorem round_0 (m : Nat) (k : Int) : roundS m k 0 = rS k := by rw [roundS, if_pos rfl]
theorem round_end (m : Nat) (k : Int) : roundS m k (5 + m) = rS (IntKind.i64.wrap (k - 1)) := by
  rw [roundS, if_neg (show ¬ 5 + m = 0 by omega), if_neg (show ¬ 5 + m ≤ m + 1 by omega), if_neg (show ¬ 5 + m = m + 2 by omega), if_neg (show ¬ 5 + m = m + 3 by omega), if_neg (show ¬ 5 + m = m + 4 by omega)]
theorem tail_d (m : Nat) (k : Int) : downF (tailP m) 600 [⟨1, 0, [iV k], []⟩] = some (1, (rS k).l) := by
  rw [dPush (k := 1) 599 (nd_0 m) rfl (by simp) (by simp) (by simp), dReady _ (nd_1 m) rfl (by simp) (by simp) (by simp) (by simp)]
  rfl
theorem tail_end (m : Nat) : runP (tailP m) 99 (rS 0) = some (2, ⟨3, .mk 1 0 [], []⟩) := by
  have h1 : stepP (tailP m) (rS 0) = some (0, ⟨1, vt0, [⟨1, 3, [iV 0], []⟩]⟩) := by
    refine st_val (o := (1, [⟨1, 3, [iV 0], []⟩])) (nd_1 m) (by simp) (res_var _ _ _ rfl) (by simp) ?_
    rw [List.nil_append, dIf 599 (nd_0 m) (trI 0)]
    exact dReady 598 (nd_3 m) rfl (by simp) (by simp) (by simp) (by simp)
  have h2 : stepP (tailP m) ⟨1, vt0, [⟨1, 3, [iV 0], []⟩]⟩ = some (0, ⟨3, .mk 1 0 [], []⟩) := by
    unfold stepP
    rw [if_neg (by simp)]
    simp only [nd_3]
    rfl
  have h3 : stepP (tailP m) ⟨3, .mk 1 0 [], []⟩ = some (100, ⟨3, .mk 1 0 [], []⟩) := rfl
  rw [runP, h1]
  simp only [if_true]
  rw [runP, h2]
  simp only [if_true]
  rw [runP, h3]
  rfl
end Go.Proofs.Ytpppkednpamhbaa
namespace Go.Proofs.Ytpppkednpamhbaa
set_option linter.unusedSimpArgs false
set_option linter.unusedVariables false
open Go.Sx
set_option maxRecDepth 100000
set_option maxHeartbeats 4000000
theorem cases21 {P : Nat → Prop} (h : P 0 ∧ P 1 ∧ P 2 ∧ P 3 ∧ P 4 ∧ P 5 ∧ P 6 ∧ P 7 ∧ P 8 ∧ P 9 ∧ P 10 ∧ P 11 ∧ P 12 ∧ P 13 ∧ P 14 ∧ P 15 ∧ P 16 ∧ P 17 ∧ P 18 ∧ P 19 ∧ P 20) {m : Nat} (hm : m ≤ 20) : P m := by
  obtain ⟨h0, h1, h2, h3, h4, h5, h6, h7, h8, h9, h10, h11, h12, h13, h14, h15, h16, h17, h18, h19, h20⟩ := h
  match m, hm with
  | 0, _ => exact h0
  | 1, _ => exact h1
  | 2, _ => exact h2
  | 3, _ => exact h3
  | 4, _ => exact h4
  | 5, _ => exact h5
  | 6, _ => exact h6
  | 7, _ => exact h7
  | 8, _ => exact h8
  | 9, _ => exact h9
  | 10, _ => exact h10
  | 11, _ => exact h11
  | 12, _ => exact h12
  | 13, _ => exact h13
  | 14, _ => exact h14
  | 15, _ => exact h15
  | 16, _ => exact h16
  | 17, _ => exact h17
  | 18, _ => exact h18
  | 19, _ => exact h19
  | 20, _ => exact h20
  | n + 21, h => omega
theorem tail_wh {m : Nat} (hm : m ≤ 20) : (whP (tailP m)).2.2 = 0 := by
  refine cases21 (P := fun m => (whP (tailP m)).2.2 = 0) ?_ hm
  decide +kernel
theorem tail_bd {m : Nat} (hm : m ≤ 20) : (tailP m).all (fun f => decide (f.nodes.length ≤ 300) && f.nodes.all fun x => decide (x.l.length ≤ 40)) = true := by
  refine cases21 (P := fun m => (tailP m).all (fun f => decide (f.nodes.length ≤ 300) && f.nodes.all fun x => decide (x.l.length ≤ 40)) = true) ?_ hm
  decide +kernel
theorem tail_bdP {m : Nat} (hm : m ≤ 20) : bdP (tailP m) := by
  refine ⟨by simp [tailP], fun f hf => ?_⟩
  have := tail_bd hm
  simp only [List.all_eq_true, Bool.and_eq_true, decide_eq_true_eq] at this
  exact ⟨(this f hf).1, fun x hx => (this f hf).2 x hx⟩
end Go.Proofs.Ytpppkednpamhbaa
namespace Go.Proofs.Ytpppkednpamhbaa
set_option linter.unusedSimpArgs false
set_option linter.unusedVariables false
open Go.Sx
set_option maxHeartbeats 40000000
set_option maxRecDepth 20000
def fbE (G : Hp) (s : Fb) (vl : Value) (rs : List Fw) : Prop := s.val.rep G vl ∧ tsz s.val ≤ 1000 ∧ fsOk G s.l rs ∧ s.l.length ≤ 256 ∧ ∀ m x, s.l.head? = some m → rs.head? = some x → rW.S G m.done x.done.v
theorem fbE.mono {G G' : Hp} {s : Fb} {vl : Value} {rs : List Fw} (h : fbE G s vl rs) (hl : Le G G') : fbE G' s vl rs := ⟨VT.rep_mono hl h.1, h.2.1, h.2.2.1.mono hl, h.2.2.2.1, fun m x q q' => Rp.S_mono hl (h.2.2.2.2 m x q q')⟩
theorem fbE.O {G : Hp} {s : Fb} {vl : Value} {rs : List Fw} (h : fbE G s vl rs) (b cb b1 b2 b3 : Nat) (fs : Value) (Z : Nat → Prop) : fbO G b cb s [fhO b cb s.st s.val.k s.val.n vl fs, frO b1 fs rs, fzO b2 (rs.drop 1) Z, fdO b3 rw0] :=
  ⟨vl, fs, b1, b2, b3, rs, Z, h.1, h.2.1, h.2.2.1, h.2.2.2.1, h.2.2.2.2, rfl⟩
def own4 (bf cb : Nat) (s : Fb) (vl fs : Value) (b1 b2 b3 : Nat) (rs : List Fw) (Z : Nat → Prop) : Owns :=
  [(20, bf, .c 80 [.v (.pointer (some ⟨cb, 0, none⟩)), .v (.int .i64 s.st), .v (.int .i64 s.val.k), .v (.int .i64 s.val.n), .v vl, .v fs]), (21, b1, .row fs 77 4 rs.length (encF rs)), (22, b2, .z (ZR ((rs.drop 1).map (·.done))) Z Z), (23, b3, .row rw0.v rw0.e rw0.size rw0.n rw0.xs)]
theorem tB {C : Ctx} (hP : C.P = Try.prog) (hQ : C.Q = bodyPost C.P Try.f3 (Ret [] C.w0 C.G0 (fun v _ => v = .bool true))) (hnt : C.nt = 156) (hty : C.ty = ty) (hmb : C.mb = []) (hmh : C.mh = 0) (hro : C.ro = none)
    (N m : Nat) (hN : N ≤ 3000) (hm : m ≤ 20) (cb bf b1 b2 b3 : Nat) (vl fs ps : Value) (rs : List Fw) (Z : Nat → Prop) (G : Hp) (hc : At G cb 0 [ps]) (hp : rF.S G (tailP m) ps) (hv : fbE G (rS N) vl rs) :
    SGo C [.code (Go.Sx.c1 (Go.Sx.c2 (Go.Sx.c1 (Go.Sx.c2 (Go.Sx.c2 (Go.Sx.c2 (Go.Sx.c2 (Go.Sx.c2 (Go.Sx.c2 (Go.Sx.c2 (Go.Sx.c2 (Go.Sx.c2 (Go.Sx.c2 (Go.Sx.c2 (Try.f3.body.getD .skip))))))))))))))), .blk (cid (Go.Sx.c2 (Go.Sx.c1 (Go.Sx.c2 (Go.Sx.c2 (Go.Sx.c2 (Go.Sx.c2 (Go.Sx.c2 (Go.Sx.c2 (Go.Sx.c2 (Go.Sx.c2 (Go.Sx.c2 (Go.Sx.c2 (Go.Sx.c2 (Try.f3.body.getD .skip))))))))))))))), .code (Go.Sx.c2 (Go.Sx.c2 (Go.Sx.c2 (Go.Sx.c2 (Go.Sx.c2 (Go.Sx.c2 (Go.Sx.c2 (Go.Sx.c2 (Go.Sx.c2 (Go.Sx.c2 (Go.Sx.c2 (Go.Sx.c2 (Try.f3.body.getD .skip)))))))))))))] ⟨[(0, .v (.int .i64 N)), (1, .v (.int .i64 m)), (4, .b false), (12, .v (.pointer (some ⟨bf, 0, none⟩))), (14, .v (.int .i64 0))],
      [(20, bf, .c 80 [.v (.pointer (some ⟨cb, 0, none⟩)), .v (.int .i64 1), .v (.int .i64 vt0.k), .v (.int .i64 vt0.n), .v vl, .v fs]), (21, b1, .row fs 77 4 rs.length (encF rs)), (22, b2, .z (ZR ((rs.drop 1).map (·.done))) Z Z), (23, b3, .row rw0.v rw0.e rw0.size rw0.n rw0.xs)], G, []⟩ := by
  have hQp := qp_body hQ
  refine x_loop rfl (fun q s => ∃ (i : Nat) (G1 : Hp) (vl fs : Value) (b1 b2 b3 : Nat) (rs : List Fw) (Z : Nat → Prop), i ≤ N ∧ q = N - i ∧ Le G G1 ∧ fbE G1 (rS ((N - i : Nat) : Int)) vl rs ∧
    s = ⟨[(0, .v (.int .i64 N)), (1, .v (.int .i64 m)), (4, .b false), (12, .v (.pointer (some ⟨bf, 0, none⟩))), (14, .v (.int .i64 i))], own4 bf cb (rS ((N - i : Nat) : Int)) vl fs b1 b2 b3 rs Z, G1, []⟩) ⟨0, G, vl, fs, b1, b2, b3, rs, Z, by omega, rfl, Le.refl _, by simpa using hv, rfl⟩ ?_
  clear hv
  rintro q s ⟨i, G1, vl, fs, b1, b2, b3, rs, Z, hi, hq, hle1, hv, rfl⟩ ih
  simp only [own4]
  refine rn_ ?_; intros
  refine x_if rfl rfl rfl rfl (fun hjl => ?_) (fun hjl => ?_)
  · have hlt : i < N := by simp at hjl; omega
    refine rn_ ?_; intros
    have hk : ((N - i : Nat) : Int) ≠ 0 := by omega
    have hround := fun s (hs : s < 5 + m) => round_st (k := ((N - i : Nat) : Int)) hm hk hs
    refine go_keep [0, 1, 4, 12, 14, 15] [20, 21, 22, 23] ?_
    refine st_ ?_
    refine x_loop rfl (fun q s => ∃ (t : Nat) (G2 : Hp) (vl fs : Value) (b1 b2 b3 : Nat) (rs : List Fw) (Z : Nat → Prop), t ≤ 5 + m ∧ q = 5 + m - t ∧ Le G1 G2 ∧ fbE G2 (roundS m ((N - i : Nat) : Int) t) vl rs ∧
      s = ⟨[(0, .v (.int .i64 N)), (1, .v (.int .i64 m)), (4, .b false), (12, .v (.pointer (some ⟨bf, 0, none⟩))), (14, .v (.int .i64 i)), (15, .v (.int .i64 t))], own4 bf cb (roundS m ((N - i : Nat) : Int) t) vl fs b1 b2 b3 rs Z, G2, []⟩) ⟨0, G1, vl, fs, b1, b2, b3, rs, Z, by omega, rfl, Le.refl _, by rw [round_0]; exact hv, by rw [round_0]; rfl⟩ ?_
    clear hv
    rintro q s ⟨t, G2, vl, fs, b1, b2, b3, rs, Z, ht, hq2, hle2, hv, rfl⟩ ih2
    simp only [own4]
    have hle12 := hle1.trans hle2
    refine rn_ ?_; intros
    rw [wr (n := (5 : Int) + (m : Int)) (by omega) (by omega)]
    refine x_if rfl rfl rfl rfl (fun hjt => ?_) (fun hjt => ?_)
    · have htl : t < 5 + m := by simp at hjt; omega
      obtain ⟨hst, h3⟩ := hround t htl
      refine go_rowC 21 rfl ?_
      rintro qa qc rfl hqc
      have hrl := hv.2.2.1.len
      refine rn_ ?_; intros
      refine go_callW [20] (by rw [hnt]; rfl) (by rw [hP]; kernel_rfl) rfl rfl rfl (.inl (by rw [hmh]; simp)) (by rw [hP]; exact frames_ok bf cb _ _ _ vl qa rs.length qc G2) ?_
      rintro _ G3 ow3 (hle3 : Le G2 G3) ⟨rfl, rfl⟩
      simp only [setO, fhO, frO, fzO, fdO]
      refine st_ ?_
      refine rn_ ?_; intros
      (refine go_gsplit rfl rfl (fun hc => absurd hc (by simp; omega)) (fun _ => ?_); refine st_ ?_; (refine rn_ ?_; intros))
      have hc3 := hc.mono (hle12.trans hle3)
      have hp3 := Rp.S_mono (hle12.trans hle3) hp
      refine go_callT [20, 21, 22, 23] (by rw [hnt]; rfl) (by rw [hP]; kernel_rfl) rfl rfl rfl (by rw [hmh]; simp) (by rw [hP]; exact step_ok bf cb (tailP m) ps (roundS m ((N - i : Nat) : Int) t) (roundS m ((N - i : Nat) : Int) (t + 1)) 0 _ G3 hc3 hp3 ((hv.mono hle3).O bf cb b1 b2 b3 (.slice qa rs.length qc) Z) hst) ?_
      rintro _ G4 ow4 (hle4 : Le G3 G4) ⟨rfl, vl4, fs4, c1, c2, c3, rs4, Z4, v1, v2, v3, v4, v5, rfl⟩
      simp only [setO, fhO, frO, fzO, fdO]
      refine st_ ?_
      refine rn_ ?_; intros
      refine go_callf (by rw [hnt]; rfl) (by rw [hP]; kernel_rfl) rfl (hP ▸ numL_ok 0 _) ?_; refine rn_ ?_; intros
      (refine x_split rfl rfl rfl (fun hc => absurd hc (by first | decide +kernel | (simp; first | done | fail))) (fun _ => ?_); refine st_ ?_; (refine ru_ ?_; intros))
      refine rn_ ?_; intros
      rw [wr (n := (t : Int) + 1) (by omega) (by omega)]
      refine go_keep [0, 1, 4, 12, 14, 15] [20, 21, 22, 23] ?_
      refine st_ ?_
      exact ih2 (5 + m - (t + 1)) _ (by omega) ⟨t + 1, G4, vl4, fs4, c1, c2, c3, rs4, Z4, by omega, rfl, (hle2.trans hle3).trans hle4, ⟨v1, v2, v3, v4, v5⟩, rfl⟩
    have hte : t = 5 + m := by simp at hjt; omega
    subst hte
    rw [round_end, show (((N - i : Nat) : Int) - 1) = ((N - (i + 1) : Nat) : Int) by omega, wrap_le (by omega) (by omega)] at hv
    rw [round_end, show (((N - i : Nat) : Int) - 1) = ((N - (i + 1) : Nat) : Int) by omega, wrap_le (by omega) (by omega)]
    refine rn_ ?_; intros
    rw [wr (n := (i : Int) + 1) (by omega) (by omega)]
    refine go_keep [0, 1, 4, 12, 14] [20, 21, 22, 23] ?_
    refine st_ ?_
    exact ih (N - (i + 1)) _ (by omega) ⟨i + 1, G2, vl, fs, b1, b2, b3, rs, Z, by omega, rfl, hle12, hv, rfl⟩
  have hie : i = N := by simp at hjl; omega
  subst hie
  rw [Nat.sub_self] at hv
  simp only [Nat.sub_self]
  refine rn_ ?_; intros
  refine go_callT [20, 21, 22, 23] (by rw [hnt]; rfl) (by rw [hP]; kernel_rfl) rfl rfl rfl (by rw [hmh]; simp) (by rw [hP]; exact run_ok bf cb (tailP m) ps (rS ((0 : Nat) : Int)) ⟨3, .mk 1 0 [], []⟩ 99 2 _ G1 (by omega) (by omega) (hc.mono hle1) (Rp.S_mono hle1 hp) (hv.O bf cb b1 b2 b3 fs Z) (tail_end m)) ?_
  rintro _ G2 ow2 (hle2 : Le G1 G2) ⟨rfl, vl2, fs2, c1, c2, c3, rs2, Z2, v1, v2, v3, v4, v5, rfl⟩
  simp only [setO, fhO, frO, fzO, fdO]
  refine st_ ?_
  refine rn_ ?_; intros
  refine go_callW [20] (by rw [hnt]; rfl) (by rw [hP]; kernel_rfl) rfl rfl rfl (.inl (by rw [hmh]; simp)) (by rw [hP]; exact value_ok bf cb 3 (.mk 1 0 []) vl2 fs2 G2 v1 v2 rfl) ?_
  rintro _ G3 ow3 (hle3 : Le G2 G3) ⟨rfl, ⟨q, _⟩ | ⟨_, slx, rfl, hrx⟩⟩
  · exact absurd rfl q
  obtain ⟨y1, y2, rfl⟩ := VT.rep_slice hrx
  simp only [setO, fhO, frO, fzO, fdO]
  refine st_ ?_
  refine rn_ ?_; intros
  refine go_callf (by rw [hnt]; rfl) (by rw [hP]; kernel_rfl) rfl (hP ▸ numL_ok 0 _) ?_; refine rn_ ?_; intros
  (refine go_gsplit rfl rfl (fun _ => ?_) (fun hc => absurd hc (by first | decide +kernel | (simp; first | done | fail))); refine st_ ?_; (refine rn_ ?_; intros))
  (refine go_gsplit rfl rfl (fun _ => ?_) (fun hc => absurd hc (by first | decide +kernel | (simp; first | done | fail))); refine st_ ?_; (refine rn_ ?_; intros))
  (refine go_gsplit rfl rfl (fun _ => ?_) (fun hc => absurd hc (by first | decide +kernel | (simp; first | done | fail))); refine st_ ?_; (refine rn_ ?_; intros))
  (refine go_gsplit rfl rfl (fun _ => ?_) (fun hc => absurd hc (by first | decide +kernel | (simp; first | done | fail))); refine st_ ?_; (refine rn_ ?_; intros))
  refine go_callf (by rw [hnt]; rfl) (by rw [hP]; kernel_rfl) rfl (hP ▸ works10_ok _) ?_; refine rn_ ?_; intros
  refine x_retc rfl hQ hmb rfl (by rw [hty]; simp only [so, sq, zy, zz, tyE, SO', SQ', opQ, opStore, opAlloc, ev, putS, dOk, cv, SV.cs, SV.one, SV.bool?, eqB, Value.oneCell', ldOwn, binInt, binConst, binBool, binStr, isC, TK.agg, rv, rv1, ldV, resOne, resV, Nat.reduceAdd, Nat.reduceMul, Nat.reduceSub, Nat.reduceLT, Nat.reduceLeDiff, Nat.reduceEqDiff, Nat.reduceBEq, reduceIte, reduceCtorEq, eq_self]; try rfl) rfl ?_; simp only [SV.den, resV, dens]
end Go.Proofs.Ytpppkednpamhbaa
namespace Go.Proofs.Ytpppkednpamhbaa
set_option linter.unusedSimpArgs false
set_option linter.unusedVariables false
open Go.Sx
set_option maxHeartbeats 40000000
set_option maxRecDepth 20000
theorem rN_set {G : Hp} {y : Nd} {c : List Value} (hy : rN.e G y c) : ∀ {l : List Nd} {xs : List Value} {i : Nat}, rN.L G l xs → i < l.length → rN.L G (l.set i y) (xs.take (i * 3) ++ c ++ xs.drop (i * 3 + 3))
  | [], xs, i, _, h => by simp at h
  | x :: l, xs, i, hL, h => by
    simp only [Rp.L] at hL
    obtain ⟨c0, r, rfl, h2, h3⟩ := hL
    have hc0 : c0.length = 3 := rN.len h2
    cases i with
    | zero =>
      simp only [List.set_cons_zero, Rp.L]
      refine ⟨c, r, ?_, hy, h3⟩
      rw [Nat.zero_mul, List.take_zero, Nat.zero_add, ← hc0, List.drop_left]
      rfl
    | succ i =>
      simp only [List.set_cons_succ, Rp.L]
      refine ⟨c0, _, ?_, h2, rN_set hy (i := i) h3 (by simpa using h)⟩
      rw [show (i + 1) * 3 + 3 = c0.length + (i * 3 + 3) by omega, show (i + 1) * 3 = c0.length + i * 3 by omega, List.take_length_add_append, List.drop_length_add_append]
      simp only [List.append_assoc]
theorem nsE_len (m : Nat) : (nsE m).length = 4 + 2 * m + 3 := by simp only [nsE, List.length_append, List.length_set, (nsF_len m).1, List.length_cons, List.length_nil]
theorem tails_ok (n lets : Int) (G : Hp) (hn : isI64 n) (hl : isI64 lets) : Pure Try.prog 3 [.int .i64 n, .int .i64 lets] G (fun v _ => v = .bool true) := by
  refine enterX ty tyok Try.func3 rfl Try.ntmps3 [.v (.int .i64 n), .v (.int .i64 lets)] (by simp) ?_
  intro C hP hQ hnt hty hmb hmh hro; have hQp := qp_body hQ; refine st_ ?_
  refine rn_ ?_; intros
  refine go_gsplit rfl rfl (fun h1 => ?_) (fun h1 => ?_) <;> (refine st_ ?_; (refine rn_ ?_; intros))
  · refine rn_ ?_; intros
    refine go_callf (by rw [hnt]; rfl) (by rw [hP]; kernel_rfl) rfl (hP ▸ works10_ok G) ?_; refine rn_ ?_; intros
    refine x_retc rfl hQ hmb rfl (by rw [hty]; simp only [so, sq, zy, zz, tyE, SO', SQ', opQ, opStore, opAlloc, ev, putS, dOk, cv, SV.cs, SV.one, SV.bool?, eqB, Value.oneCell', ldOwn, binInt, binConst, binBool, binStr, isC, TK.agg, rv, rv1, ldV, resOne, resV, Nat.reduceAdd, Nat.reduceMul, Nat.reduceSub, Nat.reduceLT, Nat.reduceLeDiff, Nat.reduceEqDiff, Nat.reduceBEq, reduceIte, reduceCtorEq, eq_self]; try rfl) rfl ?_; simp only [SV.den, resV, dens]
  refine go_gsplit rfl rfl (fun h2 => ?_) (fun h2 => ?_) <;> (refine st_ ?_; (refine rn_ ?_; intros))
  · refine rn_ ?_; intros
    refine go_callf (by rw [hnt]; rfl) (by rw [hP]; kernel_rfl) rfl (hP ▸ works10_ok G) ?_; refine rn_ ?_; intros
    refine x_retc rfl hQ hmb rfl (by rw [hty]; simp only [so, sq, zy, zz, tyE, SO', SQ', opQ, opStore, opAlloc, ev, putS, dOk, cv, SV.cs, SV.one, SV.bool?, eqB, Value.oneCell', ldOwn, binInt, binConst, binBool, binStr, isC, TK.agg, rv, rv1, ldV, resOne, resV, Nat.reduceAdd, Nat.reduceMul, Nat.reduceSub, Nat.reduceLT, Nat.reduceLeDiff, Nat.reduceEqDiff, Nat.reduceBEq, reduceIte, reduceCtorEq, eq_self]; try rfl) rfl ?_; simp only [SV.den, resV, dens]
  refine go_gsplit rfl rfl (fun h3 => ?_) (fun h3 => ?_) <;> (refine st_ ?_; (refine rn_ ?_; intros))
  · refine rn_ ?_; intros
    refine go_callf (by rw [hnt]; rfl) (by rw [hP]; kernel_rfl) rfl (hP ▸ works10_ok G) ?_; refine rn_ ?_; intros
    refine x_retc rfl hQ hmb rfl (by rw [hty]; simp only [so, sq, zy, zz, tyE, SO', SQ', opQ, opStore, opAlloc, ev, putS, dOk, cv, SV.cs, SV.one, SV.bool?, eqB, Value.oneCell', ldOwn, binInt, binConst, binBool, binStr, isC, TK.agg, rv, rv1, ldV, resOne, resV, Nat.reduceAdd, Nat.reduceMul, Nat.reduceSub, Nat.reduceLT, Nat.reduceLeDiff, Nat.reduceEqDiff, Nat.reduceBEq, reduceIte, reduceCtorEq, eq_self]; try rfl) rfl ?_; simp only [SV.den, resV, dens]
  refine x_split rfl rfl rfl (fun h4 => ?_) (fun h4 => ?_) <;> (refine st_ ?_; (refine ru_ ?_; intros))
  · refine rn_ ?_; intros
    refine go_callf (by rw [hnt]; rfl) (by rw [hP]; kernel_rfl) rfl (hP ▸ works10_ok G) ?_; refine rn_ ?_; intros
    refine x_retc rfl hQ hmb rfl (by rw [hty]; simp only [so, sq, zy, zz, tyE, SO', SQ', opQ, opStore, opAlloc, ev, putS, dOk, cv, SV.cs, SV.one, SV.bool?, eqB, Value.oneCell', ldOwn, binInt, binConst, binBool, binStr, isC, TK.agg, rv, rv1, ldV, resOne, resV, Nat.reduceAdd, Nat.reduceMul, Nat.reduceSub, Nat.reduceLT, Nat.reduceLeDiff, Nat.reduceEqDiff, Nat.reduceBEq, reduceIte, reduceCtorEq, eq_self]; try rfl) rfl ?_; simp only [SV.den, resV, dens]
  have hn0 : 0 ≤ n := by simpa using h1
  have hn1 : n ≤ 3000 := by simpa using h2
  have hl0 : 0 ≤ lets := by simpa using h3
  have hl1 : lets ≤ 20 := by simpa using h4
  obtain ⟨N, rfl⟩ : ∃ N : Nat, n = (N : Int) := ⟨n.toNat, by omega⟩
  obtain ⟨m, rfl⟩ : ∃ m : Nat, lets = (m : Int) := ⟨lets.toNat, by omega⟩
  refine rn_ ?_; intros
  rename_i b0 b1
  refine go_pub 0 rfl (by omega) ?_
  intro G1 (hle1 : Le G G1) hG1
  refine go_torowN 1 (size := 3) (n := 4) rfl rfl (by omega) ?_
  refine go_slot 5 (.v (.slice (some ⟨b1, 0, none⟩) 4 4)) rfl rfl ?_
  refine go_keep [0, 1, 4, 5, 6, 7] [1] ?_
  refine st_ ?_
  have i0 : ∀ {n : Int}, 0 ≤ n → n ≤ 1000 → isI64 n := fun h h' => ⟨by omega, by omega⟩
  have hL0 : rN.L G1 (nsF 0).1 [.int .i64 5, .int .i64 0, .slice (some ⟨b0, 0, none⟩) 3 3, .int .i64 3, .int .i64 0, .slice none 0 0, .int .i64 0, .int .i64 0, .slice none 0 0, .int .i64 2, .int .i64 0, .slice none 0 0] :=
    rN_c (i0 (by decide) (by decide)) (i0 (by decide) (by decide)) (rI_mk (at_cells hG1) rfl (by simp [isI64]) (by simp)) (rN_c (i0 (by decide) (by decide)) (i0 (by decide) (by decide)) (Rp.S_nil _ _) (rN_c (i0 (by decide) (by decide)) (i0 (by decide) (by decide)) (Rp.S_nil _ _) (rN_c (i0 (by decide) (by decide)) (i0 (by decide) (by decide)) (Rp.S_nil _ _) rfl)))
  refine x_loop rfl (fun q s => ∃ (i : Nat) (G1 : Hp) (ad : Option Addr) (cap : Nat) (xs : List Value), i ≤ m ∧ q = m - i ∧ Le G G1 ∧ rN.L G1 (nsF i).1 xs ∧
    s = ⟨[(0, .v (.int .i64 N)), (1, .v (.int .i64 m)), (4, .b false), (5, .v (.slice ad (4 + 2 * i) cap)), (6, .v (.int .i64 ((nsF i).2 : Nat))), (7, .v (.int .i64 i))], [(1, b1, .row (.slice ad (4 + 2 * i) cap) 26 3 (4 + 2 * i) xs)], G1, []⟩) ⟨0, G1, some ⟨b1, 0, none⟩, 4, _, by omega, rfl, hle1, hL0, rfl⟩ ?_
  clear hL0 hG1 hle1
  rintro q s ⟨i, G1, ad, cap, xs, hi, hq, hle1, hxs, rfl⟩ ih
  obtain ⟨hnl, hnt2⟩ := nsF_len i
  have hxl := Rp.L_len hxs
  simp only [hnl, rN] at hxl
  refine go_rowcases 1 rfl (fun _ h _ => by omega) ?_
  rintro g cap' ecap hcap _
  injection ecap with q1 q2 q3
  subst q1 q3
  refine rn_ ?_; intros
  refine x_if rfl rfl rfl rfl (fun hjl => ?_) (fun hjl => ?_)
  · have hlt : i < m := by simp at hjl; omega
    refine rn_ ?_; intros
    rw [wr (n := ((4 + 2 * i : Nat) : Int) + 1) (by omega) (by omega)]
    refine go_q (v := .pointer (some ⟨g, (nsF i).2 * 3, none⟩)) (by rw [hnt]; rfl) ((quiet_index (by rw [hty]; rfl) (by rw [hty]; rfl) rfl rfl rfl (by omega) (by omega)).cast (by simp)) ?_
    refine rn_ ?_; intros
    rename_i b2
    refine go_storeR (k := 1) (xs' := xs.take ((nsF i).2 * 3) ++ [.int .i64 4, .int .i64 0, .slice (some ⟨b2, 0, none⟩) 2 2] ++ xs.drop ((nsF i).2 * 3 + 3)) (by rw [hnt]; rfl) (by rw [hty]; rfl) rfl rfl rfl rfl rfl rfl (by exact lay_put (c := [.int .i64 4, .int .i64 0, .slice (some ⟨b2, 0, none⟩) 2 2]) (by simp only [List.length_cons, List.length_nil]; omega)) ?_
    refine rn_ ?_; intros
    refine go_append 1 (by rw [hnt]; rfl) (by rw [hty]; rfl) (by rw [hty]; rfl) (by decide) rfl rfl rfl (by omega) rfl (src_own 6 rfl rfl) rfl (by simp [dens, SV.den, Value.oneCell']) (by omega) (by simp only []; omega) ?_
    intro v'
    refine go_rowS 1 rfl ?_
    rintro ad4 cap4 rfl
    refine rn_ ?_; intros
    refine go_pub 2 rfl (by omega) ?_
    intro G2 (hle2 : Le G1 G2) hG2
    refine go_keep [0, 1, 4, 5, 6, 7] [1] ?_
    refine st_ ?_
    have hat : (nsF (i + 1)).2 = 4 + 2 * i + 1 := by rw [nsF_at]; simp only [atN]; omega
    have hL : rN.L G2 (nsF (i + 1)).1 _ := Rp.L_append (rN_set (y := ⟨4, 0, [((nsF i).1.length : Int), (nsF i).1.length + 1]⟩) (i := (nsF i).2) (c := [.int .i64 4, .int .i64 0, .slice (some ⟨b2, 0, none⟩) 2 2])
      ⟨_, rfl, (by simp [isI64] : isI64 4), (by simp [isI64] : isI64 0), rI_mk (l := [((nsF i).1.length : Int), (nsF i).1.length + 1]) (at_cells hG2) (by rw [hnl]; rfl) (by rw [hnl]; intro n hn; simp only [List.mem_cons, List.not_mem_nil, or_false] at hn; rcases hn with rfl | rfl <;> exact i0 (by omega) (by omega)) (by simp)⟩ (Rp.L_mono hle2 hxs) (by omega))
      (rN_c (op := 1) (n := (i : Int)) (i0 (by decide) (by decide)) (i0 (by omega) (by omega)) (Rp.S_nil none 0) (rN_c (op := 0) (n := 0) (i0 (by decide) (by decide)) (i0 (by decide) (by decide)) (Rp.S_nil none 0) rfl))
    rw [wr (n := ((4 + 2 * i : Nat) : Int) + 1) (by omega) (by omega), wr (n := (i : Int) + 1) (by omega) (by omega)]
    rw [show ((4 + 2 * i : Nat) : Int) + 1 = ((nsF (i + 1)).2 : Nat) by rw [hat]; omega, show (i : Int) + 1 = ((i + 1 : Nat) : Int) by omega]
    exact ih (m - (i + 1)) _ (by omega) ⟨i + 1, G2, ad4, cap4, _, by omega, rfl, hle1.trans hle2, hL, rfl⟩
  have him : m = i := by simp at hjl; omega
  subst him
  refine rn_ ?_; intros
  refine go_q (v := .pointer (some ⟨g, (nsF m).2 * 3, none⟩)) (by rw [hnt]; rfl) ((quiet_index (by rw [hty]; rfl) (by rw [hty]; rfl) rfl rfl rfl (by omega) (by omega)).cast (by simp)) ?_
  refine rn_ ?_; intros
  rename_i b2
  refine go_storeR (k := 1) (xs' := xs.take ((nsF m).2 * 3) ++ [.int .i64 13, .int .i64 1, .slice (some ⟨b2, 0, none⟩) 1 1] ++ xs.drop ((nsF m).2 * 3 + 3)) (by rw [hnt]; rfl) (by rw [hty]; rfl) rfl rfl rfl rfl rfl rfl (by exact lay_put (c := [.int .i64 13, .int .i64 1, .slice (some ⟨b2, 0, none⟩) 1 1]) (by simp only [List.length_cons, List.length_nil]; omega)) ?_
  refine rn_ ?_; intros
  rw [wr (n := ((4 + 2 * m : Nat) : Int) + 1) (by omega) (by omega), wr (n := ((4 + 2 * m : Nat) : Int) + 2) (by omega) (by omega)]
  refine go_append 1 (by rw [hnt]; rfl) (by rw [hty]; rfl) (by rw [hty]; rfl) (by decide) rfl rfl rfl (by omega) rfl (src_own 9 rfl rfl) rfl (by simp [dens, SV.den, Value.oneCell']) (by omega) (by simp only []; omega) ?_
  intro v'
  refine go_rowS 1 rfl ?_
  rintro ad4 cap4 rfl
  refine rn_ ?_; intros
  rename_i b3 b4 b5 b6
  refine go_pub 2 rfl (by omega) ?_
  intro G2 (hle2 : Le G1 G2) hG2
  refine go_pub 3 rfl (by omega) ?_
  intro G3 (hle3 : Le G2 G3) hG3
  refine st_ ?_
  have hle13 := hle2.trans hle3
  have hL : rN.L G3 (nsE m) _ := Rp.L_append (rN_set (y := ⟨13, 1, [((nsF m).1.length : Int)]⟩) (i := (nsF m).2) (c := [.int .i64 13, .int .i64 1, .slice (some ⟨b2, 0, none⟩) 1 1])
    ⟨_, rfl, (by simp [isI64] : isI64 13), (by simp [isI64] : isI64 1), rI_mk (l := [((nsF m).1.length : Int)]) ((at_cells hG2).mono hle3) (by rw [hnl]; rfl) (by rw [hnl]; intro n hn; simp only [List.mem_cons, List.not_mem_nil, or_false] at hn; subst hn; exact i0 (by omega) (by omega)) (by simp)⟩ (Rp.L_mono hle13 hxs) (by omega))
    (rN_c (op := 7) (n := 0) (l := [((nsF m).1.length : Int) + 1, (nsF m).1.length + 2]) (by simp [isI64]) (by simp [isI64]) (rI_mk (cap := 2) (at_cells hG3) (by rw [hnl]; rfl) (by rw [hnl]; intro n hn; simp only [List.mem_cons, List.not_mem_nil, or_false] at hn; rcases hn with rfl | rfl <;> exact i0 (by omega) (by omega)) (by simp))
      (rN_c (op := 3) (n := 0) (by simp [isI64]) (by simp [isI64]) (Rp.S_nil none 0) (rN_c (op := 1) (n := 1) (by simp [isI64]) (by simp [isI64]) (Rp.S_nil none 0) rfl)))
  refine go_pubL rN 1 rfl (by omega) (nsE_len m).symm (by omega) hL ?_
  intro G4 ad5 cap5 (hle4 : Le G3 G4) e5 hS4
  injection e5 with q1 q2 q3
  subst q1 q3
  rw [nsE_len] at hS4
  refine go_pub 5 rfl (by omega) ?_
  intro G5 (hle5 : Le G4 G5) hG5
  refine go_pub 6 rfl (by omega) ?_
  intro G6 (hle6 : Le G5 G6) hG6
  refine st_ ?_
  have hSF : rF.S G6 (tailP m) (.slice (some ⟨b6, 0, none⟩) 2 2) :=
    rF_mk (l := tailP m) (at_cells hG6) (rF_cons (by simp [isI64]) (rN_mk (l := [⟨2, 0, []⟩]) ((at_cells hG5).mono hle6) (rN_c (by simp [isI64]) (by simp [isI64]) (Rp.S_nil none 0) rfl) (by simp)) (rF_cons (by simp [isI64]) (Rp.S_mono (hle5.trans hle6) hS4) rfl)) (by simp [tailP])
  refine go_keep [0, 1, 4, 90] [] ?_
  refine st_ ?_
  refine go_call (by rw [hnt]; rfl) (by rw [hP]; kernel_rfl) rfl (hP ▸ load_ok (tailP m) _ G6 hSF (tail_bdP (by omega)) (tail_wh (by omega))) ?_
  rintro _ G7 (hle7 : Le G6 G7) ⟨cb, ps, rfl, hc, hp⟩
  refine rn_ ?_; intros
  refine go_callf (by rw [hnt]; rfl) (by rw [hP]; kernel_rfl) rfl (hP ▸ numb_ok N _) ?_; refine rn_ ?_; intros
  rename_i b7
  refine go_pub 0 rfl (by omega) ?_
  intro G8 (hle8 : Le G7 G8) hG8
  refine go_nilrow 20 43 3 rfl (by omega) ?_
  refine go_nilrow 21 43 3 rfl (by omega) ?_
  refine go_nilrow 22 43 3 rfl (by omega) ?_
  refine go_nilrow 23 43 3 rfl (by omega) ?_
  refine st_ ?_
  refine go_callT [20, 21, 22, 23] (by rw [hnt]; rfl) (by rw [hP]; kernel_rfl) rfl rfl rfl (by rw [hmh]; simp) (by rw [hP]; exact begin_ok (tailP m) ps cb 1 [iV N] (.slice (some ⟨b7, 0, none⟩) 1 1) _ G8 (hc.mono hle8) (Rp.S_mono hle8 hp) (by omega) (by simp [tailP]) (by simp [tailP]) rfl (by simp) (rW_one (at_cells hG8) (by simp [isI64]) ⟨by omega, by omega⟩) (by simp; rfl) (tail_d m N)) ?_
  rintro _ G9 ow9 (hle9 : Le G8 G9) ⟨bf, rfl, vlf, fsf, f1, f2, f3, rsf, Zf, v1, v2, v3, v4, v5, rfl⟩
  simp only [setO, fhO, frO, fzO, fdO]
  refine st_ ?_
  refine rn_ ?_; intros
  refine go_callf (by rw [hnt]; rfl) (by rw [hP]; kernel_rfl) rfl (hP ▸ numL_ok 0 _) ?_; refine rn_ ?_; intros
  refine go_callf (by rw [hnt]; rfl) (by rw [hP]; kernel_rfl) rfl (hP ▸ numL_ok 0 _) ?_; refine rn_ ?_; intros
  (refine x_split rfl rfl rfl (fun hc => absurd hc (by first | decide +kernel | (simp; first | done | fail))) (fun _ => ?_); refine st_ ?_; (refine ru_ ?_; intros))
  refine go_keep [0, 1, 4, 12, 14] [20, 21, 22, 23] ?_
  refine st_ ?_
  exact tB hP hQ hnt hty hmb hmh hro N m (by omega) (by omega) cb bf f1 f2 f3 vlf fsf ps rsf Zf G9 (hc.mono (hle8.trans hle9)) (Rp.S_mono (hle8.trans hle9) hp) ⟨v1, v2, v3, v4, v5⟩
end Go.Proofs.Ytpppkednpamhbaa
namespace Go.Sx
set_option linter.unusedSimpArgs false
set_option linter.unusedVariables false
open Go.RowKit

def hp (w : World) : Hp := fun b => w.heap[b]?
theorem has_hp (w : World) : Has w (hp w) := fun _ _ h => h
theorem wf_i64 {n : Int} (h : (Lit.int .i64 n).wf = true) : isI64 n := by
  simpa [Lit.wf, IntKind.min, IntKind.max, IntKind.signed, IntKind.bits, isI64] using h
section
variable {H : Type} {enc : TypeId × Value → H} {P : Program} {w : World}
end
end Go.Sx
namespace Go.Proofs.Ytpppkednpamhbaa
set_option linter.unusedSimpArgs false
set_option linter.unusedVariables false
open Go.ChangeShapes Go.WideShapes Go.ChangeAt Go.RowKit

theorem own : ownKnob Try.prog.godebug = none := by kernel_rfl
theorem post_below {H : Type} {enc : TypeId × Value → H} {P : Program} {f : Func} {s : ChangeSpec} {fresh handsOn again : Bool} {W W' : World} {args : Array Value} {v : Value} {ds : List (DataW H)} {pa : List MemPlace}
    (hvs : s.vars = []) (hfn : (s.fn H (ds ++ [])).vars = []) (hW : DataW.Whole enc P f.params.toList s.vars false W args.toList ds [] pa)
    (hres : ∀ (b : Nat) (sp : Nat → Bool) (hd : Bool), DataW.TrodAll enc P W' b sp hd f.resultTypes.toList (v.resultList f.resultTypes.size) (s.fn H (ds ++ [])).results [])
    (hargs : ∀ sp : Nat → Bool, (∀ p ∈ pa, sp p.block = true) → DataW.TrodAll enc P W' 0 sp true f.params.toList args.toList (s.fn H (ds ++ [])).args pa)
    (hb : Below W.heap.size W W')
    (hok : ∀ (j : Nat) (t : TypeId) (r : Value), f.resultTypes[j]? = some t → (v.resultList f.resultTypes.size)[j]? = some r → Value.okWide P W' .any 0 t r) :
    s.post enc P f false fresh handsOn again W args v W' := by
  have hlt := hW.lt
  have hvars : ∀ sp : Nat → Bool, DataW.TrodVars enc P W' sp s.vars (s.fn H (ds ++ [])).vars [] := fun sp => by rw [hvs, hfn]; rfl
  have hz := hW
  obtain ⟨_, _, _, _, _, hfrozen, _⟩ := hz
  refine ⟨ds, [], pa, [], pa, [], hW, hres _ _ _, hargs _ (fun p hp => by simpa using hlt p hp), hvars _, World.keptBut_mono (fun p hp => ⟨hp, Or.inr (by simpa using hp)⟩) (hb.frame (· ∈ pa)), fun _ => ?_⟩
  refine ⟨hok, _, _, ([] ++ pa) ++ [], ⟨[] ++ pa, [], trodAll_append (hargs _ (fun _ _ => rfl)) (hres _ _ _), hvars _, rfl, fun b off hp => ?_, by simp⟩, fun p hp _ => by simpa using hp⟩
  · have hp' : MemPlace.cell b off ∈ pa := by simpa using hp
    rw [hb.frozen (hlt _ hp')]
    exact hfrozen b off hp'
end Go.Proofs.Ytpppkednpamhbaa
namespace Go.Proofs.Ytpppkednpamhbaa.fiberTails
set_option linter.unusedSimpArgs false
set_option linter.unusedVariables false
open Go.ChangeShapes Go.WideShapes Go.ChangeAt Go.RowKit Go.Sx

set_option maxRecDepth 100000
theorem contract (H : Type) (enc : TypeId × Value → H) (W : World) (base : Nat) (args : Array Value) (ds gs : List (DataW H)) (before : List MemPlace)
    (hval : ∀ (j : Nat) t v, Try.f3.params[j]? = some t → args[j]? = some v → Value.okWide Try.prog W .any base t v)
    (hW : DataW.Whole enc Try.prog Try.f3.params.toList Rows.fiberTailsSpec.vars false W args.toList ds gs before) :
    Calls Try.prog 3 args W fun e W' => ∃ v, e = .returned v ∧ Rows.fiberTailsSpec.post enc Try.prog Try.f3 false true false false W args v W' := by
  have hW' := hW
  obtain ⟨p, q, hA0, hV, rfl, hfz, hnd⟩ := hW
  have hA : DataW.TrodAll enc Try.prog W 0 (fun _ => true) true Try.f3.params.toList args.toList ds p := hA0
  rw [Try.params3] at hA hval
  obtain ⟨v0, vs0, d0, ds0, p0, q0, hargs, rfl, rfl, h0, r0⟩ := trodAll_cons hA
  obtain ⟨v1, vs1, d1, ds1, p1, q1, rfl, rfl, rfl, h1, r1⟩ := trodAll_cons r0
  obtain ⟨rfl, rfl, rfl⟩ := trodAll_nil r1
  obtain rfl : args = #[v0, v1] := by cases args; simp_all
  obtain ⟨rfl, rfl⟩ := trodVars_none hV
  clear hA0
  obtain ⟨a0, rfl, rfl, rfl, w0⟩ := open_int Try.underlying2 (hval 0 2 v0 rfl rfl) h0
  obtain ⟨a1, rfl, rfl, rfl, w1⟩ := open_int Try.underlying3 (hval 1 3 v1 rfl rfl) h1
  simp only [List.append_nil, List.nil_append] at hW'
  refine (tails_ok a0 a1 (hp W) (wf_i64 w0) (wf_i64 w1)  W (has_hp W)).mono ?_
  rintro e W' ⟨v, G', rfl, hg, rfl⟩
  have hb := hg.below
  exact ⟨_, rfl, post_below rfl rfl hW' (fun _ _ _ => (trodAll_cons_mk (shut_bool Try.underlying4 _) trodAll_mk0))
    (fun sp hsp => (trodAll_cons_mk (shut_int Try.underlying2 w0) (trodAll_cons_mk (shut_int Try.underlying3 w1) trodAll_mk0)))
    hb (ok_one (by kernel_rfl) rfl (okWide_bool_mk Try.underlying4 _))⟩

set_option maxRecDepth 100000 in
theorem lifted (os : Os) (started : os.Started) (H : Type) (enc : TypeId × Value → H) :
    ReturnsInHanded {} Try.checked os 3 .any (Rows.fiberTailsSpec.pre6 enc Try.prog Try.f3 Rows.fiberTailsRow.domain false) (Rows.fiberTailsSpec.post enc Try.prog Try.f3 false true false false) := by
  refine returnsInHanded_of_change (C := Try.checked) own started (by kernel_rfl) Try.func3
    (ChangeSpec.witness6 (enc := enc) (C := Try.checked) false ⟨#[], #[.int .i64 0, .int .i64 0], []⟩ 8 (by kernel_rfl) (by kernel_rfl) (by kernel_rfl) (by kernel_rfl)) ?_
  intro W base args ds gs before hval hW _ _
  exact contract H enc W base args ds gs before hval hW

theorem over : Rows.fiberTailsRow.holds Try.pinned (OpenSpec.ofChange Rows.fiberTailsSpec) :=
  OpenClaim.holds_of_wide 3 Try.f3 rfl rfl rfl rfl rfl rfl rfl ⟨rfl, rfl, rfl, rfl, rfl⟩ rfl rfl rfl rfl rfl (by kernel_rfl) Try.func3 (by kernel_rfl)
    (of_decide_eq_true (by kernel_rfl)) (by unfold Func.isWrapper; first | (rw [if_pos (by decide +kernel)]; kernel_rfl) | (rw [if_neg (by decide +kernel)]; exact ⟨rfl, rfl⟩))
    (fun os started H enc _ => lifted os started H enc)

theorem proved : Rows.FiberTailsSaid := over
end Go.Proofs.Ytpppkednpamhbaa.fiberTails

