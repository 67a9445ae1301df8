/-
  The reference's answer for layer 7: names, Where, Right; Funs, Same.
-/
import Derived.Test.YtmdkenpodcnnbaaZ4
namespace Go.Proofs.Ytmdkenpodcnnbaa
open Go.Sx renaming SO' → zs1, SQ' → zs2, opQ → zs3, opStore → zs4, opAlloc → zs5, putS → zs6, ldOwn → zs7, binInt → zs8, binConst → zs9, binBool → zt1, binStr → zt2, resOne → zt3, resV → zt4
open Go.Sx.SV renaming cs → zu1, one → zu2, bool? → zu3
open Nat renaming reduceAdd → zn1, reduceMul → zn2, reduceSub → zn3, reduceLT → zn4, reduceLeDiff → zn5, reduceEqDiff → zn6, reduceBEq → zn7
set_option linter.unusedSimpArgs false
set_option linter.unusedVariables false
open Go.Sx
set_option maxHeartbeats 4000000
/-- With how many parameters a node names a function. -/
def nmP (x : Nd) : Int := if x.op = 23 then IntKind.i64.wrap ((x.l.length : Int) + 1) else if nms x.op then x.l.length else 0
theorem rnames_ok (x : Nd) (sl : Value) (G : Hp) (hr : rI.S G x.l sl) : Pure Try.prog 28 [.agg #[.int .i64 x.op, .int .i64 x.n, sl]] G (fun r _ => r = .tuple #[.int .i64 (nmP x), .bool (nms x.op)]) := by
  obtain ⟨ad, cap, rfl⟩ := Rp.S_slice hr
  refine enterX ty tyok Try.func28 rfl Try.ntmps28 [.a [.v (.int .i64 x.op), .v (.int .i64 x.n), .v _]] (by simp) ?_
  intro C hP hQ hnt hty hmb hmh hro; have hQp := qp_body hQ; simp only [so, sq, zy, zz, tyE, zs1, zs2, zs3, zs4, zs5, ev, zs6, dOk, cv, zu1, zu2, zu3, eqB, Value.oneCell', zs7, zs8, zs9, zt1, zt2, isC, TK.agg, rv, rv1, ldV, zt3, zt4, zn1, zn2, zn3, zn4, zn5, zn6, zn7, reduceIte, reduceCtorEq, eq_self]
  (try (refine runo0 400 hty hnt hmh ?_; simp only [so, sq, zy, zz, tyE, zs1, zs2, zs3, zs4, zs5, ev, zs6, dOk, cv, zu1, zu2, zu3, eqB, Value.oneCell', zs7, zs8, zs9, zt1, zt2, isC, TK.agg, rv, rv1, ldV, zt3, zt4, zn1, zn2, zn3, zn4, zn5, zn6, zn7, reduceIte, reduceCtorEq, eq_self])); (repeat (first | refine x_seq rfl ?_ | refine go_ops ?_ | refine go_blk ?_ | refine x_skip rfl ?_ | refine x_blk rfl rfl ?_ | refine x_exit rfl rfl rfl ?_ | refine x_ift rfl rfl rfl ?_ | refine x_iff rfl rfl rfl ?_ | refine x_label rfl ?_ | ((first | refine x_reg rfl rfl ?_ | (refine go_newx hty hnt hmh rfl rfl ?_; intro _)); refine runo0 400 hty hnt hmh ?_; simp only [so, sq, zy, zz, tyE, zs1, zs2, zs3, zs4, zs5, ev, zs6, dOk, cv, zu1, zu2, zu3, eqB, Value.oneCell', zs7, zs8, zs9, zt1, zt2, isC, TK.agg, rv, rv1, ldV, zt3, zt4, zn1, zn2, zn3, zn4, zn5, zn6, zn7, reduceIte, reduceCtorEq, eq_self])))
  iterate 5
    refine x_split rfl rfl rfl (fun h1 => ?_) (fun h1 => ?_) <;> (simp only [so, sq, zy, zz, tyE, zs1, zs2, zs3, zs4, zs5, ev, zs6, dOk, cv, zu1, zu2, zu3, eqB, Value.oneCell', zs7, zs8, zs9, zt1, zt2, isC, TK.agg, rv, rv1, ldV, zt3, zt4, zn1, zn2, zn3, zn4, zn5, zn6, zn7, reduceIte, reduceCtorEq, eq_self]; (repeat (first | refine x_seq rfl ?_ | refine go_ops ?_ | refine go_blk ?_ | refine x_skip rfl ?_ | refine x_blk rfl rfl ?_ | refine x_exit rfl rfl rfl ?_ | refine x_ift rfl rfl rfl ?_ | refine x_iff rfl rfl rfl ?_ | refine x_label rfl ?_ | ((first | refine x_reg rfl rfl ?_ | (refine go_newx hty hnt hmh rfl rfl ?_; intro _)); refine runo0 400 hty hnt hmh ?_; simp only [so, sq, zy, zz, tyE, zs1, zs2, zs3, zs4, zs5, ev, zs6, dOk, cv, zu1, zu2, zu3, eqB, Value.oneCell', zs7, zs8, zs9, zt1, zt2, isC, TK.agg, rv, rv1, ldV, zt3, zt4, zn1, zn2, zn3, zn4, zn5, zn6, zn7, reduceIte, reduceCtorEq, eq_self]))))
    · refine x_retc rfl hQ hmb rfl (by rw [hty]; simp only [so, sq, zy, zz, tyE, zs1, zs2, zs3, zs4, zs5, ev, zs6, dOk, cv, zu1, zu2, zu3, eqB, Value.oneCell', zs7, zs8, zs9, zt1, zt2, isC, TK.agg, rv, rv1, ldV, zt3, zt4, zn1, zn2, zn3, zn4, zn5, zn6, zn7, reduceIte, reduceCtorEq, eq_self]; try rfl) rfl ?_; simp only [SV.den, resV, dens]
      simp at h1
      simp_all [nmP, nms]
  refine x_retc rfl hQ hmb rfl (by rw [hty]; simp only [so, sq, zy, zz, tyE, zs1, zs2, zs3, zs4, zs5, ev, zs6, dOk, cv, zu1, zu2, zu3, eqB, Value.oneCell', zs7, zs8, zs9, zt1, zt2, isC, TK.agg, rv, rv1, ldV, zt3, zt4, zn1, zn2, zn3, zn4, zn5, zn6, zn7, reduceIte, reduceCtorEq, eq_self]; try rfl) rfl ?_; simp only [SV.den, resV, dens]
  simp_all [nmP, nms]
theorem fits_nm {x : Nd} {m : Int} (h : nms x.op = true) : fits x m = (m == nmP x) := by
  simp only [fits, nmP, h, if_true]
  split <;> rfl
/-- The nodes that misname, one by one. -/
def misN (p : Pr) : List Nd → Nat → Option Int
  | [], _ => none
  | x :: l, k => if nms x.op && (decide ((p.length : Int) ≤ x.n) || !fits x (fu p x.n.toNat).params) then some k else misN p l (k + 1)
theorem misN_eq {p : Pr} {f : Fu} : ∀ {l : List Nd} {k : Nat}, f.nodes.drop k = l → misN p l k = misL p f (cals l k)
  | [], k, _ => rfl
  | x :: l, k, h => by
    have hk : k < f.nodes.length := by
      rcases Nat.lt_or_ge k f.nodes.length with q | q
      · exact q
      · rw [List.drop_eq_nil_of_le q] at h; cases h
    rw [List.drop_eq_getElem_cons hk] at h
    obtain ⟨hx, hl⟩ := List.cons.inj h
    have ih := misN_eq (p := p) (l := l) (k := k + 1) hl
    simp only [misN, cals]
    by_cases hn : nms x.op = true
    · simp only [hn, Bool.true_and, if_true, misL, misB, Int.toNat_natCast, nd_eq hk, hx, ih]
    · simp only [hn, Bool.false_and, Bool.false_eq_true, if_false, ih]
def misM (p : Pr) : List Fu → Nat → Option (Int × Int)
  | [], _ => none
  | f :: l, i => match misN p f.nodes 0 with
    | some a => some (i, a)
    | none => misM p l (i + 1)
theorem misM_eq {p : Pr} : ∀ {l : List Fu} {i : Nat}, badF l i = none → misM p l i = misF p l i
  | [], i, _ => rfl
  | f :: l, i, h => by
    simp only [badF] at h
    split at h
    · rename_i hw
      have hc : calP f = cals f.nodes 0 := by
        simp only [whr] at hw
        simp only [calP]
        cases hp : places f with
        | inl a => rw [hp] at hw; simp at hw
        | inr A => rfl
      simp only [misM, misF, misM_eq (p := p) h, hc, misN_eq (p := p) (f := f) (l := f.nodes) (k := 0) (by simp)]
      rfl
    · cases h
theorem badF_par {p : Pr} (h : badF p 0 = none) (hp : 0 < p.length) : 0 ≤ (fu p 0).params := by
  cases p with
  | nil => simp at hp
  | cons f p =>
    simp only [badF] at h
    split at h
    · rename_i hw
      simp only [whr] at hw
      cases hq : places f with
      | inl a => rw [hq] at hw; simp at hw
      | inr A => have := (tree hq).par9.1; simpa [fu] using this
    · cases h
theorem badF_ok : ∀ {p : List Fu} {i : Nat}, badF p i = none → ∀ f ∈ p, (whr f).2 = 0
  | [], _, _, f, hf => by simp at hf
  | g :: p, i, h, f, hf => by
    simp only [badF] at h
    split at h
    · rename_i hw
      rcases List.mem_cons.1 hf with rfl | hf
      · exact hw
      · exact badF_ok h f hf
    · cases h
/-- A valid function's nodes that name functions. -/
theorem nms_range {f : Fu} (h : (whr f).2 = 0) {k : Nat} (hk : k < f.nodes.length) (hn : nms f.nodes[k].op = true) : 0 ≤ f.nodes[k].n ∧ f.nodes[k].n ≤ 63 := by
  simp only [whr] at h
  cases hp : places f with
  | inl a => rw [hp] at h; simp at h
  | inr A =>
    have h3 := ((tree hp).ok k hk).2.2
    rw [nd_eq hk] at h3
    exact nmb_nms hn h3
theorem refwherep_ok (p : Pr) (ps : Value) (G : Hp) (hps : rF.S G p ps) :
    Pure Try.prog 10 [.agg #[ps]] G (fun r _ => r = .tuple #[.int .i64 (whP p).1, .int .i64 (whP p).2.1, .int .i64 (whP p).2.2]) := by
  have hps0 := hps
  have hp63 := Rp.S_len hps
  obtain ⟨adp, capp, rfl⟩ := Rp.S_slice hps
  refine enterX ty tyok Try.func10 rfl Try.ntmps10 [.a [.v (.slice adp p.length capp)]] (by simp) ?_
  intro C hP hQ hnt hty hmb hmh hro; have hQp := qp_body hQ; simp only [so, sq, zy, zz, tyE, zs1, zs2, zs3, zs4, zs5, ev, zs6, dOk, cv, zu1, zu2, zu3, eqB, Value.oneCell', zs7, zs8, zs9, zt1, zt2, isC, TK.agg, rv, rv1, ldV, zt3, zt4, zn1, zn2, zn3, zn4, zn5, zn6, zn7, reduceIte, reduceCtorEq, eq_self]
  (try (refine runo0 400 hty hnt hmh ?_; simp only [so, sq, zy, zz, tyE, zs1, zs2, zs3, zs4, zs5, ev, zs6, dOk, cv, zu1, zu2, zu3, eqB, Value.oneCell', zs7, zs8, zs9, zt1, zt2, isC, TK.agg, rv, rv1, ldV, zt3, zt4, zn1, zn2, zn3, zn4, zn5, zn6, zn7, reduceIte, reduceCtorEq, eq_self])); (repeat (first | refine x_seq rfl ?_ | refine go_ops ?_ | refine go_blk ?_ | refine x_skip rfl ?_ | refine x_blk rfl rfl ?_ | refine x_exit rfl rfl rfl ?_ | refine x_ift rfl rfl rfl ?_ | refine x_iff rfl rfl rfl ?_ | refine x_label rfl ?_ | ((first | refine x_reg rfl rfl ?_ | (refine go_newx hty hnt hmh rfl rfl ?_; intro _)); refine runo0 400 hty hnt hmh ?_; simp only [so, sq, zy, zz, tyE, zs1, zs2, zs3, zs4, zs5, ev, zs6, dOk, cv, zu1, zu2, zu3, eqB, Value.oneCell', zs7, zs8, zs9, zt1, zt2, isC, TK.agg, rv, rv1, ldV, zt3, zt4, zn1, zn2, zn3, zn4, zn5, zn6, zn7, reduceIte, reduceCtorEq, eq_self])))
  rename_i b1
  refine go_gsplit rfl rfl (fun h1 => ?_) (fun h1 => ?_) <;> (simp only [so, sq, zy, zz, tyE, zs1, zs2, zs3, zs4, zs5, ev, zs6, dOk, cv, zu1, zu2, zu3, eqB, Value.oneCell', zs7, zs8, zs9, zt1, zt2, isC, TK.agg, rv, rv1, ldV, zt3, zt4, zn1, zn2, zn3, zn4, zn5, zn6, zn7, reduceIte, reduceCtorEq, eq_self]; ((try (refine runo0 400 hty hnt hmh ?_; simp only [so, sq, zy, zz, tyE, zs1, zs2, zs3, zs4, zs5, ev, zs6, dOk, cv, zu1, zu2, zu3, eqB, Value.oneCell', zs7, zs8, zs9, zt1, zt2, isC, TK.agg, rv, rv1, ldV, zt3, zt4, zn1, zn2, zn3, zn4, zn5, zn6, zn7, reduceIte, reduceCtorEq, eq_self])); (repeat (first | refine x_seq rfl ?_ | refine go_ops ?_ | refine go_blk ?_ | refine x_skip rfl ?_ | refine x_blk rfl rfl ?_ | refine x_exit rfl rfl rfl ?_ | refine x_ift rfl rfl rfl ?_ | refine x_iff rfl rfl rfl ?_ | refine x_label rfl ?_ | ((first | refine x_reg rfl rfl ?_ | (refine go_newx hty hnt hmh rfl rfl ?_; intro _)); refine runo0 400 hty hnt hmh ?_; simp only [so, sq, zy, zz, tyE, zs1, zs2, zs3, zs4, zs5, ev, zs6, dOk, cv, zu1, zu2, zu3, eqB, Value.oneCell', zs7, zs8, zs9, zt1, zt2, isC, TK.agg, rv, rv1, ldV, zt3, zt4, zn1, zn2, zn3, zn4, zn5, zn6, zn7, reduceIte, reduceCtorEq, eq_self])))))
  · refine x_retc rfl hQ hmb rfl (by rw [hty]; simp only [so, sq, zy, zz, tyE, zs1, zs2, zs3, zs4, zs5, ev, zs6, dOk, cv, zu1, zu2, zu3, eqB, Value.oneCell', zs7, zs8, zs9, zt1, zt2, isC, TK.agg, rv, rv1, ldV, zt3, zt4, zn1, zn2, zn3, zn4, zn5, zn6, zn7, reduceIte, reduceCtorEq, eq_self]; try rfl) rfl ?_; simp only [SV.den, resV, dens]
    rw [whP, if_pos (by have := of_decide_eq_true h1; omega)]
  refine x_split rfl rfl rfl (fun h2 => ?_) (fun h2 => ?_) <;> (simp only [so, sq, zy, zz, tyE, zs1, zs2, zs3, zs4, zs5, ev, zs6, dOk, cv, zu1, zu2, zu3, eqB, Value.oneCell', zs7, zs8, zs9, zt1, zt2, isC, TK.agg, rv, rv1, ldV, zt3, zt4, zn1, zn2, zn3, zn4, zn5, zn6, zn7, reduceIte, reduceCtorEq, eq_self]; (repeat (first | refine x_seq rfl ?_ | refine go_ops ?_ | refine go_blk ?_ | refine x_skip rfl ?_ | refine x_blk rfl rfl ?_ | refine x_exit rfl rfl rfl ?_ | refine x_ift rfl rfl rfl ?_ | refine x_iff rfl rfl rfl ?_ | refine x_label rfl ?_ | ((first | refine x_reg rfl rfl ?_ | (refine go_newx hty hnt hmh rfl rfl ?_; intro _)); refine runo0 400 hty hnt hmh ?_; simp only [so, sq, zy, zz, tyE, zs1, zs2, zs3, zs4, zs5, ev, zs6, dOk, cv, zu1, zu2, zu3, eqB, Value.oneCell', zs7, zs8, zs9, zt1, zt2, isC, TK.agg, rv, rv1, ldV, zt3, zt4, zn1, zn2, zn3, zn4, zn5, zn6, zn7, reduceIte, reduceCtorEq, eq_self]))))
  · refine x_retc rfl hQ hmb rfl (by rw [hty]; simp only [so, sq, zy, zz, tyE, zs1, zs2, zs3, zs4, zs5, ev, zs6, dOk, cv, zu1, zu2, zu3, eqB, Value.oneCell', zs7, zs8, zs9, zt1, zt2, isC, TK.agg, rv, rv1, ldV, zt3, zt4, zn1, zn2, zn3, zn4, zn5, zn6, zn7, reduceIte, reduceCtorEq, eq_self]; try rfl) rfl ?_; simp only [SV.den, resV, dens]
    rw [whP, if_pos (by have := of_decide_eq_true h2; omega)]
  have hlen : ¬ (p.length < 1 ∨ 64 < p.length) := by simp at h1 h2; omega
  have hpos : 0 < p.length := by omega
  refine go_keep [1, 5, 6] [0] ?_
  simp only [so, sq, zy, zz, tyE, zs1, zs2, zs3, zs4, zs5, ev, zs6, dOk, cv, zu1, zu2, zu3, eqB, Value.oneCell', zs7, zs8, zs9, zt1, zt2, isC, TK.agg, rv, rv1, ldV, zt3, zt4, zn1, zn2, zn3, zn4, zn5, zn6, zn7, reduceIte, reduceCtorEq, eq_self]
  refine x_loop rfl (fun q s => ∃ i : Nat, i ≤ p.length ∧ q = p.length - i ∧ badF p 0 = badF (p.drop i) i ∧
    s = ⟨[(1, .p 0 b1 0), (5, .v (.int .i64 p.length)), (6, .v (.int .i64 i))], [(0, b1, .c 24 [.v (.slice adp p.length capp)])], G, []⟩) ⟨0, by omega, rfl, rfl, rfl⟩ ?_
  rintro q s ⟨i, hi, hq, hbad, rfl⟩ ih
  (try (refine runo0 400 hty hnt hmh ?_; simp only [so, sq, zy, zz, tyE, zs1, zs2, zs3, zs4, zs5, ev, zs6, dOk, cv, zu1, zu2, zu3, eqB, Value.oneCell', zs7, zs8, zs9, zt1, zt2, isC, TK.agg, rv, rv1, ldV, zt3, zt4, zn1, zn2, zn3, zn4, zn5, zn6, zn7, reduceIte, reduceCtorEq, eq_self])); (repeat (first | refine x_seq rfl ?_ | refine go_ops ?_ | refine go_blk ?_ | refine x_skip rfl ?_ | refine x_blk rfl rfl ?_ | refine x_exit rfl rfl rfl ?_ | refine x_ift rfl rfl rfl ?_ | refine x_iff rfl rfl rfl ?_ | refine x_label rfl ?_ | ((first | refine x_reg rfl rfl ?_ | (refine go_newx hty hnt hmh rfl rfl ?_; intro _)); refine runo0 400 hty hnt hmh ?_; simp only [so, sq, zy, zz, tyE, zs1, zs2, zs3, zs4, zs5, ev, zs6, dOk, cv, zu1, zu2, zu3, eqB, Value.oneCell', zs7, zs8, zs9, zt1, zt2, isC, TK.agg, rv, rv1, ldV, zt3, zt4, zn1, zn2, zn3, zn4, zn5, zn6, zn7, reduceIte, reduceCtorEq, eq_self])))
  refine x_if rfl rfl rfl rfl (fun hil => ?_) (fun hil => ?_)
  · have hlt : i < p.length := by simp at hil; omega
    obtain ⟨bp, op, nsp, rfl, hatp, hpp, hnp⟩ := rF_at hps0 hlt
    rw [fu_drop hlt] at hbad
    simp only [badF] at hbad
    have hc := refwhere_ok (fu p i) nsp G hpp hnp
    obtain ⟨adn, capn, rfl⟩ := Rp.S_slice hnp
    (try (refine runo0 400 hty hnt hmh ?_; simp only [so, sq, zy, zz, tyE, zs1, zs2, zs3, zs4, zs5, ev, zs6, dOk, cv, zu1, zu2, zu3, eqB, Value.oneCell', zs7, zs8, zs9, zt1, zt2, isC, TK.agg, rv, rv1, ldV, zt3, zt4, zn1, zn2, zn3, zn4, zn5, zn6, zn7, reduceIte, reduceCtorEq, eq_self])); (repeat (first | refine x_seq rfl ?_ | refine go_ops ?_ | refine go_blk ?_ | refine x_skip rfl ?_ | refine x_blk rfl rfl ?_ | refine x_exit rfl rfl rfl ?_ | refine x_ift rfl rfl rfl ?_ | refine x_iff rfl rfl rfl ?_ | refine x_label rfl ?_ | ((first | refine x_reg rfl rfl ?_ | (refine go_newx hty hnt hmh rfl rfl ?_; intro _)); refine runo0 400 hty hnt hmh ?_; simp only [so, sq, zy, zz, tyE, zs1, zs2, zs3, zs4, zs5, ev, zs6, dOk, cv, zu1, zu2, zu3, eqB, Value.oneCell', zs7, zs8, zs9, zt1, zt2, isC, TK.agg, rv, rv1, ldV, zt3, zt4, zn1, zn2, zn3, zn4, zn5, zn6, zn7, reduceIte, reduceCtorEq, eq_self])))
    refine go_q (by rw [hnt]; rfl) (quiet_index (by rw [hty]; rfl) (by rw [hty]; rfl) rfl rfl rfl (by omega) (by omega)) ?_
    (try (refine runo0 400 hty hnt hmh ?_; simp only [so, sq, zy, zz, tyE, zs1, zs2, zs3, zs4, zs5, ev, zs6, dOk, cv, zu1, zu2, zu3, eqB, Value.oneCell', zs7, zs8, zs9, zt1, zt2, isC, TK.agg, rv, rv1, ldV, zt3, zt4, zn1, zn2, zn3, zn4, zn5, zn6, zn7, reduceIte, reduceCtorEq, eq_self])); (repeat (first | refine x_seq rfl ?_ | refine go_ops ?_ | refine go_blk ?_ | refine x_skip rfl ?_ | refine x_blk rfl rfl ?_ | refine x_exit rfl rfl rfl ?_ | refine x_ift rfl rfl rfl ?_ | refine x_iff rfl rfl rfl ?_ | refine x_label rfl ?_ | ((first | refine x_reg rfl rfl ?_ | (refine go_newx hty hnt hmh rfl rfl ?_; intro _)); refine runo0 400 hty hnt hmh ?_; simp only [so, sq, zy, zz, tyE, zs1, zs2, zs3, zs4, zs5, ev, zs6, dOk, cv, zu1, zu2, zu3, eqB, Value.oneCell', zs7, zs8, zs9, zt1, zt2, isC, TK.agg, rv, rv1, ldV, zt3, zt4, zn1, zn2, zn3, zn4, zn5, zn6, zn7, reduceIte, reduceCtorEq, eq_self])))
    refine go_q (by rw [hnt]; rfl) (quiet_load (by rw [hty]; rfl) rfl (by simp [TK.agg]) hatp rfl) ?_
    (try (refine runo0 400 hty hnt hmh ?_; simp only [so, sq, zy, zz, tyE, zs1, zs2, zs3, zs4, zs5, ev, zs6, dOk, cv, zu1, zu2, zu3, eqB, Value.oneCell', zs7, zs8, zs9, zt1, zt2, isC, TK.agg, rv, rv1, ldV, zt3, zt4, zn1, zn2, zn3, zn4, zn5, zn6, zn7, reduceIte, reduceCtorEq, eq_self])); (repeat (first | refine x_seq rfl ?_ | refine go_ops ?_ | refine go_blk ?_ | refine x_skip rfl ?_ | refine x_blk rfl rfl ?_ | refine x_exit rfl rfl rfl ?_ | refine x_ift rfl rfl rfl ?_ | refine x_iff rfl rfl rfl ?_ | refine x_label rfl ?_ | ((first | refine x_reg rfl rfl ?_ | (refine go_newx hty hnt hmh rfl rfl ?_; intro _)); refine runo0 400 hty hnt hmh ?_; simp only [so, sq, zy, zz, tyE, zs1, zs2, zs3, zs4, zs5, ev, zs6, dOk, cv, zu1, zu2, zu3, eqB, Value.oneCell', zs7, zs8, zs9, zt1, zt2, isC, TK.agg, rv, rv1, ldV, zt3, zt4, zn1, zn2, zn3, zn4, zn5, zn6, zn7, reduceIte, reduceCtorEq, eq_self])))
    refine go_callf (by rw [hnt]; rfl) (by rw [hP]; kernel_rfl) rfl (hP ▸ hc) ?_; (try (refine runo0 400 hty hnt hmh ?_; simp only [so, sq, zy, zz, tyE, zs1, zs2, zs3, zs4, zs5, ev, zs6, dOk, cv, zu1, zu2, zu3, eqB, Value.oneCell', zs7, zs8, zs9, zt1, zt2, isC, TK.agg, rv, rv1, ldV, zt3, zt4, zn1, zn2, zn3, zn4, zn5, zn6, zn7, reduceIte, reduceCtorEq, eq_self])); (repeat (first | refine x_seq rfl ?_ | refine go_ops ?_ | refine go_blk ?_ | refine x_skip rfl ?_ | refine x_blk rfl rfl ?_ | refine x_exit rfl rfl rfl ?_ | refine x_ift rfl rfl rfl ?_ | refine x_iff rfl rfl rfl ?_ | refine x_label rfl ?_ | ((first | refine x_reg rfl rfl ?_ | (refine go_newx hty hnt hmh rfl rfl ?_; intro _)); refine runo0 400 hty hnt hmh ?_; simp only [so, sq, zy, zz, tyE, zs1, zs2, zs3, zs4, zs5, ev, zs6, dOk, cv, zu1, zu2, zu3, eqB, Value.oneCell', zs7, zs8, zs9, zt1, zt2, isC, TK.agg, rv, rv1, ldV, zt3, zt4, zn1, zn2, zn3, zn4, zn5, zn6, zn7, reduceIte, reduceCtorEq, eq_self])))
    refine x_split rfl rfl rfl (fun hw => ?_) (fun hw => ?_) <;> (simp only [so, sq, zy, zz, tyE, zs1, zs2, zs3, zs4, zs5, ev, zs6, dOk, cv, zu1, zu2, zu3, eqB, Value.oneCell', zs7, zs8, zs9, zt1, zt2, isC, TK.agg, rv, rv1, ldV, zt3, zt4, zn1, zn2, zn3, zn4, zn5, zn6, zn7, reduceIte, reduceCtorEq, eq_self]; (repeat (first | refine x_seq rfl ?_ | refine go_ops ?_ | refine go_blk ?_ | refine x_skip rfl ?_ | refine x_blk rfl rfl ?_ | refine x_exit rfl rfl rfl ?_ | refine x_ift rfl rfl rfl ?_ | refine x_iff rfl rfl rfl ?_ | refine x_label rfl ?_ | ((first | refine x_reg rfl rfl ?_ | (refine go_newx hty hnt hmh rfl rfl ?_; intro _)); refine runo0 400 hty hnt hmh ?_; simp only [so, sq, zy, zz, tyE, zs1, zs2, zs3, zs4, zs5, ev, zs6, dOk, cv, zu1, zu2, zu3, eqB, Value.oneCell', zs7, zs8, zs9, zt1, zt2, isC, TK.agg, rv, rv1, ldV, zt3, zt4, zn1, zn2, zn3, zn4, zn5, zn6, zn7, reduceIte, reduceCtorEq, eq_self]))))
    · refine x_retc rfl hQ hmb rfl (by rw [hty]; simp only [so, sq, zy, zz, tyE, zs1, zs2, zs3, zs4, zs5, ev, zs6, dOk, cv, zu1, zu2, zu3, eqB, Value.oneCell', zs7, zs8, zs9, zt1, zt2, isC, TK.agg, rv, rv1, ldV, zt3, zt4, zn1, zn2, zn3, zn4, zn5, zn6, zn7, reduceIte, reduceCtorEq, eq_self]; try rfl) rfl ?_; simp only [SV.den, resV, dens]
      rw [if_neg (by simpa using hw)] at hbad
      simp only [whP, if_neg hlen, hbad]
    · rw [if_pos (by simpa using hw)] at hbad
      rw [wr (n := (i : Int) + 1) (by omega) (by omega)]
      refine go_keep [1, 5, 6] [0] ?_
      simp only [so, sq, zy, zz, tyE, zs1, zs2, zs3, zs4, zs5, ev, zs6, dOk, cv, zu1, zu2, zu3, eqB, Value.oneCell', zs7, zs8, zs9, zt1, zt2, isC, TK.agg, rv, rv1, ldV, zt3, zt4, zn1, zn2, zn3, zn4, zn5, zn6, zn7, reduceIte, reduceCtorEq, eq_self]
      exact ih (p.length - (i + 1)) _ (by omega) ⟨i + 1, by omega, rfl, hbad, by simp⟩
  have hge : i = p.length := by simp at hil; omega
  subst hge
  clear ih hil
  rw [List.drop_length] at hbad
  simp only [badF] at hbad
  obtain ⟨bp, op, nsp, rfl, hatp, hpp, hnp⟩ := rF_at hps0 hpos
  have hatp0 : At G bp (op + 0 * 2) [.int .i64 (fu p 0).params] := by simpa using hatp.sub 0 1 (by simp)
  (try (refine runo0 400 hty hnt hmh ?_; simp only [so, sq, zy, zz, tyE, zs1, zs2, zs3, zs4, zs5, ev, zs6, dOk, cv, zu1, zu2, zu3, eqB, Value.oneCell', zs7, zs8, zs9, zt1, zt2, isC, TK.agg, rv, rv1, ldV, zt3, zt4, zn1, zn2, zn3, zn4, zn5, zn6, zn7, reduceIte, reduceCtorEq, eq_self])); (repeat (first | refine x_seq rfl ?_ | refine go_ops ?_ | refine go_blk ?_ | refine x_skip rfl ?_ | refine x_blk rfl rfl ?_ | refine x_exit rfl rfl rfl ?_ | refine x_ift rfl rfl rfl ?_ | refine x_iff rfl rfl rfl ?_ | refine x_label rfl ?_ | ((first | refine x_reg rfl rfl ?_ | (refine go_newx hty hnt hmh rfl rfl ?_; intro _)); refine runo0 400 hty hnt hmh ?_; simp only [so, sq, zy, zz, tyE, zs1, zs2, zs3, zs4, zs5, ev, zs6, dOk, cv, zu1, zu2, zu3, eqB, Value.oneCell', zs7, zs8, zs9, zt1, zt2, isC, TK.agg, rv, rv1, ldV, zt3, zt4, zn1, zn2, zn3, zn4, zn5, zn6, zn7, reduceIte, reduceCtorEq, eq_self])))
  refine go_q (by rw [hnt]; rfl) (quiet_index (by rw [hty]; rfl) (by rw [hty]; rfl) rfl rfl rfl (by omega) (by omega)) ?_
  (try (refine runo0 400 hty hnt hmh ?_; simp only [so, sq, zy, zz, tyE, zs1, zs2, zs3, zs4, zs5, ev, zs6, dOk, cv, zu1, zu2, zu3, eqB, Value.oneCell', zs7, zs8, zs9, zt1, zt2, isC, TK.agg, rv, rv1, ldV, zt3, zt4, zn1, zn2, zn3, zn4, zn5, zn6, zn7, reduceIte, reduceCtorEq, eq_self])); (repeat (first | refine x_seq rfl ?_ | refine go_ops ?_ | refine go_blk ?_ | refine x_skip rfl ?_ | refine x_blk rfl rfl ?_ | refine x_exit rfl rfl rfl ?_ | refine x_ift rfl rfl rfl ?_ | refine x_iff rfl rfl rfl ?_ | refine x_label rfl ?_ | ((first | refine x_reg rfl rfl ?_ | (refine go_newx hty hnt hmh rfl rfl ?_; intro _)); refine runo0 400 hty hnt hmh ?_; simp only [so, sq, zy, zz, tyE, zs1, zs2, zs3, zs4, zs5, ev, zs6, dOk, cv, zu1, zu2, zu3, eqB, Value.oneCell', zs7, zs8, zs9, zt1, zt2, isC, TK.agg, rv, rv1, ldV, zt3, zt4, zn1, zn2, zn3, zn4, zn5, zn6, zn7, reduceIte, reduceCtorEq, eq_self])))
  refine go_q (by rw [hnt]; rfl) (quiet_load (by rw [hty]; rfl) rfl (by simp [TK.agg]) (by simpa using hatp0) rfl) ?_
  (try (refine runo0 400 hty hnt hmh ?_; simp only [so, sq, zy, zz, tyE, zs1, zs2, zs3, zs4, zs5, ev, zs6, dOk, cv, zu1, zu2, zu3, eqB, Value.oneCell', zs7, zs8, zs9, zt1, zt2, isC, TK.agg, rv, rv1, ldV, zt3, zt4, zn1, zn2, zn3, zn4, zn5, zn6, zn7, reduceIte, reduceCtorEq, eq_self])); (repeat (first | refine x_seq rfl ?_ | refine go_ops ?_ | refine go_blk ?_ | refine x_skip rfl ?_ | refine x_blk rfl rfl ?_ | refine x_exit rfl rfl rfl ?_ | refine x_ift rfl rfl rfl ?_ | refine x_iff rfl rfl rfl ?_ | refine x_label rfl ?_ | ((first | refine x_reg rfl rfl ?_ | (refine go_newx hty hnt hmh rfl rfl ?_; intro _)); refine runo0 400 hty hnt hmh ?_; simp only [so, sq, zy, zz, tyE, zs1, zs2, zs3, zs4, zs5, ev, zs6, dOk, cv, zu1, zu2, zu3, eqB, Value.oneCell', zs7, zs8, zs9, zt1, zt2, isC, TK.agg, rv, rv1, ldV, zt3, zt4, zn1, zn2, zn3, zn4, zn5, zn6, zn7, reduceIte, reduceCtorEq, eq_self])))
  have hpar := badF_par hbad hpos
  refine x_split rfl rfl rfl (fun h3 => ?_) (fun h3 => ?_) <;> (simp only [so, sq, zy, zz, tyE, zs1, zs2, zs3, zs4, zs5, ev, zs6, dOk, cv, zu1, zu2, zu3, eqB, Value.oneCell', zs7, zs8, zs9, zt1, zt2, isC, TK.agg, rv, rv1, ldV, zt3, zt4, zn1, zn2, zn3, zn4, zn5, zn6, zn7, reduceIte, reduceCtorEq, eq_self]; (repeat (first | refine x_seq rfl ?_ | refine go_ops ?_ | refine go_blk ?_ | refine x_skip rfl ?_ | refine x_blk rfl rfl ?_ | refine x_exit rfl rfl rfl ?_ | refine x_ift rfl rfl rfl ?_ | refine x_iff rfl rfl rfl ?_ | refine x_label rfl ?_ | ((first | refine x_reg rfl rfl ?_ | (refine go_newx hty hnt hmh rfl rfl ?_; intro _)); refine runo0 400 hty hnt hmh ?_; simp only [so, sq, zy, zz, tyE, zs1, zs2, zs3, zs4, zs5, ev, zs6, dOk, cv, zu1, zu2, zu3, eqB, Value.oneCell', zs7, zs8, zs9, zt1, zt2, isC, TK.agg, rv, rv1, ldV, zt3, zt4, zn1, zn2, zn3, zn4, zn5, zn6, zn7, reduceIte, reduceCtorEq, eq_self]))))
  · refine x_retc rfl hQ hmb rfl (by rw [hty]; simp only [so, sq, zy, zz, tyE, zs1, zs2, zs3, zs4, zs5, ev, zs6, dOk, cv, zu1, zu2, zu3, eqB, Value.oneCell', zs7, zs8, zs9, zt1, zt2, isC, TK.agg, rv, rv1, ldV, zt3, zt4, zn1, zn2, zn3, zn4, zn5, zn6, zn7, reduceIte, reduceCtorEq, eq_self]; try rfl) rfl ?_; simp only [SV.den, resV, dens]
    simp only [whP, if_neg hlen, hbad, if_pos (show 0 < (fu p 0).params by simp at h3; omega)]
  have h3' : ¬ 0 < (fu p 0).params := by simp at h3; omega
  have hbok := badF_ok hbad
  have hwh : whP p = match misM p p 0 with | some x => (x.1, x.2, 70) | none => (0, 0, 0) := by
    simp only [whP, if_neg hlen, hbad, if_neg h3', misM_eq hbad]
    rfl
  refine go_keep [1, 5, 9] [0] ?_
  simp only [so, sq, zy, zz, tyE, zs1, zs2, zs3, zs4, zs5, ev, zs6, dOk, cv, zu1, zu2, zu3, eqB, Value.oneCell', zs7, zs8, zs9, zt1, zt2, isC, TK.agg, rv, rv1, ldV, zt3, zt4, zn1, zn2, zn3, zn4, zn5, zn6, zn7, reduceIte, reduceCtorEq, eq_self]
  refine x_loop rfl (fun q s => ∃ i : Nat, i ≤ p.length ∧ q = p.length - i ∧ misM p p 0 = misM p (p.drop i) i ∧
    s = ⟨[(1, .p 0 b1 0), (5, .v (.int .i64 p.length)), (9, .v (.int .i64 i))], [(0, b1, .c 24 [.v (.slice (some ⟨bp, op, none⟩) p.length capp)])], G, []⟩) ⟨0, by omega, rfl, rfl, rfl⟩ ?_
  clear q hq hi
  rintro q s ⟨i, hi, hq, hmis, rfl⟩ ih
  (try (refine runo0 400 hty hnt hmh ?_; simp only [so, sq, zy, zz, tyE, zs1, zs2, zs3, zs4, zs5, ev, zs6, dOk, cv, zu1, zu2, zu3, eqB, Value.oneCell', zs7, zs8, zs9, zt1, zt2, isC, TK.agg, rv, rv1, ldV, zt3, zt4, zn1, zn2, zn3, zn4, zn5, zn6, zn7, reduceIte, reduceCtorEq, eq_self])); (repeat (first | refine x_seq rfl ?_ | refine go_ops ?_ | refine go_blk ?_ | refine x_skip rfl ?_ | refine x_blk rfl rfl ?_ | refine x_exit rfl rfl rfl ?_ | refine x_ift rfl rfl rfl ?_ | refine x_iff rfl rfl rfl ?_ | refine x_label rfl ?_ | ((first | refine x_reg rfl rfl ?_ | (refine go_newx hty hnt hmh rfl rfl ?_; intro _)); refine runo0 400 hty hnt hmh ?_; simp only [so, sq, zy, zz, tyE, zs1, zs2, zs3, zs4, zs5, ev, zs6, dOk, cv, zu1, zu2, zu3, eqB, Value.oneCell', zs7, zs8, zs9, zt1, zt2, isC, TK.agg, rv, rv1, ldV, zt3, zt4, zn1, zn2, zn3, zn4, zn5, zn6, zn7, reduceIte, reduceCtorEq, eq_self])))
  refine x_if rfl rfl rfl rfl (fun hil => ?_) (fun hil => ?_)
  · have hlt : i < p.length := by simp at hil; omega
    obtain ⟨bp', op', nsi, hse, hati, hpi, hni⟩ := rF_at hps0 hlt
    cases hse
    have hi0 : (whr (fu p i)).2 = 0 := hbok _ (by rw [fu_eq hlt]; exact List.getElem_mem _)
    rw [fu_drop hlt] at hmis
    simp only [misM] at hmis
    have hni0 := hni
    have hn63 := Rp.S_len hni
    obtain ⟨adn, capn, rfl⟩ := Rp.S_slice hni
    have hati1 : At G bp (op + i * 2 + 1) [.slice adn (fu p i).nodes.length capn] := by simpa using hati.sub 1 1 (by simp)
    (try (refine runo0 400 hty hnt hmh ?_; simp only [so, sq, zy, zz, tyE, zs1, zs2, zs3, zs4, zs5, ev, zs6, dOk, cv, zu1, zu2, zu3, eqB, Value.oneCell', zs7, zs8, zs9, zt1, zt2, isC, TK.agg, rv, rv1, ldV, zt3, zt4, zn1, zn2, zn3, zn4, zn5, zn6, zn7, reduceIte, reduceCtorEq, eq_self])); (repeat (first | refine x_seq rfl ?_ | refine go_ops ?_ | refine go_blk ?_ | refine x_skip rfl ?_ | refine x_blk rfl rfl ?_ | refine x_exit rfl rfl rfl ?_ | refine x_ift rfl rfl rfl ?_ | refine x_iff rfl rfl rfl ?_ | refine x_label rfl ?_ | ((first | refine x_reg rfl rfl ?_ | (refine go_newx hty hnt hmh rfl rfl ?_; intro _)); refine runo0 400 hty hnt hmh ?_; simp only [so, sq, zy, zz, tyE, zs1, zs2, zs3, zs4, zs5, ev, zs6, dOk, cv, zu1, zu2, zu3, eqB, Value.oneCell', zs7, zs8, zs9, zt1, zt2, isC, TK.agg, rv, rv1, ldV, zt3, zt4, zn1, zn2, zn3, zn4, zn5, zn6, zn7, reduceIte, reduceCtorEq, eq_self])))
    refine go_keep [1, 5, 9, 10] [0] ?_
    simp only [so, sq, zy, zz, tyE, zs1, zs2, zs3, zs4, zs5, ev, zs6, dOk, cv, zu1, zu2, zu3, eqB, Value.oneCell', zs7, zs8, zs9, zt1, zt2, isC, TK.agg, rv, rv1, ldV, zt3, zt4, zn1, zn2, zn3, zn4, zn5, zn6, zn7, reduceIte, reduceCtorEq, eq_self]
    refine x_loop rfl (fun q s => ∃ k : Nat, k ≤ (fu p i).nodes.length ∧ q = (fu p i).nodes.length - k ∧ misN p (fu p i).nodes 0 = misN p ((fu p i).nodes.drop k) k ∧
      s = ⟨[(1, .p 0 b1 0), (5, .v (.int .i64 p.length)), (9, .v (.int .i64 i)), (10, .v (.int .i64 k))], [(0, b1, .c 24 [.v (.slice (some ⟨bp, op, none⟩) p.length capp)])], G, []⟩) ⟨0, by omega, rfl, rfl, rfl⟩ ?_
    rintro q s ⟨k, hk, hq, hmn, rfl⟩ ihk
    (try (refine runo0 400 hty hnt hmh ?_; simp only [so, sq, zy, zz, tyE, zs1, zs2, zs3, zs4, zs5, ev, zs6, dOk, cv, zu1, zu2, zu3, eqB, Value.oneCell', zs7, zs8, zs9, zt1, zt2, isC, TK.agg, rv, rv1, ldV, zt3, zt4, zn1, zn2, zn3, zn4, zn5, zn6, zn7, reduceIte, reduceCtorEq, eq_self])); (repeat (first | refine x_seq rfl ?_ | refine go_ops ?_ | refine go_blk ?_ | refine x_skip rfl ?_ | refine x_blk rfl rfl ?_ | refine x_exit rfl rfl rfl ?_ | refine x_ift rfl rfl rfl ?_ | refine x_iff rfl rfl rfl ?_ | refine x_label rfl ?_ | ((first | refine x_reg rfl rfl ?_ | (refine go_newx hty hnt hmh rfl rfl ?_; intro _)); refine runo0 400 hty hnt hmh ?_; simp only [so, sq, zy, zz, tyE, zs1, zs2, zs3, zs4, zs5, ev, zs6, dOk, cv, zu1, zu2, zu3, eqB, Value.oneCell', zs7, zs8, zs9, zt1, zt2, isC, TK.agg, rv, rv1, ldV, zt3, zt4, zn1, zn2, zn3, zn4, zn5, zn6, zn7, reduceIte, reduceCtorEq, eq_self])))
    refine go_q (by rw [hnt]; rfl) (quiet_index (by rw [hty]; rfl) (by rw [hty]; rfl) rfl rfl rfl (by omega) (by omega)) ?_
    (try (refine runo0 400 hty hnt hmh ?_; simp only [so, sq, zy, zz, tyE, zs1, zs2, zs3, zs4, zs5, ev, zs6, dOk, cv, zu1, zu2, zu3, eqB, Value.oneCell', zs7, zs8, zs9, zt1, zt2, isC, TK.agg, rv, rv1, ldV, zt3, zt4, zn1, zn2, zn3, zn4, zn5, zn6, zn7, reduceIte, reduceCtorEq, eq_self])); (repeat (first | refine x_seq rfl ?_ | refine go_ops ?_ | refine go_blk ?_ | refine x_skip rfl ?_ | refine x_blk rfl rfl ?_ | refine x_exit rfl rfl rfl ?_ | refine x_ift rfl rfl rfl ?_ | refine x_iff rfl rfl rfl ?_ | refine x_label rfl ?_ | ((first | refine x_reg rfl rfl ?_ | (refine go_newx hty hnt hmh rfl rfl ?_; intro _)); refine runo0 400 hty hnt hmh ?_; simp only [so, sq, zy, zz, tyE, zs1, zs2, zs3, zs4, zs5, ev, zs6, dOk, cv, zu1, zu2, zu3, eqB, Value.oneCell', zs7, zs8, zs9, zt1, zt2, isC, TK.agg, rv, rv1, ldV, zt3, zt4, zn1, zn2, zn3, zn4, zn5, zn6, zn7, reduceIte, reduceCtorEq, eq_self])))
    refine go_q (by rw [hnt]; rfl) (quiet_load (by rw [hty]; rfl) rfl (by simp [TK.agg]) hati1 rfl) ?_; (try (refine runo0 400 hty hnt hmh ?_; simp only [so, sq, zy, zz, tyE, zs1, zs2, zs3, zs4, zs5, ev, zs6, dOk, cv, zu1, zu2, zu3, eqB, Value.oneCell', zs7, zs8, zs9, zt1, zt2, isC, TK.agg, rv, rv1, ldV, zt3, zt4, zn1, zn2, zn3, zn4, zn5, zn6, zn7, reduceIte, reduceCtorEq, eq_self])); (repeat (first | refine x_seq rfl ?_ | refine go_ops ?_ | refine go_blk ?_ | refine x_skip rfl ?_ | refine x_blk rfl rfl ?_ | refine x_exit rfl rfl rfl ?_ | refine x_ift rfl rfl rfl ?_ | refine x_iff rfl rfl rfl ?_ | refine x_label rfl ?_ | ((first | refine x_reg rfl rfl ?_ | (refine go_newx hty hnt hmh rfl rfl ?_; intro _)); refine runo0 400 hty hnt hmh ?_; simp only [so, sq, zy, zz, tyE, zs1, zs2, zs3, zs4, zs5, ev, zs6, dOk, cv, zu1, zu2, zu3, eqB, Value.oneCell', zs7, zs8, zs9, zt1, zt2, isC, TK.agg, rv, rv1, ldV, zt3, zt4, zn1, zn2, zn3, zn4, zn5, zn6, zn7, reduceIte, reduceCtorEq, eq_self])))
    refine x_if rfl rfl rfl rfl (fun hkl => ?_) (fun hkl => ?_)
    · have hkt : k < (fu p i).nodes.length := by simp at hkl; omega
      obtain ⟨bn, offn, capn', cn, hse, hatn, sl, rfl, hop, hnn, hsl⟩ := Rp.S_get hni0 hkt
      cases hse
      have hc := rnames_ok (fu p i).nodes[k] sl G hsl
      have hrg := nms_range hi0 hkt
      have hs63 := Rp.S_len hsl
      obtain ⟨ads, caps, rfl⟩ := Rp.S_slice hsl
      rw [List.drop_eq_getElem_cons hkt] at hmn
      simp only [misN] at hmn
      (try (refine runo0 400 hty hnt hmh ?_; simp only [so, sq, zy, zz, tyE, zs1, zs2, zs3, zs4, zs5, ev, zs6, dOk, cv, zu1, zu2, zu3, eqB, Value.oneCell', zs7, zs8, zs9, zt1, zt2, isC, TK.agg, rv, rv1, ldV, zt3, zt4, zn1, zn2, zn3, zn4, zn5, zn6, zn7, reduceIte, reduceCtorEq, eq_self])); (repeat (first | refine x_seq rfl ?_ | refine go_ops ?_ | refine go_blk ?_ | refine x_skip rfl ?_ | refine x_blk rfl rfl ?_ | refine x_exit rfl rfl rfl ?_ | refine x_ift rfl rfl rfl ?_ | refine x_iff rfl rfl rfl ?_ | refine x_label rfl ?_ | ((first | refine x_reg rfl rfl ?_ | (refine go_newx hty hnt hmh rfl rfl ?_; intro _)); refine runo0 400 hty hnt hmh ?_; simp only [so, sq, zy, zz, tyE, zs1, zs2, zs3, zs4, zs5, ev, zs6, dOk, cv, zu1, zu2, zu3, eqB, Value.oneCell', zs7, zs8, zs9, zt1, zt2, isC, TK.agg, rv, rv1, ldV, zt3, zt4, zn1, zn2, zn3, zn4, zn5, zn6, zn7, reduceIte, reduceCtorEq, eq_self])))
      refine go_q (by rw [hnt]; rfl) (quiet_index (by rw [hty]; rfl) (by rw [hty]; rfl) rfl rfl rfl (by omega) (by omega)) ?_
      (try (refine runo0 400 hty hnt hmh ?_; simp only [so, sq, zy, zz, tyE, zs1, zs2, zs3, zs4, zs5, ev, zs6, dOk, cv, zu1, zu2, zu3, eqB, Value.oneCell', zs7, zs8, zs9, zt1, zt2, isC, TK.agg, rv, rv1, ldV, zt3, zt4, zn1, zn2, zn3, zn4, zn5, zn6, zn7, reduceIte, reduceCtorEq, eq_self])); (repeat (first | refine x_seq rfl ?_ | refine go_ops ?_ | refine go_blk ?_ | refine x_skip rfl ?_ | refine x_blk rfl rfl ?_ | refine x_exit rfl rfl rfl ?_ | refine x_ift rfl rfl rfl ?_ | refine x_iff rfl rfl rfl ?_ | refine x_label rfl ?_ | ((first | refine x_reg rfl rfl ?_ | (refine go_newx hty hnt hmh rfl rfl ?_; intro _)); refine runo0 400 hty hnt hmh ?_; simp only [so, sq, zy, zz, tyE, zs1, zs2, zs3, zs4, zs5, ev, zs6, dOk, cv, zu1, zu2, zu3, eqB, Value.oneCell', zs7, zs8, zs9, zt1, zt2, isC, TK.agg, rv, rv1, ldV, zt3, zt4, zn1, zn2, zn3, zn4, zn5, zn6, zn7, reduceIte, reduceCtorEq, eq_self])))
      refine go_q (by rw [hnt]; rfl) (quiet_load (by rw [hty]; rfl) rfl (by simp [TK.agg]) hati1 rfl) ?_; (try (refine runo0 400 hty hnt hmh ?_; simp only [so, sq, zy, zz, tyE, zs1, zs2, zs3, zs4, zs5, ev, zs6, dOk, cv, zu1, zu2, zu3, eqB, Value.oneCell', zs7, zs8, zs9, zt1, zt2, isC, TK.agg, rv, rv1, ldV, zt3, zt4, zn1, zn2, zn3, zn4, zn5, zn6, zn7, reduceIte, reduceCtorEq, eq_self])); (repeat (first | refine x_seq rfl ?_ | refine go_ops ?_ | refine go_blk ?_ | refine x_skip rfl ?_ | refine x_blk rfl rfl ?_ | refine x_exit rfl rfl rfl ?_ | refine x_ift rfl rfl rfl ?_ | refine x_iff rfl rfl rfl ?_ | refine x_label rfl ?_ | ((first | refine x_reg rfl rfl ?_ | (refine go_newx hty hnt hmh rfl rfl ?_; intro _)); refine runo0 400 hty hnt hmh ?_; simp only [so, sq, zy, zz, tyE, zs1, zs2, zs3, zs4, zs5, ev, zs6, dOk, cv, zu1, zu2, zu3, eqB, Value.oneCell', zs7, zs8, zs9, zt1, zt2, isC, TK.agg, rv, rv1, ldV, zt3, zt4, zn1, zn2, zn3, zn4, zn5, zn6, zn7, reduceIte, reduceCtorEq, eq_self])))
      refine go_q (by rw [hnt]; rfl) (quiet_index (by rw [hty]; rfl) (by rw [hty]; rfl) rfl rfl rfl (by omega) (by omega)) ?_
      (try (refine runo0 400 hty hnt hmh ?_; simp only [so, sq, zy, zz, tyE, zs1, zs2, zs3, zs4, zs5, ev, zs6, dOk, cv, zu1, zu2, zu3, eqB, Value.oneCell', zs7, zs8, zs9, zt1, zt2, isC, TK.agg, rv, rv1, ldV, zt3, zt4, zn1, zn2, zn3, zn4, zn5, zn6, zn7, reduceIte, reduceCtorEq, eq_self])); (repeat (first | refine x_seq rfl ?_ | refine go_ops ?_ | refine go_blk ?_ | refine x_skip rfl ?_ | refine x_blk rfl rfl ?_ | refine x_exit rfl rfl rfl ?_ | refine x_ift rfl rfl rfl ?_ | refine x_iff rfl rfl rfl ?_ | refine x_label rfl ?_ | ((first | refine x_reg rfl rfl ?_ | (refine go_newx hty hnt hmh rfl rfl ?_; intro _)); refine runo0 400 hty hnt hmh ?_; simp only [so, sq, zy, zz, tyE, zs1, zs2, zs3, zs4, zs5, ev, zs6, dOk, cv, zu1, zu2, zu3, eqB, Value.oneCell', zs7, zs8, zs9, zt1, zt2, isC, TK.agg, rv, rv1, ldV, zt3, zt4, zn1, zn2, zn3, zn4, zn5, zn6, zn7, reduceIte, reduceCtorEq, eq_self])))
      refine go_q (by rw [hnt]; rfl) (quiet_load (by rw [hty]; rfl) rfl (by simp [TK.agg]) (by simpa [rN] using hatn) rfl) ?_
      (try (refine runo0 400 hty hnt hmh ?_; simp only [so, sq, zy, zz, tyE, zs1, zs2, zs3, zs4, zs5, ev, zs6, dOk, cv, zu1, zu2, zu3, eqB, Value.oneCell', zs7, zs8, zs9, zt1, zt2, isC, TK.agg, rv, rv1, ldV, zt3, zt4, zn1, zn2, zn3, zn4, zn5, zn6, zn7, reduceIte, reduceCtorEq, eq_self])); (repeat (first | refine x_seq rfl ?_ | refine go_ops ?_ | refine go_blk ?_ | refine x_skip rfl ?_ | refine x_blk rfl rfl ?_ | refine x_exit rfl rfl rfl ?_ | refine x_ift rfl rfl rfl ?_ | refine x_iff rfl rfl rfl ?_ | refine x_label rfl ?_ | ((first | refine x_reg rfl rfl ?_ | (refine go_newx hty hnt hmh rfl rfl ?_; intro _)); refine runo0 400 hty hnt hmh ?_; simp only [so, sq, zy, zz, tyE, zs1, zs2, zs3, zs4, zs5, ev, zs6, dOk, cv, zu1, zu2, zu3, eqB, Value.oneCell', zs7, zs8, zs9, zt1, zt2, isC, TK.agg, rv, rv1, ldV, zt3, zt4, zn1, zn2, zn3, zn4, zn5, zn6, zn7, reduceIte, reduceCtorEq, eq_self])))
      refine go_callf (by rw [hnt]; rfl) (by rw [hP]; kernel_rfl) rfl (hP ▸ hc) ?_; (try (refine runo0 400 hty hnt hmh ?_; simp only [so, sq, zy, zz, tyE, zs1, zs2, zs3, zs4, zs5, ev, zs6, dOk, cv, zu1, zu2, zu3, eqB, Value.oneCell', zs7, zs8, zs9, zt1, zt2, isC, TK.agg, rv, rv1, ldV, zt3, zt4, zn1, zn2, zn3, zn4, zn5, zn6, zn7, reduceIte, reduceCtorEq, eq_self])); (repeat (first | refine x_seq rfl ?_ | refine go_ops ?_ | refine go_blk ?_ | refine x_skip rfl ?_ | refine x_blk rfl rfl ?_ | refine x_exit rfl rfl rfl ?_ | refine x_ift rfl rfl rfl ?_ | refine x_iff rfl rfl rfl ?_ | refine x_label rfl ?_ | ((first | refine x_reg rfl rfl ?_ | (refine go_newx hty hnt hmh rfl rfl ?_; intro _)); refine runo0 400 hty hnt hmh ?_; simp only [so, sq, zy, zz, tyE, zs1, zs2, zs3, zs4, zs5, ev, zs6, dOk, cv, zu1, zu2, zu3, eqB, Value.oneCell', zs7, zs8, zs9, zt1, zt2, isC, TK.agg, rv, rv1, ldV, zt3, zt4, zn1, zn2, zn3, zn4, zn5, zn6, zn7, reduceIte, reduceCtorEq, eq_self])))
      refine go_gsplit rfl rfl (fun hn => ?_) (fun hn => ?_) <;> (simp only [so, sq, zy, zz, tyE, zs1, zs2, zs3, zs4, zs5, ev, zs6, dOk, cv, zu1, zu2, zu3, eqB, Value.oneCell', zs7, zs8, zs9, zt1, zt2, isC, TK.agg, rv, rv1, ldV, zt3, zt4, zn1, zn2, zn3, zn4, zn5, zn6, zn7, reduceIte, reduceCtorEq, eq_self]; ((try (refine runo0 400 hty hnt hmh ?_; simp only [so, sq, zy, zz, tyE, zs1, zs2, zs3, zs4, zs5, ev, zs6, dOk, cv, zu1, zu2, zu3, eqB, Value.oneCell', zs7, zs8, zs9, zt1, zt2, isC, TK.agg, rv, rv1, ldV, zt3, zt4, zn1, zn2, zn3, zn4, zn5, zn6, zn7, reduceIte, reduceCtorEq, eq_self])); (repeat (first | refine x_seq rfl ?_ | refine go_ops ?_ | refine go_blk ?_ | refine x_skip rfl ?_ | refine x_blk rfl rfl ?_ | refine x_exit rfl rfl rfl ?_ | refine x_ift rfl rfl rfl ?_ | refine x_iff rfl rfl rfl ?_ | refine x_label rfl ?_ | ((first | refine x_reg rfl rfl ?_ | (refine go_newx hty hnt hmh rfl rfl ?_; intro _)); refine runo0 400 hty hnt hmh ?_; simp only [so, sq, zy, zz, tyE, zs1, zs2, zs3, zs4, zs5, ev, zs6, dOk, cv, zu1, zu2, zu3, eqB, Value.oneCell', zs7, zs8, zs9, zt1, zt2, isC, TK.agg, rv, rv1, ldV, zt3, zt4, zn1, zn2, zn3, zn4, zn5, zn6, zn7, reduceIte, reduceCtorEq, eq_self])))))
      · obtain ⟨t, ht⟩ : ∃ t : Nat, (fu p i).nodes[k].n = t := ⟨(fu p i).nodes[k].n.toNat, by have := hrg hn; omega⟩
        have ht63 : t ≤ 63 := by have := hrg hn; omega
        simp only [ht]
        rw [hn, ht] at hmn
        refine go_gsplit rfl rfl (fun hge => ?_) (fun hge => ?_) <;> (simp only [so, sq, zy, zz, tyE, zs1, zs2, zs3, zs4, zs5, ev, zs6, dOk, cv, zu1, zu2, zu3, eqB, Value.oneCell', zs7, zs8, zs9, zt1, zt2, isC, TK.agg, rv, rv1, ldV, zt3, zt4, zn1, zn2, zn3, zn4, zn5, zn6, zn7, reduceIte, reduceCtorEq, eq_self]; ((try (refine runo0 400 hty hnt hmh ?_; simp only [so, sq, zy, zz, tyE, zs1, zs2, zs3, zs4, zs5, ev, zs6, dOk, cv, zu1, zu2, zu3, eqB, Value.oneCell', zs7, zs8, zs9, zt1, zt2, isC, TK.agg, rv, rv1, ldV, zt3, zt4, zn1, zn2, zn3, zn4, zn5, zn6, zn7, reduceIte, reduceCtorEq, eq_self])); (repeat (first | refine x_seq rfl ?_ | refine go_ops ?_ | refine go_blk ?_ | refine x_skip rfl ?_ | refine x_blk rfl rfl ?_ | refine x_exit rfl rfl rfl ?_ | refine x_ift rfl rfl rfl ?_ | refine x_iff rfl rfl rfl ?_ | refine x_label rfl ?_ | ((first | refine x_reg rfl rfl ?_ | (refine go_newx hty hnt hmh rfl rfl ?_; intro _)); refine runo0 400 hty hnt hmh ?_; simp only [so, sq, zy, zz, tyE, zs1, zs2, zs3, zs4, zs5, ev, zs6, dOk, cv, zu1, zu2, zu3, eqB, Value.oneCell', zs7, zs8, zs9, zt1, zt2, isC, TK.agg, rv, rv1, ldV, zt3, zt4, zn1, zn2, zn3, zn4, zn5, zn6, zn7, reduceIte, reduceCtorEq, eq_self])))))
        · rw [if_pos (by have := of_decide_eq_true hge; simp; omega)] at hmn
          rw [hmn] at hmis
          refine x_retc rfl hQ hmb rfl (by rw [hty]; simp only [so, sq, zy, zz, tyE, zs1, zs2, zs3, zs4, zs5, ev, zs6, dOk, cv, zu1, zu2, zu3, eqB, Value.oneCell', zs7, zs8, zs9, zt1, zt2, isC, TK.agg, rv, rv1, ldV, zt3, zt4, zn1, zn2, zn3, zn4, zn5, zn6, zn7, reduceIte, reduceCtorEq, eq_self]; try rfl) rfl ?_; simp only [SV.den, resV, dens]
          rw [hwh, hmis]
        · have htl : t < p.length := by have := of_decide_eq_false hge; omega
          obtain ⟨bq, oq, nsq, hse, hatq, hpq, hnq⟩ := rF_at hps0 htl
          cases hse
          have hatq0 : At G bp (op + t * 2) [.int .i64 (fu p t).params] := by simpa using hatq.sub 0 1 (by simp)
          refine go_q (by rw [hnt]; rfl) (quiet_index (by rw [hty]; rfl) (by rw [hty]; rfl) rfl rfl rfl (by omega) (by omega)) ?_
          (try (refine runo0 400 hty hnt hmh ?_; simp only [so, sq, zy, zz, tyE, zs1, zs2, zs3, zs4, zs5, ev, zs6, dOk, cv, zu1, zu2, zu3, eqB, Value.oneCell', zs7, zs8, zs9, zt1, zt2, isC, TK.agg, rv, rv1, ldV, zt3, zt4, zn1, zn2, zn3, zn4, zn5, zn6, zn7, reduceIte, reduceCtorEq, eq_self])); (repeat (first | refine x_seq rfl ?_ | refine go_ops ?_ | refine go_blk ?_ | refine x_skip rfl ?_ | refine x_blk rfl rfl ?_ | refine x_exit rfl rfl rfl ?_ | refine x_ift rfl rfl rfl ?_ | refine x_iff rfl rfl rfl ?_ | refine x_label rfl ?_ | ((first | refine x_reg rfl rfl ?_ | (refine go_newx hty hnt hmh rfl rfl ?_; intro _)); refine runo0 400 hty hnt hmh ?_; simp only [so, sq, zy, zz, tyE, zs1, zs2, zs3, zs4, zs5, ev, zs6, dOk, cv, zu1, zu2, zu3, eqB, Value.oneCell', zs7, zs8, zs9, zt1, zt2, isC, TK.agg, rv, rv1, ldV, zt3, zt4, zn1, zn2, zn3, zn4, zn5, zn6, zn7, reduceIte, reduceCtorEq, eq_self])))
          refine go_q (by rw [hnt]; rfl) (quiet_load (by rw [hty]; rfl) rfl (by simp [TK.agg]) (by simpa using hatq0) rfl) ?_
          (try (refine runo0 400 hty hnt hmh ?_; simp only [so, sq, zy, zz, tyE, zs1, zs2, zs3, zs4, zs5, ev, zs6, dOk, cv, zu1, zu2, zu3, eqB, Value.oneCell', zs7, zs8, zs9, zt1, zt2, isC, TK.agg, rv, rv1, ldV, zt3, zt4, zn1, zn2, zn3, zn4, zn5, zn6, zn7, reduceIte, reduceCtorEq, eq_self])); (repeat (first | refine x_seq rfl ?_ | refine go_ops ?_ | refine go_blk ?_ | refine x_skip rfl ?_ | refine x_blk rfl rfl ?_ | refine x_exit rfl rfl rfl ?_ | refine x_ift rfl rfl rfl ?_ | refine x_iff rfl rfl rfl ?_ | refine x_label rfl ?_ | ((first | refine x_reg rfl rfl ?_ | (refine go_newx hty hnt hmh rfl rfl ?_; intro _)); refine runo0 400 hty hnt hmh ?_; simp only [so, sq, zy, zz, tyE, zs1, zs2, zs3, zs4, zs5, ev, zs6, dOk, cv, zu1, zu2, zu3, eqB, Value.oneCell', zs7, zs8, zs9, zt1, zt2, isC, TK.agg, rv, rv1, ldV, zt3, zt4, zn1, zn2, zn3, zn4, zn5, zn6, zn7, reduceIte, reduceCtorEq, eq_self])))
          rw [decide_eq_false (by omega), Bool.false_or, Bool.true_and, Int.toNat_natCast, fits_nm hn] at hmn
          refine x_split rfl rfl rfl (fun hm => ?_) (fun hm => ?_) <;> (simp only [so, sq, zy, zz, tyE, zs1, zs2, zs3, zs4, zs5, ev, zs6, dOk, cv, zu1, zu2, zu3, eqB, Value.oneCell', zs7, zs8, zs9, zt1, zt2, isC, TK.agg, rv, rv1, ldV, zt3, zt4, zn1, zn2, zn3, zn4, zn5, zn6, zn7, reduceIte, reduceCtorEq, eq_self]; (repeat (first | refine x_seq rfl ?_ | refine go_ops ?_ | refine go_blk ?_ | refine x_skip rfl ?_ | refine x_blk rfl rfl ?_ | refine x_exit rfl rfl rfl ?_ | refine x_ift rfl rfl rfl ?_ | refine x_iff rfl rfl rfl ?_ | refine x_label rfl ?_ | ((first | refine x_reg rfl rfl ?_ | (refine go_newx hty hnt hmh rfl rfl ?_; intro _)); refine runo0 400 hty hnt hmh ?_; simp only [so, sq, zy, zz, tyE, zs1, zs2, zs3, zs4, zs5, ev, zs6, dOk, cv, zu1, zu2, zu3, eqB, Value.oneCell', zs7, zs8, zs9, zt1, zt2, isC, TK.agg, rv, rv1, ldV, zt3, zt4, zn1, zn2, zn3, zn4, zn5, zn6, zn7, reduceIte, reduceCtorEq, eq_self]))))
          · rw [if_pos (by simpa using hm)] at hmn
            rw [hmn] at hmis
            refine x_retc rfl hQ hmb rfl (by rw [hty]; simp only [so, sq, zy, zz, tyE, zs1, zs2, zs3, zs4, zs5, ev, zs6, dOk, cv, zu1, zu2, zu3, eqB, Value.oneCell', zs7, zs8, zs9, zt1, zt2, isC, TK.agg, rv, rv1, ldV, zt3, zt4, zn1, zn2, zn3, zn4, zn5, zn6, zn7, reduceIte, reduceCtorEq, eq_self]; try rfl) rfl ?_; simp only [SV.den, resV, dens]
            rw [hwh, hmis]
          · rw [if_neg (by simpa using hm)] at hmn
            rw [wr (n := (k : Int) + 1) (by omega) (by omega)]
            refine go_keep [1, 5, 9, 10] [0] ?_
            simp only [so, sq, zy, zz, tyE, zs1, zs2, zs3, zs4, zs5, ev, zs6, dOk, cv, zu1, zu2, zu3, eqB, Value.oneCell', zs7, zs8, zs9, zt1, zt2, isC, TK.agg, rv, rv1, ldV, zt3, zt4, zn1, zn2, zn3, zn4, zn5, zn6, zn7, reduceIte, reduceCtorEq, eq_self]
            exact ihk ((fu p i).nodes.length - (k + 1)) _ (by omega) ⟨k + 1, by omega, rfl, hmn, by simp⟩
      · rw [hn, Bool.false_and, if_neg (by simp)] at hmn
        repeat (refine go_gundef rfl (by rw [hnt]; rfl) rfl ?_; (simp only [so, sq, zy, zz, tyE, zs1, zs2, zs3, zs4, zs5, ev, zs6, dOk, cv, zu1, zu2, zu3, eqB, Value.oneCell', zs7, zs8, zs9, zt1, zt2, isC, TK.agg, rv, rv1, ldV, zt3, zt4, zn1, zn2, zn3, zn4, zn5, zn6, zn7, reduceIte, reduceCtorEq, eq_self]; ((try (refine runo0 400 hty hnt hmh ?_; simp only [so, sq, zy, zz, tyE, zs1, zs2, zs3, zs4, zs5, ev, zs6, dOk, cv, zu1, zu2, zu3, eqB, Value.oneCell', zs7, zs8, zs9, zt1, zt2, isC, TK.agg, rv, rv1, ldV, zt3, zt4, zn1, zn2, zn3, zn4, zn5, zn6, zn7, reduceIte, reduceCtorEq, eq_self])); (repeat (first | refine x_seq rfl ?_ | refine go_ops ?_ | refine go_blk ?_ | refine x_skip rfl ?_ | refine x_blk rfl rfl ?_ | refine x_exit rfl rfl rfl ?_ | refine x_ift rfl rfl rfl ?_ | refine x_iff rfl rfl rfl ?_ | refine x_label rfl ?_ | ((first | refine x_reg rfl rfl ?_ | (refine go_newx hty hnt hmh rfl rfl ?_; intro _)); refine runo0 400 hty hnt hmh ?_; simp only [so, sq, zy, zz, tyE, zs1, zs2, zs3, zs4, zs5, ev, zs6, dOk, cv, zu1, zu2, zu3, eqB, Value.oneCell', zs7, zs8, zs9, zt1, zt2, isC, TK.agg, rv, rv1, ldV, zt3, zt4, zn1, zn2, zn3, zn4, zn5, zn6, zn7, reduceIte, reduceCtorEq, eq_self]))))))
        rw [wr (n := (k : Int) + 1) (by omega) (by omega)]
        refine go_keep [1, 5, 9, 10] [0] ?_
        simp only [so, sq, zy, zz, tyE, zs1, zs2, zs3, zs4, zs5, ev, zs6, dOk, cv, zu1, zu2, zu3, eqB, Value.oneCell', zs7, zs8, zs9, zt1, zt2, isC, TK.agg, rv, rv1, ldV, zt3, zt4, zn1, zn2, zn3, zn4, zn5, zn6, zn7, reduceIte, reduceCtorEq, eq_self]
        exact ihk ((fu p i).nodes.length - (k + 1)) _ (by omega) ⟨k + 1, by omega, rfl, hmn, by simp⟩
    have hge : k = (fu p i).nodes.length := by simp at hkl; omega
    subst hge
    clear ihk hkl
    rw [List.drop_length] at hmn
    simp only [misN] at hmn
    rw [hmn] at hmis
    (try (refine runo0 400 hty hnt hmh ?_; simp only [so, sq, zy, zz, tyE, zs1, zs2, zs3, zs4, zs5, ev, zs6, dOk, cv, zu1, zu2, zu3, eqB, Value.oneCell', zs7, zs8, zs9, zt1, zt2, isC, TK.agg, rv, rv1, ldV, zt3, zt4, zn1, zn2, zn3, zn4, zn5, zn6, zn7, reduceIte, reduceCtorEq, eq_self])); (repeat (first | refine x_seq rfl ?_ | refine go_ops ?_ | refine go_blk ?_ | refine x_skip rfl ?_ | refine x_blk rfl rfl ?_ | refine x_exit rfl rfl rfl ?_ | refine x_ift rfl rfl rfl ?_ | refine x_iff rfl rfl rfl ?_ | refine x_label rfl ?_ | ((first | refine x_reg rfl rfl ?_ | (refine go_newx hty hnt hmh rfl rfl ?_; intro _)); refine runo0 400 hty hnt hmh ?_; simp only [so, sq, zy, zz, tyE, zs1, zs2, zs3, zs4, zs5, ev, zs6, dOk, cv, zu1, zu2, zu3, eqB, Value.oneCell', zs7, zs8, zs9, zt1, zt2, isC, TK.agg, rv, rv1, ldV, zt3, zt4, zn1, zn2, zn3, zn4, zn5, zn6, zn7, reduceIte, reduceCtorEq, eq_self])))
    rw [wr (n := (i : Int) + 1) (by omega) (by omega)]
    refine go_keep [1, 5, 9] [0] ?_
    simp only [so, sq, zy, zz, tyE, zs1, zs2, zs3, zs4, zs5, ev, zs6, dOk, cv, zu1, zu2, zu3, eqB, Value.oneCell', zs7, zs8, zs9, zt1, zt2, isC, TK.agg, rv, rv1, ldV, zt3, zt4, zn1, zn2, zn3, zn4, zn5, zn6, zn7, reduceIte, reduceCtorEq, eq_self]
    exact ih (p.length - (i + 1)) _ (by omega) ⟨i + 1, by omega, rfl, hmis, by simp⟩
  have hge : i = p.length := by simp at hil; omega
  subst hge
  clear ih hil
  rw [List.drop_length] at hmis
  simp only [misM] at hmis
  (try (refine runo0 400 hty hnt hmh ?_; simp only [so, sq, zy, zz, tyE, zs1, zs2, zs3, zs4, zs5, ev, zs6, dOk, cv, zu1, zu2, zu3, eqB, Value.oneCell', zs7, zs8, zs9, zt1, zt2, isC, TK.agg, rv, rv1, ldV, zt3, zt4, zn1, zn2, zn3, zn4, zn5, zn6, zn7, reduceIte, reduceCtorEq, eq_self])); (repeat (first | refine x_seq rfl ?_ | refine go_ops ?_ | refine go_blk ?_ | refine x_skip rfl ?_ | refine x_blk rfl rfl ?_ | refine x_exit rfl rfl rfl ?_ | refine x_ift rfl rfl rfl ?_ | refine x_iff rfl rfl rfl ?_ | refine x_label rfl ?_ | ((first | refine x_reg rfl rfl ?_ | (refine go_newx hty hnt hmh rfl rfl ?_; intro _)); refine runo0 400 hty hnt hmh ?_; simp only [so, sq, zy, zz, tyE, zs1, zs2, zs3, zs4, zs5, ev, zs6, dOk, cv, zu1, zu2, zu3, eqB, Value.oneCell', zs7, zs8, zs9, zt1, zt2, isC, TK.agg, rv, rv1, ldV, zt3, zt4, zn1, zn2, zn3, zn4, zn5, zn6, zn7, reduceIte, reduceCtorEq, eq_self])))
  refine x_retc rfl hQ hmb rfl (by rw [hty]; simp only [so, sq, zy, zz, tyE, zs1, zs2, zs3, zs4, zs5, ev, zs6, dOk, cv, zu1, zu2, zu3, eqB, Value.oneCell', zs7, zs8, zs9, zt1, zt2, isC, TK.agg, rv, rv1, ldV, zt3, zt4, zn1, zn2, zn3, zn4, zn5, zn6, zn7, reduceIte, reduceCtorEq, eq_self]; try rfl) rfl ?_; simp only [SV.den, resV, dens]
  rw [hwh, hmis]
def rgtP (p : Pr) : Bool := (whP p).2.2 == 0
theorem rrightp_ok (p : Pr) (ps : Value) (G : Hp) (hps : rF.S G p ps) : Pure Try.prog 29 [.agg #[ps]] G (fun r _ => r = .bool (rgtP p)) := by
  have hps0 := hps
  obtain ⟨adp, capp, rfl⟩ := Rp.S_slice hps
  refine enterX ty tyok Try.func29 rfl Try.ntmps29 [.a [.v (.slice adp p.length capp)]] (by simp) ?_
  intro C hP hQ hnt hty hmb hmh hro; have hQp := qp_body hQ; simp only [so, sq, zy, zz, tyE, zs1, zs2, zs3, zs4, zs5, ev, zs6, dOk, cv, zu1, zu2, zu3, eqB, Value.oneCell', zs7, zs8, zs9, zt1, zt2, isC, TK.agg, rv, rv1, ldV, zt3, zt4, zn1, zn2, zn3, zn4, zn5, zn6, zn7, reduceIte, reduceCtorEq, eq_self]
  (try (refine runo0 400 hty hnt hmh ?_; simp only [so, sq, zy, zz, tyE, zs1, zs2, zs3, zs4, zs5, ev, zs6, dOk, cv, zu1, zu2, zu3, eqB, Value.oneCell', zs7, zs8, zs9, zt1, zt2, isC, TK.agg, rv, rv1, ldV, zt3, zt4, zn1, zn2, zn3, zn4, zn5, zn6, zn7, reduceIte, reduceCtorEq, eq_self])); (repeat (first | refine x_seq rfl ?_ | refine go_ops ?_ | refine go_blk ?_ | refine x_skip rfl ?_ | refine x_blk rfl rfl ?_ | refine x_exit rfl rfl rfl ?_ | refine x_ift rfl rfl rfl ?_ | refine x_iff rfl rfl rfl ?_ | refine x_label rfl ?_ | ((first | refine x_reg rfl rfl ?_ | (refine go_newx hty hnt hmh rfl rfl ?_; intro _)); refine runo0 400 hty hnt hmh ?_; simp only [so, sq, zy, zz, tyE, zs1, zs2, zs3, zs4, zs5, ev, zs6, dOk, cv, zu1, zu2, zu3, eqB, Value.oneCell', zs7, zs8, zs9, zt1, zt2, isC, TK.agg, rv, rv1, ldV, zt3, zt4, zn1, zn2, zn3, zn4, zn5, zn6, zn7, reduceIte, reduceCtorEq, eq_self])))
  refine go_callf (by rw [hnt]; rfl) (by rw [hP]; kernel_rfl) rfl (hP ▸ refwherep_ok p _ G hps0) ?_; (try (refine runo0 400 hty hnt hmh ?_; simp only [so, sq, zy, zz, tyE, zs1, zs2, zs3, zs4, zs5, ev, zs6, dOk, cv, zu1, zu2, zu3, eqB, Value.oneCell', zs7, zs8, zs9, zt1, zt2, isC, TK.agg, rv, rv1, ldV, zt3, zt4, zn1, zn2, zn3, zn4, zn5, zn6, zn7, reduceIte, reduceCtorEq, eq_self])); (repeat (first | refine x_seq rfl ?_ | refine go_ops ?_ | refine go_blk ?_ | refine x_skip rfl ?_ | refine x_blk rfl rfl ?_ | refine x_exit rfl rfl rfl ?_ | refine x_ift rfl rfl rfl ?_ | refine x_iff rfl rfl rfl ?_ | refine x_label rfl ?_ | ((first | refine x_reg rfl rfl ?_ | (refine go_newx hty hnt hmh rfl rfl ?_; intro _)); refine runo0 400 hty hnt hmh ?_; simp only [so, sq, zy, zz, tyE, zs1, zs2, zs3, zs4, zs5, ev, zs6, dOk, cv, zu1, zu2, zu3, eqB, Value.oneCell', zs7, zs8, zs9, zt1, zt2, isC, TK.agg, rv, rv1, ldV, zt3, zt4, zn1, zn2, zn3, zn4, zn5, zn6, zn7, reduceIte, reduceCtorEq, eq_self])))
  refine x_retc rfl hQ hmb rfl (by rw [hty]; simp only [so, sq, zy, zz, tyE, zs1, zs2, zs3, zs4, zs5, ev, zs6, dOk, cv, zu1, zu2, zu3, eqB, Value.oneCell', zs7, zs8, zs9, zt1, zt2, isC, TK.agg, rv, rv1, ldV, zt3, zt4, zn1, zn2, zn3, zn4, zn5, zn6, zn7, reduceIte, reduceCtorEq, eq_self]; try rfl) rfl ?_; simp only [SV.den, resV, dens]
  simp [rgtP]
end Go.Proofs.Ytmdkenpodcnnbaa
namespace Go.Proofs.Ytmdkenpodcnnbaa
open Go.Sx renaming SO' → zs1, SQ' → zs2, opQ → zs3, opStore → zs4, opAlloc → zs5, putS → zs6, ldOwn → zs7, binInt → zs8, binConst → zs9, binBool → zt1, binStr → zt2, resOne → zt3, resV → zt4
open Go.Sx.SV renaming cs → zu1, one → zu2, bool? → zu3
open Nat renaming reduceAdd → zn1, reduceMul → zn2, reduceSub → zn3, reduceLT → zn4, reduceLeDiff → zn5, reduceEqDiff → zn6, reduceBEq → zn7
set_option linter.unusedSimpArgs false
set_option linter.unusedVariables false
open Go.Sx
set_option maxHeartbeats 4000000
theorem clone_ok (l : List Int) (sl : Value) (G : Hp) (hS : rI.S G l sl) (hb : l.length ≤ 1000000) : PureR Try.prog 45 [sl] G (fun v _ r e size n xs => v = r ∧ e = 3 ∧ size = 1 ∧ n = l.length ∧ xs = l.map (.int .i64 ·)) := by
  obtain ⟨h63, ad, cap, rfl, hsrc⟩ := hS
  refine enterR ty tyok Try.func45 rfl Try.ntmps45 [.v (.slice ad l.length cap)] (by simp) ?_
  intro C hP hQ hnt hty hmb hmh hro; have hQp := qp_body hQ; simp only [so, sq, zy, zz, tyE, zs1, zs2, zs3, zs4, zs5, ev, zs6, dOk, cv, zu1, zu2, zu3, eqB, Value.oneCell', zs7, zs8, zs9, zt1, zt2, isC, TK.agg, rv, rv1, ldV, zt3, zt4, zn1, zn2, zn3, zn4, zn5, zn6, zn7, reduceIte, reduceCtorEq, eq_self]
  (try (refine runo0 400 hty hnt hmh ?_; simp only [so, sq, zy, zz, tyE, zs1, zs2, zs3, zs4, zs5, ev, zs6, dOk, cv, zu1, zu2, zu3, eqB, Value.oneCell', zs7, zs8, zs9, zt1, zt2, isC, TK.agg, rv, rv1, ldV, zt3, zt4, zn1, zn2, zn3, zn4, zn5, zn6, zn7, reduceIte, reduceCtorEq, eq_self])); (repeat (first | refine x_seq rfl ?_ | refine go_ops ?_ | refine go_blk ?_ | refine x_skip rfl ?_ | refine x_blk rfl rfl ?_ | refine x_exit rfl rfl rfl ?_ | refine x_ift rfl rfl rfl ?_ | refine x_iff rfl rfl rfl ?_ | refine x_label rfl ?_ | ((first | refine x_reg rfl rfl ?_ | (refine go_newx hty hnt hmh rfl rfl ?_; intro _)); refine runo0 400 hty hnt hmh ?_; simp only [so, sq, zy, zz, tyE, zs1, zs2, zs3, zs4, zs5, ev, zs6, dOk, cv, zu1, zu2, zu3, eqB, Value.oneCell', zs7, zs8, zs9, zt1, zt2, isC, TK.agg, rv, rv1, ldV, zt3, zt4, zn1, zn2, zn3, zn4, zn5, zn6, zn7, reduceIte, reduceCtorEq, eq_self])))
  refine go_q (by rw [hnt]; rfl) (quiet_snil (by rw [hty]; rfl) rfl rfl) ?_
  (try (refine runo0 400 hty hnt hmh ?_; simp only [so, sq, zy, zz, tyE, zs1, zs2, zs3, zs4, zs5, ev, zs6, dOk, cv, zu1, zu2, zu3, eqB, Value.oneCell', zs7, zs8, zs9, zt1, zt2, isC, TK.agg, rv, rv1, ldV, zt3, zt4, zn1, zn2, zn3, zn4, zn5, zn6, zn7, reduceIte, reduceCtorEq, eq_self])); (repeat (first | refine x_seq rfl ?_ | refine go_ops ?_ | refine go_blk ?_ | refine x_skip rfl ?_ | refine x_blk rfl rfl ?_ | refine x_exit rfl rfl rfl ?_ | refine x_ift rfl rfl rfl ?_ | refine x_iff rfl rfl rfl ?_ | refine x_label rfl ?_ | ((first | refine x_reg rfl rfl ?_ | (refine go_newx hty hnt hmh rfl rfl ?_; intro _)); refine runo0 400 hty hnt hmh ?_; simp only [so, sq, zy, zz, tyE, zs1, zs2, zs3, zs4, zs5, ev, zs6, dOk, cv, zu1, zu2, zu3, eqB, Value.oneCell', zs7, zs8, zs9, zt1, zt2, isC, TK.agg, rv, rv1, ldV, zt3, zt4, zn1, zn2, zn3, zn4, zn5, zn6, zn7, reduceIte, reduceCtorEq, eq_self])))
  cases ad with
  | none =>
    have hl : l = [] := by rcases hsrc with h | ⟨b, off, cs, h, _⟩; exact h; cases h
    subst hl
    refine go_slot 4 (.b true) rfl rfl ?_
    (try (refine runo0 400 hty hnt hmh ?_; simp only [so, sq, zy, zz, tyE, zs1, zs2, zs3, zs4, zs5, ev, zs6, dOk, cv, zu1, zu2, zu3, eqB, Value.oneCell', zs7, zs8, zs9, zt1, zt2, isC, TK.agg, rv, rv1, ldV, zt3, zt4, zn1, zn2, zn3, zn4, zn5, zn6, zn7, reduceIte, reduceCtorEq, eq_self])); (repeat (first | refine x_seq rfl ?_ | refine go_ops ?_ | refine go_blk ?_ | refine x_skip rfl ?_ | refine x_blk rfl rfl ?_ | refine x_exit rfl rfl rfl ?_ | refine x_ift rfl rfl rfl ?_ | refine x_iff rfl rfl rfl ?_ | refine x_label rfl ?_ | ((first | refine x_reg rfl rfl ?_ | (refine go_newx hty hnt hmh rfl rfl ?_; intro _)); refine runo0 400 hty hnt hmh ?_; simp only [so, sq, zy, zz, tyE, zs1, zs2, zs3, zs4, zs5, ev, zs6, dOk, cv, zu1, zu2, zu3, eqB, Value.oneCell', zs7, zs8, zs9, zt1, zt2, isC, TK.agg, rv, rv1, ldV, zt3, zt4, zn1, zn2, zn3, zn4, zn5, zn6, zn7, reduceIte, reduceCtorEq, eq_self])))
    refine go_nilrow 9 3 1 rfl (by omega) ?_
    simp only [so, sq, zy, zz, tyE, zs1, zs2, zs3, zs4, zs5, ev, zs6, dOk, cv, zu1, zu2, zu3, eqB, Value.oneCell', zs7, zs8, zs9, zt1, zt2, isC, TK.agg, rv, rv1, ldV, zt3, zt4, zn1, zn2, zn3, zn4, zn5, zn6, zn7, reduceIte, reduceCtorEq, eq_self]
    refine x_retr 9 rfl hQ hmb hmh rfl (by rw [hty]; simp only [so, sq, zy, zz, tyE, zs1, zs2, zs3, zs4, zs5, ev, zs6, dOk, cv, zu1, zu2, zu3, eqB, Value.oneCell', zs7, zs8, zs9, zt1, zt2, isC, TK.agg, rv, rv1, ldV, zt3, zt4, zn1, zn2, zn3, zn4, zn5, zn6, zn7, reduceIte, reduceCtorEq, eq_self]; try rfl) rfl rfl ?_
    simp [resV, SV.den]
  | some a =>
    refine go_slot 4 (.b false) rfl rfl ?_
    (try (refine runo0 400 hty hnt hmh ?_; simp only [so, sq, zy, zz, tyE, zs1, zs2, zs3, zs4, zs5, ev, zs6, dOk, cv, zu1, zu2, zu3, eqB, Value.oneCell', zs7, zs8, zs9, zt1, zt2, isC, TK.agg, rv, rv1, ldV, zt3, zt4, zn1, zn2, zn3, zn4, zn5, zn6, zn7, reduceIte, reduceCtorEq, eq_self])); (repeat (first | refine x_seq rfl ?_ | refine go_ops ?_ | refine go_blk ?_ | refine x_skip rfl ?_ | refine x_blk rfl rfl ?_ | refine x_exit rfl rfl rfl ?_ | refine x_ift rfl rfl rfl ?_ | refine x_iff rfl rfl rfl ?_ | refine x_label rfl ?_ | ((first | refine x_reg rfl rfl ?_ | (refine go_newx hty hnt hmh rfl rfl ?_; intro _)); refine runo0 400 hty hnt hmh ?_; simp only [so, sq, zy, zz, tyE, zs1, zs2, zs3, zs4, zs5, ev, zs6, dOk, cv, zu1, zu2, zu3, eqB, Value.oneCell', zs7, zs8, zs9, zt1, zt2, isC, TK.agg, rv, rv1, ldV, zt3, zt4, zn1, zn2, zn3, zn4, zn5, zn6, zn7, reduceIte, reduceCtorEq, eq_self])))
    obtain ⟨cs2, hr2, hs2⟩ := Rp.src (r := rI) (cap := cap) hsrc
    have hlen2 := Rp.L_len hr2
    simp only [rI, Nat.mul_one] at hlen2
    refine go_litrow 0 (n := 0) (size := 1) rfl (by omega) rfl (by omega) ?_
    simp only [so, sq, zy, zz, tyE, zs1, zs2, zs3, zs4, zs5, ev, zs6, dOk, cv, zu1, zu2, zu3, eqB, Value.oneCell', zs7, zs8, zs9, zt1, zt2, isC, TK.agg, rv, rv1, ldV, zt3, zt4, zn1, zn2, zn3, zn4, zn5, zn6, zn7, reduceIte, reduceCtorEq, eq_self]
    refine go_append_any 0 (by rw [hnt]; rfl) (by rw [hty]; rfl) (by rw [hty]; rfl) (by decide) rfl rfl rfl (by omega) rfl (hs2.imp id fun f => f _ _ rfl) (by simp only []; omega) (Rp.L_one hr2) (by omega) (by simp only []; omega) ?_
    intro v'
    refine go_rowS 0 rfl ?_
    rintro ad2 cap2 rfl
    (try (refine runo0 400 hty hnt hmh ?_; simp only [so, sq, zy, zz, tyE, zs1, zs2, zs3, zs4, zs5, ev, zs6, dOk, cv, zu1, zu2, zu3, eqB, Value.oneCell', zs7, zs8, zs9, zt1, zt2, isC, TK.agg, rv, rv1, ldV, zt3, zt4, zn1, zn2, zn3, zn4, zn5, zn6, zn7, reduceIte, reduceCtorEq, eq_self])); (repeat (first | refine x_seq rfl ?_ | refine go_ops ?_ | refine go_blk ?_ | refine x_skip rfl ?_ | refine x_blk rfl rfl ?_ | refine x_exit rfl rfl rfl ?_ | refine x_ift rfl rfl rfl ?_ | refine x_iff rfl rfl rfl ?_ | refine x_label rfl ?_ | ((first | refine x_reg rfl rfl ?_ | (refine go_newx hty hnt hmh rfl rfl ?_; intro _)); refine runo0 400 hty hnt hmh ?_; simp only [so, sq, zy, zz, tyE, zs1, zs2, zs3, zs4, zs5, ev, zs6, dOk, cv, zu1, zu2, zu3, eqB, Value.oneCell', zs7, zs8, zs9, zt1, zt2, isC, TK.agg, rv, rv1, ldV, zt3, zt4, zn1, zn2, zn3, zn4, zn5, zn6, zn7, reduceIte, reduceCtorEq, eq_self])))
    refine x_retr 0 rfl hQ hmb hmh rfl (by rw [hty]; simp only [so, sq, zy, zz, tyE, zs1, zs2, zs3, zs4, zs5, ev, zs6, dOk, cv, zu1, zu2, zu3, eqB, Value.oneCell', zs7, zs8, zs9, zt1, zt2, isC, TK.agg, rv, rv1, ldV, zt3, zt4, zn1, zn2, zn3, zn4, zn5, zn6, zn7, reduceIte, reduceCtorEq, eq_self]; try rfl) rfl rfl ?_
    refine ⟨by simp [resV, SV.den], rfl, rfl, by simp, ?_⟩
    simpa using (rI_L.1 hr2).1
def encN : List Nd → List Value → List Value
  | x :: l, s :: ss => .int .i64 x.op :: .int .i64 x.n :: s :: encN l ss
  | _, _ => []
def rowsL : List Nd → List Value → List Rw
  | x :: l, s :: ss => ⟨3, 1, s, x.l.length, x.l.map (.int .i64 ·)⟩ :: rowsL l ss
  | _, _ => []
/-- The rows of a function's copy. -/
def RF (f : Fu) (ns : Value) (ss : List Value) : List Rw := rowsL f.nodes ss ++ [⟨51, 3, ns, f.nodes.length, encN f.nodes ss⟩]
theorem encN_snoc {x : Nd} {s : Value} : ∀ (l : List Nd) (ss : List Value), l.length = ss.length → encN (l ++ [x]) (ss ++ [s]) = encN l ss ++ [.int .i64 x.op, .int .i64 x.n, s]
  | [], [], _ => by simp [encN]
  | y :: l, u :: ss, h => by simp [encN, encN_snoc l ss (by simpa using h)]
theorem rowsL_snoc {x : Nd} {s : Value} : ∀ (l : List Nd) (ss : List Value), l.length = ss.length → rowsL (l ++ [x]) (ss ++ [s]) = rowsL l ss ++ [⟨3, 1, s, x.l.length, x.l.map (.int .i64 ·)⟩]
  | [], [], _ => by simp [rowsL]
  | y :: l, u :: ss, h => by simp [rowsL, rowsL_snoc l ss (by simpa using h)]
theorem Rp.src_mono {G G' : Hp} {l : List Int} {ad : Option Addr} (hl : Le G G') (h : l = [] ∨ ∃ b off cs, ad = some ⟨b, off, none⟩ ∧ At G b off cs ∧ rI.L G l cs) : l = [] ∨ ∃ b off cs, ad = some ⟨b, off, none⟩ ∧ At G' b off cs ∧ rI.L G' l cs := by
  rcases h with h | ⟨b, off, cs, h1, h2, h3⟩
  · exact .inl h
  · exact .inr ⟨b, off, cs, h1, h2.mono hl, Rp.L_mono hl h3⟩
theorem copy_ok (f : Fu) (ns : Value) (G : Hp) (hns : rN.S G f.nodes ns) (hb : f.nodes.length ≤ 300) (hb2 : ∀ x ∈ f.nodes, x.l.length ≤ 40) :
    PureV Try.prog 30 [.agg #[.int .i64 f.params, ns]] G (fun v _ rs => ∃ ad cap ss, ss.length = f.nodes.length ∧ v = .agg #[.int .i64 f.params, .slice ad f.nodes.length cap] ∧ rs = RF f (.slice ad f.nodes.length cap) ss) := by
  have hns0 := hns
  obtain ⟨ad, cap, rfl⟩ := Rp.S_slice hns
  refine enterV ty tyok Try.func30 rfl Try.ntmps30 [.a [.v (.int .i64 f.params), .v (.slice ad f.nodes.length cap)]] (by simp) ?_
  intro C hP hQ hnt hty hmb hmh hro; have hQp := qp_body hQ; simp only [so, sq, zy, zz, tyE, zs1, zs2, zs3, zs4, zs5, ev, zs6, dOk, cv, zu1, zu2, zu3, eqB, Value.oneCell', zs7, zs8, zs9, zt1, zt2, isC, TK.agg, rv, rv1, ldV, zt3, zt4, zn1, zn2, zn3, zn4, zn5, zn6, zn7, reduceIte, reduceCtorEq, eq_self]
  (try (refine runo0 400 hty hnt hmh ?_; simp only [so, sq, zy, zz, tyE, zs1, zs2, zs3, zs4, zs5, ev, zs6, dOk, cv, zu1, zu2, zu3, eqB, Value.oneCell', zs7, zs8, zs9, zt1, zt2, isC, TK.agg, rv, rv1, ldV, zt3, zt4, zn1, zn2, zn3, zn4, zn5, zn6, zn7, reduceIte, reduceCtorEq, eq_self])); (repeat (first | refine x_seq rfl ?_ | refine go_ops ?_ | refine go_blk ?_ | refine x_skip rfl ?_ | refine x_blk rfl rfl ?_ | refine x_exit rfl rfl rfl ?_ | refine x_ift rfl rfl rfl ?_ | refine x_iff rfl rfl rfl ?_ | refine x_label rfl ?_ | ((first | refine x_reg rfl rfl ?_ | (refine go_newx hty hnt hmh rfl rfl ?_; intro _)); refine runo0 400 hty hnt hmh ?_; simp only [so, sq, zy, zz, tyE, zs1, zs2, zs3, zs4, zs5, ev, zs6, dOk, cv, zu1, zu2, zu3, eqB, Value.oneCell', zs7, zs8, zs9, zt1, zt2, isC, TK.agg, rv, rv1, ldV, zt3, zt4, zn1, zn2, zn3, zn4, zn5, zn6, zn7, reduceIte, reduceCtorEq, eq_self])))
  rename_i b1 b2 b3
  refine go_nilrow 41 51 3 rfl (by omega) ?_
  refine go_znil 40 rfl (by omega) ?_
  intro Z0
  refine go_keep [1, 2, 3, 10, 11, 12] [0, 1, 2, 40, 41] ?_
  simp only [so, sq, zy, zz, tyE, zs1, zs2, zs3, zs4, zs5, ev, zs6, dOk, cv, zu1, zu2, zu3, eqB, Value.oneCell', zs7, zs8, zs9, zt1, zt2, isC, TK.agg, rv, rv1, ldV, zt3, zt4, zn1, zn2, zn3, zn4, zn5, zn6, zn7, reduceIte, reduceCtorEq, eq_self]
  refine x_loop rfl (fun q s => ∃ (k : Nat) (G' : Hp) (ss : List Value) (ad3 : Option Addr) (cap3 : Nat) (Z : Nat → Prop), k ≤ f.nodes.length ∧ q = f.nodes.length - k ∧ Le G G' ∧ ss.length = k ∧
    s = ⟨[(1, .p 0 b1 0), (2, .p 1 b2 0), (3, .p 2 b3 0), (10, .v (.slice ad f.nodes.length cap)), (11, .v (.int .i64 f.nodes.length)), (12, .v (.int .i64 k))],
      [(0, b1, .c 46 [.v (.int .i64 f.params), .v (.slice ad f.nodes.length cap)]), (1, b2, .c 46 [.v (.int .i64 0), .v (.slice none 0 0)]), (2, b3, .c 46 [.v (.int .i64 f.params), .v (.slice ad3 k cap3)]),
       (40, 0, .z (ZR (rowsL (f.nodes.take k) ss)) Z Z), (41, 0, .row (.slice ad3 k cap3) 51 3 k (encN (f.nodes.take k) ss))], G', []⟩) ⟨0, G, [], none, 0, Z0, by omega, rfl, Le.refl _, rfl, by simp [rowsL, encN]⟩ ?_
  rintro q s ⟨k, G1, ss, ad3, cap3, Z, hk, hq, hle1, hss, rfl⟩ ih
  (try (refine runo0 400 hty hnt hmh ?_; simp only [so, sq, zy, zz, tyE, zs1, zs2, zs3, zs4, zs5, ev, zs6, dOk, cv, zu1, zu2, zu3, eqB, Value.oneCell', zs7, zs8, zs9, zt1, zt2, isC, TK.agg, rv, rv1, ldV, zt3, zt4, zn1, zn2, zn3, zn4, zn5, zn6, zn7, reduceIte, reduceCtorEq, eq_self])); (repeat (first | refine x_seq rfl ?_ | refine go_ops ?_ | refine go_blk ?_ | refine x_skip rfl ?_ | refine x_blk rfl rfl ?_ | refine x_exit rfl rfl rfl ?_ | refine x_ift rfl rfl rfl ?_ | refine x_iff rfl rfl rfl ?_ | refine x_label rfl ?_ | ((first | refine x_reg rfl rfl ?_ | (refine go_newx hty hnt hmh rfl rfl ?_; intro _)); refine runo0 400 hty hnt hmh ?_; simp only [so, sq, zy, zz, tyE, zs1, zs2, zs3, zs4, zs5, ev, zs6, dOk, cv, zu1, zu2, zu3, eqB, Value.oneCell', zs7, zs8, zs9, zt1, zt2, isC, TK.agg, rv, rv1, ldV, zt3, zt4, zn1, zn2, zn3, zn4, zn5, zn6, zn7, reduceIte, reduceCtorEq, eq_self])))
  refine x_if rfl rfl rfl rfl (fun hjl => ?_) (fun hjl => ?_)
  · have hlt : k < f.nodes.length := by simp at hjl; omega
    have htk : f.nodes.take (k + 1) = f.nodes.take k ++ [f.nodes[k]] := by rw [List.take_append_getElem]
    have hl40 : f.nodes[k].l.length ≤ 1000000 := by have := hb2 f.nodes[k] (List.getElem_mem hlt); omega
    obtain ⟨bn, offn, capn, cn, hse, hatn, sl, rfl, hop, hnn, hsl⟩ := Rp.S_get hns0 hlt
    cases hse
    obtain ⟨h63', adl, capl, rfl, hsrc⟩ := hsl
    have hatn' : At G bn (offn + k * 3) [.int .i64 f.nodes[k].op, .int .i64 f.nodes[k].n, .slice adl f.nodes[k].l.length capl] := by simpa [rN] using hatn
    clear hatn
    (try (refine runo0 400 hty hnt hmh ?_; simp only [so, sq, zy, zz, tyE, zs1, zs2, zs3, zs4, zs5, ev, zs6, dOk, cv, zu1, zu2, zu3, eqB, Value.oneCell', zs7, zs8, zs9, zt1, zt2, isC, TK.agg, rv, rv1, ldV, zt3, zt4, zn1, zn2, zn3, zn4, zn5, zn6, zn7, reduceIte, reduceCtorEq, eq_self])); (repeat (first | refine x_seq rfl ?_ | refine go_ops ?_ | refine go_blk ?_ | refine x_skip rfl ?_ | refine x_blk rfl rfl ?_ | refine x_exit rfl rfl rfl ?_ | refine x_ift rfl rfl rfl ?_ | refine x_iff rfl rfl rfl ?_ | refine x_label rfl ?_ | ((first | refine x_reg rfl rfl ?_ | (refine go_newx hty hnt hmh rfl rfl ?_; intro _)); refine runo0 400 hty hnt hmh ?_; simp only [so, sq, zy, zz, tyE, zs1, zs2, zs3, zs4, zs5, ev, zs6, dOk, cv, zu1, zu2, zu3, eqB, Value.oneCell', zs7, zs8, zs9, zt1, zt2, isC, TK.agg, rv, rv1, ldV, zt3, zt4, zn1, zn2, zn3, zn4, zn5, zn6, zn7, reduceIte, reduceCtorEq, eq_self])))
    refine go_q (by rw [hnt]; rfl) (quiet_index (by rw [hty]; rfl) (by rw [hty]; rfl) rfl rfl rfl (by omega) (by omega)) ?_
    (try (refine runo0 400 hty hnt hmh ?_; simp only [so, sq, zy, zz, tyE, zs1, zs2, zs3, zs4, zs5, ev, zs6, dOk, cv, zu1, zu2, zu3, eqB, Value.oneCell', zs7, zs8, zs9, zt1, zt2, isC, TK.agg, rv, rv1, ldV, zt3, zt4, zn1, zn2, zn3, zn4, zn5, zn6, zn7, reduceIte, reduceCtorEq, eq_self])); (repeat (first | refine x_seq rfl ?_ | refine go_ops ?_ | refine go_blk ?_ | refine x_skip rfl ?_ | refine x_blk rfl rfl ?_ | refine x_exit rfl rfl rfl ?_ | refine x_ift rfl rfl rfl ?_ | refine x_iff rfl rfl rfl ?_ | refine x_label rfl ?_ | ((first | refine x_reg rfl rfl ?_ | (refine go_newx hty hnt hmh rfl rfl ?_; intro _)); refine runo0 400 hty hnt hmh ?_; simp only [so, sq, zy, zz, tyE, zs1, zs2, zs3, zs4, zs5, ev, zs6, dOk, cv, zu1, zu2, zu3, eqB, Value.oneCell', zs7, zs8, zs9, zt1, zt2, isC, TK.agg, rv, rv1, ldV, zt3, zt4, zn1, zn2, zn3, zn4, zn5, zn6, zn7, reduceIte, reduceCtorEq, eq_self])))
    refine go_q (by rw [hnt]; rfl) (quiet_load (by rw [hty]; rfl) rfl (by simp [TK.agg]) (hatn'.mono hle1) rfl) ?_
    (try (refine runo0 400 hty hnt hmh ?_; simp only [so, sq, zy, zz, tyE, zs1, zs2, zs3, zs4, zs5, ev, zs6, dOk, cv, zu1, zu2, zu3, eqB, Value.oneCell', zs7, zs8, zs9, zt1, zt2, isC, TK.agg, rv, rv1, ldV, zt3, zt4, zn1, zn2, zn3, zn4, zn5, zn6, zn7, reduceIte, reduceCtorEq, eq_self])); (repeat (first | refine x_seq rfl ?_ | refine go_ops ?_ | refine go_blk ?_ | refine x_skip rfl ?_ | refine x_blk rfl rfl ?_ | refine x_exit rfl rfl rfl ?_ | refine x_ift rfl rfl rfl ?_ | refine x_iff rfl rfl rfl ?_ | refine x_label rfl ?_ | ((first | refine x_reg rfl rfl ?_ | (refine go_newx hty hnt hmh rfl rfl ?_; intro _)); refine runo0 400 hty hnt hmh ?_; simp only [so, sq, zy, zz, tyE, zs1, zs2, zs3, zs4, zs5, ev, zs6, dOk, cv, zu1, zu2, zu3, eqB, Value.oneCell', zs7, zs8, zs9, zt1, zt2, isC, TK.agg, rv, rv1, ldV, zt3, zt4, zn1, zn2, zn3, zn4, zn5, zn6, zn7, reduceIte, reduceCtorEq, eq_self])))
    rename_i b5
    refine x_held [(42, b5, .c 51 [.v (.int .i64 f.nodes[k].op), .v (.int .i64 f.nodes[k].n), .v (.slice adl f.nodes[k].l.length capl)])] rfl (by rw [hP]; kernel_rfl) rfl rfl rfl ?_; simp only [so, sq, zy, zz, tyE, zs1, zs2, zs3, zs4, zs5, ev, zs6, dOk, cv, zu1, zu2, zu3, eqB, Value.oneCell', zs7, zs8, zs9, zt1, zt2, isC, TK.agg, rv, rv1, ldV, zt3, zt4, zn1, zn2, zn3, zn4, zn5, zn6, zn7, reduceIte, reduceCtorEq, eq_self]
    refine h_take 0 rfl (by kernel_rfl) (by kernel_rfl) (by kernel_rfl) hQp (by rw [hnt]; rfl) (allIn (by repeat (first | exact trivial | refine ⟨rfl, ?_⟩))) (by first | exact Le.refl _ | assumption) (quiet_op (by rw [hty]; first | rfl | (simp only [so, sq, zy, zz, tyE, zs1, zs2, zs3, zs4, zs5, ev, zs6, dOk, cv, zu1, zu2, zu3, eqB, Value.oneCell', zs7, zs8, zs9, zt1, zt2, isC, TK.agg, rv, rv1, ldV, zt3, zt4, zn1, zn2, zn3, zn4, zn5, zn6, zn7, reduceIte, reduceCtorEq, eq_self]; rfl))) ?_; simp only [so, sq, zy, zz, tyE, zs1, zs2, zs3, zs4, zs5, ev, zs6, dOk, cv, zu1, zu2, zu3, eqB, Value.oneCell', zs7, zs8, zs9, zt1, zt2, isC, TK.agg, rv, rv1, ldV, zt3, zt4, zn1, zn2, zn3, zn4, zn5, zn6, zn7, reduceIte, reduceCtorEq, eq_self]
    refine h_take 2 rfl (by kernel_rfl) (by kernel_rfl) (by kernel_rfl) hQp (by rw [hnt]; rfl) (allIn (by repeat (first | exact trivial | refine ⟨rfl, ?_⟩))) (by first | exact Le.refl _ | assumption) (quiet_op (by rw [hty]; first | rfl | (simp only [so, sq, zy, zz, tyE, zs1, zs2, zs3, zs4, zs5, ev, zs6, dOk, cv, zu1, zu2, zu3, eqB, Value.oneCell', zs7, zs8, zs9, zt1, zt2, isC, TK.agg, rv, rv1, ldV, zt3, zt4, zn1, zn2, zn3, zn4, zn5, zn6, zn7, reduceIte, reduceCtorEq, eq_self]; rfl))) ?_; simp only [so, sq, zy, zz, tyE, zs1, zs2, zs3, zs4, zs5, ev, zs6, dOk, cv, zu1, zu2, zu3, eqB, Value.oneCell', zs7, zs8, zs9, zt1, zt2, isC, TK.agg, rv, rv1, ldV, zt3, zt4, zn1, zn2, zn3, zn4, zn5, zn6, zn7, reduceIte, reduceCtorEq, eq_self]
    refine h_take 3 rfl (by kernel_rfl) (by kernel_rfl) (by kernel_rfl) hQp (by rw [hnt]; rfl) (allIn (by repeat (first | exact trivial | refine ⟨rfl, ?_⟩))) (by first | exact Le.refl _ | assumption) (quiet_op (by rw [hty]; first | rfl | (simp only [so, sq, zy, zz, tyE, zs1, zs2, zs3, zs4, zs5, ev, zs6, dOk, cv, zu1, zu2, zu3, eqB, Value.oneCell', zs7, zs8, zs9, zt1, zt2, isC, TK.agg, rv, rv1, ldV, zt3, zt4, zn1, zn2, zn3, zn4, zn5, zn6, zn7, reduceIte, reduceCtorEq, eq_self]; rfl))) ?_; simp only [so, sq, zy, zz, tyE, zs1, zs2, zs3, zs4, zs5, ev, zs6, dOk, cv, zu1, zu2, zu3, eqB, Value.oneCell', zs7, zs8, zs9, zt1, zt2, isC, TK.agg, rv, rv1, ldV, zt3, zt4, zn1, zn2, zn3, zn4, zn5, zn6, zn7, reduceIte, reduceCtorEq, eq_self]
    refine h_take 4 rfl (by kernel_rfl) (by kernel_rfl) (by kernel_rfl) hQp (by rw [hnt]; rfl) (allIn (by repeat (first | exact trivial | refine ⟨rfl, ?_⟩))) (by first | exact Le.refl _ | assumption) (quiet_op (by rw [hty]; first | rfl | (simp only [so, sq, zy, zz, tyE, zs1, zs2, zs3, zs4, zs5, ev, zs6, dOk, cv, zu1, zu2, zu3, eqB, Value.oneCell', zs7, zs8, zs9, zt1, zt2, isC, TK.agg, rv, rv1, ldV, zt3, zt4, zn1, zn2, zn3, zn4, zn5, zn6, zn7, reduceIte, reduceCtorEq, eq_self]; rfl))) ?_; simp only [so, sq, zy, zz, tyE, zs1, zs2, zs3, zs4, zs5, ev, zs6, dOk, cv, zu1, zu2, zu3, eqB, Value.oneCell', zs7, zs8, zs9, zt1, zt2, isC, TK.agg, rv, rv1, ldV, zt3, zt4, zn1, zn2, zn3, zn4, zn5, zn6, zn7, reduceIte, reduceCtorEq, eq_self]
    refine h_take 5 rfl (by kernel_rfl) (by kernel_rfl) (by kernel_rfl) hQp (by rw [hnt]; rfl) (allIn (by repeat (first | exact trivial | refine ⟨rfl, ?_⟩))) (by first | exact Le.refl _ | assumption) (quiet_op (by rw [hty]; first | rfl | (simp only [so, sq, zy, zz, tyE, zs1, zs2, zs3, zs4, zs5, ev, zs6, dOk, cv, zu1, zu2, zu3, eqB, Value.oneCell', zs7, zs8, zs9, zt1, zt2, isC, TK.agg, rv, rv1, ldV, zt3, zt4, zn1, zn2, zn3, zn4, zn5, zn6, zn7, reduceIte, reduceCtorEq, eq_self]; rfl))) ?_; simp only [so, sq, zy, zz, tyE, zs1, zs2, zs3, zs4, zs5, ev, zs6, dOk, cv, zu1, zu2, zu3, eqB, Value.oneCell', zs7, zs8, zs9, zt1, zt2, isC, TK.agg, rv, rv1, ldV, zt3, zt4, zn1, zn2, zn3, zn4, zn5, zn6, zn7, reduceIte, reduceCtorEq, eq_self]
    refine h_take 6 rfl (by kernel_rfl) (by kernel_rfl) (by kernel_rfl) hQp (by rw [hnt]; rfl) (allIn (by repeat (first | exact trivial | refine ⟨rfl, ?_⟩))) (by first | exact Le.refl _ | assumption) (quiet_op (by rw [hty]; first | rfl | (simp only [so, sq, zy, zz, tyE, zs1, zs2, zs3, zs4, zs5, ev, zs6, dOk, cv, zu1, zu2, zu3, eqB, Value.oneCell', zs7, zs8, zs9, zt1, zt2, isC, TK.agg, rv, rv1, ldV, zt3, zt4, zn1, zn2, zn3, zn4, zn5, zn6, zn7, reduceIte, reduceCtorEq, eq_self]; rfl))) ?_; simp only [so, sq, zy, zz, tyE, zs1, zs2, zs3, zs4, zs5, ev, zs6, dOk, cv, zu1, zu2, zu3, eqB, Value.oneCell', zs7, zs8, zs9, zt1, zt2, isC, TK.agg, rv, rv1, ldV, zt3, zt4, zn1, zn2, zn3, zn4, zn5, zn6, zn7, reduceIte, reduceCtorEq, eq_self]
    refine h_take 7 rfl (by kernel_rfl) (by kernel_rfl) (by kernel_rfl) hQp (by rw [hnt]; rfl) (allIn (by repeat (first | exact trivial | refine ⟨rfl, ?_⟩))) (by first | exact Le.refl _ | assumption) (quiet_op (by rw [hty]; first | rfl | (simp only [so, sq, zy, zz, tyE, zs1, zs2, zs3, zs4, zs5, ev, zs6, dOk, cv, zu1, zu2, zu3, eqB, Value.oneCell', zs7, zs8, zs9, zt1, zt2, isC, TK.agg, rv, rv1, ldV, zt3, zt4, zn1, zn2, zn3, zn4, zn5, zn6, zn7, reduceIte, reduceCtorEq, eq_self]; rfl))) ?_; simp only [so, sq, zy, zz, tyE, zs1, zs2, zs3, zs4, zs5, ev, zs6, dOk, cv, zu1, zu2, zu3, eqB, Value.oneCell', zs7, zs8, zs9, zt1, zt2, isC, TK.agg, rv, rv1, ldV, zt3, zt4, zn1, zn2, zn3, zn4, zn5, zn6, zn7, reduceIte, reduceCtorEq, eq_self]
    refine h_two 1 8 rfl rfl (by kernel_rfl) ?_ ?_
    · (try (refine runo0 400 hty hnt hmh ?_; simp only [so, sq, zy, zz, tyE, zs1, zs2, zs3, zs4, zs5, ev, zs6, dOk, cv, zu1, zu2, zu3, eqB, Value.oneCell', zs7, zs8, zs9, zt1, zt2, isC, TK.agg, rv, rv1, ldV, zt3, zt4, zn1, zn2, zn3, zn4, zn5, zn6, zn7, reduceIte, reduceCtorEq, eq_self])); (repeat (first | refine x_seq rfl ?_ | refine go_ops ?_ | refine go_blk ?_ | refine x_skip rfl ?_ | refine x_blk rfl rfl ?_ | refine x_exit rfl rfl rfl ?_ | refine x_ift rfl rfl rfl ?_ | refine x_iff rfl rfl rfl ?_ | refine x_label rfl ?_ | ((first | refine x_reg rfl rfl ?_ | (refine go_newx hty hnt hmh rfl rfl ?_; intro _)); refine runo0 400 hty hnt hmh ?_; simp only [so, sq, zy, zz, tyE, zs1, zs2, zs3, zs4, zs5, ev, zs6, dOk, cv, zu1, zu2, zu3, eqB, Value.oneCell', zs7, zs8, zs9, zt1, zt2, isC, TK.agg, rv, rv1, ldV, zt3, zt4, zn1, zn2, zn3, zn4, zn5, zn6, zn7, reduceIte, reduceCtorEq, eq_self])))
      refine h_hs (allIn (by repeat (first | exact trivial | refine ⟨rfl, ?_⟩))) (by first | exact Le.refl _ | assumption) ?_
      refine h_one 8 rfl (by kernel_rfl) ?_
      refine go_callr 50 (by rw [hnt]; rfl) (by rw [hP]; kernel_rfl) rfl rfl (by omega) (hP ▸ clone_ok f.nodes[k].l _ G1 ⟨h63', adl, capl, rfl, Rp.src_mono hle1 hsrc⟩ hl40) ?_
      rintro v G2 r e size n xs (hle2 : Le G1 G2) ⟨rfl, rfl, rfl, rfl, rfl⟩
      refine go_rowS 50 rfl ?_
      rintro adc capc rfl
      (try (refine runo0 400 hty hnt hmh ?_; simp only [so, sq, zy, zz, tyE, zs1, zs2, zs3, zs4, zs5, ev, zs6, dOk, cv, zu1, zu2, zu3, eqB, Value.oneCell', zs7, zs8, zs9, zt1, zt2, isC, TK.agg, rv, rv1, ldV, zt3, zt4, zn1, zn2, zn3, zn4, zn5, zn6, zn7, reduceIte, reduceCtorEq, eq_self])); (repeat (first | refine x_seq rfl ?_ | refine go_ops ?_ | refine go_blk ?_ | refine x_skip rfl ?_ | refine x_blk rfl rfl ?_ | refine x_exit rfl rfl rfl ?_ | refine x_ift rfl rfl rfl ?_ | refine x_iff rfl rfl rfl ?_ | refine x_label rfl ?_ | ((first | refine x_reg rfl rfl ?_ | (refine go_newx hty hnt hmh rfl rfl ?_; intro _)); refine runo0 400 hty hnt hmh ?_; simp only [so, sq, zy, zz, tyE, zs1, zs2, zs3, zs4, zs5, ev, zs6, dOk, cv, zu1, zu2, zu3, eqB, Value.oneCell', zs7, zs8, zs9, zt1, zt2, isC, TK.agg, rv, rv1, ldV, zt3, zt4, zn1, zn2, zn3, zn4, zn5, zn6, zn7, reduceIte, reduceCtorEq, eq_self])))
      refine h_hs (allIn (by repeat (first | exact trivial | refine ⟨rfl, ?_⟩))) (by first | exact Le.refl _ | assumption) ?_
      refine h_take 9 rfl (by kernel_rfl) (by kernel_rfl) (by kernel_rfl) hQp (by rw [hnt]; rfl) (allIn (by repeat (first | exact trivial | refine ⟨rfl, ?_⟩))) (by first | exact Le.refl _ | assumption) (quiet_op (by rw [hty]; first | rfl | (simp only [so, sq, zy, zz, tyE, zs1, zs2, zs3, zs4, zs5, ev, zs6, dOk, cv, zu1, zu2, zu3, eqB, Value.oneCell', zs7, zs8, zs9, zt1, zt2, isC, TK.agg, rv, rv1, ldV, zt3, zt4, zn1, zn2, zn3, zn4, zn5, zn6, zn7, reduceIte, reduceCtorEq, eq_self]; rfl))) ?_; simp only [so, sq, zy, zz, tyE, zs1, zs2, zs3, zs4, zs5, ev, zs6, dOk, cv, zu1, zu2, zu3, eqB, Value.oneCell', zs7, zs8, zs9, zt1, zt2, isC, TK.agg, rv, rv1, ldV, zt3, zt4, zn1, zn2, zn3, zn4, zn5, zn6, zn7, reduceIte, reduceCtorEq, eq_self]
      refine h_one 10 rfl (by kernel_rfl) ?_
      (try (refine runo0 400 hty hnt hmh ?_; simp only [so, sq, zy, zz, tyE, zs1, zs2, zs3, zs4, zs5, ev, zs6, dOk, cv, zu1, zu2, zu3, eqB, Value.oneCell', zs7, zs8, zs9, zt1, zt2, isC, TK.agg, rv, rv1, ldV, zt3, zt4, zn1, zn2, zn3, zn4, zn5, zn6, zn7, reduceIte, reduceCtorEq, eq_self])); (repeat (first | refine x_seq rfl ?_ | refine go_ops ?_ | refine go_blk ?_ | refine x_skip rfl ?_ | refine x_blk rfl rfl ?_ | refine x_exit rfl rfl rfl ?_ | refine x_ift rfl rfl rfl ?_ | refine x_iff rfl rfl rfl ?_ | refine x_label rfl ?_ | ((first | refine x_reg rfl rfl ?_ | (refine go_newx hty hnt hmh rfl rfl ?_; intro _)); refine runo0 400 hty hnt hmh ?_; simp only [so, sq, zy, zz, tyE, zs1, zs2, zs3, zs4, zs5, ev, zs6, dOk, cv, zu1, zu2, zu3, eqB, Value.oneCell', zs7, zs8, zs9, zt1, zt2, isC, TK.agg, rv, rv1, ldV, zt3, zt4, zn1, zn2, zn3, zn4, zn5, zn6, zn7, reduceIte, reduceCtorEq, eq_self])))
      refine h_hs (allIn (by repeat (first | exact trivial | refine ⟨rfl, ?_⟩))) (by first | exact Le.refl _ | assumption) ?_
      refine h_one 11 rfl (by kernel_rfl) ?_
      refine go_append 41 (by rw [hnt]; rfl) (by rw [hty]; rfl) (by rw [hty]; rfl) (by decide) rfl rfl rfl (by omega) rfl (src_own 3 rfl rfl) rfl (by simp [dens, SV.den, Value.oneCell']) (by omega) (by simp only []; omega) ?_
      intro v'
      refine go_rowS 41 rfl ?_
      rintro ad4 cap4 rfl
      (try (refine runo0 400 hty hnt hmh ?_; simp only [so, sq, zy, zz, tyE, zs1, zs2, zs3, zs4, zs5, ev, zs6, dOk, cv, zu1, zu2, zu3, eqB, Value.oneCell', zs7, zs8, zs9, zt1, zt2, isC, TK.agg, rv, rv1, ldV, zt3, zt4, zn1, zn2, zn3, zn4, zn5, zn6, zn7, reduceIte, reduceCtorEq, eq_self])); (repeat (first | refine x_seq rfl ?_ | refine go_ops ?_ | refine go_blk ?_ | refine x_skip rfl ?_ | refine x_blk rfl rfl ?_ | refine x_exit rfl rfl rfl ?_ | refine x_ift rfl rfl rfl ?_ | refine x_iff rfl rfl rfl ?_ | refine x_label rfl ?_ | ((first | refine x_reg rfl rfl ?_ | (refine go_newx hty hnt hmh rfl rfl ?_; intro _)); refine runo0 400 hty hnt hmh ?_; simp only [so, sq, zy, zz, tyE, zs1, zs2, zs3, zs4, zs5, ev, zs6, dOk, cv, zu1, zu2, zu3, eqB, Value.oneCell', zs7, zs8, zs9, zt1, zt2, isC, TK.agg, rv, rv1, ldV, zt3, zt4, zn1, zn2, zn3, zn4, zn5, zn6, zn7, reduceIte, reduceCtorEq, eq_self])))
      refine h_hs (allIn (by repeat (first | exact trivial | refine ⟨rfl, ?_⟩))) (by first | exact Le.refl _ | assumption) ?_
      refine h_take 12 rfl (by kernel_rfl) (by kernel_rfl) (by kernel_rfl) hQp (by rw [hnt]; rfl) (allIn (by repeat (first | exact trivial | refine ⟨rfl, ?_⟩))) (by first | exact Le.refl _ | assumption) (quiet_op (by rw [hty]; first | rfl | (simp only [so, sq, zy, zz, tyE, zs1, zs2, zs3, zs4, zs5, ev, zs6, dOk, cv, zu1, zu2, zu3, eqB, Value.oneCell', zs7, zs8, zs9, zt1, zt2, isC, TK.agg, rv, rv1, ldV, zt3, zt4, zn1, zn2, zn3, zn4, zn5, zn6, zn7, reduceIte, reduceCtorEq, eq_self]; rfl))) ?_; simp only [so, sq, zy, zz, tyE, zs1, zs2, zs3, zs4, zs5, ev, zs6, dOk, cv, zu1, zu2, zu3, eqB, Value.oneCell', zs7, zs8, zs9, zt1, zt2, isC, TK.agg, rv, rv1, ldV, zt3, zt4, zn1, zn2, zn3, zn4, zn5, zn6, zn7, reduceIte, reduceCtorEq, eq_self]
      refine h_one 13 rfl (by kernel_rfl) ?_
      (try (refine runo0 400 hty hnt hmh ?_; simp only [so, sq, zy, zz, tyE, zs1, zs2, zs3, zs4, zs5, ev, zs6, dOk, cv, zu1, zu2, zu3, eqB, Value.oneCell', zs7, zs8, zs9, zt1, zt2, isC, TK.agg, rv, rv1, ldV, zt3, zt4, zn1, zn2, zn3, zn4, zn5, zn6, zn7, reduceIte, reduceCtorEq, eq_self])); (repeat (first | refine x_seq rfl ?_ | refine go_ops ?_ | refine go_blk ?_ | refine x_skip rfl ?_ | refine x_blk rfl rfl ?_ | refine x_exit rfl rfl rfl ?_ | refine x_ift rfl rfl rfl ?_ | refine x_iff rfl rfl rfl ?_ | refine x_label rfl ?_ | ((first | refine x_reg rfl rfl ?_ | (refine go_newx hty hnt hmh rfl rfl ?_; intro _)); refine runo0 400 hty hnt hmh ?_; simp only [so, sq, zy, zz, tyE, zs1, zs2, zs3, zs4, zs5, ev, zs6, dOk, cv, zu1, zu2, zu3, eqB, Value.oneCell', zs7, zs8, zs9, zt1, zt2, isC, TK.agg, rv, rv1, ldV, zt3, zt4, zn1, zn2, zn3, zn4, zn5, zn6, zn7, reduceIte, reduceCtorEq, eq_self])))
      refine h_hs (allIn (by repeat (first | exact trivial | refine ⟨rfl, ?_⟩))) (by first | exact Le.refl _ | assumption) ?_
      refine h_end (by kernel_rfl) ?_
      (try (refine runo0 400 hty hnt hmh ?_; simp only [so, sq, zy, zz, tyE, zs1, zs2, zs3, zs4, zs5, ev, zs6, dOk, cv, zu1, zu2, zu3, eqB, Value.oneCell', zs7, zs8, zs9, zt1, zt2, isC, TK.agg, rv, rv1, ldV, zt3, zt4, zn1, zn2, zn3, zn4, zn5, zn6, zn7, reduceIte, reduceCtorEq, eq_self])); (repeat (first | refine x_seq rfl ?_ | refine go_ops ?_ | refine go_blk ?_ | refine x_skip rfl ?_ | refine x_blk rfl rfl ?_ | refine x_exit rfl rfl rfl ?_ | refine x_ift rfl rfl rfl ?_ | refine x_iff rfl rfl rfl ?_ | refine x_label rfl ?_ | ((first | refine x_reg rfl rfl ?_ | (refine go_newx hty hnt hmh rfl rfl ?_; intro _)); refine runo0 400 hty hnt hmh ?_; simp only [so, sq, zy, zz, tyE, zs1, zs2, zs3, zs4, zs5, ev, zs6, dOk, cv, zu1, zu2, zu3, eqB, Value.oneCell', zs7, zs8, zs9, zt1, zt2, isC, TK.agg, rv, rv1, ldV, zt3, zt4, zn1, zn2, zn3, zn4, zn5, zn6, zn7, reduceIte, reduceCtorEq, eq_self])))
      rw [wr (n := (k : Int) + 1) (by omega) (by omega)]
      refine go_zadd 40 50 rfl rfl (by omega) (by omega) (by omega) ?_
      intro Z2
      refine go_keep [1, 2, 3, 10, 11, 12] [0, 1, 2, 40, 41] ?_
      simp only [so, sq, zy, zz, tyE, zs1, zs2, zs3, zs4, zs5, ev, zs6, dOk, cv, zu1, zu2, zu3, eqB, Value.oneCell', zs7, zs8, zs9, zt1, zt2, isC, TK.agg, rv, rv1, ldV, zt3, zt4, zn1, zn2, zn3, zn4, zn5, zn6, zn7, reduceIte, reduceCtorEq, eq_self]
      refine ih (f.nodes.length - (k + 1)) _ (by omega) ⟨k + 1, G2, ss ++ [.slice adc f.nodes[k].l.length capc], ad4, cap4, Z2, by omega, rfl, hle1.trans hle2, by simp [hss], ?_⟩
      rw [htk, rowsL_snoc _ _ (by simp; omega), encN_snoc _ _ (by simp; omega)]
      simp [dens, SV.den]
    · refine go_callr 50 (by rw [hnt]; rfl) (by rw [hP]; kernel_rfl) rfl rfl (by omega) (hP ▸ clone_ok f.nodes[k].l _ G1 ⟨h63', adl, capl, rfl, Rp.src_mono hle1 hsrc⟩ hl40) ?_
      rintro v G2 r e size n xs (hle2 : Le G1 G2) ⟨rfl, rfl, rfl, rfl, rfl⟩
      refine go_rowS 50 rfl ?_
      rintro adc capc rfl
      (try (refine runo0 400 hty hnt hmh ?_; simp only [so, sq, zy, zz, tyE, zs1, zs2, zs3, zs4, zs5, ev, zs6, dOk, cv, zu1, zu2, zu3, eqB, Value.oneCell', zs7, zs8, zs9, zt1, zt2, isC, TK.agg, rv, rv1, ldV, zt3, zt4, zn1, zn2, zn3, zn4, zn5, zn6, zn7, reduceIte, reduceCtorEq, eq_self])); (repeat (first | refine x_seq rfl ?_ | refine go_ops ?_ | refine go_blk ?_ | refine x_skip rfl ?_ | refine x_blk rfl rfl ?_ | refine x_exit rfl rfl rfl ?_ | refine x_ift rfl rfl rfl ?_ | refine x_iff rfl rfl rfl ?_ | refine x_label rfl ?_ | ((first | refine x_reg rfl rfl ?_ | (refine go_newx hty hnt hmh rfl rfl ?_; intro _)); refine runo0 400 hty hnt hmh ?_; simp only [so, sq, zy, zz, tyE, zs1, zs2, zs3, zs4, zs5, ev, zs6, dOk, cv, zu1, zu2, zu3, eqB, Value.oneCell', zs7, zs8, zs9, zt1, zt2, isC, TK.agg, rv, rv1, ldV, zt3, zt4, zn1, zn2, zn3, zn4, zn5, zn6, zn7, reduceIte, reduceCtorEq, eq_self])))
      refine h_hs (allIn (by repeat (first | exact trivial | refine ⟨rfl, ?_⟩))) (by first | exact Le.refl _ | assumption) ?_
      refine h_take 9 rfl (by kernel_rfl) (by kernel_rfl) (by kernel_rfl) hQp (by rw [hnt]; rfl) (allIn (by repeat (first | exact trivial | refine ⟨rfl, ?_⟩))) (by first | exact Le.refl _ | assumption) (quiet_op (by rw [hty]; first | rfl | (simp only [so, sq, zy, zz, tyE, zs1, zs2, zs3, zs4, zs5, ev, zs6, dOk, cv, zu1, zu2, zu3, eqB, Value.oneCell', zs7, zs8, zs9, zt1, zt2, isC, TK.agg, rv, rv1, ldV, zt3, zt4, zn1, zn2, zn3, zn4, zn5, zn6, zn7, reduceIte, reduceCtorEq, eq_self]; rfl))) ?_; simp only [so, sq, zy, zz, tyE, zs1, zs2, zs3, zs4, zs5, ev, zs6, dOk, cv, zu1, zu2, zu3, eqB, Value.oneCell', zs7, zs8, zs9, zt1, zt2, isC, TK.agg, rv, rv1, ldV, zt3, zt4, zn1, zn2, zn3, zn4, zn5, zn6, zn7, reduceIte, reduceCtorEq, eq_self]
      refine h_two 1 10 rfl rfl (by kernel_rfl) ?_ ?_
      · (try (refine runo0 400 hty hnt hmh ?_; simp only [so, sq, zy, zz, tyE, zs1, zs2, zs3, zs4, zs5, ev, zs6, dOk, cv, zu1, zu2, zu3, eqB, Value.oneCell', zs7, zs8, zs9, zt1, zt2, isC, TK.agg, rv, rv1, ldV, zt3, zt4, zn1, zn2, zn3, zn4, zn5, zn6, zn7, reduceIte, reduceCtorEq, eq_self])); (repeat (first | refine x_seq rfl ?_ | refine go_ops ?_ | refine go_blk ?_ | refine x_skip rfl ?_ | refine x_blk rfl rfl ?_ | refine x_exit rfl rfl rfl ?_ | refine x_ift rfl rfl rfl ?_ | refine x_iff rfl rfl rfl ?_ | refine x_label rfl ?_ | ((first | refine x_reg rfl rfl ?_ | (refine go_newx hty hnt hmh rfl rfl ?_; intro _)); refine runo0 400 hty hnt hmh ?_; simp only [so, sq, zy, zz, tyE, zs1, zs2, zs3, zs4, zs5, ev, zs6, dOk, cv, zu1, zu2, zu3, eqB, Value.oneCell', zs7, zs8, zs9, zt1, zt2, isC, TK.agg, rv, rv1, ldV, zt3, zt4, zn1, zn2, zn3, zn4, zn5, zn6, zn7, reduceIte, reduceCtorEq, eq_self])))
        refine h_hs (allIn (by repeat (first | exact trivial | refine ⟨rfl, ?_⟩))) (by first | exact Le.refl _ | assumption) ?_
        refine h_one 10 rfl (by kernel_rfl) ?_
        (try (refine runo0 400 hty hnt hmh ?_; simp only [so, sq, zy, zz, tyE, zs1, zs2, zs3, zs4, zs5, ev, zs6, dOk, cv, zu1, zu2, zu3, eqB, Value.oneCell', zs7, zs8, zs9, zt1, zt2, isC, TK.agg, rv, rv1, ldV, zt3, zt4, zn1, zn2, zn3, zn4, zn5, zn6, zn7, reduceIte, reduceCtorEq, eq_self])); (repeat (first | refine x_seq rfl ?_ | refine go_ops ?_ | refine go_blk ?_ | refine x_skip rfl ?_ | refine x_blk rfl rfl ?_ | refine x_exit rfl rfl rfl ?_ | refine x_ift rfl rfl rfl ?_ | refine x_iff rfl rfl rfl ?_ | refine x_label rfl ?_ | ((first | refine x_reg rfl rfl ?_ | (refine go_newx hty hnt hmh rfl rfl ?_; intro _)); refine runo0 400 hty hnt hmh ?_; simp only [so, sq, zy, zz, tyE, zs1, zs2, zs3, zs4, zs5, ev, zs6, dOk, cv, zu1, zu2, zu3, eqB, Value.oneCell', zs7, zs8, zs9, zt1, zt2, isC, TK.agg, rv, rv1, ldV, zt3, zt4, zn1, zn2, zn3, zn4, zn5, zn6, zn7, reduceIte, reduceCtorEq, eq_self])))
        refine h_hs (allIn (by repeat (first | exact trivial | refine ⟨rfl, ?_⟩))) (by first | exact Le.refl _ | assumption) ?_
        refine h_one 11 rfl (by kernel_rfl) ?_
        refine go_append 41 (by rw [hnt]; rfl) (by rw [hty]; rfl) (by rw [hty]; rfl) (by decide) rfl rfl rfl (by omega) rfl (src_own 3 rfl rfl) rfl (by simp [dens, SV.den, Value.oneCell']) (by omega) (by simp only []; omega) ?_
        intro v'
        refine go_rowS 41 rfl ?_
        rintro ad4 cap4 rfl
        (try (refine runo0 400 hty hnt hmh ?_; simp only [so, sq, zy, zz, tyE, zs1, zs2, zs3, zs4, zs5, ev, zs6, dOk, cv, zu1, zu2, zu3, eqB, Value.oneCell', zs7, zs8, zs9, zt1, zt2, isC, TK.agg, rv, rv1, ldV, zt3, zt4, zn1, zn2, zn3, zn4, zn5, zn6, zn7, reduceIte, reduceCtorEq, eq_self])); (repeat (first | refine x_seq rfl ?_ | refine go_ops ?_ | refine go_blk ?_ | refine x_skip rfl ?_ | refine x_blk rfl rfl ?_ | refine x_exit rfl rfl rfl ?_ | refine x_ift rfl rfl rfl ?_ | refine x_iff rfl rfl rfl ?_ | refine x_label rfl ?_ | ((first | refine x_reg rfl rfl ?_ | (refine go_newx hty hnt hmh rfl rfl ?_; intro _)); refine runo0 400 hty hnt hmh ?_; simp only [so, sq, zy, zz, tyE, zs1, zs2, zs3, zs4, zs5, ev, zs6, dOk, cv, zu1, zu2, zu3, eqB, Value.oneCell', zs7, zs8, zs9, zt1, zt2, isC, TK.agg, rv, rv1, ldV, zt3, zt4, zn1, zn2, zn3, zn4, zn5, zn6, zn7, reduceIte, reduceCtorEq, eq_self])))
        refine h_hs (allIn (by repeat (first | exact trivial | refine ⟨rfl, ?_⟩))) (by first | exact Le.refl _ | assumption) ?_
        refine h_take 12 rfl (by kernel_rfl) (by kernel_rfl) (by kernel_rfl) hQp (by rw [hnt]; rfl) (allIn (by repeat (first | exact trivial | refine ⟨rfl, ?_⟩))) (by first | exact Le.refl _ | assumption) (quiet_op (by rw [hty]; first | rfl | (simp only [so, sq, zy, zz, tyE, zs1, zs2, zs3, zs4, zs5, ev, zs6, dOk, cv, zu1, zu2, zu3, eqB, Value.oneCell', zs7, zs8, zs9, zt1, zt2, isC, TK.agg, rv, rv1, ldV, zt3, zt4, zn1, zn2, zn3, zn4, zn5, zn6, zn7, reduceIte, reduceCtorEq, eq_self]; rfl))) ?_; simp only [so, sq, zy, zz, tyE, zs1, zs2, zs3, zs4, zs5, ev, zs6, dOk, cv, zu1, zu2, zu3, eqB, Value.oneCell', zs7, zs8, zs9, zt1, zt2, isC, TK.agg, rv, rv1, ldV, zt3, zt4, zn1, zn2, zn3, zn4, zn5, zn6, zn7, reduceIte, reduceCtorEq, eq_self]
        refine h_one 13 rfl (by kernel_rfl) ?_
        (try (refine runo0 400 hty hnt hmh ?_; simp only [so, sq, zy, zz, tyE, zs1, zs2, zs3, zs4, zs5, ev, zs6, dOk, cv, zu1, zu2, zu3, eqB, Value.oneCell', zs7, zs8, zs9, zt1, zt2, isC, TK.agg, rv, rv1, ldV, zt3, zt4, zn1, zn2, zn3, zn4, zn5, zn6, zn7, reduceIte, reduceCtorEq, eq_self])); (repeat (first | refine x_seq rfl ?_ | refine go_ops ?_ | refine go_blk ?_ | refine x_skip rfl ?_ | refine x_blk rfl rfl ?_ | refine x_exit rfl rfl rfl ?_ | refine x_ift rfl rfl rfl ?_ | refine x_iff rfl rfl rfl ?_ | refine x_label rfl ?_ | ((first | refine x_reg rfl rfl ?_ | (refine go_newx hty hnt hmh rfl rfl ?_; intro _)); refine runo0 400 hty hnt hmh ?_; simp only [so, sq, zy, zz, tyE, zs1, zs2, zs3, zs4, zs5, ev, zs6, dOk, cv, zu1, zu2, zu3, eqB, Value.oneCell', zs7, zs8, zs9, zt1, zt2, isC, TK.agg, rv, rv1, ldV, zt3, zt4, zn1, zn2, zn3, zn4, zn5, zn6, zn7, reduceIte, reduceCtorEq, eq_self])))
        refine h_hs (allIn (by repeat (first | exact trivial | refine ⟨rfl, ?_⟩))) (by first | exact Le.refl _ | assumption) ?_
        refine h_end (by kernel_rfl) ?_
        (try (refine runo0 400 hty hnt hmh ?_; simp only [so, sq, zy, zz, tyE, zs1, zs2, zs3, zs4, zs5, ev, zs6, dOk, cv, zu1, zu2, zu3, eqB, Value.oneCell', zs7, zs8, zs9, zt1, zt2, isC, TK.agg, rv, rv1, ldV, zt3, zt4, zn1, zn2, zn3, zn4, zn5, zn6, zn7, reduceIte, reduceCtorEq, eq_self])); (repeat (first | refine x_seq rfl ?_ | refine go_ops ?_ | refine go_blk ?_ | refine x_skip rfl ?_ | refine x_blk rfl rfl ?_ | refine x_exit rfl rfl rfl ?_ | refine x_ift rfl rfl rfl ?_ | refine x_iff rfl rfl rfl ?_ | refine x_label rfl ?_ | ((first | refine x_reg rfl rfl ?_ | (refine go_newx hty hnt hmh rfl rfl ?_; intro _)); refine runo0 400 hty hnt hmh ?_; simp only [so, sq, zy, zz, tyE, zs1, zs2, zs3, zs4, zs5, ev, zs6, dOk, cv, zu1, zu2, zu3, eqB, Value.oneCell', zs7, zs8, zs9, zt1, zt2, isC, TK.agg, rv, rv1, ldV, zt3, zt4, zn1, zn2, zn3, zn4, zn5, zn6, zn7, reduceIte, reduceCtorEq, eq_self])))
        rw [wr (n := (k : Int) + 1) (by omega) (by omega)]
        refine go_zadd 40 50 rfl rfl (by omega) (by omega) (by omega) ?_
        intro Z2
        refine go_keep [1, 2, 3, 10, 11, 12] [0, 1, 2, 40, 41] ?_
        simp only [so, sq, zy, zz, tyE, zs1, zs2, zs3, zs4, zs5, ev, zs6, dOk, cv, zu1, zu2, zu3, eqB, Value.oneCell', zs7, zs8, zs9, zt1, zt2, isC, TK.agg, rv, rv1, ldV, zt3, zt4, zn1, zn2, zn3, zn4, zn5, zn6, zn7, reduceIte, reduceCtorEq, eq_self]
        refine ih (f.nodes.length - (k + 1)) _ (by omega) ⟨k + 1, G2, ss ++ [.slice adc f.nodes[k].l.length capc], ad4, cap4, Z2, by omega, rfl, hle1.trans hle2, by simp [hss], ?_⟩
        rw [htk, rowsL_snoc _ _ (by simp; omega), encN_snoc _ _ (by simp; omega)]
        simp [dens, SV.den]
      · (try (refine runo0 400 hty hnt hmh ?_; simp only [so, sq, zy, zz, tyE, zs1, zs2, zs3, zs4, zs5, ev, zs6, dOk, cv, zu1, zu2, zu3, eqB, Value.oneCell', zs7, zs8, zs9, zt1, zt2, isC, TK.agg, rv, rv1, ldV, zt3, zt4, zn1, zn2, zn3, zn4, zn5, zn6, zn7, reduceIte, reduceCtorEq, eq_self])); (repeat (first | refine x_seq rfl ?_ | refine go_ops ?_ | refine go_blk ?_ | refine x_skip rfl ?_ | refine x_blk rfl rfl ?_ | refine x_exit rfl rfl rfl ?_ | refine x_ift rfl rfl rfl ?_ | refine x_iff rfl rfl rfl ?_ | refine x_label rfl ?_ | ((first | refine x_reg rfl rfl ?_ | (refine go_newx hty hnt hmh rfl rfl ?_; intro _)); refine runo0 400 hty hnt hmh ?_; simp only [so, sq, zy, zz, tyE, zs1, zs2, zs3, zs4, zs5, ev, zs6, dOk, cv, zu1, zu2, zu3, eqB, Value.oneCell', zs7, zs8, zs9, zt1, zt2, isC, TK.agg, rv, rv1, ldV, zt3, zt4, zn1, zn2, zn3, zn4, zn5, zn6, zn7, reduceIte, reduceCtorEq, eq_self])))
        refine h_hs (allIn (by repeat (first | exact trivial | refine ⟨rfl, ?_⟩))) (by first | exact Le.refl _ | assumption) ?_
        refine h_one 1 rfl (by kernel_rfl) ?_
        (try (refine runo0 400 hty hnt hmh ?_; simp only [so, sq, zy, zz, tyE, zs1, zs2, zs3, zs4, zs5, ev, zs6, dOk, cv, zu1, zu2, zu3, eqB, Value.oneCell', zs7, zs8, zs9, zt1, zt2, isC, TK.agg, rv, rv1, ldV, zt3, zt4, zn1, zn2, zn3, zn4, zn5, zn6, zn7, reduceIte, reduceCtorEq, eq_self])); (repeat (first | refine x_seq rfl ?_ | refine go_ops ?_ | refine go_blk ?_ | refine x_skip rfl ?_ | refine x_blk rfl rfl ?_ | refine x_exit rfl rfl rfl ?_ | refine x_ift rfl rfl rfl ?_ | refine x_iff rfl rfl rfl ?_ | refine x_label rfl ?_ | ((first | refine x_reg rfl rfl ?_ | (refine go_newx hty hnt hmh rfl rfl ?_; intro _)); refine runo0 400 hty hnt hmh ?_; simp only [so, sq, zy, zz, tyE, zs1, zs2, zs3, zs4, zs5, ev, zs6, dOk, cv, zu1, zu2, zu3, eqB, Value.oneCell', zs7, zs8, zs9, zt1, zt2, isC, TK.agg, rv, rv1, ldV, zt3, zt4, zn1, zn2, zn3, zn4, zn5, zn6, zn7, reduceIte, reduceCtorEq, eq_self])))
        refine h_hs (allIn (by repeat (first | exact trivial | refine ⟨rfl, ?_⟩))) (by first | exact Le.refl _ | assumption) ?_
        refine h_one 11 rfl (by kernel_rfl) ?_
        refine go_append 41 (by rw [hnt]; rfl) (by rw [hty]; rfl) (by rw [hty]; rfl) (by decide) rfl rfl rfl (by omega) rfl (src_own 3 rfl rfl) rfl (by simp [dens, SV.den, Value.oneCell']) (by omega) (by simp only []; omega) ?_
        intro v'
        refine go_rowS 41 rfl ?_
        rintro ad4 cap4 rfl
        (try (refine runo0 400 hty hnt hmh ?_; simp only [so, sq, zy, zz, tyE, zs1, zs2, zs3, zs4, zs5, ev, zs6, dOk, cv, zu1, zu2, zu3, eqB, Value.oneCell', zs7, zs8, zs9, zt1, zt2, isC, TK.agg, rv, rv1, ldV, zt3, zt4, zn1, zn2, zn3, zn4, zn5, zn6, zn7, reduceIte, reduceCtorEq, eq_self])); (repeat (first | refine x_seq rfl ?_ | refine go_ops ?_ | refine go_blk ?_ | refine x_skip rfl ?_ | refine x_blk rfl rfl ?_ | refine x_exit rfl rfl rfl ?_ | refine x_ift rfl rfl rfl ?_ | refine x_iff rfl rfl rfl ?_ | refine x_label rfl ?_ | ((first | refine x_reg rfl rfl ?_ | (refine go_newx hty hnt hmh rfl rfl ?_; intro _)); refine runo0 400 hty hnt hmh ?_; simp only [so, sq, zy, zz, tyE, zs1, zs2, zs3, zs4, zs5, ev, zs6, dOk, cv, zu1, zu2, zu3, eqB, Value.oneCell', zs7, zs8, zs9, zt1, zt2, isC, TK.agg, rv, rv1, ldV, zt3, zt4, zn1, zn2, zn3, zn4, zn5, zn6, zn7, reduceIte, reduceCtorEq, eq_self])))
        refine h_hs (allIn (by repeat (first | exact trivial | refine ⟨rfl, ?_⟩))) (by first | exact Le.refl _ | assumption) ?_
        refine h_take 12 rfl (by kernel_rfl) (by kernel_rfl) (by kernel_rfl) hQp (by rw [hnt]; rfl) (allIn (by repeat (first | exact trivial | refine ⟨rfl, ?_⟩))) (by first | exact Le.refl _ | assumption) (quiet_op (by rw [hty]; first | rfl | (simp only [so, sq, zy, zz, tyE, zs1, zs2, zs3, zs4, zs5, ev, zs6, dOk, cv, zu1, zu2, zu3, eqB, Value.oneCell', zs7, zs8, zs9, zt1, zt2, isC, TK.agg, rv, rv1, ldV, zt3, zt4, zn1, zn2, zn3, zn4, zn5, zn6, zn7, reduceIte, reduceCtorEq, eq_self]; rfl))) ?_; simp only [so, sq, zy, zz, tyE, zs1, zs2, zs3, zs4, zs5, ev, zs6, dOk, cv, zu1, zu2, zu3, eqB, Value.oneCell', zs7, zs8, zs9, zt1, zt2, isC, TK.agg, rv, rv1, ldV, zt3, zt4, zn1, zn2, zn3, zn4, zn5, zn6, zn7, reduceIte, reduceCtorEq, eq_self]
        refine h_one 13 rfl (by kernel_rfl) ?_
        (try (refine runo0 400 hty hnt hmh ?_; simp only [so, sq, zy, zz, tyE, zs1, zs2, zs3, zs4, zs5, ev, zs6, dOk, cv, zu1, zu2, zu3, eqB, Value.oneCell', zs7, zs8, zs9, zt1, zt2, isC, TK.agg, rv, rv1, ldV, zt3, zt4, zn1, zn2, zn3, zn4, zn5, zn6, zn7, reduceIte, reduceCtorEq, eq_self])); (repeat (first | refine x_seq rfl ?_ | refine go_ops ?_ | refine go_blk ?_ | refine x_skip rfl ?_ | refine x_blk rfl rfl ?_ | refine x_exit rfl rfl rfl ?_ | refine x_ift rfl rfl rfl ?_ | refine x_iff rfl rfl rfl ?_ | refine x_label rfl ?_ | ((first | refine x_reg rfl rfl ?_ | (refine go_newx hty hnt hmh rfl rfl ?_; intro _)); refine runo0 400 hty hnt hmh ?_; simp only [so, sq, zy, zz, tyE, zs1, zs2, zs3, zs4, zs5, ev, zs6, dOk, cv, zu1, zu2, zu3, eqB, Value.oneCell', zs7, zs8, zs9, zt1, zt2, isC, TK.agg, rv, rv1, ldV, zt3, zt4, zn1, zn2, zn3, zn4, zn5, zn6, zn7, reduceIte, reduceCtorEq, eq_self])))
        refine h_hs (allIn (by repeat (first | exact trivial | refine ⟨rfl, ?_⟩))) (by first | exact Le.refl _ | assumption) ?_
        refine h_end (by kernel_rfl) ?_
        (try (refine runo0 400 hty hnt hmh ?_; simp only [so, sq, zy, zz, tyE, zs1, zs2, zs3, zs4, zs5, ev, zs6, dOk, cv, zu1, zu2, zu3, eqB, Value.oneCell', zs7, zs8, zs9, zt1, zt2, isC, TK.agg, rv, rv1, ldV, zt3, zt4, zn1, zn2, zn3, zn4, zn5, zn6, zn7, reduceIte, reduceCtorEq, eq_self])); (repeat (first | refine x_seq rfl ?_ | refine go_ops ?_ | refine go_blk ?_ | refine x_skip rfl ?_ | refine x_blk rfl rfl ?_ | refine x_exit rfl rfl rfl ?_ | refine x_ift rfl rfl rfl ?_ | refine x_iff rfl rfl rfl ?_ | refine x_label rfl ?_ | ((first | refine x_reg rfl rfl ?_ | (refine go_newx hty hnt hmh rfl rfl ?_; intro _)); refine runo0 400 hty hnt hmh ?_; simp only [so, sq, zy, zz, tyE, zs1, zs2, zs3, zs4, zs5, ev, zs6, dOk, cv, zu1, zu2, zu3, eqB, Value.oneCell', zs7, zs8, zs9, zt1, zt2, isC, TK.agg, rv, rv1, ldV, zt3, zt4, zn1, zn2, zn3, zn4, zn5, zn6, zn7, reduceIte, reduceCtorEq, eq_self])))
        rw [wr (n := (k : Int) + 1) (by omega) (by omega)]
        refine go_zadd 40 50 rfl rfl (by omega) (by omega) (by omega) ?_
        intro Z2
        refine go_keep [1, 2, 3, 10, 11, 12] [0, 1, 2, 40, 41] ?_
        simp only [so, sq, zy, zz, tyE, zs1, zs2, zs3, zs4, zs5, ev, zs6, dOk, cv, zu1, zu2, zu3, eqB, Value.oneCell', zs7, zs8, zs9, zt1, zt2, isC, TK.agg, rv, rv1, ldV, zt3, zt4, zn1, zn2, zn3, zn4, zn5, zn6, zn7, reduceIte, reduceCtorEq, eq_self]
        refine ih (f.nodes.length - (k + 1)) _ (by omega) ⟨k + 1, G2, ss ++ [.slice adc f.nodes[k].l.length capc], ad4, cap4, Z2, by omega, rfl, hle1.trans hle2, by simp [hss], ?_⟩
        rw [htk, rowsL_snoc _ _ (by simp; omega), encN_snoc _ _ (by simp; omega)]
        simp [dens, SV.den]
  · have hge : k = f.nodes.length := by simp at hjl; omega
    subst hge
    clear ih
    rw [List.take_length]
    refine go_zadd 40 41 rfl rfl (by omega) (by omega) (by omega) ?_
    intro Z2
    simp only [so, sq, zy, zz, tyE, zs1, zs2, zs3, zs4, zs5, ev, zs6, dOk, cv, zu1, zu2, zu3, eqB, Value.oneCell', zs7, zs8, zs9, zt1, zt2, isC, TK.agg, rv, rv1, ldV, zt3, zt4, zn1, zn2, zn3, zn4, zn5, zn6, zn7, reduceIte, reduceCtorEq, eq_self]
    (try (refine runo0 400 hty hnt hmh ?_; simp only [so, sq, zy, zz, tyE, zs1, zs2, zs3, zs4, zs5, ev, zs6, dOk, cv, zu1, zu2, zu3, eqB, Value.oneCell', zs7, zs8, zs9, zt1, zt2, isC, TK.agg, rv, rv1, ldV, zt3, zt4, zn1, zn2, zn3, zn4, zn5, zn6, zn7, reduceIte, reduceCtorEq, eq_self])); (repeat (first | refine x_seq rfl ?_ | refine go_ops ?_ | refine go_blk ?_ | refine x_skip rfl ?_ | refine x_blk rfl rfl ?_ | refine x_exit rfl rfl rfl ?_ | refine x_ift rfl rfl rfl ?_ | refine x_iff rfl rfl rfl ?_ | refine x_label rfl ?_ | ((first | refine x_reg rfl rfl ?_ | (refine go_newx hty hnt hmh rfl rfl ?_; intro _)); refine runo0 400 hty hnt hmh ?_; simp only [so, sq, zy, zz, tyE, zs1, zs2, zs3, zs4, zs5, ev, zs6, dOk, cv, zu1, zu2, zu3, eqB, Value.oneCell', zs7, zs8, zs9, zt1, zt2, isC, TK.agg, rv, rv1, ldV, zt3, zt4, zn1, zn2, zn3, zn4, zn5, zn6, zn7, reduceIte, reduceCtorEq, eq_self])))
    refine x_retV 40 rfl hQ hmb hmh rfl (by rw [hty]; simp only [so, sq, zy, zz, tyE, zs1, zs2, zs3, zs4, zs5, ev, zs6, dOk, cv, zu1, zu2, zu3, eqB, Value.oneCell', zs7, zs8, zs9, zt1, zt2, isC, TK.agg, rv, rv1, ldV, zt3, zt4, zn1, zn2, zn3, zn4, zn5, zn6, zn7, reduceIte, reduceCtorEq, eq_self]; try rfl) rfl rfl ?_
    exact ⟨ad3, cap3, ss, hss, by simp [resV, SV.den, dens], rfl⟩
end Go.Proofs.Ytmdkenpodcnnbaa
namespace Go.Proofs.Ytmdkenpodcnnbaa
set_option linter.unusedSimpArgs false
set_option linter.unusedVariables false
open Go.Sx
theorem rN_cons {G : Hp} {op n : Int} {l : List Int} {sl : Value} {nodes : List Nd} {cs : List Value} (h1 : isI64 op) (h2 : isI64 n) (h3 : rI.S G l sl) (h : rN.L G nodes cs) : rN.L G (⟨op, n, l⟩ :: nodes) (.int .i64 op :: .int .i64 n :: sl :: cs) :=
  ⟨[_, _, _], cs, rfl, ⟨sl, rfl, h1, h2, h3⟩, h⟩
/-- Numbers of 64 bits. -/
def okN (l : List Nd) : Prop := ∀ x ∈ l, isI64 x.op ∧ isI64 x.n ∧ ∀ v ∈ x.l, isI64 v
theorem rI_ok {G : Hp} {l : List Int} {v : Value} (h : rI.S G l v) : ∀ n ∈ l, isI64 n := by
  obtain ⟨_, ad, cap, _, h | ⟨b, off, cs, _, _, hL⟩⟩ := h
  · subst h; simp
  · exact (rI_L.1 hL).2
theorem rNL_ok {G : Hp} : ∀ {l : List Nd} {cs : List Value}, rN.L G l cs → okN l
  | [], _, _ => fun x hx => by simp at hx
  | y :: l, cs, h => by
    obtain ⟨c, d, _, ⟨sl, _, h1, h2, h3⟩, h4⟩ := h
    intro x hx
    rcases List.mem_cons.1 hx with rfl | hx
    · exact ⟨h1, h2, rI_ok h3⟩
    · exact rNL_ok h4 x hx
theorem rN_ok {G : Hp} {l : List Nd} {v : Value} (h : rN.S G l v) : okN l := by
  obtain ⟨_, ad, cap, _, h | ⟨b, off, cs, _, _, hL⟩⟩ := h
  · subst h; exact fun x hx => by simp at hx
  · exact rNL_ok hL
theorem rowsL_len : ∀ {l : List Nd} {ss : List Value}, ss.length = l.length → (rowsL l ss).length = l.length
  | [], [], _ => rfl
  | x :: l, s :: ss, h => by simp [rowsL, rowsL_len (l := l) (ss := ss) (by simpa using h)]
theorem rowsL_get : ∀ {l : List Nd} {ss : List Value} {i : Nat} (h : ss.length = l.length) (hi : i < l.length), (rowsL l ss)[i]? = some ⟨3, 1, ss[i]'(by omega), l[i].l.length, l[i].l.map (.int .i64 ·)⟩
  | x :: l, s :: ss, 0, _, _ => by simp [rowsL]
  | x :: l, s :: ss, i + 1, h, hi => by simp [rowsL, rowsL_get (l := l) (ss := ss) (i := i) (by simpa using h) (by simpa using hi)]
theorem rowsL_set : ∀ {l : List Nd} {ss : List Value} {i : Nat} {x : Nd} (h : ss.length = l.length) (hi : i < l.length), (rowsL l ss).set i ⟨3, 1, ss[i]'(by omega), x.l.length, x.l.map (.int .i64 ·)⟩ = rowsL (l.set i x) ss
  | y :: l, s :: ss, 0, x, _, _ => by simp [rowsL]
  | y :: l, s :: ss, i + 1, x, h, hi => by simp [rowsL, rowsL_set (l := l) (ss := ss) (i := i) (x := x) (by simpa using h) (by simpa using hi)]
theorem encN_len : ∀ {l : List Nd} {ss : List Value}, ss.length = l.length → (encN l ss).length = l.length * 3
  | [], [], _ => rfl
  | x :: l, s :: ss, h => by simp only [encN, List.length_cons, encN_len (l := l) (ss := ss) (by simpa using h)]; omega
theorem encN_drop : ∀ {l : List Nd} {ss : List Value} (i : Nat), ss.length = l.length → (encN l ss).drop (i * 3) = encN (l.drop i) (ss.drop i)
  | l, ss, 0, _ => by simp
  | [], [], i + 1, _ => by simp [encN]
  | x :: l, s :: ss, i + 1, h => by
    rw [show (i + 1) * 3 = i * 3 + 1 + 1 + 1 by omega]
    simp [encN, encN_drop (l := l) (ss := ss) i (by simpa using h)]
theorem encN_at {l : List Nd} {ss : List Value} {i : Nat} (h : ss.length = l.length) (hi : i < l.length) : (encN l ss).drop (i * 3) = .int .i64 l[i].op :: .int .i64 l[i].n :: ss[i]'(by omega) :: encN (l.drop (i + 1)) (ss.drop (i + 1)) := by
  rw [encN_drop i h, List.drop_eq_getElem_cons hi, List.drop_eq_getElem_cons (l := ss) (show i < ss.length by omega)]
  rfl
theorem ldN1 {l : List Nd} {ss : List Value} {i off : Nat} (h : ss.length = l.length) (hi : i < l.length) (ho : off = i * 3 + 1) : ldV false (((encN l ss).drop off).take 1) = .int .i64 l[i].n := by
  subst ho
  rw [← List.drop_drop, encN_at h hi]; rfl
theorem ldN2 {l : List Nd} {ss : List Value} {i off : Nat} (h : ss.length = l.length) (hi : i < l.length) (ho : off = i * 3 + 2) : ldV false (((encN l ss).drop off).take 1) = ss[i]'(by omega) := by
  subst ho
  rw [← List.drop_drop, encN_at h hi]; rfl
theorem layN' (m : Int) (k : List Int) : ∀ {l : List Nd} {ss : List Value} {i : Nat} (_ : ss.length = l.length) (hi : i < l.length), lay (encN l ss) (i * 3 + 1) [.int .i64 m] = some (encN (l.set i ⟨l[i].op, m, k⟩) ss)
  | x :: l, s :: ss, 0, _, _ => by simp [encN, lay]
  | x :: l, s :: ss, i + 1, h, hi => by
    rw [show (i + 1) * 3 + 1 = i * 3 + 1 + 1 + 1 + 1 by omega]
    simp only [encN, lay, layN' m k (l := l) (ss := ss) (i := i) (by simpa using h) (by simpa using hi), Option.map_some, List.set_cons_succ, List.getElem_cons_succ]
theorem layN (m : Int) (k : List Int) {l : List Nd} {ss : List Value} {i off : Nat} (h : ss.length = l.length) (hi : i < l.length) (ho : off = i * 3 + 1) {vs : List Value} (hv : vs = [.int .i64 m]) : lay (encN l ss) off vs = some (encN (l.set i ⟨l[i].op, m, k⟩) ss) := by
  subst ho hv; exact layN' m k h hi
theorem encN_L {G : Hp} : ∀ {l : List Nd} {ss : List Value}, ss.length = l.length → okN l → (∀ (i : Nat) (r : Rw), (rowsL l ss)[i]? = some r → RowAt G r) → (∀ x ∈ l, x.l.length ≤ 1000) → rN.L G l (encN l ss)
  | [], [], _, _, _, _ => rfl
  | x :: l, s :: ss, h, ho, hr, hb => by
    have h0 := hr 0 _ (by simp [rowsL]; rfl)
    obtain ⟨o1, o2, o3⟩ := ho x (by simp)
    exact rN_cons o1 o2 (RowAt.S h0 rfl (by have := hb x (by simp); omega) (rI_L.2 ⟨rfl, o3⟩)) (encN_L (by simpa using h) (fun y hy => ho y (by simp [hy])) (fun i r e => hr (i + 1) r (by simpa [rowsL] using e)) (fun y hy => hb y (by simp [hy])))
theorem RF_S {G : Hp} {f : Fu} {ns : Value} {ss : List Value} (h : ss.length = f.nodes.length) (ho : okN f.nodes) (hb : ∀ x ∈ f.nodes, x.l.length ≤ 1000) (hn : f.nodes.length ≤ 1000) (hr : ∀ (i : Nat) (r : Rw), (RF f ns ss)[i]? = some r → RowAt G r) : rN.S G f.nodes ns := by
  have h1 := hr f.nodes.length ⟨51, 3, ns, f.nodes.length, encN f.nodes ss⟩ (by simp [RF, List.getElem?_append_right, rowsL_len h])
  refine RowAt.S h1 rfl (by omega) (encN_L h ho (fun i r e => hr i r ?_) hb)
  have := (List.getElem?_eq_some_iff.1 e).1
  rw [RF, List.getElem?_append_left this]
  exact e
end Go.Proofs.Ytmdkenpodcnnbaa
namespace Go.Sx
set_option linter.unusedSimpArgs false
set_option linter.unusedVariables false
open Go.RowKit

/-! ### Zones -/
section
variable {C : Ctx} {K : List KI} {s : St}
/-- Two zones become one. -/
theorem go_zjoin (k j : Nat) {b b2 : Nat} {rs rs2 : List Rw} {Z Z2 : Nat → Prop} (hk : lk k s.own = some (b, .z (ZR rs) Z Z)) (hj : lk j s.own = some (b2, .z (ZR rs2) Z2 Z2)) (hmk : C.mh ≤ k) (hmj : C.mh ≤ j) (hkj : k ≠ j)
    (h : ∀ Z', SGo C K ⟨s.sl, stk k (b, .z (ZR (rs ++ rs2)) Z' Z') (rmk j s.own), s.G, s.df⟩) : SGo C K s := by
  intro a w hS
  obtain ⟨z1, z2, z3, z4⟩ := (hS.mem.own _ _ _ hk).1
  obtain ⟨y1, y2, y3, y4⟩ := (hS.mem.own _ _ _ hj).1
  have hdis : ∀ g, Z g → Z2 g → False := fun g hg q => hkj (hS.mem.inj _ _ _ _ _ _ g hk hj hg q)
  have hget : ∀ {m r}, (rs ++ rs2)[m]? = some r → (rs[m]? = some r) ∨ (rs.length ≤ m ∧ rs2[m - rs.length]? = some r) := by
    intro m r e
    rcases Nat.lt_or_ge m rs.length with q | q
    · rw [List.getElem?_append_left q] at e; exact .inl e
    · rw [List.getElem?_append_right q] at e; exact .inr ⟨q, e⟩
  refine h (fun g => Z g ∨ Z2 g) a w ⟨hS.sl, hS.nt, hS.df, hS.mem.join hk hj hmk hmj hkj ⟨fun m r e => ?_, fun m m' r1 r2 g e e' q q' => ?_, fun g => ⟨fun hg => ?_, fun hg => ?_⟩, fun g hg => hg⟩ (fun g hg => hg) (fun g hg => hg)⟩
  · rcases hget e with e | ⟨_, e⟩
    · exact z1 m r e
    · exact y1 _ r e
  · rcases hget e with e | ⟨n1, e⟩ <;> rcases hget e' with e' | ⟨n2, e'⟩
    · exact z2 m m' r1 r2 g e e' q q'
    · exact (hdis g ((z3 g).2 ⟨m, r1, e, q⟩) ((y3 g).2 ⟨_, r2, e', q'⟩)).elim
    · exact (hdis g ((z3 g).2 ⟨m', r2, e', q'⟩) ((y3 g).2 ⟨_, r1, e, q⟩)).elim
    · have := y2 _ _ r1 r2 g e e' q q'; omega
  · rcases hg with hg | hg
    · obtain ⟨m, r, e, q⟩ := (z3 g).1 hg
      exact ⟨m, r, by rw [List.getElem?_append_left (List.getElem?_eq_some_iff.1 e).1]; exact e, q⟩
    · obtain ⟨m, r, e, q⟩ := (y3 g).1 hg
      exact ⟨rs.length + m, r, by rw [List.getElem?_append_right (by omega), Nat.add_sub_cancel_left]; exact e, q⟩
  · obtain ⟨m, r, e, q⟩ := hg
    rcases hget e with e | ⟨_, e⟩
    · exact .inl ((z3 g).2 ⟨m, r, e, q⟩)
    · exact .inr ((y3 g).2 ⟨_, r, e, q⟩)
end

/-- What was handed out becomes part of what no longer changes: all rows but those of X. -/
theorem retv_grow {w w' : World} {G G' : Hp} {rs : List Rw} {Z X : Nat → Prop} (hw : Has w G) (hg : Grow [] w G w' G') (hz : (ZR rs).A Z Z w') (hZ : ∀ g, Z g → G' g = none ∧ w.heap.size ≤ g) :
    ∃ G2, Grow [] w G w' G2 ∧ Le G' G2 ∧ (∀ g, Z g → X g → G2 g = none) ∧ ∀ (i : Nat) (r : Rw), rs[i]? = some r → (∀ g, r.v.ownBlock = some g → ¬ X g) → RowAt G2 r := by
  classical
  obtain ⟨z1, z2, z3, z4⟩ := hz
  refine ⟨fun g => if Z g ∧ ¬ X g then w'.heap[g]? else G' g, ⟨hg.os, hg.tape, hg.output, hg.size, hg.blk, fun g o e => ?_, fun g hlt => ?_⟩, fun g o e => ?_, fun g hz hx => ?_, fun i r e hr => row_at (z1 i r e) fun g hg' => ?_⟩
  · split at e
    · exact e
    · exact hg.has g o e
  · have : ¬ Z g := fun q => by have := (hZ g q).2; omega
    simp only [this, false_and, if_false]
    exact hg.old g hlt
  · have : ¬ Z g := fun q => by rw [(hZ g q).1] at e; cases e
    simp only [this, false_and, if_false]
    exact e
  · simp only [hx, not_true_eq_false, and_false, if_false]
    exact (hZ g hz).1
  · have h1 : Z g := (z3 g).2 ⟨i, r, e, hg'⟩
    simp only [h1, hr g hg', not_false_eq_true, and_self, if_true]
theorem PureV.pure {P : Program} {f : FuncId} {args : List Value} {G : Hp} {φ : Value → Hp → List Rw → Prop} {ψ : Value → Hp → Prop} (h : PureV P f args G φ)
    (hψ : ∀ v G1 G2 rs, Le G G1 → Le G1 G2 → φ v G1 rs → (∀ (i : Nat) (r : Rw), rs[i]? = some r → RowAt G2 r) → ψ v G2) : Pure P f args G ψ := by
  intro w hw
  refine (h w hw).mono ?_
  rintro e w' ⟨v, G', rs, Z, rfl, hg, hz, hZ, hφ⟩
  obtain ⟨G2, g1, g2, _, g3⟩ := retv_grow (X := fun _ => False) hw hg hz hZ
  exact ⟨v, G2, rfl, g1, hψ v G' G2 rs (fun b o e => hg.keep hw e) g2 hφ fun i r e => g3 i r e (fun _ _ q => q)⟩
theorem PureV.toR {P : Program} {f : FuncId} {args : List Value} {G : Hp} {φ : Value → Hp → List Rw → Prop} {ψ : Value → Hp → Value → TypeId → Nat → Nat → List Value → Prop} (h : PureV P f args G φ)
    (hψ : ∀ v G1 rs, Le G G1 → φ v G1 rs → ∃ (i : Nat) (r : Rw), rs[i]? = some r ∧ ∀ G2, Le G1 G2 → (∀ (j : Nat) (r' : Rw), j ≠ i → rs[j]? = some r' → RowAt G2 r') → ψ v G2 r.v r.e r.size r.n r.xs) : PureR P f args G ψ := by
  intro w hw
  refine (h w hw).mono ?_
  rintro e w' ⟨v, G', rs, Z, rfl, hg, hz, hZ, hφ⟩
  obtain ⟨i, r, hi, hr⟩ := hψ v G' rs (fun b o e => hg.keep hw e) hφ
  obtain ⟨G2, g1, g2, g0, g3⟩ := retv_grow (X := fun g => r.v.ownBlock = some g) hw hg hz hZ
  obtain ⟨z1, z2, z3, z4⟩ := hz
  refine ⟨v, G2, r.v, r.e, r.size, r.n, r.xs, rfl, g1, z1 i r hi, fun g hb => ?_, hr G2 g2 fun j r' hj e => g3 j r' e fun g hb hb' => hj (z2 j i r' r g e hi hb hb')⟩
  have hzg : Z g := (z3 g).2 ⟨i, r, hi, hb⟩
  exact ⟨g0 g hzg hb, (hZ g hzg).2⟩

/-! ### A queue -/
/-- From 'off' on these cells hold these values, and room for 'cap' of them. -/
def QS (cur : Array Value) (off cap : Nat) (xs : List Value) : Prop := xs.length ≤ cap ∧ (0 < cap → off + cap = cur.size) ∧ ∀ i, i < xs.length → cur[off + i]? = xs[i]?
theorem QS.tail {cur : Array Value} {off cap : Nat} {x : Value} {xs : List Value} (h : QS cur off (cap + 1) (x :: xs)) : QS cur (if cap = 0 then off else off + 1) cap xs := by
  obtain ⟨h1, h2, h3⟩ := h
  refine ⟨by simp at h1; exact h1, fun hc => ?_, fun i hi => ?_⟩
  · rw [if_neg (by omega)]; have := h2 (by omega); omega
  · have hc : ¬ cap = 0 := by simp at h1; omega
    rw [if_neg hc, show off + 1 + i = off + (i + 1) by omega, h3 (i + 1) (by simp; omega)]
    simp
section
variable {C : Ctx} {K : List KI} {s : St} {sl : List (Nat × SV)} {own : Owns} {G : Hp} {R : Array Oper} {l : List Oper} {d : Option Tmp} {t : TypeId} {pos : String} {aft : Array Edge}
/-- A load out of a block of the call's own that is known as a whole. -/
theorem quiet_loadO (k : Nat) {T : TypeId} {x : Operand} {ti : TI} {b off : Nat} {e : TypeId} {cur : Array Value} {v : Value} {y : SV}
    (hT : C.ty T = some ti) (hag : ti.k.agg = false) (hx : ev sl x = some y) (hy : y.den = .pointer (some ⟨b, off, none⟩)) (hk : lk k own = some (b, .o (.cells cur e))) (hv : cur[off]? = some v) :
    Quiet C sl own G (.load T x) v := by
  intro a w d t pos aft g hs hh
  have hxv := ev_ok hs hx
  rw [hy] at hxv
  have hb := hh.1 _ _ _ hk
  simp only [OO.holds] at hb
  have hc : w.cell? ⟨b, off, none⟩ = some v := by rw [cell_at hb]; exact hv
  simp only [execOp, hxv, Instr.loadAt, Instr.sureAddr, Sem.run_bind, Sem.run_pure, Result.andThen_ok, loadVar, run_isAgg w (C.tyok _ _ hT), hag]
  simp [run_load, hc]
theorem run_append_roomO {P : Program} {w : World} {T e : TypeId} {te : TI} (ty' : TypeId) (ht : P.underlying T = some (.slice e)) (he : te.ok P e) (hs : te.size = 1) {g off n cap : Nat} {cur : Array Value} (hg : w.heap[g]? = some (.cells cur e))
    {a : Addr} {c : Nat} {v : Value} (hv : w.cell? a = some v) (h1 : v.oneCell' = true) (hroom : n + 1 ≤ cap) (hfit : off + n < cur.size) :
    (Builtin.append_ #[T, T] ty' #[.slice (some ⟨g, off, none⟩) n cap, .slice (some a) 1 c]).run P w = .ok (.slice (some ⟨g, off, none⟩) (n + 1) cap) (setBlk w g (.cells (cur.setIfInBounds (off + n) v) e)) := by
  obtain ⟨i, z, hi, hsz, hb, hz, hc⟩ := he.info
  rw [hs] at hsz
  have hf := run_firstCells_some (P := P) w i.size 1 a 1 c [v] (by simp [hsz]) (fun j u hu => by
    cases j with
    | zero =>
      simp at hu; subst hu
      have : a.add 0 = a := by unfold Addr.add; simp
      rw [this]; exact hv
    | succ j => simp at hu)
  rw [hsz] at hf
  have hlay : lay cur.toList (off + n + 0) [v] = some (cur.setIfInBounds (off + n) v).toList := by
    have key : ∀ (l : List Value) (m : Nat) (u : Value), m < l.length → lay l m [u] = some (l.set m u) := by
      intro l
      induction l with
      | nil => intro m u hm; simp at hm
      | cons x l ih =>
        intro m u hm
        cases m with
        | zero => cases l <;> simp [lay]
        | succ m => simp [lay, ih m u (by simpa using hm)]
    rw [Nat.add_zero, key _ _ _ (by simpa using hfit)]
    simp
  have hst := run_storeCells (P := P) (b := g) (off := off + n) (e := e) [v] 0 w cur.toList _ (by simpa using hg) (by simp [h1]) hlay
  simp [Builtin.append_, run_underlying ht, sizeOf, typeInfo, hi, Builtin.lenOf, hroom, hf, hsz, add_none, hst]
  congr 2
  apply Array.ext'
  simp
/-- One more at a queue's end. -/
theorem go_qappend (k : Nat) {x y : Operand} {T e : TypeId} {te : TI} {sz by' : Nat} {ze : List Value} {fl : List (Nat × Nat × Bool)} {g off n cap : Nat} {cur : Array Value} {xs : List Value} {v : Value} {z : SV}
    (hd : dOk C.nt d = true) (hT : C.ty T = some ⟨.slice e, sz, by', ze, fl⟩) (he : C.ty e = some te) (hsz : te.size = 1) (hx : ev s.sl x = some (.v (.slice (some ⟨g, off, none⟩) n cap))) (hk : lk k s.own = some (g, .o (.cells cur e)))
    (hy : ev s.sl y = some z) (hsrc : Src C s z 1 [v]) (h1 : v.oneCell' = true) (hq : QS cur off cap xs) (hn : xs.length = n) (h63 : n + 1 ≤ 9223372036854775807) (hbytes : (n + 1) * te.bytes ≤ 140737488355328)
    (h : ∀ g' off' cap' cur', QS cur' off' cap' (xs ++ [v]) → SGo C (.ops R l :: K) ⟨putS d (.v (.slice (some ⟨g', off', none⟩) (n + 1) cap')) s.sl, stk k (g', .o (.cells cur' e)) s.own, s.G, s.df⟩) :
    SGo C (.ops R (⟨d, .call ⟨.builtin .append, #[x, y], #[T, T]⟩, t, pos, aft, none⟩ :: l) :: K) s := by
  intro a w hS
  have hxv := ev_ok hS.sl hx
  have hyv := ev_ok hS.sl hy
  simp only [SV.den] at hxv
  obtain ⟨ad, c, hz, hnews⟩ := hsrc w hS.mem
  rw [hz] at hyv
  have g1 := (C.tyok _ _ hT).k
  simp only [TK.fits] at g1
  have hb := (hS.mem.own _ _ _ hk).1
  simp only [OO.holds] at hb
  have hlt := lt_of_heap hb
  have hv : w.cell? ad = some v := by
    have h0 := hnews 0 v rfl
    have : ad.add 0 = ad := by unfold Addr.add; simp
    rwa [this] at h0
  obtain ⟨q1, q2, q3⟩ := hq
  by_cases hroom : n + 1 ≤ cap
  · have hfit : off + n < cur.size := by have := q2 (by omega); omega
    have hr := run_append_roomO (P := C.P) t g1 (C.tyok _ _ he) hsz hb hv (c := c) h1 hroom hfit
    have hrun : (execOp a.eval ⟨d, .call ⟨.builtin .append, #[x, y], #[T, T]⟩, t, pos, aft, none⟩).run C.P w = .ok (.value (.slice (some ⟨g, off, none⟩) (n + 1) cap)) (setBlk w g (.cells (cur.setIfInBounds (off + n) v) e)) := by
      simp only [execOp, resolve, invoke, builtin, Sem.run_bind, Sem.run_pure, Result.andThen_ok, List.map_toArray, List.map_cons, List.map_nil, hxv, hyv, hr]
    refine K_value rfl hrun ?_
    have hm : Mem C (stk k (g, .o (.cells (cur.setIfInBounds (off + n) v) e)) s.own) s.G (setBlk w g (.cells (cur.setIfInBounds (off + n) v) e)) :=
      hS.mem.put hk rfl rfl rfl (by rw [setBlk_size]; exact Nat.le_refl _) (fun j _ hj => setBlk_ne (fun e => hj e) _) (setBlk_same hlt _) (fun g => ⟨.inl, .inl⟩)
    have := h g off cap (cur.setIfInBounds (off + n) v) ⟨by simp; omega, fun hc => by simp; exact q2 hc, fun i hi => ?_⟩ _ _ (hS.put hd (.v (.slice (some ⟨g, off, none⟩) (n + 1) cap)) hm)
    · simpa only [SV.den] using this
    · simp at hi
      by_cases hin : i = n
      · subst hin
        rw [Array.getElem?_setIfInBounds_self_of_lt hfit, List.getElem?_append_right (by omega)]
        simp [hn]
      · rw [Array.getElem?_setIfInBounds_ne (by omega), q3 i (by omega), List.getElem?_append_left (by omega)]
  · obtain ⟨i, z0, hi, hs, hb', hz0, hc⟩ := (C.tyok _ _ he).info
    have hr := run_append_grow (P := C.P) w T t e i z0 g1 hi hz0 ⟨g, off, none⟩ n cap xs (by rw [hs, hsz]; omega) (fun j u hu => by
        have hj := (List.getElem?_eq_some_iff.1 hu).1
        rw [add_none, cell_at hb, q3 j hj]; exact hu) ad 1 c [v] (by rw [hs, hsz]; rfl) hnews (by omega) (by omega) (growslice_fits (by omega) (by rw [hb']; exact hbytes))
    have hrun : (execOp a.eval ⟨d, .call ⟨.builtin .append, #[x, y], #[T, T]⟩, t, pos, aft, none⟩).run C.P w = .ok (.value (.slice (some ⟨w.heap.size, 0, none⟩) (n + 1) (grownCap w (n + 1) cap e))) (w.drew.alloc (.cells (xs.toArray ++ [v].toArray ++ Builtin.zeroCells z0.cells (grownCap w (n + 1) cap e - (n + 1))) e)) := by
      simp only [execOp, resolve, invoke, builtin, Sem.run_bind, Sem.run_pure, Result.andThen_ok, List.map_toArray, List.map_cons, List.map_nil, hxv, hyv, hr]
    refine K_value rfl hrun ?_
    have hge := grownCap_ge w (n + 1) cap e
    have hzs : z0.cells.size = 1 := by rw [hc]; simpa [hsz] using (C.tyok _ _ he).len
    have hm : Mem C (stk k (w.heap.size, .o (.cells (xs.toArray ++ [v].toArray ++ Builtin.zeroCells z0.cells (grownCap w (n + 1) cap e - (n + 1))) e)) s.own) s.G (w.drew.alloc (.cells (xs.toArray ++ [v].toArray ++ Builtin.zeroCells z0.cells (grownCap w (n + 1) cap e - (n + 1))) e)) :=
      hS.mem.drew.put hk rfl rfl rfl (by simp) (fun j hj _ => alloc_old _ _ hj) (alloc_new _ _) (fun g' => ⟨fun q => .inr (by simp only [OO.blks] at q; show w.heap.size ≤ g'; omega), fun q => .inr (by simp only [OO.mut] at q; show w.heap.size ≤ g'; omega)⟩)
    have := h w.heap.size 0 (grownCap w (n + 1) cap e) (xs.toArray ++ [v].toArray ++ Builtin.zeroCells z0.cells (grownCap w (n + 1) cap e - (n + 1))) ⟨by simp; omega, fun _ => by simp [size_zeroCells, hzs]; omega, fun i hi => ?_⟩ _ _ (hS.put hd (.v (.slice (some ⟨w.heap.size, 0, none⟩) (n + 1) (grownCap w (n + 1) cap e))) hm)
    · simpa only [SV.den] using this
    · rw [Nat.zero_add, Array.getElem?_append_left (by simpa using hi)]
      simp
end
end Go.Sx
namespace Go.Proofs.Ytmdkenpodcnnbaa
open Go.Sx renaming SO' → zs1, SQ' → zs2, opQ → zs3, opStore → zs4, opAlloc → zs5, putS → zs6, ldOwn → zs7, binInt → zs8, binConst → zs9, binBool → zt1, binStr → zt2, resOne → zt3, resV → zt4
open Go.Sx.SV renaming cs → zu1, one → zu2, bool? → zu3
open Nat renaming reduceAdd → zn1, reduceMul → zn2, reduceSub → zn3, reduceLT → zn4, reduceLeDiff → zn5, reduceEqDiff → zn6, reduceBEq → zn7
set_option linter.unusedSimpArgs false
set_option linter.unusedVariables false
open Go.Sx
abbrev Cs := List (Value × List Value)
def okC : Pr → Cs → Prop
  | [], [] => True
  | f :: p, v :: vs => v.2.length = f.nodes.length ∧ okC p vs
  | _, _ => False
def rowsP : Pr → Cs → List Rw
  | f :: p, v :: vs => RF f v.1 v.2 ++ rowsP p vs
  | _, _ => []
def encP : Pr → Cs → List Value
  | f :: p, v :: vs => .int .i64 f.params :: v.1 :: encP p vs
  | _, _ => []
theorem okC_len : ∀ {p : Pr} {vs : Cs}, okC p vs → p.length = vs.length
  | [], [], _ => rfl
  | f :: p, v :: vs, h => by simp [okC_len h.2]
theorem okC_snoc {f : Fu} {v : Value} {ss : List Value} : ∀ (p : Pr) (vs : Cs), okC p vs → ss.length = f.nodes.length → okC (p ++ [f]) (vs ++ [(v, ss)])
  | [], [], _, h => ⟨h, trivial⟩
  | g :: p, w :: vs, h, h' => ⟨h.1, okC_snoc p vs h.2 h'⟩
theorem rowsP_snoc {f : Fu} {v : Value × List Value} : ∀ (p : Pr) (vs : Cs), p.length = vs.length → rowsP (p ++ [f]) (vs ++ [v]) = rowsP p vs ++ RF f v.1 v.2
  | [], [], _ => by simp [rowsP]
  | g :: p, w :: vs, h => by simp [rowsP, rowsP_snoc p vs (by simpa using h)]
theorem encP_snoc {f : Fu} {v : Value × List Value} : ∀ (p : Pr) (vs : Cs), p.length = vs.length → encP (p ++ [f]) (vs ++ [v]) = encP p vs ++ [.int .i64 f.params, v.1]
  | [], [], _ => by simp [encP]
  | g :: p, w :: vs, h => by simp [encP, encP_snoc p vs (by simpa using h)]
theorem encP_len : ∀ {p : Pr} {vs : Cs}, p.length = vs.length → (encP p vs).length = p.length * 2
  | [], [], _ => rfl
  | f :: p, v :: vs, h => by simp only [encP, List.length_cons, encP_len (p := p) (vs := vs) (by simpa using h)]; omega
/-- A program of numbers of 64 bits. -/
def okP (p : Pr) : Prop := ∀ f ∈ p, isI64 f.params ∧ okN f.nodes
theorem rFL_ok {G : Hp} : ∀ {l : Pr} {cs : List Value}, rF.L G l cs → okP l
  | [], _, _ => fun x hx => by simp at hx
  | y :: l, cs, h => by
    obtain ⟨c, d, _, ⟨ns, _, h1, h2⟩, h4⟩ := h
    intro x hx
    rcases List.mem_cons.1 hx with rfl | hx
    · exact ⟨h1, rN_ok h2⟩
    · exact rFL_ok h4 x hx
theorem rF_ok {G : Hp} {l : Pr} {v : Value} (h : rF.S G l v) : okP l := by
  obtain ⟨_, ad, cap, _, h | ⟨b, off, cs, _, _, hL⟩⟩ := h
  · subst h; exact fun x hx => by simp at hx
  · exact rFL_ok hL
/-- Of no great size. -/
def bdP (p : Pr) : Prop := p.length ≤ 1000 ∧ ∀ f ∈ p, f.nodes.length ≤ 300 ∧ ∀ x ∈ f.nodes, x.l.length ≤ 40
theorem rF_cons {G : Hp} {f : Fu} {ns : Value} {p : Pr} {cs : List Value} (h1 : isI64 f.params) (h2 : rN.S G f.nodes ns) (h : rF.L G p cs) : rF.L G (f :: p) (.int .i64 f.params :: ns :: cs) :=
  ⟨[.int .i64 f.params, ns], cs, rfl, ⟨ns, rfl, h1, h2⟩, h⟩
theorem encP_L {G : Hp} : ∀ {p : Pr} {vs : Cs}, okC p vs → okP p → (∀ f ∈ p, f.nodes.length ≤ 300 ∧ ∀ x ∈ f.nodes, x.l.length ≤ 40) → (∀ (i : Nat) (r : Rw), (rowsP p vs)[i]? = some r → RowAt G r) → rF.L G p (encP p vs)
  | [], [], _, _, _, _ => rfl
  | f :: p, v :: vs, h, ho, hb, hr => by
    obtain ⟨o1, o2⟩ := ho f (by simp)
    obtain ⟨b1, b2⟩ := hb f (by simp)
    refine rF_cons o1 (RF_S h.1 o2 (fun x hx => by have := b2 x hx; omega) (by omega) fun i r e => hr i r ?_) (encP_L h.2 (fun g hg => ho g (by simp [hg])) (fun g hg => hb g (by simp [hg])) fun i r e => hr ((RF f v.1 v.2).length + i) r ?_)
    · simp only [rowsP]
      rw [List.getElem?_append_left (List.getElem?_eq_some_iff.1 e).1]; exact e
    · simp only [rowsP]
      rw [List.getElem?_append_right (by omega), Nat.add_sub_cancel_left]; exact e
set_option maxHeartbeats 4000000
theorem copyp_ok (p : Pr) (ps : Value) (G : Hp) (hps : rF.S G p ps) (hb : bdP p) :
    PureV Try.prog 16 [.agg #[ps]] G (fun v _ rs => ∃ ad cap vs, okC p vs ∧ v = .agg #[.slice ad p.length cap] ∧ rs = rowsP p vs ++ [⟨46, 2, .slice ad p.length cap, p.length, encP p vs⟩]) := by
  have hps0 := hps
  have hb1 := hb.1
  obtain ⟨adp, capp, rfl⟩ := Rp.S_slice hps
  refine enterV ty tyok Try.func16 rfl Try.ntmps16 [.a [.v (.slice adp p.length capp)]] (by simp) ?_
  intro C hP hQ hnt hty hmb hmh hro; have hQp := qp_body hQ; simp only [so, sq, zy, zz, tyE, zs1, zs2, zs3, zs4, zs5, ev, zs6, dOk, cv, zu1, zu2, zu3, eqB, Value.oneCell', zs7, zs8, zs9, zt1, zt2, isC, TK.agg, rv, rv1, ldV, zt3, zt4, zn1, zn2, zn3, zn4, zn5, zn6, zn7, reduceIte, reduceCtorEq, eq_self]
  (try (refine runo0 400 hty hnt hmh ?_; simp only [so, sq, zy, zz, tyE, zs1, zs2, zs3, zs4, zs5, ev, zs6, dOk, cv, zu1, zu2, zu3, eqB, Value.oneCell', zs7, zs8, zs9, zt1, zt2, isC, TK.agg, rv, rv1, ldV, zt3, zt4, zn1, zn2, zn3, zn4, zn5, zn6, zn7, reduceIte, reduceCtorEq, eq_self])); (repeat (first | refine x_seq rfl ?_ | refine go_ops ?_ | refine go_blk ?_ | refine x_skip rfl ?_ | refine x_blk rfl rfl ?_ | refine x_exit rfl rfl rfl ?_ | refine x_ift rfl rfl rfl ?_ | refine x_iff rfl rfl rfl ?_ | refine x_label rfl ?_ | ((first | refine x_reg rfl rfl ?_ | (refine go_newx hty hnt hmh rfl rfl ?_; intro _)); refine runo0 400 hty hnt hmh ?_; simp only [so, sq, zy, zz, tyE, zs1, zs2, zs3, zs4, zs5, ev, zs6, dOk, cv, zu1, zu2, zu3, eqB, Value.oneCell', zs7, zs8, zs9, zt1, zt2, isC, TK.agg, rv, rv1, ldV, zt3, zt4, zn1, zn2, zn3, zn4, zn5, zn6, zn7, reduceIte, reduceCtorEq, eq_self])))
  rename_i b1 b2 b3
  refine go_nilrow 41 46 2 rfl (by omega) ?_
  refine go_znil 40 rfl (by omega) ?_
  intro Z0
  refine go_keep [1, 2, 3, 7, 8, 9] [0, 1, 2, 40, 41] ?_
  simp only [so, sq, zy, zz, tyE, zs1, zs2, zs3, zs4, zs5, ev, zs6, dOk, cv, zu1, zu2, zu3, eqB, Value.oneCell', zs7, zs8, zs9, zt1, zt2, isC, TK.agg, rv, rv1, ldV, zt3, zt4, zn1, zn2, zn3, zn4, zn5, zn6, zn7, reduceIte, reduceCtorEq, eq_self]
  refine x_loop rfl (fun q s => ∃ (k : Nat) (G' : Hp) (vs : Cs) (ad3 : Option Addr) (cap3 : Nat) (Z : Nat → Prop), k ≤ p.length ∧ q = p.length - k ∧ Le G G' ∧ okC (p.take k) vs ∧
    s = ⟨[(1, .p 0 b1 0), (2, .p 1 b2 0), (3, .p 2 b3 0), (7, .v (.slice adp p.length capp)), (8, .v (.int .i64 p.length)), (9, .v (.int .i64 k))],
      [(0, b1, .c 24 [.v (.slice adp p.length capp)]), (1, b2, .c 24 [.v (.slice none 0 0)]), (2, b3, .c 24 [.v (.slice ad3 k cap3)]),
       (40, 0, .z (ZR (rowsP (p.take k) vs)) Z Z), (41, 0, .row (.slice ad3 k cap3) 46 2 k (encP (p.take k) vs))], G', []⟩) ⟨0, G, [], none, 0, Z0, by omega, rfl, Le.refl _, trivial, by simp [rowsP, encP]⟩ ?_
  rintro q s ⟨k, G1, vs, ad3, cap3, Z, hk, hq, hle1, hvs, rfl⟩ ih
  (try (refine runo0 400 hty hnt hmh ?_; simp only [so, sq, zy, zz, tyE, zs1, zs2, zs3, zs4, zs5, ev, zs6, dOk, cv, zu1, zu2, zu3, eqB, Value.oneCell', zs7, zs8, zs9, zt1, zt2, isC, TK.agg, rv, rv1, ldV, zt3, zt4, zn1, zn2, zn3, zn4, zn5, zn6, zn7, reduceIte, reduceCtorEq, eq_self])); (repeat (first | refine x_seq rfl ?_ | refine go_ops ?_ | refine go_blk ?_ | refine x_skip rfl ?_ | refine x_blk rfl rfl ?_ | refine x_exit rfl rfl rfl ?_ | refine x_ift rfl rfl rfl ?_ | refine x_iff rfl rfl rfl ?_ | refine x_label rfl ?_ | ((first | refine x_reg rfl rfl ?_ | (refine go_newx hty hnt hmh rfl rfl ?_; intro _)); refine runo0 400 hty hnt hmh ?_; simp only [so, sq, zy, zz, tyE, zs1, zs2, zs3, zs4, zs5, ev, zs6, dOk, cv, zu1, zu2, zu3, eqB, Value.oneCell', zs7, zs8, zs9, zt1, zt2, isC, TK.agg, rv, rv1, ldV, zt3, zt4, zn1, zn2, zn3, zn4, zn5, zn6, zn7, reduceIte, reduceCtorEq, eq_self])))
  refine x_if rfl rfl rfl rfl (fun hjl => ?_) (fun hjl => ?_)
  · have hlt : k < p.length := by simp at hjl; omega
    have htk : p.take (k + 1) = p.take k ++ [fu p k] := by rw [fu_eq hlt, List.take_append_getElem]
    obtain ⟨hl300, hl40⟩ := hb.2 (fu p k) (by rw [fu_eq hlt]; exact List.getElem_mem _)
    obtain ⟨bp, op, nsp, rfl, hatp, hpp, hnp⟩ := rF_at hps0 hlt
    have hnp1 := Rp.S_mono hle1 hnp
    obtain ⟨adn, capn, rfl⟩ := Rp.S_slice hnp
    (try (refine runo0 400 hty hnt hmh ?_; simp only [so, sq, zy, zz, tyE, zs1, zs2, zs3, zs4, zs5, ev, zs6, dOk, cv, zu1, zu2, zu3, eqB, Value.oneCell', zs7, zs8, zs9, zt1, zt2, isC, TK.agg, rv, rv1, ldV, zt3, zt4, zn1, zn2, zn3, zn4, zn5, zn6, zn7, reduceIte, reduceCtorEq, eq_self])); (repeat (first | refine x_seq rfl ?_ | refine go_ops ?_ | refine go_blk ?_ | refine x_skip rfl ?_ | refine x_blk rfl rfl ?_ | refine x_exit rfl rfl rfl ?_ | refine x_ift rfl rfl rfl ?_ | refine x_iff rfl rfl rfl ?_ | refine x_label rfl ?_ | ((first | refine x_reg rfl rfl ?_ | (refine go_newx hty hnt hmh rfl rfl ?_; intro _)); refine runo0 400 hty hnt hmh ?_; simp only [so, sq, zy, zz, tyE, zs1, zs2, zs3, zs4, zs5, ev, zs6, dOk, cv, zu1, zu2, zu3, eqB, Value.oneCell', zs7, zs8, zs9, zt1, zt2, isC, TK.agg, rv, rv1, ldV, zt3, zt4, zn1, zn2, zn3, zn4, zn5, zn6, zn7, reduceIte, reduceCtorEq, eq_self])))
    refine go_q (by rw [hnt]; rfl) (quiet_index (by rw [hty]; rfl) (by rw [hty]; rfl) rfl rfl rfl (by omega) (by omega)) ?_
    (try (refine runo0 400 hty hnt hmh ?_; simp only [so, sq, zy, zz, tyE, zs1, zs2, zs3, zs4, zs5, ev, zs6, dOk, cv, zu1, zu2, zu3, eqB, Value.oneCell', zs7, zs8, zs9, zt1, zt2, isC, TK.agg, rv, rv1, ldV, zt3, zt4, zn1, zn2, zn3, zn4, zn5, zn6, zn7, reduceIte, reduceCtorEq, eq_self])); (repeat (first | refine x_seq rfl ?_ | refine go_ops ?_ | refine go_blk ?_ | refine x_skip rfl ?_ | refine x_blk rfl rfl ?_ | refine x_exit rfl rfl rfl ?_ | refine x_ift rfl rfl rfl ?_ | refine x_iff rfl rfl rfl ?_ | refine x_label rfl ?_ | ((first | refine x_reg rfl rfl ?_ | (refine go_newx hty hnt hmh rfl rfl ?_; intro _)); refine runo0 400 hty hnt hmh ?_; simp only [so, sq, zy, zz, tyE, zs1, zs2, zs3, zs4, zs5, ev, zs6, dOk, cv, zu1, zu2, zu3, eqB, Value.oneCell', zs7, zs8, zs9, zt1, zt2, isC, TK.agg, rv, rv1, ldV, zt3, zt4, zn1, zn2, zn3, zn4, zn5, zn6, zn7, reduceIte, reduceCtorEq, eq_self])))
    refine go_q (by rw [hnt]; rfl) (quiet_load (by rw [hty]; rfl) rfl (by simp [TK.agg]) (hatp.mono hle1) rfl) ?_
    (try (refine runo0 400 hty hnt hmh ?_; simp only [so, sq, zy, zz, tyE, zs1, zs2, zs3, zs4, zs5, ev, zs6, dOk, cv, zu1, zu2, zu3, eqB, Value.oneCell', zs7, zs8, zs9, zt1, zt2, isC, TK.agg, rv, rv1, ldV, zt3, zt4, zn1, zn2, zn3, zn4, zn5, zn6, zn7, reduceIte, reduceCtorEq, eq_self])); (repeat (first | refine x_seq rfl ?_ | refine go_ops ?_ | refine go_blk ?_ | refine x_skip rfl ?_ | refine x_blk rfl rfl ?_ | refine x_exit rfl rfl rfl ?_ | refine x_ift rfl rfl rfl ?_ | refine x_iff rfl rfl rfl ?_ | refine x_label rfl ?_ | ((first | refine x_reg rfl rfl ?_ | (refine go_newx hty hnt hmh rfl rfl ?_; intro _)); refine runo0 400 hty hnt hmh ?_; simp only [so, sq, zy, zz, tyE, zs1, zs2, zs3, zs4, zs5, ev, zs6, dOk, cv, zu1, zu2, zu3, eqB, Value.oneCell', zs7, zs8, zs9, zt1, zt2, isC, TK.agg, rv, rv1, ldV, zt3, zt4, zn1, zn2, zn3, zn4, zn5, zn6, zn7, reduceIte, reduceCtorEq, eq_self])))
    rename_i b5
    refine x_held [(42, b5, .c 46 [.v (.int .i64 (fu p k).params), .v (.slice adn (fu p k).nodes.length capn)])] rfl (by rw [hP]; kernel_rfl) rfl rfl rfl ?_; simp only [so, sq, zy, zz, tyE, zs1, zs2, zs3, zs4, zs5, ev, zs6, dOk, cv, zu1, zu2, zu3, eqB, Value.oneCell', zs7, zs8, zs9, zt1, zt2, isC, TK.agg, rv, rv1, ldV, zt3, zt4, zn1, zn2, zn3, zn4, zn5, zn6, zn7, reduceIte, reduceCtorEq, eq_self]
    refine h_take 0 rfl (by kernel_rfl) (by kernel_rfl) (by kernel_rfl) hQp (by rw [hnt]; rfl) (allIn (by repeat (first | exact trivial | refine ⟨rfl, ?_⟩))) (by first | exact Le.refl _ | assumption) (quiet_op (by rw [hty]; first | rfl | (simp only [so, sq, zy, zz, tyE, zs1, zs2, zs3, zs4, zs5, ev, zs6, dOk, cv, zu1, zu2, zu3, eqB, Value.oneCell', zs7, zs8, zs9, zt1, zt2, isC, TK.agg, rv, rv1, ldV, zt3, zt4, zn1, zn2, zn3, zn4, zn5, zn6, zn7, reduceIte, reduceCtorEq, eq_self]; rfl))) ?_; simp only [so, sq, zy, zz, tyE, zs1, zs2, zs3, zs4, zs5, ev, zs6, dOk, cv, zu1, zu2, zu3, eqB, Value.oneCell', zs7, zs8, zs9, zt1, zt2, isC, TK.agg, rv, rv1, ldV, zt3, zt4, zn1, zn2, zn3, zn4, zn5, zn6, zn7, reduceIte, reduceCtorEq, eq_self]
    refine h_take 2 rfl (by kernel_rfl) (by kernel_rfl) (by kernel_rfl) hQp (by rw [hnt]; rfl) (allIn (by repeat (first | exact trivial | refine ⟨rfl, ?_⟩))) (by first | exact Le.refl _ | assumption) (quiet_op (by rw [hty]; first | rfl | (simp only [so, sq, zy, zz, tyE, zs1, zs2, zs3, zs4, zs5, ev, zs6, dOk, cv, zu1, zu2, zu3, eqB, Value.oneCell', zs7, zs8, zs9, zt1, zt2, isC, TK.agg, rv, rv1, ldV, zt3, zt4, zn1, zn2, zn3, zn4, zn5, zn6, zn7, reduceIte, reduceCtorEq, eq_self]; rfl))) ?_; simp only [so, sq, zy, zz, tyE, zs1, zs2, zs3, zs4, zs5, ev, zs6, dOk, cv, zu1, zu2, zu3, eqB, Value.oneCell', zs7, zs8, zs9, zt1, zt2, isC, TK.agg, rv, rv1, ldV, zt3, zt4, zn1, zn2, zn3, zn4, zn5, zn6, zn7, reduceIte, reduceCtorEq, eq_self]
    refine h_two 1 3 rfl rfl (by kernel_rfl) ?_ ?_
    · (try (refine runo0 400 hty hnt hmh ?_; simp only [so, sq, zy, zz, tyE, zs1, zs2, zs3, zs4, zs5, ev, zs6, dOk, cv, zu1, zu2, zu3, eqB, Value.oneCell', zs7, zs8, zs9, zt1, zt2, isC, TK.agg, rv, rv1, ldV, zt3, zt4, zn1, zn2, zn3, zn4, zn5, zn6, zn7, reduceIte, reduceCtorEq, eq_self])); (repeat (first | refine x_seq rfl ?_ | refine go_ops ?_ | refine go_blk ?_ | refine x_skip rfl ?_ | refine x_blk rfl rfl ?_ | refine x_exit rfl rfl rfl ?_ | refine x_ift rfl rfl rfl ?_ | refine x_iff rfl rfl rfl ?_ | refine x_label rfl ?_ | ((first | refine x_reg rfl rfl ?_ | (refine go_newx hty hnt hmh rfl rfl ?_; intro _)); refine runo0 400 hty hnt hmh ?_; simp only [so, sq, zy, zz, tyE, zs1, zs2, zs3, zs4, zs5, ev, zs6, dOk, cv, zu1, zu2, zu3, eqB, Value.oneCell', zs7, zs8, zs9, zt1, zt2, isC, TK.agg, rv, rv1, ldV, zt3, zt4, zn1, zn2, zn3, zn4, zn5, zn6, zn7, reduceIte, reduceCtorEq, eq_self])))
      refine h_hs (allIn (by repeat (first | exact trivial | refine ⟨rfl, ?_⟩))) (by first | exact Le.refl _ | assumption) ?_
      refine h_one 3 rfl (by kernel_rfl) ?_
      refine go_callV 50 (by rw [hnt]; rfl) (by rw [hP]; kernel_rfl) rfl rfl (by omega) (hP ▸ copy_ok (fu p k) _ G1 hnp1 hl300 hl40) ?_
      rintro v G2 rs Z5 (hle2 : Le G1 G2) ⟨adc, capc, ssc, hssc, rfl, rfl⟩
      (try (refine runo0 400 hty hnt hmh ?_; simp only [so, sq, zy, zz, tyE, zs1, zs2, zs3, zs4, zs5, ev, zs6, dOk, cv, zu1, zu2, zu3, eqB, Value.oneCell', zs7, zs8, zs9, zt1, zt2, isC, TK.agg, rv, rv1, ldV, zt3, zt4, zn1, zn2, zn3, zn4, zn5, zn6, zn7, reduceIte, reduceCtorEq, eq_self])); (repeat (first | refine x_seq rfl ?_ | refine go_ops ?_ | refine go_blk ?_ | refine x_skip rfl ?_ | refine x_blk rfl rfl ?_ | refine x_exit rfl rfl rfl ?_ | refine x_ift rfl rfl rfl ?_ | refine x_iff rfl rfl rfl ?_ | refine x_label rfl ?_ | ((first | refine x_reg rfl rfl ?_ | (refine go_newx hty hnt hmh rfl rfl ?_; intro _)); refine runo0 400 hty hnt hmh ?_; simp only [so, sq, zy, zz, tyE, zs1, zs2, zs3, zs4, zs5, ev, zs6, dOk, cv, zu1, zu2, zu3, eqB, Value.oneCell', zs7, zs8, zs9, zt1, zt2, isC, TK.agg, rv, rv1, ldV, zt3, zt4, zn1, zn2, zn3, zn4, zn5, zn6, zn7, reduceIte, reduceCtorEq, eq_self])))
      refine h_hs (allIn (by repeat (first | exact trivial | refine ⟨rfl, ?_⟩))) (by first | exact Le.refl _ | assumption) ?_
      refine h_one 4 rfl (by kernel_rfl) ?_
      (try (refine runo0 400 hty hnt hmh ?_; simp only [so, sq, zy, zz, tyE, zs1, zs2, zs3, zs4, zs5, ev, zs6, dOk, cv, zu1, zu2, zu3, eqB, Value.oneCell', zs7, zs8, zs9, zt1, zt2, isC, TK.agg, rv, rv1, ldV, zt3, zt4, zn1, zn2, zn3, zn4, zn5, zn6, zn7, reduceIte, reduceCtorEq, eq_self])); (repeat (first | refine x_seq rfl ?_ | refine go_ops ?_ | refine go_blk ?_ | refine x_skip rfl ?_ | refine x_blk rfl rfl ?_ | refine x_exit rfl rfl rfl ?_ | refine x_ift rfl rfl rfl ?_ | refine x_iff rfl rfl rfl ?_ | refine x_label rfl ?_ | ((first | refine x_reg rfl rfl ?_ | (refine go_newx hty hnt hmh rfl rfl ?_; intro _)); refine runo0 400 hty hnt hmh ?_; simp only [so, sq, zy, zz, tyE, zs1, zs2, zs3, zs4, zs5, ev, zs6, dOk, cv, zu1, zu2, zu3, eqB, Value.oneCell', zs7, zs8, zs9, zt1, zt2, isC, TK.agg, rv, rv1, ldV, zt3, zt4, zn1, zn2, zn3, zn4, zn5, zn6, zn7, reduceIte, reduceCtorEq, eq_self])))
      refine h_hs (allIn (by repeat (first | exact trivial | refine ⟨rfl, ?_⟩))) (by first | exact Le.refl _ | assumption) ?_
      refine h_one 5 rfl (by kernel_rfl) ?_
      refine go_append 41 (by rw [hnt]; rfl) (by rw [hty]; rfl) (by rw [hty]; rfl) (by decide) rfl rfl rfl (by omega) rfl (src_own 2 rfl rfl) rfl (by simp [dens, SV.den, Value.oneCell']) (by omega) (by simp only []; omega) ?_
      intro v'
      refine go_rowS 41 rfl ?_
      rintro ad4 cap4 rfl
      (try (refine runo0 400 hty hnt hmh ?_; simp only [so, sq, zy, zz, tyE, zs1, zs2, zs3, zs4, zs5, ev, zs6, dOk, cv, zu1, zu2, zu3, eqB, Value.oneCell', zs7, zs8, zs9, zt1, zt2, isC, TK.agg, rv, rv1, ldV, zt3, zt4, zn1, zn2, zn3, zn4, zn5, zn6, zn7, reduceIte, reduceCtorEq, eq_self])); (repeat (first | refine x_seq rfl ?_ | refine go_ops ?_ | refine go_blk ?_ | refine x_skip rfl ?_ | refine x_blk rfl rfl ?_ | refine x_exit rfl rfl rfl ?_ | refine x_ift rfl rfl rfl ?_ | refine x_iff rfl rfl rfl ?_ | refine x_label rfl ?_ | ((first | refine x_reg rfl rfl ?_ | (refine go_newx hty hnt hmh rfl rfl ?_; intro _)); refine runo0 400 hty hnt hmh ?_; simp only [so, sq, zy, zz, tyE, zs1, zs2, zs3, zs4, zs5, ev, zs6, dOk, cv, zu1, zu2, zu3, eqB, Value.oneCell', zs7, zs8, zs9, zt1, zt2, isC, TK.agg, rv, rv1, ldV, zt3, zt4, zn1, zn2, zn3, zn4, zn5, zn6, zn7, reduceIte, reduceCtorEq, eq_self])))
      refine h_hs (allIn (by repeat (first | exact trivial | refine ⟨rfl, ?_⟩))) (by first | exact Le.refl _ | assumption) ?_
      refine h_take 6 rfl (by kernel_rfl) (by kernel_rfl) (by kernel_rfl) hQp (by rw [hnt]; rfl) (allIn (by repeat (first | exact trivial | refine ⟨rfl, ?_⟩))) (by first | exact Le.refl _ | assumption) (quiet_op (by rw [hty]; first | rfl | (simp only [so, sq, zy, zz, tyE, zs1, zs2, zs3, zs4, zs5, ev, zs6, dOk, cv, zu1, zu2, zu3, eqB, Value.oneCell', zs7, zs8, zs9, zt1, zt2, isC, TK.agg, rv, rv1, ldV, zt3, zt4, zn1, zn2, zn3, zn4, zn5, zn6, zn7, reduceIte, reduceCtorEq, eq_self]; rfl))) ?_; simp only [so, sq, zy, zz, tyE, zs1, zs2, zs3, zs4, zs5, ev, zs6, dOk, cv, zu1, zu2, zu3, eqB, Value.oneCell', zs7, zs8, zs9, zt1, zt2, isC, TK.agg, rv, rv1, ldV, zt3, zt4, zn1, zn2, zn3, zn4, zn5, zn6, zn7, reduceIte, reduceCtorEq, eq_self]
      refine h_one 7 rfl (by kernel_rfl) ?_
      (try (refine runo0 400 hty hnt hmh ?_; simp only [so, sq, zy, zz, tyE, zs1, zs2, zs3, zs4, zs5, ev, zs6, dOk, cv, zu1, zu2, zu3, eqB, Value.oneCell', zs7, zs8, zs9, zt1, zt2, isC, TK.agg, rv, rv1, ldV, zt3, zt4, zn1, zn2, zn3, zn4, zn5, zn6, zn7, reduceIte, reduceCtorEq, eq_self])); (repeat (first | refine x_seq rfl ?_ | refine go_ops ?_ | refine go_blk ?_ | refine x_skip rfl ?_ | refine x_blk rfl rfl ?_ | refine x_exit rfl rfl rfl ?_ | refine x_ift rfl rfl rfl ?_ | refine x_iff rfl rfl rfl ?_ | refine x_label rfl ?_ | ((first | refine x_reg rfl rfl ?_ | (refine go_newx hty hnt hmh rfl rfl ?_; intro _)); refine runo0 400 hty hnt hmh ?_; simp only [so, sq, zy, zz, tyE, zs1, zs2, zs3, zs4, zs5, ev, zs6, dOk, cv, zu1, zu2, zu3, eqB, Value.oneCell', zs7, zs8, zs9, zt1, zt2, isC, TK.agg, rv, rv1, ldV, zt3, zt4, zn1, zn2, zn3, zn4, zn5, zn6, zn7, reduceIte, reduceCtorEq, eq_self])))
      refine h_hs (allIn (by repeat (first | exact trivial | refine ⟨rfl, ?_⟩))) (by first | exact Le.refl _ | assumption) ?_
      refine h_end (by kernel_rfl) ?_
      (try (refine runo0 400 hty hnt hmh ?_; simp only [so, sq, zy, zz, tyE, zs1, zs2, zs3, zs4, zs5, ev, zs6, dOk, cv, zu1, zu2, zu3, eqB, Value.oneCell', zs7, zs8, zs9, zt1, zt2, isC, TK.agg, rv, rv1, ldV, zt3, zt4, zn1, zn2, zn3, zn4, zn5, zn6, zn7, reduceIte, reduceCtorEq, eq_self])); (repeat (first | refine x_seq rfl ?_ | refine go_ops ?_ | refine go_blk ?_ | refine x_skip rfl ?_ | refine x_blk rfl rfl ?_ | refine x_exit rfl rfl rfl ?_ | refine x_ift rfl rfl rfl ?_ | refine x_iff rfl rfl rfl ?_ | refine x_label rfl ?_ | ((first | refine x_reg rfl rfl ?_ | (refine go_newx hty hnt hmh rfl rfl ?_; intro _)); refine runo0 400 hty hnt hmh ?_; simp only [so, sq, zy, zz, tyE, zs1, zs2, zs3, zs4, zs5, ev, zs6, dOk, cv, zu1, zu2, zu3, eqB, Value.oneCell', zs7, zs8, zs9, zt1, zt2, isC, TK.agg, rv, rv1, ldV, zt3, zt4, zn1, zn2, zn3, zn4, zn5, zn6, zn7, reduceIte, reduceCtorEq, eq_self])))
      rw [wr (n := (k : Int) + 1) (by omega) (by omega)]
      refine go_zjoin 40 50 rfl rfl (by omega) (by omega) (by omega) ?_
      intro Z2
      refine go_keep [1, 2, 3, 7, 8, 9] [0, 1, 2, 40, 41] ?_
      simp only [so, sq, zy, zz, tyE, zs1, zs2, zs3, zs4, zs5, ev, zs6, dOk, cv, zu1, zu2, zu3, eqB, Value.oneCell', zs7, zs8, zs9, zt1, zt2, isC, TK.agg, rv, rv1, ldV, zt3, zt4, zn1, zn2, zn3, zn4, zn5, zn6, zn7, reduceIte, reduceCtorEq, eq_self]
      refine ih (p.length - (k + 1)) _ (by omega) ⟨k + 1, G2, vs ++ [(.slice adc (fu p k).nodes.length capc, ssc)], ad4, cap4, Z2, by omega, rfl, hle1.trans hle2, ?_, ?_⟩
      · rw [htk]; exact okC_snoc _ _ hvs hssc
      · rw [htk, rowsP_snoc _ _ (okC_len hvs), encP_snoc _ _ (okC_len hvs)]
        simp [dens, SV.den]
    · refine go_callV 50 (by rw [hnt]; rfl) (by rw [hP]; kernel_rfl) rfl rfl (by omega) (hP ▸ copy_ok (fu p k) _ G1 hnp1 hl300 hl40) ?_
      rintro v G2 rs Z5 (hle2 : Le G1 G2) ⟨adc, capc, ssc, hssc, rfl, rfl⟩
      (try (refine runo0 400 hty hnt hmh ?_; simp only [so, sq, zy, zz, tyE, zs1, zs2, zs3, zs4, zs5, ev, zs6, dOk, cv, zu1, zu2, zu3, eqB, Value.oneCell', zs7, zs8, zs9, zt1, zt2, isC, TK.agg, rv, rv1, ldV, zt3, zt4, zn1, zn2, zn3, zn4, zn5, zn6, zn7, reduceIte, reduceCtorEq, eq_self])); (repeat (first | refine x_seq rfl ?_ | refine go_ops ?_ | refine go_blk ?_ | refine x_skip rfl ?_ | refine x_blk rfl rfl ?_ | refine x_exit rfl rfl rfl ?_ | refine x_ift rfl rfl rfl ?_ | refine x_iff rfl rfl rfl ?_ | refine x_label rfl ?_ | ((first | refine x_reg rfl rfl ?_ | (refine go_newx hty hnt hmh rfl rfl ?_; intro _)); refine runo0 400 hty hnt hmh ?_; simp only [so, sq, zy, zz, tyE, zs1, zs2, zs3, zs4, zs5, ev, zs6, dOk, cv, zu1, zu2, zu3, eqB, Value.oneCell', zs7, zs8, zs9, zt1, zt2, isC, TK.agg, rv, rv1, ldV, zt3, zt4, zn1, zn2, zn3, zn4, zn5, zn6, zn7, reduceIte, reduceCtorEq, eq_self])))
      refine h_hs (allIn (by repeat (first | exact trivial | refine ⟨rfl, ?_⟩))) (by first | exact Le.refl _ | assumption) ?_
      refine h_two 1 4 rfl rfl (by kernel_rfl) ?_ ?_
      · (try (refine runo0 400 hty hnt hmh ?_; simp only [so, sq, zy, zz, tyE, zs1, zs2, zs3, zs4, zs5, ev, zs6, dOk, cv, zu1, zu2, zu3, eqB, Value.oneCell', zs7, zs8, zs9, zt1, zt2, isC, TK.agg, rv, rv1, ldV, zt3, zt4, zn1, zn2, zn3, zn4, zn5, zn6, zn7, reduceIte, reduceCtorEq, eq_self])); (repeat (first | refine x_seq rfl ?_ | refine go_ops ?_ | refine go_blk ?_ | refine x_skip rfl ?_ | refine x_blk rfl rfl ?_ | refine x_exit rfl rfl rfl ?_ | refine x_ift rfl rfl rfl ?_ | refine x_iff rfl rfl rfl ?_ | refine x_label rfl ?_ | ((first | refine x_reg rfl rfl ?_ | (refine go_newx hty hnt hmh rfl rfl ?_; intro _)); refine runo0 400 hty hnt hmh ?_; simp only [so, sq, zy, zz, tyE, zs1, zs2, zs3, zs4, zs5, ev, zs6, dOk, cv, zu1, zu2, zu3, eqB, Value.oneCell', zs7, zs8, zs9, zt1, zt2, isC, TK.agg, rv, rv1, ldV, zt3, zt4, zn1, zn2, zn3, zn4, zn5, zn6, zn7, reduceIte, reduceCtorEq, eq_self])))
        refine h_hs (allIn (by repeat (first | exact trivial | refine ⟨rfl, ?_⟩))) (by first | exact Le.refl _ | assumption) ?_
        refine h_one 4 rfl (by kernel_rfl) ?_
        (try (refine runo0 400 hty hnt hmh ?_; simp only [so, sq, zy, zz, tyE, zs1, zs2, zs3, zs4, zs5, ev, zs6, dOk, cv, zu1, zu2, zu3, eqB, Value.oneCell', zs7, zs8, zs9, zt1, zt2, isC, TK.agg, rv, rv1, ldV, zt3, zt4, zn1, zn2, zn3, zn4, zn5, zn6, zn7, reduceIte, reduceCtorEq, eq_self])); (repeat (first | refine x_seq rfl ?_ | refine go_ops ?_ | refine go_blk ?_ | refine x_skip rfl ?_ | refine x_blk rfl rfl ?_ | refine x_exit rfl rfl rfl ?_ | refine x_ift rfl rfl rfl ?_ | refine x_iff rfl rfl rfl ?_ | refine x_label rfl ?_ | ((first | refine x_reg rfl rfl ?_ | (refine go_newx hty hnt hmh rfl rfl ?_; intro _)); refine runo0 400 hty hnt hmh ?_; simp only [so, sq, zy, zz, tyE, zs1, zs2, zs3, zs4, zs5, ev, zs6, dOk, cv, zu1, zu2, zu3, eqB, Value.oneCell', zs7, zs8, zs9, zt1, zt2, isC, TK.agg, rv, rv1, ldV, zt3, zt4, zn1, zn2, zn3, zn4, zn5, zn6, zn7, reduceIte, reduceCtorEq, eq_self])))
        refine h_hs (allIn (by repeat (first | exact trivial | refine ⟨rfl, ?_⟩))) (by first | exact Le.refl _ | assumption) ?_
        refine h_one 5 rfl (by kernel_rfl) ?_
        refine go_append 41 (by rw [hnt]; rfl) (by rw [hty]; rfl) (by rw [hty]; rfl) (by decide) rfl rfl rfl (by omega) rfl (src_own 2 rfl rfl) rfl (by simp [dens, SV.den, Value.oneCell']) (by omega) (by simp only []; omega) ?_
        intro v'
        refine go_rowS 41 rfl ?_
        rintro ad4 cap4 rfl
        (try (refine runo0 400 hty hnt hmh ?_; simp only [so, sq, zy, zz, tyE, zs1, zs2, zs3, zs4, zs5, ev, zs6, dOk, cv, zu1, zu2, zu3, eqB, Value.oneCell', zs7, zs8, zs9, zt1, zt2, isC, TK.agg, rv, rv1, ldV, zt3, zt4, zn1, zn2, zn3, zn4, zn5, zn6, zn7, reduceIte, reduceCtorEq, eq_self])); (repeat (first | refine x_seq rfl ?_ | refine go_ops ?_ | refine go_blk ?_ | refine x_skip rfl ?_ | refine x_blk rfl rfl ?_ | refine x_exit rfl rfl rfl ?_ | refine x_ift rfl rfl rfl ?_ | refine x_iff rfl rfl rfl ?_ | refine x_label rfl ?_ | ((first | refine x_reg rfl rfl ?_ | (refine go_newx hty hnt hmh rfl rfl ?_; intro _)); refine runo0 400 hty hnt hmh ?_; simp only [so, sq, zy, zz, tyE, zs1, zs2, zs3, zs4, zs5, ev, zs6, dOk, cv, zu1, zu2, zu3, eqB, Value.oneCell', zs7, zs8, zs9, zt1, zt2, isC, TK.agg, rv, rv1, ldV, zt3, zt4, zn1, zn2, zn3, zn4, zn5, zn6, zn7, reduceIte, reduceCtorEq, eq_self])))
        refine h_hs (allIn (by repeat (first | exact trivial | refine ⟨rfl, ?_⟩))) (by first | exact Le.refl _ | assumption) ?_
        refine h_take 6 rfl (by kernel_rfl) (by kernel_rfl) (by kernel_rfl) hQp (by rw [hnt]; rfl) (allIn (by repeat (first | exact trivial | refine ⟨rfl, ?_⟩))) (by first | exact Le.refl _ | assumption) (quiet_op (by rw [hty]; first | rfl | (simp only [so, sq, zy, zz, tyE, zs1, zs2, zs3, zs4, zs5, ev, zs6, dOk, cv, zu1, zu2, zu3, eqB, Value.oneCell', zs7, zs8, zs9, zt1, zt2, isC, TK.agg, rv, rv1, ldV, zt3, zt4, zn1, zn2, zn3, zn4, zn5, zn6, zn7, reduceIte, reduceCtorEq, eq_self]; rfl))) ?_; simp only [so, sq, zy, zz, tyE, zs1, zs2, zs3, zs4, zs5, ev, zs6, dOk, cv, zu1, zu2, zu3, eqB, Value.oneCell', zs7, zs8, zs9, zt1, zt2, isC, TK.agg, rv, rv1, ldV, zt3, zt4, zn1, zn2, zn3, zn4, zn5, zn6, zn7, reduceIte, reduceCtorEq, eq_self]
        refine h_one 7 rfl (by kernel_rfl) ?_
        (try (refine runo0 400 hty hnt hmh ?_; simp only [so, sq, zy, zz, tyE, zs1, zs2, zs3, zs4, zs5, ev, zs6, dOk, cv, zu1, zu2, zu3, eqB, Value.oneCell', zs7, zs8, zs9, zt1, zt2, isC, TK.agg, rv, rv1, ldV, zt3, zt4, zn1, zn2, zn3, zn4, zn5, zn6, zn7, reduceIte, reduceCtorEq, eq_self])); (repeat (first | refine x_seq rfl ?_ | refine go_ops ?_ | refine go_blk ?_ | refine x_skip rfl ?_ | refine x_blk rfl rfl ?_ | refine x_exit rfl rfl rfl ?_ | refine x_ift rfl rfl rfl ?_ | refine x_iff rfl rfl rfl ?_ | refine x_label rfl ?_ | ((first | refine x_reg rfl rfl ?_ | (refine go_newx hty hnt hmh rfl rfl ?_; intro _)); refine runo0 400 hty hnt hmh ?_; simp only [so, sq, zy, zz, tyE, zs1, zs2, zs3, zs4, zs5, ev, zs6, dOk, cv, zu1, zu2, zu3, eqB, Value.oneCell', zs7, zs8, zs9, zt1, zt2, isC, TK.agg, rv, rv1, ldV, zt3, zt4, zn1, zn2, zn3, zn4, zn5, zn6, zn7, reduceIte, reduceCtorEq, eq_self])))
        refine h_hs (allIn (by repeat (first | exact trivial | refine ⟨rfl, ?_⟩))) (by first | exact Le.refl _ | assumption) ?_
        refine h_end (by kernel_rfl) ?_
        (try (refine runo0 400 hty hnt hmh ?_; simp only [so, sq, zy, zz, tyE, zs1, zs2, zs3, zs4, zs5, ev, zs6, dOk, cv, zu1, zu2, zu3, eqB, Value.oneCell', zs7, zs8, zs9, zt1, zt2, isC, TK.agg, rv, rv1, ldV, zt3, zt4, zn1, zn2, zn3, zn4, zn5, zn6, zn7, reduceIte, reduceCtorEq, eq_self])); (repeat (first | refine x_seq rfl ?_ | refine go_ops ?_ | refine go_blk ?_ | refine x_skip rfl ?_ | refine x_blk rfl rfl ?_ | refine x_exit rfl rfl rfl ?_ | refine x_ift rfl rfl rfl ?_ | refine x_iff rfl rfl rfl ?_ | refine x_label rfl ?_ | ((first | refine x_reg rfl rfl ?_ | (refine go_newx hty hnt hmh rfl rfl ?_; intro _)); refine runo0 400 hty hnt hmh ?_; simp only [so, sq, zy, zz, tyE, zs1, zs2, zs3, zs4, zs5, ev, zs6, dOk, cv, zu1, zu2, zu3, eqB, Value.oneCell', zs7, zs8, zs9, zt1, zt2, isC, TK.agg, rv, rv1, ldV, zt3, zt4, zn1, zn2, zn3, zn4, zn5, zn6, zn7, reduceIte, reduceCtorEq, eq_self])))
        rw [wr (n := (k : Int) + 1) (by omega) (by omega)]
        refine go_zjoin 40 50 rfl rfl (by omega) (by omega) (by omega) ?_
        intro Z2
        refine go_keep [1, 2, 3, 7, 8, 9] [0, 1, 2, 40, 41] ?_
        simp only [so, sq, zy, zz, tyE, zs1, zs2, zs3, zs4, zs5, ev, zs6, dOk, cv, zu1, zu2, zu3, eqB, Value.oneCell', zs7, zs8, zs9, zt1, zt2, isC, TK.agg, rv, rv1, ldV, zt3, zt4, zn1, zn2, zn3, zn4, zn5, zn6, zn7, reduceIte, reduceCtorEq, eq_self]
        refine ih (p.length - (k + 1)) _ (by omega) ⟨k + 1, G2, vs ++ [(.slice adc (fu p k).nodes.length capc, ssc)], ad4, cap4, Z2, by omega, rfl, hle1.trans hle2, ?_, ?_⟩
        · rw [htk]; exact okC_snoc _ _ hvs hssc
        · rw [htk, rowsP_snoc _ _ (okC_len hvs), encP_snoc _ _ (okC_len hvs)]
          simp [dens, SV.den]
      · (try (refine runo0 400 hty hnt hmh ?_; simp only [so, sq, zy, zz, tyE, zs1, zs2, zs3, zs4, zs5, ev, zs6, dOk, cv, zu1, zu2, zu3, eqB, Value.oneCell', zs7, zs8, zs9, zt1, zt2, isC, TK.agg, rv, rv1, ldV, zt3, zt4, zn1, zn2, zn3, zn4, zn5, zn6, zn7, reduceIte, reduceCtorEq, eq_self])); (repeat (first | refine x_seq rfl ?_ | refine go_ops ?_ | refine go_blk ?_ | refine x_skip rfl ?_ | refine x_blk rfl rfl ?_ | refine x_exit rfl rfl rfl ?_ | refine x_ift rfl rfl rfl ?_ | refine x_iff rfl rfl rfl ?_ | refine x_label rfl ?_ | ((first | refine x_reg rfl rfl ?_ | (refine go_newx hty hnt hmh rfl rfl ?_; intro _)); refine runo0 400 hty hnt hmh ?_; simp only [so, sq, zy, zz, tyE, zs1, zs2, zs3, zs4, zs5, ev, zs6, dOk, cv, zu1, zu2, zu3, eqB, Value.oneCell', zs7, zs8, zs9, zt1, zt2, isC, TK.agg, rv, rv1, ldV, zt3, zt4, zn1, zn2, zn3, zn4, zn5, zn6, zn7, reduceIte, reduceCtorEq, eq_self])))
        refine h_hs (allIn (by repeat (first | exact trivial | refine ⟨rfl, ?_⟩))) (by first | exact Le.refl _ | assumption) ?_
        refine h_one 1 rfl (by kernel_rfl) ?_
        (try (refine runo0 400 hty hnt hmh ?_; simp only [so, sq, zy, zz, tyE, zs1, zs2, zs3, zs4, zs5, ev, zs6, dOk, cv, zu1, zu2, zu3, eqB, Value.oneCell', zs7, zs8, zs9, zt1, zt2, isC, TK.agg, rv, rv1, ldV, zt3, zt4, zn1, zn2, zn3, zn4, zn5, zn6, zn7, reduceIte, reduceCtorEq, eq_self])); (repeat (first | refine x_seq rfl ?_ | refine go_ops ?_ | refine go_blk ?_ | refine x_skip rfl ?_ | refine x_blk rfl rfl ?_ | refine x_exit rfl rfl rfl ?_ | refine x_ift rfl rfl rfl ?_ | refine x_iff rfl rfl rfl ?_ | refine x_label rfl ?_ | ((first | refine x_reg rfl rfl ?_ | (refine go_newx hty hnt hmh rfl rfl ?_; intro _)); refine runo0 400 hty hnt hmh ?_; simp only [so, sq, zy, zz, tyE, zs1, zs2, zs3, zs4, zs5, ev, zs6, dOk, cv, zu1, zu2, zu3, eqB, Value.oneCell', zs7, zs8, zs9, zt1, zt2, isC, TK.agg, rv, rv1, ldV, zt3, zt4, zn1, zn2, zn3, zn4, zn5, zn6, zn7, reduceIte, reduceCtorEq, eq_self])))
        refine h_hs (allIn (by repeat (first | exact trivial | refine ⟨rfl, ?_⟩))) (by first | exact Le.refl _ | assumption) ?_
        refine h_one 5 rfl (by kernel_rfl) ?_
        refine go_append 41 (by rw [hnt]; rfl) (by rw [hty]; rfl) (by rw [hty]; rfl) (by decide) rfl rfl rfl (by omega) rfl (src_own 2 rfl rfl) rfl (by simp [dens, SV.den, Value.oneCell']) (by omega) (by simp only []; omega) ?_
        intro v'
        refine go_rowS 41 rfl ?_
        rintro ad4 cap4 rfl
        (try (refine runo0 400 hty hnt hmh ?_; simp only [so, sq, zy, zz, tyE, zs1, zs2, zs3, zs4, zs5, ev, zs6, dOk, cv, zu1, zu2, zu3, eqB, Value.oneCell', zs7, zs8, zs9, zt1, zt2, isC, TK.agg, rv, rv1, ldV, zt3, zt4, zn1, zn2, zn3, zn4, zn5, zn6, zn7, reduceIte, reduceCtorEq, eq_self])); (repeat (first | refine x_seq rfl ?_ | refine go_ops ?_ | refine go_blk ?_ | refine x_skip rfl ?_ | refine x_blk rfl rfl ?_ | refine x_exit rfl rfl rfl ?_ | refine x_ift rfl rfl rfl ?_ | refine x_iff rfl rfl rfl ?_ | refine x_label rfl ?_ | ((first | refine x_reg rfl rfl ?_ | (refine go_newx hty hnt hmh rfl rfl ?_; intro _)); refine runo0 400 hty hnt hmh ?_; simp only [so, sq, zy, zz, tyE, zs1, zs2, zs3, zs4, zs5, ev, zs6, dOk, cv, zu1, zu2, zu3, eqB, Value.oneCell', zs7, zs8, zs9, zt1, zt2, isC, TK.agg, rv, rv1, ldV, zt3, zt4, zn1, zn2, zn3, zn4, zn5, zn6, zn7, reduceIte, reduceCtorEq, eq_self])))
        refine h_hs (allIn (by repeat (first | exact trivial | refine ⟨rfl, ?_⟩))) (by first | exact Le.refl _ | assumption) ?_
        refine h_take 6 rfl (by kernel_rfl) (by kernel_rfl) (by kernel_rfl) hQp (by rw [hnt]; rfl) (allIn (by repeat (first | exact trivial | refine ⟨rfl, ?_⟩))) (by first | exact Le.refl _ | assumption) (quiet_op (by rw [hty]; first | rfl | (simp only [so, sq, zy, zz, tyE, zs1, zs2, zs3, zs4, zs5, ev, zs6, dOk, cv, zu1, zu2, zu3, eqB, Value.oneCell', zs7, zs8, zs9, zt1, zt2, isC, TK.agg, rv, rv1, ldV, zt3, zt4, zn1, zn2, zn3, zn4, zn5, zn6, zn7, reduceIte, reduceCtorEq, eq_self]; rfl))) ?_; simp only [so, sq, zy, zz, tyE, zs1, zs2, zs3, zs4, zs5, ev, zs6, dOk, cv, zu1, zu2, zu3, eqB, Value.oneCell', zs7, zs8, zs9, zt1, zt2, isC, TK.agg, rv, rv1, ldV, zt3, zt4, zn1, zn2, zn3, zn4, zn5, zn6, zn7, reduceIte, reduceCtorEq, eq_self]
        refine h_one 7 rfl (by kernel_rfl) ?_
        (try (refine runo0 400 hty hnt hmh ?_; simp only [so, sq, zy, zz, tyE, zs1, zs2, zs3, zs4, zs5, ev, zs6, dOk, cv, zu1, zu2, zu3, eqB, Value.oneCell', zs7, zs8, zs9, zt1, zt2, isC, TK.agg, rv, rv1, ldV, zt3, zt4, zn1, zn2, zn3, zn4, zn5, zn6, zn7, reduceIte, reduceCtorEq, eq_self])); (repeat (first | refine x_seq rfl ?_ | refine go_ops ?_ | refine go_blk ?_ | refine x_skip rfl ?_ | refine x_blk rfl rfl ?_ | refine x_exit rfl rfl rfl ?_ | refine x_ift rfl rfl rfl ?_ | refine x_iff rfl rfl rfl ?_ | refine x_label rfl ?_ | ((first | refine x_reg rfl rfl ?_ | (refine go_newx hty hnt hmh rfl rfl ?_; intro _)); refine runo0 400 hty hnt hmh ?_; simp only [so, sq, zy, zz, tyE, zs1, zs2, zs3, zs4, zs5, ev, zs6, dOk, cv, zu1, zu2, zu3, eqB, Value.oneCell', zs7, zs8, zs9, zt1, zt2, isC, TK.agg, rv, rv1, ldV, zt3, zt4, zn1, zn2, zn3, zn4, zn5, zn6, zn7, reduceIte, reduceCtorEq, eq_self])))
        refine h_hs (allIn (by repeat (first | exact trivial | refine ⟨rfl, ?_⟩))) (by first | exact Le.refl _ | assumption) ?_
        refine h_end (by kernel_rfl) ?_
        (try (refine runo0 400 hty hnt hmh ?_; simp only [so, sq, zy, zz, tyE, zs1, zs2, zs3, zs4, zs5, ev, zs6, dOk, cv, zu1, zu2, zu3, eqB, Value.oneCell', zs7, zs8, zs9, zt1, zt2, isC, TK.agg, rv, rv1, ldV, zt3, zt4, zn1, zn2, zn3, zn4, zn5, zn6, zn7, reduceIte, reduceCtorEq, eq_self])); (repeat (first | refine x_seq rfl ?_ | refine go_ops ?_ | refine go_blk ?_ | refine x_skip rfl ?_ | refine x_blk rfl rfl ?_ | refine x_exit rfl rfl rfl ?_ | refine x_ift rfl rfl rfl ?_ | refine x_iff rfl rfl rfl ?_ | refine x_label rfl ?_ | ((first | refine x_reg rfl rfl ?_ | (refine go_newx hty hnt hmh rfl rfl ?_; intro _)); refine runo0 400 hty hnt hmh ?_; simp only [so, sq, zy, zz, tyE, zs1, zs2, zs3, zs4, zs5, ev, zs6, dOk, cv, zu1, zu2, zu3, eqB, Value.oneCell', zs7, zs8, zs9, zt1, zt2, isC, TK.agg, rv, rv1, ldV, zt3, zt4, zn1, zn2, zn3, zn4, zn5, zn6, zn7, reduceIte, reduceCtorEq, eq_self])))
        rw [wr (n := (k : Int) + 1) (by omega) (by omega)]
        refine go_zjoin 40 50 rfl rfl (by omega) (by omega) (by omega) ?_
        intro Z2
        refine go_keep [1, 2, 3, 7, 8, 9] [0, 1, 2, 40, 41] ?_
        simp only [so, sq, zy, zz, tyE, zs1, zs2, zs3, zs4, zs5, ev, zs6, dOk, cv, zu1, zu2, zu3, eqB, Value.oneCell', zs7, zs8, zs9, zt1, zt2, isC, TK.agg, rv, rv1, ldV, zt3, zt4, zn1, zn2, zn3, zn4, zn5, zn6, zn7, reduceIte, reduceCtorEq, eq_self]
        refine ih (p.length - (k + 1)) _ (by omega) ⟨k + 1, G2, vs ++ [(.slice adc (fu p k).nodes.length capc, ssc)], ad4, cap4, Z2, by omega, rfl, hle1.trans hle2, ?_, ?_⟩
        · rw [htk]; exact okC_snoc _ _ hvs hssc
        · rw [htk, rowsP_snoc _ _ (okC_len hvs), encP_snoc _ _ (okC_len hvs)]
          simp [dens, SV.den]
  · have hge : k = p.length := by simp at hjl; omega
    subst hge
    clear ih
    rw [List.take_length]
    refine go_zadd 40 41 rfl rfl (by omega) (by omega) (by omega) ?_
    intro Z2
    simp only [so, sq, zy, zz, tyE, zs1, zs2, zs3, zs4, zs5, ev, zs6, dOk, cv, zu1, zu2, zu3, eqB, Value.oneCell', zs7, zs8, zs9, zt1, zt2, isC, TK.agg, rv, rv1, ldV, zt3, zt4, zn1, zn2, zn3, zn4, zn5, zn6, zn7, reduceIte, reduceCtorEq, eq_self]
    (try (refine runo0 400 hty hnt hmh ?_; simp only [so, sq, zy, zz, tyE, zs1, zs2, zs3, zs4, zs5, ev, zs6, dOk, cv, zu1, zu2, zu3, eqB, Value.oneCell', zs7, zs8, zs9, zt1, zt2, isC, TK.agg, rv, rv1, ldV, zt3, zt4, zn1, zn2, zn3, zn4, zn5, zn6, zn7, reduceIte, reduceCtorEq, eq_self])); (repeat (first | refine x_seq rfl ?_ | refine go_ops ?_ | refine go_blk ?_ | refine x_skip rfl ?_ | refine x_blk rfl rfl ?_ | refine x_exit rfl rfl rfl ?_ | refine x_ift rfl rfl rfl ?_ | refine x_iff rfl rfl rfl ?_ | refine x_label rfl ?_ | ((first | refine x_reg rfl rfl ?_ | (refine go_newx hty hnt hmh rfl rfl ?_; intro _)); refine runo0 400 hty hnt hmh ?_; simp only [so, sq, zy, zz, tyE, zs1, zs2, zs3, zs4, zs5, ev, zs6, dOk, cv, zu1, zu2, zu3, eqB, Value.oneCell', zs7, zs8, zs9, zt1, zt2, isC, TK.agg, rv, rv1, ldV, zt3, zt4, zn1, zn2, zn3, zn4, zn5, zn6, zn7, reduceIte, reduceCtorEq, eq_self])))
    refine x_retV 40 rfl hQ hmb hmh rfl (by rw [hty]; simp only [so, sq, zy, zz, tyE, zs1, zs2, zs3, zs4, zs5, ev, zs6, dOk, cv, zu1, zu2, zu3, eqB, Value.oneCell', zs7, zs8, zs9, zt1, zt2, isC, TK.agg, rv, rv1, ldV, zt3, zt4, zn1, zn2, zn3, zn4, zn5, zn6, zn7, reduceIte, reduceCtorEq, eq_self]; try rfl) rfl rfl ?_
    exact ⟨ad3, cap3, vs, by simpa using hvs, by simp [resV, SV.den, dens], rfl⟩
end Go.Proofs.Ytmdkenpodcnnbaa
namespace Go.Proofs.Ytmdkenpodcnnbaa
open Go.Sx renaming SO' → zs1, SQ' → zs2, opQ → zs3, opStore → zs4, opAlloc → zs5, putS → zs6, ldOwn → zs7, binInt → zs8, binConst → zs9, binBool → zt1, binStr → zt2, resOne → zt3, resV → zt4
open Go.Sx.SV renaming cs → zu1, one → zu2, bool? → zu3
open Nat renaming reduceAdd → zn1, reduceMul → zn2, reduceSub → zn3, reduceLT → zn4, reduceLeDiff → zn5, reduceEqDiff → zn6, reduceBEq → zn7
set_option linter.unusedSimpArgs false
set_option linter.unusedVariables false
open Go.Sx
theorem whr_or (f : Fu) : (whr f).2 = 0 ∨ (whr f).2 = 60 := by
  simp only [whr]
  cases places f <;> simp
/-- A node shifted. -/
def shNd (d : Int) (x : Nd) : Nd := if nms x.op then ⟨x.op, x.n + d, x.l⟩ else x
def shF (d : Int) (f : Fu) : Fu := ⟨f.params, f.nodes.map (shNd d)⟩
def shOk (d : Int) (f : Fu) : Bool := (calP f).all fun x => decide (x.2 + d < 64)
def shR (l : Pr) (d : Int) : Pr × Int :=
  if d < 0 ∨ 64 < d then ([], 2) else if l.all (fun f => (whr f).2 == 0) = false then ([], 60) else if l.all (shOk d) then (l.map (shF d), 0) else ([], 3)
def appL (d : Int) (ns : List Nd) (L : Pl) : List Nd := L.foldl (fun ns x => ns.set x.1.toNat ⟨(ns.getD x.1.toNat ndD).op, x.2 + d, (ns.getD x.1.toNat ndD).l⟩) ns
theorem appL_len (d : Int) : ∀ (L : Pl) (ns : List Nd), (appL d ns L).length = ns.length
  | [], _ => rfl
  | x :: L, ns => by simp only [appL, List.foldl_cons]; exact (appL_len d L _).trans (by simp)
theorem appL_snoc (d : Int) (L : Pl) (ns : List Nd) (x : Int × Int) : appL d ns (L ++ [x]) = (appL d ns L).set x.1.toNat ⟨((appL d ns L).getD x.1.toNat ndD).op, x.2 + d, ((appL d ns L).getD x.1.toNat ndD).l⟩ := by
  simp [appL]
theorem appL_cals (d : Int) : ∀ (l : List Nd) (pre : List Nd), appL d (pre ++ l) (cals l pre.length) = pre ++ l.map (shNd d)
  | [], pre => by simp [cals, appL]
  | x :: l, pre => by
    simp only [cals]
    by_cases h : nms x.op = true
    · rw [if_pos h]
      simp only [appL, List.foldl_cons, Int.toNat_natCast]
      have h1 : (pre ++ x :: l).getD pre.length ndD = x := by simp
      have h2 : (pre ++ x :: l).set pre.length ⟨x.op, x.n + d, x.l⟩ = (pre ++ [shNd d x]) ++ l := by simp [shNd, h]
      rw [h1, h2]
      have := appL_cals d l (pre ++ [shNd d x])
      simp only [List.length_append, List.length_cons, List.length_nil, Nat.zero_add] at this
      exact this.trans (by simp)
    · rw [if_neg h]
      have := appL_cals d l (pre ++ [x])
      simp only [List.length_append, List.length_cons, List.length_nil, Nat.zero_add] at this
      have e : shNd d x = x := by simp [shNd, h]
      simpa [e] using this
theorem calP_eq {f : Fu} (h : (whr f).2 = 0) : calP f = cals f.nodes 0 := by
  simp only [whr] at h
  simp only [calP]
  cases hp : places f with
  | inl a => rw [hp] at h; simp at h
  | inr A => rfl
theorem appL_all {d : Int} {f : Fu} (h : (whr f).2 = 0) : appL d f.nodes (calP f) = f.nodes.map (shNd d) := by
  rw [calP_eq h]; exact appL_cals d f.nodes []
theorem valid_bd {f : Fu} (h : (whr f).2 = 0) : f.nodes.length ≤ 200 ∧ 0 ≤ f.params ∧ f.params ≤ 9 ∧ ∀ x ∈ f.nodes, x.l.length ≤ 16 := by
  simp only [whr] at h
  cases hp : places f with
  | inl a => rw [hp] at h; simp at h
  | inr A =>
    have ht := tree hp
    refine ⟨ht.n200, ht.par9.1, ht.par9.2, fun x hx => ?_⟩
    obtain ⟨j, hj, rfl⟩ := List.getElem_of_mem hx
    have h1 := (ht.ok j hj).2.1
    rw [nd_eq hj] at h1
    simp only [ben, chl, Bool.and_eq_true, decide_eq_true_eq] at h1
    have h2 := h1.2
    repeat' split at h2
    all_goals first | omega | (simp at h2; omega) | (simp at h2; simp [h2])
theorem rowsL_map {g : Nd → Nd} (hg : ∀ x, (g x).l = x.l) : ∀ (l : List Nd) (ss : List Value), rowsL (l.map g) ss = rowsL l ss
  | [], _ => rfl
  | x :: l, [] => rfl
  | x :: l, s :: ss => by simp [rowsL, hg, rowsL_map hg l ss]
theorem shNd_l (d : Int) (x : Nd) : (shNd d x).l = x.l := by simp only [shNd]; split <;> rfl
theorem shNd_ok {d : Int} {f : Fu} (hv : (whr f).2 = 0) (h0 : 0 ≤ d) (h64 : d ≤ 64) (ho : okN f.nodes) : okN (f.nodes.map (shNd d)) := by
  intro y hy
  obtain ⟨x, hx, rfl⟩ := List.mem_map.1 hy
  obtain ⟨o1, o2, o3⟩ := ho x hx
  simp only [shNd]
  split
  · rename_i hn
    obtain ⟨j, hj, rfl⟩ := List.getElem_of_mem hx
    have := nms_range hv hj hn
    exact ⟨o1, by simp only [isI64]; omega, o3⟩
  · exact ⟨o1, o2, o3⟩

theorem RF_set {d : Int} {f : Fu} {ns : Value} {ss : List Value} (h : ss.length = f.nodes.length) : ((RF f ns ss).set f.nodes.length (Rw.nil 51 3)).set f.nodes.length ⟨51, 3, ns, f.nodes.length, encN (f.nodes.map (shNd d)) ss⟩ = RF (shF d f) ns ss := by
  rw [List.set_set]
  simp only [RF, shF, rowsL_map (shNd_l d), List.length_map]
  rw [List.set_append_right _ _ (by rw [rowsL_len h]; exact Nat.le_refl _), rowsL_len h, Nat.sub_self]
  rfl
set_option maxHeartbeats 8000000
theorem shift_ok (l : Pr) (ls : Value) (d : Int) (G : Hp) (hl : rF.S G l ls) (hd : isI64 d) (hlen : l.length ≤ 1000) :
    Pure Try.prog 20 [ls, .int .i64 d] G (fun v G' => ∃ sl, v = .tuple #[sl, .int .i64 (shR l d).2] ∧ rF.S G' (shR l d).1 sl) := by
  have hl0 := hl
  have hlok := rF_ok hl
  obtain ⟨adp, capp, rfl⟩ := Rp.S_slice hl
  refine enterM ty tyok Try.func20 rfl Try.ntmps20 [.v (.slice adp l.length capp), .v (.int .i64 d)] (by simp) ?_
  intro C hP hQ hnt hty hmb hmh hro; have hQp := qp_bodyM hQ; simp only [so, sq, zy, zz, tyE, zs1, zs2, zs3, zs4, zs5, ev, zs6, dOk, cv, zu1, zu2, zu3, eqB, Value.oneCell', zs7, zs8, zs9, zt1, zt2, isC, TK.agg, rv, rv1, ldV, zt3, zt4, zn1, zn2, zn3, zn4, zn5, zn6, zn7, reduceIte, reduceCtorEq, eq_self]
  (try (refine runo0 400 hty hnt hmh ?_; simp only [so, sq, zy, zz, tyE, zs1, zs2, zs3, zs4, zs5, ev, zs6, dOk, cv, zu1, zu2, zu3, eqB, Value.oneCell', zs7, zs8, zs9, zt1, zt2, isC, TK.agg, rv, rv1, ldV, zt3, zt4, zn1, zn2, zn3, zn4, zn5, zn6, zn7, reduceIte, reduceCtorEq, eq_self])); (repeat (first | refine x_seq rfl ?_ | refine go_ops ?_ | refine go_blk ?_ | refine x_skip rfl ?_ | refine x_blk rfl rfl ?_ | refine x_exit rfl rfl rfl ?_ | refine x_ift rfl rfl rfl ?_ | refine x_iff rfl rfl rfl ?_ | refine x_label rfl ?_ | ((first | refine x_reg rfl rfl ?_ | (refine go_newx hty hnt hmh rfl rfl ?_; intro _)); refine runo0 400 hty hnt hmh ?_; simp only [so, sq, zy, zz, tyE, zs1, zs2, zs3, zs4, zs5, ev, zs6, dOk, cv, zu1, zu2, zu3, eqB, Value.oneCell', zs7, zs8, zs9, zt1, zt2, isC, TK.agg, rv, rv1, ldV, zt3, zt4, zn1, zn2, zn3, zn4, zn5, zn6, zn7, reduceIte, reduceCtorEq, eq_self])))
  rename_i b1 b2 b3
  refine go_marks 20 rfl (by omega) ?_
  simp only [so, sq, zy, zz, tyE, zs1, zs2, zs3, zs4, zs5, ev, zs6, dOk, cv, zu1, zu2, zu3, eqB, Value.oneCell', zs7, zs8, zs9, zt1, zt2, isC, TK.agg, rv, rv1, ldV, zt3, zt4, zn1, zn2, zn3, zn4, zn5, zn6, zn7, reduceIte, reduceCtorEq, eq_self]
  refine go_gsplit rfl rfl (fun h1 => ?_) (fun h1 => ?_) <;> (simp only [so, sq, zy, zz, tyE, zs1, zs2, zs3, zs4, zs5, ev, zs6, dOk, cv, zu1, zu2, zu3, eqB, Value.oneCell', zs7, zs8, zs9, zt1, zt2, isC, TK.agg, rv, rv1, ldV, zt3, zt4, zn1, zn2, zn3, zn4, zn5, zn6, zn7, reduceIte, reduceCtorEq, eq_self]; ((try (refine runo0 400 hty hnt hmh ?_; simp only [so, sq, zy, zz, tyE, zs1, zs2, zs3, zs4, zs5, ev, zs6, dOk, cv, zu1, zu2, zu3, eqB, Value.oneCell', zs7, zs8, zs9, zt1, zt2, isC, TK.agg, rv, rv1, ldV, zt3, zt4, zn1, zn2, zn3, zn4, zn5, zn6, zn7, reduceIte, reduceCtorEq, eq_self])); (repeat (first | refine x_seq rfl ?_ | refine go_ops ?_ | refine go_blk ?_ | refine x_skip rfl ?_ | refine x_blk rfl rfl ?_ | refine x_exit rfl rfl rfl ?_ | refine x_ift rfl rfl rfl ?_ | refine x_iff rfl rfl rfl ?_ | refine x_label rfl ?_ | ((first | refine x_reg rfl rfl ?_ | (refine go_newx hty hnt hmh rfl rfl ?_; intro _)); refine runo0 400 hty hnt hmh ?_; simp only [so, sq, zy, zz, tyE, zs1, zs2, zs3, zs4, zs5, ev, zs6, dOk, cv, zu1, zu2, zu3, eqB, Value.oneCell', zs7, zs8, zs9, zt1, zt2, isC, TK.agg, rv, rv1, ldV, zt3, zt4, zn1, zn2, zn3, zn4, zn5, zn6, zn7, reduceIte, reduceCtorEq, eq_self])))))
  · refine x_retM 20 rfl hQ hmb rfl rfl rfl (by rw [hty]; simp only [so, sq, zy, zz, tyE, zs1, zs2, zs3, zs4, zs5, ev, zs6, dOk, cv, zu1, zu2, zu3, eqB, Value.oneCell', zs7, zs8, zs9, zt1, zt2, isC, TK.agg, rv, rv1, ldV, zt3, zt4, zn1, zn2, zn3, zn4, zn5, zn6, zn7, reduceIte, reduceCtorEq, eq_self]; try rfl) ?_; simp only [SV.den, resV, dens]
    rw [shR, if_pos (.inl (of_decide_eq_true h1))]
    exact ⟨_, rfl, Rp.S_nil _ _⟩
  refine x_split rfl rfl rfl (fun h2 => ?_) (fun h2 => ?_) <;> (simp only [so, sq, zy, zz, tyE, zs1, zs2, zs3, zs4, zs5, ev, zs6, dOk, cv, zu1, zu2, zu3, eqB, Value.oneCell', zs7, zs8, zs9, zt1, zt2, isC, TK.agg, rv, rv1, ldV, zt3, zt4, zn1, zn2, zn3, zn4, zn5, zn6, zn7, reduceIte, reduceCtorEq, eq_self]; (repeat (first | refine x_seq rfl ?_ | refine go_ops ?_ | refine go_blk ?_ | refine x_skip rfl ?_ | refine x_blk rfl rfl ?_ | refine x_exit rfl rfl rfl ?_ | refine x_ift rfl rfl rfl ?_ | refine x_iff rfl rfl rfl ?_ | refine x_label rfl ?_ | ((first | refine x_reg rfl rfl ?_ | (refine go_newx hty hnt hmh rfl rfl ?_; intro _)); refine runo0 400 hty hnt hmh ?_; simp only [so, sq, zy, zz, tyE, zs1, zs2, zs3, zs4, zs5, ev, zs6, dOk, cv, zu1, zu2, zu3, eqB, Value.oneCell', zs7, zs8, zs9, zt1, zt2, isC, TK.agg, rv, rv1, ldV, zt3, zt4, zn1, zn2, zn3, zn4, zn5, zn6, zn7, reduceIte, reduceCtorEq, eq_self]))))
  · refine x_retM 20 rfl hQ hmb rfl rfl rfl (by rw [hty]; simp only [so, sq, zy, zz, tyE, zs1, zs2, zs3, zs4, zs5, ev, zs6, dOk, cv, zu1, zu2, zu3, eqB, Value.oneCell', zs7, zs8, zs9, zt1, zt2, isC, TK.agg, rv, rv1, ldV, zt3, zt4, zn1, zn2, zn3, zn4, zn5, zn6, zn7, reduceIte, reduceCtorEq, eq_self]; try rfl) ?_; simp only [SV.den, resV, dens]
    rw [shR, if_pos (.inr (of_decide_eq_true h2))]
    exact ⟨_, rfl, Rp.S_nil _ _⟩
  have hd0 : ¬ (d < 0 ∨ 64 < d) := by have := of_decide_eq_false h1; have := of_decide_eq_false h2; omega
  refine go_keep [0, 3, 4, 5, 21, 22, 23] [0, 1, 2, 20] ?_
  simp only [so, sq, zy, zz, tyE, zs1, zs2, zs3, zs4, zs5, ev, zs6, dOk, cv, zu1, zu2, zu3, eqB, Value.oneCell', zs7, zs8, zs9, zt1, zt2, isC, TK.agg, rv, rv1, ldV, zt3, zt4, zn1, zn2, zn3, zn4, zn5, zn6, zn7, reduceIte, reduceCtorEq, eq_self]
  refine x_loop rfl (fun q s => ∃ i : Nat, i ≤ l.length ∧ q = l.length - i ∧ (∀ f ∈ l.take i, (whr f).2 = 0) ∧
    s = ⟨[(0, .v (.slice adp l.length capp)), (3, .p 0 b1 0), (4, .p 1 b2 0), (5, .p 2 b3 0), (21, .v (.slice adp l.length capp)), (22, .v (.int .i64 l.length)), (23, .v (.int .i64 i))],
      [(0, b1, .c 3 [.v (.int .i64 d)]), (1, b2, .c 22 [.v (.slice none 0 0)]), (2, b3, .c 27 [.v (.int .i64 0)]), (20, 0, dzO [])], G, []⟩) ⟨0, by omega, rfl, by simp, rfl⟩ ?_
  rintro q s ⟨i, hi, hq, hall, rfl⟩ ih
  (try (refine runo0 400 hty hnt hmh ?_; simp only [so, sq, zy, zz, tyE, zs1, zs2, zs3, zs4, zs5, ev, zs6, dOk, cv, zu1, zu2, zu3, eqB, Value.oneCell', zs7, zs8, zs9, zt1, zt2, isC, TK.agg, rv, rv1, ldV, zt3, zt4, zn1, zn2, zn3, zn4, zn5, zn6, zn7, reduceIte, reduceCtorEq, eq_self])); (repeat (first | refine x_seq rfl ?_ | refine go_ops ?_ | refine go_blk ?_ | refine x_skip rfl ?_ | refine x_blk rfl rfl ?_ | refine x_exit rfl rfl rfl ?_ | refine x_ift rfl rfl rfl ?_ | refine x_iff rfl rfl rfl ?_ | refine x_label rfl ?_ | ((first | refine x_reg rfl rfl ?_ | (refine go_newx hty hnt hmh rfl rfl ?_; intro _)); refine runo0 400 hty hnt hmh ?_; simp only [so, sq, zy, zz, tyE, zs1, zs2, zs3, zs4, zs5, ev, zs6, dOk, cv, zu1, zu2, zu3, eqB, Value.oneCell', zs7, zs8, zs9, zt1, zt2, isC, TK.agg, rv, rv1, ldV, zt3, zt4, zn1, zn2, zn3, zn4, zn5, zn6, zn7, reduceIte, reduceCtorEq, eq_self])))
  refine x_if rfl rfl rfl rfl (fun hil => ?_) (fun hil => ?_)
  · have hlt : i < l.length := by simp at hil; omega
    have htk : l.take (i + 1) = l.take i ++ [fu l i] := by rw [fu_eq hlt, List.take_append_getElem]
    obtain ⟨bp, op, nsp, rfl, hatp, hpp, hnp⟩ := rF_at hl0 hlt
    have hc := check_ok (fu l i) nsp G hpp hnp
    obtain ⟨adn, capn, rfl⟩ := Rp.S_slice hnp
    (try (refine runo0 400 hty hnt hmh ?_; simp only [so, sq, zy, zz, tyE, zs1, zs2, zs3, zs4, zs5, ev, zs6, dOk, cv, zu1, zu2, zu3, eqB, Value.oneCell', zs7, zs8, zs9, zt1, zt2, isC, TK.agg, rv, rv1, ldV, zt3, zt4, zn1, zn2, zn3, zn4, zn5, zn6, zn7, reduceIte, reduceCtorEq, eq_self])); (repeat (first | refine x_seq rfl ?_ | refine go_ops ?_ | refine go_blk ?_ | refine x_skip rfl ?_ | refine x_blk rfl rfl ?_ | refine x_exit rfl rfl rfl ?_ | refine x_ift rfl rfl rfl ?_ | refine x_iff rfl rfl rfl ?_ | refine x_label rfl ?_ | ((first | refine x_reg rfl rfl ?_ | (refine go_newx hty hnt hmh rfl rfl ?_; intro _)); refine runo0 400 hty hnt hmh ?_; simp only [so, sq, zy, zz, tyE, zs1, zs2, zs3, zs4, zs5, ev, zs6, dOk, cv, zu1, zu2, zu3, eqB, Value.oneCell', zs7, zs8, zs9, zt1, zt2, isC, TK.agg, rv, rv1, ldV, zt3, zt4, zn1, zn2, zn3, zn4, zn5, zn6, zn7, reduceIte, reduceCtorEq, eq_self])))
    refine go_q (by rw [hnt]; rfl) (quiet_index (by rw [hty]; rfl) (by rw [hty]; rfl) rfl rfl rfl (by omega) (by omega)) ?_
    (try (refine runo0 400 hty hnt hmh ?_; simp only [so, sq, zy, zz, tyE, zs1, zs2, zs3, zs4, zs5, ev, zs6, dOk, cv, zu1, zu2, zu3, eqB, Value.oneCell', zs7, zs8, zs9, zt1, zt2, isC, TK.agg, rv, rv1, ldV, zt3, zt4, zn1, zn2, zn3, zn4, zn5, zn6, zn7, reduceIte, reduceCtorEq, eq_self])); (repeat (first | refine x_seq rfl ?_ | refine go_ops ?_ | refine go_blk ?_ | refine x_skip rfl ?_ | refine x_blk rfl rfl ?_ | refine x_exit rfl rfl rfl ?_ | refine x_ift rfl rfl rfl ?_ | refine x_iff rfl rfl rfl ?_ | refine x_label rfl ?_ | ((first | refine x_reg rfl rfl ?_ | (refine go_newx hty hnt hmh rfl rfl ?_; intro _)); refine runo0 400 hty hnt hmh ?_; simp only [so, sq, zy, zz, tyE, zs1, zs2, zs3, zs4, zs5, ev, zs6, dOk, cv, zu1, zu2, zu3, eqB, Value.oneCell', zs7, zs8, zs9, zt1, zt2, isC, TK.agg, rv, rv1, ldV, zt3, zt4, zn1, zn2, zn3, zn4, zn5, zn6, zn7, reduceIte, reduceCtorEq, eq_self])))
    refine go_q (by rw [hnt]; rfl) (quiet_load (by rw [hty]; rfl) rfl (by simp [TK.agg]) hatp rfl) ?_
    (try (refine runo0 400 hty hnt hmh ?_; simp only [so, sq, zy, zz, tyE, zs1, zs2, zs3, zs4, zs5, ev, zs6, dOk, cv, zu1, zu2, zu3, eqB, Value.oneCell', zs7, zs8, zs9, zt1, zt2, isC, TK.agg, rv, rv1, ldV, zt3, zt4, zn1, zn2, zn3, zn4, zn5, zn6, zn7, reduceIte, reduceCtorEq, eq_self])); (repeat (first | refine x_seq rfl ?_ | refine go_ops ?_ | refine go_blk ?_ | refine x_skip rfl ?_ | refine x_blk rfl rfl ?_ | refine x_exit rfl rfl rfl ?_ | refine x_ift rfl rfl rfl ?_ | refine x_iff rfl rfl rfl ?_ | refine x_label rfl ?_ | ((first | refine x_reg rfl rfl ?_ | (refine go_newx hty hnt hmh rfl rfl ?_; intro _)); refine runo0 400 hty hnt hmh ?_; simp only [so, sq, zy, zz, tyE, zs1, zs2, zs3, zs4, zs5, ev, zs6, dOk, cv, zu1, zu2, zu3, eqB, Value.oneCell', zs7, zs8, zs9, zt1, zt2, isC, TK.agg, rv, rv1, ldV, zt3, zt4, zn1, zn2, zn3, zn4, zn5, zn6, zn7, reduceIte, reduceCtorEq, eq_self])))
    refine go_callf (by rw [hnt]; rfl) (by rw [hP]; kernel_rfl) rfl (hP ▸ hc) ?_; (try (refine runo0 400 hty hnt hmh ?_; simp only [so, sq, zy, zz, tyE, zs1, zs2, zs3, zs4, zs5, ev, zs6, dOk, cv, zu1, zu2, zu3, eqB, Value.oneCell', zs7, zs8, zs9, zt1, zt2, isC, TK.agg, rv, rv1, ldV, zt3, zt4, zn1, zn2, zn3, zn4, zn5, zn6, zn7, reduceIte, reduceCtorEq, eq_self])); (repeat (first | refine x_seq rfl ?_ | refine go_ops ?_ | refine go_blk ?_ | refine x_skip rfl ?_ | refine x_blk rfl rfl ?_ | refine x_exit rfl rfl rfl ?_ | refine x_ift rfl rfl rfl ?_ | refine x_iff rfl rfl rfl ?_ | refine x_label rfl ?_ | ((first | refine x_reg rfl rfl ?_ | (refine go_newx hty hnt hmh rfl rfl ?_; intro _)); refine runo0 400 hty hnt hmh ?_; simp only [so, sq, zy, zz, tyE, zs1, zs2, zs3, zs4, zs5, ev, zs6, dOk, cv, zu1, zu2, zu3, eqB, Value.oneCell', zs7, zs8, zs9, zt1, zt2, isC, TK.agg, rv, rv1, ldV, zt3, zt4, zn1, zn2, zn3, zn4, zn5, zn6, zn7, reduceIte, reduceCtorEq, eq_self])))
    refine x_split rfl rfl rfl (fun hw => ?_) (fun hw => ?_) <;> (simp only [so, sq, zy, zz, tyE, zs1, zs2, zs3, zs4, zs5, ev, zs6, dOk, cv, zu1, zu2, zu3, eqB, Value.oneCell', zs7, zs8, zs9, zt1, zt2, isC, TK.agg, rv, rv1, ldV, zt3, zt4, zn1, zn2, zn3, zn4, zn5, zn6, zn7, reduceIte, reduceCtorEq, eq_self]; (repeat (first | refine x_seq rfl ?_ | refine go_ops ?_ | refine go_blk ?_ | refine x_skip rfl ?_ | refine x_blk rfl rfl ?_ | refine x_exit rfl rfl rfl ?_ | refine x_ift rfl rfl rfl ?_ | refine x_iff rfl rfl rfl ?_ | refine x_label rfl ?_ | ((first | refine x_reg rfl rfl ?_ | (refine go_newx hty hnt hmh rfl rfl ?_; intro _)); refine runo0 400 hty hnt hmh ?_; simp only [so, sq, zy, zz, tyE, zs1, zs2, zs3, zs4, zs5, ev, zs6, dOk, cv, zu1, zu2, zu3, eqB, Value.oneCell', zs7, zs8, zs9, zt1, zt2, isC, TK.agg, rv, rv1, ldV, zt3, zt4, zn1, zn2, zn3, zn4, zn5, zn6, zn7, reduceIte, reduceCtorEq, eq_self]))))
    · refine x_retM 20 rfl hQ hmb rfl rfl rfl (by rw [hty]; simp only [so, sq, zy, zz, tyE, zs1, zs2, zs3, zs4, zs5, ev, zs6, dOk, cv, zu1, zu2, zu3, eqB, Value.oneCell', zs7, zs8, zs9, zt1, zt2, isC, TK.agg, rv, rv1, ldV, zt3, zt4, zn1, zn2, zn3, zn4, zn5, zn6, zn7, reduceIte, reduceCtorEq, eq_self]; try rfl) ?_; simp only [SV.den, resV, dens]
      have hw' : (whr (fu l i)).2 ≠ 0 := by simpa using hw
      have h60 := (whr_or (fu l i)).resolve_left hw'
      have : l.all (fun f => (whr f).2 == 0) = false := by
        rw [← Bool.not_eq_true, List.all_eq_true]
        intro h
        exact hw' (by simpa using h (fu l i) (by rw [fu_eq hlt]; exact List.getElem_mem _))
      rw [shR, if_neg hd0, if_pos this, h60]
      exact ⟨_, rfl, Rp.S_nil _ _⟩
    · rw [wr (n := (i : Int) + 1) (by omega) (by omega)]
      refine go_keep [0, 3, 4, 5, 21, 22, 23] [0, 1, 2, 20] ?_
      simp only [so, sq, zy, zz, tyE, zs1, zs2, zs3, zs4, zs5, ev, zs6, dOk, cv, zu1, zu2, zu3, eqB, Value.oneCell', zs7, zs8, zs9, zt1, zt2, isC, TK.agg, rv, rv1, ldV, zt3, zt4, zn1, zn2, zn3, zn4, zn5, zn6, zn7, reduceIte, reduceCtorEq, eq_self]
      refine ih (l.length - (i + 1)) _ (by omega) ⟨i + 1, by omega, rfl, fun f hf => ?_, by simp⟩
      rw [htk] at hf
      rcases List.mem_append.1 hf with hf | hf
      · exact hall f hf
      · simp at hf; subst hf; simpa using hw
  have hge : i = l.length := by simp at hil; omega
  subst hge
  clear ih hil hq hi
  rw [List.take_length] at hall
  have hall' : l.all (fun f => (whr f).2 == 0) = true := by rw [List.all_eq_true]; intro f hf; simp [hall f hf]
  have hsh : shR l d = if l.all (shOk d) then (l.map (shF d), 0) else ([], 3) := by rw [shR, if_neg hd0, if_neg (by simp [hall'])]
  (try (refine runo0 400 hty hnt hmh ?_; simp only [so, sq, zy, zz, tyE, zs1, zs2, zs3, zs4, zs5, ev, zs6, dOk, cv, zu1, zu2, zu3, eqB, Value.oneCell', zs7, zs8, zs9, zt1, zt2, isC, TK.agg, rv, rv1, ldV, zt3, zt4, zn1, zn2, zn3, zn4, zn5, zn6, zn7, reduceIte, reduceCtorEq, eq_self])); (repeat (first | refine x_seq rfl ?_ | refine go_ops ?_ | refine go_blk ?_ | refine x_skip rfl ?_ | refine x_blk rfl rfl ?_ | refine x_exit rfl rfl rfl ?_ | refine x_ift rfl rfl rfl ?_ | refine x_iff rfl rfl rfl ?_ | refine x_label rfl ?_ | ((first | refine x_reg rfl rfl ?_ | (refine go_newx hty hnt hmh rfl rfl ?_; intro _)); refine runo0 400 hty hnt hmh ?_; simp only [so, sq, zy, zz, tyE, zs1, zs2, zs3, zs4, zs5, ev, zs6, dOk, cv, zu1, zu2, zu3, eqB, Value.oneCell', zs7, zs8, zs9, zt1, zt2, isC, TK.agg, rv, rv1, ldV, zt3, zt4, zn1, zn2, zn3, zn4, zn5, zn6, zn7, reduceIte, reduceCtorEq, eq_self])))
  refine go_nilrow 41 46 2 rfl (by omega) ?_
  refine go_keep [0, 3, 4, 5, 9, 33, 34, 35] [0, 1, 2, 20, 41] ?_
  simp only [so, sq, zy, zz, tyE, zs1, zs2, zs3, zs4, zs5, ev, zs6, dOk, cv, zu1, zu2, zu3, eqB, Value.oneCell', zs7, zs8, zs9, zt1, zt2, isC, TK.agg, rv, rv1, ldV, zt3, zt4, zn1, zn2, zn3, zn4, zn5, zn6, zn7, reduceIte, reduceCtorEq, eq_self]
  refine x_loop rfl (fun q s => ∃ (i : Nat) (G' : Hp) (xs : List Value) (ad3 : Option Addr) (cap3 : Nat) (ds : List Nat), i ≤ l.length ∧ q = l.length - i ∧ Le G G' ∧ (l.take i).all (shOk d) = true ∧ rF.L G' ((l.take i).map (shF d)) xs ∧
    s = ⟨[(0, .v (.slice adp l.length capp)), (3, .p 0 b1 0), (4, .p 1 b2 0), (5, .p 2 b3 0), (9, .v (.slice ad3 i cap3)), (33, .v (.slice adp l.length capp)), (34, .v (.int .i64 l.length)), (35, .v (.int .i64 i))],
      [(0, b1, .c 3 [.v (.int .i64 d)]), (1, b2, .c 22 [.v (.slice none 0 0)]), (2, b3, .c 27 [.v (.int .i64 0)]), (20, 0, dzO ds), (41, 0, .row (.slice ad3 i cap3) 46 2 i xs)], G', ds.map mkD⟩) ⟨0, G, [], none, 0, [], by omega, rfl, Le.refl _, by simp, rfl, rfl⟩ ?_
  rintro q s ⟨i, G1, xs, ad3, cap3, ds, hi, hq, hle1, hok1, hL1, rfl⟩ ih
  (try (refine runo0 400 hty hnt hmh ?_; simp only [so, sq, zy, zz, tyE, zs1, zs2, zs3, zs4, zs5, ev, zs6, dOk, cv, zu1, zu2, zu3, eqB, Value.oneCell', zs7, zs8, zs9, zt1, zt2, isC, TK.agg, rv, rv1, ldV, zt3, zt4, zn1, zn2, zn3, zn4, zn5, zn6, zn7, reduceIte, reduceCtorEq, eq_self])); (repeat (first | refine x_seq rfl ?_ | refine go_ops ?_ | refine go_blk ?_ | refine x_skip rfl ?_ | refine x_blk rfl rfl ?_ | refine x_exit rfl rfl rfl ?_ | refine x_ift rfl rfl rfl ?_ | refine x_iff rfl rfl rfl ?_ | refine x_label rfl ?_ | ((first | refine x_reg rfl rfl ?_ | (refine go_newx hty hnt hmh rfl rfl ?_; intro _)); refine runo0 400 hty hnt hmh ?_; simp only [so, sq, zy, zz, tyE, zs1, zs2, zs3, zs4, zs5, ev, zs6, dOk, cv, zu1, zu2, zu3, eqB, Value.oneCell', zs7, zs8, zs9, zt1, zt2, isC, TK.agg, rv, rv1, ldV, zt3, zt4, zn1, zn2, zn3, zn4, zn5, zn6, zn7, reduceIte, reduceCtorEq, eq_self])))
  refine x_if rfl rfl rfl rfl (fun hil => ?_) (fun hil => ?_)
  · have hlt : i < l.length := by simp at hil; omega
    have htk : l.take (i + 1) = l.take i ++ [fu l i] := by rw [fu_eq hlt, List.take_append_getElem]
    have hmem : fu l i ∈ l := by rw [fu_eq hlt]; exact List.getElem_mem _
    have hv := hall _ hmem
    obtain ⟨hb200, hb9, hb9', hb16⟩ := valid_bd hv
    obtain ⟨bp, op, nsp, rfl, hatp, hpp, hnp⟩ := rF_at hl0 hlt
    have hnp1 := Rp.S_mono hle1 hnp
    have hokf := (hlok _ hmem).2
    generalize hfi : fu l i = f at *
    have hcc := copy_ok f nsp G1 hnp1 (by omega) (fun x hx => by have := hb16 x hx; omega)
    have hca := fun G2 (hle : Le G1 G2) => calls_ok f nsp G2 hpp (Rp.S_mono hle hnp1)
    obtain ⟨adn, capn, rfl⟩ := Rp.S_slice hnp
    (try (refine runo0 400 hty hnt hmh ?_; simp only [so, sq, zy, zz, tyE, zs1, zs2, zs3, zs4, zs5, ev, zs6, dOk, cv, zu1, zu2, zu3, eqB, Value.oneCell', zs7, zs8, zs9, zt1, zt2, isC, TK.agg, rv, rv1, ldV, zt3, zt4, zn1, zn2, zn3, zn4, zn5, zn6, zn7, reduceIte, reduceCtorEq, eq_self])); (repeat (first | refine x_seq rfl ?_ | refine go_ops ?_ | refine go_blk ?_ | refine x_skip rfl ?_ | refine x_blk rfl rfl ?_ | refine x_exit rfl rfl rfl ?_ | refine x_ift rfl rfl rfl ?_ | refine x_iff rfl rfl rfl ?_ | refine x_label rfl ?_ | ((first | refine x_reg rfl rfl ?_ | (refine go_newx hty hnt hmh rfl rfl ?_; intro _)); refine runo0 400 hty hnt hmh ?_; simp only [so, sq, zy, zz, tyE, zs1, zs2, zs3, zs4, zs5, ev, zs6, dOk, cv, zu1, zu2, zu3, eqB, Value.oneCell', zs7, zs8, zs9, zt1, zt2, isC, TK.agg, rv, rv1, ldV, zt3, zt4, zn1, zn2, zn3, zn4, zn5, zn6, zn7, reduceIte, reduceCtorEq, eq_self])))
    refine go_q (by rw [hnt]; rfl) (quiet_index (by rw [hty]; rfl) (by rw [hty]; rfl) rfl rfl rfl (by omega) (by omega)) ?_
    (try (refine runo0 400 hty hnt hmh ?_; simp only [so, sq, zy, zz, tyE, zs1, zs2, zs3, zs4, zs5, ev, zs6, dOk, cv, zu1, zu2, zu3, eqB, Value.oneCell', zs7, zs8, zs9, zt1, zt2, isC, TK.agg, rv, rv1, ldV, zt3, zt4, zn1, zn2, zn3, zn4, zn5, zn6, zn7, reduceIte, reduceCtorEq, eq_self])); (repeat (first | refine x_seq rfl ?_ | refine go_ops ?_ | refine go_blk ?_ | refine x_skip rfl ?_ | refine x_blk rfl rfl ?_ | refine x_exit rfl rfl rfl ?_ | refine x_ift rfl rfl rfl ?_ | refine x_iff rfl rfl rfl ?_ | refine x_label rfl ?_ | ((first | refine x_reg rfl rfl ?_ | (refine go_newx hty hnt hmh rfl rfl ?_; intro _)); refine runo0 400 hty hnt hmh ?_; simp only [so, sq, zy, zz, tyE, zs1, zs2, zs3, zs4, zs5, ev, zs6, dOk, cv, zu1, zu2, zu3, eqB, Value.oneCell', zs7, zs8, zs9, zt1, zt2, isC, TK.agg, rv, rv1, ldV, zt3, zt4, zn1, zn2, zn3, zn4, zn5, zn6, zn7, reduceIte, reduceCtorEq, eq_self])))
    refine go_q (by rw [hnt]; rfl) (quiet_load (by rw [hty]; rfl) rfl (by simp [TK.agg]) (hatp.mono hle1) rfl) ?_
    (try (refine runo0 400 hty hnt hmh ?_; simp only [so, sq, zy, zz, tyE, zs1, zs2, zs3, zs4, zs5, ev, zs6, dOk, cv, zu1, zu2, zu3, eqB, Value.oneCell', zs7, zs8, zs9, zt1, zt2, isC, TK.agg, rv, rv1, ldV, zt3, zt4, zn1, zn2, zn3, zn4, zn5, zn6, zn7, reduceIte, reduceCtorEq, eq_self])); (repeat (first | refine x_seq rfl ?_ | refine go_ops ?_ | refine go_blk ?_ | refine x_skip rfl ?_ | refine x_blk rfl rfl ?_ | refine x_exit rfl rfl rfl ?_ | refine x_ift rfl rfl rfl ?_ | refine x_iff rfl rfl rfl ?_ | refine x_label rfl ?_ | ((first | refine x_reg rfl rfl ?_ | (refine go_newx hty hnt hmh rfl rfl ?_; intro _)); refine runo0 400 hty hnt hmh ?_; simp only [so, sq, zy, zz, tyE, zs1, zs2, zs3, zs4, zs5, ev, zs6, dOk, cv, zu1, zu2, zu3, eqB, Value.oneCell', zs7, zs8, zs9, zt1, zt2, isC, TK.agg, rv, rv1, ldV, zt3, zt4, zn1, zn2, zn3, zn4, zn5, zn6, zn7, reduceIte, reduceCtorEq, eq_self])))
    refine go_callV 50 (by rw [hnt]; rfl) (by rw [hP]; kernel_rfl) rfl rfl (by omega) (hP ▸ hcc) ?_
    rintro v G2 rs Z5 (hle2 : Le G1 G2) ⟨adc, capc, ss, hss, rfl, rfl⟩
    (try (refine runo0 400 hty hnt hmh ?_; simp only [so, sq, zy, zz, tyE, zs1, zs2, zs3, zs4, zs5, ev, zs6, dOk, cv, zu1, zu2, zu3, eqB, Value.oneCell', zs7, zs8, zs9, zt1, zt2, isC, TK.agg, rv, rv1, ldV, zt3, zt4, zn1, zn2, zn3, zn4, zn5, zn6, zn7, reduceIte, reduceCtorEq, eq_self])); (repeat (first | refine x_seq rfl ?_ | refine go_ops ?_ | refine go_blk ?_ | refine x_skip rfl ?_ | refine x_blk rfl rfl ?_ | refine x_exit rfl rfl rfl ?_ | refine x_ift rfl rfl rfl ?_ | refine x_iff rfl rfl rfl ?_ | refine x_label rfl ?_ | ((first | refine x_reg rfl rfl ?_ | (refine go_newx hty hnt hmh rfl rfl ?_; intro _)); refine runo0 400 hty hnt hmh ?_; simp only [so, sq, zy, zz, tyE, zs1, zs2, zs3, zs4, zs5, ev, zs6, dOk, cv, zu1, zu2, zu3, eqB, Value.oneCell', zs7, zs8, zs9, zt1, zt2, isC, TK.agg, rv, rv1, ldV, zt3, zt4, zn1, zn2, zn3, zn4, zn5, zn6, zn7, reduceIte, reduceCtorEq, eq_self])))
    refine go_call (by rw [hnt]; rfl) (by rw [hP]; kernel_rfl) rfl (hP ▸ hca G2 hle2) ?_
    rintro v G3 (hle3 : Le G2 G3) ⟨fn, cp, rfl, hfc, hit⟩
    replace hit := hit.mono (diff_le G3 G2)
    (try (refine runo0 400 hty hnt hmh ?_; simp only [so, sq, zy, zz, tyE, zs1, zs2, zs3, zs4, zs5, ev, zs6, dOk, cv, zu1, zu2, zu3, eqB, Value.oneCell', zs7, zs8, zs9, zt1, zt2, isC, TK.agg, rv, rv1, ldV, zt3, zt4, zn1, zn2, zn3, zn4, zn5, zn6, zn7, reduceIte, reduceCtorEq, eq_self])); (repeat (first | refine x_seq rfl ?_ | refine go_ops ?_ | refine go_blk ?_ | refine x_skip rfl ?_ | refine x_blk rfl rfl ?_ | refine x_exit rfl rfl rfl ?_ | refine x_ift rfl rfl rfl ?_ | refine x_iff rfl rfl rfl ?_ | refine x_label rfl ?_ | ((first | refine x_reg rfl rfl ?_ | (refine go_newx hty hnt hmh rfl rfl ?_; intro _)); refine runo0 400 hty hnt hmh ?_; simp only [so, sq, zy, zz, tyE, zs1, zs2, zs3, zs4, zs5, ev, zs6, dOk, cv, zu1, zu2, zu3, eqB, Value.oneCell', zs7, zs8, zs9, zt1, zt2, isC, TK.agg, rv, rv1, ldV, zt3, zt4, zn1, zn2, zn3, zn4, zn5, zn6, zn7, reduceIte, reduceCtorEq, eq_self])))
    rename_i b4 b5
    have hns3 := Rp.S_mono (hle1.trans (hle2.trans hle3)) hnp
    refine go_keep [0, 3, 4, 5, 9, 12, 33, 34, 35, 42] [0, 1, 2, 20, 41, 50, 51] ?_
    simp only [so, sq, zy, zz, tyE, zs1, zs2, zs3, zs4, zs5, ev, zs6, dOk, cv, zu1, zu2, zu3, eqB, Value.oneCell', zs7, zs8, zs9, zt1, zt2, isC, TK.agg, rv, rv1, ldV, zt3, zt4, zn1, zn2, zn3, zn4, zn5, zn6, zn7, reduceIte, reduceCtorEq, eq_self]
    have hrN : (RF f (.slice adc f.nodes.length capc) ss)[f.nodes.length]? = some ⟨51, 3, .slice adc f.nodes.length capc, f.nodes.length, encN f.nodes ss⟩ := by simp [RF, List.getElem?_append_right, rowsL_len hss]
    refine go_ztake 50 60 f.nodes.length rfl hrN rfl (by omega) (by omega) ?_
    intro Z6
    simp only [so, sq, zy, zz, tyE, zs1, zs2, zs3, zs4, zs5, ev, zs6, dOk, cv, zu1, zu2, zu3, eqB, Value.oneCell', zs7, zs8, zs9, zt1, zt2, isC, TK.agg, rv, rv1, ldV, zt3, zt4, zn1, zn2, zn3, zn4, zn5, zn6, zn7, reduceIte, reduceCtorEq, eq_self]
    refine cut_tail 2 (fun s' => ∃ (G' : Hp) (D : Nat), Le G3 G' ∧ shOk d f = true ∧
      s' = ⟨[(0, .v (.slice (some ⟨bp, op, none⟩) l.length capp)), (3, .p 0 b1 0), (4, .p 1 b2 0), (5, .p 2 b3 0), (9, .v (.slice ad3 i cap3)), (12, .p 51 b5 0), (33, .v (.slice (some ⟨bp, op, none⟩) l.length capp)), (34, .v (.int .i64 l.length)), (35, .v (.int .i64 i))],
      [(0, b1, .c 3 [.v (.int .i64 d)]), (1, b2, .c 22 [.v (.slice none 0 0)]), (2, b3, .c 27 [.v (.int .i64 0)]), (20, 0, dzO (D :: ds)), (41, 0, .row (.slice ad3 i cap3) 46 2 i xs),
       (50, 0, .z (ZR ((RF f (.slice adc f.nodes.length capc) ss).set f.nodes.length (Rw.nil 51 3))) Z6 Z6), (51, b5, .c 46 [.v (.int .i64 f.params), .v (.slice adc f.nodes.length capc)]),
       (60, 0, .row (.slice adc f.nodes.length capc) 51 3 f.nodes.length (encN (f.nodes.map (shNd d)) ss))], G', (D :: ds).map mkD⟩) ?_ (fun key => ?_)
    rotate_left
    · refine x_range 20 rfl rfl (ps := #[43, 44]) rfl hro hmh rfl rfl hfc (by rw [hnt]; decide) hit (encII_mono _) (fun _ _ _ h => by obtain ⟨_, _, rfl⟩ := h; rfl)
        (fun k own => (∀ x ∈ (calP f).take k, x.2 + d < 64) ∧ own = [(0, b1, .c 3 [.v (.int .i64 d)]), (1, b2, .c 22 [.v (.slice none 0 0)]), (2, b3, .c 27 [.v (.int .i64 0)]), (20, 0, dzO ds), (41, 0, .row (.slice ad3 i cap3) 46 2 i xs),
       (50, 0, .z (ZR ((RF f (.slice adc f.nodes.length capc) ss).set f.nodes.length (Rw.nil 51 3))) Z6 Z6), (51, b5, .c 46 [.v (.int .i64 f.params), .v (.slice adc f.nodes.length capc)]),
       (60, 0, .row (.slice adc f.nodes.length capc) 51 3 f.nodes.length (encN (appL d f.nodes ((calP f).take k)) ss))])
        (fun c own => c = .ret ∧ shOk d f = false ∧ own = [(0, b1, .c 3 [.v (.int .i64 d)]), (1, b2, .c 22 [.v (.slice none 0 0)]), (2, b3, .c 27 [.v (.int .i64 3)]), (20, 0, dzO ds)])
        (fun i own h => by obtain ⟨_, rfl⟩ := h; exact ⟨keys_lt rfl, (by repeat (first | exact plain_nil | refine plain_cons (fun _ h => h) ?_)), rfl⟩) (fun _ _ h => by obtain ⟨_, _, rfl⟩ := h; exact ⟨(by repeat (first | exact plain_nil | refine plain_cons (fun _ h => h) ?_)), rfl⟩) ⟨by simp, rfl⟩ ?_ ?_ ?_
      · rintro C' C0 k own vs G7 lp D r hiN ⟨hk0, rfl⟩ (hle7 : Le G3 G7) ⟨x, hLk, rfl⟩ hR
        have htk2 : (calP f).take (k + 1) = (calP f).take k ++ [x] := by
          obtain ⟨hk, e⟩ := List.getElem?_eq_some_iff.1 hLk
          rw [← e, List.take_append_getElem]
        have hxm : x ∈ calP f := List.mem_of_getElem? hLk
        obtain ⟨m, hm, rfl, hnm, h0, h63⟩ := calP_get hLk
        have hd1 := hd0
        have hnt2 := hR.nt.trans hnt; have hty2 := hR.ty.trans hty; have hP2 := hR.P.trans hP; clear hQ hQp hnt hty hP hmh hmb hro; have hnt := hnt2; have hty := hty2; have hP := hP2; have hmh := hR.mh; have hQp := hR.qp; simp only [putsS, List.toList_toArray]; simp only [so, sq, zy, zz, tyE, zs1, zs2, zs3, zs4, zs5, ev, zs6, dOk, cv, zu1, zu2, zu3, eqB, Value.oneCell', zs7, zs8, zs9, zt1, zt2, isC, TK.agg, rv, rv1, ldV, zt3, zt4, zn1, zn2, zn3, zn4, zn5, zn6, zn7, reduceIte, reduceCtorEq, eq_self]
        (try (refine runo0 400 hty hnt hmh ?_; simp only [so, sq, zy, zz, tyE, zs1, zs2, zs3, zs4, zs5, ev, zs6, dOk, cv, zu1, zu2, zu3, eqB, Value.oneCell', zs7, zs8, zs9, zt1, zt2, isC, TK.agg, rv, rv1, ldV, zt3, zt4, zn1, zn2, zn3, zn4, zn5, zn6, zn7, reduceIte, reduceCtorEq, eq_self])); (repeat (first | refine x_seq rfl ?_ | refine go_ops ?_ | refine go_blk ?_ | refine x_skip rfl ?_ | refine x_blk rfl rfl ?_ | refine x_exit rfl rfl rfl ?_ | refine x_ift rfl rfl rfl ?_ | refine x_iff rfl rfl rfl ?_ | refine x_label rfl ?_ | ((first | refine x_reg rfl rfl ?_ | (refine go_newx hty hnt hmh rfl rfl ?_; intro _)); refine runo0 400 hty hnt hmh ?_; simp only [so, sq, zy, zz, tyE, zs1, zs2, zs3, zs4, zs5, ev, zs6, dOk, cv, zu1, zu2, zu3, eqB, Value.oneCell', zs7, zs8, zs9, zt1, zt2, isC, TK.agg, rv, rv1, ldV, zt3, zt4, zn1, zn2, zn3, zn4, zn5, zn6, zn7, reduceIte, reduceCtorEq, eq_self])))
        refine go_br rfl hR.ready ?_
        simp only [so, sq, zy, zz, tyE, zs1, zs2, zs3, zs4, zs5, ev, zs6, dOk, cv, zu1, zu2, zu3, eqB, Value.oneCell', zs7, zs8, zs9, zt1, zt2, isC, TK.agg, rv, rv1, ldV, zt3, zt4, zn1, zn2, zn3, zn4, zn5, zn6, zn7, reduceIte, reduceCtorEq, eq_self]
        (try (refine runo0 400 hty hnt hmh ?_; simp only [so, sq, zy, zz, tyE, zs1, zs2, zs3, zs4, zs5, ev, zs6, dOk, cv, zu1, zu2, zu3, eqB, Value.oneCell', zs7, zs8, zs9, zt1, zt2, isC, TK.agg, rv, rv1, ldV, zt3, zt4, zn1, zn2, zn3, zn4, zn5, zn6, zn7, reduceIte, reduceCtorEq, eq_self])); (repeat (first | refine x_seq rfl ?_ | refine go_ops ?_ | refine go_blk ?_ | refine x_skip rfl ?_ | refine x_blk rfl rfl ?_ | refine x_exit rfl rfl rfl ?_ | refine x_ift rfl rfl rfl ?_ | refine x_iff rfl rfl rfl ?_ | refine x_label rfl ?_ | ((first | refine x_reg rfl rfl ?_ | (refine go_newx hty hnt hmh rfl rfl ?_; intro _)); refine runo0 400 hty hnt hmh ?_; simp only [so, sq, zy, zz, tyE, zs1, zs2, zs3, zs4, zs5, ev, zs6, dOk, cv, zu1, zu2, zu3, eqB, Value.oneCell', zs7, zs8, zs9, zt1, zt2, isC, TK.agg, rv, rv1, ldV, zt3, zt4, zn1, zn2, zn3, zn4, zn5, zn6, zn7, reduceIte, reduceCtorEq, eq_self])))
        rw [wr (n := f.nodes[m].n + d) (by omega) (by omega)]
        refine x_split rfl rfl rfl (fun h64 => ?_) (fun h64 => ?_) <;> (simp only [so, sq, zy, zz, tyE, zs1, zs2, zs3, zs4, zs5, ev, zs6, dOk, cv, zu1, zu2, zu3, eqB, Value.oneCell', zs7, zs8, zs9, zt1, zt2, isC, TK.agg, rv, rv1, ldV, zt3, zt4, zn1, zn2, zn3, zn4, zn5, zn6, zn7, reduceIte, reduceCtorEq, eq_self]; (repeat (first | refine x_seq rfl ?_ | refine go_ops ?_ | refine go_blk ?_ | refine x_skip rfl ?_ | refine x_blk rfl rfl ?_ | refine x_exit rfl rfl rfl ?_ | refine x_ift rfl rfl rfl ?_ | refine x_iff rfl rfl rfl ?_ | refine x_label rfl ?_ | ((first | refine x_reg rfl rfl ?_ | (refine go_newx hty hnt hmh rfl rfl ?_; intro _)); refine runo0 400 hty hnt hmh ?_; simp only [so, sq, zy, zz, tyE, zs1, zs2, zs3, zs4, zs5, ev, zs6, dOk, cv, zu1, zu2, zu3, eqB, Value.oneCell', zs7, zs8, zs9, zt1, zt2, isC, TK.agg, rv, rv1, ldV, zt3, zt4, zn1, zn2, zn3, zn4, zn5, zn6, zn7, reduceIte, reduceCtorEq, eq_self]))))
        · refine go_keep [3] [998, 999, 0, 1, 2, 20] ?_
          simp only [so, sq, zy, zz, tyE, zs1, zs2, zs3, zs4, zs5, ev, zs6, dOk, cv, zu1, zu2, zu3, eqB, Value.oneCell', zs7, zs8, zs9, zt1, zt2, isC, TK.agg, rv, rv1, ldV, zt3, zt4, zn1, zn2, zn3, zn4, zn5, zn6, zn7, reduceIte, reduceCtorEq, eq_self]
          refine x_rret rfl hR rfl rfl ?_
          exact ⟨rfl, List.all_eq_false.2 ⟨_, hxm, by have := of_decide_eq_true h64; simp; omega⟩, rfl⟩
        · have h64' := of_decide_eq_false h64
          have hml : m < (appL d f.nodes ((calP f).take k)).length := by rw [appL_len]; exact hm
          refine go_rowcases 60 rfl (fun _ h0 _ => by omega) ?_
          intro g capg hse hcg hxl
          cases hse
          refine go_q (by rw [hnt]; rfl) (quiet_index (by rw [hty]; rfl) (by rw [hty]; rfl) rfl rfl rfl (by omega) (by omega)) ?_
          (try (refine runo0 400 hty hnt hmh ?_; simp only [so, sq, zy, zz, tyE, zs1, zs2, zs3, zs4, zs5, ev, zs6, dOk, cv, zu1, zu2, zu3, eqB, Value.oneCell', zs7, zs8, zs9, zt1, zt2, isC, TK.agg, rv, rv1, ldV, zt3, zt4, zn1, zn2, zn3, zn4, zn5, zn6, zn7, reduceIte, reduceCtorEq, eq_self])); (repeat (first | refine x_seq rfl ?_ | refine go_ops ?_ | refine go_blk ?_ | refine x_skip rfl ?_ | refine x_blk rfl rfl ?_ | refine x_exit rfl rfl rfl ?_ | refine x_ift rfl rfl rfl ?_ | refine x_iff rfl rfl rfl ?_ | refine x_label rfl ?_ | ((first | refine x_reg rfl rfl ?_ | (refine go_newx hty hnt hmh rfl rfl ?_; intro _)); refine runo0 400 hty hnt hmh ?_; simp only [so, sq, zy, zz, tyE, zs1, zs2, zs3, zs4, zs5, ev, zs6, dOk, cv, zu1, zu2, zu3, eqB, Value.oneCell', zs7, zs8, zs9, zt1, zt2, isC, TK.agg, rv, rv1, ldV, zt3, zt4, zn1, zn2, zn3, zn4, zn5, zn6, zn7, reduceIte, reduceCtorEq, eq_self])))
          rw [wr (n := f.nodes[m].n + d) (by omega) (by omega)]
          refine go_storeR 60 rfl (by rw [hty]; rfl) rfl rfl rfl rfl rfl rfl (layN (f.nodes[m].n + d) ((appL d f.nodes ((calP f).take k)).getD m ndD).l (by rw [appL_len]; exact hss) hml (by simp) rfl) ?_
          (try (refine runo0 400 hty hnt hmh ?_; simp only [so, sq, zy, zz, tyE, zs1, zs2, zs3, zs4, zs5, ev, zs6, dOk, cv, zu1, zu2, zu3, eqB, Value.oneCell', zs7, zs8, zs9, zt1, zt2, isC, TK.agg, rv, rv1, ldV, zt3, zt4, zn1, zn2, zn3, zn4, zn5, zn6, zn7, reduceIte, reduceCtorEq, eq_self])); (repeat (first | refine x_seq rfl ?_ | refine go_ops ?_ | refine go_blk ?_ | refine x_skip rfl ?_ | refine x_blk rfl rfl ?_ | refine x_exit rfl rfl rfl ?_ | refine x_ift rfl rfl rfl ?_ | refine x_iff rfl rfl rfl ?_ | refine x_label rfl ?_ | ((first | refine x_reg rfl rfl ?_ | (refine go_newx hty hnt hmh rfl rfl ?_; intro _)); refine runo0 400 hty hnt hmh ?_; simp only [so, sq, zy, zz, tyE, zs1, zs2, zs3, zs4, zs5, ev, zs6, dOk, cv, zu1, zu2, zu3, eqB, Value.oneCell', zs7, zs8, zs9, zt1, zt2, isC, TK.agg, rv, rv1, ldV, zt3, zt4, zn1, zn2, zn3, zn4, zn5, zn6, zn7, reduceIte, reduceCtorEq, eq_self])))
          refine go_keep [3] [998, 999, 0, 1, 2, 20, 41, 50, 51, 60] ?_
          simp only [so, sq, zy, zz, tyE, zs1, zs2, zs3, zs4, zs5, ev, zs6, dOk, cv, zu1, zu2, zu3, eqB, Value.oneCell', zs7, zs8, zs9, zt1, zt2, isC, TK.agg, rv, rv1, ldV, zt3, zt4, zn1, zn2, zn3, zn4, zn5, zn6, zn7, reduceIte, reduceCtorEq, eq_self]
          refine go_rend hR rfl rfl ?_
          refine ⟨fun x hx => ?_, ?_⟩
          · rw [htk2] at hx
            rcases List.mem_append.1 hx with hx | hx
            · exact hk0 x hx
            · simp at hx; subst hx; simp; omega
          · rw [htk2, appL_snoc]
            simp only [Int.toNat_natCast, rmk, reduceIte, Nat.reduceEqDiff]
            simp [List.getD, hml]
      · rintro D own G7 ⟨hk0, rfl⟩ (hle7 : Le G3 G7)
        rw [List.take_length] at hk0
        simp only [so, sq, zy, zz, tyE, zs1, zs2, zs3, zs4, zs5, ev, zs6, dOk, cv, zu1, zu2, zu3, eqB, Value.oneCell', zs7, zs8, zs9, zt1, zt2, isC, TK.agg, rv, rv1, ldV, zt3, zt4, zn1, zn2, zn3, zn4, zn5, zn6, zn7, reduceIte, reduceCtorEq, eq_self]
        refine go_blk ?_
        refine go_keep [0, 3, 4, 5, 9, 12, 33, 34, 35] [0, 1, 2, 20, 41, 50, 51, 60] ?_
        simp only [so, sq, zy, zz, tyE, zs1, zs2, zs3, zs4, zs5, ev, zs6, dOk, cv, zu1, zu2, zu3, eqB, Value.oneCell', zs7, zs8, zs9, zt1, zt2, isC, TK.agg, rv, rv1, ldV, zt3, zt4, zn1, zn2, zn3, zn4, zn5, zn6, zn7, reduceIte, reduceCtorEq, eq_self]
        exact key _ ⟨G7, D, hle7, by simpa [shOk] using hk0, by rw [List.take_length, appL_all hv]; rfl⟩
      · rintro D c own G7 ⟨rfl, hbad, rfl⟩ (hle7 : Le G3 G7)
        simp only [so, sq, zy, zz, tyE, zs1, zs2, zs3, zs4, zs5, ev, zs6, dOk, cv, zu1, zu2, zu3, eqB, Value.oneCell', zs7, zs8, zs9, zt1, zt2, isC, TK.agg, rv, rv1, ldV, zt3, zt4, zn1, zn2, zn3, zn4, zn5, zn6, zn7, reduceIte, reduceCtorEq, eq_self]
        refine x_retM 20 rfl hQ hmb rfl rfl rfl (by rw [hty]; simp only [so, sq, zy, zz, tyE, zs1, zs2, zs3, zs4, zs5, ev, zs6, dOk, cv, zu1, zu2, zu3, eqB, Value.oneCell', zs7, zs8, zs9, zt1, zt2, isC, TK.agg, rv, rv1, ldV, zt3, zt4, zn1, zn2, zn3, zn4, zn5, zn6, zn7, reduceIte, reduceCtorEq, eq_self]; try rfl) ?_; simp only [SV.den, resV, dens]
        rw [hsh, if_neg (by rw [Bool.not_eq_true, List.all_eq_false]; exact ⟨f, hmem, by simp [hbad]⟩)]
        exact ⟨_, rfl, Rp.S_nil _ _⟩
    · rintro s' ⟨G7, D, hle7, hshok, rfl⟩
      simp only [List.drop_succ_cons, List.drop_zero]
      (try (refine runo0 400 hty hnt hmh ?_; simp only [so, sq, zy, zz, tyE, zs1, zs2, zs3, zs4, zs5, ev, zs6, dOk, cv, zu1, zu2, zu3, eqB, Value.oneCell', zs7, zs8, zs9, zt1, zt2, isC, TK.agg, rv, rv1, ldV, zt3, zt4, zn1, zn2, zn3, zn4, zn5, zn6, zn7, reduceIte, reduceCtorEq, eq_self])); (repeat (first | refine x_seq rfl ?_ | refine go_ops ?_ | refine go_blk ?_ | refine x_skip rfl ?_ | refine x_blk rfl rfl ?_ | refine x_exit rfl rfl rfl ?_ | refine x_ift rfl rfl rfl ?_ | refine x_iff rfl rfl rfl ?_ | refine x_label rfl ?_ | ((first | refine x_reg rfl rfl ?_ | (refine go_newx hty hnt hmh rfl rfl ?_; intro _)); refine runo0 400 hty hnt hmh ?_; simp only [so, sq, zy, zz, tyE, zs1, zs2, zs3, zs4, zs5, ev, zs6, dOk, cv, zu1, zu2, zu3, eqB, Value.oneCell', zs7, zs8, zs9, zt1, zt2, isC, TK.agg, rv, rv1, ldV, zt3, zt4, zn1, zn2, zn3, zn4, zn5, zn6, zn7, reduceIte, reduceCtorEq, eq_self])))
      refine go_append 41 (by rw [hnt]; rfl) (by rw [hty]; rfl) (by rw [hty]; rfl) (by decide) rfl rfl rfl (by omega) rfl (src_own 2 rfl rfl) rfl (by simp [dens, SV.den, Value.oneCell']) (by omega) (by simp only []; omega) ?_
      intro v'
      refine go_rowS 41 rfl ?_
      rintro ad4 cap4 rfl
      (try (refine runo0 400 hty hnt hmh ?_; simp only [so, sq, zy, zz, tyE, zs1, zs2, zs3, zs4, zs5, ev, zs6, dOk, cv, zu1, zu2, zu3, eqB, Value.oneCell', zs7, zs8, zs9, zt1, zt2, isC, TK.agg, rv, rv1, ldV, zt3, zt4, zn1, zn2, zn3, zn4, zn5, zn6, zn7, reduceIte, reduceCtorEq, eq_self])); (repeat (first | refine x_seq rfl ?_ | refine go_ops ?_ | refine go_blk ?_ | refine x_skip rfl ?_ | refine x_blk rfl rfl ?_ | refine x_exit rfl rfl rfl ?_ | refine x_ift rfl rfl rfl ?_ | refine x_iff rfl rfl rfl ?_ | refine x_label rfl ?_ | ((first | refine x_reg rfl rfl ?_ | (refine go_newx hty hnt hmh rfl rfl ?_; intro _)); refine runo0 400 hty hnt hmh ?_; simp only [so, sq, zy, zz, tyE, zs1, zs2, zs3, zs4, zs5, ev, zs6, dOk, cv, zu1, zu2, zu3, eqB, Value.oneCell', zs7, zs8, zs9, zt1, zt2, isC, TK.agg, rv, rv1, ldV, zt3, zt4, zn1, zn2, zn3, zn4, zn5, zn6, zn7, reduceIte, reduceCtorEq, eq_self])))
      refine go_zgive 50 60 f.nodes.length rfl (by rw [List.getElem?_set_self (by simp [RF, rowsL_len hss])]) rfl rfl (by omega) (by omega) (by omega) ?_
      intro Z7
      simp only [so, sq, zy, zz, tyE, zs1, zs2, zs3, zs4, zs5, ev, zs6, dOk, cv, zu1, zu2, zu3, eqB, Value.oneCell', zs7, zs8, zs9, zt1, zt2, isC, TK.agg, rv, rv1, ldV, zt3, zt4, zn1, zn2, zn3, zn4, zn5, zn6, zn7, reduceIte, reduceCtorEq, eq_self]
      rw [RF_set hss]
      refine go_zpub 50 rfl (by omega) ?_
      intro G8 (hle8 : Le G7 G8) hrows
      simp only [so, sq, zy, zz, tyE, zs1, zs2, zs3, zs4, zs5, ev, zs6, dOk, cv, zu1, zu2, zu3, eqB, Value.oneCell', zs7, zs8, zs9, zt1, zt2, isC, TK.agg, rv, rv1, ldV, zt3, zt4, zn1, zn2, zn3, zn4, zn5, zn6, zn7, reduceIte, reduceCtorEq, eq_self]
      have hns8 : rN.S G8 (f.nodes.map (shNd d)) (.slice adc f.nodes.length capc) := RF_S (f := shF d f) (by simpa [shF] using hss) (shNd_ok hv (by omega) (by omega) hokf) (fun x hx => by
          simp only [shF] at hx
          obtain ⟨y, hy, rfl⟩ := List.mem_map.1 hx
          rw [shNd_l]; have := hb16 y hy; omega) (by simp [shF]; omega) hrows
      rw [wr (n := (i : Int) + 1) (by omega) (by omega)]
      refine go_keep [0, 3, 4, 5, 9, 33, 34, 35] [0, 1, 2, 20, 41] ?_
      simp only [so, sq, zy, zz, tyE, zs1, zs2, zs3, zs4, zs5, ev, zs6, dOk, cv, zu1, zu2, zu3, eqB, Value.oneCell', zs7, zs8, zs9, zt1, zt2, isC, TK.agg, rv, rv1, ldV, zt3, zt4, zn1, zn2, zn3, zn4, zn5, zn6, zn7, reduceIte, reduceCtorEq, eq_self]
      refine ih (l.length - (i + 1)) _ (by omega) ⟨i + 1, G8, xs ++ [.int .i64 f.params, .slice adc f.nodes.length capc], ad4, cap4, D :: ds, by omega, rfl, hle1.trans (hle2.trans (hle3.trans (hle7.trans hle8))), ?_, ?_, ?_⟩
      · rw [htk, List.all_append, hok1]; simp [hshok]
      · rw [htk, List.map_append]
        exact Rp.L_append (Rp.L_mono (hle2.trans (hle3.trans (hle7.trans hle8))) hL1) (rF_cons hpp hns8 rfl)
      · simp [dens, SV.den]
  have hge : i = l.length := by simp at hil; omega
  subst hge
  clear ih hil hq hi
  rw [List.take_length] at hok1 hL1
  (try (refine runo0 400 hty hnt hmh ?_; simp only [so, sq, zy, zz, tyE, zs1, zs2, zs3, zs4, zs5, ev, zs6, dOk, cv, zu1, zu2, zu3, eqB, Value.oneCell', zs7, zs8, zs9, zt1, zt2, isC, TK.agg, rv, rv1, ldV, zt3, zt4, zn1, zn2, zn3, zn4, zn5, zn6, zn7, reduceIte, reduceCtorEq, eq_self])); (repeat (first | refine x_seq rfl ?_ | refine go_ops ?_ | refine go_blk ?_ | refine x_skip rfl ?_ | refine x_blk rfl rfl ?_ | refine x_exit rfl rfl rfl ?_ | refine x_ift rfl rfl rfl ?_ | refine x_iff rfl rfl rfl ?_ | refine x_label rfl ?_ | ((first | refine x_reg rfl rfl ?_ | (refine go_newx hty hnt hmh rfl rfl ?_; intro _)); refine runo0 400 hty hnt hmh ?_; simp only [so, sq, zy, zz, tyE, zs1, zs2, zs3, zs4, zs5, ev, zs6, dOk, cv, zu1, zu2, zu3, eqB, Value.oneCell', zs7, zs8, zs9, zt1, zt2, isC, TK.agg, rv, rv1, ldV, zt3, zt4, zn1, zn2, zn3, zn4, zn5, zn6, zn7, reduceIte, reduceCtorEq, eq_self])))
  refine go_pubL rF 41 rfl (by omega) (by simp) (by omega) hL1 ?_
  rintro G2 ad2 cap2 (hle2 : Le G1 G2) hse2 hS2
  (try (refine runo0 400 hty hnt hmh ?_; simp only [so, sq, zy, zz, tyE, zs1, zs2, zs3, zs4, zs5, ev, zs6, dOk, cv, zu1, zu2, zu3, eqB, Value.oneCell', zs7, zs8, zs9, zt1, zt2, isC, TK.agg, rv, rv1, ldV, zt3, zt4, zn1, zn2, zn3, zn4, zn5, zn6, zn7, reduceIte, reduceCtorEq, eq_self])); (repeat (first | refine x_seq rfl ?_ | refine go_ops ?_ | refine go_blk ?_ | refine x_skip rfl ?_ | refine x_blk rfl rfl ?_ | refine x_exit rfl rfl rfl ?_ | refine x_ift rfl rfl rfl ?_ | refine x_iff rfl rfl rfl ?_ | refine x_label rfl ?_ | ((first | refine x_reg rfl rfl ?_ | (refine go_newx hty hnt hmh rfl rfl ?_; intro _)); refine runo0 400 hty hnt hmh ?_; simp only [so, sq, zy, zz, tyE, zs1, zs2, zs3, zs4, zs5, ev, zs6, dOk, cv, zu1, zu2, zu3, eqB, Value.oneCell', zs7, zs8, zs9, zt1, zt2, isC, TK.agg, rv, rv1, ldV, zt3, zt4, zn1, zn2, zn3, zn4, zn5, zn6, zn7, reduceIte, reduceCtorEq, eq_self])))
  refine x_retM 20 rfl hQ hmb rfl rfl rfl (by rw [hty]; simp only [so, sq, zy, zz, tyE, zs1, zs2, zs3, zs4, zs5, ev, zs6, dOk, cv, zu1, zu2, zu3, eqB, Value.oneCell', zs7, zs8, zs9, zt1, zt2, isC, TK.agg, rv, rv1, ldV, zt3, zt4, zn1, zn2, zn3, zn4, zn5, zn6, zn7, reduceIte, reduceCtorEq, eq_self]; try rfl) ?_; simp only [SV.den, resV, dens]
  rw [hsh, if_pos hok1]
  refine ⟨_, rfl, ?_⟩
  rw [hse2]; exact hS2
end Go.Proofs.Ytmdkenpodcnnbaa
namespace Go.Proofs.Ytmdkenpodcnnbaa
set_option linter.unusedSimpArgs false
set_option linter.unusedVariables false
open Go.Sx

/-- What 'how far' is. -/
structure Gd (cl : Nat → List Nat) (D : Nat → Option Nat) : Prop where
  z : D 0 = some 0
  u : ∀ x, D x = some 0 → x = 0
  s : ∀ i d j, D i = some d → j ∈ cl i → ∃ e, D j = some e ∧ e ≤ d + 1
  p : ∀ j k, D j = some (k + 1) → ∃ i, D i = some k ∧ j ∈ cl i
theorem Gd.half {cl : Nat → List Nat} {D E : Nat → Option Nat} (h : Gd cl D) (g : Gd cl E) {k : Nat} (ih : ∀ m, m ≤ k → ∀ x, D x = some m ↔ E x = some m) {x : Nat} (hx : D x = some (k + 1)) : E x = some (k + 1) := by
  obtain ⟨i, hi, hj⟩ := h.p x k hx
  obtain ⟨e, he, hle⟩ := g.s i k x ((ih k (Nat.le_refl _) i).1 hi) hj
  rcases Nat.lt_or_ge e (k + 1) with q | q
  · have := (ih e (by omega) x).2 he
    rw [hx] at this
    cases this; omega
  · rw [he, show e = k + 1 by omega]
theorem Gd.same {cl : Nat → List Nat} {D E : Nat → Option Nat} (h : Gd cl D) (g : Gd cl E) : D = E := by
  have key : ∀ k, ∀ m, m ≤ k → ∀ x, D x = some m ↔ E x = some m := by
    intro k
    induction k with
    | zero =>
      intro m hm x
      obtain rfl : m = 0 := by omega
      constructor
      · intro q; rw [h.u x q]; exact g.z
      · intro q; rw [g.u x q]; exact h.z
    | succ k ih =>
      intro m hm x
      rcases Nat.lt_or_ge m (k + 1) with q | q
      · exact ih m (by omega) x
      · obtain rfl : m = k + 1 := by omega
        exact ⟨h.half g ih, g.half h (fun m hm x => (ih m hm x).symm)⟩
  funext x
  cases hd : D x with
  | some d => exact ((key d d (Nat.le_refl _) x).1 hd).symm
  | none =>
    cases he : E x with
    | none => rfl
    | some e => have := (key e e (Nat.le_refl _) x).2 he; rw [hd] at this; cases this

/-! ### Breadth first -/

abbrev Qu := List (Nat × Nat)
def qhas (Q : Qu) (x : Nat) : Bool := Q.any (fun e => e.1 == x)
def qadd (d : Nat) (Q : Qu) (j : Nat) : Qu := if qhas Q j then Q else Q ++ [(j, d + 1)]
theorem qhas_iff {Q : Qu} {x : Nat} : qhas Q x = true ↔ ∃ e ∈ Q, e.1 = x := by simp [qhas]
/-- h of the queue are done, and of the next one those children that are in 'js'. -/
structure BInv (cl : Nat → List Nat) (n : Nat) (Q : Qu) (h : Nat) (js : List Nat) : Prop where
  z : Q[0]? = some (0, 0)
  nd : (Q.map (·.1)).Nodup
  lt : ∀ e ∈ Q, e.1 < n
  mono : ∀ (a b : Nat) (x y : Nat × Nat), a ≤ b → Q[a]? = some x → Q[b]? = some y → x.2 ≤ y.2
  near : ∀ (x : Nat × Nat), Q[h]? = some x → ∀ e ∈ Q, e.2 ≤ x.2 + 1
  par : ∀ (m : Nat) (x : Nat × Nat), 0 < m → Q[m]? = some x → ∃ (p : Nat) (y : Nat × Nat), p < m ∧ Q[p]? = some y ∧ x.2 = y.2 + 1 ∧ x.1 ∈ cl y.1
  done : ∀ (p : Nat) (y : Nat × Nat), p < h → Q[p]? = some y → ∀ j ∈ cl y.1, ∃ e ∈ Q, e.1 = j ∧ e.2 ≤ y.2 + 1
  part : ∀ (y : Nat × Nat), Q[h]? = some y → ∀ j ∈ js, ∃ e ∈ Q, e.1 = j ∧ e.2 ≤ y.2 + 1
theorem BInv.start (cl : Nat → List Nat) {n : Nat} (hn : 0 < n) : BInv cl n [(0, 0)] 0 [] where
  z := rfl
  nd := by simp
  lt e he := by simp at he; subst he; exact hn
  mono a b x y _ h1 h2 := by
    cases a <;> cases b <;> simp at h1 h2
    subst h1 h2; exact Nat.le_refl _
  near x _ e he := by simp at he; subst he; simp
  par m x hm h := by cases m <;> simp at h; omega
  done p y hp := by omega
  part y _ j hj := by simp at hj
theorem BInv.len {cl : Nat → List Nat} {n : Nat} {Q : Qu} {h : Nat} {js : List Nat} (H : BInv cl n Q h js) : Q.length ≤ n := by
  have := nodup_le n (Q.map (·.1)) H.nd (fun x hx => by obtain ⟨e, he, rfl⟩ := List.mem_map.1 hx; exact H.lt e he)
  simpa using this
theorem BInv.add {cl : Nat → List Nat} {n : Nat} {Q : Qu} {h : Nat} {js : List Nat} (H : BInv cl n Q h js) {y : Nat × Nat} (hy : Q[h]? = some y) {j : Nat} (hj : j ∈ cl y.1) (hjn : j < n) : BInv cl n (qadd y.2 Q j) h (js ++ [j]) := by
  have hlt : h < Q.length := (List.getElem?_eq_some_iff.1 hy).1
  unfold qadd
  split
  · rename_i hq
    obtain ⟨e, he, hej⟩ := qhas_iff.1 hq
    refine { H with part := fun y' hy' k hk => ?_ }
    rcases List.mem_append.1 hk with hk | hk
    · exact H.part y' hy' k hk
    · simp at hk; subst hk
      exact ⟨e, he, hej, H.near y' hy' e he⟩
  · rename_i hq
    have hnew : ∀ e ∈ Q, e.1 ≠ j := fun e he hej => hq (qhas_iff.2 ⟨e, he, hej⟩)
    have hget : ∀ {m : Nat} {x : Nat × Nat}, (Q ++ [(j, y.2 + 1)])[m]? = some x → Q[m]? = some x ∨ (m = Q.length ∧ x = (j, y.2 + 1)) := by
      intro m x e
      rcases Nat.lt_or_ge m Q.length with q | q
      · rw [List.getElem?_append_left q] at e; exact .inl e
      · rw [List.getElem?_append_right q] at e
        rcases Nat.eq_or_lt_of_le q with r | r
        · subst r; simp at e; exact .inr ⟨rfl, e.symm⟩
        · rw [List.getElem?_eq_none (by simp; omega)] at e; cases e
    have hold : ∀ {m : Nat} {x : Nat × Nat}, Q[m]? = some x → (Q ++ [(j, y.2 + 1)])[m]? = some x := by
      intro m x e
      rw [List.getElem?_append_left (List.getElem?_eq_some_iff.1 e).1]; exact e
    have hh : ∀ {x : Nat × Nat}, (Q ++ [(j, y.2 + 1)])[h]? = some x → x = y := by
      intro x e
      rw [List.getElem?_append_left hlt, hy] at e
      exact (Option.some.inj e).symm
    refine ⟨hold H.z, ?_, ?_, ?_, ?_, ?_, ?_, ?_⟩
    · rw [List.map_append, List.nodup_append]
      refine ⟨H.nd, by simp, fun a ha b hb => ?_⟩
      obtain ⟨e, he, rfl⟩ := List.mem_map.1 ha
      simp at hb; subst hb
      exact hnew e he
    · intro e he
      rcases List.mem_append.1 he with he | he
      · exact H.lt e he
      · simp at he; subst he; exact hjn
    · intro a b x x' hab ha hb
      rcases hget ha with ha | ⟨ha, hx⟩ <;> rcases hget hb with hb | ⟨hb, hx'⟩
      · exact H.mono a b x x' hab ha hb
      · subst hx'
        exact H.near y hy x (List.mem_of_getElem? ha)
      · have := (List.getElem?_eq_some_iff.1 hb).1; omega
      · subst hx hx'; exact Nat.le_refl _
    · intro x hx e he
      rw [hh hx]
      rcases List.mem_append.1 he with he | he
      · exact H.near y hy e he
      · simp at he; subst he; exact Nat.le_refl _
    · intro m x hm hx
      rcases hget hx with hx | ⟨rfl, rfl⟩
      · obtain ⟨p, y', hp, hpy, h1, h2⟩ := H.par m x hm hx
        exact ⟨p, y', hp, hold hpy, h1, h2⟩
      · exact ⟨h, y, hlt, hold hy, rfl, hj⟩
    · intro p y' hp hpy k hk
      rcases hget hpy with hpy | ⟨rfl, rfl⟩
      · obtain ⟨e, he, h1, h2⟩ := H.done p y' hp hpy k hk
        exact ⟨e, List.mem_append_left _ he, h1, h2⟩
      · omega
    · intro y' hy' k hk
      rw [hh hy']
      rcases List.mem_append.1 hk with hk | hk
      · obtain ⟨e, he, h1, h2⟩ := H.part y hy k hk
        exact ⟨e, List.mem_append_left _ he, h1, h2⟩
      · simp at hk; subst hk
        exact ⟨(k, y.2 + 1), by simp, rfl, Nat.le_refl _⟩
theorem BInv.next {cl : Nat → List Nat} {n : Nat} {Q : Qu} {h : Nat} {y : Nat × Nat} (hy : Q[h]? = some y) (H : BInv cl n Q h (cl y.1)) : BInv cl n Q (h + 1) [] where
  z := H.z
  nd := H.nd
  lt := H.lt
  mono := H.mono
  near x hx e he := by
    have h1 := H.near y hy e he
    have h2 := H.mono h (h + 1) y x (by omega) hy hx
    omega
  par := H.par
  done p y' hp hpy := by
    rcases Nat.lt_or_ge p h with q | q
    · exact H.done p y' q hpy
    · obtain rfl : p = h := by omega
      rw [hy] at hpy
      cases hpy
      exact H.part y hy
  part _ _ _ hj := by simp at hj
def qd (Q : Qu) (x : Nat) : Option Nat := (Q.find? (fun e => e.1 == x)).map (·.2)
theorem qd_some {Q : Qu} (hn : (Q.map (·.1)).Nodup) {x d : Nat} : qd Q x = some d ↔ (x, d) ∈ Q := by
  induction Q with
  | nil => simp [qd]
  | cons e Q ih =>
    obtain ⟨h1, h2⟩ := List.nodup_cons.1 hn
    have ih := ih h2
    simp only [qd, List.find?_cons] at ih ⊢
    by_cases he : e.1 = x
    · simp only [he, beq_self_eq_true, Option.map_some, Option.some.injEq, List.mem_cons]
      constructor
      · rintro rfl; left; rw [← he]
      · rintro (q | q)
        · rw [← q]
        · exact (h1 (List.mem_map.2 ⟨(x, d), q, he.symm⟩)).elim
    · have : (e.1 == x) = false := by simpa using he
      simp only [this, Bool.false_eq_true, if_false, List.mem_cons]
      rw [ih]
      constructor
      · exact .inr
      · rintro (q | q)
        · exact absurd (by rw [← q]) he
        · exact q
theorem BInv.good {cl : Nat → List Nat} {n : Nat} {Q : Qu} {h : Nat} (H : BInv cl n Q h []) (hl : Q.length ≤ h) : Gd cl (qd Q) where
  z := (qd_some H.nd).2 (List.mem_of_getElem? H.z)
  u x hx := by
    obtain ⟨m, hm, e⟩ := List.getElem_of_mem ((qd_some H.nd).1 hx)
    rcases Nat.eq_zero_or_pos m with q | q
    · subst q
      have := H.z
      rw [List.getElem?_eq_getElem hm, e] at this
      cases this; rfl
    · obtain ⟨p, y, _, _, h1, _⟩ := H.par m (x, 0) q (by rw [List.getElem?_eq_getElem hm, e])
      simp at h1
  s i d j hi hj := by
    obtain ⟨m, hm, e⟩ := List.getElem_of_mem ((qd_some H.nd).1 hi)
    obtain ⟨e', he', h1, h2⟩ := H.done m (i, d) (by omega) (by rw [List.getElem?_eq_getElem hm, e]) j hj
    exact ⟨e'.2, (qd_some H.nd).2 (by rw [← h1]; exact he'), h2⟩
  p j k hj := by
    obtain ⟨m, hm, e⟩ := List.getElem_of_mem ((qd_some H.nd).1 hj)
    rcases Nat.eq_zero_or_pos m with q | q
    · subst q
      have := H.z
      rw [List.getElem?_eq_getElem hm, e] at this
      cases this
    · obtain ⟨p, y, _, hpy, h1, h2⟩ := H.par m (j, k + 1) q (by rw [List.getElem?_eq_getElem hm, e])
      refine ⟨y.1, (qd_some H.nd).2 ?_, h2⟩
      have : y.2 = k := by simp at h1; omega
      rw [← this]; exact List.mem_of_getElem? hpy

/-! ### Round by round -/

def ov (out : List Int) (x : Nat) : Int := out.getD x (-1)
def radd (far : Nat) (out : List Int) (j : Nat) : List Int := if ov out j < 0 then out.set j ((far : Int) + 1) else out
/-- In round 'far' the nodes below i are done, and of i those children in 'js'. -/
structure RInv (cl : Nat → List Nat) (n : Nat) (out : List Int) (far i : Nat) (js : List Nat) : Prop where
  len : out.length = n
  z : ov out 0 = 0
  low : ∀ x, -1 ≤ ov out x
  top : ∀ x, ov out x ≤ (far : Int) + 1
  u : ∀ x, ov out x = 0 → x = 0
  par : ∀ x (k : Nat), ov out x = (k : Int) + 1 → ∃ i', ov out i' = k ∧ x ∈ cl i'
  done : ∀ i', 0 ≤ ov out i' → (ov out i' < far ∨ (ov out i' = far ∧ i' < i)) → ∀ j ∈ cl i', 0 ≤ ov out j ∧ ov out j ≤ ov out i' + 1
  part : ov out i = far → ∀ j ∈ js, 0 ≤ ov out j ∧ ov out j ≤ (far : Int) + 1
theorem ov_set {out : List Int} {j x : Nat} {v : Int} (hj : j < out.length) : ov (out.set j v) x = if x = j then v else ov out x := by
  simp only [ov, List.getD_eq_getElem?_getD, List.getElem?_set]
  by_cases h : j = x
  · subst h; simp [hj]
  · rw [if_neg h, if_neg (fun q => h q.symm)]
theorem ov_out {out : List Int} {x : Nat} (h : out.length ≤ x) : ov out x = -1 := by simp [ov, h]
theorem RInv.lt {cl : Nat → List Nat} {n : Nat} {out : List Int} {far i : Nat} {js : List Nat} (H : RInv cl n out far i js) {x : Nat} (h : 0 ≤ ov out x) : x < n := by
  rcases Nat.lt_or_ge x n with q | q
  · exact q
  · rw [ov_out (by rw [H.len]; exact q)] at h; omega
theorem RInv.add {cl : Nat → List Nat} {n : Nat} {out : List Int} {far i : Nat} {js : List Nat} (H : RInv cl n out far i js) (hi : ov out i = far) {j : Nat} (hj : j ∈ cl i) (hjn : j < n) : RInv cl n (radd far out j) far i (js ++ [j]) ∧ ov (radd far out j) i = far := by
  unfold radd
  split
  · rename_i hneg
    have hs : ∀ x, ov (out.set j ((far : Int) + 1)) x = if x = j then (far : Int) + 1 else ov out x := fun x => ov_set (by rw [H.len]; exact hjn)
    have hne : i ≠ j := by rintro rfl; omega
    have keep : ∀ x, 0 ≤ ov out x → ov (out.set j ((far : Int) + 1)) x = ov out x := fun x hx => by
      rw [hs, if_neg]; rintro rfl; omega
    refine ⟨⟨by simp [H.len], by rw [keep 0 (by rw [H.z]; omega)]; exact H.z, fun x => ?_, fun x => ?_, fun x hx => ?_, fun x k hx => ?_, fun i' h0 hc k hk => ?_, fun _ k hk => ?_⟩, by rw [hs, if_neg hne]; exact hi⟩
    · rw [hs]; split
      · omega
      · exact H.low x
    · rw [hs]; split
      · omega
      · exact H.top x
    · rw [hs] at hx; split at hx
      · omega
      · exact H.u x hx
    · rw [hs] at hx; split at hx
      · rename_i e; subst e
        have : k = far := by omega
        subst this
        exact ⟨i, by rw [hs, if_neg hne]; exact hi, hj⟩
      · obtain ⟨i', h1, h2⟩ := H.par x k hx
        exact ⟨i', by rw [keep i' (by rw [h1]; omega)]; exact h1, h2⟩
    · have hnj : i' ≠ j := by
        rintro rfl
        rw [hs, if_pos rfl] at hc; omega
      have e := hs i'
      rw [if_neg hnj] at e
      rw [e] at h0 hc ⊢
      obtain ⟨h1, h2⟩ := H.done i' h0 hc k hk
      rw [keep k h1]
      exact ⟨h1, h2⟩
    · rcases List.mem_append.1 hk with hk | hk
      · obtain ⟨h1, h2⟩ := H.part hi k hk
        rw [keep k h1]; exact ⟨h1, h2⟩
      · simp at hk; subst hk
        rw [hs, if_pos rfl]; omega
  · rename_i hneg
    refine ⟨{ H with part := fun _ k hk => ?_ }, hi⟩
    rcases List.mem_append.1 hk with hk | hk
    · exact H.part hi k hk
    · simp at hk; subst hk
      exact ⟨by omega, H.top k⟩
theorem RInv.skip {cl : Nat → List Nat} {n : Nat} {out : List Int} {far i : Nat} (H : RInv cl n out far i []) (hi : ov out i ≠ far) : RInv cl n out far (i + 1) [] :=
  { H with
    done := fun i' h0 hc => H.done i' h0 (by
      rcases hc with q | ⟨q, r⟩
      · exact .inl q
      · refine .inr ⟨q, ?_⟩
        have : i' ≠ i := by rintro rfl; exact hi q
        omega)
    part := fun _ _ hk => by simp at hk }
theorem RInv.next {cl : Nat → List Nat} {n : Nat} {out : List Int} {far i : Nat} (H : RInv cl n out far i (cl i)) (hi : ov out i = far) : RInv cl n out far (i + 1) [] :=
  { H with
    done := fun i' h0 hc k hk => by
      by_cases e : i' = i
      · subst e; rw [hi]; exact H.part hi k hk
      · refine H.done i' h0 ?_ k hk
        rcases hc with q | ⟨q, r⟩
        · exact .inl q
        · exact .inr ⟨q, by omega⟩
    part := fun _ _ hk => by simp at hk }
theorem RInv.round {cl : Nat → List Nat} {n : Nat} {out : List Int} {far : Nat} (H : RInv cl n out far n []) : RInv cl n out (far + 1) 0 [] :=
  { H with
    top := fun x => by have := H.top x; omega
    done := fun i' h0 hc => H.done i' h0 (by
      rcases hc with q | ⟨q, r⟩
      · have := H.lt h0
        rcases Int.lt_or_le (ov out i') far with s | s
        · exact .inl s
        · exact .inr ⟨by omega, this⟩
      · omega)
    part := fun _ _ hk => by simp at hk }
theorem RInv.start (cl : Nat → List Nat) {n : Nat} (hn : 0 < n) : RInv cl n ((List.replicate n (-1 : Int)).set 0 0) 0 0 [] := by
  have hs : ∀ x, ov ((List.replicate n (-1 : Int)).set 0 0) x = if x = 0 then 0 else -1 := fun x => by
    rw [ov_set (by simpa using hn)]
    split
    · rfl
    · simp only [ov, List.getD_eq_getElem?_getD, List.getElem?_replicate]
      split <;> rfl
  refine ⟨by simp, by rw [hs, if_pos rfl], fun x => ?_, fun x => ?_, fun x hx => ?_, fun x k hx => ?_, fun i' h0 hc => ?_, fun _ j hj => by simp at hj⟩
  · rw [hs]; split <;> omega
  · rw [hs]; split <;> omega
  · rw [hs] at hx; split at hx
    · assumption
    · omega
  · rw [hs] at hx; split at hx <;> omega
  · rw [hs] at h0 hc
    split at h0
    · rename_i e; subst e; simp at hc
    · omega
/-- Each smaller distance is some node's. -/
theorem RInv.chain {cl : Nat → List Nat} {n : Nat} {out : List Int} {far i : Nat} {js : List Nat} (H : RInv cl n out far i js) : ∀ (k x : Nat), ov out x = k → ∃ l : List Nat, l.Nodup ∧ l.length = k + 1 ∧ ∀ y ∈ l, 0 ≤ ov out y ∧ ov out y ≤ k
  | 0, x, hx => ⟨[x], by simp, rfl, fun y hy => by simp at hy; subst hy; omega⟩
  | k + 1, x, hx => by
    obtain ⟨i', h1, _⟩ := H.par x k (by rw [hx]; rfl)
    obtain ⟨l, a, b, c⟩ := H.chain k i' h1
    refine ⟨x :: l, List.nodup_cons.2 ⟨fun hm => ?_, a⟩, by simp [b], fun y hy => ?_⟩
    · have := (c x hm).2; omega
    · rcases List.mem_cons.1 hy with rfl | hy
      · omega
      · have := c y hy; omega
def od (out : List Int) (x : Nat) : Option Nat := if 0 ≤ ov out x then some (ov out x).toNat else none
theorem od_some {out : List Int} {x d : Nat} : od out x = some d ↔ ov out x = d := by
  unfold od
  split
  · simp; omega
  · simp; omega
theorem RInv.good {cl : Nat → List Nat} {n : Nat} {out : List Int} (H : RInv cl n out n 0 []) : Gd cl (od out) where
  z := od_some.2 H.z
  u x hx := H.u x (od_some.1 hx)
  s i d j hi hj := by
    have hi := od_some.1 hi
    obtain ⟨l, a, b, c⟩ := H.chain d i hi
    have := nodup_le n l a (fun y hy => H.lt (c y hy).1)
    obtain ⟨h1, h2⟩ := H.done i (by omega) (.inl (by omega)) j hj
    exact ⟨(ov out j).toNat, od_some.2 (by omega), by omega⟩
  p j k hj := by
    obtain ⟨i, h1, h2⟩ := H.par j k (by rw [od_some.1 hj]; rfl)
    exact ⟨i, od_some.2 h1, h2⟩
end Go.Proofs.Ytmdkenpodcnnbaa
namespace Go.Proofs.Ytmdkenpodcnnbaa
set_option linter.unusedSimpArgs false
set_option linter.unusedVariables false
open Go.Sx
def rstep (cl : Nat → List Nat) (far : Nat) (out : List Int) (i : Nat) : List Int := if ov out i = far then (cl i).foldl (radd far) out else out
def rround (cl : Nat → List Nat) (n far : Nat) (out : List Int) : List Int := (List.range n).foldl (rstep cl far) out
def rout (cl : Nat → List Nat) (n : Nat) : List Int := (List.range n).foldl (fun out far => rround cl n far out) ((List.replicate n (-1 : Int)).set 0 0)
section
variable {cl : Nat → List Nat} {n : Nat}
theorem radds (hcl : ∀ i, ∀ j ∈ cl i, j < n) {far i : Nat} : ∀ (l : List Nat) {out : List Int} {js : List Nat}, RInv cl n out far i js → ov out i = far → (∀ j ∈ l, j ∈ cl i) → RInv cl n (l.foldl (radd far) out) far i (js ++ l) ∧ ov (l.foldl (radd far) out) i = far
  | [], out, js, H, hi, _ => by simpa using ⟨H, hi⟩
  | j :: l, out, js, H, hi, hl => by
    obtain ⟨h1, h2⟩ := H.add hi (hl j (by simp)) (hcl i j (hl j (by simp)))
    have := radds hcl l h1 h2 (fun k hk => hl k (by simp [hk]))
    simpa using this
theorem rstep_inv (hcl : ∀ i, ∀ j ∈ cl i, j < n) {far i : Nat} {out : List Int} (H : RInv cl n out far i []) : RInv cl n (rstep cl far out i) far (i + 1) [] := by
  unfold rstep
  split
  · rename_i hi
    obtain ⟨h1, h2⟩ := radds hcl (cl i) H hi (fun _ h => h)
    rw [List.nil_append] at h1
    exact h1.next h2
  · rename_i hi
    exact H.skip hi
theorem rround_inv (hcl : ∀ i, ∀ j ∈ cl i, j < n) {far : Nat} {out : List Int} (H : RInv cl n out far 0 []) : ∀ i, RInv cl n ((List.range i).foldl (rstep cl far) out) far i []
  | 0 => by simpa using H
  | i + 1 => by rw [List.range_succ, List.foldl_append]; exact rstep_inv hcl (rround_inv hcl H i)
theorem rout_inv (hn : 0 < n) (hcl : ∀ i, ∀ j ∈ cl i, j < n) : ∀ far, RInv cl n ((List.range far).foldl (fun out far => rround cl n far out) ((List.replicate n (-1 : Int)).set 0 0)) far 0 []
  | 0 => by simpa using RInv.start cl hn
  | far + 1 => by rw [List.range_succ, List.foldl_append]; exact (rround_inv hcl (rout_inv hn hcl far) n).round
theorem rout_good (hn : 0 < n) (hcl : ∀ i, ∀ j ∈ cl i, j < n) : Gd cl (od (rout cl n)) := (rout_inv hn hcl n).good
theorem rout_len (hn : 0 < n) (hcl : ∀ i, ∀ j ∈ cl i, j < n) : (rout cl n).length = n := (rout_inv hn hcl n).len
end
/-- Those that are led to, rising, with their distances. -/
def rlist (n : Nat) (D : Nat → Option Nat) : Pl := (List.range n).filterMap fun (x : Nat) => (D x).map fun (d : Nat) => ((x : Int), (d : Int))
theorem rlist_mem {n : Nat} {D : Nat → Option Nat} {x : Int × Int} : x ∈ rlist n D ↔ ∃ k d : Nat, k < n ∧ D k = some d ∧ x = ((k : Int), (d : Int)) := by
  simp only [rlist, List.mem_filterMap, List.mem_range, Option.map_eq_some_iff]
  constructor
  · rintro ⟨k, hk, d, hd, rfl⟩; exact ⟨k, d, hk, hd, rfl⟩
  · rintro ⟨k, d, hk, hd, rfl⟩; exact ⟨k, hk, d, hd, rfl⟩
theorem rlist_sorted (n : Nat) (D : Nat → Option Nat) : ((rlist n D).map (·.1)).Pairwise (· < ·) := by
  rw [List.pairwise_map]
  simp only [rlist]
  refine List.Pairwise.filterMap _ (R := fun a b : Nat => a < b) ?_ (List.pairwise_lt_range)
  intro a b hab x hx y hy
  simp only [Option.mem_def, Option.map_eq_some_iff] at hx hy
  obtain ⟨_, _, rfl⟩ := hx
  obtain ⟨_, _, rfl⟩ := hy
  simp; exact hab
abbrev leZ : Int → Int → Bool := fun x y => decide (x ≤ y)
theorem leZ_tr : ∀ a b c : Int, leZ a b = true → leZ b c = true → leZ a c = true := fun a b c h1 h2 => by simp only [leZ, decide_eq_true_eq] at *; omega
theorem leZ_to : ∀ a b : Int, (leZ a b || leZ b a) = true := fun a b => by simp only [leZ, Bool.or_eq_true, decide_eq_true_eq]; omega
theorem sort_eq {l m : List Int} (h : l.Perm m) (hm : m.Pairwise (· < ·)) : l.mergeSort leZ = m := by
  refine List.Perm.eq_of_pairwise (le := fun a b => leZ a b = true) (fun a b _ _ h1 h2 => ?_) (List.pairwise_mergeSort leZ_tr leZ_to l) (hm.imp fun {a b} hab => by simp only [leZ, decide_eq_true_eq]; omega) ((List.mergeSort_perm l leZ).trans h)
  simp only [leZ, decide_eq_true_eq] at h1 h2
  omega
theorem sort_perm {l m : List Int} (h : l.Perm m) : l.mergeSort leZ = m.mergeSort leZ := by
  refine List.Perm.eq_of_pairwise (le := fun a b => leZ a b = true) (fun a b _ _ h1 h2 => ?_) (List.pairwise_mergeSort leZ_tr leZ_to l) (List.pairwise_mergeSort leZ_tr leZ_to m) (((List.mergeSort_perm l leZ).trans h).trans (List.mergeSort_perm m leZ).symm)
  simp only [leZ, decide_eq_true_eq] at h1 h2
  omega
theorem BInv.keys {cl : Nat → List Nat} {n : Nat} {Q : Qu} {h : Nat} {js : List Nat} (H : BInv cl n Q h js) : (Q.map fun e => ((e.1 : Nat) : Int)).Perm ((rlist n (qd Q)).map (·.1)) := by
  refine (List.perm_ext_iff_of_nodup ?_ ?_).2 fun x => ?_
  · have : (Q.map fun e => ((e.1 : Nat) : Int)) = (Q.map (·.1)).map fun k : Nat => (k : Int) := by simp
    rw [this, List.nodup_iff_pairwise_ne, List.pairwise_map]
    exact H.nd.imp fun {a b} hab => by omega
  · exact (rlist_sorted n (qd Q)).imp fun {a b} hab => by omega
  · simp only [List.mem_map]
    constructor
    · rintro ⟨e, he, rfl⟩
      exact ⟨_, rlist_mem.2 ⟨e.1, e.2, H.lt e he, (qd_some H.nd).2 he, rfl⟩, rfl⟩
    · rintro ⟨y, hy, rfl⟩
      obtain ⟨k, d, hk, hd, rfl⟩ := rlist_mem.1 hy
      exact ⟨(k, d), (qd_some H.nd).1 hd, rfl⟩
end Go.Proofs.Ytmdkenpodcnnbaa
