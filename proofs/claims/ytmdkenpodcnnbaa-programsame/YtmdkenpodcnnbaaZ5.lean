/-
  Rows.ProgramSameSaid is proved here.
-/
import Derived.Test.YtmdkenpodcnnbaaZ4
set_option linter.unusedSimpArgs false
set_option linter.unusedVariables false
namespace Go.Proofs.Ytmdkenpodcnnbaa
set_option linter.unusedSimpArgs false
set_option linter.unusedVariables false
open Go.Sx
def fuL : Pr → Pr → Bool
  | [], [] => true
  | a :: p, b :: q => fue a b && fuL p q
  | _, _ => false
theorem fuL_len : ∀ {p q : Pr}, fuL p q = true → p.length = q.length
  | [], [], _ => rfl
  | a :: p, b :: q, h => by simp only [fuL, Bool.and_eq_true] at h; simp [fuL_len h.2]
theorem fuL_refl : ∀ p : Pr, fuL p p = true
  | [] => rfl
  | a :: p => by simp [fuL, fue_refl, fuL_refl p]
theorem fuL_symm : ∀ p q : Pr, fuL p q = fuL q p
  | [], [] => rfl
  | [], _ :: _ => rfl
  | _ :: _, [] => rfl
  | a :: p, b :: q => by simp only [fuL, fue_symm a b, fuL_symm p q]
theorem fuL_drop {p q : Pr} {k : Nat} (h1 : k < p.length) (h2 : k < q.length) : fuL (p.drop k) (q.drop k) = (fue (fu p k) (fu q k) && fuL (p.drop (k + 1)) (q.drop (k + 1))) := by
  rw [fu_drop h1, fu_drop h2]; rfl
theorem fuL_false {p q : Pr} (h : p.length ≠ q.length) : fuL p q = false := by
  cases hq : fuL p q with
  | false => rfl
  | true => exact absurd (fuL_len hq) h
set_option maxHeartbeats 4000000
theorem eqfuns_ok (p q : Pr) (s1 s2 : Value) (G : Hp) (h1 : rF.S G p s1) (h2 : rF.S G q s2) :
    Pure Try.prog 36 [s1, s2, .func (.func 37) #[] #[]] G (fun r _ => r = .bool (fuL p q)) := by
  have h10 := h1
  have h20 := h2
  obtain ⟨ad1, cap1, rfl⟩ := Rp.S_slice h1
  obtain ⟨ad2, cap2, rfl⟩ := Rp.S_slice h2
  have h63 := Rp.S_len h1
  refine enterX ty tyok Try.func36 rfl Try.ntmps36 [.v (.slice ad1 p.length cap1), .v (.slice ad2 q.length cap2), .v (.func (.func 37) #[] #[])] (by simp) ?_
  intro C hP hQ hnt hty hmb hmh hro; have hQp := qp_body hQ; refine st_ ?_
  refine rn_ ?_; intros
  refine x_split rfl rfl rfl (fun hl => ?_) (fun hl => ?_) <;> (refine st_ ?_; (refine ru_ ?_; intros))
  · refine x_retc rfl hQ hmb rfl (by rw [hty]; simp only [so, sq, zy, zz, tyE, SO', SQ', opQ, opStore, opAlloc, ev, putS, dOk, cv, SV.cs, SV.one, SV.bool?, eqB, Value.oneCell', ldOwn, binInt, binConst, binBool, binStr, isC, TK.agg, rv, rv1, ldV, resOne, resV, Nat.reduceAdd, Nat.reduceMul, Nat.reduceSub, Nat.reduceLT, Nat.reduceLeDiff, Nat.reduceEqDiff, Nat.reduceBEq, reduceIte, reduceCtorEq, eq_self]; try rfl) rfl ?_; simp only [SV.den, resV, dens]
    rw [fuL_false (by simp at hl; omega)]
  have hlm : p.length = q.length := by simp at hl; omega
  refine go_keep [0, 1, 2, 15, 16, 17] [] ?_
  refine st_ ?_
  refine x_loop rfl (fun qq s => ∃ (k : Nat) (G' : Hp), k ≤ p.length ∧ qq = p.length - k ∧ Le G G' ∧ fuL p q = fuL (p.drop k) (q.drop k) ∧
    s = ⟨[(0, .v (.slice ad1 p.length cap1)), (1, .v (.slice ad2 q.length cap2)), (2, .v (.func (.func 37) #[] #[])), (15, .v (.slice ad1 p.length cap1)), (16, .v (.int .i64 p.length)), (17, .v (.int .i64 k))], [], G', []⟩) ⟨0, G, by omega, rfl, Le.refl _, by simp, rfl⟩ ?_
  rintro qq s ⟨k, G0, hk, hq, hle, hinv, rfl⟩ ih
  refine rn_ ?_; intros
  refine x_if rfl rfl rfl rfl (fun hjl => ?_) (fun hjl => ?_)
  · have hlt : k < p.length := by simp at hjl; omega
    rw [fuL_drop hlt (by omega)] at hinv
    obtain ⟨b1, o1, n1, rfl, hat1, hp1, hn1⟩ := rF_at h10 hlt
    obtain ⟨b2, o2, n2, rfl, hat2, hp2, hn2⟩ := rF_at h20 (i := k) (by omega)
    have hc := same_ok (fu p k) (fu q k) n1 n2 G0 (Rp.S_mono hle hn1) (Rp.S_mono hle hn2)
    obtain ⟨adn1, capn1, rfl⟩ := Rp.S_slice hn1
    obtain ⟨adn2, capn2, rfl⟩ := Rp.S_slice hn2
    refine rn_ ?_; intros
    refine go_q (by rw [hnt]; rfl) (quiet_index (by rw [hty]; rfl) (by rw [hty]; rfl) rfl rfl rfl (by omega) (by omega)) ?_
    refine rn_ ?_; intros
    refine go_q (by rw [hnt]; rfl) (quiet_load (by rw [hty]; rfl) rfl (by simp [TK.agg]) (hat1.mono hle) rfl) ?_
    refine rn_ ?_; intros
    refine go_q (by rw [hnt]; rfl) (quiet_index (by rw [hty]; rfl) (by rw [hty]; rfl) rfl rfl rfl (by omega) (by omega)) ?_
    refine rn_ ?_; intros
    refine go_q (by rw [hnt]; rfl) (quiet_load (by rw [hty]; rfl) rfl (by simp [TK.agg]) (hat2.mono hle) rfl) ?_
    refine rn_ ?_; intros
    refine go_callw (cap := []) (by rw [hnt]; rfl) (by rw [hP]; kernel_rfl) rfl rfl rfl (by rw [hP]; exact hc) ?_
    rintro v G1 (hle1 : Le G0 G1) rfl
    refine rn_ ?_; intros
    refine x_split rfl rfl rfl (fun hne => ?_) (fun hne => ?_) <;> (refine st_ ?_; (refine ru_ ?_; intros))
    · refine x_retc rfl hQ hmb rfl (by rw [hty]; simp only [so, sq, zy, zz, tyE, SO', SQ', opQ, opStore, opAlloc, ev, putS, dOk, cv, SV.cs, SV.one, SV.bool?, eqB, Value.oneCell', ldOwn, binInt, binConst, binBool, binStr, isC, TK.agg, rv, rv1, ldV, resOne, resV, Nat.reduceAdd, Nat.reduceMul, Nat.reduceSub, Nat.reduceLT, Nat.reduceLeDiff, Nat.reduceEqDiff, Nat.reduceBEq, reduceIte, reduceCtorEq, eq_self]; try rfl) rfl ?_; simp only [SV.den, resV, dens]
      rw [hinv, show fue (fu p k) (fu q k) = false by simpa using hne]; rfl
    · rw [wr (n := (k : Int) + 1) (by omega) (by omega)]
      refine go_keep [0, 1, 2, 15, 16, 17] [] ?_
      refine st_ ?_
      exact ih (p.length - (k + 1)) _ (by omega) ⟨k + 1, G1, by omega, rfl, hle.trans hle1, by rw [hinv, show fue (fu p k) (fu q k) = true by simpa using hne]; rfl, by simp⟩
  · have hge : k = p.length := by simp at hjl; omega
    subst hge
    refine rn_ ?_; intros
    refine x_retc rfl hQ hmb rfl (by rw [hty]; simp only [so, sq, zy, zz, tyE, SO', SQ', opQ, opStore, opAlloc, ev, putS, dOk, cv, SV.cs, SV.one, SV.bool?, eqB, Value.oneCell', ldOwn, binInt, binConst, binBool, binStr, isC, TK.agg, rv, rv1, ldV, resOne, resV, Nat.reduceAdd, Nat.reduceMul, Nat.reduceSub, Nat.reduceLT, Nat.reduceLeDiff, Nat.reduceEqDiff, Nat.reduceBEq, reduceIte, reduceCtorEq, eq_self]; try rfl) rfl ?_; simp only [SV.den, resV, dens]
    rw [hinv, List.drop_length, hlm, List.drop_length]; rfl
theorem samep_ok (p q : Pr) (s1 s2 : Value) (G : Hp) (h1 : rF.S G p s1) (h2 : rF.S G q s2) : Pure Try.prog 19 [.agg #[s1], .agg #[s2]] G (fun r _ => r = .bool (fuL p q)) := by
  have h10 := h1
  have h20 := h2
  obtain ⟨ad1, cap1, rfl⟩ := Rp.S_slice h1
  obtain ⟨ad2, cap2, rfl⟩ := Rp.S_slice h2
  refine enterX ty tyok Try.func19 rfl Try.ntmps19 [.a [.v (.slice ad1 p.length cap1)], .a [.v (.slice ad2 q.length cap2)]] (by simp) ?_
  intro C hP hQ hnt hty hmb hmh hro; have hQp := qp_body hQ; refine st_ ?_
  refine rn_ ?_; intros
  refine go_callf (by rw [hnt]; rfl) (by rw [hP]; kernel_rfl) rfl (hP ▸ eqfuns_ok p q _ _ G h10 h20) ?_; refine rn_ ?_; intros
  refine x_retc rfl hQ hmb rfl (by rw [hty]; simp only [so, sq, zy, zz, tyE, SO', SQ', opQ, opStore, opAlloc, ev, putS, dOk, cv, SV.cs, SV.one, SV.bool?, eqB, Value.oneCell', ldOwn, binInt, binConst, binBool, binStr, isC, TK.agg, rv, rv1, ldV, resOne, resV, Nat.reduceAdd, Nat.reduceMul, Nat.reduceSub, Nat.reduceLT, Nat.reduceLeDiff, Nat.reduceEqDiff, Nat.reduceBEq, reduceIte, reduceCtorEq, eq_self]; try rfl) rfl ?_; simp only [SV.den, resV, dens]
theorem rfuns_ok (p q : Pr) (s1 s2 : Value) (G : Hp) (h1 : rF.S G p s1) (h2 : rF.S G q s2) : Pure Try.prog 35 [s1, s2] G (fun r _ => r = .bool (fuL p q)) := by
  have h10 := h1
  have h20 := h2
  obtain ⟨ad1, cap1, rfl⟩ := Rp.S_slice h1
  obtain ⟨ad2, cap2, rfl⟩ := Rp.S_slice h2
  have h63 := Rp.S_len h1
  refine enterX ty tyok Try.func35 rfl Try.ntmps35 [.v (.slice ad1 p.length cap1), .v (.slice ad2 q.length cap2)] (by simp) ?_
  intro C hP hQ hnt hty hmb hmh hro; have hQp := qp_body hQ; refine st_ ?_
  refine rn_ ?_; intros
  refine x_split rfl rfl rfl (fun hl => ?_) (fun hl => ?_) <;> (refine st_ ?_; (refine ru_ ?_; intros))
  · refine x_retc rfl hQ hmb rfl (by rw [hty]; simp only [so, sq, zy, zz, tyE, SO', SQ', opQ, opStore, opAlloc, ev, putS, dOk, cv, SV.cs, SV.one, SV.bool?, eqB, Value.oneCell', ldOwn, binInt, binConst, binBool, binStr, isC, TK.agg, rv, rv1, ldV, resOne, resV, Nat.reduceAdd, Nat.reduceMul, Nat.reduceSub, Nat.reduceLT, Nat.reduceLeDiff, Nat.reduceEqDiff, Nat.reduceBEq, reduceIte, reduceCtorEq, eq_self]; try rfl) rfl ?_; simp only [SV.den, resV, dens]
    rw [fuL_false (by simp at hl; omega)]
  have hlm : p.length = q.length := by simp at hl; omega
  refine go_keep [0, 1, 5] [] ?_
  refine st_ ?_
  refine x_loop rfl (fun qq s => ∃ (k : Nat), k ≤ p.length ∧ qq = p.length - k ∧ fuL p q = fuL (p.drop k) (q.drop k) ∧
    s = ⟨[(0, .v (.slice ad1 p.length cap1)), (1, .v (.slice ad2 q.length cap2)), (5, .v (.int .i64 k))], [], G, []⟩) ⟨0, by omega, rfl, by simp, rfl⟩ ?_
  rintro qq s ⟨k, hk, hq, hinv, rfl⟩ ih
  refine rn_ ?_; intros
  refine x_if rfl rfl rfl rfl (fun hjl => ?_) (fun hjl => ?_)
  · have hlt : k < p.length := by simp at hjl; omega
    rw [fuL_drop hlt (by omega)] at hinv
    obtain ⟨b1, o1, n1, rfl, hat1, hp1, hn1⟩ := rF_at h10 hlt
    obtain ⟨b2, o2, n2, rfl, hat2, hp2, hn2⟩ := rF_at h20 (i := k) (by omega)
    have hc := refsame_ok (fu p k) (fu q k) n1 n2 G hn1 hn2
    obtain ⟨adn1, capn1, rfl⟩ := Rp.S_slice hn1
    obtain ⟨adn2, capn2, rfl⟩ := Rp.S_slice hn2
    refine rn_ ?_; intros
    refine x_draw rfl (by rw [hP]; kernel_rfl) rfl (by kernel_rfl) ?_
    refine runq 400 hty hnt ?_; refine st_ ?_
    refine q_q (by rw [hnt]; rfl) (quiet_index (by rw [hty]; rfl) (by rw [hty]; rfl) rfl rfl rfl (by omega) (by omega)) ?_; refine runq 400 hty hnt ?_; refine st_ ?_
    refine q_q (by rw [hnt]; rfl) (quiet_load (by rw [hty]; rfl) rfl (by simp [TK.agg]) hat1 rfl) ?_; refine runq 400 hty hnt ?_; refine st_ ?_
    refine q_q (by rw [hnt]; rfl) (quiet_index (by rw [hty]; rfl) (by rw [hty]; rfl) rfl rfl rfl (by omega) (by omega)) ?_; refine runq 400 hty hnt ?_; refine st_ ?_
    refine q_q (by rw [hnt]; rfl) (quiet_load (by rw [hty]; rfl) rfl (by simp [TK.agg]) hat2 rfl) ?_; refine runq 400 hty hnt ?_; refine st_ ?_
    refine q_callf (by rw [hnt]; rfl) (by rw [hP]; kernel_rfl) rfl (hP ▸ hc) ?_; refine runq 400 hty hnt ?_; refine st_ ?_
    refine q_end ?_; refine rn_ ?_; intros
    refine x_split rfl rfl rfl (fun hne => ?_) (fun hne => ?_) <;> (refine st_ ?_; (refine ru_ ?_; intros))
    · refine x_retc rfl hQ hmb rfl (by rw [hty]; simp only [so, sq, zy, zz, tyE, SO', SQ', opQ, opStore, opAlloc, ev, putS, dOk, cv, SV.cs, SV.one, SV.bool?, eqB, Value.oneCell', ldOwn, binInt, binConst, binBool, binStr, isC, TK.agg, rv, rv1, ldV, resOne, resV, Nat.reduceAdd, Nat.reduceMul, Nat.reduceSub, Nat.reduceLT, Nat.reduceLeDiff, Nat.reduceEqDiff, Nat.reduceBEq, reduceIte, reduceCtorEq, eq_self]; try rfl) rfl ?_; simp only [SV.den, resV, dens]
      rw [hinv, show fue (fu p k) (fu q k) = false by simpa using hne]; rfl
    · rw [wr (n := (k : Int) + 1) (by omega) (by omega)]
      refine go_keep [0, 1, 5] [] ?_
      refine st_ ?_
      exact ih (p.length - (k + 1)) _ (by omega) ⟨k + 1, by omega, rfl, by rw [hinv, show fue (fu p k) (fu q k) = true by simpa using hne]; rfl, by simp⟩
  · have hge : k = p.length := by simp at hjl; omega
    subst hge
    refine rn_ ?_; intros
    refine x_retc rfl hQ hmb rfl (by rw [hty]; simp only [so, sq, zy, zz, tyE, SO', SQ', opQ, opStore, opAlloc, ev, putS, dOk, cv, SV.cs, SV.one, SV.bool?, eqB, Value.oneCell', ldOwn, binInt, binConst, binBool, binStr, isC, TK.agg, rv, rv1, ldV, resOne, resV, Nat.reduceAdd, Nat.reduceMul, Nat.reduceSub, Nat.reduceLT, Nat.reduceLeDiff, Nat.reduceEqDiff, Nat.reduceBEq, reduceIte, reduceCtorEq, eq_self]; try rfl) rfl ?_; simp only [SV.den, resV, dens]
    rw [hinv, List.drop_length, hlm, List.drop_length]; rfl
theorem rsamep_ok (p q : Pr) (s1 s2 : Value) (G : Hp) (h1 : rF.S G p s1) (h2 : rF.S G q s2) : Pure Try.prog 18 [.agg #[s1], .agg #[s2]] G (fun r _ => r = .bool (fuL p q)) := by
  have h10 := h1
  have h20 := h2
  obtain ⟨ad1, cap1, rfl⟩ := Rp.S_slice h1
  obtain ⟨ad2, cap2, rfl⟩ := Rp.S_slice h2
  refine enterX ty tyok Try.func18 rfl Try.ntmps18 [.a [.v (.slice ad1 p.length cap1)], .a [.v (.slice ad2 q.length cap2)]] (by simp) ?_
  intro C hP hQ hnt hty hmb hmh hro; have hQp := qp_body hQ; refine st_ ?_
  refine rn_ ?_; intros
  refine go_callf (by rw [hnt]; rfl) (by rw [hP]; kernel_rfl) rfl (hP ▸ rfuns_ok p q _ _ G h10 h20) ?_; refine rn_ ?_; intros
  refine x_retc rfl hQ hmb rfl (by rw [hty]; simp only [so, sq, zy, zz, tyE, SO', SQ', opQ, opStore, opAlloc, ev, putS, dOk, cv, SV.cs, SV.one, SV.bool?, eqB, Value.oneCell', ldOwn, binInt, binConst, binBool, binStr, isC, TK.agg, rv, rv1, ldV, resOne, resV, Nat.reduceAdd, Nat.reduceMul, Nat.reduceSub, Nat.reduceLT, Nat.reduceLeDiff, Nat.reduceEqDiff, Nat.reduceBEq, reduceIte, reduceCtorEq, eq_self]; try rfl) rfl ?_; simp only [SV.den, resV, dens]
end Go.Proofs.Ytmdkenpodcnnbaa
namespace Go.Proofs.Ytmdkenpodcnnbaa
set_option linter.unusedSimpArgs false
set_option linter.unusedVariables false
open Go.Sx
def inc (n : Int) : Int := IntKind.i64.wrap (n + 1)
def bump (x : Nd) : Nd := ⟨x.op, inc x.n, x.l.map inc⟩
theorem inc_ok (n : Int) : isI64 (inc n) := by
  simp only [inc, IntKind.wrap, IntKind.signed, IntKind.bits, isI64]
  simp
  omega
theorem inc_ne {n : Int} (h : isI64 n) : inc n ≠ n := by
  obtain ⟨h1, h2⟩ := h
  simp only [inc, IntKind.wrap, IntKind.signed, IntKind.bits, IntKind.min, IntKind.max]
  simp
  omega
def mixL {α : Type} (g : α → α) (l : List α) (k : Nat) : List α := (l.take k).map g ++ l.drop k
theorem mixL_len {α : Type} (g : α → α) (l : List α) (k : Nat) : (mixL g l k).length = l.length := by simp [mixL]; omega
theorem mixL_0 {α : Type} (g : α → α) (l : List α) : mixL g l 0 = l := by simp [mixL]
theorem mixL_all {α : Type} (g : α → α) (l : List α) : mixL g l l.length = l.map g := by simp [mixL]
theorem mixL_get {α : Type} (g : α → α) (l : List α) {k : Nat} (h : k < l.length) : (mixL g l k)[k]'(by rw [mixL_len]; exact h) = l[k] := by
  have e : ((l.take k).map g).length = k := by simp; omega
  have : (mixL g l k)[k]? = some l[k] := by
    simp only [mixL]
    rw [List.getElem?_append_right (by omega), e, Nat.sub_self, List.getElem?_drop]
    simp [h]
  exact (List.getElem?_eq_some_iff.1 this).2
theorem mixL_set {α : Type} (g : α → α) (l : List α) {k : Nat} (h : k < l.length) : (mixL g l k).set k (g l[k]) = mixL g l (k + 1) := by
  have e : ((l.take k).map g).length = k := by simp; omega
  simp only [mixL]
  rw [List.set_append_right (h := by omega), e, Nat.sub_self, List.drop_eq_getElem_cons h, List.set_cons_zero, ← List.take_append_getElem h]
  simp only [List.map_append, List.map_cons, List.map_nil, List.append_assoc, List.cons_append, List.nil_append]
theorem bump_ok {l : List Nd} (h : okN l) : okN (l.map bump) := by
  intro x hx
  obtain ⟨y, hy, rfl⟩ := List.mem_map.1 hx
  refine ⟨(h y hy).1, inc_ok _, fun v hv => ?_⟩
  obtain ⟨u, _, rfl⟩ := List.mem_map.1 hv
  exact inc_ok u
def bumpF (f : Fu) : Fu := ⟨inc f.params, f.nodes.map bump⟩
theorem mix_0 {α : Type} (g : α → α) (x : α) (l : List α) : mixL g (x :: l) 1 = g x :: l := by simp [mixL]
theorem mix_s {α : Type} (g : α → α) (x : α) (l : List α) (i : Nat) : mixL g (x :: l) (i + 1) = g x :: mixL g l i := by simp [mixL]
theorem rows_mix (z : List Rw) : ∀ {p : Pr} {vs : Cs} {i : Nat}, okC p vs → (hi : i < p.length) → ∃ A B v, vs[i]? = some v ∧ v.2.length = (fu p i).nodes.length ∧
    rowsP (mixL bumpF p i) vs ++ z = A ++ (RF (fu p i) v.1 v.2 ++ B) ∧ rowsP (mixL bumpF p (i + 1)) vs ++ z = A ++ (RF (bumpF (fu p i)) v.1 v.2 ++ B)
  | f :: p, v :: vs, 0, h, _ => ⟨[], rowsP p vs ++ z, v, rfl, h.1, by rw [mixL_0]; simp [rowsP, fu], by rw [mix_0]; simp [rowsP, fu]⟩
  | f :: p, v :: vs, i + 1, h, hi => by
    obtain ⟨A, B, u, h1, h2, h3, h4⟩ := rows_mix z (i := i) h.2 (by simpa using hi)
    have e : fu (f :: p) (i + 1) = fu p i := by simp [fu]
    refine ⟨RF (bumpF f) v.1 v.2 ++ A, B, u, by simpa using h1, by rw [e]; exact h2, ?_, ?_⟩
    · rw [mix_s, e, rowsP, List.append_assoc, h3, List.append_assoc]
    · rw [mix_s, e, rowsP, List.append_assoc, h4, List.append_assoc]
theorem okC_mix : ∀ {p : Pr} {vs : Cs} (i : Nat), okC p vs → okC (mixL bumpF p i) vs
  | [], [], i, _ => by simp [mixL, okC]
  | f :: p, v :: vs, 0, h => by rw [mixL_0]; exact h
  | f :: p, v :: vs, i + 1, h => by
    rw [mix_s]
    exact ⟨by simpa [bumpF] using h.1, okC_mix i h.2⟩
theorem encP_at : ∀ {p : Pr} {vs : Cs} {i : Nat} {v : Value × List Value}, vs[i]? = some v → (hi : i < p.length) → (encP p vs).drop (i * 2) = .int .i64 (fu p i).params :: v.1 :: encP (p.drop (i + 1)) (vs.drop (i + 1))
  | f :: p, w :: vs, 0, v, h, _ => by simp at h; subst h; simp [encP, fu]
  | f :: p, w :: vs, i + 1, v, h, hi => by
    rw [show (i + 1) * 2 = i * 2 + 1 + 1 by omega]
    simp only [encP, List.drop_succ_cons]
    rw [encP_at (i := i) (by simpa using h) (by simpa using hi)]
    simp [fu]
theorem ldP0 {p : Pr} {vs : Cs} {i off : Nat} {v : Value × List Value} (h : vs[i]? = some v) (hi : i < p.length) (ho : off = i * 2) : ldV false (((encP p vs).drop off).take 1) = .int .i64 (fu p i).params := by
  subst ho; rw [encP_at h hi]; rfl
theorem ldP1 {p : Pr} {vs : Cs} {i off : Nat} {v : Value × List Value} (h : vs[i]? = some v) (hi : i < p.length) (ho : off = i * 2 + 1) : ldV false (((encP p vs).drop off).take 1) = v.1 := by
  subst ho; rw [← List.drop_drop, encP_at h hi]; rfl
theorem layP' (f' : Fu) : ∀ {p : Pr} {vs : Cs} {i : Nat}, okC p vs → i < p.length → lay (encP p vs) (i * 2) [.int .i64 f'.params] = some (encP (p.set i f') vs)
  | f :: p, w :: vs, 0, h, _ => by simp [encP, lay]
  | f :: p, w :: vs, i + 1, h, hi => by
    rw [show (i + 1) * 2 = i * 2 + 1 + 1 by omega]
    simp only [encP, lay, layP' f' (i := i) h.2 (by simpa using hi), Option.map_some, List.set_cons_succ]
theorem zmid_get {α : Type} (A X B : List α) {k : Nat} (h : k < X.length) : (A ++ (X ++ B))[A.length + k]? = X[k]? := by
  rw [List.getElem?_append_right (by omega), Nat.add_sub_cancel_left, List.getElem?_append_left h]
theorem zmid_set {α : Type} (A X B : List α) {k : Nat} (r : α) (h : k < X.length) : (A ++ (X ++ B)).set (A.length + k) r = A ++ (X.set k r ++ B) := by
  rw [List.set_append_right (h := by omega), Nat.add_sub_cancel_left, List.set_append_left (h := h)]
theorem rowsP_S {G' : Hp} {p : Pr} {vs : Cs} {ad : Option Addr} {n cap : Nat} (hvs : okC p vs) (hok : okP p) (hb : bdP p) (hn : n = p.length) (hr : ∀ (i : Nat) (r : Rw), (rowsP p vs ++ [⟨46, 2, .slice ad n cap, n, encP p vs⟩])[i]? = some r → RowAt G' r) : rF.S G' p (.slice ad n cap) := by
  have h1 := hb.1
  exact RowAt.S (hr (rowsP p vs).length ⟨46, 2, .slice ad n cap, n, encP p vs⟩ (by simp)) hn (by omega) (encP_L hvs hok hb.2 fun i r e => hr i r (by rw [List.getElem?_append_left (List.getElem?_eq_some_iff.1 e).1]; exact e))
theorem ldN3 {l : List Nd} {ss : List Value} {i off : Nat} {u : Value} (h : ss.length = l.length) (hi : i < l.length) (ho : off = i * 3) (hu : ss[i]'(by omega) = u) : ldV true (((encN l ss).drop off).take 3) = .agg #[.int .i64 l[i].op, .int .i64 l[i].n, u] := by
  subst ho hu
  rw [encN_at h hi]; rfl
theorem bumpF_ok {p : Pr} (h : okP p) : okP (p.map bumpF) := by
  intro f hf
  obtain ⟨g, hg, rfl⟩ := List.mem_map.1 hf
  exact ⟨inc_ok _, bump_ok (h g hg).2⟩
theorem bumpF_bd {p : Pr} (h : bdP p) : bdP (p.map bumpF) := by
  refine ⟨by simpa using h.1, fun f hf => ?_⟩
  obtain ⟨g, hg, rfl⟩ := List.mem_map.1 hf
  refine ⟨by simpa [bumpF] using (h.2 g hg).1, fun x hx => ?_⟩
  obtain ⟨y, hy, rfl⟩ := List.mem_map.1 hx
  simpa [bump] using (h.2 g hg).2 y hy
theorem bumpF_ne {p : Pr} (h : okP p) (hn : p.length ≠ 0) : fuL (p.map bumpF) p = false := by
  cases p with
  | nil => simp at hn
  | cons f p =>
    have := inc_ne (h f (by simp)).1
    simp [fuL, fue, bumpF, this]
set_option maxHeartbeats 8000000
set_option maxRecDepth 20000
theorem programSame_ok (p q : Pr) (s1 s2 : Value) (G : Hp) (h1 : rF.S G p s1) (h2 : rF.S G q s2) : Pure Try.prog 5 [.agg #[s1], .agg #[s2]] G (fun r _ => r = .bool true) := by
  have h1' := h1
  have h2' := h2
  have hok := rF_ok h1
  obtain ⟨ad1, cap1, rfl⟩ := Rp.S_slice h1
  obtain ⟨ad2, cap2, rfl⟩ := Rp.S_slice h2
  refine enterX ty tyok Try.func5 rfl Try.ntmps5 [.a [.v (.slice ad1 p.length cap1)], .a [.v (.slice ad2 q.length cap2)]] (by simp) ?_
  intro C hP hQ hnt hty hmb hmh hro; have hQp := qp_body hQ; refine st_ ?_
  refine rn_ ?_; intros
  rename_i b2 b3
  refine go_callf (by rw [hnt]; rfl) (by rw [hP]; kernel_rfl) rfl (hP ▸ few_ok p _ G h1') ?_; refine rn_ ?_; intros
  refine go_gsplit rfl rfl (fun g1 => ?_) (fun g1 => ?_) <;> (refine st_ ?_; (refine rn_ ?_; intros))
  · refine go_callf (by rw [hnt]; rfl) (by rw [hP]; kernel_rfl) rfl (hP ▸ works_ok G) ?_; refine rn_ ?_; intros
    refine x_retc rfl hQ hmb rfl (by rw [hty]; simp only [so, sq, zy, zz, tyE, SO', SQ', opQ, opStore, opAlloc, ev, putS, dOk, cv, SV.cs, SV.one, SV.bool?, eqB, Value.oneCell', ldOwn, binInt, binConst, binBool, binStr, isC, TK.agg, rv, rv1, ldV, resOne, resV, Nat.reduceAdd, Nat.reduceMul, Nat.reduceSub, Nat.reduceLT, Nat.reduceLeDiff, Nat.reduceEqDiff, Nat.reduceBEq, reduceIte, reduceCtorEq, eq_self]; try rfl) rfl ?_; simp only [SV.den, resV, dens]
  have hfew := fewP_of (show fewP p = true by simpa using g1)
  refine go_callf (by rw [hnt]; rfl) (by rw [hP]; kernel_rfl) rfl (hP ▸ few_ok q _ G h2') ?_; refine rn_ ?_; intros
  refine x_split rfl rfl rfl (fun g2 => ?_) (fun g2 => ?_) <;> (refine st_ ?_; (refine ru_ ?_; intros))
  · refine go_callf (by rw [hnt]; rfl) (by rw [hP]; kernel_rfl) rfl (hP ▸ works_ok G) ?_; refine rn_ ?_; intros
    refine x_retc rfl hQ hmb rfl (by rw [hty]; simp only [so, sq, zy, zz, tyE, SO', SQ', opQ, opStore, opAlloc, ev, putS, dOk, cv, SV.cs, SV.one, SV.bool?, eqB, Value.oneCell', ldOwn, binInt, binConst, binBool, binStr, isC, TK.agg, rv, rv1, ldV, resOne, resV, Nat.reduceAdd, Nat.reduceMul, Nat.reduceSub, Nat.reduceLT, Nat.reduceLeDiff, Nat.reduceEqDiff, Nat.reduceBEq, reduceIte, reduceCtorEq, eq_self]; try rfl) rfl ?_; simp only [SV.den, resV, dens]
  have hbd : bdP p := ⟨by omega, fun f hf => by
    obtain ⟨q1, q2⟩ := hfew.2 f hf
    exact ⟨by omega, fun x hx => by have := q2 x hx; omega⟩⟩
  have hp70 := hfew.1
  refine go_keep [2, 3, 4] [0, 1] ?_
  refine st_ ?_
  have hle00 := Le.refl G
  refine x_held [(0, b2, .c 24 [.v (.slice ad1 p.length cap1)])] rfl (by rw [hP]; kernel_rfl) rfl rfl rfl ?_; refine st_ ?_
  refine h_take 0 rfl (by kernel_rfl) (by kernel_rfl) (by kernel_rfl) hQp (by rw [hnt]; rfl) (allIn (by repeat (first | exact trivial | refine ⟨rfl, ?_⟩))) (by first | exact Le.refl _ | assumption) (quiet_op (by rw [hty]; first | rfl | (refine st_ ?_; rfl))) ?_; refine st_ ?_
  refine h_take 2 rfl (by kernel_rfl) (by kernel_rfl) (by kernel_rfl) hQp (by rw [hnt]; rfl) (allIn (by repeat (first | exact trivial | refine ⟨rfl, ?_⟩))) (by first | exact Le.refl _ | assumption) (quiet_op (by rw [hty]; first | rfl | (refine st_ ?_; rfl))) ?_; refine st_ ?_
  refine hf_start [⟨4, 5, 70, 24, [.v (.slice none 0 0)]⟩, ⟨5, 6, 71, 24, [.v (.slice none 0 0)]⟩] (n := 4) (listed' := #[true, false, true, false, true, true, false, false]) (by kernel_rfl) (by decide) ?_
  refine hf_callV 40 1 rfl rfl (by repeat (first | exact aok_nil | refine aok_cons ⟨_, _, _, _, rfl, (by rw [hty]; rfl), rfl, (by rw [hnt]; decide), by omega⟩ ?_)) (by kernel_rfl) (by repeat (first | exact oA_nil | refine oA_cons rfl ?_)) (by kernel_rfl) (allIn (by repeat (first | exact trivial | refine ⟨rfl, ?_⟩))) (by first | exact Le.refl _ | assumption) (by rw [hnt]; rfl) rfl (by rw [hP]; kernel_rfl) rfl rfl rfl (by kernel_rfl) (by omega) (hP ▸ copyp_ok p _ G h1' hbd) ?_
  rintro v G1 rs Z1 (hle1 : Le G G1) ⟨adc, capc, vs, hvs, rfl, rfl⟩
  have hS1 := Rp.S_mono hle1 h1'
  have hS2 := Rp.S_mono hle1 h2'
  refine st_ ?_
  refine hf_call 3 rfl rfl (by repeat (first | exact aok_nil | refine aok_cons ⟨_, _, _, _, rfl, (by rw [hty]; rfl), rfl, (by rw [hnt]; decide), by omega⟩ ?_)) (by kernel_rfl) (by repeat (first | exact oA_nil | refine oA_cons rfl ?_)) (by kernel_rfl) (allIn (by repeat (first | exact trivial | refine ⟨rfl, ?_⟩))) (by first | exact Le.refl _ | assumption) (by rw [hnt]; rfl) rfl (by rw [hP]; kernel_rfl) rfl rfl (hP ▸ copys_ok p _ G1 hS1 hbd) ?_
  rintro v G2 (hle2 : Le G1 G2) ⟨sld, rfl, hSd⟩
  have hSd0 := hSd
  obtain ⟨add, capd, rfl⟩ := Rp.S_slice hSd
  have hle02 := hle1.trans hle2
  refine st_ ?_
  refine hf_flush rfl (by repeat (first | exact aok_nil | refine aok_cons ⟨_, _, _, _, rfl, (by rw [hty]; rfl), rfl, (by rw [hnt]; decide), by omega⟩ ?_)) (by kernel_rfl) (by repeat (first | exact oA_nil | refine oA_cons rfl ?_)) (by kernel_rfl) (allIn (by repeat (first | exact trivial | refine ⟨rfl, ?_⟩))) (by first | exact Le.refl _ | assumption) ?_; intro bs m hm; obtain ⟨m, rfl⟩ : ∃ m', m = m' + 2 := ⟨m - 2, by omega⟩; simp only [addS, addO, List.contains_nil, Bool.false_eq_true, if_false]; refine st_ ?_
  refine h_one 6 rfl (by kernel_rfl) ?_
  refine rn_ ?_; intros
  refine h_hs (allIn (by repeat (first | exact trivial | refine ⟨rfl, ?_⟩))) (by first | exact Le.refl _ | assumption) ?_
  refine h_one 7 rfl (by kernel_rfl) ?_
  refine rn_ ?_; intros
  refine h_hs (allIn (by repeat (first | exact trivial | refine ⟨rfl, ?_⟩))) (by first | exact Le.refl _ | assumption) ?_
  refine h_end (by kernel_rfl) ?_
  refine rn_ ?_; intros
  generalize bs 4 = bc at *
  generalize bs 5 = bd at *
  replace hS1 := Rp.S_mono hle2 hS1
  replace hS2 := Rp.S_mono hle2 hS2
  refine go_keep [2, 3, 5, 6] [0, 1, 40, 70, 71] ?_
  refine st_ ?_
  refine x_draw rfl (by rw [hP]; kernel_rfl) rfl (by kernel_rfl) ?_
  refine runq 400 hty hnt ?_; refine st_ ?_
  refine q_lendZ 40 (v := .bool true) (by rw [hnt]; rfl) (by rw [hP]; kernel_rfl) rfl rfl (fun G3 hle3 hrows => by rw [hP]; exact (rsamep_ok p p _ _ G3 (rowsP_S hvs hok hbd rfl hrows) (Rp.S_mono hle3 hS1)).val (by rw [fuL_refl])) ?_
  refine runq 400 hty hnt ?_; refine st_ ?_
  (refine go_qsplit rfl rfl (fun _ => ?_) (fun hc => absurd hc (by decide)); refine st_ ?_; (try (refine runq 400 hty hnt ?_; refine st_ ?_)))
  refine q_callf (by rw [hnt]; rfl) (by rw [hP]; kernel_rfl) rfl (hP ▸ samep_ok p q _ _ G2 hS1 hS2) ?_; refine runq 400 hty hnt ?_; refine st_ ?_
  refine q_callf (by rw [hnt]; rfl) (by rw [hP]; kernel_rfl) rfl (hP ▸ rsamep_ok p q _ _ G2 hS1 hS2) ?_; refine runq 400 hty hnt ?_; refine st_ ?_
  (refine go_qsplit rfl rfl (fun _ => ?_) (fun hc => absurd hc (by simp)); refine st_ ?_; (try (refine runq 400 hty hnt ?_; refine st_ ?_)))
  refine q_callf (by rw [hnt]; rfl) (by rw [hP]; kernel_rfl) rfl (hP ▸ samep_ok q p _ _ G2 hS2 hS1) ?_; refine runq 400 hty hnt ?_; refine st_ ?_
  refine q_callf (by rw [hnt]; rfl) (by rw [hP]; kernel_rfl) rfl (hP ▸ rsamep_ok p q _ _ G2 hS1 hS2) ?_; refine runq 400 hty hnt ?_; refine st_ ?_
  (refine go_qsplit rfl rfl (fun _ => ?_) (fun hc => absurd hc (by rw [fuL_symm q p]; simp)); refine st_ ?_; (try (refine runq 400 hty hnt ?_; refine st_ ?_)))
  refine q_callf (by rw [hnt]; rfl) (by rw [hP]; kernel_rfl) rfl (hP ▸ (samep_ok p p _ _ G2 hS1 hS1).val (v' := .bool true) (by rw [fuL_refl])) ?_
  refine runq 400 hty hnt ?_; refine st_ ?_
  refine q_end ?_; refine rn_ ?_; intros
  refine go_ztake 40 62 (rowsP p vs).length (r := ⟨46, 2, .slice adc p.length capc, p.length, encP p vs⟩) rfl (by simp) rfl (by omega) (by omega) ?_
  intro Z3
  refine go_keep [2, 3, 5, 6, 7, 8] [0, 1, 40, 62, 70, 71] ?_
  refine st_ ?_
  have hRs : (rowsP p vs ++ [(⟨46, 2, .slice adc p.length capc, p.length, encP p vs⟩ : Rw)]).set (rowsP p vs).length (Rw.nil 46 2) = rowsP (mixL bumpF p 0) vs ++ [Rw.nil 46 2] := by
    rw [mixL_0, List.set_append_right (h := by omega), Nat.sub_self]; rfl
  rw [hRs]
  refine x_loop rfl (fun qq s => ∃ (i : Nat) (Z : Nat → Prop), i ≤ p.length ∧ qq = p.length - i ∧
    s = ⟨[(2, .p 0 b2 0), (3, .p 1 b3 0), (5, .p 70 bc 0), (6, .p 71 bd 0), (7, .v (.bool true)), (8, .v (.int .i64 i))],
      [(0, b2, .c 24 [.v (.slice ad1 p.length cap1)]), (1, b3, .c 24 [.v (.slice ad2 q.length cap2)]), (40, 0, .z (ZR (rowsP (mixL bumpF p i) vs ++ [Rw.nil 46 2])) Z Z), (62, 0, .row (.slice adc p.length capc) 46 2 p.length (encP (mixL bumpF p i) vs)), (70, bc, .c 24 [.v (.slice adc p.length capc)]), (71, bd, .c 24 [.v (.slice add p.length capd)])], G2, []⟩) ⟨0, Z3, by omega, rfl, by rw [mixL_0]; rfl⟩ ?_
  rintro qq s ⟨i, Z4, hi, hq, rfl⟩ ih
  have hml := mixL_len bumpF p i
  refine rn_ ?_; intros
  refine x_if rfl rfl rfl rfl (fun hil => ?_) (fun hil => ?_)
  · have hlt : i < p.length := by simp at hil; omega
    have hltm : i < (mixL bumpF p i).length := by rw [hml]; exact hlt
    have hfm : fu (mixL bumpF p i) i = fu p i := by rw [fu_eq hltm, fu_eq hlt]; exact mixL_get bumpF p hlt
    have hset := mixL_set bumpF p hlt
    rw [← fu_eq hlt] at hset
    have hvm := okC_mix i hvs
    obtain ⟨A, B, ⟨vn, ss⟩, hvi, hss, hr1, hr2⟩ := rows_mix [Rw.nil 46 2] hvs hlt
    simp only at hss hr1 hr2
    have hmem : fu p i ∈ p := by rw [fu_eq hlt]; exact List.getElem_mem _
    obtain ⟨hl300, hl40⟩ := hbd.2 _ hmem
    have henc := encP_len (okC_len hvm)
    have hl0 : ∀ off, off = i * 2 → ldV false (((encP (mixL bumpF p i) vs).drop off).take 1) = .int .i64 (fu p i).params := fun off ho => (ldP0 hvi hltm ho).trans (by rw [hfm])
    have hl1 : ∀ off, off = i * 2 + 1 → ldV false (((encP (mixL bumpF p i) vs).drop off).take 1) = vn := fun off ho => ldP1 hvi hltm ho
    have hly : ∀ off, off = i * 2 → lay (encP (mixL bumpF p i) vs) off [.int .i64 (inc (fu p i).params)] = some (encP (mixL bumpF p (i + 1)) vs) := fun off ho => by
      rw [ho, ← hset]; exact layP' (bumpF (fu p i)) hvm hltm
    rw [hr1]
    rw [hml] at henc
    clear hfm hset hvm
    generalize hE : encP (mixL bumpF p i) vs = E at *
    generalize hE2 : encP (mixL bumpF p (i + 1)) vs = E2 at *
    generalize hf : fu p i = f at *
    have hrl : (rowsL f.nodes ss).length = f.nodes.length := rowsL_len hss
    refine go_ztake 40 60 (A.length + f.nodes.length) (r := ⟨51, 3, vn, f.nodes.length, encN f.nodes ss⟩) rfl (by rw [zmid_get _ _ _ (by simp [RF, hrl])]; simp [RF, List.getElem?_append_right, hrl]) rfl (by omega) (by omega) ?_
    intro Z5
    refine st_ ?_
    refine go_rowS 60 rfl ?_
    rintro adn capn rfl
    refine go_rowcases 62 rfl (fun _ h0 _ => by omega) ?_
    intro gF capF hse hcF hxF
    cases hse
    refine rn_ ?_; intros
    refine go_keep [2, 3, 5, 6, 7, 8, 9] [0, 1, 40, 60, 62, 70, 71] ?_
    refine st_ ?_
    have hZ : (A ++ (RF f (.slice adn f.nodes.length capn) ss ++ B)).set (A.length + f.nodes.length) (Rw.nil 51 3) = A ++ ((rowsL (mixL bump f.nodes 0) ss ++ [Rw.nil 51 3]) ++ B) := by
      rw [zmid_set _ _ _ _ (by simp [RF, hrl]), mixL_0, RF, List.set_append_right (h := by omega), hrl, Nat.sub_self]; rfl
    rw [hZ]
    refine x_loop rfl (fun qq s => ∃ (k : Nat) (Z : Nat → Prop), k ≤ f.nodes.length ∧ qq = f.nodes.length - k ∧
      s = ⟨[(2, .p 0 b2 0), (3, .p 1 b3 0), (5, .p 70 bc 0), (6, .p 71 bd 0), (7, .v (.bool true)), (8, .v (.int .i64 i)), (9, .v (.int .i64 k))],
        [(0, b2, .c 24 [.v (.slice ad1 p.length cap1)]), (1, b3, .c 24 [.v (.slice ad2 q.length cap2)]), (40, 0, .z (ZR (A ++ ((rowsL (mixL bump f.nodes k) ss ++ [Rw.nil 51 3]) ++ B))) Z Z), (60, 0, .row (.slice adn f.nodes.length capn) 51 3 f.nodes.length (encN (mixL bump f.nodes k) ss)), (62, 0, .row (.slice (some ⟨gF, 0, none⟩) p.length capc) 46 2 p.length E), (70, bc, .c 24 [.v (.slice (some ⟨gF, 0, none⟩) p.length capc)]), (71, bd, .c 24 [.v (.slice add p.length capd)])], G2, []⟩) ⟨0, Z5, by omega, rfl, by rw [mixL_0]; rfl⟩ ?_
    rintro q2 s ⟨k, Z6, hk, hq2, rfl⟩ ihk
    have hml2 := mixL_len bump f.nodes k
    have hsm : ss.length = (mixL bump f.nodes k).length := by rw [hml2]; exact hss
    refine rn_ ?_; intros
    refine go_q (by rw [hnt]; rfl) (quiet_index (by rw [hty]; rfl) (by rw [hty]; rfl) rfl rfl rfl (by omega) (by omega)) ?_
    refine rn_ ?_; intros
    refine go_q (v := .slice adn f.nodes.length capn) (by rw [hnt]; rfl) ((quiet_loadR (k := 62) (by rw [hty]; rfl) rfl (by simp [TK.agg]) rfl (by simp; omega)).cast (by exact hl1 _ (by simp))) ?_
    refine rn_ ?_; intros
    refine x_if rfl rfl rfl rfl (fun hkl => ?_) (fun hkl => ?_)
    · have hlt2 : k < f.nodes.length := by simp at hkl; omega
      have hltm2 : k < (mixL bump f.nodes k).length := by rw [hml2]; exact hlt2
      have hmi : (mixL bump f.nodes k)[k] = f.nodes[k] := mixL_get bump f.nodes hlt2
      have hset2 := mixL_set bump f.nodes hlt2
      have hx40 := hl40 f.nodes[k] (List.getElem_mem hlt2)
      have hrg := rowsL_get hsm hltm2
      obtain ⟨u, hu⟩ : ∃ u, ss[k]'(by omega) = u := ⟨_, rfl⟩
      have hln3 : ∀ off, off = k * 3 → ldV true (((encN (mixL bump f.nodes k) ss).drop off).take 3) = .agg #[.int .i64 f.nodes[k].op, .int .i64 f.nodes[k].n, u] := fun off ho => (ldN3 hsm hltm2 ho hu).trans (by rw [hmi])
      have hln1 : ∀ off, off = k * 3 + 1 → ldV false (((encN (mixL bump f.nodes k) ss).drop off).take 1) = .int .i64 f.nodes[k].n := fun off ho => (ldN1 hsm hltm2 ho).trans (by rw [hmi])
      have hrs := rowsL_set (x := bump f.nodes[k]) hsm hltm2
      rw [hset2, hu] at hrs
      rw [hmi, hu] at hrg
      have hly2 : ∀ off, off = k * 3 + 1 → lay (encN (mixL bump f.nodes k) ss) off [.int .i64 (inc f.nodes[k].n)] = some (encN (mixL bump f.nodes (k + 1)) ss) := fun off ho => by
        rw [layN (inc f.nodes[k].n) (f.nodes[k].l.map inc) hsm hltm2 ho rfl, hmi, ← hset2]; rfl
      have hrl2 := rowsL_len hsm
      have hen3 := encN_len hsm
      clear hmi hset2 hu
      generalize hm : mixL bump f.nodes k = m at *
      generalize hx : f.nodes[k] = x at *
      refine go_ztake 40 61 (A.length + k) (r := ⟨3, 1, u, x.l.length, x.l.map (.int .i64 ·)⟩) rfl (by rw [zmid_get _ _ _ (by simp; omega), List.getElem?_append_left (by omega)]; exact hrg) rfl (by omega) (by omega) ?_
      intro Z7
      refine st_ ?_
      refine go_rowS 61 rfl ?_
      rintro ads caps rfl
      refine go_rowcases 60 rfl (fun _ h0 _ => by omega) ?_
      intro g capg hse hcg hxl
      cases hse
      refine rn_ ?_; intros
      refine go_q (by rw [hnt]; rfl) (quiet_index (by rw [hty]; rfl) (by rw [hty]; rfl) rfl rfl rfl (by omega) (by omega)) ?_
      refine rn_ ?_; intros
      refine go_q (v := .slice (some ⟨g, 0, none⟩) f.nodes.length capn) (by rw [hnt]; rfl) ((quiet_loadR (k := 62) (by rw [hty]; rfl) rfl (by simp [TK.agg]) rfl (by simp; omega)).cast (by exact hl1 _ (by simp))) ?_
      refine rn_ ?_; intros
      refine go_q (by rw [hnt]; rfl) (quiet_index (by rw [hty]; rfl) (by rw [hty]; rfl) rfl rfl rfl (by omega) (by omega)) ?_
      refine rn_ ?_; intros
      refine go_q (v := .agg #[.int .i64 x.op, .int .i64 x.n, .slice ads x.l.length caps]) (by rw [hnt]; rfl) ((quiet_loadR (k := 60) (by rw [hty]; rfl) rfl (by simp [TK.agg]) rfl (by rw [hen3]; simp; omega)).cast (by exact hln3 _ (by simp))) ?_
      refine rn_ ?_; intros
      rename_i bx
      refine go_keep [2, 3, 5, 6, 7, 8, 9, 10, 11] [0, 1, 40, 60, 61, 62, 70, 71, 72] ?_
      refine st_ ?_
      refine x_loop rfl (fun qq s => ∃ (j : Nat), j ≤ x.l.length ∧ qq = x.l.length - j ∧
        s = ⟨[(2, .p 0 b2 0), (3, .p 1 b3 0), (5, .p 70 bc 0), (6, .p 71 bd 0), (7, .v (.bool true)), (8, .v (.int .i64 i)), (9, .v (.int .i64 k)), (10, .p 72 bx 0), (11, .v (.int .i64 j))],
          [(0, b2, .c 24 [.v (.slice ad1 p.length cap1)]), (1, b3, .c 24 [.v (.slice ad2 q.length cap2)]), (40, 0, .z (ZR ((A ++ ((rowsL m ss ++ [Rw.nil 51 3]) ++ B)).set (A.length + k) (Rw.nil 3 1))) Z7 Z7), (60, 0, .row (.slice (some ⟨g, 0, none⟩) f.nodes.length capn) 51 3 f.nodes.length (encN m ss)), (61, 0, .row (.slice ads x.l.length caps) 3 1 x.l.length ((mixL inc x.l j).map (.int .i64 ·))), (62, 0, .row (.slice (some ⟨gF, 0, none⟩) p.length capc) 46 2 p.length E), (70, bc, .c 24 [.v (.slice (some ⟨gF, 0, none⟩) p.length capc)]), (71, bd, .c 24 [.v (.slice add p.length capd)]), (72, bx, .c 51 [.v (.int .i64 x.op), .v (.int .i64 x.n), .v (.slice ads x.l.length caps)])], G2, []⟩) ⟨0, by omega, rfl, by rw [mixL_0]; rfl⟩ ?_
      rintro q3 s ⟨j, hj, hq3, rfl⟩ ihj
      refine rn_ ?_; intros
      refine x_if rfl rfl rfl rfl (fun hjl => ?_) (fun hjl => ?_)
      · have hlt3 : j < x.l.length := by simp at hjl; omega
        refine go_rowcases 61 rfl (fun _ h0 _ => by omega) ?_
        intro gl capl hse2 hcl2 hxl2
        cases hse2
        refine rn_ ?_; intros
        refine go_q (by rw [hnt]; rfl) (quiet_index (by rw [hty]; rfl) (by rw [hty]; rfl) rfl rfl rfl (by omega) (by omega)) ?_
        refine rn_ ?_; intros
        refine go_q (v := .int .i64 x.l[j]) (by rw [hnt]; rfl) ((quiet_loadR (k := 61) (by rw [hty]; rfl) rfl (by simp [TK.agg]) rfl (by simp [mixL_len]; omega)).cast (by exact (ld1 (i := j) (by rw [mixL_len]; exact hlt3) (by simp)).trans (by rw [mixL_get inc x.l hlt3]))) ?_
        refine rn_ ?_; intros
        refine go_q (by rw [hnt]; rfl) (quiet_index (by rw [hty]; rfl) (by rw [hty]; rfl) rfl rfl rfl (by omega) (by omega)) ?_
        refine rn_ ?_; intros
        refine go_storeR 61 rfl (by rw [hty]; rfl) rfl rfl rfl rfl rfl rfl (lay1 (i := j) (inc x.l[j]) (by rw [mixL_len]; exact hlt3) (by simp) rfl) ?_
        refine rn_ ?_; intros
        rw [wr (n := (j : Int) + 1) (by omega) (by omega), mixL_set inc x.l hlt3]
        refine go_keep [2, 3, 5, 6, 7, 8, 9, 10, 11] [0, 1, 40, 60, 61, 62, 70, 71, 72] ?_
        refine st_ ?_
        exact ihj (x.l.length - (j + 1)) _ (by omega) ⟨j + 1, by omega, rfl, by simp⟩
      have hge : j = x.l.length := by simp at hjl; omega
      subst hge
      clear ihj hjl
      rw [mixL_all]
      refine go_zgive 40 61 (A.length + k) (r0 := Rw.nil 3 1) rfl (by rw [List.getElem?_set_self (by simp; omega)]) rfl rfl (by omega) (by omega) (by omega) ?_
      intro Z8
      have hzz : ((A ++ ((rowsL m ss ++ [Rw.nil 51 3]) ++ B)).set (A.length + k) (Rw.nil 3 1)).set (A.length + k) ⟨3, 1, .slice ads x.l.length caps, x.l.length, (x.l.map inc).map (.int .i64 ·)⟩ = A ++ ((rowsL (mixL bump f.nodes (k + 1)) ss ++ [Rw.nil 51 3]) ++ B) := by
        rw [List.set_set, zmid_set _ _ _ _ (by simp; omega), List.set_append_left (h := by omega), ← hrs]
        simp [bump]
      rw [hzz]
      refine st_ ?_
      refine rn_ ?_; intros
      refine go_q (by rw [hnt]; rfl) (quiet_index (by rw [hty]; rfl) (by rw [hty]; rfl) rfl rfl rfl (by omega) (by omega)) ?_
      refine rn_ ?_; intros
      refine go_q (v := .slice (some ⟨g, 0, none⟩) f.nodes.length capn) (by rw [hnt]; rfl) ((quiet_loadR (k := 62) (by rw [hty]; rfl) rfl (by simp [TK.agg]) rfl (by simp; omega)).cast (by exact hl1 _ (by simp))) ?_
      refine rn_ ?_; intros
      refine go_q (by rw [hnt]; rfl) (quiet_index (by rw [hty]; rfl) (by rw [hty]; rfl) rfl rfl rfl (by omega) (by omega)) ?_
      refine rn_ ?_; intros
      refine go_q (v := .int .i64 x.n) (by rw [hnt]; rfl) ((quiet_loadR (k := 60) (by rw [hty]; rfl) rfl (by simp [TK.agg]) rfl (by rw [hen3]; simp; omega)).cast (by exact hln1 _ (by simp))) ?_
      refine rn_ ?_; intros
      refine go_q (by rw [hnt]; rfl) (quiet_index (by rw [hty]; rfl) (by rw [hty]; rfl) rfl rfl rfl (by omega) (by omega)) ?_
      refine rn_ ?_; intros
      refine go_storeR 60 rfl (by rw [hty]; rfl) rfl rfl rfl rfl rfl rfl (hly2 _ (by simp)) ?_
      refine rn_ ?_; intros
      rw [wr (n := (k : Int) + 1) (by omega) (by omega)]
      refine go_keep [2, 3, 5, 6, 7, 8, 9] [0, 1, 40, 60, 62, 70, 71] ?_
      refine st_ ?_
      exact ihk (f.nodes.length - (k + 1)) _ (by omega) ⟨k + 1, Z8, by omega, rfl, by simp⟩
    have hge : k = f.nodes.length := by simp at hkl; omega
    subst hge
    clear ihk hkl
    rw [mixL_all] at hsm ⊢
    have hrl2 := rowsL_len hsm
    rw [List.length_map] at hrl2
    refine go_zgive 40 60 (A.length + f.nodes.length) (r0 := Rw.nil 51 3) rfl (by rw [zmid_get _ _ _ (by simp [hrl2]), List.getElem?_append_right (by omega), hrl2]; simp) rfl rfl (by omega) (by omega) (by omega) ?_
    intro Z8
    have hzz : (A ++ ((rowsL (f.nodes.map bump) ss ++ [Rw.nil 51 3]) ++ B)).set (A.length + f.nodes.length) ⟨51, 3, .slice adn f.nodes.length capn, f.nodes.length, encN (f.nodes.map bump) ss⟩ = rowsP (mixL bumpF p (i + 1)) vs ++ [Rw.nil 46 2] := by
      rw [zmid_set _ _ _ _ (by simp [hrl2]), List.set_append_right (h := by omega), hrl2, Nat.sub_self, hr2, RF]
      simp [bumpF]
    rw [hzz]
    refine st_ ?_
    refine rn_ ?_; intros
    refine go_q (by rw [hnt]; rfl) (quiet_index (by rw [hty]; rfl) (by rw [hty]; rfl) rfl rfl rfl (by omega) (by omega)) ?_
    refine rn_ ?_; intros
    refine go_q (v := .int .i64 f.params) (by rw [hnt]; rfl) ((quiet_loadR (k := 62) (by rw [hty]; rfl) rfl (by simp [TK.agg]) rfl (by simp; omega)).cast (by exact hl0 _ (by simp))) ?_
    refine rn_ ?_; intros
    refine go_q (by rw [hnt]; rfl) (quiet_index (by rw [hty]; rfl) (by rw [hty]; rfl) rfl rfl rfl (by omega) (by omega)) ?_
    refine rn_ ?_; intros
    refine go_storeR 62 rfl (by rw [hty]; rfl) rfl rfl rfl rfl rfl rfl (hly _ (by simp)) ?_
    refine rn_ ?_; intros
    rw [wr (n := (i : Int) + 1) (by omega) (by omega)]
    refine go_keep [2, 3, 5, 6, 7, 8] [0, 1, 40, 62, 70, 71] ?_
    refine st_ ?_
    exact ih (p.length - (i + 1)) _ (by omega) ⟨i + 1, Z8, by omega, rfl, by rw [hE2]; simp⟩
  have hge : i = p.length := by simp at hil; omega
  subst hge
  clear ih hil
  rw [mixL_all]
  have hvm := okC_mix p.length hvs
  rw [mixL_all] at hvm
  refine go_zgive 40 62 (rowsP (p.map bumpF) vs).length (r0 := Rw.nil 46 2) rfl (by rw [List.getElem?_append_right (by omega), Nat.sub_self]; rfl) rfl rfl (by omega) (by omega) (by omega) ?_
  intro Z8
  have hzz : (rowsP (p.map bumpF) vs ++ [Rw.nil 46 2]).set (rowsP (p.map bumpF) vs).length ⟨46, 2, .slice adc p.length capc, p.length, encP (p.map bumpF) vs⟩ = rowsP (p.map bumpF) vs ++ [⟨46, 2, .slice adc p.length capc, p.length, encP (p.map bumpF) vs⟩] := by
    rw [List.set_append_right (h := by omega), Nat.sub_self]; rfl
  rw [hzz]
  refine st_ ?_
  refine rn_ ?_; intros
  (refine go_gsplit rfl rfl (fun _ => ?_) (fun hc => absurd hc (by first | decide +kernel | simp)); refine st_ ?_; (refine rn_ ?_; intros))
  refine go_callf (by rw [hnt]; rfl) (by rw [hP]; kernel_rfl) rfl (hP ▸ (rsamep_ok p p _ _ G2 hSd0 hS1).val (v' := .bool true) (by rw [fuL_refl])) ?_; refine rn_ ?_; intros
  (refine go_gsplit rfl rfl (fun _ => ?_) (fun hc => absurd hc (by first | decide +kernel | simp)); refine st_ ?_; (refine rn_ ?_; intros))
  refine go_gsplit rfl rfl (fun h0 => ?_) (fun h0 => ?_) <;> (refine st_ ?_; (refine rn_ ?_; intros))
  · repeat (first | (refine go_gsplit rfl rfl (fun hc => absurd hc (by first | decide +kernel | simp)) (fun _ => ?_); refine st_ ?_; (refine rn_ ?_; intros)) | (refine go_gsplit rfl rfl (fun _ => ?_) (fun hc => absurd hc (by first | decide +kernel | simp)); refine st_ ?_; (refine rn_ ?_; intros)) | (refine x_split rfl rfl rfl (fun hc => absurd hc (by first | decide +kernel | simp)) (fun _ => ?_); refine st_ ?_; (refine ru_ ?_; intros)) | (refine x_split rfl rfl rfl (fun _ => ?_) (fun hc => absurd hc (by first | decide +kernel | simp)); refine st_ ?_; (refine ru_ ?_; intros)))
    refine go_callf (by rw [hnt]; rfl) (by rw [hP]; kernel_rfl) rfl (hP ▸ works_ok G2) ?_; refine rn_ ?_; intros
    refine x_retc rfl hQ hmb rfl (by rw [hty]; simp only [so, sq, zy, zz, tyE, SO', SQ', opQ, opStore, opAlloc, ev, putS, dOk, cv, SV.cs, SV.one, SV.bool?, eqB, Value.oneCell', ldOwn, binInt, binConst, binBool, binStr, isC, TK.agg, rv, rv1, ldV, resOne, resV, Nat.reduceAdd, Nat.reduceMul, Nat.reduceSub, Nat.reduceLT, Nat.reduceLeDiff, Nat.reduceEqDiff, Nat.reduceBEq, reduceIte, reduceCtorEq, eq_self]; try rfl) rfl ?_; simp only [SV.den, resV, dens]
  · have hn0 : p.length ≠ 0 := by simp at h0; intro e; exact h0 (List.length_eq_zero_iff.1 e)
    refine go_lendZ 40 (v := .bool false) (by rw [hnt]; rfl) (by rw [hP]; kernel_rfl) rfl rfl (fun G4 hle4 hrows => by
      rw [hP]
      have hc := rowsP_S hvm (bumpF_ok hok) (bumpF_bd hbd) (by simp) hrows
      exact (samep_ok (p.map bumpF) p _ _ G4 hc (Rp.S_mono hle4 hS1)).val (by rw [bumpF_ne hok hn0])) ?_
    refine rn_ ?_; intros
    (refine go_gsplit rfl rfl (fun _ => ?_) (fun hc => absurd hc (by first | decide +kernel | simp)); refine st_ ?_; (refine rn_ ?_; intros))
    refine go_callf (by rw [hnt]; rfl) (by rw [hP]; kernel_rfl) rfl (hP ▸ works_ok G2) ?_; refine rn_ ?_; intros
    refine x_retc rfl hQ hmb rfl (by rw [hty]; simp only [so, sq, zy, zz, tyE, SO', SQ', opQ, opStore, opAlloc, ev, putS, dOk, cv, SV.cs, SV.one, SV.bool?, eqB, Value.oneCell', ldOwn, binInt, binConst, binBool, binStr, isC, TK.agg, rv, rv1, ldV, resOne, resV, Nat.reduceAdd, Nat.reduceMul, Nat.reduceSub, Nat.reduceLT, Nat.reduceLeDiff, Nat.reduceEqDiff, Nat.reduceBEq, reduceIte, reduceCtorEq, eq_self]; try rfl) rfl ?_; simp only [SV.den, resV, dens]
end Go.Proofs.Ytmdkenpodcnnbaa
namespace Go.Proofs.Ytmdkenpodcnnbaa.programSame
set_option linter.unusedSimpArgs false
set_option linter.unusedVariables false
open Go.ChangeShapes Go.WideShapes Go.ChangeAt Go.RowKit Go.Sx

set_option maxRecDepth 100000
theorem contract (H : Type) (enc : TypeId × Value → H) (W : World) (base : Nat) (args : Array Value) (ds gs : List (DataW H)) (before : List MemPlace)
    (hval : ∀ (j : Nat) t v, Try.f5.params[j]? = some t → args[j]? = some v → Value.okWide Try.prog W .any base t v)
    (hW : DataW.Whole enc Try.prog Try.f5.params.toList Rows.programSameSpec.vars false W args.toList ds gs before) :
    Calls Try.prog 5 args W fun e W' => ∃ v, e = .returned v ∧ Rows.programSameSpec.post enc Try.prog Try.f5 false true false false W args v W' := by
  have hW' := hW
  obtain ⟨p, q, hA0, hV, rfl, hfz, hnd⟩ := hW
  have hA : DataW.TrodAll enc Try.prog W 0 (fun _ => true) true Try.f5.params.toList args.toList ds p := hA0
  rw [Try.params5] at hA hval
  obtain ⟨v0, vs0, d0, ds0, p0, q0, hargs, rfl, rfl, h0, r0⟩ := trodAll_cons hA
  obtain ⟨v1, vs1, d1, ds1, p1, q1, rfl, rfl, rfl, h1, r1⟩ := trodAll_cons r0
  obtain ⟨rfl, rfl, rfl⟩ := trodAll_nil r1
  obtain rfl : args = #[v0, v1] := by cases args; simp_all
  obtain ⟨rfl, rfl⟩ := trodVars_none hV
  clear hA0
  simp only [List.append_nil, List.nil_append] at hW'
  have h0k := h0
  obtain ⟨n0, hf0⟩ := h0
  obtain ⟨cs0, rfl, hsz0⟩ := okWide_struct Try.underlying24 (hval 0 24 v0 rfl rfl)
  obtain ⟨f0, ns0, hcs0, hr0⟩ := open_prog (w := W) hf0
  have hcs0' : cs0 = #[ns0] := by
    apply Array.ext'
    simpa [Value.cells] using hcs0
  subst hcs0'
  have h1k := h1
  obtain ⟨n1, hf1⟩ := h1
  obtain ⟨cs1, rfl, hsz1⟩ := okWide_struct Try.underlying24 (hval 1 24 v1 rfl rfl)
  obtain ⟨f1, ns1, hcs1, hr1⟩ := open_prog (w := W) hf1
  have hcs1' : cs1 = #[ns1] := by
    apply Array.ext'
    simpa [Value.cells] using hcs1
  subst hcs1'
  have hlt0 : ∀ x ∈ p0, x.block < W.heap.size := fun x hx => by simpa using hW'.lt x (by simp [hx])
  have hlt1 : ∀ x ∈ p1, x.block < W.heap.size := fun x hx => by simpa using hW'.lt x (by simp [hx])
  refine (programSame_ok f0 f1 ns0 ns1 (hp W) hr0 hr1 W (has_hp W)).mono ?_
  rintro e W' ⟨v, G', rfl, hg, rfl⟩
  have hb := hg.below
  exact ⟨_, rfl, post_below rfl rfl hW' (fun _ _ _ => (trodAll_cons_mk (shut_bool Try.underlying4 _) trodAll_mk0))
    (fun sp hsp => by have this := (trodAll_cons_mk (WideElems.Trod_stays laidOut (by kernel_rfl) (of_decide_eq_true (by kernel_rfl)) h0k (fun x hx => hb.same (hlt0 x hx)) (fun x hx => hsp x (by simp [hx]))) (trodAll_cons_mk (WideElems.Trod_stays laidOut (by kernel_rfl) (of_decide_eq_true (by kernel_rfl)) h1k (fun x hx => hb.same (hlt1 x hx)) (fun x hx => hsp x (by simp [hx]))) trodAll_mk0)); simp only [List.append_nil, List.nil_append] at this; exact this)
    hb (ok_one (by kernel_rfl) rfl (okWide_bool_mk Try.underlying4 _))⟩

set_option maxRecDepth 100000 in
theorem lifted (os : Os) (started : os.Started) (H : Type) (enc : TypeId × Value → H) :
    ReturnsInHanded {} Try.checked os 5 .any (Rows.programSameSpec.pre6 enc Try.prog Try.f5 Rows.programSameRow.domain false) (Rows.programSameSpec.post enc Try.prog Try.f5 false true false false) := by
  refine returnsInHanded_of_change (C := Try.checked) own started (by kernel_rfl) Try.func5
    (ChangeSpec.witness6 (enc := enc) (C := Try.checked) false ⟨#[], #[.agg #[.slice none 0 0], .agg #[.slice none 0 0]], []⟩ 8 (by kernel_rfl) (by kernel_rfl) (by kernel_rfl) (by kernel_rfl)) ?_
  intro W base args ds gs before hval hW _ _
  exact contract H enc W base args ds gs before hval hW

theorem over : Rows.programSameRow.holds Try.pinned (OpenSpec.ofChange Rows.programSameSpec) :=
  OpenClaim.holds_of_wide 5 Try.f5 rfl rfl rfl rfl rfl rfl rfl ⟨rfl, rfl, rfl, rfl, rfl⟩ rfl rfl rfl rfl rfl (by kernel_rfl) Try.func5 (by kernel_rfl)
    (of_decide_eq_true (by kernel_rfl)) (by unfold Func.isWrapper; first | (rw [if_pos (by decide +kernel)]; kernel_rfl) | (rw [if_neg (by decide +kernel)]; exact ⟨rfl, rfl⟩))
    (fun os started H enc _ => lifted os started H enc)

theorem proved : Rows.ProgramSameSaid := over
end Go.Proofs.Ytmdkenpodcnnbaa.programSame

