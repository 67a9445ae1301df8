/-
  Package history, layer 29: the port with a name.
-/
import Derived.Test.YtpmmbjcgabnloaaZ2
import Derived.WideLaws
set_option linter.unusedSimpArgs false
set_option linter.unusedVariables false
namespace Go.Proofs.Ytpmmbjcgabnloaa
set_option linter.unusedSimpArgs false
set_option linter.unusedVariables false
open Go.Sx
set_option maxHeartbeats 8000000
set_option maxRecDepth 20000
def pix (v : VT) : List Po → Nat → Option Nat
  | [], _ => none
  | p :: r, i => if vsm p.nm v then some i else pix v r (i + 1)
theorem pix_lt {v : VT} : ∀ {l : List Po} {i j : Nat}, pix v l i = some j → i ≤ j ∧ j < i + l.length
  | [], _, _, h => by simp [pix] at h
  | p :: r, i, j, h => by
    rw [pix] at h
    split at h
    · cases h; simp
    · have := pix_lt h
      simp; omega
theorem port_ok (ps : List Po) (v : VT) (b : Nat) (sv sp sl : Value) (G : Hp) (hb : At G b 0 [sv, sp]) (hp : rPo.S G ps sp) (hv : v.rep G sl) : Pure Try.prog 76 [.pointer (some ⟨b, 0, none⟩), .agg #[.int .i64 v.k, .int .i64 v.n, sl]] G (fun r _ => r = .tuple #[.int .i64 ((pix v ps 0).getD 0 : Nat), .bool (pix v ps 0).isSome]) := by
  obtain ⟨ad2, cap2, rfl⟩ := Rp.S_slice hp
  have h64 := Rp.S_len hp
  have hb1 : At G b 1 [.slice ad2 ps.length cap2] := by simpa using hb.sub 1 1 (by simp)
  obtain ⟨adv, capv, rfl⟩ := VT.rep_slice hv
  refine enterX ty tyok Try.func76 rfl Try.ntmps76 [.v (.pointer (some ⟨b, 0, none⟩)), .a [.v (.int .i64 v.k), .v (.int .i64 v.n), .v (.slice adv v.l.length capv)]] (by simp) ?_
  intro C hP hQ hnt hty hmb hmh hro; have hQp := qp_body hQ; refine st_ ?_
  refine rn_ ?_; intros
  rename_i b3
  refine go_q (by rw [hnt]; rfl) (quiet_load (by rw [hty]; rfl) rfl (by simp [TK.agg]) hb1 rfl) ?_; refine rn_ ?_; intros
  refine go_keep [3, 11, 12, 13] [0] ?_
  refine st_ ?_
  refine x_loop rfl (fun q st => ∃ (k : Nat), k ≤ ps.length ∧ q = ps.length - k ∧ pix v ps 0 = pix v (ps.drop k) k ∧
    st = ⟨[(3, .p 0 b3 0), (11, .v (.slice ad2 ps.length cap2)), (12, .v (.int .i64 ps.length)), (13, .v (.int .i64 k))], [(0, b3, .c 28 [.v (.int .i64 v.k), .v (.int .i64 v.n), .v (.slice adv v.l.length capv)])], G, []⟩) ⟨0, by omega, rfl, rfl, rfl⟩ ?_
  rintro q st ⟨k, hk, hq, hinv, rfl⟩ ih
  refine rn_ ?_; intros
  refine x_if rfl rfl rfl rfl (fun hjl => ?_) (fun hjl => ?_)
  · have hlt : k < ps.length := by simp at hjl; omega
    obtain ⟨c1, o1, sl, rfl, hat, hrep, hbd, h64⟩ := rPo_at hp (i := k) hlt
    obtain ⟨asl, csl, rfl⟩ := VT.rep_slice hrep
    rw [List.drop_eq_getElem_cons hlt, pix] at hinv
    generalize ps[k] = p at *
    refine rn_ ?_; intros
    refine go_q (by rw [hnt]; rfl) (quiet_index (by rw [hty]; rfl) (by rw [hty]; rfl) rfl rfl rfl (by omega) (by omega)) ?_
    refine rn_ ?_; intros
    refine go_q (by rw [hnt]; rfl) (quiet_load (by rw [hty]; rfl) rfl (by simp [TK.agg]) hat rfl) ?_
    refine rn_ ?_; intros
    refine go_callf (by rw [hnt]; rfl) (by rw [hP]; kernel_rfl) rfl (hP ▸ same_ok p.nm v _ _ G hrep hv) ?_; refine rn_ ?_; intros
    rw [← vsm]
    refine x_split rfl rfl rfl (fun hs => ?_) (fun hs => ?_) <;> (refine st_ ?_; (refine ru_ ?_; intros))
    · refine rn_ ?_; intros
      refine x_retc rfl hQ hmb rfl (by rw [hty]; simp only [so, sq, zy, zz, tyE, SO', SQ', opQ, opStore, opAlloc, ev, putS, dOk, cv, SV.cs, SV.one, SV.bool?, eqB, Value.oneCell', ldOwn, binInt, binConst, binBool, binStr, isC, TK.agg, rv, rv1, ldV, resOne, resV, Nat.reduceAdd, Nat.reduceMul, Nat.reduceSub, Nat.reduceLT, Nat.reduceLeDiff, Nat.reduceEqDiff, Nat.reduceBEq, reduceIte, reduceCtorEq, eq_self]; try rfl) rfl ?_; simp only [SV.den, resV, dens]
      rw [hinv, if_pos hs]; rfl
    · rw [if_neg (by rw [hs]; decide)] at hinv
      rw [wr (n := (k : Int) + 1) (by omega) (by omega)]
      refine go_keep [3, 11, 12, 13] [0] ?_
      refine st_ ?_
      exact ih (ps.length - (k + 1)) _ (by omega) ⟨k + 1, by omega, rfl, hinv, by simp⟩
  · have hge : k = ps.length := by simp at hjl; omega
    rw [hge, List.drop_length, pix] at hinv
    refine rn_ ?_; intros
    refine x_retc rfl hQ hmb rfl (by rw [hty]; simp only [so, sq, zy, zz, tyE, SO', SQ', opQ, opStore, opAlloc, ev, putS, dOk, cv, SV.cs, SV.one, SV.bool?, eqB, Value.oneCell', ldOwn, binInt, binConst, binBool, binStr, isC, TK.agg, rv, rv1, ldV, resOne, resV, Nat.reduceAdd, Nat.reduceMul, Nat.reduceSub, Nat.reduceLT, Nat.reduceLeDiff, Nat.reduceEqDiff, Nat.reduceBEq, reduceIte, reduceCtorEq, eq_self]; try rfl) rfl ?_; simp only [SV.den, resV, dens]
    rw [hinv]; rfl
end Go.Proofs.Ytpmmbjcgabnloaa
namespace Go.Sx
set_option linter.unusedSimpArgs false
set_option linter.unusedVariables false
open Go.RowKit

section
variable {C : Ctx} {K : List KI} {s : St}
end

theorem retv_grow {w w' : World} {G G' : Hp} {rs : List Rw} {Z X : Nat → Prop} (hw : Has w G) (hg : Grow [] w G w' G') (hz : (ZR rs).A Z Z w') (hZ : ∀ g, Z g → G' g = none ∧ w.heap.size ≤ g) :
    ∃ G2, Grow [] w G w' G2 ∧ Le G' G2 ∧ (∀ g, Z g → X g → G2 g = none) ∧ ∀ (i : Nat) (r : Rw), rs[i]? = some r → (∀ g, r.v.ownBlock = some g → ¬ X g) → RowAt G2 r := by
  classical
  obtain ⟨z1, z2, z3, z4⟩ := hz
  refine ⟨fun g => if Z g ∧ ¬ X g then w'.heap[g]? else G' g, ⟨hg.os, hg.tape, hg.output, hg.size, hg.blk, fun g o e => ?_, fun g hlt => ?_⟩, fun g o e => ?_, fun g hz hx => ?_, fun i r e hr => row_at (z1 i r e) fun g hg' => ?_⟩
  · split at e
    · exact e
    · exact hg.has g o e
  · have : ¬ Z g := fun q => by have := (hZ g q).2; omega
    simp only [this, false_and, if_false]
    exact hg.old g hlt
  · have : ¬ Z g := fun q => by rw [(hZ g q).1] at e; cases e
    simp only [this, false_and, if_false]
    exact e
  · simp only [hx, not_true_eq_false, and_false, if_false]
    exact (hZ g hz).1
  · have h1 : Z g := (z3 g).2 ⟨i, r, e, hg'⟩
    simp only [h1, hr g hg', not_false_eq_true, and_self, if_true]
theorem PureV.pure {P : Program} {f : FuncId} {args : List Value} {G : Hp} {φ : Value → Hp → List Rw → Prop} {ψ : Value → Hp → Prop} (h : PureV P f args G φ)
    (hψ : ∀ v G1 G2 rs, Le G G1 → Le G1 G2 → φ v G1 rs → (∀ (i : Nat) (r : Rw), rs[i]? = some r → RowAt G2 r) → ψ v G2) : Pure P f args G ψ := by
  intro w hw
  refine (h w hw).mono ?_
  rintro e w' ⟨v, G', rs, Z, rfl, hg, hz, hZ, hφ⟩
  obtain ⟨G2, g1, g2, _, g3⟩ := retv_grow (X := fun _ => False) hw hg hz hZ
  exact ⟨v, G2, rfl, g1, hψ v G' G2 rs (fun b o e => hg.keep hw e) g2 hφ fun i r e => g3 i r e (fun _ _ q => q)⟩
section
variable {C : Ctx} {K : List KI} {s : St} {sl : List (Nat × SV)} {own : Owns} {G : Hp} {R : Array Oper} {l : List Oper} {d : Option Tmp} {t : TypeId} {pos : String} {aft : Array Edge}
theorem quiet_loadO (k : Nat) {T : TypeId} {x : Operand} {ti : TI} {b off : Nat} {e : TypeId} {cur : Array Value} {v : Value} {y : SV}
    (hT : C.ty T = some ti) (hag : ti.k.agg = false) (hx : ev sl x = some y) (hy : y.den = .pointer (some ⟨b, off, none⟩)) (hk : lk k own = some (b, .o (.cells cur e))) (hv : cur[off]? = some v) :
    Quiet C sl own G (.load T x) v := by
  intro a w d t pos aft g hs hh
  have hxv := ev_ok hs hx
  rw [hy] at hxv
  have hb := hh.1 _ _ _ hk
  simp only [OO.holds] at hb
  have hc : w.cell? ⟨b, off, none⟩ = some v := by rw [cell_at hb]; exact hv
  simp only [execOp, hxv, Instr.loadAt, Instr.sureAddr, Sem.run_bind, Sem.run_pure, Result.andThen_ok, loadVar, run_isAgg w (C.tyok _ _ hT), hag]
  simp [run_load, hc]
end
end Go.Sx
namespace Go.Proofs.Ytpmmbjcgabnloaa
set_option linter.unusedSimpArgs false
set_option linter.unusedVariables false
open Go.Sx
set_option maxHeartbeats 8000000
set_option maxRecDepth 20000
def stRows (v1 : Value) (n1 : Nat) (xs : List Value) (v2 : Value) (n2 : Nat) (ys : List Value) : List Rw := [⟨28, 3, v1, n1, xs⟩, ⟨55, 4, v2, n2, ys⟩]
def stOwn (s : MS) (v : Value) (G : Hp) (rs : List Rw) : Prop := ∃ v1 v2 xs ys, v = .agg #[v1, v2] ∧ rs = stRows v1 s.vals.length xs v2 s.ps.length ys ∧ rV.L G s.vals xs ∧ rPo.L G s.ps ys
theorem copied_cells {x : VT} {v : Value} {G : Hp} (h : Copied x v G) : ∃ sl, v = .agg #[.int .i64 x.k, .int .i64 x.n, sl] ∧ x.rep G sl := by
  obtain ⟨ad, cap, rfl, hr⟩ := h
  exact ⟨_, rfl, hr⟩
theorem copyState_ok (s : MS) (sv sp : Value) (G : Hp) (hs : s.rep G sv sp) (h1 : ∀ x ∈ s.vals, sml x = true) (h2 : ∀ p ∈ s.ps, sml p.nm = true) (hl1 : s.vals.length ≤ 1000000) (hl2 : s.ps.length ≤ 1000000) :
    PureV Try.prog 43 [.agg #[sv, sp]] G (stOwn s) := by
  have hv := hs.v
  have hp := hs.p
  obtain ⟨ad1, cap1, rfl⟩ := Rp.S_slice hv
  obtain ⟨ad2, cap2, rfl⟩ := Rp.S_slice hp
  refine enterV ty tyok Try.func43 rfl Try.ntmps43 [.a [.v (.slice ad1 s.vals.length cap1), .v (.slice ad2 s.ps.length cap2)]] (by simp) ?_
  intro C hP hQ hnt hty hmb hmh hro; have hQp := qp_body hQ; refine st_ ?_
  refine rn_ ?_; intros
  rename_i b1 b2 b3
  refine go_nilrow 41 28 3 rfl (by omega) ?_
  refine go_nilrow 42 55 4 rfl (by omega) ?_
  refine go_keep [1, 2, 3, 9, 10, 11] [0, 1, 2, 41, 42] ?_
  refine st_ ?_
  refine x_loop rfl (fun q st => ∃ (k : Nat) (G' : Hp) (xs : List Value) (ad3 : Option Addr) (cap3 : Nat), k ≤ s.vals.length ∧ q = s.vals.length - k ∧ Le G G' ∧ rV.L G' (s.vals.take k) xs ∧
    st = ⟨[(1, .p 0 b1 0), (2, .p 1 b2 0), (3, .p 2 b3 0), (9, .v (.slice ad1 s.vals.length cap1)), (10, .v (.int .i64 s.vals.length)), (11, .v (.int .i64 k))],
      [(0, b1, .c 44 [.v (.slice ad1 s.vals.length cap1), .v (.slice ad2 s.ps.length cap2)]), (1, b2, .c 44 [.v (.slice none 0 0), .v (.slice none 0 0)]), (2, b3, .c 44 [.v (.slice ad3 k cap3), .v (.slice none 0 0)]),
       (41, 0, .row (.slice ad3 k cap3) 28 3 k xs), (42, 0, .row (.slice none 0 0) 55 4 0 [])], G', []⟩) ⟨0, G, [], none, 0, by omega, rfl, Le.refl _, rfl, rfl⟩ ?_
  rintro q st ⟨k, G1, xs, ad3, cap3, hk, hq, hle, hL, rfl⟩ ih
  refine rn_ ?_; intros
  refine x_if rfl rfl rfl rfl (fun hjl => ?_) (fun hjl => ?_)
  · have hlt : k < s.vals.length := by simp at hjl; omega
    have htk : s.vals.take (k + 1) = s.vals.take k ++ [s.vals[k]] := (List.take_append_getElem hlt).symm
    obtain ⟨c1, o1, sl, rfl, hat, hrep, hb⟩ := rV_at hv (i := k) hlt
    obtain ⟨asl, csl, rfl⟩ := VT.rep_slice hrep
    refine rn_ ?_; intros
    refine go_q (by rw [hnt]; rfl) (quiet_index (by rw [hty]; rfl) (by rw [hty]; rfl) rfl rfl rfl (by omega) (by omega)) ?_
    refine rn_ ?_; intros
    refine go_q (by rw [hnt]; rfl) (quiet_load (by rw [hty]; rfl) rfl (by simp [TK.agg]) (hat.mono hle) rfl) ?_
    refine rn_ ?_; intros
    rename_i b5
    refine x_held [(43, b5, .c 28 [.v (.int .i64 s.vals[k].k), .v (.int .i64 s.vals[k].n), .v (.slice asl s.vals[k].l.length csl)])] rfl (by rw [hP]; kernel_rfl) rfl rfl rfl ?_; refine st_ ?_
    refine h_take 0 rfl (by kernel_rfl) (by kernel_rfl) (by kernel_rfl) hQp (by rw [hnt]; rfl) (allIn (by repeat (first | exact trivial | refine ⟨rfl, ?_⟩))) (by first | exact Le.refl _ | assumption) (quiet_op (by rw [hty]; first | rfl | (refine st_ ?_; rfl))) ?_; refine st_ ?_
    refine h_take 2 rfl (by kernel_rfl) (by kernel_rfl) (by kernel_rfl) hQp (by rw [hnt]; rfl) (allIn (by repeat (first | exact trivial | refine ⟨rfl, ?_⟩))) (by first | exact Le.refl _ | assumption) (quiet_op (by rw [hty]; first | rfl | (refine st_ ?_; rfl))) ?_; refine st_ ?_
    refine h_two 1 3 rfl rfl (by kernel_rfl) ?_ ?_
    · refine rn_ ?_; intros
      refine h_hs (allIn (by repeat (first | exact trivial | refine ⟨rfl, ?_⟩))) (by first | exact Le.refl _ | assumption) ?_
      refine h_one 3 rfl (by kernel_rfl) ?_
      refine go_call (by rw [hnt]; rfl) (by rw [hP]; kernel_rfl) rfl (hP ▸ copy_ok s.vals[k] _ _ (VT.rep_mono hle hrep) (by omega)) ?_
      rintro v G2 (hle2 : Le G1 G2) hv0
      obtain ⟨hsm, hv0⟩ | ⟨hsm, _⟩ := hv0
      rotate_left
      · rw [h1 _ (List.getElem_mem hlt)] at hsm; cases hsm
      obtain ⟨sl2, rfl, hr2⟩ := copied_cells hv0
      clear hv0
      obtain ⟨asl2, csl2, rfl⟩ := VT.rep_slice hr2
      refine rn_ ?_; intros
      refine h_hs (allIn (by repeat (first | exact trivial | refine ⟨rfl, ?_⟩))) (by first | exact Le.refl _ | assumption) ?_
      refine h_one 4 rfl (by kernel_rfl) ?_
      refine rn_ ?_; intros
      refine h_hs (allIn (by repeat (first | exact trivial | refine ⟨rfl, ?_⟩))) (by first | exact Le.refl _ | assumption) ?_
      refine h_one 5 rfl (by kernel_rfl) ?_
      refine go_append 41 (by rw [hnt]; rfl) (by rw [hty]; rfl) (by rw [hty]; rfl) (by decide) rfl rfl rfl (by omega) rfl (src_own 3 rfl rfl) rfl (by simp [dens, SV.den, Value.oneCell']) (by omega) (by simp only []; omega) ?_
      intro v'
      refine go_rowS 41 rfl ?_
      rintro ad4 cap4 rfl
      refine rn_ ?_; intros
      refine h_hs (allIn (by repeat (first | exact trivial | refine ⟨rfl, ?_⟩))) (by first | exact Le.refl _ | assumption) ?_
      refine h_take 6 rfl (by kernel_rfl) (by kernel_rfl) (by kernel_rfl) hQp (by rw [hnt]; rfl) (allIn (by repeat (first | exact trivial | refine ⟨rfl, ?_⟩))) (by first | exact Le.refl _ | assumption) (quiet_op (by rw [hty]; first | rfl | (refine st_ ?_; rfl))) ?_; refine st_ ?_
      refine h_one 7 rfl (by kernel_rfl) ?_
      refine rn_ ?_; intros
      refine h_hs (allIn (by repeat (first | exact trivial | refine ⟨rfl, ?_⟩))) (by first | exact Le.refl _ | assumption) ?_
      refine h_end (by kernel_rfl) ?_
      refine rn_ ?_; intros
      rw [wr (n := (k : Int) + 1) (by omega) (by omega)]
      refine go_keep [1, 2, 3, 9, 10, 11] [0, 1, 2, 41, 42] ?_
      refine st_ ?_
      exact ih (s.vals.length - (k + 1)) _ (by omega) ⟨k + 1, G2, _, ad4, cap4, by omega, rfl, hle.trans hle2, by rw [htk]; exact Rp.L_append (Rp.L_mono hle2 hL) (Rp.L_single ⟨_, rfl, hr2, hb⟩), by simp [dens, SV.den]⟩
    · refine go_call (by rw [hnt]; rfl) (by rw [hP]; kernel_rfl) rfl (hP ▸ copy_ok s.vals[k] _ _ (VT.rep_mono hle hrep) (by omega)) ?_
      rintro v G2 (hle2 : Le G1 G2) hv0
      obtain ⟨hsm, hv0⟩ | ⟨hsm, _⟩ := hv0
      rotate_left
      · rw [h1 _ (List.getElem_mem hlt)] at hsm; cases hsm
      obtain ⟨sl2, rfl, hr2⟩ := copied_cells hv0
      clear hv0
      obtain ⟨asl2, csl2, rfl⟩ := VT.rep_slice hr2
      refine rn_ ?_; intros
      refine h_hs (allIn (by repeat (first | exact trivial | refine ⟨rfl, ?_⟩))) (by first | exact Le.refl _ | assumption) ?_
      refine h_two 1 4 rfl rfl (by kernel_rfl) ?_ ?_
      · refine rn_ ?_; intros
        refine h_hs (allIn (by repeat (first | exact trivial | refine ⟨rfl, ?_⟩))) (by first | exact Le.refl _ | assumption) ?_
        refine h_one 4 rfl (by kernel_rfl) ?_
        refine rn_ ?_; intros
        refine h_hs (allIn (by repeat (first | exact trivial | refine ⟨rfl, ?_⟩))) (by first | exact Le.refl _ | assumption) ?_
        refine h_one 5 rfl (by kernel_rfl) ?_
        refine go_append 41 (by rw [hnt]; rfl) (by rw [hty]; rfl) (by rw [hty]; rfl) (by decide) rfl rfl rfl (by omega) rfl (src_own 3 rfl rfl) rfl (by simp [dens, SV.den, Value.oneCell']) (by omega) (by simp only []; omega) ?_
        intro v'
        refine go_rowS 41 rfl ?_
        rintro ad4 cap4 rfl
        refine rn_ ?_; intros
        refine h_hs (allIn (by repeat (first | exact trivial | refine ⟨rfl, ?_⟩))) (by first | exact Le.refl _ | assumption) ?_
        refine h_take 6 rfl (by kernel_rfl) (by kernel_rfl) (by kernel_rfl) hQp (by rw [hnt]; rfl) (allIn (by repeat (first | exact trivial | refine ⟨rfl, ?_⟩))) (by first | exact Le.refl _ | assumption) (quiet_op (by rw [hty]; first | rfl | (refine st_ ?_; rfl))) ?_; refine st_ ?_
        refine h_one 7 rfl (by kernel_rfl) ?_
        refine rn_ ?_; intros
        refine h_hs (allIn (by repeat (first | exact trivial | refine ⟨rfl, ?_⟩))) (by first | exact Le.refl _ | assumption) ?_
        refine h_end (by kernel_rfl) ?_
        refine rn_ ?_; intros
        rw [wr (n := (k : Int) + 1) (by omega) (by omega)]
        refine go_keep [1, 2, 3, 9, 10, 11] [0, 1, 2, 41, 42] ?_
        refine st_ ?_
        exact ih (s.vals.length - (k + 1)) _ (by omega) ⟨k + 1, G2, _, ad4, cap4, by omega, rfl, hle.trans hle2, by rw [htk]; exact Rp.L_append (Rp.L_mono hle2 hL) (Rp.L_single ⟨_, rfl, hr2, hb⟩), by simp [dens, SV.den]⟩
      · refine rn_ ?_; intros
        refine h_hs (allIn (by repeat (first | exact trivial | refine ⟨rfl, ?_⟩))) (by first | exact Le.refl _ | assumption) ?_
        refine h_one 1 rfl (by kernel_rfl) ?_
        refine rn_ ?_; intros
        refine h_hs (allIn (by repeat (first | exact trivial | refine ⟨rfl, ?_⟩))) (by first | exact Le.refl _ | assumption) ?_
        refine h_one 5 rfl (by kernel_rfl) ?_
        refine go_append 41 (by rw [hnt]; rfl) (by rw [hty]; rfl) (by rw [hty]; rfl) (by decide) rfl rfl rfl (by omega) rfl (src_own 3 rfl rfl) rfl (by simp [dens, SV.den, Value.oneCell']) (by omega) (by simp only []; omega) ?_
        intro v'
        refine go_rowS 41 rfl ?_
        rintro ad4 cap4 rfl
        refine rn_ ?_; intros
        refine h_hs (allIn (by repeat (first | exact trivial | refine ⟨rfl, ?_⟩))) (by first | exact Le.refl _ | assumption) ?_
        refine h_take 6 rfl (by kernel_rfl) (by kernel_rfl) (by kernel_rfl) hQp (by rw [hnt]; rfl) (allIn (by repeat (first | exact trivial | refine ⟨rfl, ?_⟩))) (by first | exact Le.refl _ | assumption) (quiet_op (by rw [hty]; first | rfl | (refine st_ ?_; rfl))) ?_; refine st_ ?_
        refine h_one 7 rfl (by kernel_rfl) ?_
        refine rn_ ?_; intros
        refine h_hs (allIn (by repeat (first | exact trivial | refine ⟨rfl, ?_⟩))) (by first | exact Le.refl _ | assumption) ?_
        refine h_end (by kernel_rfl) ?_
        refine rn_ ?_; intros
        rw [wr (n := (k : Int) + 1) (by omega) (by omega)]
        refine go_keep [1, 2, 3, 9, 10, 11] [0, 1, 2, 41, 42] ?_
        refine st_ ?_
        exact ih (s.vals.length - (k + 1)) _ (by omega) ⟨k + 1, G2, _, ad4, cap4, by omega, rfl, hle.trans hle2, by rw [htk]; exact Rp.L_append (Rp.L_mono hle2 hL) (Rp.L_single ⟨_, rfl, hr2, hb⟩), by simp [dens, SV.den]⟩
  have hge : k = s.vals.length := by simp at hjl; omega
  subst hge
  rw [List.take_length] at hL
  clear ih hjl hq hk
  refine rn_ ?_; intros
  refine go_keep [1, 2, 3, 24, 25, 26] [0, 1, 2, 41, 42] ?_
  refine st_ ?_
  refine x_loop rfl (fun q st => ∃ (k : Nat) (G' : Hp) (ys : List Value) (ad5 : Option Addr) (cap5 : Nat), k ≤ s.ps.length ∧ q = s.ps.length - k ∧ Le G1 G' ∧ rPo.L G' (s.ps.take k) ys ∧
    st = ⟨[(1, .p 0 b1 0), (2, .p 1 b2 0), (3, .p 2 b3 0), (24, .v (.slice ad2 s.ps.length cap2)), (25, .v (.int .i64 s.ps.length)), (26, .v (.int .i64 k))],
      [(0, b1, .c 44 [.v (.slice ad1 s.vals.length cap1), .v (.slice ad2 s.ps.length cap2)]), (1, b2, .c 44 [.v (.slice none 0 0), .v (.slice none 0 0)]), (2, b3, .c 44 [.v (.slice ad3 s.vals.length cap3), .v (.slice ad5 k cap5)]),
       (41, 0, .row (.slice ad3 s.vals.length cap3) 28 3 s.vals.length xs), (42, 0, .row (.slice ad5 k cap5) 55 4 k ys)], G', []⟩) ⟨0, G1, [], none, 0, by omega, rfl, Le.refl _, rfl, rfl⟩ ?_
  replace hle0 := hle
  clear hle
  rintro q st ⟨k, G3, ys, ad5, cap5, hk, hq, hle3, hM, rfl⟩ ih
  have hle := hle0.trans hle3
  refine rn_ ?_; intros
  refine x_if rfl rfl rfl rfl (fun hjl => ?_) (fun hjl => ?_)
  · have hlt : k < s.ps.length := by simp at hjl; omega
    have htk : s.ps.take (k + 1) = s.ps.take k ++ [s.ps[k]] := (List.take_append_getElem hlt).symm
    obtain ⟨c1, o1, sl, rfl, hat, hrep, hb, h64⟩ := rPo_at hp (i := k) hlt
    obtain ⟨asl, csl, rfl⟩ := VT.rep_slice hrep
    refine rn_ ?_; intros
    refine go_q (by rw [hnt]; rfl) (quiet_index (by rw [hty]; rfl) (by rw [hty]; rfl) rfl rfl rfl (by omega) (by omega)) ?_
    refine rn_ ?_; intros
    refine go_q (by rw [hnt]; rfl) (quiet_load (by rw [hty]; rfl) rfl (by simp [TK.agg]) (hat.mono hle) rfl) ?_
    refine rn_ ?_; intros
    rename_i b5
    refine x_held [(43, b5, .c 55 [.v (.int .i64 s.ps[k].nm.k), .v (.int .i64 s.ps[k].nm.n), .v (.slice asl s.ps[k].nm.l.length csl), .v (.int .i64 s.ps[k].pt)])] rfl (by rw [hP]; kernel_rfl) rfl rfl rfl ?_; refine st_ ?_
    refine h_take 0 rfl (by kernel_rfl) (by kernel_rfl) (by kernel_rfl) hQp (by rw [hnt]; rfl) (allIn (by repeat (first | exact trivial | refine ⟨rfl, ?_⟩))) (by first | exact Le.refl _ | assumption) (quiet_op (by rw [hty]; first | rfl | (refine st_ ?_; rfl))) ?_; refine st_ ?_
    refine h_take 2 rfl (by kernel_rfl) (by kernel_rfl) (by kernel_rfl) hQp (by rw [hnt]; rfl) (allIn (by repeat (first | exact trivial | refine ⟨rfl, ?_⟩))) (by first | exact Le.refl _ | assumption) (quiet_op (by rw [hty]; first | rfl | (refine st_ ?_; rfl))) ?_; refine st_ ?_
    refine h_take 3 rfl (by kernel_rfl) (by kernel_rfl) (by kernel_rfl) hQp (by rw [hnt]; rfl) (allIn (by repeat (first | exact trivial | refine ⟨rfl, ?_⟩))) (by first | exact Le.refl _ | assumption) (quiet_op (by rw [hty]; first | rfl | (refine st_ ?_; rfl))) ?_; refine st_ ?_
    refine h_take 5 rfl (by kernel_rfl) (by kernel_rfl) (by kernel_rfl) hQp (by rw [hnt]; rfl) (allIn (by repeat (first | exact trivial | refine ⟨rfl, ?_⟩))) (by first | exact Le.refl _ | assumption) (quiet_op (by rw [hty]; first | rfl | (refine st_ ?_; rfl))) ?_; refine st_ ?_
    refine h_take 6 rfl (by kernel_rfl) (by kernel_rfl) (by kernel_rfl) hQp (by rw [hnt]; rfl) (allIn (by repeat (first | exact trivial | refine ⟨rfl, ?_⟩))) (by first | exact Le.refl _ | assumption) (quiet_op (by rw [hty]; first | rfl | (refine st_ ?_; rfl))) ?_; refine st_ ?_
    refine h_two 1 4 rfl rfl (by kernel_rfl) ?_ ?_
    · refine rn_ ?_; intros
      refine h_hs (allIn (by repeat (first | exact trivial | refine ⟨rfl, ?_⟩))) (by first | exact Le.refl _ | assumption) ?_
      refine h_one 4 rfl (by kernel_rfl) ?_
      refine go_call (by rw [hnt]; rfl) (by rw [hP]; kernel_rfl) rfl (hP ▸ copy_ok s.ps[k].nm _ _ (VT.rep_mono hle hrep) (by omega)) ?_
      rintro v G4 (hle4 : Le G3 G4) hv0
      obtain ⟨hsm, hv0⟩ | ⟨hsm, _⟩ := hv0
      rotate_left
      · rw [h2 _ (List.getElem_mem hlt)] at hsm; cases hsm
      obtain ⟨sl2, rfl, hr2⟩ := copied_cells hv0
      clear hv0
      obtain ⟨asl2, csl2, rfl⟩ := VT.rep_slice hr2
      refine rn_ ?_; intros
      refine h_hs (allIn (by repeat (first | exact trivial | refine ⟨rfl, ?_⟩))) (by first | exact Le.refl _ | assumption) ?_
      refine h_take 7 rfl (by kernel_rfl) (by kernel_rfl) (by kernel_rfl) hQp (by rw [hnt]; rfl) (allIn (by repeat (first | exact trivial | refine ⟨rfl, ?_⟩))) (by first | exact Le.refl _ | assumption) (quiet_op (by rw [hty]; first | rfl | (refine st_ ?_; rfl))) ?_; refine st_ ?_
      refine h_one 8 rfl (by kernel_rfl) ?_
      refine rn_ ?_; intros
      refine h_hs (allIn (by repeat (first | exact trivial | refine ⟨rfl, ?_⟩))) (by first | exact Le.refl _ | assumption) ?_
      refine h_one 9 rfl (by kernel_rfl) ?_
      refine go_append 42 (by rw [hnt]; rfl) (by rw [hty]; rfl) (by rw [hty]; rfl) (by decide) rfl rfl rfl (by omega) rfl (src_own 4 rfl rfl) rfl (by simp [dens, SV.den, Value.oneCell']) (by omega) (by simp only []; omega) ?_
      intro v'
      refine go_rowS 42 rfl ?_
      rintro ad4 cap4 rfl
      refine rn_ ?_; intros
      refine h_hs (allIn (by repeat (first | exact trivial | refine ⟨rfl, ?_⟩))) (by first | exact Le.refl _ | assumption) ?_
      refine h_take 10 rfl (by kernel_rfl) (by kernel_rfl) (by kernel_rfl) hQp (by rw [hnt]; rfl) (allIn (by repeat (first | exact trivial | refine ⟨rfl, ?_⟩))) (by first | exact Le.refl _ | assumption) (quiet_op (by rw [hty]; first | rfl | (refine st_ ?_; rfl))) ?_; refine st_ ?_
      refine h_one 11 rfl (by kernel_rfl) ?_
      refine rn_ ?_; intros
      refine h_hs (allIn (by repeat (first | exact trivial | refine ⟨rfl, ?_⟩))) (by first | exact Le.refl _ | assumption) ?_
      refine h_end (by kernel_rfl) ?_
      refine rn_ ?_; intros
      rw [wr (n := (k : Int) + 1) (by omega) (by omega)]
      refine go_keep [1, 2, 3, 24, 25, 26] [0, 1, 2, 41, 42] ?_
      refine st_ ?_
      exact ih (s.ps.length - (k + 1)) _ (by omega) ⟨k + 1, G4, _, ad4, cap4, by omega, rfl, hle3.trans hle4, by rw [htk]; exact Rp.L_append (Rp.L_mono hle4 hM) (Rp.L_single ⟨_, rfl, hr2, hb, h64⟩), by simp [dens, SV.den]⟩
    · refine go_call (by rw [hnt]; rfl) (by rw [hP]; kernel_rfl) rfl (hP ▸ copy_ok s.ps[k].nm _ _ (VT.rep_mono hle hrep) (by omega)) ?_
      rintro v G4 (hle4 : Le G3 G4) hv0
      obtain ⟨hsm, hv0⟩ | ⟨hsm, _⟩ := hv0
      rotate_left
      · rw [h2 _ (List.getElem_mem hlt)] at hsm; cases hsm
      obtain ⟨sl2, rfl, hr2⟩ := copied_cells hv0
      clear hv0
      obtain ⟨asl2, csl2, rfl⟩ := VT.rep_slice hr2
      refine rn_ ?_; intros
      refine h_hs (allIn (by repeat (first | exact trivial | refine ⟨rfl, ?_⟩))) (by first | exact Le.refl _ | assumption) ?_
      refine h_take 7 rfl (by kernel_rfl) (by kernel_rfl) (by kernel_rfl) hQp (by rw [hnt]; rfl) (allIn (by repeat (first | exact trivial | refine ⟨rfl, ?_⟩))) (by first | exact Le.refl _ | assumption) (quiet_op (by rw [hty]; first | rfl | (refine st_ ?_; rfl))) ?_; refine st_ ?_
      refine h_two 1 8 rfl rfl (by kernel_rfl) ?_ ?_
      · refine rn_ ?_; intros
        refine h_hs (allIn (by repeat (first | exact trivial | refine ⟨rfl, ?_⟩))) (by first | exact Le.refl _ | assumption) ?_
        refine h_one 8 rfl (by kernel_rfl) ?_
        refine rn_ ?_; intros
        refine h_hs (allIn (by repeat (first | exact trivial | refine ⟨rfl, ?_⟩))) (by first | exact Le.refl _ | assumption) ?_
        refine h_one 9 rfl (by kernel_rfl) ?_
        refine go_append 42 (by rw [hnt]; rfl) (by rw [hty]; rfl) (by rw [hty]; rfl) (by decide) rfl rfl rfl (by omega) rfl (src_own 4 rfl rfl) rfl (by simp [dens, SV.den, Value.oneCell']) (by omega) (by simp only []; omega) ?_
        intro v'
        refine go_rowS 42 rfl ?_
        rintro ad4 cap4 rfl
        refine rn_ ?_; intros
        refine h_hs (allIn (by repeat (first | exact trivial | refine ⟨rfl, ?_⟩))) (by first | exact Le.refl _ | assumption) ?_
        refine h_take 10 rfl (by kernel_rfl) (by kernel_rfl) (by kernel_rfl) hQp (by rw [hnt]; rfl) (allIn (by repeat (first | exact trivial | refine ⟨rfl, ?_⟩))) (by first | exact Le.refl _ | assumption) (quiet_op (by rw [hty]; first | rfl | (refine st_ ?_; rfl))) ?_; refine st_ ?_
        refine h_one 11 rfl (by kernel_rfl) ?_
        refine rn_ ?_; intros
        refine h_hs (allIn (by repeat (first | exact trivial | refine ⟨rfl, ?_⟩))) (by first | exact Le.refl _ | assumption) ?_
        refine h_end (by kernel_rfl) ?_
        refine rn_ ?_; intros
        rw [wr (n := (k : Int) + 1) (by omega) (by omega)]
        refine go_keep [1, 2, 3, 24, 25, 26] [0, 1, 2, 41, 42] ?_
        refine st_ ?_
        exact ih (s.ps.length - (k + 1)) _ (by omega) ⟨k + 1, G4, _, ad4, cap4, by omega, rfl, hle3.trans hle4, by rw [htk]; exact Rp.L_append (Rp.L_mono hle4 hM) (Rp.L_single ⟨_, rfl, hr2, hb, h64⟩), by simp [dens, SV.den]⟩
      · refine rn_ ?_; intros
        refine h_hs (allIn (by repeat (first | exact trivial | refine ⟨rfl, ?_⟩))) (by first | exact Le.refl _ | assumption) ?_
        refine h_one 1 rfl (by kernel_rfl) ?_
        refine rn_ ?_; intros
        refine h_hs (allIn (by repeat (first | exact trivial | refine ⟨rfl, ?_⟩))) (by first | exact Le.refl _ | assumption) ?_
        refine h_one 9 rfl (by kernel_rfl) ?_
        refine go_append 42 (by rw [hnt]; rfl) (by rw [hty]; rfl) (by rw [hty]; rfl) (by decide) rfl rfl rfl (by omega) rfl (src_own 4 rfl rfl) rfl (by simp [dens, SV.den, Value.oneCell']) (by omega) (by simp only []; omega) ?_
        intro v'
        refine go_rowS 42 rfl ?_
        rintro ad4 cap4 rfl
        refine rn_ ?_; intros
        refine h_hs (allIn (by repeat (first | exact trivial | refine ⟨rfl, ?_⟩))) (by first | exact Le.refl _ | assumption) ?_
        refine h_take 10 rfl (by kernel_rfl) (by kernel_rfl) (by kernel_rfl) hQp (by rw [hnt]; rfl) (allIn (by repeat (first | exact trivial | refine ⟨rfl, ?_⟩))) (by first | exact Le.refl _ | assumption) (quiet_op (by rw [hty]; first | rfl | (refine st_ ?_; rfl))) ?_; refine st_ ?_
        refine h_one 11 rfl (by kernel_rfl) ?_
        refine rn_ ?_; intros
        refine h_hs (allIn (by repeat (first | exact trivial | refine ⟨rfl, ?_⟩))) (by first | exact Le.refl _ | assumption) ?_
        refine h_end (by kernel_rfl) ?_
        refine rn_ ?_; intros
        rw [wr (n := (k : Int) + 1) (by omega) (by omega)]
        refine go_keep [1, 2, 3, 24, 25, 26] [0, 1, 2, 41, 42] ?_
        refine st_ ?_
        exact ih (s.ps.length - (k + 1)) _ (by omega) ⟨k + 1, G4, _, ad4, cap4, by omega, rfl, hle3.trans hle4, by rw [htk]; exact Rp.L_append (Rp.L_mono hle4 hM) (Rp.L_single ⟨_, rfl, hr2, hb, h64⟩), by simp [dens, SV.den]⟩
  have hge : k = s.ps.length := by simp at hjl; omega
  subst hge
  rw [List.take_length] at hM
  clear ih hjl hq hk
  refine go_znil 40 rfl (by omega) ?_
  intro Z0
  refine go_zadd 40 41 rfl rfl (by omega) (by omega) (by omega) ?_
  intro Z1
  refine st_ ?_
  refine go_zadd 40 42 rfl rfl (by omega) (by omega) (by omega) ?_
  intro Z2
  refine st_ ?_
  refine rn_ ?_; intros
  refine x_retV 40 rfl hQ hmb hmh rfl (by rw [hty]; simp only [so, sq, zy, zz, tyE, SO', SQ', opQ, opStore, opAlloc, ev, putS, dOk, cv, SV.cs, SV.one, SV.bool?, eqB, Value.oneCell', ldOwn, binInt, binConst, binBool, binStr, isC, TK.agg, rv, rv1, ldV, resOne, resV, Nat.reduceAdd, Nat.reduceMul, Nat.reduceSub, Nat.reduceLT, Nat.reduceLeDiff, Nat.reduceEqDiff, Nat.reduceBEq, reduceIte, reduceCtorEq, eq_self]; try rfl) rfl rfl ?_
  exact ⟨_, _, xs, ys, by simp [resV, SV.den, dens], rfl, Rp.L_mono hle3 hL, hM⟩
end Go.Proofs.Ytpmmbjcgabnloaa
namespace Go.Sx
set_option linter.unusedSimpArgs false
set_option linter.unusedVariables false
open Go.RowKit
def QSz (cur : Array Value) (off cap size : Nat) (xs : List Value) : Prop := off + cap * size ≤ cur.size ∧ xs.length ≤ cap * size ∧ ∀ i, i < xs.length → cur[off + i]? = xs[i]?
def ZQ (G0 : Hp) (e : TypeId) (size : Nat) (v : Value) (n : Nat) (xs : List Value) : Zn where
  A Z M w := xs.length = n * size ∧ ∃ ad cap, v = .slice ad n cap ∧ n ≤ cap ∧ (∀ g, M g → Z g) ∧
    (((∀ g, ¬ Z g) ∧ cap = n ∧ (n = 0 ∨ ∃ b off, ad = some ⟨b, off, none⟩ ∧ At G0 b off xs)) ∨
     ∃ g off cur, ad = some ⟨g, off, none⟩ ∧ w.heap[g]? = some (.cells cur e) ∧ QSz cur off cap size xs ∧ (∀ j, Z j → j = g) ∧ M g)
  lt Z M w h g hg := by
    obtain ⟨_, ad, cap, _, _, _, h | ⟨g', off, cur, _, hb, _, hz, _⟩⟩ := h
    · exact absurd hg (h.1 g)
    · rw [hz g hg]; exact lt_of_heap hb
  sub Z M w h g hg := by
    obtain ⟨_, ad, cap, _, _, h, _⟩ := h
    exact h g hg
  st Z M w w' h _ hs := by
    obtain ⟨h1, ad, cap, h2, h3, h4, h | ⟨g, off, cur, e1, hb, h5, h6, h7⟩⟩ := h
    · exact ⟨h1, ad, cap, h2, h3, h4, .inl h⟩
    · exact ⟨h1, ad, cap, h2, h3, h4, .inr ⟨g, off, cur, e1, by rw [hs g (h4 g h7)]; exact hb, h5, h6, h7⟩⟩
theorem get_put {L c : List Value} {m k j : Nat} (hm : m ≤ L.length) : (L.take m ++ c ++ L.drop k)[j]? = if j < m then L[j]? else if j < m + c.length then c[j - m]? else (L.drop k)[j - m - c.length]? := by
  have hl : (L.take m).length = m := by simp; omega
  split
  · rename_i h
    rw [List.append_assoc, List.getElem?_append_left (by omega), List.getElem?_take, if_pos h]
  · rename_i h
    rw [List.append_assoc, List.getElem?_append_right (by omega), hl]
    split
    · rw [List.getElem?_append_left (by omega)]
    · rw [List.getElem?_append_right (by omega)]
theorem QSz.put {cur : Array Value} {off cap size m : Nat} {xs c : List Value} (h : QSz cur off cap size xs) (hm : m + c.length ≤ xs.length) :
    QSz (cur.toList.take (off + m) ++ c ++ cur.toList.drop (off + m + c.length)).toArray off cap size (xs.take m ++ c ++ xs.drop (m + c.length)) := by
  obtain ⟨h1, h2, h3⟩ := h
  have hlc : off + m + c.length ≤ cur.toList.length := by simp; omega
  refine ⟨by simp; omega, by simp; omega, fun i hi => ?_⟩
  simp only [List.length_append, List.length_take, List.length_drop] at hi
  rw [List.getElem?_toArray, get_put (by omega), get_put (by omega)]
  by_cases q1 : i < m
  · rw [if_pos (by omega), if_pos q1, Array.getElem?_toList, h3 i (by omega)]
  · rw [if_neg (by omega), if_neg q1]
    by_cases q2 : i < m + c.length
    · rw [if_pos (by omega), if_pos q2]; congr 1; omega
    · rw [if_neg (by omega), if_neg q2, List.getElem?_drop, List.getElem?_drop, Array.getElem?_toList]
      have := h3 i (by omega)
      rw [show off + m + c.length + (off + i - (off + m) - c.length) = off + i by omega, show m + c.length + (i - m - c.length) = i by omega]
      exact this
theorem QSz.app {cur : Array Value} {off cap size n : Nat} {xs c : List Value} (h : QSz cur off cap size xs) (hn : xs.length = n * size) (hc : c.length = size) (hr : n + 1 ≤ cap) :
    QSz (cur.toList.take (off + n * size) ++ c ++ cur.toList.drop (off + n * size + c.length)).toArray off cap size (xs ++ c) := by
  obtain ⟨h1, h2, h3⟩ := h
  have hq : (n + 1) * size ≤ cap * size := Nat.mul_le_mul_right _ hr
  rw [Nat.succ_mul] at hq
  refine ⟨by simp; omega, by simp; omega, fun i hi => ?_⟩
  simp only [List.length_append] at hi
  rw [List.getElem?_toArray, get_put (by simp; omega)]
  by_cases q1 : i < n * size
  · rw [if_pos (by omega), Array.getElem?_toList, h3 i (by omega), List.getElem?_append_left (by omega)]
  · rw [if_neg (by omega), if_pos (by omega), List.getElem?_append_right (by omega)]
    congr 1; omega
theorem QSz.at {w : World} {g : Nat} {e : TypeId} {cur : Array Value} {off cap size : Nat} {xs : List Value} (h : QSz cur off cap size xs) (hb : w.heap[g]? = some (.cells cur e)) : At (fun j => w.heap[j]?) g off xs :=
  ⟨cur, e, _, hb, by have := h.1; have := h.2.1; omega, h.2.2⟩
theorem run_append_roomQ {P : Program} {w : World} {T e : TypeId} {te : TI} (ty' : TypeId) (ht : P.underlying T = some (.slice e)) (he : te.ok P e) {g off n cap : Nat} {cur : Array Value} (hg : w.heap[g]? = some (.cells cur e))
    {a : Addr} {c : Nat} {news : List Value} (hnews : ∀ j u, news[j]? = some u → w.cell? (a.add j) = some u) (h1 : ∀ u ∈ news, u.oneCell' = true) (hl : news.length = te.size) (hroom : n + 1 ≤ cap) (hfit : off + n * te.size + news.length ≤ cur.size) :
    (Builtin.append_ #[T, T] ty' #[.slice (some ⟨g, off, none⟩) n cap, .slice (some a) 1 c]).run P w = .ok (.slice (some ⟨g, off, none⟩) (n + 1) cap) (setBlk w g (.cells (cur.toList.take (off + n * te.size) ++ news ++ cur.toList.drop (off + n * te.size + news.length)).toArray e)) := by
  obtain ⟨i, z, hi, hsz, hb, hz, hc⟩ := he.info
  have hf := run_firstCells_some (P := P) w i.size 1 a 1 c news (by rw [hsz]; omega) hnews
  have hlay : lay cur.toList (off + n * te.size + 0) news = some (cur.toList.take (off + n * te.size) ++ news ++ cur.toList.drop (off + n * te.size + news.length)) := by
    rw [Nat.add_zero]; exact lay_put (by simpa using hfit)
  have hst := run_storeCells (P := P) (b := g) (off := off + n * te.size) (e := e) news 0 w cur.toList _ (by simpa using hg) h1 hlay
  rw [hsz] at hf
  simp [Builtin.append_, run_underlying ht, sizeOf, typeInfo, hi, Builtin.lenOf, hroom, hf, hsz, add_none, hst]
section
variable {C : Ctx} {K : List KI} {s : St} {sl : List (Nat × SV)} {own : Owns} {G G0 : Hp} {R : Array Oper} {l : List Oper} {d : Option Tmp} {t : TypeId} {pos : String} {aft : Array Edge}
theorem go_qapp (k : Nat) {x y : Operand} {T e : TypeId} {te : TI} {sz by' : Nat} {ze : List Value} {fl : List (Nat × Nat × Bool)} {b n : Nat} {v : Value} {xs news : List Value} {z vx : SV} {Z : Nat → Prop}
    (hd : dOk C.nt d = true) (hT : C.ty T = some ⟨.slice e, sz, by', ze, fl⟩) (he : C.ty e = some te) (hsz : 0 < te.size) (hx : ev s.sl x = some vx) (hvx : vx.den = v) (hk : lk k s.own = some (b, .z (ZQ G0 e te.size v n xs) Z Z)) (hG0 : Le G0 s.G)
    (hy : ev s.sl y = some z) (hsrc : Src C s z 1 news) (hl : news.length = te.size) (h1 : ∀ u ∈ news, u.oneCell' = true) (h63 : n + 1 ≤ 9223372036854775807) (hbytes : (n + 1) * te.bytes ≤ 140737488355328)
    (h : ∀ g off cap cur, QSz cur off cap te.size (xs ++ news) → n + 1 ≤ cap → SGo C (.ops R l :: K) ⟨putS d (.v (.slice (some ⟨g, off, none⟩) (n + 1) cap)) s.sl, stk k (g, .o (.cells cur e)) s.own, s.G, s.df⟩) :
    SGo C (.ops R (⟨d, .call ⟨.builtin .append, #[x, y], #[T, T]⟩, t, pos, aft, none⟩ :: l) :: K) s := by
  intro a w hS
  have hxv := ev_ok hS.sl hx
  have hyv := ev_ok hS.sl hy
  rw [hvx] at hxv
  obtain ⟨ad, c, hz, hnews⟩ := hsrc w hS.mem
  rw [hz] at hyv
  have g1 := (C.tyok _ _ hT).k
  simp only [TK.fits] at g1
  have hA := (hS.mem.own _ _ _ hk).1
  simp only [OO.holds] at hA
  obtain ⟨q1, ad1, cap1, rfl, hnc, hMZ, hq⟩ := hA
  obtain ⟨i, z0, hi, hs, hb', hz0, hc⟩ := (C.tyok _ _ he).info
  have hzs : z0.cells.size = te.size := by rw [hc]; simpa using (C.tyok _ _ he).len
  -- a new block
  have grow : cap1 = n ∨ n + 1 > cap1 → (∀ (a1 : Addr), ad1 = some a1 → ∀ j u, xs[j]? = some u → w.cell? (a1.add j) = some u) → (ad1 = none → n = 0 ∧ cap1 = 0) →
      wpK C.P C.ro C.Q (.ops R (⟨d, .call ⟨.builtin .append, #[x, y], #[T, T]⟩, t, pos, aft, none⟩ :: l) :: K) .normal a w := by
    intro hfull holds hnil
    cases ad1 with
    | some a1 =>
      have hr := run_append_grow (P := C.P) w T t e i z0 g1 hi hz0 a1 n cap1 xs (by rw [hs]; exact q1) (holds a1 rfl) ad 1 c news (by rw [hs, hl]; omega) hnews (by omega) (by omega) (growslice_fits (by omega) (by rw [hb']; exact hbytes))
      have hrun : (execOp a.eval ⟨d, .call ⟨.builtin .append, #[x, y], #[T, T]⟩, t, pos, aft, none⟩).run C.P w = .ok (.value (.slice (some ⟨w.heap.size, 0, none⟩) (n + 1) (grownCap w (n + 1) cap1 e))) (w.drew.alloc (.cells (xs.toArray ++ news.toArray ++ Builtin.zeroCells z0.cells (grownCap w (n + 1) cap1 e - (n + 1))) e)) := by
        simp only [execOp, resolve, invoke, builtin, Sem.run_bind, Sem.run_pure, Result.andThen_ok, List.map_toArray, List.map_cons, List.map_nil, hxv, hyv, hr]
      refine K_value rfl hrun ?_
      have hge := grownCap_ge w (n + 1) cap1 e
      have hm : Mem C (stk k (w.heap.size, .o (.cells (xs.toArray ++ news.toArray ++ Builtin.zeroCells z0.cells (grownCap w (n + 1) cap1 e - (n + 1))) e)) s.own) s.G (w.drew.alloc (.cells (xs.toArray ++ news.toArray ++ Builtin.zeroCells z0.cells (grownCap w (n + 1) cap1 e - (n + 1))) e)) :=
        hS.mem.drew.put hk rfl rfl rfl (by simp) (fun j hj _ => alloc_old _ _ hj) (alloc_new _ _) (fun g' => ⟨fun q => .inr (by simp only [OO.blks] at q; show w.heap.size ≤ g'; omega), fun q => .inr (by simp only [OO.mut] at q; show w.heap.size ≤ g'; omega)⟩)
      have hq : (n + 1) * te.size ≤ grownCap w (n + 1) cap1 e * te.size := Nat.mul_le_mul_right _ hge
      have hcl : (xs.toArray ++ news.toArray ++ Builtin.zeroCells z0.cells (grownCap w (n + 1) cap1 e - (n + 1))).size = grownCap w (n + 1) cap1 e * te.size := by
        simp only [Array.size_append, List.size_toArray, size_zeroCells, hzs]
        rw [Nat.sub_mul, Nat.succ_mul, q1, hl]
        rw [Nat.succ_mul] at hq; omega
      have := h w.heap.size 0 (grownCap w (n + 1) cap1 e) (xs.toArray ++ news.toArray ++ Builtin.zeroCells z0.cells (grownCap w (n + 1) cap1 e - (n + 1))) ⟨by rw [hcl]; omega, by simp only [List.length_append, q1, hl]; rw [Nat.succ_mul] at hq; omega, fun j hj => by
        rw [Nat.zero_add, Array.getElem?_append_left (by simpa using hj)]
        simp⟩ (by omega) _ _ (hS.put hd (.v (.slice (some ⟨w.heap.size, 0, none⟩) (n + 1) (grownCap w (n + 1) cap1 e))) hm)
      simpa only [SV.den] using this
    | none =>
      obtain ⟨hn0, hc0⟩ := hnil rfl
      subst hn0 hc0
      have hx0 : xs = [] := List.eq_nil_of_length_eq_zero (by simpa using q1)
      subst hx0
      obtain ⟨v', w', hr, k1, k2, k3⟩ := append_row (P := C.P) (w := w) 0 T t e g1 (C.tyok _ _ he) hsz (.slice none 0 0) 0 [] (World.ownsRow_nil w 0 e te.size) ad 1 c news (by omega) hnews h1 h63 hbytes (Nat.zero_le _)
      have hrun : (execOp a.eval ⟨d, .call ⟨.builtin .append, #[x, y], #[T, T]⟩, t, pos, aft, none⟩).run C.P w = .ok (.value v') w' := by
        simp only [execOp, resolve, invoke, builtin, Sem.run_bind, Sem.run_pure, Result.andThen_ok, List.map_toArray, List.map_cons, List.map_nil, hxv, hyv, hr]
      refine K_value rfl hrun ?_
      rcases k1.2 with ⟨_, f2⟩ | ⟨g0, cap', cur, rfl, hbg, hgg, hnc', hcm, hcss, htake⟩
      · omega
      have hng : w.heap.size ≤ g0 := (k3 g0 rfl).elim (fun q => by cases q) id
      have hm : Mem C (stk k (g0, .o (.cells cur e)) s.own) s.G w' :=
        hS.mem.put hk k2.os k2.tape k2.output k2.size (fun j hj _ => k2.block j hj (fun q => by cases q)) hgg (fun g' => ⟨fun q => .inr (by simp only [OO.blks] at q; omega), fun q => .inr (by simp only [OO.mut] at q; omega)⟩)
      have hq : (0 + 1) * te.size ≤ cap' * te.size := Nat.mul_le_mul_right _ (by omega)
      have := h g0 0 cap' cur ⟨by omega, by simp only [List.nil_append, hl]; omega, fun j hj => by
        have h0 := congrArg (fun l => l[j]?) htake
        simp only [List.getElem?_take] at h0
        simp only [List.nil_append] at hj
        rw [if_pos (by omega)] at h0
        rw [Nat.zero_add, ← Array.getElem?_toList]; exact h0⟩ (by omega) _ _ (hS.put hd (.v (.slice (some ⟨g0, 0, none⟩) (0 + 1) cap')) hm)
      simpa only [SV.den] using this
  rcases hq with ⟨hZ0, hcn, hc0⟩ | ⟨g, off, cur, rfl, hb, hqs, hZg, hMg⟩
  · have hxs : n = 0 → xs = [] := fun h0 => List.eq_nil_of_length_eq_zero (by rw [q1, h0, Nat.zero_mul])
    refine grow (.inl hcn) (fun a1 ha1 j u hu => ?_) (fun h0 => ?_)
    · rcases hc0 with h0 | ⟨b0, off0, e0, hat⟩
      · rw [hxs h0] at hu; simp at hu
      · rw [ha1] at e0; cases e0
        obtain ⟨arr, e2, fz, f1, f2, f3⟩ := hat
        have hj := (List.getElem?_eq_some_iff.1 hu).1
        rw [add_none, cell_at (hS.mem.has _ _ (hG0 _ _ f1)), f3 j hj]; exact hu
    · rcases hc0 with h0' | ⟨b0, off0, e0, _⟩
      · exact ⟨h0', by omega⟩
      · rw [h0] at e0; cases e0
  · by_cases hroom : n + 1 ≤ cap1
    · have hfit : off + n * te.size + news.length ≤ cur.size := by
        have h0 := Nat.mul_le_mul_right te.size hroom
        rw [Nat.succ_mul] at h0
        have := hqs.1
        omega
      have hr := run_append_roomQ (P := C.P) t g1 (C.tyok _ _ he) hb (c := c) hnews h1 hl hroom hfit
      have hrun : (execOp a.eval ⟨d, .call ⟨.builtin .append, #[x, y], #[T, T]⟩, t, pos, aft, none⟩).run C.P w = .ok (.value (.slice (some ⟨g, off, none⟩) (n + 1) cap1)) (setBlk w g (.cells (cur.toList.take (off + n * te.size) ++ news ++ cur.toList.drop (off + n * te.size + news.length)).toArray e)) := by
        simp only [execOp, resolve, invoke, builtin, Sem.run_bind, Sem.run_pure, Result.andThen_ok, List.map_toArray, List.map_cons, List.map_nil, hxv, hyv, hr]
      refine K_value rfl hrun ?_
      have hlt := lt_of_heap hb
      have hm : Mem C (stk k (g, .o (.cells (cur.toList.take (off + n * te.size) ++ news ++ cur.toList.drop (off + n * te.size + news.length)).toArray e)) s.own) s.G (setBlk w g (.cells (cur.toList.take (off + n * te.size) ++ news ++ cur.toList.drop (off + n * te.size + news.length)).toArray e)) :=
        hS.mem.put hk rfl rfl rfl (by rw [setBlk_size]; exact Nat.le_refl _) (fun j _ hj => setBlk_ne (fun q => hj (by subst q; exact hMg)) _) (setBlk_same hlt _) (fun g' => ⟨fun q => .inl (by simp only [OO.blks] at q ⊢; subst q; exact hMZ _ hMg), fun q => .inl (by simp only [OO.mut] at q ⊢; subst q; exact hMg)⟩)
      have := h g off cap1 _ (hqs.app q1 hl hroom) hroom _ _ (hS.put hd (.v (.slice (some ⟨g, off, none⟩) (n + 1) cap1)) hm)
      simpa only [SV.den] using this
    · refine grow (.inr (by omega)) (fun a1 ha1 j u hu => ?_) (fun h0 => by cases h0)
      cases ha1
      have hj := (List.getElem?_eq_some_iff.1 hu).1
      rw [add_none, cell_at hb, hqs.2.2 j hj]; exact hu
theorem go_qthing (k : Nat) {g off n cap size : Nat} {e : TypeId} {cur : Array Value} {xs : List Value} (hk : lk k s.own = some (g, .o (.cells cur e))) (hq : QSz cur off cap size xs) (hn : xs.length = n * size) (hc : n ≤ cap)
    (h : ∀ Z b, SGo C K ⟨s.sl, stk k (b, .z (ZQ G0 e size (.slice (some ⟨g, off, none⟩) n cap) n xs) Z Z) s.own, s.G, s.df⟩) : SGo C K s := by
  intro a w hS
  have hb := (hS.mem.own _ _ _ hk).1
  simp only [OO.holds] at hb
  refine h (fun j => j = g) 0 a w ⟨hS.sl, hS.nt, hS.df, hS.mem.put hk rfl rfl rfl (Nat.le_refl _) (fun _ _ _ => rfl) ?_ (fun g' => ⟨.inl, .inl⟩)⟩
  exact ⟨hn, _, cap, rfl, hc, fun _ h => h, .inr ⟨g, off, cur, rfl, hb, hq, fun _ h => h, rfl⟩⟩
theorem go_qrow (k : Nat) {b n size : Nat} {e : TypeId} {v : Value} {xs : List Value} (hk : lk k s.own = some (b, .row v e size n xs)) (h : ∀ Z b, SGo C K ⟨s.sl, stk k (b, .z (ZQ G0 e size v n xs) Z Z) s.own, s.G, s.df⟩) : SGo C K s := by
  intro a w hS
  have hr := (hS.mem.own _ _ _ hk).1
  simp only [OO.holds] at hr
  rcases hr.2 with ⟨rfl, h0⟩ | ⟨g, cap, cur, rfl, hbg, hgg, hnc, hcm, hcss, htake⟩
  · refine h (fun _ => False) 0 a w ⟨hS.sl, hS.nt, hS.df, hS.mem.put hk rfl rfl rfl (Nat.le_refl _) (fun _ _ _ => rfl) ?_ (fun g' => ⟨fun q => q.elim, fun q => q.elim⟩)⟩
    exact ⟨hr.1, none, 0, by rw [h0], by omega, fun _ h => h, .inl ⟨fun _ h => h, h0.symm, .inl h0⟩⟩
  · refine h (fun j => j = g) 0 a w ⟨hS.sl, hS.nt, hS.df, hS.mem.put hk rfl rfl rfl (Nat.le_refl _) (fun _ _ _ => rfl) ?_ (fun g' => ⟨fun q => .inl (by simp only [OO.blks, Value.ownBlock] at q ⊢; rw [q]), fun q => .inl (by simp only [OO.mut, Value.ownBlock] at q ⊢; rw [q])⟩)⟩
    have hq : n * size ≤ cap * size := Nat.mul_le_mul_right _ hnc
    refine ⟨hr.1, _, cap, rfl, hnc, fun _ h => h, .inr ⟨g, 0, cur, rfl, hgg, ⟨by omega, by rw [hr.1]; exact hq, fun i hi => ?_⟩, fun _ h => h, rfl⟩⟩
    have h0 := congrArg (fun l => l[i]?) htake
    simp only [List.getElem?_take] at h0
    rw [if_pos (by rw [← hr.1]; exact hi)] at h0
    rw [Nat.zero_add, ← Array.getElem?_toList]; exact h0
theorem go_qnew (k : Nat) {α : Type} (r : Rp α) {e : TypeId} {v : Value} {xs : List α} (hk : lk k s.own = none) (hmh : C.mh ≤ k) {ad : Option Addr} (hv : v = .slice ad xs.length xs.length) (hS : r.S s.G xs v)
    (h : ∀ Z b cs, r.L s.G xs cs → SGo C K ⟨s.sl, stk k (b, .z (ZQ s.G e r.size v xs.length cs) Z Z) s.own, s.G, s.df⟩) : SGo C K s := by
  obtain ⟨h63, ad', cap', e', hc⟩ := hS
  rw [hv] at e'
  cases e'
  intro a w hSt
  rcases hc with h0 | ⟨b, off, cs, rfl, hat, hL⟩
  · subst h0
    refine h (fun _ => False) 0 [] rfl a w ⟨hSt.sl, hSt.nt, hSt.df, hSt.mem.new hk hmh rfl rfl rfl (Nat.le_refl _) (fun _ _ => rfl) ?_ (fun g' q => q.elim)⟩
    exact ⟨by simp, ad, 0, hv, by simp, fun _ h => h, .inl ⟨fun _ h => h, rfl, .inl rfl⟩⟩
  · refine h (fun _ => False) 0 cs hL a w ⟨hSt.sl, hSt.nt, hSt.df, hSt.mem.new hk hmh rfl rfl rfl (Nat.le_refl _) (fun _ _ => rfl) ?_ (fun g' q => q.elim)⟩
    exact ⟨Rp.L_len hL, _, xs.length, hv, Nat.le_refl _, fun _ h => h, .inl ⟨fun _ h => h, rfl, .inr ⟨b, off, rfl, hat⟩⟩⟩
theorem go_qval (k : Nat) {b n size : Nat} {e : TypeId} {v : Value} {xs : List Value} {Z : Nat → Prop} (hk : lk k s.own = some (b, .z (ZQ G0 e size v n xs) Z Z))
    (h : ∀ ad cap, v = .slice ad n cap → n ≤ cap → xs.length = n * size → (0 < n → ∃ b off, ad = some ⟨b, off, none⟩) → SGo C K s) : SGo C K s := by
  intro a w hS
  have hA := (hS.mem.own _ _ _ hk).1
  simp only [OO.holds] at hA
  obtain ⟨q1, ad1, cap1, hv, hnc, hMZ, hq⟩ := hA
  refine h ad1 cap1 hv hnc q1 (fun h0 => ?_) a w hS
  rcases hq with ⟨_, _, hc0⟩ | ⟨g, off, cur, rfl, _⟩
  · rcases hc0 with h0' | ⟨b, off, rfl, _⟩
    · omega
    · exact ⟨b, off, rfl⟩
  · exact ⟨g, off, rfl⟩
theorem quiet_loadQ (k : Nat) {T : TypeId} {x : Operand} {ti : TI} {b b' off o n cap size : Nat} {e : TypeId} {xs : List Value} {Z : Nat → Prop}
    (hT : C.ty T = some ti) (hx : ev sl x = some (.v (.pointer (some ⟨b, o, none⟩)))) (h1 : ti.k.agg = false → ti.size = 1) (hk : lk k own = some (b', .z (ZQ G0 e size (.slice (some ⟨b, off, none⟩) n cap) n xs) Z Z)) (hG0 : Le G0 G) {m : Nat} (ho : o = off + m) (hl : m + ti.size ≤ xs.length) (hne : 0 < ti.size) :
    Quiet C sl own G (.load T x) (ldV ti.k.agg ((xs.drop m).take ti.size)) := by
  intro a w d t pos aft g hs hh
  have hxv := ev_ok hs hx
  simp only [SV.den] at hxv
  have hA := hh.1 _ _ _ hk
  simp only [OO.holds] at hA
  obtain ⟨q1, ad1, cap1, hv, hnc, hMZ, hq⟩ := hA
  cases hv
  have hw : Has w (fun j => w.heap[j]?) := fun _ _ e => e
  have hat : ti.size = 0 ∨ At (fun j => w.heap[j]?) b off xs := by
    rcases hq with ⟨_, _, hc0⟩ | ⟨g, off', cur, e1, hb, hqs, _⟩
    · rcases hc0 with h0' | ⟨b0, off0, e0, hat⟩
      · subst h0'
        left; simp only [Nat.zero_mul] at q1; omega
      · cases e0
        right
        obtain ⟨arr, e2, fz, f1, f2, f3⟩ := hat
        exact ⟨arr, e2, fz, hh.2 _ _ (hG0 _ _ f1), f2, f3⟩
    · cases e1
      exact .inr (hqs.at hb)
  subst ho
  rcases hat with h0 | hat
  · omega
  · have hat2 := hat.sub m ti.size hl
    simp only [execOp, hxv, Instr.loadAt, Instr.sureAddr, Sem.run_bind, Sem.run_pure, Result.andThen_ok, at_load (C.tyok _ _ hT) (w := w) (G := fun j => w.heap[j]?) hw hat2 (by simp; omega) h1]
theorem go_storeQ (k : Nat) {T e : TypeId} {x y : Operand} {ti : TI} {g off m o cap size : Nat} {cur : Array Value} {xs : List Value} {z : SV} {vs : List SV}
    (hd : dOk C.nt d = true) (hT : C.ty T = some ti) (hx : ev s.sl x = some (.v (.pointer (some ⟨g, o, none⟩)))) (hy : ev s.sl y = some z) (hcs : z.cs = some vs) (hlen : vs.length = ti.size) (hone : vs.all SV.one = true)
    (hk : lk k s.own = some (g, .o (.cells cur e))) (hq : QSz cur off cap size xs) (ho : o = off + m) (hm : m + vs.length ≤ xs.length)
    (h : ∀ cur', QSz cur' off cap size (xs.take m ++ dens vs ++ xs.drop (m + (dens vs).length)) → SGo C (.ops R l :: K) ⟨putS d (.v undef) s.sl, stk k (g, .o (.cells cur' e)) s.own, s.G, s.df⟩) : SGo C (.ops R (⟨d, .store T x y, t, pos, aft, none⟩ :: l) :: K) s := by
  intro a w hS
  have hxv := ev_ok hS.sl hx
  have hyv := ev_ok hS.sl hy
  simp only [SV.den] at hxv
  have hc := SV.cs_ok hcs
  have hdl : (dens vs).length = vs.length := by simp [dens_eq]
  have hsz : (dens vs).toArray.size = ti.size := by simp [hdl, hlen]
  have hb := (hS.mem.own _ _ _ hk).1
  simp only [OO.holds] at hb
  have hqs := hq.put (c := dens vs) (m := m) (by omega)
  have hfit : off + m + (dens vs).length ≤ cur.toList.length := by have := hq.1; have := hq.2.1; simp; omega
  have hlay : lay cur.toList (o + 0) (dens vs) = some (cur.toList.take (off + m) ++ dens vs ++ cur.toList.drop (off + m + (dens vs).length)) := by
    rw [Nat.add_zero, ho]; exact lay_put hfit
  have hst := run_storeCells (P := C.P) (b := g) (off := o) (e := e) (dens vs) 0 w cur.toList _ (by simpa using hb) (fun u hu => by
    rw [dens_eq, List.mem_map] at hu
    obtain ⟨q, hq, rfl⟩ := hu
    exact SV.one_ok (List.all_eq_true.1 hone q hq)) hlay
  have hrun : (execOp a.eval ⟨d, .store T x y, t, pos, aft, none⟩).run C.P w = .ok .skip (setBlk w g (.cells (cur.toList.take (off + m) ++ dens vs ++ cur.toList.drop (off + m + (dens vs).length)).toArray e)) := by
    simp only [execOp, hxv, hyv, Instr.storeAt, Instr.sureAddr, storeVar, Sem.run_bind, Sem.run_pure, Result.andThen_ok, run_size w (C.tyok _ _ hT), hc, hsz]
    simp only [ne_eq, not_true_eq_false, if_false, Sem.run_pure, Result.andThen_ok]
    rw [hst]; simp
  have hlt := lt_of_heap hb
  have hm' := hS.mem.put hk (b' := g) (o' := .o (.cells (cur.toList.take (off + m) ++ dens vs ++ cur.toList.drop (off + m + (dens vs).length)).toArray e)) (w' := setBlk w g (.cells (cur.toList.take (off + m) ++ dens vs ++ cur.toList.drop (off + m + (dens vs).length)).toArray e)) rfl rfl rfl (by rw [setBlk_size]; exact Nat.le_refl _) (fun j _ hj => setBlk_ne (fun q => hj q) _) (setBlk_same hlt _) (fun g => ⟨.inl, .inl⟩)
  refine K_skip rfl hrun ?_
  have := h _ hqs _ _ (hS.put hd (.v undef) hm')
  simpa only [SV.den] using this
theorem go_qtail (k : Nat) {b n cap size : Nat} {e : TypeId} {ad : Option Addr} {xs : List Value} {Z : Nat → Prop} (hk : lk k s.own = some (b, .z (ZQ G0 e size (.slice ad (n + 1) cap) (n + 1) xs) Z Z))
    (h : ∀ Z b, SGo C K ⟨s.sl, stk k (b, .z (ZQ G0 e size (sliced ad cap 1 (n + 1) size) n (xs.drop size)) Z Z) s.own, s.G, s.df⟩) : SGo C K s := by
  intro a w hS
  have hA := (hS.mem.own _ _ _ hk).1
  simp only [OO.holds] at hA
  refine h Z b a w ⟨hS.sl, hS.nt, hS.df, hS.mem.put hk rfl rfl rfl (Nat.le_refl _) (fun _ _ _ => rfl) ?_ (fun g' => ⟨.inl, .inl⟩)⟩
  obtain ⟨q1, ad1, cap1, hv, hnc, hMZ, hq⟩ := hA
  cases hv
  have hsl : sliced ad cap 1 (n + 1) size = .slice (if cap = 1 then ad else ad.map (·.add (1 * size))) n (cap - 1) := by simp [sliced]
  rw [Nat.succ_mul] at q1
  refine ⟨by rw [List.length_drop, q1]; omega, _, _, hsl, by omega, hMZ, ?_⟩
  rcases hq with ⟨hZ0, hcn, hc0⟩ | ⟨g, off, cur, rfl, hb, hqs, hZg, hMg⟩
  · refine .inl ⟨hZ0, by omega, ?_⟩
    by_cases hn : n = 0
    · exact .inl hn
    · rcases hc0 with h0 | ⟨b0, off0, rfl, hat⟩
      · omega
      · refine .inr ⟨b0, off0 + size, ?_, hat.drop size (by omega)⟩
        rw [if_neg (by omega)]
        simp [add_none]
  · refine .inr ⟨g, if cap = 1 then off else off + size, cur, ?_, hb, ?_, hZg, hMg⟩
    · split
      · rfl
      · simp [add_none]
    · obtain ⟨f1, f2, f3⟩ := hqs
      by_cases hc1 : cap = 1
      · rw [if_pos hc1]
        have hn : n = 0 := by omega
        subst hc1 hn
        have : xs.drop size = [] := List.drop_eq_nil_of_le (by omega)
        rw [this]
        exact ⟨by simp; omega, by simp, fun i hi => by simp at hi⟩
      · rw [if_neg hc1]
        obtain ⟨c, rfl⟩ : ∃ c, cap = c + 1 := ⟨cap - 1, by omega⟩
        rw [Nat.succ_mul] at f1 f2
        refine ⟨by rw [Nat.add_sub_cancel]; omega, by rw [Nat.add_sub_cancel, List.length_drop]; omega, fun i hi => ?_⟩
        rw [List.length_drop] at hi
        rw [List.getElem?_drop, ← f3 (size + i) (by omega), Nat.add_assoc]
theorem rmk_stk {α : Type} (k : Nat) (x : α) : ∀ l : List (Nat × α), rmk k (stk k x l) = rmk k l
  | [] => by simp [stk, rmk]
  | y :: l => by
    simp only [stk]
    split
    · rename_i h; simp [rmk, h]
    · rename_i h; simp [rmk, h, rmk_stk k x l]
theorem go_qpub {α : Type} (r : Rp α) (k : Nat) {b n : Nat} {e : TypeId} {v : Value} {xs : List Value} {ts : List α} {Z : Nat → Prop} (hk : lk k s.own = some (b, .z (ZQ G0 e r.size v n xs) Z Z)) (hG0 : Le G0 s.G) (hmh : C.mh ≤ k) (hn : n = ts.length) (h63 : n ≤ 9223372036854775807) (hL : r.L s.G ts xs)
    (h : ∀ G', Le s.G G' → r.S G' ts v → SGo C K ⟨s.sl, rmk k s.own, G', s.df⟩) : SGo C K s := by
  intro a w hS
  have hA := (hS.mem.own _ _ _ hk).1
  simp only [OO.holds] at hA
  obtain ⟨q1, ad1, cap1, rfl, hnc, hMZ, hq⟩ := hA
  subst hn
  rcases hq with ⟨hZ0, hcn, hc0⟩ | ⟨g, off, cur, rfl, hb, hqs, hZg, hMg⟩
  · refine go_drop k (h s.G (Le.refl _) ⟨h63, _, _, rfl, ?_⟩) a w hS
    rcases hc0 with h0 | ⟨b0, off0, rfl, hat⟩
    · exact .inl (List.length_eq_zero_iff.1 h0)
    · exact .inr ⟨b0, off0, xs, rfl, hat.mono hG0, hL⟩
  · have hm' : Mem C (stk k (g, .o (.cells cur e)) s.own) s.G w := hS.mem.put hk rfl rfl rfl (Nat.le_refl _) (fun _ _ _ => rfl) hb (fun g' => ⟨fun q => .inl (by simp only [OO.blks] at q ⊢; subst q; exact hMZ _ hMg), fun q => .inl (by simp only [OO.mut] at q ⊢; subst q; exact hMg)⟩)
    refine go_pubx (s := ⟨s.sl, stk k (g, .o (.cells cur e)) s.own, s.G, s.df⟩) k (b := g) (g := g) (o := .o (.cells cur e)) (x := .cells cur e) (by rw [lk_stk, if_pos rfl]) hmh rfl (fun _ hw => hw) (fun G' hle hg' => ?_) a w ⟨hS.sl, hS.nt, hS.df, hm'⟩
    rw [rmk_stk]
    refine h G' hle ⟨h63, _, _, rfl, .inr ⟨g, off, xs, rfl, ⟨cur, e, _, hg', by have := hqs.1; have := hqs.2.1; omega, hqs.2.2⟩, Rp.L_mono hle hL⟩⟩
end
end Go.Sx
namespace Go.Proofs.Ytpmmbjcgabnloaa
set_option linter.unusedSimpArgs false
set_option linter.unusedVariables false
open Go.Sx
set_option maxHeartbeats 8000000
set_option maxRecDepth 20000
def noneV : VT := .mk 0 0 []
def unitV : VT := .mk 1 0 []
def intV (n : Int) : VT := .mk 2 n []
def StO (G0 : Hp) (b : Nat) (s : MS) (G : Hp) (ow : Lds) : Prop := ∃ (vv pv : Value) (bz : Nat) (Z : Nat → Prop) (b2 : Nat) (xs ys : List Value),
  ow = [(b, .c 44 [.v vv, .v pv]), (bz, .z (ZQ G0 28 3 vv s.vals.length xs) Z Z), (b2, .row pv 55 4 s.ps.length ys)] ∧
  rV.L G s.vals xs ∧ rPo.L G s.ps ys ∧ s.vals.length ≤ 1000000 ∧ s.ps.length ≤ 1000000
def boxP (s : MS) (o : Op) : MS × VT × Bool :=
  if o.kd = 0 then (⟨s.vals ++ [o.arg], s.ps⟩, unitV, true) else
  match s.vals with
  | [] => (s, noneV, false)
  | v :: r => (⟨r, s.ps⟩, v, true)
def doPost (G0 : Hp) (b : Nat) (r : MS × VT × Bool) (v : Value) (G : Hp) (ow : Lds) : Prop := ∃ sl, v = .tuple #[.agg #[.int .i64 r.2.1.k, .int .i64 r.2.1.n, sl], .bool r.2.2] ∧ r.2.1.rep G sl ∧ tsz r.2.1 ≤ 1048576 ∧ StO G0 b r.1 G ow
theorem doBox_ok (s : MS) (o : Op) (sa sr : Value) (b : Nat) (ow : Lds) (G0 G : Hp) (hGl : Le G0 G) (hs : StO G0 b s G ow) (ho : o.rep G sa sr) (hl : s.vals.length < 1000000) :
    PureW Try.prog 62 [.pointer (some ⟨b, 0, none⟩), .agg (opL o sa sr).toArray] G ow (doPost G0 b (boxP s o)) := by
  obtain ⟨vv, pv, bz, Z, b2, xs, ys, rfl, hL, hM, hl1, hl2⟩ := hs
  obtain ⟨ada, capa, rfl⟩ := VT.rep_slice ho.a
  refine enterW ty tyok Try.func62 rfl Try.ntmps62 [.p 0 b 0, .a (opC o (.slice ada o.arg.l.length capa) sr)] (by simp) (mh := 3) rfl ?_
  simp only [opC]
  intro C hP hQ hnt hty hmb hmh hro hG0 hmub; have hQp := qp_body hQ; refine st_ ?_
  simp only [enumO]
  refine go_rowC 2 rfl ?_
  rintro adp capp rfl hcp
  refine go_qval 1 rfl ?_
  rintro adv capv rfl hcv hxl hpos
  refine rn_ ?_; intros
  rename_i b3 b4
  refine x_split rfl rfl rfl (fun hk => ?_) (fun hk => ?_) <;> (refine st_ ?_; (refine ru_ ?_; intros))
  · refine rn_ ?_; intros
    refine x_held [(3, b3, .c 40 [.v (.int .i64 o.th), .v (.int .i64 o.kd), .v (.int .i64 o.arg.k), .v (.int .i64 o.arg.n), .v (.slice ada o.arg.l.length capa), .v (.int .i64 o.res.k), .v (.int .i64 o.res.n), .v sr, .v (.int .i64 o.fr), .v (.int .i64 o.to), .v (.bool o.dn)])] rfl (by rw [hP]; kernel_rfl) rfl rfl rfl ?_; refine st_ ?_
    refine h_take 0 rfl (by kernel_rfl) (by kernel_rfl) (by kernel_rfl) hQp (by rw [hnt]; rfl) (allIn (by repeat (first | exact trivial | refine ⟨rfl, ?_⟩))) (by first | exact Le.refl _ | assumption) (quiet_op (by rw [hty]; first | rfl | (refine st_ ?_; rfl))) ?_; refine st_ ?_
    refine h_take 1 rfl (by kernel_rfl) (by kernel_rfl) (by kernel_rfl) hQp (by rw [hnt]; rfl) (allIn (by repeat (first | exact trivial | refine ⟨rfl, ?_⟩))) (by first | exact Le.refl _ | assumption) (quiet_op (by rw [hty]; first | rfl | (refine st_ ?_; rfl))) ?_; refine st_ ?_
    refine h_take 2 rfl (by kernel_rfl) (by kernel_rfl) (by kernel_rfl) hQp (by rw [hnt]; rfl) (allIn (by repeat (first | exact trivial | refine ⟨rfl, ?_⟩))) (by first | exact Le.refl _ | assumption) (quiet_op (by rw [hty]; first | rfl | (refine st_ ?_; rfl))) ?_; refine st_ ?_
    refine h_take 4 rfl (by kernel_rfl) (by kernel_rfl) (by kernel_rfl) hQp (by rw [hnt]; rfl) (allIn (by repeat (first | exact trivial | refine ⟨rfl, ?_⟩))) (by first | exact Le.refl _ | assumption) (quiet_op (by rw [hty]; first | rfl | (refine st_ ?_; rfl))) ?_; refine st_ ?_
    refine h_take 5 rfl (by kernel_rfl) (by kernel_rfl) (by kernel_rfl) hQp (by rw [hnt]; rfl) (allIn (by repeat (first | exact trivial | refine ⟨rfl, ?_⟩))) (by first | exact Le.refl _ | assumption) (quiet_op (by rw [hty]; first | rfl | (refine st_ ?_; rfl))) ?_; refine st_ ?_
    have hfix : ∀ z c : List Value, z.length = 3 → c.length = 3 → (xs ++ z).take (s.vals.length * 3) ++ c ++ (xs ++ z).drop (s.vals.length * 3 + c.length) = xs ++ c := fun z c h1 h2 => by
      rw [← hxl, List.take_left, List.drop_eq_nil_of_le (by simp; omega), List.append_nil]
    refine h_two 3 7 rfl rfl (by kernel_rfl) ?_ ?_
    · refine rn_ ?_; intros
      refine h_hs (allIn (by repeat (first | exact trivial | refine ⟨rfl, ?_⟩))) (by first | exact Le.refl _ | assumption) ?_
      refine h_take 6 rfl (by kernel_rfl) (by kernel_rfl) (by kernel_rfl) hQp (by rw [hnt]; rfl) (allIn (by repeat (first | exact trivial | refine ⟨rfl, ?_⟩))) (by first | exact Le.refl _ | assumption) (quiet_op (by rw [hty]; first | rfl | (refine st_ ?_; rfl))) ?_; refine st_ ?_
      refine h_one 7 rfl (by kernel_rfl) ?_
      refine rn_ ?_; intros
      refine h_hs (allIn (by repeat (first | exact trivial | refine ⟨rfl, ?_⟩))) (by first | exact Le.refl _ | assumption) ?_
      refine h_one 8 rfl (by kernel_rfl) ?_
      refine go_qapp 1 (by rw [hnt]; rfl) (by rw [hty]; rfl) (by rw [hty]; rfl) (by decide) rfl rfl rfl hGl rfl (src_own 3 rfl rfl) rfl (by simp [dens, SV.den, Value.oneCell']) (by omega) (by simp only []; omega) ?_
      intro g off cap cur hqs hcap
      refine rn_ ?_; intros
      refine h_hs (allIn (by repeat (first | exact trivial | refine ⟨rfl, ?_⟩))) (by first | exact Le.refl _ | assumption) ?_
      refine h_take 9 rfl (by kernel_rfl) (by kernel_rfl) (by kernel_rfl) hQp (by rw [hnt]; rfl) (allIn (by repeat (first | exact trivial | refine ⟨rfl, ?_⟩))) (by first | exact Le.refl _ | assumption) (x := .v (.pointer (some ⟨g, off + s.vals.length * 3, none⟩))) ((quiet_index (by rw [hty]; rfl) (by rw [hty]; rfl) rfl rfl rfl (by omega) (by omega)).cast rfl) ?_
      refine st_ ?_
      refine h_take 11 rfl (by kernel_rfl) (by kernel_rfl) (by kernel_rfl) hQp (by rw [hnt]; rfl) (allIn (by repeat (first | exact trivial | refine ⟨rfl, ?_⟩))) (by first | exact Le.refl _ | assumption) (quiet_op (by rw [hty]; first | rfl | (refine st_ ?_; rfl))) ?_; refine st_ ?_
      refine h_take 12 rfl (by kernel_rfl) (by kernel_rfl) (by kernel_rfl) hQp (by rw [hnt]; rfl) (allIn (by repeat (first | exact trivial | refine ⟨rfl, ?_⟩))) (by first | exact Le.refl _ | assumption) (quiet_op (by rw [hty]; first | rfl | (refine st_ ?_; rfl))) ?_; refine st_ ?_
      refine h_two 10 13 rfl rfl (by kernel_rfl) ?_ ?_
      · refine go_storeQ 1 (m := s.vals.length * 3) (by rw [hnt]; rfl) (by rw [hty]; rfl) rfl rfl rfl rfl rfl rfl hqs rfl (by simp [dens]; omega) ?_
        intro cur' hqs'
        refine rn_ ?_; intros
        refine h_hs (allIn (by repeat (first | exact trivial | refine ⟨rfl, ?_⟩))) (by first | exact Le.refl _ | assumption) ?_
        refine h_one 13 rfl (by kernel_rfl) ?_
        refine rn_ ?_; intros
        refine h_hs (allIn (by repeat (first | exact trivial | refine ⟨rfl, ?_⟩))) (by first | exact Le.refl _ | assumption) ?_
        refine h_end (by kernel_rfl) ?_
        rw [hfix _ _ rfl rfl] at hqs'
        refine go_qthing (G0 := G0) (n := s.vals.length + 1) 1 rfl hqs' (by simp [dens]; omega) hcap ?_
        intro Z' bz'
        refine st_ ?_
        refine rn_ ?_; intros
        refine go_callf (by rw [hnt]; rfl) (by rw [hP]; kernel_rfl) rfl (hP ▸ unit_ok _) ?_; refine rn_ ?_; intros
        refine x_retW rfl hQ hmb hmh hG0 hmub rfl rfl (by rw [hty]; simp only [so, sq, zy, zz, tyE, SO', SQ', opQ, opStore, opAlloc, ev, putS, dOk, cv, SV.cs, SV.one, SV.bool?, eqB, Value.oneCell', ldOwn, binInt, binConst, binBool, binStr, isC, TK.agg, rv, rv1, ldV, resOne, resV, Nat.reduceAdd, Nat.reduceMul, Nat.reduceSub, Nat.reduceLT, Nat.reduceLeDiff, Nat.reduceEqDiff, Nat.reduceBEq, reduceIte, reduceCtorEq, eq_self]; try rfl) rfl rfl (by simp only [enumO]; exact (by repeat (first | exact plain_nil | refine plain_cons (fun _ h => h) ?_))) ?_; simp only [SV.den, resV, dens]
        have hk' : o.kd = 0 := by simpa using hk
        have e : boxP s o = (⟨s.vals ++ [o.arg], s.ps⟩, unitV, true) := by rw [boxP, if_pos hk']
        rw [e]
        have e2 : (s.vals ++ [o.arg]).length = s.vals.length + 1 := by simp
        exact ⟨_, rfl, rep_leaf _ 1 0 (by simp [isI64]) (by simp [isI64]), by simp [unitV, tsz, tszL], _, _, _, _, _, _, _, by rw [e2], Rp.L_append hL (Rp.L_single ⟨_, rfl, ho.a, ho.ok.ba⟩), hM, by rw [e2]; omega, hl2⟩
      · refine rn_ ?_; intros
        refine h_hs (allIn (by repeat (first | exact trivial | refine ⟨rfl, ?_⟩))) (by first | exact Le.refl _ | assumption) ?_
        refine h_one 10 rfl (by kernel_rfl) ?_
        refine go_storeQ 1 (m := s.vals.length * 3) (by rw [hnt]; rfl) (by rw [hty]; rfl) rfl rfl rfl rfl rfl rfl hqs rfl (by simp [dens]; omega) ?_
        intro cur' hqs'
        refine rn_ ?_; intros
        refine h_hs (allIn (by repeat (first | exact trivial | refine ⟨rfl, ?_⟩))) (by first | exact Le.refl _ | assumption) ?_
        refine h_end (by kernel_rfl) ?_
        rw [hfix _ _ rfl rfl] at hqs'
        refine go_qthing (G0 := G0) (n := s.vals.length + 1) 1 rfl hqs' (by simp [dens]; omega) hcap ?_
        intro Z' bz'
        refine st_ ?_
        refine rn_ ?_; intros
        refine go_callf (by rw [hnt]; rfl) (by rw [hP]; kernel_rfl) rfl (hP ▸ unit_ok _) ?_; refine rn_ ?_; intros
        refine x_retW rfl hQ hmb hmh hG0 hmub rfl rfl (by rw [hty]; simp only [so, sq, zy, zz, tyE, SO', SQ', opQ, opStore, opAlloc, ev, putS, dOk, cv, SV.cs, SV.one, SV.bool?, eqB, Value.oneCell', ldOwn, binInt, binConst, binBool, binStr, isC, TK.agg, rv, rv1, ldV, resOne, resV, Nat.reduceAdd, Nat.reduceMul, Nat.reduceSub, Nat.reduceLT, Nat.reduceLeDiff, Nat.reduceEqDiff, Nat.reduceBEq, reduceIte, reduceCtorEq, eq_self]; try rfl) rfl rfl (by simp only [enumO]; exact (by repeat (first | exact plain_nil | refine plain_cons (fun _ h => h) ?_))) ?_; simp only [SV.den, resV, dens]
        have hk' : o.kd = 0 := by simpa using hk
        have e : boxP s o = (⟨s.vals ++ [o.arg], s.ps⟩, unitV, true) := by rw [boxP, if_pos hk']
        rw [e]
        have e2 : (s.vals ++ [o.arg]).length = s.vals.length + 1 := by simp
        exact ⟨_, rfl, rep_leaf _ 1 0 (by simp [isI64]) (by simp [isI64]), by simp [unitV, tsz, tszL], _, _, _, _, _, _, _, by rw [e2], Rp.L_append hL (Rp.L_single ⟨_, rfl, ho.a, ho.ok.ba⟩), hM, by rw [e2]; omega, hl2⟩
    · refine rn_ ?_; intros
      refine h_hs (allIn (by repeat (first | exact trivial | refine ⟨rfl, ?_⟩))) (by first | exact Le.refl _ | assumption) ?_
      refine h_one 3 rfl (by kernel_rfl) ?_
      refine rn_ ?_; intros
      refine h_hs (allIn (by repeat (first | exact trivial | refine ⟨rfl, ?_⟩))) (by first | exact Le.refl _ | assumption) ?_
      refine h_take 6 rfl (by kernel_rfl) (by kernel_rfl) (by kernel_rfl) hQp (by rw [hnt]; rfl) (allIn (by repeat (first | exact trivial | refine ⟨rfl, ?_⟩))) (by first | exact Le.refl _ | assumption) (quiet_op (by rw [hty]; first | rfl | (refine st_ ?_; rfl))) ?_; refine st_ ?_
      refine h_one 8 rfl (by kernel_rfl) ?_
      refine go_qapp 1 (by rw [hnt]; rfl) (by rw [hty]; rfl) (by rw [hty]; rfl) (by decide) rfl rfl rfl hGl rfl (src_own 3 rfl rfl) rfl (by simp [dens, SV.den, Value.oneCell']) (by omega) (by simp only []; omega) ?_
      intro g off cap cur hqs hcap
      refine rn_ ?_; intros
      refine h_hs (allIn (by repeat (first | exact trivial | refine ⟨rfl, ?_⟩))) (by first | exact Le.refl _ | assumption) ?_
      refine h_take 9 rfl (by kernel_rfl) (by kernel_rfl) (by kernel_rfl) hQp (by rw [hnt]; rfl) (allIn (by repeat (first | exact trivial | refine ⟨rfl, ?_⟩))) (by first | exact Le.refl _ | assumption) (x := .v (.pointer (some ⟨g, off + s.vals.length * 3, none⟩))) ((quiet_index (by rw [hty]; rfl) (by rw [hty]; rfl) rfl rfl rfl (by omega) (by omega)).cast rfl) ?_
      refine st_ ?_
      refine h_take 11 rfl (by kernel_rfl) (by kernel_rfl) (by kernel_rfl) hQp (by rw [hnt]; rfl) (allIn (by repeat (first | exact trivial | refine ⟨rfl, ?_⟩))) (by first | exact Le.refl _ | assumption) (quiet_op (by rw [hty]; first | rfl | (refine st_ ?_; rfl))) ?_; refine st_ ?_
      refine h_take 12 rfl (by kernel_rfl) (by kernel_rfl) (by kernel_rfl) hQp (by rw [hnt]; rfl) (allIn (by repeat (first | exact trivial | refine ⟨rfl, ?_⟩))) (by first | exact Le.refl _ | assumption) (quiet_op (by rw [hty]; first | rfl | (refine st_ ?_; rfl))) ?_; refine st_ ?_
      refine h_two 10 13 rfl rfl (by kernel_rfl) ?_ ?_
      · refine go_storeQ 1 (m := s.vals.length * 3) (by rw [hnt]; rfl) (by rw [hty]; rfl) rfl rfl rfl rfl rfl rfl hqs rfl (by simp [dens]; omega) ?_
        intro cur' hqs'
        refine rn_ ?_; intros
        refine h_hs (allIn (by repeat (first | exact trivial | refine ⟨rfl, ?_⟩))) (by first | exact Le.refl _ | assumption) ?_
        refine h_one 13 rfl (by kernel_rfl) ?_
        refine rn_ ?_; intros
        refine h_hs (allIn (by repeat (first | exact trivial | refine ⟨rfl, ?_⟩))) (by first | exact Le.refl _ | assumption) ?_
        refine h_end (by kernel_rfl) ?_
        rw [hfix _ _ rfl rfl] at hqs'
        refine go_qthing (G0 := G0) (n := s.vals.length + 1) 1 rfl hqs' (by simp [dens]; omega) hcap ?_
        intro Z' bz'
        refine st_ ?_
        refine rn_ ?_; intros
        refine go_callf (by rw [hnt]; rfl) (by rw [hP]; kernel_rfl) rfl (hP ▸ unit_ok _) ?_; refine rn_ ?_; intros
        refine x_retW rfl hQ hmb hmh hG0 hmub rfl rfl (by rw [hty]; simp only [so, sq, zy, zz, tyE, SO', SQ', opQ, opStore, opAlloc, ev, putS, dOk, cv, SV.cs, SV.one, SV.bool?, eqB, Value.oneCell', ldOwn, binInt, binConst, binBool, binStr, isC, TK.agg, rv, rv1, ldV, resOne, resV, Nat.reduceAdd, Nat.reduceMul, Nat.reduceSub, Nat.reduceLT, Nat.reduceLeDiff, Nat.reduceEqDiff, Nat.reduceBEq, reduceIte, reduceCtorEq, eq_self]; try rfl) rfl rfl (by simp only [enumO]; exact (by repeat (first | exact plain_nil | refine plain_cons (fun _ h => h) ?_))) ?_; simp only [SV.den, resV, dens]
        have hk' : o.kd = 0 := by simpa using hk
        have e : boxP s o = (⟨s.vals ++ [o.arg], s.ps⟩, unitV, true) := by rw [boxP, if_pos hk']
        rw [e]
        have e2 : (s.vals ++ [o.arg]).length = s.vals.length + 1 := by simp
        exact ⟨_, rfl, rep_leaf _ 1 0 (by simp [isI64]) (by simp [isI64]), by simp [unitV, tsz, tszL], _, _, _, _, _, _, _, by rw [e2], Rp.L_append hL (Rp.L_single ⟨_, rfl, ho.a, ho.ok.ba⟩), hM, by rw [e2]; omega, hl2⟩
      · refine rn_ ?_; intros
        refine h_hs (allIn (by repeat (first | exact trivial | refine ⟨rfl, ?_⟩))) (by first | exact Le.refl _ | assumption) ?_
        refine h_one 10 rfl (by kernel_rfl) ?_
        refine go_storeQ 1 (m := s.vals.length * 3) (by rw [hnt]; rfl) (by rw [hty]; rfl) rfl rfl rfl rfl rfl rfl hqs rfl (by simp [dens]; omega) ?_
        intro cur' hqs'
        refine rn_ ?_; intros
        refine h_hs (allIn (by repeat (first | exact trivial | refine ⟨rfl, ?_⟩))) (by first | exact Le.refl _ | assumption) ?_
        refine h_end (by kernel_rfl) ?_
        rw [hfix _ _ rfl rfl] at hqs'
        refine go_qthing (G0 := G0) (n := s.vals.length + 1) 1 rfl hqs' (by simp [dens]; omega) hcap ?_
        intro Z' bz'
        refine st_ ?_
        refine rn_ ?_; intros
        refine go_callf (by rw [hnt]; rfl) (by rw [hP]; kernel_rfl) rfl (hP ▸ unit_ok _) ?_; refine rn_ ?_; intros
        refine x_retW rfl hQ hmb hmh hG0 hmub rfl rfl (by rw [hty]; simp only [so, sq, zy, zz, tyE, SO', SQ', opQ, opStore, opAlloc, ev, putS, dOk, cv, SV.cs, SV.one, SV.bool?, eqB, Value.oneCell', ldOwn, binInt, binConst, binBool, binStr, isC, TK.agg, rv, rv1, ldV, resOne, resV, Nat.reduceAdd, Nat.reduceMul, Nat.reduceSub, Nat.reduceLT, Nat.reduceLeDiff, Nat.reduceEqDiff, Nat.reduceBEq, reduceIte, reduceCtorEq, eq_self]; try rfl) rfl rfl (by simp only [enumO]; exact (by repeat (first | exact plain_nil | refine plain_cons (fun _ h => h) ?_))) ?_; simp only [SV.den, resV, dens]
        have hk' : o.kd = 0 := by simpa using hk
        have e : boxP s o = (⟨s.vals ++ [o.arg], s.ps⟩, unitV, true) := by rw [boxP, if_pos hk']
        rw [e]
        have e2 : (s.vals ++ [o.arg]).length = s.vals.length + 1 := by simp
        exact ⟨_, rfl, rep_leaf _ 1 0 (by simp [isI64]) (by simp [isI64]), by simp [unitV, tsz, tszL], _, _, _, _, _, _, _, by rw [e2], Rp.L_append hL (Rp.L_single ⟨_, rfl, ho.a, ho.ok.ba⟩), hM, by rw [e2]; omega, hl2⟩
  have hk' : ¬ o.kd = 0 := by simpa using hk
  refine rn_ ?_; intros
  refine x_split rfl rfl rfl (fun h0 => ?_) (fun h0 => ?_) <;> (refine st_ ?_; (refine ru_ ?_; intros))
  · have h0' : s.vals = [] := by
      have h : ((s.vals.length : Int) == 0) = true := h0
      rw [beq_iff_eq] at h
      exact List.length_eq_zero_iff.1 (by omega)
    refine rn_ ?_; intros
    refine x_retW rfl hQ hmb hmh hG0 hmub rfl rfl (by rw [hty]; simp only [so, sq, zy, zz, tyE, SO', SQ', opQ, opStore, opAlloc, ev, putS, dOk, cv, SV.cs, SV.one, SV.bool?, eqB, Value.oneCell', ldOwn, binInt, binConst, binBool, binStr, isC, TK.agg, rv, rv1, ldV, resOne, resV, Nat.reduceAdd, Nat.reduceMul, Nat.reduceSub, Nat.reduceLT, Nat.reduceLeDiff, Nat.reduceEqDiff, Nat.reduceBEq, reduceIte, reduceCtorEq, eq_self]; try rfl) rfl rfl (by simp only [enumO]; exact (by repeat (first | exact plain_nil | refine plain_cons (fun _ h => h) ?_))) ?_; simp only [SV.den, resV, dens]
    have e : boxP s o = (s, noneV, false) := by rw [boxP, if_neg hk', h0']
    rw [e]
    exact ⟨_, rfl, rep_leaf _ 0 0 (by simp [isI64]) (by simp [isI64]), by simp [noneV, tsz, tszL], _, _, _, _, _, _, _, rfl, hL, hM, hl1, hl2⟩
  obtain ⟨vals, ps⟩ := s
  cases vals with
  | nil => simp at h0
  | cons v r =>
    simp only [] at *
    obtain ⟨c1, xs', rfl, ⟨sl, rfl, hrep, hbd⟩, hL'⟩ := hL
    obtain ⟨asl, csl, rfl⟩ := VT.rep_slice hrep
    obtain ⟨c2, off, rfl⟩ := hpos (by simp)
    refine rn_ ?_; intros
    refine go_q (by rw [hnt]; rfl) (quiet_index (by rw [hty]; rfl) (by rw [hty]; rfl) rfl rfl rfl (by omega) (by omega)) ?_
    refine rn_ ?_; intros
    refine go_q (v := .agg #[.int .i64 v.k, .int .i64 v.n, .slice asl v.l.length csl]) (by rw [hnt]; rfl) ((quiet_loadQ 1 (m := 0) (by rw [hty]; rfl) rfl (by simp [TK.agg]) rfl hGl (by simp) (by simp) (by simp)).cast rfl) ?_
    refine rn_ ?_; intros
    obtain ⟨ad', c', hsl⟩ := sliced_eq (some ⟨c2, off, none⟩) capv 1 (r.length + 1) 3
    refine go_q (v := .slice ad' r.length c') (by rw [hnt]; rfl) ((quiet_sliceLo (k := .i64) (n := 1) (by rw [hty]; rfl) (by rw [hty]; rfl) rfl rfl rfl (by omega) (by simp; omega)).cast hsl) ?_
    refine rn_ ?_; intros
    refine go_qtail 1 rfl ?_
    intro Z' bz'
    rw [hsl]
    refine st_ ?_
    refine x_retW rfl hQ hmb hmh hG0 hmub rfl rfl (by rw [hty]; simp only [so, sq, zy, zz, tyE, SO', SQ', opQ, opStore, opAlloc, ev, putS, dOk, cv, SV.cs, SV.one, SV.bool?, eqB, Value.oneCell', ldOwn, binInt, binConst, binBool, binStr, isC, TK.agg, rv, rv1, ldV, resOne, resV, Nat.reduceAdd, Nat.reduceMul, Nat.reduceSub, Nat.reduceLT, Nat.reduceLeDiff, Nat.reduceEqDiff, Nat.reduceBEq, reduceIte, reduceCtorEq, eq_self]; try rfl) rfl rfl (by simp only [enumO]; exact (by repeat (first | exact plain_nil | refine plain_cons (fun _ h => h) ?_))) ?_; simp only [SV.den, resV, dens]
    have e : boxP ⟨v :: r, ps⟩ o = (⟨r, ps⟩, v, true) := by rw [boxP, if_neg hk']
    rw [e]
    exact ⟨_, rfl, hrep, hbd, _, _, _, _, _, _, _, rfl, hL', hM, (by have h : (v :: r).length ≤ 1000000 := hl1; simp only [List.length_cons] at h; show r.length ≤ 1000000; omega), hl2⟩
end Go.Proofs.Ytpmmbjcgabnloaa
namespace Go.Proofs.Ytpmmbjcgabnloaa
set_option linter.unusedSimpArgs false
set_option linter.unusedVariables false
open Go.Sx
set_option maxHeartbeats 8000000
set_option maxRecDepth 20000
def varP (s : MS) (o : Op) : MS × VT × Bool :=
  match s.vals with
  | [] => if o.kd = 0 then (⟨s.vals ++ [o.arg], s.ps⟩, intV 1, true) else (s, noneV, false)
  | v :: _ => if o.kd = 0 then (s, intV 0, true) else (s, v, true)
theorem doVar_ok (s : MS) (o : Op) (sa sr : Value) (b : Nat) (ow : Lds) (G0 G : Hp) (hGl : Le G0 G) (hs : StO G0 b s G ow) (ho : o.rep G sa sr) (hl : s.vals.length < 1000000) :
    PureW Try.prog 60 [.pointer (some ⟨b, 0, none⟩), .agg (opL o sa sr).toArray] G ow (doPost G0 b (varP s o)) := by
  obtain ⟨vv, pv, bz, Z, b2, xs, ys, rfl, hL, hM, hl1, hl2⟩ := hs
  obtain ⟨ada, capa, rfl⟩ := VT.rep_slice ho.a
  refine enterW ty tyok Try.func60 rfl Try.ntmps60 [.p 0 b 0, .a (opC o (.slice ada o.arg.l.length capa) sr)] (by simp) (mh := 3) rfl ?_
  simp only [opC]
  intro C hP hQ hnt hty hmb hmh hro hG0 hmub; have hQp := qp_body hQ; refine st_ ?_
  simp only [enumO]
  refine go_rowC 2 rfl ?_
  rintro adp capp rfl hcp
  refine go_qval 1 rfl ?_
  rintro adv capv rfl hcv hxl hpos
  refine rn_ ?_; intros
  rename_i b3 b4
  refine go_gsplit rfl rfl (fun hk => ?_) (fun hk => ?_) <;> (refine st_ ?_; (refine rn_ ?_; intros))
  · have hk' : o.kd = 0 := by simpa using hk
    refine x_split rfl rfl rfl (fun h0 => ?_) (fun h0 => ?_) <;> (refine st_ ?_; (refine ru_ ?_; intros))
    · refine rn_ ?_; intros
      refine go_callf (by rw [hnt]; rfl) (by rw [hP]; kernel_rfl) rfl (hP ▸ int_ok 0 _) ?_; refine rn_ ?_; intros
      refine x_retW rfl hQ hmb hmh hG0 hmub rfl rfl (by rw [hty]; simp only [so, sq, zy, zz, tyE, SO', SQ', opQ, opStore, opAlloc, ev, putS, dOk, cv, SV.cs, SV.one, SV.bool?, eqB, Value.oneCell', ldOwn, binInt, binConst, binBool, binStr, isC, TK.agg, rv, rv1, ldV, resOne, resV, Nat.reduceAdd, Nat.reduceMul, Nat.reduceSub, Nat.reduceLT, Nat.reduceLeDiff, Nat.reduceEqDiff, Nat.reduceBEq, reduceIte, reduceCtorEq, eq_self]; try rfl) rfl rfl (by simp only [enumO]; exact (by repeat (first | exact plain_nil | refine plain_cons (fun _ h => h) ?_))) ?_; simp only [SV.den, resV, dens]
      have h0' := of_decide_eq_true h0
      have e : varP s o = (s, intV 0, true) := by
        obtain ⟨vals, ps⟩ := s
        cases vals with
        | nil => simp at h0'
        | cons v r => simp only [varP]; rw [if_pos hk']
      rw [e]
      exact ⟨_, rfl, rep_leaf _ 2 0 (by simp [isI64]) (by simp [isI64]), by simp [intV, tsz, tszL], _, _, _, _, _, _, _, rfl, hL, hM, hl1, hl2⟩
    have h0' : s.vals = [] := by have := of_decide_eq_false h0; exact List.length_eq_zero_iff.1 (by omega)
    refine go_slot 19 (.b true) rfl (by simp [SV.den, hk]) ?_
    refine st_ ?_
    refine rn_ ?_; intros
    refine x_held [(3, b3, .c 40 [.v (.int .i64 o.th), .v (.int .i64 o.kd), .v (.int .i64 o.arg.k), .v (.int .i64 o.arg.n), .v (.slice ada o.arg.l.length capa), .v (.int .i64 o.res.k), .v (.int .i64 o.res.n), .v sr, .v (.int .i64 o.fr), .v (.int .i64 o.to), .v (.bool o.dn)])] rfl (by rw [hP]; kernel_rfl) rfl rfl rfl ?_; refine st_ ?_
    refine h_take 0 rfl (by kernel_rfl) (by kernel_rfl) (by kernel_rfl) hQp (by rw [hnt]; rfl) (allIn (by repeat (first | exact trivial | refine ⟨rfl, ?_⟩))) (by first | exact Le.refl _ | assumption) (quiet_op (by rw [hty]; first | rfl | (refine st_ ?_; rfl))) ?_; refine st_ ?_
    refine h_take 1 rfl (by kernel_rfl) (by kernel_rfl) (by kernel_rfl) hQp (by rw [hnt]; rfl) (allIn (by repeat (first | exact trivial | refine ⟨rfl, ?_⟩))) (by first | exact Le.refl _ | assumption) (quiet_op (by rw [hty]; first | rfl | (refine st_ ?_; rfl))) ?_; refine st_ ?_
    refine h_take 2 rfl (by kernel_rfl) (by kernel_rfl) (by kernel_rfl) hQp (by rw [hnt]; rfl) (allIn (by repeat (first | exact trivial | refine ⟨rfl, ?_⟩))) (by first | exact Le.refl _ | assumption) (quiet_op (by rw [hty]; first | rfl | (refine st_ ?_; rfl))) ?_; refine st_ ?_
    refine h_take 4 rfl (by kernel_rfl) (by kernel_rfl) (by kernel_rfl) hQp (by rw [hnt]; rfl) (allIn (by repeat (first | exact trivial | refine ⟨rfl, ?_⟩))) (by first | exact Le.refl _ | assumption) (quiet_op (by rw [hty]; first | rfl | (refine st_ ?_; rfl))) ?_; refine st_ ?_
    refine h_take 5 rfl (by kernel_rfl) (by kernel_rfl) (by kernel_rfl) hQp (by rw [hnt]; rfl) (allIn (by repeat (first | exact trivial | refine ⟨rfl, ?_⟩))) (by first | exact Le.refl _ | assumption) (quiet_op (by rw [hty]; first | rfl | (refine st_ ?_; rfl))) ?_; refine st_ ?_
    have hfix : ∀ z c : List Value, z.length = 3 → c.length = 3 → (xs ++ z).take (s.vals.length * 3) ++ c ++ (xs ++ z).drop (s.vals.length * 3 + c.length) = xs ++ c := fun z c h1 h2 => by
      rw [← hxl, List.take_left, List.drop_eq_nil_of_le (by simp; omega), List.append_nil]
    refine h_two 3 7 rfl rfl (by kernel_rfl) ?_ ?_
    · refine rn_ ?_; intros
      refine h_hs (allIn (by repeat (first | exact trivial | refine ⟨rfl, ?_⟩))) (by first | exact Le.refl _ | assumption) ?_
      refine h_take 6 rfl (by kernel_rfl) (by kernel_rfl) (by kernel_rfl) hQp (by rw [hnt]; rfl) (allIn (by repeat (first | exact trivial | refine ⟨rfl, ?_⟩))) (by first | exact Le.refl _ | assumption) (quiet_op (by rw [hty]; first | rfl | (refine st_ ?_; rfl))) ?_; refine st_ ?_
      refine h_one 7 rfl (by kernel_rfl) ?_
      refine rn_ ?_; intros
      refine h_hs (allIn (by repeat (first | exact trivial | refine ⟨rfl, ?_⟩))) (by first | exact Le.refl _ | assumption) ?_
      refine h_one 8 rfl (by kernel_rfl) ?_
      refine go_qapp 1 (by rw [hnt]; rfl) (by rw [hty]; rfl) (by rw [hty]; rfl) (by decide) rfl rfl rfl hGl rfl (src_own 3 rfl rfl) rfl (by simp [dens, SV.den, Value.oneCell']) (by omega) (by simp only []; omega) ?_
      intro g off cap cur hqs hcap
      refine rn_ ?_; intros
      refine h_hs (allIn (by repeat (first | exact trivial | refine ⟨rfl, ?_⟩))) (by first | exact Le.refl _ | assumption) ?_
      refine h_take 9 rfl (by kernel_rfl) (by kernel_rfl) (by kernel_rfl) hQp (by rw [hnt]; rfl) (allIn (by repeat (first | exact trivial | refine ⟨rfl, ?_⟩))) (by first | exact Le.refl _ | assumption) (x := .v (.pointer (some ⟨g, off + s.vals.length * 3, none⟩))) ((quiet_index (by rw [hty]; rfl) (by rw [hty]; rfl) rfl rfl rfl (by omega) (by omega)).cast rfl) ?_
      refine st_ ?_
      refine h_take 11 rfl (by kernel_rfl) (by kernel_rfl) (by kernel_rfl) hQp (by rw [hnt]; rfl) (allIn (by repeat (first | exact trivial | refine ⟨rfl, ?_⟩))) (by first | exact Le.refl _ | assumption) (quiet_op (by rw [hty]; first | rfl | (refine st_ ?_; rfl))) ?_; refine st_ ?_
      refine h_take 12 rfl (by kernel_rfl) (by kernel_rfl) (by kernel_rfl) hQp (by rw [hnt]; rfl) (allIn (by repeat (first | exact trivial | refine ⟨rfl, ?_⟩))) (by first | exact Le.refl _ | assumption) (quiet_op (by rw [hty]; first | rfl | (refine st_ ?_; rfl))) ?_; refine st_ ?_
      refine h_two 10 13 rfl rfl (by kernel_rfl) ?_ ?_
      · refine go_storeQ 1 (m := s.vals.length * 3) (by rw [hnt]; rfl) (by rw [hty]; rfl) rfl rfl rfl rfl rfl rfl hqs rfl (by simp [dens]; omega) ?_
        intro cur' hqs'
        refine rn_ ?_; intros
        refine h_hs (allIn (by repeat (first | exact trivial | refine ⟨rfl, ?_⟩))) (by first | exact Le.refl _ | assumption) ?_
        refine h_one 13 rfl (by kernel_rfl) ?_
        refine rn_ ?_; intros
        refine h_hs (allIn (by repeat (first | exact trivial | refine ⟨rfl, ?_⟩))) (by first | exact Le.refl _ | assumption) ?_
        refine h_end (by kernel_rfl) ?_
        rw [hfix _ _ rfl rfl] at hqs'
        refine go_qthing (G0 := G0) (n := s.vals.length + 1) 1 rfl hqs' (by simp [dens]; omega) hcap ?_
        intro Z' bz'
        refine st_ ?_
        refine rn_ ?_; intros
        refine go_callf (by rw [hnt]; rfl) (by rw [hP]; kernel_rfl) rfl (hP ▸ int_ok 1 _) ?_; refine rn_ ?_; intros
        refine x_retW rfl hQ hmb hmh hG0 hmub rfl rfl (by rw [hty]; simp only [so, sq, zy, zz, tyE, SO', SQ', opQ, opStore, opAlloc, ev, putS, dOk, cv, SV.cs, SV.one, SV.bool?, eqB, Value.oneCell', ldOwn, binInt, binConst, binBool, binStr, isC, TK.agg, rv, rv1, ldV, resOne, resV, Nat.reduceAdd, Nat.reduceMul, Nat.reduceSub, Nat.reduceLT, Nat.reduceLeDiff, Nat.reduceEqDiff, Nat.reduceBEq, reduceIte, reduceCtorEq, eq_self]; try rfl) rfl rfl (by simp only [enumO]; exact (by repeat (first | exact plain_nil | refine plain_cons (fun _ h => h) ?_))) ?_; simp only [SV.den, resV, dens]
        have hk' : o.kd = 0 := by simpa using hk
        have e : varP s o = (⟨s.vals ++ [o.arg], s.ps⟩, intV 1, true) := by rw [varP, h0', if_pos hk']
        rw [e]
        have e2 : (s.vals ++ [o.arg]).length = s.vals.length + 1 := by simp
        exact ⟨_, rfl, rep_leaf _ 2 1 (by simp [isI64]) (by simp [isI64]), by simp [intV, tsz, tszL], _, _, _, _, _, _, _, by rw [e2], Rp.L_append hL (Rp.L_single ⟨_, rfl, ho.a, ho.ok.ba⟩), hM, by rw [e2]; omega, hl2⟩
      · refine rn_ ?_; intros
        refine h_hs (allIn (by repeat (first | exact trivial | refine ⟨rfl, ?_⟩))) (by first | exact Le.refl _ | assumption) ?_
        refine h_one 10 rfl (by kernel_rfl) ?_
        refine go_storeQ 1 (m := s.vals.length * 3) (by rw [hnt]; rfl) (by rw [hty]; rfl) rfl rfl rfl rfl rfl rfl hqs rfl (by simp [dens]; omega) ?_
        intro cur' hqs'
        refine rn_ ?_; intros
        refine h_hs (allIn (by repeat (first | exact trivial | refine ⟨rfl, ?_⟩))) (by first | exact Le.refl _ | assumption) ?_
        refine h_end (by kernel_rfl) ?_
        rw [hfix _ _ rfl rfl] at hqs'
        refine go_qthing (G0 := G0) (n := s.vals.length + 1) 1 rfl hqs' (by simp [dens]; omega) hcap ?_
        intro Z' bz'
        refine st_ ?_
        refine rn_ ?_; intros
        refine go_callf (by rw [hnt]; rfl) (by rw [hP]; kernel_rfl) rfl (hP ▸ int_ok 1 _) ?_; refine rn_ ?_; intros
        refine x_retW rfl hQ hmb hmh hG0 hmub rfl rfl (by rw [hty]; simp only [so, sq, zy, zz, tyE, SO', SQ', opQ, opStore, opAlloc, ev, putS, dOk, cv, SV.cs, SV.one, SV.bool?, eqB, Value.oneCell', ldOwn, binInt, binConst, binBool, binStr, isC, TK.agg, rv, rv1, ldV, resOne, resV, Nat.reduceAdd, Nat.reduceMul, Nat.reduceSub, Nat.reduceLT, Nat.reduceLeDiff, Nat.reduceEqDiff, Nat.reduceBEq, reduceIte, reduceCtorEq, eq_self]; try rfl) rfl rfl (by simp only [enumO]; exact (by repeat (first | exact plain_nil | refine plain_cons (fun _ h => h) ?_))) ?_; simp only [SV.den, resV, dens]
        have hk' : o.kd = 0 := by simpa using hk
        have e : varP s o = (⟨s.vals ++ [o.arg], s.ps⟩, intV 1, true) := by rw [varP, h0', if_pos hk']
        rw [e]
        have e2 : (s.vals ++ [o.arg]).length = s.vals.length + 1 := by simp
        exact ⟨_, rfl, rep_leaf _ 2 1 (by simp [isI64]) (by simp [isI64]), by simp [intV, tsz, tszL], _, _, _, _, _, _, _, by rw [e2], Rp.L_append hL (Rp.L_single ⟨_, rfl, ho.a, ho.ok.ba⟩), hM, by rw [e2]; omega, hl2⟩
    · refine rn_ ?_; intros
      refine h_hs (allIn (by repeat (first | exact trivial | refine ⟨rfl, ?_⟩))) (by first | exact Le.refl _ | assumption) ?_
      refine h_one 3 rfl (by kernel_rfl) ?_
      refine rn_ ?_; intros
      refine h_hs (allIn (by repeat (first | exact trivial | refine ⟨rfl, ?_⟩))) (by first | exact Le.refl _ | assumption) ?_
      refine h_take 6 rfl (by kernel_rfl) (by kernel_rfl) (by kernel_rfl) hQp (by rw [hnt]; rfl) (allIn (by repeat (first | exact trivial | refine ⟨rfl, ?_⟩))) (by first | exact Le.refl _ | assumption) (quiet_op (by rw [hty]; first | rfl | (refine st_ ?_; rfl))) ?_; refine st_ ?_
      refine h_one 8 rfl (by kernel_rfl) ?_
      refine go_qapp 1 (by rw [hnt]; rfl) (by rw [hty]; rfl) (by rw [hty]; rfl) (by decide) rfl rfl rfl hGl rfl (src_own 3 rfl rfl) rfl (by simp [dens, SV.den, Value.oneCell']) (by omega) (by simp only []; omega) ?_
      intro g off cap cur hqs hcap
      refine rn_ ?_; intros
      refine h_hs (allIn (by repeat (first | exact trivial | refine ⟨rfl, ?_⟩))) (by first | exact Le.refl _ | assumption) ?_
      refine h_take 9 rfl (by kernel_rfl) (by kernel_rfl) (by kernel_rfl) hQp (by rw [hnt]; rfl) (allIn (by repeat (first | exact trivial | refine ⟨rfl, ?_⟩))) (by first | exact Le.refl _ | assumption) (x := .v (.pointer (some ⟨g, off + s.vals.length * 3, none⟩))) ((quiet_index (by rw [hty]; rfl) (by rw [hty]; rfl) rfl rfl rfl (by omega) (by omega)).cast rfl) ?_
      refine st_ ?_
      refine h_take 11 rfl (by kernel_rfl) (by kernel_rfl) (by kernel_rfl) hQp (by rw [hnt]; rfl) (allIn (by repeat (first | exact trivial | refine ⟨rfl, ?_⟩))) (by first | exact Le.refl _ | assumption) (quiet_op (by rw [hty]; first | rfl | (refine st_ ?_; rfl))) ?_; refine st_ ?_
      refine h_take 12 rfl (by kernel_rfl) (by kernel_rfl) (by kernel_rfl) hQp (by rw [hnt]; rfl) (allIn (by repeat (first | exact trivial | refine ⟨rfl, ?_⟩))) (by first | exact Le.refl _ | assumption) (quiet_op (by rw [hty]; first | rfl | (refine st_ ?_; rfl))) ?_; refine st_ ?_
      refine h_two 10 13 rfl rfl (by kernel_rfl) ?_ ?_
      · refine go_storeQ 1 (m := s.vals.length * 3) (by rw [hnt]; rfl) (by rw [hty]; rfl) rfl rfl rfl rfl rfl rfl hqs rfl (by simp [dens]; omega) ?_
        intro cur' hqs'
        refine rn_ ?_; intros
        refine h_hs (allIn (by repeat (first | exact trivial | refine ⟨rfl, ?_⟩))) (by first | exact Le.refl _ | assumption) ?_
        refine h_one 13 rfl (by kernel_rfl) ?_
        refine rn_ ?_; intros
        refine h_hs (allIn (by repeat (first | exact trivial | refine ⟨rfl, ?_⟩))) (by first | exact Le.refl _ | assumption) ?_
        refine h_end (by kernel_rfl) ?_
        rw [hfix _ _ rfl rfl] at hqs'
        refine go_qthing (G0 := G0) (n := s.vals.length + 1) 1 rfl hqs' (by simp [dens]; omega) hcap ?_
        intro Z' bz'
        refine st_ ?_
        refine rn_ ?_; intros
        refine go_callf (by rw [hnt]; rfl) (by rw [hP]; kernel_rfl) rfl (hP ▸ int_ok 1 _) ?_; refine rn_ ?_; intros
        refine x_retW rfl hQ hmb hmh hG0 hmub rfl rfl (by rw [hty]; simp only [so, sq, zy, zz, tyE, SO', SQ', opQ, opStore, opAlloc, ev, putS, dOk, cv, SV.cs, SV.one, SV.bool?, eqB, Value.oneCell', ldOwn, binInt, binConst, binBool, binStr, isC, TK.agg, rv, rv1, ldV, resOne, resV, Nat.reduceAdd, Nat.reduceMul, Nat.reduceSub, Nat.reduceLT, Nat.reduceLeDiff, Nat.reduceEqDiff, Nat.reduceBEq, reduceIte, reduceCtorEq, eq_self]; try rfl) rfl rfl (by simp only [enumO]; exact (by repeat (first | exact plain_nil | refine plain_cons (fun _ h => h) ?_))) ?_; simp only [SV.den, resV, dens]
        have hk' : o.kd = 0 := by simpa using hk
        have e : varP s o = (⟨s.vals ++ [o.arg], s.ps⟩, intV 1, true) := by rw [varP, h0', if_pos hk']
        rw [e]
        have e2 : (s.vals ++ [o.arg]).length = s.vals.length + 1 := by simp
        exact ⟨_, rfl, rep_leaf _ 2 1 (by simp [isI64]) (by simp [isI64]), by simp [intV, tsz, tszL], _, _, _, _, _, _, _, by rw [e2], Rp.L_append hL (Rp.L_single ⟨_, rfl, ho.a, ho.ok.ba⟩), hM, by rw [e2]; omega, hl2⟩
      · refine rn_ ?_; intros
        refine h_hs (allIn (by repeat (first | exact trivial | refine ⟨rfl, ?_⟩))) (by first | exact Le.refl _ | assumption) ?_
        refine h_one 10 rfl (by kernel_rfl) ?_
        refine go_storeQ 1 (m := s.vals.length * 3) (by rw [hnt]; rfl) (by rw [hty]; rfl) rfl rfl rfl rfl rfl rfl hqs rfl (by simp [dens]; omega) ?_
        intro cur' hqs'
        refine rn_ ?_; intros
        refine h_hs (allIn (by repeat (first | exact trivial | refine ⟨rfl, ?_⟩))) (by first | exact Le.refl _ | assumption) ?_
        refine h_end (by kernel_rfl) ?_
        rw [hfix _ _ rfl rfl] at hqs'
        refine go_qthing (G0 := G0) (n := s.vals.length + 1) 1 rfl hqs' (by simp [dens]; omega) hcap ?_
        intro Z' bz'
        refine st_ ?_
        refine rn_ ?_; intros
        refine go_callf (by rw [hnt]; rfl) (by rw [hP]; kernel_rfl) rfl (hP ▸ int_ok 1 _) ?_; refine rn_ ?_; intros
        refine x_retW rfl hQ hmb hmh hG0 hmub rfl rfl (by rw [hty]; simp only [so, sq, zy, zz, tyE, SO', SQ', opQ, opStore, opAlloc, ev, putS, dOk, cv, SV.cs, SV.one, SV.bool?, eqB, Value.oneCell', ldOwn, binInt, binConst, binBool, binStr, isC, TK.agg, rv, rv1, ldV, resOne, resV, Nat.reduceAdd, Nat.reduceMul, Nat.reduceSub, Nat.reduceLT, Nat.reduceLeDiff, Nat.reduceEqDiff, Nat.reduceBEq, reduceIte, reduceCtorEq, eq_self]; try rfl) rfl rfl (by simp only [enumO]; exact (by repeat (first | exact plain_nil | refine plain_cons (fun _ h => h) ?_))) ?_; simp only [SV.den, resV, dens]
        have hk' : o.kd = 0 := by simpa using hk
        have e : varP s o = (⟨s.vals ++ [o.arg], s.ps⟩, intV 1, true) := by rw [varP, h0', if_pos hk']
        rw [e]
        have e2 : (s.vals ++ [o.arg]).length = s.vals.length + 1 := by simp
        exact ⟨_, rfl, rep_leaf _ 2 1 (by simp [isI64]) (by simp [isI64]), by simp [intV, tsz, tszL], _, _, _, _, _, _, _, by rw [e2], Rp.L_append hL (Rp.L_single ⟨_, rfl, ho.a, ho.ok.ba⟩), hM, by rw [e2]; omega, hl2⟩
  · have hk' : ¬ o.kd = 0 := by simpa using hk
    refine go_slot 19 (.b false) rfl (by simp [SV.den, hk]) ?_
    refine st_ ?_
    refine rn_ ?_; intros
    refine x_split rfl rfl rfl (fun h0 => ?_) (fun h0 => ?_) <;> (refine st_ ?_; (refine ru_ ?_; intros))
    · have h0' := of_decide_eq_true h0
      obtain ⟨vals, ps⟩ := s
      cases vals with
      | nil => simp at h0'
      | cons v r =>
        simp only [] at *
        have hL0 := hL
        obtain ⟨c1, xs', rfl, ⟨sl, rfl, hrep, hbd⟩, hL'⟩ := hL
        obtain ⟨asl, csl, rfl⟩ := VT.rep_slice hrep
        obtain ⟨c2, off, rfl⟩ := hpos (by simp)
        refine rn_ ?_; intros
        refine go_q (by rw [hnt]; rfl) (quiet_index (by rw [hty]; rfl) (by rw [hty]; rfl) rfl rfl rfl (by omega) (by omega)) ?_
        refine rn_ ?_; intros
        refine go_q (v := .agg #[.int .i64 v.k, .int .i64 v.n, .slice asl v.l.length csl]) (by rw [hnt]; rfl) ((quiet_loadQ 1 (m := 0) (by rw [hty]; rfl) rfl (by simp [TK.agg]) rfl hGl (by simp) (by simp) (by simp)).cast rfl) ?_
        refine rn_ ?_; intros
        refine x_retW rfl hQ hmb hmh hG0 hmub rfl rfl (by rw [hty]; simp only [so, sq, zy, zz, tyE, SO', SQ', opQ, opStore, opAlloc, ev, putS, dOk, cv, SV.cs, SV.one, SV.bool?, eqB, Value.oneCell', ldOwn, binInt, binConst, binBool, binStr, isC, TK.agg, rv, rv1, ldV, resOne, resV, Nat.reduceAdd, Nat.reduceMul, Nat.reduceSub, Nat.reduceLT, Nat.reduceLeDiff, Nat.reduceEqDiff, Nat.reduceBEq, reduceIte, reduceCtorEq, eq_self]; try rfl) rfl rfl (by simp only [enumO]; exact (by repeat (first | exact plain_nil | refine plain_cons (fun _ h => h) ?_))) ?_; simp only [SV.den, resV, dens]
        have e : varP ⟨v :: r, ps⟩ o = (⟨v :: r, ps⟩, v, true) := by simp only [varP]; rw [if_neg hk']
        rw [e]
        exact ⟨_, rfl, hrep, hbd, _, _, _, _, _, _, _, rfl, hL0, hM, hl1, hl2⟩
    · have h0' : s.vals = [] := by have := of_decide_eq_false h0; exact List.length_eq_zero_iff.1 (by omega)
      refine rn_ ?_; intros
      refine x_retW rfl hQ hmb hmh hG0 hmub rfl rfl (by rw [hty]; simp only [so, sq, zy, zz, tyE, SO', SQ', opQ, opStore, opAlloc, ev, putS, dOk, cv, SV.cs, SV.one, SV.bool?, eqB, Value.oneCell', ldOwn, binInt, binConst, binBool, binStr, isC, TK.agg, rv, rv1, ldV, resOne, resV, Nat.reduceAdd, Nat.reduceMul, Nat.reduceSub, Nat.reduceLT, Nat.reduceLeDiff, Nat.reduceEqDiff, Nat.reduceBEq, reduceIte, reduceCtorEq, eq_self]; try rfl) rfl rfl (by simp only [enumO]; exact (by repeat (first | exact plain_nil | refine plain_cons (fun _ h => h) ?_))) ?_; simp only [SV.den, resV, dens]
      have e : varP s o = (s, noneV, false) := by rw [varP, h0']; exact if_neg hk'
      rw [e]
      exact ⟨_, rfl, rep_leaf _ 0 0 (by simp [isI64]) (by simp [isI64]), by simp [noneV, tsz, tszL], _, _, _, _, _, _, _, rfl, hL, hM, hl1, hl2⟩
def slotP (s : MS) (o : Op) : MS × VT × Bool := if o.kd = 0 ∧ 0 < s.vals.length then (s, noneV, false) else boxP s o
theorem doSlot_ok (s : MS) (o : Op) (sa sr : Value) (b : Nat) (ow : Lds) (G0 G : Hp) (hGl : Le G0 G) (hs : StO G0 b s G ow) (ho : o.rep G sa sr) (hl : s.vals.length < 1000000) :
    PureW Try.prog 61 [.pointer (some ⟨b, 0, none⟩), .agg (opL o sa sr).toArray] G ow (doPost G0 b (slotP s o)) := by
  have hs0 := hs
  have hbx := doBox_ok s o sa sr b ow G0 G hGl hs ho hl
  obtain ⟨vv, pv, bz, Z, b2, xs, ys, rfl, hL, hM, hl1, hl2⟩ := hs
  obtain ⟨ada, capa, rfl⟩ := VT.rep_slice ho.a
  obtain ⟨adr, capr, rfl⟩ := VT.rep_slice ho.r
  refine enterW ty tyok Try.func61 rfl Try.ntmps61 [.p 0 b 0, .a (opC o (.slice ada o.arg.l.length capa) (.slice adr o.res.l.length capr))] (by simp) (mh := 3) rfl ?_
  simp only [opC]
  intro C hP hQ hnt hty hmb hmh hro hG0 hmub; have hQp := qp_body hQ; refine st_ ?_
  simp only [enumO]
  refine go_rowC 2 rfl ?_
  rintro adp capp rfl hcp
  refine go_qval 1 rfl ?_
  rintro adv capv rfl hcv hxl hpos
  refine rn_ ?_; intros
  rename_i b3 b4
  refine cut_tail 2 (fun st => (¬ (o.kd = 0 ∧ 0 < s.vals.length)) ∧ st = ⟨[(0, .p 0 b 0), (3, .p 3 b3 0), (4, .p 4 b4 0), (5, .b false)], [(0, b, .c 44 [.v (.slice adv s.vals.length capv), .v (.slice adp s.ps.length capp)]),
      (1, bz, .z (ZQ G0 28 3 (.slice adv s.vals.length capv) s.vals.length xs) Z Z), (2, b2, .row (.slice adp s.ps.length capp) 55 4 s.ps.length ys),
      (3, b3, .c 40 [.v (.int .i64 o.th), .v (.int .i64 o.kd), .v (.int .i64 o.arg.k), .v (.int .i64 o.arg.n), .v (.slice ada o.arg.l.length capa), .v (.int .i64 o.res.k), .v (.int .i64 o.res.n), .v (.slice adr o.res.l.length capr), .v (.int .i64 o.fr), .v (.int .i64 o.to), .v (.bool o.dn)]),
      (4, b4, .c 28 [.v (.int .i64 0), .v (.int .i64 0), .v (.slice none 0 0)])], G, []⟩) ?_ (fun key => ?_)
  rotate_left
  · simp only [List.drop_succ_cons, List.drop_zero] at key
    refine go_gsplit rfl rfl (fun hk => ?_) (fun hk => ?_) <;> (refine st_ ?_; (try (refine runo0 400 hty hnt hmh ?_; refine st_ ?_)))
    · have hk' : o.kd = 0 := by simpa using hk
      refine go_ops ?_
      refine x_if rfl rfl rfl rfl (fun h0 => ?_) (fun h0 => ?_)
      · have h0' := of_decide_eq_true h0
        refine rn_ ?_; intros
        refine x_retW rfl hQ hmb hmh hG0 hmub rfl rfl (by rw [hty]; simp only [so, sq, zy, zz, tyE, SO', SQ', opQ, opStore, opAlloc, ev, putS, dOk, cv, SV.cs, SV.one, SV.bool?, eqB, Value.oneCell', ldOwn, binInt, binConst, binBool, binStr, isC, TK.agg, rv, rv1, ldV, resOne, resV, Nat.reduceAdd, Nat.reduceMul, Nat.reduceSub, Nat.reduceLT, Nat.reduceLeDiff, Nat.reduceEqDiff, Nat.reduceBEq, reduceIte, reduceCtorEq, eq_self]; try rfl) rfl rfl (by simp only [enumO]; exact (by repeat (first | exact plain_nil | refine plain_cons (fun _ h => h) ?_))) ?_; simp only [SV.den, resV, dens]
        have e : slotP s o = (s, noneV, false) := by rw [slotP, if_pos ⟨hk', by omega⟩]
        rw [e]
        exact ⟨_, rfl, rep_leaf _ 0 0 (by simp [isI64]) (by simp [isI64]), by simp [noneV, tsz, tszL], _, _, _, _, _, _, _, rfl, hL, hM, hl1, hl2⟩
      · have h0' := of_decide_eq_false h0
        refine x_skip rfl ?_
        refine go_keep [0, 3, 4, 5] [0, 1, 2, 3, 4] ?_
        refine st_ ?_
        exact key _ ⟨fun h => by omega, rfl⟩
    · have hk' : ¬ o.kd = 0 := by simpa using hk
      refine go_ops ?_
      refine x_iff rfl rfl rfl ?_
      refine x_skip rfl ?_
      refine go_keep [0, 3, 4, 5] [0, 1, 2, 3, 4] ?_
      refine st_ ?_
      exact key _ ⟨fun h => hk' h.1, rfl⟩
  rintro st ⟨hno, rfl⟩
  simp only [List.drop_succ_cons, List.drop_zero]
  refine rn_ ?_; intros
  refine go_callW [0, 1, 2] (by rw [hnt]; rfl) (by rw [hP]; kernel_rfl) rfl rfl rfl (.inr (by rw [hmh]; decide)) (by rw [hP]; exact hbx) ?_
  rintro v G1 ow1 (hle1 : Le G G1) hpost
  have e : slotP s o = boxP s o := by rw [slotP, if_neg hno]
  rw [← e] at hpost
  obtain ⟨sl, rfl, hr1, hr2, vv1, pv1, bz1, Z1, c2, xs1, ys1, rfl, r3, r4, r5, r6⟩ := hpost
  obtain ⟨asl, csl, rfl⟩ := VT.rep_slice hr1
  simp only [setO]
  refine st_ ?_
  refine rn_ ?_; intros
  refine x_retW rfl hQ hmb hmh hG0 hmub rfl rfl (by rw [hty]; simp only [so, sq, zy, zz, tyE, SO', SQ', opQ, opStore, opAlloc, ev, putS, dOk, cv, SV.cs, SV.one, SV.bool?, eqB, Value.oneCell', ldOwn, binInt, binConst, binBool, binStr, isC, TK.agg, rv, rv1, ldV, resOne, resV, Nat.reduceAdd, Nat.reduceMul, Nat.reduceSub, Nat.reduceLT, Nat.reduceLeDiff, Nat.reduceEqDiff, Nat.reduceBEq, reduceIte, reduceCtorEq, eq_self]; try rfl) rfl rfl (by simp only [enumO]; exact (by repeat (first | exact plain_nil | refine plain_cons (fun _ h => h) ?_))) ?_; simp only [SV.den, resV, dens]
  exact ⟨_, rfl, hr1, hr2, _, _, _, _, _, _, _, rfl, r3, r4, r5, r6⟩
end Go.Proofs.Ytpmmbjcgabnloaa
namespace Go.Sx
set_option linter.unusedSimpArgs false
set_option linter.unusedVariables false
open Go.RowKit
section
variable {C : Ctx} {K : List KI} {s : St} {R : Array Oper} {l : List Oper} {d : Option Tmp} {t : TypeId} {pos : String} {aft : Array Edge} {v : Value}
theorem go_lendC (k2 : Nat) {f : FuncId} {args : Array Operand} {tys : Array TypeId} {vs : List SV} {b2 : Nat} {e2 : TypeId} {cells : List SV} (hd : dOk C.nt d = true) (hf : canCall C.P f = true) (ha : evs s.sl args.toList = some vs)
    (hk2 : lk k2 s.own = some (b2, .c e2 cells)) (hc : ∀ G1, Le s.G G1 → At G1 b2 0 (dens cells) → Pure C.P f (dens vs) G1 (fun r _ => r = v))
    (h : SGo C (.ops R l :: K) ⟨putS d (rv v) s.sl, s.own, s.G, s.df⟩) : SGo C (.ops R (⟨d, .call ⟨.value (.func f), args, tys⟩, t, pos, aft, none⟩ :: l) :: K) s := by
  intro a w hS
  have hargs : args.map a.eval = (dens vs).toArray := by apply Array.ext'; rw [Array.toList_map]; exact evs_ok hS.sl ha
  have hrun : (execOp a.eval ⟨d, .call ⟨.value (.func f), args, tys⟩, t, pos, aft, none⟩).run C.P w = .ok (.enter f (dens vs).toArray) w := by
    simp only [execOp, resolve, hargs, Act.eval, Deferred.ofValue, Sem.run_bind, Sem.run_pure, Result.andThen_ok, invoke]
    simp [callFunc_ok hf]
  obtain ⟨c1, c2⟩ := hS.mem.own _ _ _ hk2
  simp only [OO.holds] at c1
  have g2 := (c2 b2 rfl).1
  have l1 : Le s.G (fun j => if j = b2 then w.heap[b2]? else s.G j) := by
    intro j y e
    have n2 : j ≠ b2 := by intro q; subst q; rw [g2] at e; cases e
    simp [n2, e]
  have l2 : Has w (fun j => if j = b2 then w.heap[b2]? else s.G j) := by
    intro j y e
    simp only at e
    split at e
    · rename_i q; subst q; exact e
    · exact hS.mem.has j y e
  have l3 : (fun j => if j = b2 then w.heap[b2]? else s.G j : Hp) b2 = w.heap[b2]? := by simp
  refine K_enter rfl hrun ((hc _ l1 ⟨_, _, _, l3.trans c1, by simp, fun i hi => by simp [hi]⟩ w l2).mono ?_)
  rintro e w' ⟨v', G', rfl, hg, rfl⟩
  have hS' := hS.put hd (rv v') (hS.mem.stay hg)
  rw [rv_den] at hS'
  have := h _ _ hS'
  exact ⟨_, rfl, this⟩
theorem go_lendRC {α : Type} (r : Rp α) (k k2 : Nat) {f : FuncId} {args : Array Operand} {tys : Array TypeId} {vs : List SV} {b b2 n : Nat} {e e2 : TypeId} {u : Value} {xs : List Value} {ts : List α} {cells : List SV} (hd : dOk C.nt d = true) (hf : canCall C.P f = true) (ha : evs s.sl args.toList = some vs)
    (hk : lk k s.own = some (b, .row u e r.size n xs)) (hn : n = ts.length) (h63 : n ≤ 9223372036854775807) (hL : r.L s.G ts xs) (hk2 : lk k2 s.own = some (b2, .c e2 cells)) (hc : ∀ G1, Le s.G G1 → r.S G1 ts u → At G1 b2 0 (dens cells) → Pure C.P f (dens vs) G1 (fun r _ => r = v))
    (h : SGo C (.ops R l :: K) ⟨putS d (rv v) s.sl, s.own, s.G, s.df⟩) : SGo C (.ops R (⟨d, .call ⟨.value (.func f), args, tys⟩, t, pos, aft, none⟩ :: l) :: K) s := by
  subst hn
  refine go_rowcases k hk (fun hv hn0 hx => ?_) (fun g cap hv hcap hl => ?_)
  · have h0 : ts = [] := List.length_eq_zero_iff.1 hn0
    refine go_lendC k2 hd hf ha hk2 (fun G1 hle hat => hc G1 hle ?_ hat) h
    rw [hv, h0]
    exact Rp.S_nil _ _
  · subst hv
    exact go_lend2 k k2 hd hf ha hk hk2 (fun G1 hle hat hat2 => hc G1 hle ⟨h63, _, _, rfl, .inr ⟨g, 0, xs, rfl, hat, Rp.L_mono hle hL⟩⟩ hat2) h
theorem go_rowE2 (k : Nat) {b n size : Nat} {e : TypeId} {v : Value} {xs : List Value} (hk : lk k s.own = some (b, .row v e size n xs)) (h : ∀ ad cap, v = .slice ad n cap → n ≤ cap → ((xs = [] ∧ ad = none) ∨ ∃ g, ad = some ⟨g, 0, none⟩) → SGo C K s) : SGo C K s :=
  go_rowcases k hk (fun hv hn0 hx => h none 0 (by rw [hv, hn0]) (by omega) (.inl ⟨hx, rfl⟩)) (fun g cap hv hc _ => h _ cap hv hc (.inr ⟨_, rfl⟩))
end
end Go.Sx
namespace Go.Proofs.Ytpmmbjcgabnloaa
set_option linter.unusedSimpArgs false
set_option linter.unusedVariables false
open Go.Sx
set_option maxHeartbeats 8000000
set_option maxRecDepth 20000
def castP (s : MS) (o : Op) : MS × VT × Bool :=
  if o.kd = 0 then (if ((pix o.res s.ps 0).isSome || !o.dn || o.res.k != 4) = true then (s, noneV, false) else (⟨s.vals, s.ps ++ [⟨o.res, s.vals.length⟩]⟩, o.res, true)) else
  if o.kd = 1 then (⟨s.vals ++ [o.arg], s.ps⟩, unitV, true) else
  match pix o.arg s.ps 0 with
  | none => (s, noneV, false)
  | some i => if (s.vals.length : Int) ≤ (s.ps.getD i ⟨noneV, 0⟩).pt then (s, noneV, false) else (⟨s.vals, s.ps.set i ⟨(s.ps.getD i ⟨noneV, 0⟩).nm, (s.ps.getD i ⟨noneV, 0⟩).pt + 1⟩⟩, s.vals.getD (s.ps.getD i ⟨noneV, 0⟩).pt.toNat noneV, true)
def MS.wf (s : MS) : Prop := ∀ p ∈ s.ps, 0 ≤ p.pt ∧ p.pt ≤ s.vals.length
theorem cut4 {ys : List Value} {m : Nat} {a b c d : Value} (h : (ys.drop m).take 4 = [a, b, c, d]) : (ys.drop (m + 3)).take 1 = [d] ∧ ys.take (m + 3) = ys.take m ++ [a, b, c] ∧ m + 4 ≤ ys.length := by
  have h4 : m + 4 ≤ ys.length := by
    have := congrArg List.length h
    simp at this
    omega
  refine ⟨?_, ?_, h4⟩
  · have := congrArg (fun l => l.drop 3) h
    simp only [List.drop_take, List.drop_drop] at this
    rw [show m + 3 = 3 + m by omega] at *
    simpa [Nat.add_comm] using this
  · have := congrArg (fun l => l.take 3) h
    simp only [List.take_take] at this
    rw [List.take_add]
    simp at this ⊢
    exact this
theorem doCast_ok (s : MS) (o : Op) (sa sr : Value) (b : Nat) (ow : Lds) (G0 G : Hp) (hGl : Le G0 G) (hs : StO G0 b s G ow) (ho : o.rep G sa sr) (hl : s.vals.length < 1000000) (hlp : s.ps.length < 1000000) (hwf : s.wf) :
    PureW Try.prog 63 [.pointer (some ⟨b, 0, none⟩), .agg (opL o sa sr).toArray] G ow (doPost G0 b (castP s o)) := by
  obtain ⟨vv, pv, bz, Z, b2, xs, ys, rfl, hL, hM, hl1, hl2⟩ := hs
  obtain ⟨ada, capa, rfl⟩ := VT.rep_slice ho.a
  obtain ⟨adr, capr, rfl⟩ := VT.rep_slice ho.r
  refine enterW ty tyok Try.func63 rfl Try.ntmps63 [.p 0 b 0, .a (opC o (.slice ada o.arg.l.length capa) (.slice adr o.res.l.length capr))] (by simp) (mh := 3) rfl ?_
  simp only [opC]
  intro C hP hQ hnt hty hmb hmh hro hG0 hmub; have hQp := qp_body hQ; refine st_ ?_
  simp only [enumO]
  refine go_rowE2 2 rfl ?_
  rintro adp capp rfl hcp0 hposp
  refine go_qval 1 rfl ?_
  rintro adv capv rfl hcv hxl hpos
  refine rn_ ?_; intros
  rename_i b3 b4
  refine x_split rfl rfl rfl (fun hk0 => ?_) (fun hk0 => ?_) <;> (refine st_ ?_; (refine ru_ ?_; intros))
  · have hk0' : o.kd = 0 := by simpa using hk0
    refine rn_ ?_; intros
    refine go_lendRC rPo 2 0 (by rw [hnt]; rfl) (by rw [hP]; kernel_rfl) rfl rfl rfl (by omega) hM rfl (fun G1 hle hS hat => by rw [hP]; exact port_ok s.ps o.res b _ _ _ G1 (by simpa [dens, SV.den] using hat) hS (VT.rep_mono hle ho.r)) ?_
    refine rn_ ?_; intros
    refine go_gsplit rfl rfl (fun his => ?_) (fun his => ?_) <;> (refine st_ ?_; (refine rn_ ?_; intros))
    · have e : castP s o = (s, noneV, false) := by rw [castP, if_pos hk0', if_pos (by rw [his]; rfl)]
      repeat (refine go_gundef rfl (by rw [hnt]; rfl) rfl ?_; (refine st_ ?_; (refine rn_ ?_; intros)))
      refine rn_ ?_; intros
      refine x_retW rfl hQ hmb hmh hG0 hmub rfl rfl (by rw [hty]; simp only [so, sq, zy, zz, tyE, SO', SQ', opQ, opStore, opAlloc, ev, putS, dOk, cv, SV.cs, SV.one, SV.bool?, eqB, Value.oneCell', ldOwn, binInt, binConst, binBool, binStr, isC, TK.agg, rv, rv1, ldV, resOne, resV, Nat.reduceAdd, Nat.reduceMul, Nat.reduceSub, Nat.reduceLT, Nat.reduceLeDiff, Nat.reduceEqDiff, Nat.reduceBEq, reduceIte, reduceCtorEq, eq_self]; try rfl) rfl rfl (by simp only [enumO]; exact (by repeat (first | exact plain_nil | refine plain_cons (fun _ h => h) ?_))) ?_; simp only [SV.den, resV, dens]
      rw [e]
      exact ⟨_, rfl, rep_leaf _ 0 0 (by simp [isI64]) (by simp [isI64]), by simp [noneV, tsz, tszL], _, _, _, _, _, _, _, rfl, hL, hM, hl1, hl2⟩
    refine go_gsplit rfl rfl (fun hdn => ?_) (fun hdn => ?_) <;> (refine st_ ?_; (refine rn_ ?_; intros))
    · have e : castP s o = (s, noneV, false) := by rw [castP, if_pos hk0', if_pos (by rw [hdn, Bool.or_true]; rfl)]
      repeat (refine go_gundef rfl (by rw [hnt]; rfl) rfl ?_; (refine st_ ?_; (refine rn_ ?_; intros)))
      refine rn_ ?_; intros
      refine x_retW rfl hQ hmb hmh hG0 hmub rfl rfl (by rw [hty]; simp only [so, sq, zy, zz, tyE, SO', SQ', opQ, opStore, opAlloc, ev, putS, dOk, cv, SV.cs, SV.one, SV.bool?, eqB, Value.oneCell', ldOwn, binInt, binConst, binBool, binStr, isC, TK.agg, rv, rv1, ldV, resOne, resV, Nat.reduceAdd, Nat.reduceMul, Nat.reduceSub, Nat.reduceLT, Nat.reduceLeDiff, Nat.reduceEqDiff, Nat.reduceBEq, reduceIte, reduceCtorEq, eq_self]; try rfl) rfl rfl (by simp only [enumO]; exact (by repeat (first | exact plain_nil | refine plain_cons (fun _ h => h) ?_))) ?_; simp only [SV.den, resV, dens]
      rw [e]
      exact ⟨_, rfl, rep_leaf _ 0 0 (by simp [isI64]) (by simp [isI64]), by simp [noneV, tsz, tszL], _, _, _, _, _, _, _, rfl, hL, hM, hl1, hl2⟩
    refine x_split rfl rfl rfl (fun hk4 => ?_) (fun hk4 => ?_) <;> (refine st_ ?_; (refine ru_ ?_; intros))
    · have e : castP s o = (s, noneV, false) := by rw [castP, if_pos hk0', if_pos (by rw [show (o.res.k != 4) = true from hk4, Bool.or_true])]
      refine rn_ ?_; intros
      refine x_retW rfl hQ hmb hmh hG0 hmub rfl rfl (by rw [hty]; simp only [so, sq, zy, zz, tyE, SO', SQ', opQ, opStore, opAlloc, ev, putS, dOk, cv, SV.cs, SV.one, SV.bool?, eqB, Value.oneCell', ldOwn, binInt, binConst, binBool, binStr, isC, TK.agg, rv, rv1, ldV, resOne, resV, Nat.reduceAdd, Nat.reduceMul, Nat.reduceSub, Nat.reduceLT, Nat.reduceLeDiff, Nat.reduceEqDiff, Nat.reduceBEq, reduceIte, reduceCtorEq, eq_self]; try rfl) rfl rfl (by simp only [enumO]; exact (by repeat (first | exact plain_nil | refine plain_cons (fun _ h => h) ?_))) ?_; simp only [SV.den, resV, dens]
      rw [e]
      exact ⟨_, rfl, rep_leaf _ 0 0 (by simp [isI64]) (by simp [isI64]), by simp [noneV, tsz, tszL], _, _, _, _, _, _, _, rfl, hL, hM, hl1, hl2⟩
    have hcp : castP s o = (⟨s.vals, s.ps ++ [⟨o.res, s.vals.length⟩]⟩, o.res, true) := by rw [castP, if_pos hk0', if_neg (by rw [his, hdn, show (o.res.k != 4) = false from hk4]; decide)]
    refine rn_ ?_; intros
    refine x_held [(3, b3, .c 40 [.v (.int .i64 o.th), .v (.int .i64 o.kd), .v (.int .i64 o.arg.k), .v (.int .i64 o.arg.n), .v (.slice ada o.arg.l.length capa), .v (.int .i64 o.res.k), .v (.int .i64 o.res.n), .v (.slice adr o.res.l.length capr), .v (.int .i64 o.fr), .v (.int .i64 o.to), .v (.bool o.dn)])] rfl (by rw [hP]; kernel_rfl) rfl rfl rfl ?_; refine st_ ?_
    refine h_take 0 rfl (by kernel_rfl) (by kernel_rfl) (by kernel_rfl) hQp (by rw [hnt]; rfl) (allIn (by repeat (first | exact trivial | refine ⟨rfl, ?_⟩))) (by first | exact Le.refl _ | assumption) (quiet_op (by rw [hty]; first | rfl | (refine st_ ?_; rfl))) ?_; refine st_ ?_
    refine h_take 1 rfl (by kernel_rfl) (by kernel_rfl) (by kernel_rfl) hQp (by rw [hnt]; rfl) (allIn (by repeat (first | exact trivial | refine ⟨rfl, ?_⟩))) (by first | exact Le.refl _ | assumption) (quiet_op (by rw [hty]; first | rfl | (refine st_ ?_; rfl))) ?_; refine st_ ?_
    refine h_take 2 rfl (by kernel_rfl) (by kernel_rfl) (by kernel_rfl) hQp (by rw [hnt]; rfl) (allIn (by repeat (first | exact trivial | refine ⟨rfl, ?_⟩))) (by first | exact Le.refl _ | assumption) (quiet_op (by rw [hty]; first | rfl | (refine st_ ?_; rfl))) ?_; refine st_ ?_
    refine h_take 3 rfl (by kernel_rfl) (by kernel_rfl) (by kernel_rfl) hQp (by rw [hnt]; rfl) (allIn (by repeat (first | exact trivial | refine ⟨rfl, ?_⟩))) (by first | exact Le.refl _ | assumption) (quiet_op (by rw [hty]; first | rfl | (refine st_ ?_; rfl))) ?_; refine st_ ?_
    refine h_take 5 rfl (by kernel_rfl) (by kernel_rfl) (by kernel_rfl) hQp (by rw [hnt]; rfl) (allIn (by repeat (first | exact trivial | refine ⟨rfl, ?_⟩))) (by first | exact Le.refl _ | assumption) (quiet_op (by rw [hty]; first | rfl | (refine st_ ?_; rfl))) ?_; refine st_ ?_
    refine h_take 6 rfl (by kernel_rfl) (by kernel_rfl) (by kernel_rfl) hQp (by rw [hnt]; rfl) (allIn (by repeat (first | exact trivial | refine ⟨rfl, ?_⟩))) (by first | exact Le.refl _ | assumption) (quiet_op (by rw [hty]; first | rfl | (refine st_ ?_; rfl))) ?_; refine st_ ?_
    refine h_take 7 rfl (by kernel_rfl) (by kernel_rfl) (by kernel_rfl) hQp (by rw [hnt]; rfl) (allIn (by repeat (first | exact trivial | refine ⟨rfl, ?_⟩))) (by first | exact Le.refl _ | assumption) (quiet_op (by rw [hty]; first | rfl | (refine st_ ?_; rfl))) ?_; refine st_ ?_
    refine h_take 8 rfl (by kernel_rfl) (by kernel_rfl) (by kernel_rfl) hQp (by rw [hnt]; rfl) (allIn (by repeat (first | exact trivial | refine ⟨rfl, ?_⟩))) (by first | exact Le.refl _ | assumption) (quiet_op (by rw [hty]; first | rfl | (refine st_ ?_; rfl))) ?_; refine st_ ?_
    refine h_take 9 rfl (by kernel_rfl) (by kernel_rfl) (by kernel_rfl) hQp (by rw [hnt]; rfl) (allIn (by repeat (first | exact trivial | refine ⟨rfl, ?_⟩))) (by first | exact Le.refl _ | assumption) (quiet_op (by rw [hty]; first | rfl | (refine st_ ?_; rfl))) ?_; refine st_ ?_
    refine h_two 4 10 rfl rfl (by kernel_rfl) ?_ ?_
    · refine rn_ ?_; intros
      refine h_hs (allIn (by repeat (first | exact trivial | refine ⟨rfl, ?_⟩))) (by first | exact Le.refl _ | assumption) ?_
      refine h_one 10 rfl (by kernel_rfl) ?_
      refine rn_ ?_; intros
      refine h_hs (allIn (by repeat (first | exact trivial | refine ⟨rfl, ?_⟩))) (by first | exact Le.refl _ | assumption) ?_
      refine h_take 11 rfl (by kernel_rfl) (by kernel_rfl) (by kernel_rfl) hQp (by rw [hnt]; rfl) (allIn (by repeat (first | exact trivial | refine ⟨rfl, ?_⟩))) (by first | exact Le.refl _ | assumption) (quiet_op (by rw [hty]; first | rfl | (refine st_ ?_; rfl))) ?_; refine st_ ?_
      refine h_take 12 rfl (by kernel_rfl) (by kernel_rfl) (by kernel_rfl) hQp (by rw [hnt]; rfl) (allIn (by repeat (first | exact trivial | refine ⟨rfl, ?_⟩))) (by first | exact Le.refl _ | assumption) (quiet_op (by rw [hty]; first | rfl | (refine st_ ?_; rfl))) ?_; refine st_ ?_
      refine h_one 13 rfl (by kernel_rfl) ?_
      refine rn_ ?_; intros
      refine h_hs (allIn (by repeat (first | exact trivial | refine ⟨rfl, ?_⟩))) (by first | exact Le.refl _ | assumption) ?_
      refine h_one 14 rfl (by kernel_rfl) ?_
      refine go_append0 2 (by rw [hnt]; rfl) (by rw [hty]; rfl) (by rw [hty]; rfl) (by decide) rfl rfl rfl rfl (src_own 4 rfl rfl) rfl (by simp [dens, SV.den, Value.oneCell']) (by omega) (by simp only []; omega) ?_
      intro v'
      refine go_rowS 2 rfl ?_
      rintro ad4 cap4 rfl
      refine rn_ ?_; intros
      refine h_hs (allIn (by repeat (first | exact trivial | refine ⟨rfl, ?_⟩))) (by first | exact Le.refl _ | assumption) ?_
      refine h_take 15 rfl (by kernel_rfl) (by kernel_rfl) (by kernel_rfl) hQp (by rw [hnt]; rfl) (allIn (by repeat (first | exact trivial | refine ⟨rfl, ?_⟩))) (by first | exact Le.refl _ | assumption) (quiet_op (by rw [hty]; first | rfl | (refine st_ ?_; rfl))) ?_; refine st_ ?_
      refine h_take 16 rfl (by kernel_rfl) (by kernel_rfl) (by kernel_rfl) hQp (by rw [hnt]; rfl) (allIn (by repeat (first | exact trivial | refine ⟨rfl, ?_⟩))) (by first | exact Le.refl _ | assumption) (quiet_op (by rw [hty]; first | rfl | (refine st_ ?_; rfl))) ?_; refine st_ ?_
      refine h_one 17 rfl (by kernel_rfl) ?_
      refine rn_ ?_; intros
      refine h_hs (allIn (by repeat (first | exact trivial | refine ⟨rfl, ?_⟩))) (by first | exact Le.refl _ | assumption) ?_
      refine h_end (by kernel_rfl) ?_
      refine rn_ ?_; intros
      refine x_retW rfl hQ hmb hmh hG0 hmub rfl rfl (by rw [hty]; simp only [so, sq, zy, zz, tyE, SO', SQ', opQ, opStore, opAlloc, ev, putS, dOk, cv, SV.cs, SV.one, SV.bool?, eqB, Value.oneCell', ldOwn, binInt, binConst, binBool, binStr, isC, TK.agg, rv, rv1, ldV, resOne, resV, Nat.reduceAdd, Nat.reduceMul, Nat.reduceSub, Nat.reduceLT, Nat.reduceLeDiff, Nat.reduceEqDiff, Nat.reduceBEq, reduceIte, reduceCtorEq, eq_self]; try rfl) rfl rfl (by simp only [enumO]; exact (by repeat (first | exact plain_nil | refine plain_cons (fun _ h => h) ?_))) ?_; simp only [SV.den, resV, dens]
      rw [hcp]
      have e2 : (s.ps ++ [(⟨o.res, (s.vals.length : Int)⟩ : Po)]).length = s.ps.length + 1 := by simp
      exact ⟨_, rfl, ho.r, ho.ok.br, _, _, _, _, _, _, _, by rw [e2], hL, Rp.L_append hM (Rp.L_single ⟨_, rfl, ho.r, ho.ok.br, by simp only [isI64]; omega⟩), hl1, by rw [e2]; omega⟩
    · refine rn_ ?_; intros
      refine h_hs (allIn (by repeat (first | exact trivial | refine ⟨rfl, ?_⟩))) (by first | exact Le.refl _ | assumption) ?_
      refine h_take 11 rfl (by kernel_rfl) (by kernel_rfl) (by kernel_rfl) hQp (by rw [hnt]; rfl) (allIn (by repeat (first | exact trivial | refine ⟨rfl, ?_⟩))) (by first | exact Le.refl _ | assumption) (quiet_op (by rw [hty]; first | rfl | (refine st_ ?_; rfl))) ?_; refine st_ ?_
      refine h_take 12 rfl (by kernel_rfl) (by kernel_rfl) (by kernel_rfl) hQp (by rw [hnt]; rfl) (allIn (by repeat (first | exact trivial | refine ⟨rfl, ?_⟩))) (by first | exact Le.refl _ | assumption) (quiet_op (by rw [hty]; first | rfl | (refine st_ ?_; rfl))) ?_; refine st_ ?_
      refine h_two 4 13 rfl rfl (by kernel_rfl) ?_ ?_
      · refine rn_ ?_; intros
        refine h_hs (allIn (by repeat (first | exact trivial | refine ⟨rfl, ?_⟩))) (by first | exact Le.refl _ | assumption) ?_
        refine h_one 13 rfl (by kernel_rfl) ?_
        refine rn_ ?_; intros
        refine h_hs (allIn (by repeat (first | exact trivial | refine ⟨rfl, ?_⟩))) (by first | exact Le.refl _ | assumption) ?_
        refine h_one 14 rfl (by kernel_rfl) ?_
        refine go_append0 2 (by rw [hnt]; rfl) (by rw [hty]; rfl) (by rw [hty]; rfl) (by decide) rfl rfl rfl rfl (src_own 4 rfl rfl) rfl (by simp [dens, SV.den, Value.oneCell']) (by omega) (by simp only []; omega) ?_
        intro v'
        refine go_rowS 2 rfl ?_
        rintro ad4 cap4 rfl
        refine rn_ ?_; intros
        refine h_hs (allIn (by repeat (first | exact trivial | refine ⟨rfl, ?_⟩))) (by first | exact Le.refl _ | assumption) ?_
        refine h_take 15 rfl (by kernel_rfl) (by kernel_rfl) (by kernel_rfl) hQp (by rw [hnt]; rfl) (allIn (by repeat (first | exact trivial | refine ⟨rfl, ?_⟩))) (by first | exact Le.refl _ | assumption) (quiet_op (by rw [hty]; first | rfl | (refine st_ ?_; rfl))) ?_; refine st_ ?_
        refine h_take 16 rfl (by kernel_rfl) (by kernel_rfl) (by kernel_rfl) hQp (by rw [hnt]; rfl) (allIn (by repeat (first | exact trivial | refine ⟨rfl, ?_⟩))) (by first | exact Le.refl _ | assumption) (quiet_op (by rw [hty]; first | rfl | (refine st_ ?_; rfl))) ?_; refine st_ ?_
        refine h_one 17 rfl (by kernel_rfl) ?_
        refine rn_ ?_; intros
        refine h_hs (allIn (by repeat (first | exact trivial | refine ⟨rfl, ?_⟩))) (by first | exact Le.refl _ | assumption) ?_
        refine h_end (by kernel_rfl) ?_
        refine rn_ ?_; intros
        refine x_retW rfl hQ hmb hmh hG0 hmub rfl rfl (by rw [hty]; simp only [so, sq, zy, zz, tyE, SO', SQ', opQ, opStore, opAlloc, ev, putS, dOk, cv, SV.cs, SV.one, SV.bool?, eqB, Value.oneCell', ldOwn, binInt, binConst, binBool, binStr, isC, TK.agg, rv, rv1, ldV, resOne, resV, Nat.reduceAdd, Nat.reduceMul, Nat.reduceSub, Nat.reduceLT, Nat.reduceLeDiff, Nat.reduceEqDiff, Nat.reduceBEq, reduceIte, reduceCtorEq, eq_self]; try rfl) rfl rfl (by simp only [enumO]; exact (by repeat (first | exact plain_nil | refine plain_cons (fun _ h => h) ?_))) ?_; simp only [SV.den, resV, dens]
        rw [hcp]
        have e2 : (s.ps ++ [(⟨o.res, (s.vals.length : Int)⟩ : Po)]).length = s.ps.length + 1 := by simp
        exact ⟨_, rfl, ho.r, ho.ok.br, _, _, _, _, _, _, _, by rw [e2], hL, Rp.L_append hM (Rp.L_single ⟨_, rfl, ho.r, ho.ok.br, by simp only [isI64]; omega⟩), hl1, by rw [e2]; omega⟩
      · refine rn_ ?_; intros
        refine h_hs (allIn (by repeat (first | exact trivial | refine ⟨rfl, ?_⟩))) (by first | exact Le.refl _ | assumption) ?_
        refine h_one 4 rfl (by kernel_rfl) ?_
        refine rn_ ?_; intros
        refine h_hs (allIn (by repeat (first | exact trivial | refine ⟨rfl, ?_⟩))) (by first | exact Le.refl _ | assumption) ?_
        refine h_one 14 rfl (by kernel_rfl) ?_
        refine go_append0 2 (by rw [hnt]; rfl) (by rw [hty]; rfl) (by rw [hty]; rfl) (by decide) rfl rfl rfl rfl (src_own 4 rfl rfl) rfl (by simp [dens, SV.den, Value.oneCell']) (by omega) (by simp only []; omega) ?_
        intro v'
        refine go_rowS 2 rfl ?_
        rintro ad4 cap4 rfl
        refine rn_ ?_; intros
        refine h_hs (allIn (by repeat (first | exact trivial | refine ⟨rfl, ?_⟩))) (by first | exact Le.refl _ | assumption) ?_
        refine h_take 15 rfl (by kernel_rfl) (by kernel_rfl) (by kernel_rfl) hQp (by rw [hnt]; rfl) (allIn (by repeat (first | exact trivial | refine ⟨rfl, ?_⟩))) (by first | exact Le.refl _ | assumption) (quiet_op (by rw [hty]; first | rfl | (refine st_ ?_; rfl))) ?_; refine st_ ?_
        refine h_take 16 rfl (by kernel_rfl) (by kernel_rfl) (by kernel_rfl) hQp (by rw [hnt]; rfl) (allIn (by repeat (first | exact trivial | refine ⟨rfl, ?_⟩))) (by first | exact Le.refl _ | assumption) (quiet_op (by rw [hty]; first | rfl | (refine st_ ?_; rfl))) ?_; refine st_ ?_
        refine h_one 17 rfl (by kernel_rfl) ?_
        refine rn_ ?_; intros
        refine h_hs (allIn (by repeat (first | exact trivial | refine ⟨rfl, ?_⟩))) (by first | exact Le.refl _ | assumption) ?_
        refine h_end (by kernel_rfl) ?_
        refine rn_ ?_; intros
        refine x_retW rfl hQ hmb hmh hG0 hmub rfl rfl (by rw [hty]; simp only [so, sq, zy, zz, tyE, SO', SQ', opQ, opStore, opAlloc, ev, putS, dOk, cv, SV.cs, SV.one, SV.bool?, eqB, Value.oneCell', ldOwn, binInt, binConst, binBool, binStr, isC, TK.agg, rv, rv1, ldV, resOne, resV, Nat.reduceAdd, Nat.reduceMul, Nat.reduceSub, Nat.reduceLT, Nat.reduceLeDiff, Nat.reduceEqDiff, Nat.reduceBEq, reduceIte, reduceCtorEq, eq_self]; try rfl) rfl rfl (by simp only [enumO]; exact (by repeat (first | exact plain_nil | refine plain_cons (fun _ h => h) ?_))) ?_; simp only [SV.den, resV, dens]
        rw [hcp]
        have e2 : (s.ps ++ [(⟨o.res, (s.vals.length : Int)⟩ : Po)]).length = s.ps.length + 1 := by simp
        exact ⟨_, rfl, ho.r, ho.ok.br, _, _, _, _, _, _, _, by rw [e2], hL, Rp.L_append hM (Rp.L_single ⟨_, rfl, ho.r, ho.ok.br, by simp only [isI64]; omega⟩), hl1, by rw [e2]; omega⟩
  have hk0' : ¬ o.kd = 0 := by simpa using hk0
  refine rn_ ?_; intros
  refine x_split rfl rfl rfl (fun hk => ?_) (fun hk => ?_) <;> (refine st_ ?_; (refine ru_ ?_; intros))
  · have hk' : o.kd = 1 := by simpa using hk
    refine rn_ ?_; intros
    refine x_held [(3, b3, .c 40 [.v (.int .i64 o.th), .v (.int .i64 o.kd), .v (.int .i64 o.arg.k), .v (.int .i64 o.arg.n), .v (.slice ada o.arg.l.length capa), .v (.int .i64 o.res.k), .v (.int .i64 o.res.n), .v (.slice adr o.res.l.length capr), .v (.int .i64 o.fr), .v (.int .i64 o.to), .v (.bool o.dn)])] rfl (by rw [hP]; kernel_rfl) rfl rfl rfl ?_; refine st_ ?_
    refine h_take 0 rfl (by kernel_rfl) (by kernel_rfl) (by kernel_rfl) hQp (by rw [hnt]; rfl) (allIn (by repeat (first | exact trivial | refine ⟨rfl, ?_⟩))) (by first | exact Le.refl _ | assumption) (quiet_op (by rw [hty]; first | rfl | (refine st_ ?_; rfl))) ?_; refine st_ ?_
    refine h_take 1 rfl (by kernel_rfl) (by kernel_rfl) (by kernel_rfl) hQp (by rw [hnt]; rfl) (allIn (by repeat (first | exact trivial | refine ⟨rfl, ?_⟩))) (by first | exact Le.refl _ | assumption) (quiet_op (by rw [hty]; first | rfl | (refine st_ ?_; rfl))) ?_; refine st_ ?_
    refine h_take 2 rfl (by kernel_rfl) (by kernel_rfl) (by kernel_rfl) hQp (by rw [hnt]; rfl) (allIn (by repeat (first | exact trivial | refine ⟨rfl, ?_⟩))) (by first | exact Le.refl _ | assumption) (quiet_op (by rw [hty]; first | rfl | (refine st_ ?_; rfl))) ?_; refine st_ ?_
    refine h_take 4 rfl (by kernel_rfl) (by kernel_rfl) (by kernel_rfl) hQp (by rw [hnt]; rfl) (allIn (by repeat (first | exact trivial | refine ⟨rfl, ?_⟩))) (by first | exact Le.refl _ | assumption) (quiet_op (by rw [hty]; first | rfl | (refine st_ ?_; rfl))) ?_; refine st_ ?_
    refine h_take 5 rfl (by kernel_rfl) (by kernel_rfl) (by kernel_rfl) hQp (by rw [hnt]; rfl) (allIn (by repeat (first | exact trivial | refine ⟨rfl, ?_⟩))) (by first | exact Le.refl _ | assumption) (quiet_op (by rw [hty]; first | rfl | (refine st_ ?_; rfl))) ?_; refine st_ ?_
    have hfix : ∀ z c : List Value, z.length = 3 → c.length = 3 → (xs ++ z).take (s.vals.length * 3) ++ c ++ (xs ++ z).drop (s.vals.length * 3 + c.length) = xs ++ c := fun z c h1 h2 => by
      rw [← hxl, List.take_left, List.drop_eq_nil_of_le (by simp; omega), List.append_nil]
    refine h_two 3 7 rfl rfl (by kernel_rfl) ?_ ?_
    · refine rn_ ?_; intros
      refine h_hs (allIn (by repeat (first | exact trivial | refine ⟨rfl, ?_⟩))) (by first | exact Le.refl _ | assumption) ?_
      refine h_take 6 rfl (by kernel_rfl) (by kernel_rfl) (by kernel_rfl) hQp (by rw [hnt]; rfl) (allIn (by repeat (first | exact trivial | refine ⟨rfl, ?_⟩))) (by first | exact Le.refl _ | assumption) (quiet_op (by rw [hty]; first | rfl | (refine st_ ?_; rfl))) ?_; refine st_ ?_
      refine h_one 7 rfl (by kernel_rfl) ?_
      refine rn_ ?_; intros
      refine h_hs (allIn (by repeat (first | exact trivial | refine ⟨rfl, ?_⟩))) (by first | exact Le.refl _ | assumption) ?_
      refine h_one 8 rfl (by kernel_rfl) ?_
      refine go_qapp 1 (by rw [hnt]; rfl) (by rw [hty]; rfl) (by rw [hty]; rfl) (by decide) rfl rfl rfl hGl rfl (src_own 3 rfl rfl) rfl (by simp [dens, SV.den, Value.oneCell']) (by omega) (by simp only []; omega) ?_
      intro g off cap cur hqs hcap
      refine rn_ ?_; intros
      refine h_hs (allIn (by repeat (first | exact trivial | refine ⟨rfl, ?_⟩))) (by first | exact Le.refl _ | assumption) ?_
      refine h_take 9 rfl (by kernel_rfl) (by kernel_rfl) (by kernel_rfl) hQp (by rw [hnt]; rfl) (allIn (by repeat (first | exact trivial | refine ⟨rfl, ?_⟩))) (by first | exact Le.refl _ | assumption) (x := .v (.pointer (some ⟨g, off + s.vals.length * 3, none⟩))) ((quiet_index (by rw [hty]; rfl) (by rw [hty]; rfl) rfl rfl rfl (by omega) (by omega)).cast rfl) ?_
      refine st_ ?_
      refine h_take 11 rfl (by kernel_rfl) (by kernel_rfl) (by kernel_rfl) hQp (by rw [hnt]; rfl) (allIn (by repeat (first | exact trivial | refine ⟨rfl, ?_⟩))) (by first | exact Le.refl _ | assumption) (quiet_op (by rw [hty]; first | rfl | (refine st_ ?_; rfl))) ?_; refine st_ ?_
      refine h_take 12 rfl (by kernel_rfl) (by kernel_rfl) (by kernel_rfl) hQp (by rw [hnt]; rfl) (allIn (by repeat (first | exact trivial | refine ⟨rfl, ?_⟩))) (by first | exact Le.refl _ | assumption) (quiet_op (by rw [hty]; first | rfl | (refine st_ ?_; rfl))) ?_; refine st_ ?_
      refine h_two 10 13 rfl rfl (by kernel_rfl) ?_ ?_
      · refine go_storeQ 1 (m := s.vals.length * 3) (by rw [hnt]; rfl) (by rw [hty]; rfl) rfl rfl rfl rfl rfl rfl hqs rfl (by simp [dens]; omega) ?_
        intro cur' hqs'
        refine rn_ ?_; intros
        refine h_hs (allIn (by repeat (first | exact trivial | refine ⟨rfl, ?_⟩))) (by first | exact Le.refl _ | assumption) ?_
        refine h_one 13 rfl (by kernel_rfl) ?_
        refine rn_ ?_; intros
        refine h_hs (allIn (by repeat (first | exact trivial | refine ⟨rfl, ?_⟩))) (by first | exact Le.refl _ | assumption) ?_
        refine h_end (by kernel_rfl) ?_
        rw [hfix _ _ rfl rfl] at hqs'
        refine go_qthing (G0 := G0) (n := s.vals.length + 1) 1 rfl hqs' (by simp [dens]; omega) hcap ?_
        intro Z' bz'
        refine st_ ?_
        refine rn_ ?_; intros
        refine go_callf (by rw [hnt]; rfl) (by rw [hP]; kernel_rfl) rfl (hP ▸ unit_ok _) ?_; refine rn_ ?_; intros
        refine x_retW rfl hQ hmb hmh hG0 hmub rfl rfl (by rw [hty]; simp only [so, sq, zy, zz, tyE, SO', SQ', opQ, opStore, opAlloc, ev, putS, dOk, cv, SV.cs, SV.one, SV.bool?, eqB, Value.oneCell', ldOwn, binInt, binConst, binBool, binStr, isC, TK.agg, rv, rv1, ldV, resOne, resV, Nat.reduceAdd, Nat.reduceMul, Nat.reduceSub, Nat.reduceLT, Nat.reduceLeDiff, Nat.reduceEqDiff, Nat.reduceBEq, reduceIte, reduceCtorEq, eq_self]; try rfl) rfl rfl (by simp only [enumO]; exact (by repeat (first | exact plain_nil | refine plain_cons (fun _ h => h) ?_))) ?_; simp only [SV.den, resV, dens]
        have e : castP s o = (⟨s.vals ++ [o.arg], s.ps⟩, unitV, true) := by rw [castP, if_neg hk0', if_pos hk']
        rw [e]
        have e2 : (s.vals ++ [o.arg]).length = s.vals.length + 1 := by simp
        exact ⟨_, rfl, rep_leaf _ 1 0 (by simp [isI64]) (by simp [isI64]), by simp [unitV, tsz, tszL], _, _, _, _, _, _, _, by rw [e2], Rp.L_append hL (Rp.L_single ⟨_, rfl, ho.a, ho.ok.ba⟩), hM, by rw [e2]; omega, hl2⟩
      · refine rn_ ?_; intros
        refine h_hs (allIn (by repeat (first | exact trivial | refine ⟨rfl, ?_⟩))) (by first | exact Le.refl _ | assumption) ?_
        refine h_one 10 rfl (by kernel_rfl) ?_
        refine go_storeQ 1 (m := s.vals.length * 3) (by rw [hnt]; rfl) (by rw [hty]; rfl) rfl rfl rfl rfl rfl rfl hqs rfl (by simp [dens]; omega) ?_
        intro cur' hqs'
        refine rn_ ?_; intros
        refine h_hs (allIn (by repeat (first | exact trivial | refine ⟨rfl, ?_⟩))) (by first | exact Le.refl _ | assumption) ?_
        refine h_end (by kernel_rfl) ?_
        rw [hfix _ _ rfl rfl] at hqs'
        refine go_qthing (G0 := G0) (n := s.vals.length + 1) 1 rfl hqs' (by simp [dens]; omega) hcap ?_
        intro Z' bz'
        refine st_ ?_
        refine rn_ ?_; intros
        refine go_callf (by rw [hnt]; rfl) (by rw [hP]; kernel_rfl) rfl (hP ▸ unit_ok _) ?_; refine rn_ ?_; intros
        refine x_retW rfl hQ hmb hmh hG0 hmub rfl rfl (by rw [hty]; simp only [so, sq, zy, zz, tyE, SO', SQ', opQ, opStore, opAlloc, ev, putS, dOk, cv, SV.cs, SV.one, SV.bool?, eqB, Value.oneCell', ldOwn, binInt, binConst, binBool, binStr, isC, TK.agg, rv, rv1, ldV, resOne, resV, Nat.reduceAdd, Nat.reduceMul, Nat.reduceSub, Nat.reduceLT, Nat.reduceLeDiff, Nat.reduceEqDiff, Nat.reduceBEq, reduceIte, reduceCtorEq, eq_self]; try rfl) rfl rfl (by simp only [enumO]; exact (by repeat (first | exact plain_nil | refine plain_cons (fun _ h => h) ?_))) ?_; simp only [SV.den, resV, dens]
        have e : castP s o = (⟨s.vals ++ [o.arg], s.ps⟩, unitV, true) := by rw [castP, if_neg hk0', if_pos hk']
        rw [e]
        have e2 : (s.vals ++ [o.arg]).length = s.vals.length + 1 := by simp
        exact ⟨_, rfl, rep_leaf _ 1 0 (by simp [isI64]) (by simp [isI64]), by simp [unitV, tsz, tszL], _, _, _, _, _, _, _, by rw [e2], Rp.L_append hL (Rp.L_single ⟨_, rfl, ho.a, ho.ok.ba⟩), hM, by rw [e2]; omega, hl2⟩
    · refine rn_ ?_; intros
      refine h_hs (allIn (by repeat (first | exact trivial | refine ⟨rfl, ?_⟩))) (by first | exact Le.refl _ | assumption) ?_
      refine h_one 3 rfl (by kernel_rfl) ?_
      refine rn_ ?_; intros
      refine h_hs (allIn (by repeat (first | exact trivial | refine ⟨rfl, ?_⟩))) (by first | exact Le.refl _ | assumption) ?_
      refine h_take 6 rfl (by kernel_rfl) (by kernel_rfl) (by kernel_rfl) hQp (by rw [hnt]; rfl) (allIn (by repeat (first | exact trivial | refine ⟨rfl, ?_⟩))) (by first | exact Le.refl _ | assumption) (quiet_op (by rw [hty]; first | rfl | (refine st_ ?_; rfl))) ?_; refine st_ ?_
      refine h_one 8 rfl (by kernel_rfl) ?_
      refine go_qapp 1 (by rw [hnt]; rfl) (by rw [hty]; rfl) (by rw [hty]; rfl) (by decide) rfl rfl rfl hGl rfl (src_own 3 rfl rfl) rfl (by simp [dens, SV.den, Value.oneCell']) (by omega) (by simp only []; omega) ?_
      intro g off cap cur hqs hcap
      refine rn_ ?_; intros
      refine h_hs (allIn (by repeat (first | exact trivial | refine ⟨rfl, ?_⟩))) (by first | exact Le.refl _ | assumption) ?_
      refine h_take 9 rfl (by kernel_rfl) (by kernel_rfl) (by kernel_rfl) hQp (by rw [hnt]; rfl) (allIn (by repeat (first | exact trivial | refine ⟨rfl, ?_⟩))) (by first | exact Le.refl _ | assumption) (x := .v (.pointer (some ⟨g, off + s.vals.length * 3, none⟩))) ((quiet_index (by rw [hty]; rfl) (by rw [hty]; rfl) rfl rfl rfl (by omega) (by omega)).cast rfl) ?_
      refine st_ ?_
      refine h_take 11 rfl (by kernel_rfl) (by kernel_rfl) (by kernel_rfl) hQp (by rw [hnt]; rfl) (allIn (by repeat (first | exact trivial | refine ⟨rfl, ?_⟩))) (by first | exact Le.refl _ | assumption) (quiet_op (by rw [hty]; first | rfl | (refine st_ ?_; rfl))) ?_; refine st_ ?_
      refine h_take 12 rfl (by kernel_rfl) (by kernel_rfl) (by kernel_rfl) hQp (by rw [hnt]; rfl) (allIn (by repeat (first | exact trivial | refine ⟨rfl, ?_⟩))) (by first | exact Le.refl _ | assumption) (quiet_op (by rw [hty]; first | rfl | (refine st_ ?_; rfl))) ?_; refine st_ ?_
      refine h_two 10 13 rfl rfl (by kernel_rfl) ?_ ?_
      · refine go_storeQ 1 (m := s.vals.length * 3) (by rw [hnt]; rfl) (by rw [hty]; rfl) rfl rfl rfl rfl rfl rfl hqs rfl (by simp [dens]; omega) ?_
        intro cur' hqs'
        refine rn_ ?_; intros
        refine h_hs (allIn (by repeat (first | exact trivial | refine ⟨rfl, ?_⟩))) (by first | exact Le.refl _ | assumption) ?_
        refine h_one 13 rfl (by kernel_rfl) ?_
        refine rn_ ?_; intros
        refine h_hs (allIn (by repeat (first | exact trivial | refine ⟨rfl, ?_⟩))) (by first | exact Le.refl _ | assumption) ?_
        refine h_end (by kernel_rfl) ?_
        rw [hfix _ _ rfl rfl] at hqs'
        refine go_qthing (G0 := G0) (n := s.vals.length + 1) 1 rfl hqs' (by simp [dens]; omega) hcap ?_
        intro Z' bz'
        refine st_ ?_
        refine rn_ ?_; intros
        refine go_callf (by rw [hnt]; rfl) (by rw [hP]; kernel_rfl) rfl (hP ▸ unit_ok _) ?_; refine rn_ ?_; intros
        refine x_retW rfl hQ hmb hmh hG0 hmub rfl rfl (by rw [hty]; simp only [so, sq, zy, zz, tyE, SO', SQ', opQ, opStore, opAlloc, ev, putS, dOk, cv, SV.cs, SV.one, SV.bool?, eqB, Value.oneCell', ldOwn, binInt, binConst, binBool, binStr, isC, TK.agg, rv, rv1, ldV, resOne, resV, Nat.reduceAdd, Nat.reduceMul, Nat.reduceSub, Nat.reduceLT, Nat.reduceLeDiff, Nat.reduceEqDiff, Nat.reduceBEq, reduceIte, reduceCtorEq, eq_self]; try rfl) rfl rfl (by simp only [enumO]; exact (by repeat (first | exact plain_nil | refine plain_cons (fun _ h => h) ?_))) ?_; simp only [SV.den, resV, dens]
        have e : castP s o = (⟨s.vals ++ [o.arg], s.ps⟩, unitV, true) := by rw [castP, if_neg hk0', if_pos hk']
        rw [e]
        have e2 : (s.vals ++ [o.arg]).length = s.vals.length + 1 := by simp
        exact ⟨_, rfl, rep_leaf _ 1 0 (by simp [isI64]) (by simp [isI64]), by simp [unitV, tsz, tszL], _, _, _, _, _, _, _, by rw [e2], Rp.L_append hL (Rp.L_single ⟨_, rfl, ho.a, ho.ok.ba⟩), hM, by rw [e2]; omega, hl2⟩
      · refine rn_ ?_; intros
        refine h_hs (allIn (by repeat (first | exact trivial | refine ⟨rfl, ?_⟩))) (by first | exact Le.refl _ | assumption) ?_
        refine h_one 10 rfl (by kernel_rfl) ?_
        refine go_storeQ 1 (m := s.vals.length * 3) (by rw [hnt]; rfl) (by rw [hty]; rfl) rfl rfl rfl rfl rfl rfl hqs rfl (by simp [dens]; omega) ?_
        intro cur' hqs'
        refine rn_ ?_; intros
        refine h_hs (allIn (by repeat (first | exact trivial | refine ⟨rfl, ?_⟩))) (by first | exact Le.refl _ | assumption) ?_
        refine h_end (by kernel_rfl) ?_
        rw [hfix _ _ rfl rfl] at hqs'
        refine go_qthing (G0 := G0) (n := s.vals.length + 1) 1 rfl hqs' (by simp [dens]; omega) hcap ?_
        intro Z' bz'
        refine st_ ?_
        refine rn_ ?_; intros
        refine go_callf (by rw [hnt]; rfl) (by rw [hP]; kernel_rfl) rfl (hP ▸ unit_ok _) ?_; refine rn_ ?_; intros
        refine x_retW rfl hQ hmb hmh hG0 hmub rfl rfl (by rw [hty]; simp only [so, sq, zy, zz, tyE, SO', SQ', opQ, opStore, opAlloc, ev, putS, dOk, cv, SV.cs, SV.one, SV.bool?, eqB, Value.oneCell', ldOwn, binInt, binConst, binBool, binStr, isC, TK.agg, rv, rv1, ldV, resOne, resV, Nat.reduceAdd, Nat.reduceMul, Nat.reduceSub, Nat.reduceLT, Nat.reduceLeDiff, Nat.reduceEqDiff, Nat.reduceBEq, reduceIte, reduceCtorEq, eq_self]; try rfl) rfl rfl (by simp only [enumO]; exact (by repeat (first | exact plain_nil | refine plain_cons (fun _ h => h) ?_))) ?_; simp only [SV.den, resV, dens]
        have e : castP s o = (⟨s.vals ++ [o.arg], s.ps⟩, unitV, true) := by rw [castP, if_neg hk0', if_pos hk']
        rw [e]
        have e2 : (s.vals ++ [o.arg]).length = s.vals.length + 1 := by simp
        exact ⟨_, rfl, rep_leaf _ 1 0 (by simp [isI64]) (by simp [isI64]), by simp [unitV, tsz, tszL], _, _, _, _, _, _, _, by rw [e2], Rp.L_append hL (Rp.L_single ⟨_, rfl, ho.a, ho.ok.ba⟩), hM, by rw [e2]; omega, hl2⟩
  have hk' : ¬ o.kd = 1 := by simpa using hk
  refine rn_ ?_; intros
  refine go_lendRC rPo 2 0 (by rw [hnt]; rfl) (by rw [hP]; kernel_rfl) rfl rfl rfl (by omega) hM rfl (fun G1 hle hS hat => by rw [hP]; exact port_ok s.ps o.arg b _ _ _ G1 (by simpa [dens, SV.den] using hat) hS (VT.rep_mono hle ho.a)) ?_
  refine rn_ ?_; intros
  refine x_draw rfl (by rw [hP]; kernel_rfl) rfl (by kernel_rfl) ?_
  refine runq 400 hty hnt ?_; refine st_ ?_
  refine go_qsplit rfl rfl (fun hni => ?_) (fun hni => ?_) <;> (refine st_ ?_; (try (refine runq 400 hty hnt ?_; refine st_ ?_)))
  · have e : castP s o = (s, noneV, false) := by
      rw [castP, if_neg hk0', if_neg hk']
      simp at hni
      rw [hni]
    repeat (refine q_gundef rfl (by rw [hnt]; rfl) rfl ?_; (refine st_ ?_; (try (refine runq 400 hty hnt ?_; refine st_ ?_))))
    refine q_end ?_; refine rn_ ?_; intros
    refine rn_ ?_; intros
    refine x_retW rfl hQ hmb hmh hG0 hmub rfl rfl (by rw [hty]; simp only [so, sq, zy, zz, tyE, SO', SQ', opQ, opStore, opAlloc, ev, putS, dOk, cv, SV.cs, SV.one, SV.bool?, eqB, Value.oneCell', ldOwn, binInt, binConst, binBool, binStr, isC, TK.agg, rv, rv1, ldV, resOne, resV, Nat.reduceAdd, Nat.reduceMul, Nat.reduceSub, Nat.reduceLT, Nat.reduceLeDiff, Nat.reduceEqDiff, Nat.reduceBEq, reduceIte, reduceCtorEq, eq_self]; try rfl) rfl rfl (by simp only [enumO]; exact (by repeat (first | exact plain_nil | refine plain_cons (fun _ h => h) ?_))) ?_; simp only [SV.den, resV, dens]
    rw [e]
    exact ⟨_, rfl, rep_leaf _ 0 0 (by simp [isI64]) (by simp [isI64]), by simp [noneV, tsz, tszL], _, _, _, _, _, _, _, rfl, hL, hM, hl1, hl2⟩
  obtain ⟨i, hpi⟩ : ∃ i, pix o.arg s.ps 0 = some i := by
    simp at hni
    exact Option.isSome_iff_exists.1 hni
  have hi := (pix_lt hpi).2
  rw [Nat.zero_add] at hi
  obtain ⟨c, hc1, sl, rfl, hrp, hbp, h64⟩ := Rp.L_get hM hi
  simp only [rPo] at hc1
  obtain ⟨hd1, htk, hm4⟩ := cut4 hc1
  have hwfi := hwf _ (List.getElem_mem hi)
  have hgd : s.ps.getD i ⟨noneV, 0⟩ = s.ps[i] := by rw [List.getD_eq_getElem?_getD, List.getElem?_eq_getElem hi]; rfl
  obtain ⟨g, rfl⟩ : ∃ g, adp = some ⟨g, 0, none⟩ := by
    rcases hposp with ⟨h0, _⟩ | h0
    · rw [h0] at hm4; simp at hm4
    · exact h0
  rw [hpi]
  simp only [Option.getD_some]
  have hcs : castP s o = if (s.vals.length : Int) ≤ s.ps[i].pt then (s, noneV, false) else (⟨s.vals, s.ps.set i ⟨s.ps[i].nm, s.ps[i].pt + 1⟩⟩, s.vals.getD s.ps[i].pt.toNat noneV, true) := by
    rw [castP, if_neg hk0', if_neg hk', hpi]; simp only [hgd]
  refine runq 400 hty hnt ?_; refine st_ ?_
  refine q_q (by rw [hnt]; rfl) (quiet_index (by rw [hty]; rfl) (by rw [hty]; rfl) rfl rfl rfl (by omega) (by omega)) ?_; refine runq 400 hty hnt ?_; refine st_ ?_
  refine q_q (v := .int .i64 s.ps[i].pt) (by rw [hnt]; rfl) ((quiet_loadR (k := 2) (by rw [hty]; rfl) rfl (by simp [TK.agg]) rfl (by simp; omega)).cast (by simp only [ldV, Nat.zero_add, Int.toNat_natCast]; rw [hd1]; rfl)) ?_
  refine runq 400 hty hnt ?_; refine st_ ?_
  refine q_end ?_; refine rn_ ?_; intros
  refine x_split rfl rfl rfl (fun hge => ?_) (fun hge => ?_) <;> (refine st_ ?_; (refine ru_ ?_; intros))
  · have hge' := of_decide_eq_true hge
    rw [if_pos hge'] at hcs
    refine rn_ ?_; intros
    refine x_retW rfl hQ hmb hmh hG0 hmub rfl rfl (by rw [hty]; simp only [so, sq, zy, zz, tyE, SO', SQ', opQ, opStore, opAlloc, ev, putS, dOk, cv, SV.cs, SV.one, SV.bool?, eqB, Value.oneCell', ldOwn, binInt, binConst, binBool, binStr, isC, TK.agg, rv, rv1, ldV, resOne, resV, Nat.reduceAdd, Nat.reduceMul, Nat.reduceSub, Nat.reduceLT, Nat.reduceLeDiff, Nat.reduceEqDiff, Nat.reduceBEq, reduceIte, reduceCtorEq, eq_self]; try rfl) rfl rfl (by simp only [enumO]; exact (by repeat (first | exact plain_nil | refine plain_cons (fun _ h => h) ?_))) ?_; simp only [SV.den, resV, dens]
    rw [hcs]
    exact ⟨_, rfl, rep_leaf _ 0 0 (by simp [isI64]) (by simp [isI64]), by simp [noneV, tsz, tszL], _, _, _, _, _, _, _, rfl, hL, hM, hl1, hl2⟩
  have hge' := of_decide_eq_false hge
  rw [if_neg hge'] at hcs
  refine rn_ ?_; intros
  refine go_q (by rw [hnt]; rfl) (quiet_index (by rw [hty]; rfl) (by rw [hty]; rfl) rfl rfl rfl (by omega) (by omega)) ?_
  refine rn_ ?_; intros
  refine go_q (v := .int .i64 s.ps[i].pt) (by rw [hnt]; rfl) ((quiet_loadR (k := 2) (by rw [hty]; rfl) rfl (by simp [TK.agg]) rfl (by simp; omega)).cast (by simp only [ldV, Nat.zero_add, Int.toNat_natCast]; rw [hd1]; rfl)) ?_
  refine rn_ ?_; intros
  refine go_q (by rw [hnt]; rfl) (quiet_index (by rw [hty]; rfl) (by rw [hty]; rfl) rfl rfl rfl (by omega) (by omega)) ?_
  refine rn_ ?_; intros
  rw [wr (n := s.ps[i].pt + 1) (by omega) (by omega)]
  have hlay : lay ys (i * 4 + 3) (dens [.v (.int .i64 (s.ps[i].pt + 1))]) = some (ys.take (i * 4) ++ [.int .i64 s.ps[i].nm.k, .int .i64 s.ps[i].nm.n, sl, .int .i64 (s.ps[i].pt + 1)] ++ ys.drop (i * 4 + 4)) := by
    simp only [dens, SV.den]
    rw [lay_put (by simp; omega), htk]
    simp
  refine go_storeR 2 (by rw [hnt]; rfl) (by rw [hty]; rfl) rfl rfl rfl rfl rfl rfl hlay ?_
  refine rn_ ?_; intros
  refine go_keep [0, 4, 8] [0, 1, 2, 4] ?_
  refine st_ ?_
  have hMs : rPo.L G (s.ps.set i ⟨s.ps[i].nm, s.ps[i].pt + 1⟩) (ys.take (i * 4) ++ [.int .i64 s.ps[i].nm.k, .int .i64 s.ps[i].nm.n, sl, .int .i64 (s.ps[i].pt + 1)] ++ ys.drop (i * 4 + 4)) :=
    Rp.L_set (r := rPo) hM ⟨sl, rfl, hrp, hbp, by simp only [isI64]; omega⟩ hi
  have hd2 : ((ys.take (i * 4) ++ [.int .i64 s.ps[i].nm.k, .int .i64 s.ps[i].nm.n, sl, .int .i64 (s.ps[i].pt + 1)] ++ ys.drop (i * 4 + 4)).drop (i * 4 + 3)).take 1 = [.int .i64 (s.ps[i].pt + 1)] := by
    have h0 : (ys.take (i * 4)).length = i * 4 := by simp; omega
    rw [List.append_assoc, List.drop_append, List.drop_eq_nil_of_le (by omega), h0, Nat.add_sub_cancel_left, List.nil_append]
    simp
  have hl4 : (ys.take (i * 4) ++ [.int .i64 s.ps[i].nm.k, .int .i64 s.ps[i].nm.n, sl, .int .i64 (s.ps[i].pt + 1)] ++ ys.drop (i * 4 + 4)).length = ys.length := by simp; omega
  generalize ys.take (i * 4) ++ [.int .i64 s.ps[i].nm.k, .int .i64 s.ps[i].nm.n, sl, .int .i64 (s.ps[i].pt + 1)] ++ ys.drop (i * 4 + 4) = zs at *
  obtain ⟨p, hpe⟩ : ∃ p : Nat, s.ps[i].pt = p := ⟨s.ps[i].pt.toNat, by omega⟩
  have hpl : p < s.vals.length := by omega
  rw [hpe] at hcs hMs hd2 hlay hge'
  try simp only [hpe]
  obtain ⟨cv1, hv1, slv, rfl, hrv, hbv⟩ := Rp.L_get hL hpl
  simp only [rV] at hv1
  obtain ⟨asv, csv, rfl⟩ := VT.rep_slice hrv
  obtain ⟨c2, off, rfl⟩ := hpos (by omega)
  have hv3 : p * 3 + 3 ≤ xs.length := by
    have := congrArg List.length hv1
    simp at this
    omega
  have hgv : s.vals.getD ((p : Int)).toNat noneV = s.vals[p] := by rw [Int.toNat_natCast, List.getD_eq_getElem?_getD, List.getElem?_eq_getElem hpl]; rfl
  rw [hgv] at hcs
  refine x_held [(0, b, .c 44 [.v (.slice (some ⟨c2, off, none⟩) s.vals.length capv), .v (.slice (some ⟨g, 0, none⟩) s.ps.length capp)]), (1, bz, .z (ZQ G0 28 3 (.slice (some ⟨c2, off, none⟩) s.vals.length capv) s.vals.length xs) Z Z), (2, b2, .row (.slice (some ⟨g, 0, none⟩) s.ps.length capp) 55 4 s.ps.length zs)] rfl (by rw [hP]; kernel_rfl) rfl rfl rfl ?_; refine st_ ?_
  refine h_take 0 rfl (by kernel_rfl) (by kernel_rfl) (by kernel_rfl) hQp (by rw [hnt]; rfl) (allIn (by repeat (first | exact trivial | refine ⟨rfl, ?_⟩))) (by first | exact Le.refl _ | assumption) (quiet_op (by rw [hty]; first | rfl | (refine st_ ?_; rfl))) ?_; refine st_ ?_
  refine h_take 1 rfl (by kernel_rfl) (by kernel_rfl) (by kernel_rfl) hQp (by rw [hnt]; rfl) (allIn (by repeat (first | exact trivial | refine ⟨rfl, ?_⟩))) (by first | exact Le.refl _ | assumption) (quiet_op (by rw [hty]; first | rfl | (refine st_ ?_; rfl))) ?_; refine st_ ?_
  refine h_take 2 rfl (by kernel_rfl) (by kernel_rfl) (by kernel_rfl) hQp (by rw [hnt]; rfl) (allIn (by repeat (first | exact trivial | refine ⟨rfl, ?_⟩))) (by first | exact Le.refl _ | assumption) (quiet_op (by rw [hty]; first | rfl | (refine st_ ?_; rfl))) ?_; refine st_ ?_
  refine h_take 3 rfl (by kernel_rfl) (by kernel_rfl) (by kernel_rfl) hQp (by rw [hnt]; rfl) (allIn (by repeat (first | exact trivial | refine ⟨rfl, ?_⟩))) (by first | exact Le.refl _ | assumption) (quiet_op (by rw [hty]; first | rfl | (refine st_ ?_; rfl))) ?_; refine st_ ?_
  refine h_take 4 rfl (by kernel_rfl) (by kernel_rfl) (by kernel_rfl) hQp (by rw [hnt]; rfl) (allIn (by repeat (first | exact trivial | refine ⟨rfl, ?_⟩))) (by first | exact Le.refl _ | assumption) (quiet_op (by rw [hty]; first | rfl | (refine st_ ?_; rfl))) ?_; refine st_ ?_
  refine h_take 5 rfl (by kernel_rfl) (by kernel_rfl) (by kernel_rfl) hQp (by rw [hnt]; rfl) (allIn (by repeat (first | exact trivial | refine ⟨rfl, ?_⟩))) (by first | exact Le.refl _ | assumption) (quiet_op (by rw [hty]; first | rfl | (refine st_ ?_; rfl))) ?_; refine st_ ?_
  refine h_take 6 rfl (by kernel_rfl) (by kernel_rfl) (by kernel_rfl) hQp (by rw [hnt]; rfl) (allIn (by repeat (first | exact trivial | refine ⟨rfl, ?_⟩))) (by first | exact Le.refl _ | assumption) (quiet_op (by rw [hty]; first | rfl | (refine st_ ?_; rfl))) ?_; refine st_ ?_
  refine h_take 7 rfl (by kernel_rfl) (by kernel_rfl) (by kernel_rfl) hQp (by rw [hnt]; rfl) (allIn (by repeat (first | exact trivial | refine ⟨rfl, ?_⟩))) (by first | exact Le.refl _ | assumption) (quiet_op (by rw [hty]; first | rfl | (refine st_ ?_; rfl))) ?_; refine st_ ?_
  refine h_take 8 rfl (by kernel_rfl) (by kernel_rfl) (by kernel_rfl) hQp (by rw [hnt]; rfl) (allIn (by repeat (first | exact trivial | refine ⟨rfl, ?_⟩))) (by first | exact Le.refl _ | assumption) (quiet_op (by rw [hty]; first | rfl | (refine st_ ?_; rfl))) ?_; refine st_ ?_
  refine h_take 9 rfl (by kernel_rfl) (by kernel_rfl) (by kernel_rfl) hQp (by rw [hnt]; rfl) (allIn (by repeat (first | exact trivial | refine ⟨rfl, ?_⟩))) (by first | exact Le.refl _ | assumption) (x := .v (.pointer (some ⟨g, i * 4, none⟩))) ((quiet_index (by rw [hty]; rfl) (by rw [hty]; rfl) rfl rfl rfl (by omega) (by omega)).cast (by simp [SV.den])) ?_
  refine st_ ?_
  refine h_take 10 rfl (by kernel_rfl) (by kernel_rfl) (by kernel_rfl) hQp (by rw [hnt]; rfl) (allIn (by repeat (first | exact trivial | refine ⟨rfl, ?_⟩))) (by first | exact Le.refl _ | assumption) (quiet_op (by rw [hty]; first | rfl | (refine st_ ?_; rfl))) ?_; refine st_ ?_
  refine h_take 11 rfl (by kernel_rfl) (by kernel_rfl) (by kernel_rfl) hQp (by rw [hnt]; rfl) (allIn (by repeat (first | exact trivial | refine ⟨rfl, ?_⟩))) (by first | exact Le.refl _ | assumption) (x := .v (.int .i64 ((p : Int) + 1))) ((quiet_loadR (k := 2) (by rw [hty]; rfl) rfl (by simp [TK.agg]) rfl (by simp; omega)).cast (by simp only [ldV, SV.den]; rw [hd2]; rfl)) ?_
  refine st_ ?_
  refine h_take 12 rfl (by kernel_rfl) (by kernel_rfl) (by kernel_rfl) hQp (by rw [hnt]; rfl) (allIn (by repeat (first | exact trivial | refine ⟨rfl, ?_⟩))) (by first | exact Le.refl _ | assumption) (quiet_op (by rw [hty]; first | rfl | (refine st_ ?_; rfl))) ?_; refine st_ ?_
  rw [wr (n := (p : Int) + 1 - 1) (by omega) (by omega), show (p : Int) + 1 - 1 = p by omega]
  refine h_take 13 rfl (by kernel_rfl) (by kernel_rfl) (by kernel_rfl) hQp (by rw [hnt]; rfl) (allIn (by repeat (first | exact trivial | refine ⟨rfl, ?_⟩))) (by first | exact Le.refl _ | assumption) (x := .v (.pointer (some ⟨c2, off + p * 3, none⟩))) ((quiet_index (by rw [hty]; rfl) (by rw [hty]; rfl) rfl rfl rfl (by omega) (by omega)).cast (by simp [SV.den])) ?_
  refine st_ ?_
  refine h_take 14 rfl (by kernel_rfl) (by kernel_rfl) (by kernel_rfl) hQp (by rw [hnt]; rfl) (allIn (by repeat (first | exact trivial | refine ⟨rfl, ?_⟩))) (by first | exact Le.refl _ | assumption) (x := .a [.v (.int .i64 s.vals[p].k), .v (.int .i64 s.vals[p].n), .v (.slice asv s.vals[p].l.length csv)]) ((quiet_loadQ 1 (m := p * 3) (by rw [hty]; rfl) rfl (by simp [TK.agg]) rfl hGl rfl (by simp; omega) (by simp)).cast (by simp only [ldV, SV.den, dens]; rw [hv1]; rfl)) ?_
  refine st_ ?_
  refine h_one 15 rfl (by kernel_rfl) ?_
  refine rn_ ?_; intros
  refine h_hs (allIn (by repeat (first | exact trivial | refine ⟨rfl, ?_⟩))) (by first | exact Le.refl _ | assumption) ?_
  refine h_take 16 rfl (by kernel_rfl) (by kernel_rfl) (by kernel_rfl) hQp (by rw [hnt]; rfl) (allIn (by repeat (first | exact trivial | refine ⟨rfl, ?_⟩))) (by first | exact Le.refl _ | assumption) (quiet_op (by rw [hty]; first | rfl | (refine st_ ?_; rfl))) ?_; refine st_ ?_
  refine h_end (by kernel_rfl) ?_
  refine rn_ ?_; intros
  refine x_retW rfl hQ hmb hmh hG0 hmub rfl rfl (by rw [hty]; simp only [so, sq, zy, zz, tyE, SO', SQ', opQ, opStore, opAlloc, ev, putS, dOk, cv, SV.cs, SV.one, SV.bool?, eqB, Value.oneCell', ldOwn, binInt, binConst, binBool, binStr, isC, TK.agg, rv, rv1, ldV, resOne, resV, Nat.reduceAdd, Nat.reduceMul, Nat.reduceSub, Nat.reduceLT, Nat.reduceLeDiff, Nat.reduceEqDiff, Nat.reduceBEq, reduceIte, reduceCtorEq, eq_self]; try rfl) rfl rfl (by simp only [enumO]; exact (by repeat (first | exact plain_nil | refine plain_cons (fun _ h => h) ?_))) ?_; simp only [SV.den, resV, dens]
  rw [hcs]
  have e3 : (s.ps.set i ⟨s.ps[i].nm, (p : Int) + 1⟩).length = s.ps.length := List.length_set
  exact ⟨_, rfl, hrv, hbv, _, _, _, _, _, _, _, by rw [e3], hL, hMs, hl1, by rw [e3]; exact hl2⟩
end Go.Proofs.Ytpmmbjcgabnloaa
namespace Go.Sx
set_option linter.unusedSimpArgs false
set_option linter.unusedVariables false
open Go.RowKit
section
variable {C : Ctx} {sl : List (Nat × SV)} {own : Owns} {G : Hp}
theorem iface_meths {P : Program} {T : TypeId} {fl : List (Nat × Nat × Bool)} (h : TK.fits P T fl .iface) : P.underlying T = some (.interface (P.methodsAt T)) := by
  obtain ⟨m, hm⟩ := h
  rw [hm]; simp [Program.methodsAt, hm]
theorem quiet_is {T S : TypeId} {v : Value} {x : Operand} {y : SV} {sz by' : Nat} {ze : List Value} {fl : List (Nat × Nat × Bool)} (hS : C.ty S = some ⟨.strct, sz, by', ze, fl⟩) (hx : ev sl x = some y) (hy : y.den = .iface S v) :
    Quiet C sl own G (.typeAssert x T S true) (.tuple #[v, .bool true]) := by
  intro a w dd t pos aft g hsl hh
  have hxv := ev_ok hsl hx
  rw [hy] at hxv
  obtain ⟨fs, hu, _⟩ := (C.tyok _ _ hS).k
  simp only [execOp, hxv]
  rw [Sem.run_bind]
  simp [Instr.typeAssert, run_underlying hu, Sem.run_bind]
def recOf (u : FrameMode) (v : Value) (u' : FrameMode) : Prop := (u = .returning ∧ v = .nilIface ∧ u' = .returning) ∨ (u = .panicking [pE v] ∧ u' = .panicking [{ v := v, recovered := true }])
theorem x_endW {s : St} {fn : Func} {ow : Lds} {φ : Value → Hp → Lds → Prop} (hQ : C.Q = bodyPost C.P fn (RetW C.w0 G ow φ)) (hmb : ∀ g, g ∈ C.mb → mutOf ow g) {mh : Nat} (hmh : C.mh = mh) (hG : C.G0 = G) (hmub : ∀ g, mutOf ow g → blkOf ow g) (hml : ow.length = mh)
    (hrs : fn.results.toList = []) (hdf : s.df = []) {ow' : Lds} (hp : pickO s.own 0 mh = some ow')
    (hpl : Plain (enumO 0 ow')) (h : ∀ v, φ v s.G ow') : SGo C [] s := by
  intro a w hS
  show C.Q .normal a w
  rw [hQ]
  have hg := hS.mem.grow
  obtain ⟨p1, p2⟩ := pickO_get hp
  have p3 : ∀ {i b o}, ow'[i]? = some (b, o) → lk i s.own = some (b, o) := fun {i b o} e => by simpa using p2 i _ e
  have p4 : ∀ {i b o}, ow'[i]? = some (b, o) → i < mh := fun {i b o} e => by
    rcases Nat.lt_or_ge i ow'.length with q | q
    · omega
    · rw [List.getElem?_eq_none q] at e; cases e
  have p5 : ∀ g, blkOf ow' g → mutOf ow' g := fun g ⟨i, b, o, e, hb⟩ => ⟨i, b, o, e, hpl i b o (by rw [lk_enumO]; simpa using e) g hb⟩
  have p6 : ∀ g, mutOf ow' g → mutOf ow g ∨ C.w0.heap.size ≤ g := fun g ⟨i, b, o, e, hb⟩ => by
    obtain ⟨_, q⟩ := hS.mem.own _ _ _ (p3 e)
    rcases (q g hb).2.2 (by rw [hmh]; exact p4 e) with q | q
    · exact .inl (hmb g q)
    · exact .inr q
  have hres : (results fn a.tmps).run C.P w = .ok (.tuple #[]) w := by
    have : fn.results = #[] := by simpa using hrs
    simp [results, this]
  refine ⟨by rw [hS.df, hdf], _, hres, _, _, ow', rfl, hg.fr, fun g hg1 hg2 => ?_, hg.has, fun b hb => by rw [hg.old b hb, hG], ⟨fun i b o e => ?_, fun i j b b' o o' g e e' f f' => ?_⟩, by omega, fun g q => ?_, p6, h _⟩
  · exact hg.blk g hg1 fun q => hg2 (hmb g q)
  · obtain ⟨q1, q2⟩ := hS.mem.own _ _ _ (p3 e)
    exact ⟨q1, fun g q => (q2 g q).1⟩
  · exact hS.mem.inj _ _ _ _ _ _ g (p3 e) (p3 e') f f'
  · exact (p6 g (p5 g q)).imp (hmub g) id
theorem quiet_slice3 {T e : TypeId} {x hi mx : Operand} {te : TI} {sz by' : Nat} {ze : List Value} {fl : List (Nat × Nat × Bool)} {ad : Option Addr} {len cap : Nat} {k k' : IntKind} {m : Int} {y : SV}
    (hT : C.ty T = some ⟨.slice e, sz, by', ze, fl⟩) (he : C.ty e = some te) (hx : ev sl x = some y) (hy : y.den = .slice ad len cap) (hi1 : ev sl hi = some (.v (.int k m))) (hi2 : ev sl mx = some (.v (.int k' m))) (h0 : 0 ≤ m) (h2 : m ≤ (cap : Int)) :
    Quiet C sl own G (.slice T x none (some hi) (some mx)) (sliced ad m.toNat 0 m.toNat te.size) := by
  intro a w d t pos aft g hs hh
  have hxv := ev_ok hs hx
  have hiv1 := ev_ok hs hi1
  have hiv2 := ev_ok hs hi2
  rw [hy] at hxv
  simp only [SV.den] at hiv1 hiv2
  have g1 := (C.tyok _ _ hT).k
  simp only [TK.fits] at g1
  simp only [execOp, hxv, hiv1, hiv2, Option.map_some, Option.map_none, Instr.sliceAt, Instr.slice, Instr.sliceBounds, Sem.run_bind, run_und w g1, Result.andThen_ok, Sem.run_pure, sliceBound_ok (y := cap) h0 h2, sliceBound_ok (y := m.toNat) h0 (show m ≤ (m.toNat : Int) by omega), run_size w (C.tyok _ _ he), sliced]
def QPd (C : Ctx) (d : Option Tmp) : Prop := ∀ c (a : Act) w v, C.Q (.panic c) (a.put d v) w → C.Q (.panic c) a w
theorem leavesIn_tmps {F : Fence} {n : Nat} {P : Program} {fn : Func} {tmps tmps' : Array Value} {Rr : Ending → World → Prop} (h : results fn tmps = results fn tmps') : ∀ (ds : List Deferred) (u : FrameMode) (w : World), LeavesIn F n P fn tmps Rr ds u w → LeavesIn F n P fn tmps' Rr ds u w
  | [], .returning, w, hh => by simpa only [LeavesIn, h] using hh
  | [], .panicking _, w, hh => hh
  | [], .run, w, hh => hh.elim
  | d :: ds, u, w, hh => by
    obtain ⟨q1, q2, fv, cap, f, args, r1, r2, r3, r4⟩ := hh
    refine ⟨q1, q2, fv, cap, f, args, r1, r2, r3, r4.mono fun e u' w' he => ?_⟩
    cases e with
    | returned v => exact leavesIn_tmps h ds _ _ he
    | panicked c => exact leavesIn_tmps h ds _ _ he
    | outgrown => exact he
theorem qpd_bodyD {fn : Func} {Rr : Ending → World → Prop} (hQ : C.Q = bodyPostDIn Fence.wide 0 C.P fn Rr) {d : Nat} (h : ∀ (tmps : Array Value) v, results fn (tmps.setIfInBounds d v) = results fn tmps) : QPd C (some d) := by
  intro c a w v hp
  rw [hQ] at hp ⊢
  exact leavesIn_tmps (h _ _) _ _ _ hp
theorem h_takeD {K : List KI} {s : St} {R : Array Oper} {d : Option Tmp} {t : TypeId} {pos : String} {aft : Array Edge} (i : Nat) {own0 : List (Nat × Nat × OO)} {G0 : Hp} {n : Nat} {listed : Array Bool} {op : Op} {x : SV} (hi : R[i]? = some ⟨d, op, t, pos, aft, none⟩) (hs : Region.noSelect R = true) (hf : Region.free .any R listed i = true)
    (hr : (Region.ready .any R listed).contains i = true) (hQ : QPd C d) (hd : dOk C.nt d = true) (ho : ∀ j y, lk j own0 = some y → lk j s.own = some y) (hG : Le G0 s.G)
    (hq : Quiet C s.sl own0 G0 op x.den) (h : SGo C (.h (Hold C own0 G0) R n (listed.setIfInBounds i true) :: K) ⟨putS d x s.sl, s.own, s.G, s.df⟩) :
    SGo C (.h (Hold C own0 G0) R (n + 1) listed :: K) s := by
  intro a w hS
  have hhold : Hold C own0 G0 w := ⟨fun k b o e => (hS.mem.own k b o (ho _ _ e)).1, fun b o e => hS.mem.has b o (hG b o e)⟩
  have := h _ _ (hS.put hd x hS.mem)
  simp only [wpK] at this ⊢
  refine wpAnyHI_take (i := i) (v := x.den) hi hs hf hr ?_ (.inl ⟨by simp [Region.wanted], fun w' hw' => hq a w' d t pos aft none hS.sl hw'⟩) hhold this
  intro c a' w' hp
  exact wpK_panic c d x.den (fun a w => hQ c a w x.den) K a' w' hp
end
end Go.Sx
namespace Go.Sx
set_option linter.unusedSimpArgs false
set_option linter.unusedVariables false
open Go.RowKit
section
variable {C : Ctx} {sl : List (Nat × SV)} {own : List (Nat × Nat × OO)} {G : Hp}
theorem quiet_ieq_nil {T T' : TypeId} {x : Operand} {y : SV} {sz by' : Nat} {ze : List Value} {fl : List (Nat × Nat × Bool)} (hT : C.ty T = some ⟨.iface, sz, by', ze, fl⟩) (hx : ev sl x = some y) (hy : y.den = .nilIface) :
    Quiet C sl own G (.binOp .eql T x (.const .nilIface) T') (.bool true) := by
  intro a w dd t pos aft g hsl hh
  have hxv := ev_ok hsl hx
  rw [hy] at hxv
  have hu := iface_meths (C.tyok _ _ hT).k
  have hc : a.eval (.const .nilIface) = .nilIface := rfl
  simp only [execOp, hxv, hc]
  have h1 : (eqGuard .eql T x (.const .nilIface) .nilIface .nilIface).run C.P w = .ok () w := by simp [eqGuard]
  rw [Sem.run_bind]
  simp [h1, run_eql_nil_nil w T hu, Sem.run_bind]
theorem quiet_ieq_held {T T' u : TypeId} {v : Value} {x : Operand} {y : SV} {sz by' : Nat} {ze : List Value} {fl : List (Nat × Nat × Bool)} (hT : C.ty T = some ⟨.iface, sz, by', ze, fl⟩) (hx : ev sl x = some y) (hy : y.den = .iface u v) :
    Quiet C sl own G (.binOp .eql T x (.const .nilIface) T') (.bool false) := by
  intro a w dd t pos aft g hsl hh
  have hxv := ev_ok hsl hx
  rw [hy] at hxv
  have hu := iface_meths (C.tyok _ _ hT).k
  have hc : a.eval (.const .nilIface) = .nilIface := rfl
  simp only [execOp, hxv, hc]
  have h1 : (eqGuard .eql T x (.const .nilIface) (.iface u v) .nilIface).run C.P w = .ok () w := by simp [eqGuard]
  rw [Sem.run_bind]
  simp [h1, run_eql_held_nil w T u v hu, Sem.run_bind]
end
section
variable {G : Hp}
theorem enterClo2 {P : Program} {f : FuncId} {fn : Func} {u u' : FrameMode} {v : Value} {φ : FrameMode → Hp → Lds → Prop} {ow : Lds} (ty : TypeId → Option TI) (tyok : ∀ T i, ty T = some i → i.ok P T) {nt id d1 : Nat} {t1 : TypeId} {p1 : String} {a1 : Array Edge} {l : List Oper} {rest : Code}
    (hf : P.funcs[f]? = some fn) (hb : fn.body = some (.seq (.region id (⟨some d1, .call ⟨.builtin .recover, #[], #[]⟩, t1, p1, a1, none⟩ :: l).toArray false) rest)) (hn : fn.ntmps = nt) (hd1 : d1 < nt) (svs : List SV) (hargs : svs.length ≤ nt) {mh : Nat} (hmh : ow.length = mh)
    (hu : recOf u v u')
    (h : ∀ C : Ctx, C.P = P → C.Q = bodyPost C.P fn (RetW C.w0 G ow fun _ G' ow' => φ u' G' ow') → C.nt = nt → C.ty = ty → (∀ g, g ∈ C.mb → mutOf ow g) → C.mh = mh → C.ro = none → C.G0 = G → (∀ g, mutOf ow g → blkOf ow g) →
      SGo C [.ops (⟨some d1, .call ⟨.builtin .recover, #[], #[]⟩, t1, p1, a1, none⟩ :: l).toArray l, .code rest] ⟨putS (some d1) (.v v) (enumS 0 svs), enumO 0 ow, G, []⟩) : CloD P f (dens svs) G ow u φ := by
  intro w hw hL
  classical
  have hlt : ∀ g, blkOf ow g → g < w.heap.size := fun g ⟨i, b, o, e, hg⟩ => OO.holds_lt (hL.own i b o e).1 hg
  have hml : ∀ g, mutOf ow g → g < w.heap.size := fun g ⟨i, b, o, e, hg⟩ => hlt g ⟨i, b, o, e, OO.mut_blks (hL.own i b o e).1 hg⟩
  have hmem : ∀ g, g ∈ (List.range w.heap.size).filter (fun g => decide (mutOf ow g)) ↔ mutOf ow g := fun g => by
    simp only [List.mem_filter, List.mem_range, decide_eq_true_eq]
    exact ⟨fun q => q.2, fun q => ⟨hml g q, q⟩⟩
  have hlk : ∀ k b o, lk k (enumO 0 ow) = some (b, o) → ow[k]? = some (b, o) := fun k b o e => by
    rw [lk_enumO] at e; simpa using e
  have key := h ⟨P, bodyPost P fn (RetW w G ow fun _ G' ow' => φ u' G' ow'), nt, ty, tyok, w, G, (List.range w.heap.size).filter (fun g => decide (mutOf ow g)), mh, none⟩ rfl rfl rfl rfl (fun g hg => (hmem g).1 hg) rfl rfl rfl (fun g ⟨i, b, o, e, hg⟩ => ⟨i, b, o, e, OO.mut_blks (hL.own i b o e).1 hg⟩)
  have hS0 : Sat ⟨P, bodyPost P fn (RetW w G ow fun _ G' ow' => φ u' G' ow'), nt, ty, tyok, w, G, (List.range w.heap.size).filter (fun g => decide (mutOf ow g)), mh, none⟩ ⟨enumS 0 svs, enumO 0 ow, G, []⟩ { tmps := (dens svs).toArray ++ Array.replicate (fn.ntmps - (dens svs).toArray.size) undef, defers := [] } w := by
    refine ⟨slots_args _ _ _ (fun i x e => by have := (lk_enumS svs 0 i x e).2; simpa using this), by simp [hn, dens_eq]; omega, rfl, ⟨fun k b o e => ?_, fun k k' b b' o o' g e e' f f' => ?_, Grow.refl hw⟩⟩
    · have e' := hlk _ _ _ e
      obtain ⟨h1, h2⟩ := hL.own _ _ _ e'
      refine ⟨h1, fun g hg => ⟨h2 g hg, fun q => ?_, fun _ => .inl ((hmem g).2 ⟨_, _, _, e', hg⟩)⟩⟩
      have hk : k < ow.length := by
        rcases Nat.lt_or_ge k ow.length with q | q
        · exact q
        · rw [List.getElem?_eq_none q] at e'; cases e'
      have q : mh ≤ k := q
      omega
    · exact hL.inj _ _ _ _ _ _ g (hlk _ _ _ e) (hlk _ _ _ e') f f'
  have hS1 := hS0.put (d := some d1) (by simp [dOk]; exact hd1) (.v v) hS0.mem
  simp only [SV.den] at hS1
  have go := key _ w hS1
  simp only [wpK] at go
  rw [← wpOpsIn_eq_wpListIn l 1 (fun j => by simp [Nat.add_comm 1 j])] at go
  refine callsDIn_of_wpSIn hf hb trivial fun c₀ cs hu0 => ?_
  have hfin : ∀ (e : Exit) (a' : Act) (w' : World), bodyPost P fn (RetW w G ow fun _ G' ow' => φ u' G' ow') e a' w' → bodyPostS P fn c₀ cs (fun e u' w' => RetW w G ow (fun _ G' ow' => φ u' G' ow') e w') e a' ({ c₀ with mode := u' } :: cs) w' := by
    intro e a' w' hq
    cases e with
    | normal => obtain ⟨q1, q2⟩ := hq; exact ⟨q1, u', rfl, q2⟩
    | ret => obtain ⟨q1, q2⟩ := hq; exact ⟨q1, u', rfl, q2⟩
    | panic ch => obtain ⟨q1, q2⟩ := hq; exact ⟨q1, u', rfl, q2⟩
    | exit id => exact hq.elim
    | goto l => exact hq.elim
    | outgrown => exact ⟨u', hq⟩
  have hrest : ∀ (a : Act) (w' : World), rest.wpIn (FR none) 0 P (bodyPost P fn (RetW w G ow fun _ G' ow' => φ u' G' ow')) a w' → rest.wpSIn Fence.wide 0 P (bodyPostS P fn c₀ cs fun e u' w' => RetW w G ow (fun _ G' ow' => φ u' G' ow') e w') a ({ c₀ with mode := u' } :: cs) w' := by
    intro a w1 go b k hb' hr' hF' hroom
    obtain ⟨e, a', w', q, r⟩ := go b k ({ c₀ with mode := u' } :: cs) hr' hF' hroom
    exact ⟨e, a', _, w', rfl, hfin e a' w' q, r⟩
  have hrec : (match recoverD (c₀ :: cs) with | some (v, cs') => (v, cs') | none => (.nilIface, c₀ :: cs)) = (v, { c₀ with mode := u' } :: cs) := by
    rcases hu with ⟨rfl, rfl, rfl⟩ | ⟨rfl, rfl⟩
    · have : ({ c₀ with mode := .returning } : Frame) = c₀ := by cases c₀; simp_all
      rw [this]
      simp [recoverD, hu0]
    · simp [recoverD, hu0, pE]
  refine wpSIn_seq ?_
  intro b k hkb hro hF hroom
  have hrg : List.range (⟨some d1, .call ⟨.builtin .recover, #[], #[]⟩, t1, p1, a1, none⟩ :: l : List Oper).toArray.size = 0 :: List.range' 1 l.length := by
    rw [List.range_eq_range']; simp [List.range'_succ]
  have ho : (⟨some d1, .call ⟨.builtin .recover, #[], #[]⟩, t1, p1, a1, none⟩ :: l : List Oper).toArray[0]? = some ⟨some d1, .call ⟨.builtin .recover, #[], #[]⟩, t1, p1, a1, none⟩ := by simp
  generalize hR : (⟨some d1, .call ⟨.builtin .recover, #[], #[]⟩, t1, p1, a1, none⟩ :: l : List Oper).toArray = R at *
  have i0 : (lone (b.atR { tmps := (dens svs).toArray ++ Array.replicate (fn.ntmps - (dens svs).toArray.size) undef, defers := [] } (.code (.region id R false) :: k)) (c₀ :: cs) w).fenced P Fence.wide := fenced_calm hF hroom rfl
  generalize ha : ({ tmps := (dens svs).toArray ++ Array.replicate (fn.ntmps - (dens svs).toArray.size) undef, defers := [] } : Act) = a at *
  have hs0 := stepR_region (P := P) (b := b) (a := a) (k := k) (cs := c₀ :: cs) (w := w) (id := id) (ops := R)
  rw [hrg] at hs0
  have h1 : (lone (b.atR a (.inRegion R (0 :: List.range' 1 l.length) :: k)) (c₀ :: cs) w).fenced P Fence.wide := fenced_oper hF hroom ho (fun _ _ => trivial)
  have hg := stepGR_op (P := P) (b := b) (k := k) (cs := c₀ :: cs) (w := w) (a := a) (rest := List.range' 1 l.length) ho (by simp [Region.wanted])
  rw [hro, Oper.semAt_none] at hg
  have hfn : ∀ v, (b.atR a (.inRegion R (0 :: List.range' 1 l.length) :: k)).finish v = b.atR (a.put (some d1) v) (.inRegion R (List.range' 1 l.length) :: k) := by
    intro v; rw [Frame.finish_atR, ho]; rfl
  have hk : (b.atR a (.inRegion R (0 :: List.range' 1 l.length) :: k)).kind = .deferred := hkb
  have htr := tryRecover_deferred hk (c₀ :: cs)
  have hrun : (execOp a.eval ⟨some d1, .call ⟨.builtin .recover, #[], #[]⟩, t1, p1, a1, none⟩).run P w = .ok .recover w := rfl
  obtain ⟨e, a', w', hq, harr⟩ := wp_opsIn _ _ _ go b k ({ c₀ with mode := u' } :: cs) hro hF hroom
  refine ⟨e, a', { c₀ with mode := u' } :: cs, w', rfl, ?_, .of_steps (.head i0 hs0 (.one h1 (step_lone_go ?_))) harr⟩
  · cases e with
    | normal => exact hrest _ _ hq
    | ret => exact hfin _ _ _ (by simpa only [wpK] using hq)
    | panic ch => exact hfin _ _ _ (by simpa only [wpK] using hq)
    | exit id => exact hfin _ _ _ (by simpa only [wpK] using hq)
    | goto l => exact hfin _ _ _ (by simpa only [wpK] using hq)
    | outgrown => exact hfin _ _ _ (by simpa only [wpK] using hq)
  · rw [hg, ← hfn]
    simp only [Frame.atR, hro] at htr ⊢
    rcases hr : recoverD (c₀ :: cs) with _ | ⟨v1, cs1⟩
    · rw [hr] at hrec
      simp only [Prod.mk.injEq] at hrec
      simp [stepG.apply, hrun, htr, hr, ← hrec.1, ← hrec.2]
    · rw [hr] at hrec
      simp only [Prod.mk.injEq] at hrec
      simp [stepG.apply, hrun, htr, hr, ← hrec.1, ← hrec.2]
end
section
variable {C : Ctx} {K : List KI} {s : St} {R : Array Oper} {l : List Oper} {d : Option Tmp} {t : TypeId} {pos : String} {aft : Array Edge}
theorem leave_gen {fn : Func} {Rr : Ending → World → Prop} {a : Act} {w : World} (hS : Sat C s a w) {f : FuncId} {cap : List Value} (hdf : s.df = [dfn f cap]) {u : FrameMode} (hu : u ≠ .run) (hf : canCall C.P f = true) {ks : List Nat} {ow : Lds}
    (hk : lkAll s.own ks = some ow) (hn : noDup ks = true) (hks : (∀ k ∈ ks, C.mh ≤ k) ∨ (∀ k ∈ ks, k < C.mh)) {ψ : FrameMode → Hp → Lds → Prop} (hc : CloD C.P f cap s.G ow u ψ)
    (h : ∀ u' G' ow', Le s.G G' → ψ u' G' ow' → settle u' = .returning ∧ ∀ (a : Act) (w : World), Sat C ⟨s.sl, setO ks ow' s.own, G', s.df⟩ a w → ∃ v, (results fn a.tmps).run C.P w = .ok v w ∧ Rr (.returned v) w) :
    LeavesIn Fence.wide 0 C.P fn a.tmps Rr a.defers u w := by
  rw [hS.df, hdf]
  refine leavesIn_cons (f := f) (args := cap.toArray) hu (by simp [Fence.wide]) (by simp [invoke, callFunc_ok hf]) (fun _ _ => trivial) ?_
  refine (hc w hS.mem.has (Lent.of hS.mem hk hn)).mono ?_
  rintro e u' w' ⟨v, G', ow', rfl, q1, q2, q3, q4, q5, q6, q7, q8, q9⟩
  have hle : Le s.G G' := fun b o e => by
    rw [q4 b (lt_of_heap (hS.mem.has b o e))]; exact e
  obtain ⟨h1, h2⟩ := h u' G' ow' hle q9
  have hm := hS.mem.lentM hk hn hks q1 q2 q3 q4 q5 q6 q7 q8
  have hS' : Sat C ⟨s.sl, setO ks ow' s.own, G', s.df⟩ a w' := ⟨hS.sl, hS.nt, hS.df, hm⟩
  simp only [h1]
  exact h2 a w' hS'
def RowsK (own : Owns) (k : Nat) (ws : List Rw) : Prop := (∃ b Z, lk k own = some (b, .z (ZR ws) Z Z)) ∨ ∀ r ∈ ws, r.v = .slice none 0 0 ∧ r.n = 0 ∧ r.xs = []
theorem zr_nil {ws : List Rw} (h : ∀ r ∈ ws, r.v = .slice none 0 0 ∧ r.n = 0 ∧ r.xs = []) (w : World) : (ZR ws).A (fun _ => False) (fun _ => False) w := by
  have hb : ∀ (i : Nat) (r : Rw), ws[i]? = some r → r.v.ownBlock = none := fun i r e => by
    obtain ⟨h1, _⟩ := h r (List.mem_of_getElem? e); rw [h1]; rfl
  refine ⟨fun i r e => ?_, fun i j r r' g e e' f f' => ?_, fun g => ⟨fun q => q.elim, fun ⟨i, r, e, q⟩ => ?_⟩, fun g q => q⟩
  · obtain ⟨h1, h2, h3⟩ := h r (List.mem_of_getElem? e)
    rw [h1, h2, h3]; exact ownsRow_nil _ _ _
  · rw [hb _ _ e] at f; cases f
  · rw [hb _ _ e] at q; cases q
theorem retv_of {s' : St} {fn : Func} {φ : Value → Hp → List Rw → Prop} (hmb : C.mb = []) (hmh : C.mh = 0) (k : Nat) {ws : List Rw} {xs : List SV} (hr : resAll s'.sl C.ty s'.own fn.results.toList = some xs) (hk : RowsK s'.own k ws) (h : φ (resV xs).den s'.G ws)
    {a : Act} {w : World} (hS : Sat C s' a w) : ∃ v, (results fn a.tmps).run C.P w = .ok v w ∧ RetV C.w0 C.G0 φ (.returned v) w := by
  refine ⟨_, results_ok hS hr, ?_⟩
  have hg := hS.mem.grow
  rw [hmb] at hg
  rcases hk with ⟨b, Z, hk⟩ | hk
  · obtain ⟨g1, g2⟩ := hS.mem.own _ _ _ hk
    refine ⟨_, _, ws, Z, rfl, hg, g1, fun g hb => ?_, h⟩
    obtain ⟨q1, q2, _⟩ := g2 g hb
    exact ⟨q1, q2 (by omega)⟩
  · exact ⟨_, _, ws, fun _ => False, rfl, hg, zr_nil hk w, fun g q => q.elim, h⟩
theorem x_retDV (k : Nat) {kc : Code} (ht : tag kc = 7) {fn : Func} {φ : Value → Hp → List Rw → Prop} (hQ : C.Q = bodyPostDIn Fence.wide 0 C.P fn (RetV C.w0 C.G0 φ)) (hmb : C.mb = []) (hmh : C.mh = 0) {f : FuncId} {cap : List Value} (hdf : s.df = [dfn f cap]) (hf : canCall C.P f = true) {ks : List Nat} {ow : Lds}
    (hk : lkAll s.own ks = some ow) (hn : noDup ks = true) (hks : (∀ k ∈ ks, C.mh ≤ k) ∨ (∀ k ∈ ks, k < C.mh)) {ψ : FrameMode → Hp → Lds → Prop} (hc : CloD C.P f cap s.G ow .returning ψ)
    (h : ∀ u' G' ow', Le s.G G' → ψ u' G' ow' → settle u' = .returning ∧ ∃ xs ws, resAll s.sl C.ty (setO ks ow' s.own) fn.results.toList = some xs ∧ RowsK (setO ks ow' s.own) k ws ∧ φ (resV xs).den G' ws) (hnb : noBr K = true := by rfl) : SGo C (.code kc :: K) s := by
  intro a w hS
  cases kc <;> simp [tag] at ht
  · rename_i a b c; cases c <;> simp at ht
  refine wpIn_ret ?_
  rw [wpK_ret _ _ _ hnb, hQ]
  refine leave_gen hS hdf (by simp) hf hk hn hks hc fun u' G' ow' hle hψ => ?_
  obtain ⟨h1, xs, ws, h2, h3, h4⟩ := h u' G' ow' hle hψ
  exact ⟨h1, fun a w hS => retv_of (s' := ⟨s.sl, setO ks ow' s.own, G', s.df⟩) hmb hmh k h2 h3 h4 hS⟩
theorem x_panDV (k : Nat) {fn : Func} {φ : Value → Hp → List Rw → Prop} {v : Value} (hQ : C.Q = bodyPostDIn Fence.wide 0 C.P fn (RetV C.w0 C.G0 φ)) (hmb : C.mb = []) (hmh : C.mh = 0) {f : FuncId} {cap : List Value} (hdf : s.df = [dfn f cap]) (hf : canCall C.P f = true) {ks : List Nat} {ow : Lds}
    (hk : lkAll s.own ks = some ow) (hn : noDup ks = true) (hks : (∀ k ∈ ks, C.mh ≤ k) ∨ (∀ k ∈ ks, k < C.mh)) {ψ : FrameMode → Hp → Lds → Prop} (hc : CloD C.P f cap s.G ow (.panicking [pE v]) ψ)
    (h : ∀ u' G' ow', Le s.G G' → ψ u' G' ow' → settle u' = .returning ∧ ∃ xs ws, resAll s.sl C.ty (setO ks ow' s.own) fn.results.toList = some xs ∧ RowsK (setO ks ow' s.own) k ws ∧ φ (resV xs).den G' ws) : SPan C v s := by
  intro a w hS
  rw [hQ]
  refine leave_gen hS hdf (by simp) hf hk hn hks hc fun u' G' ow' hle hψ => ?_
  obtain ⟨h1, xs, ws, h2, h3, h4⟩ := h u' G' ow' hle hψ
  exact ⟨h1, fun a w hS => retv_of (s' := ⟨s.sl, setO ks ow' s.own, G', s.df⟩) hmb hmh k h2 h3 h4 hS⟩
theorem enterDV {P : Program} {f : FuncId} {fn : Func} {G : Hp} {φ : Value → Hp → List Rw → Prop} (ty : TypeId → Option TI) (tyok : ∀ T i, ty T = some i → i.ok P T) {nt : Nat}
    (hf : P.funcs[f]? = some fn) (hb : fn.body.isSome = true) (hn : fn.ntmps = nt) (svs : List SV) (hargs : svs.length ≤ nt)
    (h : ∀ C : Ctx, C.P = P → C.Q = bodyPostDIn Fence.wide 0 C.P fn (RetV C.w0 C.G0 φ) → C.nt = nt → C.ty = ty → C.mb = [] → C.mh = 0 → C.ro = none → SGo C [.code (fn.body.getD .skip)] ⟨enumS 0 svs, [], G, []⟩) : PureV P f (dens svs) G φ := by
  intro w hw
  refine callsIn_wide.1 (callsIn_of_wp_defers (F := Fence.wide) (n := 0) hf (body_eq hb) trivial ?_)
  have := h ⟨P, bodyPostDIn Fence.wide 0 P fn (RetV w G φ), nt, ty, tyok, w, G, [], 0, none⟩ rfl rfl rfl rfl rfl rfl rfl { tmps := (dens svs).toArray ++ Array.replicate (fn.ntmps - (dens svs).toArray.size) undef, defers := [] } w
    ⟨slots_args _ _ _ (fun i x e => by have := (lk_enumS svs 0 i x e).2; simpa using this), by simp [hn, dens_eq]; omega, rfl, ⟨fun k b o e => by simp [lk] at e, fun k k' b b' o o' g e e' f f' => by simp [lk] at e, Grow.refl hw⟩⟩
  simp only [wpK] at this
  exact this
theorem retw0 {fn : Func} {G : Hp} {ow : Lds} {φ : Value → Hp → Lds → Prop} (hmb : ∀ g, g ∈ C.mb → mutOf ow g) {mh : Nat} (hmh : C.mh = mh) (hG : C.G0 = G) (hmub : ∀ g, mutOf ow g → blkOf ow g) (hml : ow.length = mh)
    (hrs : fn.results.toList = []) {ow' : Lds} (hp : pickO s.own 0 mh = some ow') (hpl : Plain (enumO 0 ow')) (h : ∀ v, φ v s.G ow') {a : Act} {w : World} (hS : Sat C s a w) :
    ∃ v, (results fn a.tmps).run C.P w = .ok v w ∧ RetW C.w0 G ow φ (.returned v) w := by
  have hg := hS.mem.grow
  obtain ⟨p1, p2⟩ := pickO_get hp
  have p3 : ∀ {i b o}, ow'[i]? = some (b, o) → lk i s.own = some (b, o) := fun {i b o} e => by simpa using p2 i _ e
  have p4 : ∀ {i b o}, ow'[i]? = some (b, o) → i < mh := fun {i b o} e => by
    rcases Nat.lt_or_ge i ow'.length with q | q
    · omega
    · rw [List.getElem?_eq_none q] at e; cases e
  have p5 : ∀ g, blkOf ow' g → mutOf ow' g := fun g ⟨i, b, o, e, hb⟩ => ⟨i, b, o, e, hpl i b o (by rw [lk_enumO]; simpa using e) g hb⟩
  have p6 : ∀ g, mutOf ow' g → mutOf ow g ∨ C.w0.heap.size ≤ g := fun g ⟨i, b, o, e, hb⟩ => by
    obtain ⟨_, q⟩ := hS.mem.own _ _ _ (p3 e)
    rcases (q g hb).2.2 (by rw [hmh]; exact p4 e) with q | q
    · exact .inl (hmb g q)
    · exact .inr q
  have hres : (results fn a.tmps).run C.P w = .ok (.tuple #[]) w := by
    have : fn.results = #[] := by simpa using hrs
    simp [results, this]
  refine ⟨_, hres, _, _, ow', rfl, hg.fr, fun g hg1 hg2 => ?_, hg.has, fun b hb => by rw [hg.old b hb, hG], ⟨fun i b o e => ?_, fun i j b b' o o' g e e' f f' => ?_⟩, by omega, fun g q => ?_, p6, h _⟩
  · exact hg.blk g hg1 fun q => hg2 (hmb g q)
  · obtain ⟨q1, q2⟩ := hS.mem.own _ _ _ (p3 e)
    exact ⟨q1, fun g q => (q2 g q).1⟩
  · exact hS.mem.inj _ _ _ _ _ _ g (p3 e) (p3 e') f f'
  · exact (p6 g (p5 g q)).imp (hmub g) id
theorem x_ret0 {kc : Code} (ht : tag kc = 7) {fn : Func} {G : Hp} {ow : Lds} {φ : Value → Hp → Lds → Prop} (hQ : C.Q = bodyPost C.P fn (RetW C.w0 G ow φ)) (hmb : ∀ g, g ∈ C.mb → mutOf ow g) {mh : Nat} (hmh : C.mh = mh) (hG : C.G0 = G) (hmub : ∀ g, mutOf ow g → blkOf ow g) (hml : ow.length = mh)
    (hrs : fn.results.toList = []) (hdf : s.df = []) {ow' : Lds} (hp : pickO s.own 0 mh = some ow') (hpl : Plain (enumO 0 ow')) (h : ∀ v, φ v s.G ow') (hnb : noBr K = true := by rfl) : SGo C (.code kc :: K) s := by
  intro a w hS
  cases kc <;> simp [tag] at ht
  · rename_i a b c; cases c <;> simp at ht
  refine wpIn_ret ?_
  rw [wpK_ret _ _ _ hnb, hQ]
  exact ⟨by rw [hS.df, hdf], retw0 hmb hmh hG hmub hml hrs hp hpl h hS⟩
theorem x_endWP {fn : Func} {G : Hp} {ow : Lds} {φ : Value → Hp → Lds → Prop} {ψ : Value → Prop} (hQ : C.Q = bodyPost C.P fn (RetWP C.w0 G ow φ ψ)) (hmb : ∀ g, g ∈ C.mb → mutOf ow g) {mh : Nat} (hmh : C.mh = mh) (hG : C.G0 = G) (hmub : ∀ g, mutOf ow g → blkOf ow g) (hml : ow.length = mh)
    (hrs : fn.results.toList = []) (hdf : s.df = []) {ow' : Lds} (hp : pickO s.own 0 mh = some ow') (hpl : Plain (enumO 0 ow')) (h : ∀ v, φ v s.G ow') : SGo C [] s := by
  intro a w hS
  show C.Q .normal a w
  rw [hQ]
  obtain ⟨v, h1, h2⟩ := retw0 hmb hmh hG hmub hml hrs hp hpl h hS
  exact ⟨by rw [hS.df, hdf], v, h1, .inl h2⟩
theorem go_callWv (ks : List Nat) {g : Operand} {f : FuncId} {cap : List Value} {z : SV} {args : Array Operand} {tys : Array TypeId} {vs : List SV} {ow : Lds} {φ : Value → Hp → Lds → Prop} (hd : dOk C.nt d = true) (hf : canCall C.P f = true) (hg : ev s.sl g = some z) (hz : z.den = .func (.func f) #[] cap.toArray) (ha : evs s.sl args.toList = some vs)
    (hk : lkAll s.own ks = some ow) (hn : noDup ks = true) (hks : (∀ k ∈ ks, C.mh ≤ k) ∨ (∀ k ∈ ks, k < C.mh)) (hc : PureW C.P f (dens vs ++ cap) s.G ow φ)
    (h : ∀ v G' ow', Le s.G G' → φ v G' ow' → SGo C (.ops R l :: K) ⟨putS d (rv v) s.sl, setO ks ow' s.own, G', s.df⟩) : SGo C (.ops R (⟨d, .call ⟨.value g, args, tys⟩, t, pos, aft, none⟩ :: l) :: K) s := by
  intro a w hS
  have hargs : args.map a.eval = (dens vs).toArray := by apply Array.ext'; rw [Array.toList_map]; exact evs_ok hS.sl ha
  have hgv := ev_ok hS.sl hg
  rw [hz] at hgv
  have hrun : (execOp a.eval ⟨d, .call ⟨.value g, args, tys⟩, t, pos, aft, none⟩).run C.P w = .ok (.enter f (dens vs ++ cap).toArray) w := by
    simp only [execOp, resolve, hargs, hgv, Deferred.ofValue, Sem.run_bind, Sem.run_pure, Result.andThen_ok, invoke]
    simp [callFunc_ok hf]
  refine K_enter rfl hrun ((hc w hS.mem.has (Lent.of hS.mem hk hn)).mono ?_)
  rintro e w' ⟨v, G', ow', rfl, q1, q2, q3, q4, q5, q6, q7, q8, q9⟩
  have hle : Le s.G G' := fun b o e => by
    rw [q4 b (lt_of_heap (hS.mem.has b o e))]; exact e
  have hS' := hS.put hd (rv v) (hS.mem.lentM hk hn hks q1 q2 q3 q4 q5 q6 q7 q8)
  rw [rv_den] at hS'
  exact ⟨_, rfl, h v G' ow' hle q9 _ _ hS'⟩
end
end Go.Sx
namespace Go.Proofs.Ytpmmbjcgabnloaa
set_option linter.unusedSimpArgs false
set_option linter.unusedVariables false
open Go.Sx
set_option maxHeartbeats 8000000
set_option maxRecDepth 20000
def faultV (e : Int) : Value := .iface 117 (.agg #[.int .i64 e])
theorem need_ok (b : Bool) (e : Int) (G : Hp) : PureWP Try.prog 36 [.bool b, .int .i64 e] G [] (fun _ _ ow => b = true ∧ ow = []) (fun v => v = faultV e ∧ b = false) := by
  refine enterWP ty tyok Try.func36 rfl Try.ntmps36 [.v (.bool b), .v (.int .i64 e)] (by simp) (mh := 0) rfl ?_
  intro C hP hQ hnt hty hmb hmh hro hG0 hmub; have hQp := qp_body hQ; refine st_ ?_
  simp only [enumO]
  refine rn_ ?_; intros
  refine x_split rfl rfl rfl (fun h => ?_) (fun h => ?_) <;> (refine st_ ?_; (refine ru_ ?_; intros))
  · refine rn_ ?_; intros
    refine go_panic rfl rfl rfl (x_panWP hQ hmb rfl ?_)
    exact ⟨rfl, by simpa using h⟩
  · refine rn_ ?_; intros
    refine x_endWP hQ hmb hmh hG0 hmub rfl rfl rfl rfl (by simp only [enumO]; exact (by repeat (first | exact plain_nil | refine plain_cons (fun _ h => h) ?_))) ?_
    intro _
    exact ⟨by simpa using h, rfl⟩
theorem catch_nil (be : Nat) (e : Int) (G : Hp) : PureW Try.prog 35 [.nilIface, .pointer (some ⟨be, 0, none⟩)] G [(be, .c 32 [.v (.int .i64 e)])] (fun _ _ ow => ow = [(be, .c 32 [.v (.int .i64 e)])]) := by
  refine enterW ty tyok Try.func35 rfl Try.ntmps35 [.v .nilIface, .p 0 be 0] (by simp) (mh := 1) rfl ?_
  intro C hP hQ hnt hty hmb hmh hro hG0 hmub; have hQp := qp_body hQ; refine st_ ?_
  simp only [enumO]
  refine rn_ ?_; intros
  refine go_q (by rw [hnt]; rfl) (quiet_ieq_nil (by rw [hty]; rfl) rfl rfl) ?_
  refine rn_ ?_; intros
  (refine x_split rfl rfl rfl (fun _ => ?_) (fun hc => absurd hc (by first | decide +kernel | (simp; first | done | fail))); refine st_ ?_; (refine ru_ ?_; intros))
  refine rn_ ?_; intros
  refine x_ret0 rfl hQ hmb hmh hG0 hmub rfl rfl rfl rfl (by simp only [enumO]; exact (by repeat (first | exact plain_nil | refine plain_cons (fun _ h => h) ?_))) ?_
  intro _
  rfl
theorem catch_f (be : Nat) (e e' : Int) (G : Hp) : PureW Try.prog 35 [faultV e', .pointer (some ⟨be, 0, none⟩)] G [(be, .c 32 [.v (.int .i64 e)])] (fun _ _ ow => ow = [(be, .c 32 [.v (.int .i64 e')])]) := by
  refine enterW ty tyok Try.func35 rfl Try.ntmps35 [.v (faultV e'), .p 0 be 0] (by simp) (mh := 1) rfl ?_
  intro C hP hQ hnt hty hmb hmh hro hG0 hmub; have hQp := qp_body hQ; refine st_ ?_
  simp only [enumO, faultV]
  refine rn_ ?_; intros
  refine go_q (by rw [hnt]; rfl) (quiet_ieq_held (by rw [hty]; rfl) rfl rfl) ?_
  refine rn_ ?_; intros
  (refine x_split rfl rfl rfl (fun hc => absurd hc (by first | decide +kernel | (simp; first | done | fail))) (fun _ => ?_); refine st_ ?_; (refine ru_ ?_; intros))
  refine rn_ ?_; intros
  refine go_q (by rw [hnt]; rfl) (quiet_is (by rw [hty]; rfl) rfl rfl) ?_
  refine rn_ ?_; intros
  (refine x_split rfl rfl rfl (fun hc => absurd hc (by first | decide +kernel | (simp; first | done | fail))) (fun _ => ?_); refine st_ ?_; (refine ru_ ?_; intros))
  refine rn_ ?_; intros
  refine x_endW hQ hmb hmh hG0 hmub rfl rfl rfl rfl (by simp only [enumO]; exact (by repeat (first | exact plain_nil | refine plain_cons (fun _ h => h) ?_))) ?_
  intro _
  rfl
def eC (be : Nat) (e : Int) : Nat × OO := (be, .c 32 [.v (.int .i64 e)])
def doC (be bt bv bc : Nat) (e : Int) (tv tp vk vn vl : Value) (can : Bool) : List (Nat × OO) := [eC be e, (bt, .c 44 [.v tv, .v tp]), (bv, .c 28 [.v vk, .v vn, .v vl]), (bc, .c 4 [.v (.bool can)])]
def doCap (be bt bv bc : Nat) : List Value := [.pointer (some ⟨be, 0, none⟩), .pointer (some ⟨bt, 0, none⟩), .pointer (some ⟨bv, 0, none⟩), .pointer (some ⟨bc, 0, none⟩)]
theorem doClo_idle (be bt bv bc : Nat) (tv tp vk vn vl : Value) (can : Bool) (G : Hp) : CloD Try.prog 39 (doCap be bt bv bc) G (doC be bt bv bc 0 tv tp vk vn vl can) .returning (fun u' _ ow => settle u' = .returning ∧ ow = doC be bt bv bc 0 tv tp vk vn vl can) := by
  refine enterClo2 ty tyok Try.func39 rfl Try.ntmps39 (by omega) [.p 0 be 0, .p 1 bt 0, .p 2 bv 0, .p 3 bc 0] (by simp) (mh := 4) rfl (.inl ⟨rfl, rfl, rfl⟩) ?_
  intro C hP hQ hnt hty hmb hmh hro hG0 hmub; have hQp := qp_body hQ; refine st_ ?_
  simp only [enumO, doC, eC]
  refine go_callW [0] (by rw [hnt]; rfl) (by rw [hP]; kernel_rfl) rfl rfl rfl (.inr (by rw [hmh]; decide)) (by rw [hP]; exact catch_nil be _ _) ?_
  rintro v G1 ow1 (hle1 : Le G G1) rfl
  simp only [setO]
  refine st_ ?_
  refine rn_ ?_; intros
  (refine x_split rfl rfl rfl (fun hc => absurd hc (by first | decide +kernel | (simp; first | done | fail))) (fun _ => ?_); refine st_ ?_; (refine ru_ ?_; intros))
  refine rn_ ?_; intros
  refine x_endW hQ hmb hmh hG0 hmub rfl rfl rfl rfl (by simp only [enumO]; exact (by repeat (first | exact plain_nil | refine plain_cons (fun _ h => h) ?_))) ?_
  intro _
  exact ⟨rfl, rfl⟩
theorem doClo_catch (be bt bv bc : Nat) (tv tp vk vn vl : Value) (can : Bool) (e0 e : Int) (he : e ≠ 0) (G : Hp) : CloD Try.prog 39 (doCap be bt bv bc) G (doC be bt bv bc e0 tv tp vk vn vl can) (.panicking [pE (faultV e)]) (fun u' _ ow => settle u' = .returning ∧ ow = doC be bt bv bc e (.slice none 0 0) (.slice none 0 0) (.int .i64 0) (.int .i64 0) (.slice none 0 0) false) := by
  refine enterClo2 ty tyok Try.func39 rfl Try.ntmps39 (by omega) [.p 0 be 0, .p 1 bt 0, .p 2 bv 0, .p 3 bc 0] (by simp) (mh := 4) rfl (.inr ⟨rfl, rfl⟩) ?_
  intro C hP hQ hnt hty hmb hmh hro hG0 hmub; have hQp := qp_body hQ; refine st_ ?_
  simp only [enumO, doC, eC]
  refine go_callW [0] (by rw [hnt]; rfl) (by rw [hP]; kernel_rfl) rfl rfl rfl (.inr (by rw [hmh]; decide)) (by rw [hP]; exact catch_f be _ _ _) ?_
  rintro v G1 ow1 (hle1 : Le G G1) rfl
  simp only [setO]
  refine st_ ?_
  refine rn_ ?_; intros
  (refine x_split rfl rfl rfl (fun _ => ?_) (fun hc => absurd hc (by simpa using he)); refine st_ ?_; (refine ru_ ?_; intros))
  refine rn_ ?_; intros
  refine go_see 3 [.v (.bool false)] rfl rfl ?_
  refine st_ ?_
  refine x_endW hQ hmb hmh hG0 hmub rfl rfl rfl rfl (by simp only [enumO]; exact (by repeat (first | exact plain_nil | refine plain_cons (fun _ h => h) ?_))) ?_
  intro _
  exact ⟨rfl, rfl⟩
def effV (K mo : Int) (pt : Bool) (f : Nat) : Value := .agg #[.int .i64 K, .int .i64 mo, .bool pt, .func (.func f) #[] #[]]
def effE : MEs := [(1, effV 2 1 false 60, 0), (2, effV 2 1 false 61, 1), (3, effV 2 0 false 62, 2), (4, effV 3 0 true 63, 3)]
theorem effects_ok (G : Hp) : Pure Try.prog 40 [] G (fun v G' => ∃ b, v = .map (some b) ∧ G' b = some (mObj .i64 effE 4)) := by
  refine enterX ty tyok Try.func40 rfl Try.ntmps40 [] (by simp) ?_
  intro C hP hQ hnt hty hmb hmh hro; have hQp := qp_body hQ; refine st_ ?_
  refine rn_ ?_; intros
  refine go_mkmap 40 .i64 (by rw [hnt]; rfl) rfl (by omega) ?_
  intro g
  refine rn_ ?_; intros
  refine go_mupd 40 (.inr rfl) (by rw [hnt]; rfl) (by rw [hty]; rfl) (by rw [hty]; rfl) rfl rfl rfl rfl ?_
  refine st_ ?_
  refine rn_ ?_; intros
  refine go_mupd 40 (.inr rfl) (by rw [hnt]; rfl) (by rw [hty]; rfl) (by rw [hty]; rfl) rfl rfl rfl rfl ?_
  refine st_ ?_
  refine rn_ ?_; intros
  refine go_mupd 40 (.inr rfl) (by rw [hnt]; rfl) (by rw [hty]; rfl) (by rw [hty]; rfl) rfl rfl rfl rfl ?_
  refine st_ ?_
  refine rn_ ?_; intros
  refine go_mupd 40 (.inr rfl) (by rw [hnt]; rfl) (by rw [hty]; rfl) (by rw [hty]; rfl) rfl rfl rfl rfl ?_
  refine st_ ?_
  refine rn_ ?_; intros
  refine go_pubx 40 (g := g) rfl (by omega) rfl (fun w h => h) ?_
  intro G1 hle1 hG1
  refine x_retc rfl hQ hmb rfl (by rw [hty]; simp only [so, sq, zy, zz, tyE, SO', SQ', opQ, opStore, opAlloc, ev, putS, dOk, cv, SV.cs, SV.one, SV.bool?, eqB, Value.oneCell', ldOwn, binInt, binConst, binBool, binStr, isC, TK.agg, rv, rv1, ldV, resOne, resV, Nat.reduceAdd, Nat.reduceMul, Nat.reduceSub, Nat.reduceLT, Nat.reduceLeDiff, Nat.reduceEqDiff, Nat.reduceBEq, reduceIte, reduceCtorEq, eq_self]; try rfl) rfl ?_; simp only [SV.den, resV, dens]
  exact ⟨g, rfl, hG1⟩
end Go.Proofs.Ytpmmbjcgabnloaa
namespace Go.Proofs.Ytpmmbjcgabnloaa
set_option linter.unusedSimpArgs false
set_option linter.unusedVariables false
open Go.Sx
set_option maxHeartbeats 8000000
set_option maxRecDepth 20000
def pOk (nv : Nat) : List Int → List Po → Bool
  | _, [] => true
  | sn, p :: r => p.nm.k == 4 && vld p.nm && !(sn.any fun m => m == p.nm.n) && decide (0 ≤ p.pt) && decide (p.pt ≤ nv) && pOk nv (sn ++ [p.nm.n]) r
def stOk (m : Int) (s : MS) : Bool := (m != 0) && !(decide (m < 3) && decide (1 < s.vals.length)) && !(decide (m < 4) && decide (0 < s.ps.length)) && s.vals.all vld && pOk s.vals.length [] s.ps
def mesN : Nat → List Int → MEs
  | _, [] => []
  | i, n :: l => (n, .bool true, i) :: mesN (i + 1) l
theorem mesN_get (i : Nat) (n : Int) : ∀ l : List Int, (mget n (mesN i l)).isSome = l.any fun m => m == n
  | [] => rfl
  | m :: l => by
    simp only [mesN, mget, List.any_cons]
    by_cases h : m = n
    · simp [h]
    · have := mesN_get (i + 1) n l
      simp [h, this]
theorem mesN_val (n : Int) : ∀ (i : Nat) (l : List Int), (mget n (mesN i l)).getD (.bool false) = .bool (l.any fun m => m == n)
  | i, [] => rfl
  | i, m :: l => by
    simp only [mesN, mget, List.any_cons]
    by_cases h : m = n
    · simp [h]
    · have := mesN_val n (i + 1) l
      simp [h, this]
theorem mesN_put (n : Int) (c : Nat) : ∀ (i : Nat) (l : List Int), (l.any fun m => m == n) = false → mput n (.bool true) (i + l.length) (mesN i l) = mesN i (l ++ [n])
  | i, [], _ => rfl
  | i, m :: l, h => by
    simp only [List.any_cons, Bool.or_eq_false_iff, beq_eq_false_iff_ne] at h
    have := mesN_put n c (i + 1) l h.2
    simp only [mesN, mput, List.cons_append, List.length_cons]
    rw [if_neg h.1, ← this]
    congr 2
    omega
theorem fits_ok (K mo : Int) (pt : Bool) (fn : Value) (s : MS) (sv sp : Value) (m : Int) (G : Hp) (hfn : fn.oneCell' = true) (hs : s.rep G sv sp) (hm : (mo = 1 ∧ pt = false ∧ (m = 1 ∨ m = 2)) ∨ (mo = 0 ∧ pt = false ∧ m = 3) ∨ (mo = 0 ∧ pt = true ∧ m = 4)) :
    Pure Try.prog 42 [.agg #[.int .i64 K, .int .i64 mo, .bool pt, fn], .agg #[sv, sp]] G (fun r _ => r = .bool (stOk m s)) := by
  have hv := hs.v
  have hp := hs.p
  obtain ⟨ad1, cap1, rfl⟩ := Rp.S_slice hv
  obtain ⟨ad2, cap2, rfl⟩ := Rp.S_slice hp
  have h63 := Rp.S_len hv
  have h64 := Rp.S_len hp
  refine enterX ty tyok Try.func42 rfl Try.ntmps42 [.a [.v (.int .i64 K), .v (.int .i64 mo), .v (.bool pt), .v fn], .a [.v (.slice ad1 s.vals.length cap1), .v (.slice ad2 s.ps.length cap2)]] (by simp) ?_
  intro C hP hQ hnt hty hmb hmh hro; have hQp := qp_body hQ; refine st_ ?_
  refine rn_ ?_; intros
  rename_i b2 b3
  refine cut_tail 2 (fun st => (!(decide (m < 3) && decide (1 < s.vals.length))) = true ∧ (!(decide (m < 4) && decide (0 < s.ps.length))) = true ∧
    st = ⟨[(2, .p 0 b2 0), (3, .p 1 b3 0)], [(0, b2, .c 89 [.v (.int .i64 K), .v (.int .i64 mo), .v (.bool pt), .v fn]), (1, b3, .c 44 [.v (.slice ad1 s.vals.length cap1), .v (.slice ad2 s.ps.length cap2)])], G, []⟩) ?_ (fun key => ?_)
  rotate_left
  · simp only [List.drop_succ_cons, List.drop_zero] at key
    have hst0 : ∀ b, (m < 3 ∧ 1 < s.vals.length) ∨ (m < 4 ∧ 0 < s.ps.length) → .bool false = Value.bool (stOk m s && b) := fun b h => by
      have : stOk m s = false := by
        rw [stOk]
        rcases h with ⟨h1, h2⟩ | ⟨h1, h2⟩
        · rw [decide_eq_true h1, decide_eq_true h2]; simp
        · rw [decide_eq_true h1, decide_eq_true h2]; simp
      rw [this, Bool.false_and]
    have hst : (m < 3 ∧ 1 < s.vals.length) ∨ (m < 4 ∧ 0 < s.ps.length) → Value.bool false = Value.bool (stOk m s) := fun h => by
      have := hst0 true h
      simpa using this
    have hkey : ¬ (m < 3 ∧ 1 < s.vals.length) → ¬ (m < 4 ∧ 0 < s.ps.length) → (!(decide (m < 3) && decide (1 < s.vals.length))) = true ∧ (!(decide (m < 4) && decide (0 < s.ps.length))) = true := fun h1 h2 => by
      constructor
      · rw [Bool.not_eq_true', Bool.eq_false_iff]; simpa using h1
      · rw [Bool.not_eq_true', Bool.eq_false_iff]; simpa using h2
    rcases hm with ⟨rfl, rfl, hm⟩ | ⟨rfl, rfl, rfl⟩ | ⟨rfl, rfl, rfl⟩
    · (refine go_gsplit rfl rfl (fun _ => ?_) (fun hc => absurd hc (by first | decide +kernel | (simp; first | done | fail))); refine st_ ?_; (try (refine runo0 400 hty hnt hmh ?_; refine st_ ?_)))
      refine go_gsplit rfl rfl (fun h2 => ?_) (fun h2 => ?_) <;> (refine st_ ?_; (try (refine runo0 400 hty hnt hmh ?_; refine st_ ?_)))
      · repeat (refine go_gundef rfl (by rw [hnt]; rfl) rfl ?_; (refine st_ ?_; (try (refine runo0 400 hty hnt hmh ?_; refine st_ ?_))))
        refine rn_ ?_; intros
        refine x_retc rfl hQ hmb rfl (by rw [hty]; simp only [so, sq, zy, zz, tyE, SO', SQ', opQ, opStore, opAlloc, ev, putS, dOk, cv, SV.cs, SV.one, SV.bool?, eqB, Value.oneCell', ldOwn, binInt, binConst, binBool, binStr, isC, TK.agg, rv, rv1, ldV, resOne, resV, Nat.reduceAdd, Nat.reduceMul, Nat.reduceSub, Nat.reduceLT, Nat.reduceLeDiff, Nat.reduceEqDiff, Nat.reduceBEq, reduceIte, reduceCtorEq, eq_self]; try rfl) rfl ?_; simp only [SV.den, resV, dens]
        have := of_decide_eq_true h2
        exact hst (.inl (by omega))
      have h2' := of_decide_eq_false h2
      (refine go_gsplit rfl rfl (fun _ => ?_) (fun hc => absurd hc (by first | decide +kernel | (simp; first | done | fail))); refine st_ ?_; (try (refine runo0 400 hty hnt hmh ?_; refine st_ ?_)))
      refine go_ops ?_
      refine x_if rfl rfl rfl rfl (fun h3 => ?_) (fun h3 => ?_)
      · have h3 := of_decide_eq_true h3
        refine rn_ ?_; intros
        refine x_retc rfl hQ hmb rfl (by rw [hty]; simp only [so, sq, zy, zz, tyE, SO', SQ', opQ, opStore, opAlloc, ev, putS, dOk, cv, SV.cs, SV.one, SV.bool?, eqB, Value.oneCell', ldOwn, binInt, binConst, binBool, binStr, isC, TK.agg, rv, rv1, ldV, resOne, resV, Nat.reduceAdd, Nat.reduceMul, Nat.reduceSub, Nat.reduceLT, Nat.reduceLeDiff, Nat.reduceEqDiff, Nat.reduceBEq, reduceIte, reduceCtorEq, eq_self]; try rfl) rfl ?_; simp only [SV.den, resV, dens]
        exact hst (.inr (by omega))
      · have h3 := of_decide_eq_false h3
        refine x_skip rfl ?_
        refine go_keep [2, 3] [0, 1] ?_
        refine st_ ?_
        have := hkey (by omega) (by omega)
        exact key _ ⟨this.1, this.2, rfl⟩
    · (refine go_gsplit rfl rfl (fun hc => absurd hc (by first | decide +kernel | (simp; first | done | fail))) (fun _ => ?_); refine st_ ?_; (try (refine runo0 400 hty hnt hmh ?_; refine st_ ?_)))
      (refine go_gsplit rfl rfl (fun _ => ?_) (fun hc => absurd hc (by first | decide +kernel | (simp; first | done | fail))); refine st_ ?_; (try (refine runo0 400 hty hnt hmh ?_; refine st_ ?_)))
      refine go_ops ?_
      refine x_if rfl rfl rfl rfl (fun h3 => ?_) (fun h3 => ?_)
      · have h3 := of_decide_eq_true h3
        refine rn_ ?_; intros
        refine x_retc rfl hQ hmb rfl (by rw [hty]; simp only [so, sq, zy, zz, tyE, SO', SQ', opQ, opStore, opAlloc, ev, putS, dOk, cv, SV.cs, SV.one, SV.bool?, eqB, Value.oneCell', ldOwn, binInt, binConst, binBool, binStr, isC, TK.agg, rv, rv1, ldV, resOne, resV, Nat.reduceAdd, Nat.reduceMul, Nat.reduceSub, Nat.reduceLT, Nat.reduceLeDiff, Nat.reduceEqDiff, Nat.reduceBEq, reduceIte, reduceCtorEq, eq_self]; try rfl) rfl ?_; simp only [SV.den, resV, dens]
        exact hst (.inr (by omega))
      · have h3 := of_decide_eq_false h3
        refine x_skip rfl ?_
        refine go_keep [2, 3] [0, 1] ?_
        refine st_ ?_
        have := hkey (by omega) (by omega)
        exact key _ ⟨this.1, this.2, rfl⟩
    · (refine go_gsplit rfl rfl (fun hc => absurd hc (by first | decide +kernel | (simp; first | done | fail))) (fun _ => ?_); refine st_ ?_; (try (refine runo0 400 hty hnt hmh ?_; refine st_ ?_)))
      (refine go_gsplit rfl rfl (fun hc => absurd hc (by first | decide +kernel | (simp; first | done | fail))) (fun _ => ?_); refine st_ ?_; (try (refine runo0 400 hty hnt hmh ?_; refine st_ ?_)))
      refine go_ops ?_
      refine x_iff rfl rfl rfl ?_
      refine x_skip rfl ?_
      refine go_keep [2, 3] [0, 1] ?_
      refine st_ ?_
      have := hkey (by omega) (by omega)
      exact key _ ⟨this.1, this.2, rfl⟩
  rintro st ⟨q1, q2, rfl⟩
  simp only [List.drop_succ_cons, List.drop_zero]
  have hfe : stOk m s = (s.vals.all vld && pOk s.vals.length [] s.ps) := by
    have h0 : (m != 0) = true := by rcases hm with ⟨_, _, rfl | rfl⟩ | ⟨_, _, rfl⟩ | ⟨_, _, rfl⟩ <;> rfl
    rw [stOk, q1, q2, h0]; rfl
  clear q1 q2 hm
  refine rn_ ?_; intros
  refine go_keep [2, 3, 33, 34, 35] [0, 1] ?_
  refine st_ ?_
  refine x_loop rfl (fun q st => ∃ (k : Nat) (G' : Hp), k ≤ s.vals.length ∧ q = s.vals.length - k ∧ Le G G' ∧ s.vals.all vld = (s.vals.drop k).all vld ∧
    st = ⟨[(2, .p 0 b2 0), (3, .p 1 b3 0), (33, .v (.slice ad1 s.vals.length cap1)), (34, .v (.int .i64 s.vals.length)), (35, .v (.int .i64 k))], [(0, b2, .c 89 [.v (.int .i64 K), .v (.int .i64 mo), .v (.bool pt), .v fn]), (1, b3, .c 44 [.v (.slice ad1 s.vals.length cap1), .v (.slice ad2 s.ps.length cap2)])], G', []⟩) ⟨0, G, by omega, rfl, Le.refl _, rfl, rfl⟩ ?_
  rintro q st ⟨k, G1, hk, hq, hle, hinv, rfl⟩ ih
  refine rn_ ?_; intros
  refine x_if rfl rfl rfl rfl (fun hjl => ?_) (fun hjl => ?_)
  · have hlt : k < s.vals.length := by simp at hjl; omega
    obtain ⟨c1, o1, sl, rfl, hat, hrep, hb⟩ := rV_at hv (i := k) hlt
    obtain ⟨asl, csl, rfl⟩ := VT.rep_slice hrep
    rw [List.drop_eq_getElem_cons hlt, List.all_cons] at hinv
    refine rn_ ?_; intros
    refine go_q (by rw [hnt]; rfl) (quiet_index (by rw [hty]; rfl) (by rw [hty]; rfl) rfl rfl rfl (by omega) (by omega)) ?_
    refine rn_ ?_; intros
    refine go_q (by rw [hnt]; rfl) (quiet_load (by rw [hty]; rfl) rfl (by simp [TK.agg]) (hat.mono hle) rfl) ?_
    refine rn_ ?_; intros
    refine go_callf (by rw [hnt]; rfl) (by rw [hP]; kernel_rfl) rfl (hP ▸ check_ok s.vals[k] _ _ (VT.rep_mono hle hrep)) ?_; refine rn_ ?_; intros
    rw [chk_ne0]
    refine x_split rfl rfl rfl (fun ha => ?_) (fun ha => ?_) <;> (refine st_ ?_; (refine ru_ ?_; intros))
    · refine rn_ ?_; intros
      refine x_retc rfl hQ hmb rfl (by rw [hty]; simp only [so, sq, zy, zz, tyE, SO', SQ', opQ, opStore, opAlloc, ev, putS, dOk, cv, SV.cs, SV.one, SV.bool?, eqB, Value.oneCell', ldOwn, binInt, binConst, binBool, binStr, isC, TK.agg, rv, rv1, ldV, resOne, resV, Nat.reduceAdd, Nat.reduceMul, Nat.reduceSub, Nat.reduceLT, Nat.reduceLeDiff, Nat.reduceEqDiff, Nat.reduceBEq, reduceIte, reduceCtorEq, eq_self]; try rfl) rfl ?_; simp only [SV.den, resV, dens]
      simp at ha
      rw [hfe, hinv, ha]; rfl
    have ha' : vld s.vals[k] = true := by simpa using ha
    rw [ha', Bool.true_and] at hinv
    refine rn_ ?_; intros
    rw [wr (n := (k : Int) + 1) (by omega) (by omega)]
    refine go_keep [2, 3, 33, 34, 35] [0, 1] ?_
    refine st_ ?_
    exact ih (s.vals.length - (k + 1)) _ (by omega) ⟨k + 1, G1, by omega, rfl, hle, hinv, by simp⟩
  have hge : k = s.vals.length := by simp at hjl; omega
  rw [hge, List.drop_length] at hinv
  rw [hinv, List.all_nil, Bool.true_and] at hfe
  clear ih hinv hge hjl hq hk
  refine rn_ ?_; intros
  refine go_mkmap 40 .i64 (by rw [hnt]; rfl) rfl (by omega) ?_
  intro bm
  refine rn_ ?_; intros
  refine go_keep [2, 3, 7, 45, 46, 47] [0, 1, 40] ?_
  refine st_ ?_
  refine x_loop rfl (fun q st => ∃ (k : Nat) (sn : List Int) (G' : Hp), k ≤ s.ps.length ∧ q = s.ps.length - k ∧ Le G G' ∧ pOk s.vals.length [] s.ps = pOk s.vals.length sn (s.ps.drop k) ∧
    st = ⟨[(2, .p 0 b2 0), (3, .p 1 b3 0), (7, .v (.map (some bm))), (45, .v (.slice ad2 s.ps.length cap2)), (46, .v (.int .i64 s.ps.length)), (47, .v (.int .i64 k))], [(0, b2, .c 89 [.v (.int .i64 K), .v (.int .i64 mo), .v (.bool pt), .v fn]), (1, b3, .c 44 [.v (.slice ad1 s.vals.length cap1), .v (.slice ad2 s.ps.length cap2)]), (40, bm, .o (mObj .i64 (mesN 0 sn) sn.length))], G', []⟩) ⟨0, [], G1, by omega, rfl, hle, rfl, rfl⟩ ?_
  clear hle
  rintro q st ⟨k, sn, G1, hk, hq, hle, hinv, rfl⟩ ih
  refine rn_ ?_; intros
  refine x_if rfl rfl rfl rfl (fun hjl => ?_) (fun hjl => ?_)
  · have hlt : k < s.ps.length := by simp at hjl; omega
    obtain ⟨c1, o1, sl, rfl, hat, hrep, hb, h64⟩ := rPo_at hp (i := k) hlt
    obtain ⟨asl, csl, rfl⟩ := VT.rep_slice hrep
    rw [List.drop_eq_getElem_cons hlt, pOk] at hinv
    generalize s.ps[k] = p at *
    have hno : (p.nm.k == 4 && vld p.nm && !(sn.any fun m => m == p.nm.n) && decide (0 ≤ p.pt) && decide (p.pt ≤ s.vals.length)) = false → Value.bool false = .bool (stOk m s) := fun h => by rw [hfe, hinv, h]; rfl
    refine rn_ ?_; intros
    refine go_q (by rw [hnt]; rfl) (quiet_index (by rw [hty]; rfl) (by rw [hty]; rfl) rfl rfl rfl (by omega) (by omega)) ?_
    refine rn_ ?_; intros
    refine go_q (by rw [hnt]; rfl) (quiet_load (by rw [hty]; rfl) rfl (by simp [TK.agg]) (hat.mono hle) rfl) ?_
    refine rn_ ?_; intros
    rename_i b9
    refine go_gsplit rfl rfl (fun h1 => ?_) (fun h1 => ?_) <;> (refine st_ ?_; (refine rn_ ?_; intros))
    · repeat (refine go_gundef rfl (by rw [hnt]; rfl) rfl ?_; (refine st_ ?_; (refine rn_ ?_; intros)))
      refine rn_ ?_; intros
      refine x_retc rfl hQ hmb rfl (by rw [hty]; simp only [so, sq, zy, zz, tyE, SO', SQ', opQ, opStore, opAlloc, ev, putS, dOk, cv, SV.cs, SV.one, SV.bool?, eqB, Value.oneCell', ldOwn, binInt, binConst, binBool, binStr, isC, TK.agg, rv, rv1, ldV, resOne, resV, Nat.reduceAdd, Nat.reduceMul, Nat.reduceSub, Nat.reduceLT, Nat.reduceLeDiff, Nat.reduceEqDiff, Nat.reduceBEq, reduceIte, reduceCtorEq, eq_self]; try rfl) rfl ?_; simp only [SV.den, resV, dens]
      refine hno ?_
      simp only [bne_iff_ne, ne_eq] at h1
      simp [h1]
    have h1' : (p.nm.k == 4) = true := by simpa using h1
    refine go_callf (by rw [hnt]; rfl) (by rw [hP]; kernel_rfl) rfl (hP ▸ check_ok p.nm _ _ (VT.rep_mono hle hrep)) ?_; refine rn_ ?_; intros
    rw [chk_ne0]
    refine go_gsplit rfl rfl (fun h2 => ?_) (fun h2 => ?_) <;> (refine st_ ?_; (refine rn_ ?_; intros))
    · repeat (refine go_gundef rfl (by rw [hnt]; rfl) rfl ?_; (refine st_ ?_; (refine rn_ ?_; intros)))
      refine rn_ ?_; intros
      refine x_retc rfl hQ hmb rfl (by rw [hty]; simp only [so, sq, zy, zz, tyE, SO', SQ', opQ, opStore, opAlloc, ev, putS, dOk, cv, SV.cs, SV.one, SV.bool?, eqB, Value.oneCell', ldOwn, binInt, binConst, binBool, binStr, isC, TK.agg, rv, rv1, ldV, resOne, resV, Nat.reduceAdd, Nat.reduceMul, Nat.reduceSub, Nat.reduceLT, Nat.reduceLeDiff, Nat.reduceEqDiff, Nat.reduceBEq, reduceIte, reduceCtorEq, eq_self]; try rfl) rfl ?_; simp only [SV.den, resV, dens]
      refine hno ?_
      simp at h2
      simp [h2]
    have h2' : vld p.nm = true := by simpa using h2
    refine go_q (v := .bool (sn.any fun m => m == p.nm.n)) (by rw [hnt]; rfl) ((quiet_lookup (ok := false) 40 (z := .bool false) (by rw [hty]; rfl) (by rw [hty]; rfl) (by rw [hP]; exact ⟨_, (by kernel_rfl : Try.prog.info? 4 = some Try.t4), rfl⟩) rfl rfl rfl).cast (mesN_val _ _ _)) ?_
    refine rn_ ?_; intros
    refine x_split rfl rfl rfl (fun h3 => ?_) (fun h3 => ?_) <;> (refine st_ ?_; (refine ru_ ?_; intros))
    · refine rn_ ?_; intros
      refine x_retc rfl hQ hmb rfl (by rw [hty]; simp only [so, sq, zy, zz, tyE, SO', SQ', opQ, opStore, opAlloc, ev, putS, dOk, cv, SV.cs, SV.one, SV.bool?, eqB, Value.oneCell', ldOwn, binInt, binConst, binBool, binStr, isC, TK.agg, rv, rv1, ldV, resOne, resV, Nat.reduceAdd, Nat.reduceMul, Nat.reduceSub, Nat.reduceLT, Nat.reduceLeDiff, Nat.reduceEqDiff, Nat.reduceBEq, reduceIte, reduceCtorEq, eq_self]; try rfl) rfl ?_; simp only [SV.den, resV, dens]
      refine hno ?_
      rw [h3]; simp
    refine rn_ ?_; intros
    refine go_gsplit rfl rfl (fun h4 => ?_) (fun h4 => ?_) <;> (refine st_ ?_; (refine rn_ ?_; intros))
    · repeat (refine go_gundef rfl (by rw [hnt]; rfl) rfl ?_; (refine st_ ?_; (refine rn_ ?_; intros)))
      refine rn_ ?_; intros
      refine x_retc rfl hQ hmb rfl (by rw [hty]; simp only [so, sq, zy, zz, tyE, SO', SQ', opQ, opStore, opAlloc, ev, putS, dOk, cv, SV.cs, SV.one, SV.bool?, eqB, Value.oneCell', ldOwn, binInt, binConst, binBool, binStr, isC, TK.agg, rv, rv1, ldV, resOne, resV, Nat.reduceAdd, Nat.reduceMul, Nat.reduceSub, Nat.reduceLT, Nat.reduceLeDiff, Nat.reduceEqDiff, Nat.reduceBEq, reduceIte, reduceCtorEq, eq_self]; try rfl) rfl ?_; simp only [SV.den, resV, dens]
      refine hno ?_
      have := of_decide_eq_true h4
      rw [decide_eq_false (p := 0 ≤ p.pt) (by omega)]; simp
    have h4' := of_decide_eq_false h4
    refine x_split rfl rfl rfl (fun h5 => ?_) (fun h5 => ?_) <;> (refine st_ ?_; (refine ru_ ?_; intros))
    · refine rn_ ?_; intros
      refine x_retc rfl hQ hmb rfl (by rw [hty]; simp only [so, sq, zy, zz, tyE, SO', SQ', opQ, opStore, opAlloc, ev, putS, dOk, cv, SV.cs, SV.one, SV.bool?, eqB, Value.oneCell', ldOwn, binInt, binConst, binBool, binStr, isC, TK.agg, rv, rv1, ldV, resOne, resV, Nat.reduceAdd, Nat.reduceMul, Nat.reduceSub, Nat.reduceLT, Nat.reduceLeDiff, Nat.reduceEqDiff, Nat.reduceBEq, reduceIte, reduceCtorEq, eq_self]; try rfl) rfl ?_; simp only [SV.den, resV, dens]
      refine hno ?_
      have := of_decide_eq_true h5
      rw [decide_eq_false (p := p.pt ≤ s.vals.length) (by omega)]; simp
    have h5' := of_decide_eq_false h5
    rw [h1', h2', h3, decide_eq_true (p := 0 ≤ p.pt) (by omega), decide_eq_true (p := p.pt ≤ s.vals.length) (by omega)] at hinv
    simp only [Bool.not_false, Bool.and_true, Bool.true_and] at hinv
    refine rn_ ?_; intros
    refine go_mupd 40 (.inl rfl) (by rw [hnt]; rfl) (by rw [hty]; rfl) (by rw [hty]; rfl) rfl rfl rfl rfl ?_
    have hpn := mesN_put p.nm.n 0 0 sn h3
    rw [Nat.zero_add] at hpn
    have hck : mclk p.nm.n sn.length (mesN 0 sn) = (sn ++ [p.nm.n]).length := by rw [mclk, mesN_get, h3]; simp
    simp only [cv, SV.den]
    rw [hpn, hck]
    refine st_ ?_
    refine rn_ ?_; intros
    rw [wr (n := (k : Int) + 1) (by omega) (by omega)]
    refine go_keep [2, 3, 7, 45, 46, 47] [0, 1, 40] ?_
    refine st_ ?_
    exact ih (s.ps.length - (k + 1)) _ (by omega) ⟨k + 1, sn ++ [p.nm.n], G1, by omega, rfl, hle, hinv, by simp⟩
  have hge : k = s.ps.length := by simp at hjl; omega
  rw [hge, List.drop_length, pOk] at hinv
  refine rn_ ?_; intros
  refine x_retc rfl hQ hmb rfl (by rw [hty]; simp only [so, sq, zy, zz, tyE, SO', SQ', opQ, opStore, opAlloc, ev, putS, dOk, cv, SV.cs, SV.one, SV.bool?, eqB, Value.oneCell', ldOwn, binInt, binConst, binBool, binStr, isC, TK.agg, rv, rv1, ldV, resOne, resV, Nat.reduceAdd, Nat.reduceMul, Nat.reduceSub, Nat.reduceLT, Nat.reduceLeDiff, Nat.reduceEqDiff, Nat.reduceBEq, reduceIte, reduceCtorEq, eq_self]; try rfl) rfl ?_; simp only [SV.den, resV, dens]
  rw [hfe, hinv]
end Go.Proofs.Ytpmmbjcgabnloaa
namespace Go.Proofs.Ytpmmbjcgabnloaa
set_option linter.unusedSimpArgs false
set_option linter.unusedVariables false
open Go.Sx
set_option maxHeartbeats 8000000
set_option maxRecDepth 20000
theorem vld_sml {x : VT} (h : vld x = true) : sml x = true := by
  rw [vld] at h
  cases hs : sml x with
  | true => rfl
  | false => rw [hs] at h; cases h
end Go.Proofs.Ytpmmbjcgabnloaa
namespace Go.Proofs.Ytpmmbjcgabnloaa
set_option linter.unusedSimpArgs false
set_option linter.unusedVariables false
open Go.Sx
set_option maxHeartbeats 8000000
set_option maxRecDepth 20000
def doP (m : Int) (s : MS) (o : Op) : MS × VT × Bool := if m = 1 then varP s o else if m = 2 then slotP s o else if m = 3 then boxP s o else castP s o
structure MS.vd (s : MS) : Prop where
  v : ∀ x ∈ s.vals, vld x = true
  p : ∀ p ∈ s.ps, vld p.nm = true
theorem pOk_all : ∀ {nv : Nat} {sn : List Int} {l : List Po}, pOk nv sn l = true → ∀ p ∈ l, vld p.nm = true ∧ 0 ≤ p.pt ∧ p.pt ≤ nv
  | _, _, [], _ => fun _ h => by cases h
  | nv, sn, p :: r, h => fun x hx => by
    simp only [pOk, Bool.and_eq_true, decide_eq_true_eq] at h
    rcases List.mem_cons.1 hx with rfl | hx
    · exact ⟨h.1.1.1.1.2, h.1.1.2, h.1.2⟩
    · exact pOk_all h.2 x hx
theorem stOk_vd {m : Int} {s : MS} (h : stOk m s = true) : s.vd ∧ s.wf := by
  simp only [stOk, Bool.and_eq_true, List.all_eq_true] at h
  obtain ⟨⟨_, h1⟩, h2⟩ := h
  exact ⟨⟨h1, fun p hp => (pOk_all h2 p hp).1⟩, fun p hp => (pOk_all h2 p hp).2⟩
theorem sml_none : sml noneV = true := by decide +kernel
theorem sml_unit : sml unitV = true := by decide +kernel
theorem sml_int (n : Int) : sml (intV n) = true := by simp [intV, sml, cnt, cntL]
structure DoOk (s : MS) (r : MS × VT × Bool) : Prop where
  vd : r.1.vd
  sm : sml r.2.1 = true
  lv : r.1.vals.length ≤ s.vals.length + 1
  lp : r.1.ps.length ≤ s.ps.length + 1
theorem box_vd {s : MS} {o : Op} (h : s.vd) (ha : vld o.arg = true) : DoOk s (boxP s o) := by
  rw [boxP]
  split
  · refine ⟨⟨fun x hx => ?_, h.p⟩, sml_unit, by simp, by simp⟩
    rcases List.mem_append.1 hx with hx | hx
    · exact h.v x hx
    · simp at hx; subst hx; exact ha
  · split
    · exact ⟨h, sml_none, by simp, by simp⟩
    · rename_i v r e
      refine ⟨⟨fun x hx => h.v x (by rw [e]; simp [hx]), h.p⟩, vld_sml (h.v v (by rw [e]; simp)), by rw [e]; simp; omega, by simp⟩
theorem do_vd {m : Int} {s : MS} {o : Op} (h : s.vd) (ha : vld o.arg = true) (hr : o.dn = true → vld o.res = true) : DoOk s (doP m s o) := by
  have h0 : DoOk s (s, noneV, false) := ⟨h, sml_none, by simp, by simp⟩
  rw [doP]
  split
  · rw [varP]
    split
    · split
      · exact ⟨⟨fun x hx => by
          rcases List.mem_append.1 hx with hx | hx
          · exact h.v x hx
          · simp at hx; subst hx; exact ha, h.p⟩, sml_int 1, by simp, by simp⟩
      · exact h0
    · rename_i v r e
      split
      · exact ⟨h, sml_int 0, by simp, by simp⟩
      · exact ⟨h, vld_sml (h.v v (by rw [e]; simp)), by simp, by simp⟩
  split
  · rw [slotP]
    split
    · exact h0
    · exact box_vd h ha
  split
  · exact box_vd h ha
  · rw [castP]
    split
    · split
      · exact h0
      · rename_i hc
        have hd : o.dn = true := by
          cases hd : o.dn
          · rw [hd] at hc; simp at hc
          · rfl
        refine ⟨⟨h.v, fun p hp => ?_⟩, vld_sml (hr hd), by simp, by simp⟩
        rcases List.mem_append.1 hp with hp | hp
        · exact h.p p hp
        · simp at hp; subst hp; exact hr hd
    · split
      · refine ⟨⟨fun x hx => ?_, h.p⟩, sml_unit, by simp, by simp⟩
        rcases List.mem_append.1 hx with hx | hx
        · exact h.v x hx
        · simp at hx; subst hx; exact ha
      · split
        · exact h0
        · rename_i i hi
          have hil := (pix_lt hi).2
          have hg : s.ps.getD i ⟨noneV, 0⟩ = s.ps[i]'(by omega) := by rw [List.getD_eq_getElem?_getD, List.getElem?_eq_getElem (by omega)]; rfl
          split
          · exact h0
          · refine ⟨⟨h.v, fun p hp => ?_⟩, ?_, by simp, by simp⟩
            · rcases List.mem_or_eq_of_mem_set hp with hp | hp
              · exact h.p p hp
              · subst hp; rw [hg]; exact h.p s.ps[i] (List.getElem_mem _)
            · generalize (s.ps.getD i ⟨noneV, 0⟩).pt.toNat = j
              show sml (s.vals.getD j noneV) = true
              rw [List.getD_eq_getElem?_getD]
              rcases Nat.lt_or_ge j s.vals.length with q | q
              · rw [List.getElem?_eq_getElem q]; exact vld_sml (h.v _ (List.getElem_mem _))
              · rw [List.getElem?_eq_none q]; exact sml_none
structure EffOk (m : Int) (K mo : Int) (pt : Bool) (f : Nat) : Prop where
  get : mget m effE = some (effV K mo pt f)
  kn : K = kns m
  fit : (mo = 1 ∧ pt = false ∧ (m = 1 ∨ m = 2)) ∨ (mo = 0 ∧ pt = false ∧ m = 3) ∨ (mo = 0 ∧ pt = true ∧ m = 4)
  can : canCall Try.prog f = true
  run : ∀ (s : MS) (o : Op) (sa sr : Value) (b : Nat) (ow : Lds) (G0 G : Hp), Le G0 G → StO G0 b s G ow → o.rep G sa sr → s.vals.length < 1000000 → s.ps.length < 1000000 → s.wf → PureW Try.prog f [.pointer (some ⟨b, 0, none⟩), .agg (opL o sa sr).toArray] G ow (doPost G0 b (doP m s o))
theorem eff_of (m : Int) : (kns m = 0 ∧ mget m effE = none) ∨ ∃ K mo pt f, EffOk m K mo pt f := by
  by_cases h1 : m = 1
  · subst h1
    exact .inr ⟨2, 1, false, 60, rfl, rfl, by simp, by kernel_rfl, fun s o sa sr b ow G0 G h1 h2 h3 h4 _ _ => doVar_ok s o sa sr b ow G0 G h1 h2 h3 h4⟩
  by_cases h2 : m = 2
  · subst h2
    exact .inr ⟨2, 1, false, 61, rfl, rfl, by simp, by kernel_rfl, fun s o sa sr b ow G0 G h1 h2 h3 h4 _ _ => doSlot_ok s o sa sr b ow G0 G h1 h2 h3 h4⟩
  by_cases h3 : m = 3
  · subst h3
    exact .inr ⟨2, 0, false, 62, rfl, rfl, by simp, by kernel_rfl, fun s o sa sr b ow G0 G h1 h2 h3 h4 _ _ => doBox_ok s o sa sr b ow G0 G h1 h2 h3 h4⟩
  by_cases h4 : m = 4
  · subst h4
    exact .inr ⟨3, 0, true, 63, rfl, rfl, by simp, by kernel_rfl, fun s o sa sr b ow G0 G h1 h2 h3 h4 h5 h6 => doCast_ok s o sa sr b ow G0 G h1 h2 h3 h4 h5 h6⟩
  refine .inl ⟨?_, ?_⟩
  · rw [kns, if_neg (by omega), if_neg (by omega)]
  · simp only [effE, mget, if_neg (Ne.symm h1), if_neg (Ne.symm h2), if_neg (Ne.symm h3), if_neg (Ne.symm h4)]
theorem kns0_rgt {m : Int} {o : Op} (h : kns m = 0) : rgtO (kns m) o = false := by
  rw [h, rgtO]
  by_cases hk : 0 ≤ o.kd
  · rw [decide_eq_false (p := o.kd < 0) (by omega)]; simp
  · rw [decide_eq_false (p := 0 ≤ o.kd) hk]; simp
theorem rgt_vld {K : Int} {o : Op} (h : rgtO K o = true) : vld o.arg = true ∧ (o.dn = true → vld o.res = true) := by
  simp only [rgtO, Bool.and_eq_true] at h
  refine ⟨h.1.2, fun hd => ?_⟩
  have := h.2
  rw [if_pos hd, Bool.and_eq_true] at this
  exact this.1
def doR (m : Int) (s : MS) (o : Op) : MS × VT × Bool × Int := if rgtO (kns m) o && stOk m s then ((doP m s o).1, (doP m s o).2.1, (doP m s o).2.2, 0) else (⟨[], []⟩, noneV, false, 2)
end Go.Proofs.Ytpmmbjcgabnloaa
namespace Go.Proofs.Ytpmmbjcgabnloaa
set_option linter.unusedSimpArgs false
set_option linter.unusedVariables false
open Go.Sx
set_option maxHeartbeats 8000000
set_option maxRecDepth 20000
theorem doRes {sl : List (Nat × SV)} {own : List (Nat × Nat × OO)} {be bt bv bc : Nat} {tv tp vk vn vl : Value} {can : Bool} {e : Int} {T : TypeId → Option TI} (hT : T = ty) (h6 : lk 6 sl = some (.p 2 bt 0)) (h7 : lk 7 sl = some (.p 3 bv 0)) (h8 : lk 8 sl = some (.p 4 bc 0)) (h9 : lk 9 sl = some (.p 5 be 0))
    (o0 : lk 5 own = some (be, .c 32 [.v (.int .i64 e)])) (o1 : lk 2 own = some (bt, .c 44 [.v tv, .v tp])) (o2 : lk 3 own = some (bv, .c 28 [.v vk, .v vn, .v vl])) (o3 : lk 4 own = some (bc, .c 4 [.v (.bool can)])) :
    resAll sl T own Try.f17.results.toList = some [.a [.v tv, .v tp], .a [.v vk, .v vn, .v vl], .v (.bool can), .v (.int .i64 e)] := by
  have e : Try.f17.results.toList = [.cell 6 44, .cell 7 28, .cell 8 4, .cell 9 32] := rfl
  subst hT
  rw [e]
  simp only [resAll, resOne, h6, h7, h8, h9, o0, o1, o2, o3, if_true]
  refine st_ ?_
  simp only [o0, o1, o2, o3, if_true]
  rfl
theorem doRes4 (tmps : Array Value) (v : Value) (d : Nat) (h : d < 6 ∨ 9 < d) : results Try.f17 (tmps.setIfInBounds d v) = results Try.f17 tmps := by
  have e : Try.f17.results = #[.cell 6 44, .cell 7 28, .cell 8 4, .cell 9 32] := rfl
  simp only [results, e]
  have h6 : d ≠ 6 := by omega
  have h7 : d ≠ 7 := by omega
  have h8 : d ≠ 8 := by omega
  have h9 : d ≠ 9 := by omega
  simp [Array.getElem?_setIfInBounds, h6, h7, h8, h9]
def doRet (r : MS × VT × Bool × Int) (v : Value) (G : Hp) (rs : List Rw) : Prop := ∃ v1 v2 sl xs ys, v = .tuple #[.agg #[v1, v2], .agg #[.int .i64 r.2.1.k, .int .i64 r.2.1.n, sl], .bool r.2.2.1, .int .i64 r.2.2.2] ∧ rs = stRows v1 r.1.vals.length xs v2 r.1.ps.length ys ∧ rV.L G r.1.vals xs ∧ rPo.L G r.1.ps ys ∧ r.2.1.rep G sl ∧ tsz r.2.1 ≤ 1048576
theorem hDo_ok (m : Int) (s : MS) (sv sp : Value) (o : Op) (sa sr : Value) (G : Hp) (hs : s.rep G sv sp) (ho : o.rep G sa sr) (hl : s.vals.length ≤ 100) (hlp : s.ps.length ≤ 100) :
    PureV Try.prog 17 [.int .i64 m, .agg #[sv, sp], .agg (opL o sa sr).toArray] G (doRet (doR m s o)) := by
  obtain ⟨ada, capa, rfl⟩ := VT.rep_slice ho.a
  obtain ⟨adr, capr, rfl⟩ := VT.rep_slice ho.r
  obtain ⟨ad1, cap1, rfl⟩ := Rp.S_slice hs.v
  obtain ⟨ad2, cap2, rfl⟩ := Rp.S_slice hs.p
  refine enterDV ty tyok Try.func17 rfl Try.ntmps17 [.v (.int .i64 m), .a [.v (.slice ad1 s.vals.length cap1), .v (.slice ad2 s.ps.length cap2)], .a (opC o (.slice ada o.arg.l.length capa) (.slice adr o.res.l.length capr))] (by simp) ?_
  simp only [opC]
  intro C hP hQ hnt hty hmb hmh hro; refine st_ ?_
  refine rn_ ?_; intros
  refine go_defer hro (by rw [hnt]; rfl) rfl rfl ?_
  refine rn_ ?_; intros
  rename_i bs bo bt bv bc be
  have hQD : ∀ d, d < 6 ∨ 9 < d → QPd C (some d) := fun d h => qpd_bodyD hQ fun tmps v => doRes4 tmps v d h
  refine go_call (by rw [hnt]; rfl) (by rw [hP]; kernel_rfl) rfl (hP ▸ effects_ok G) ?_
  rintro v G1 (hle1 : Le G G1) ⟨mp, rfl, hmp⟩
  refine rn_ ?_; intros
  rcases eff_of m with ⟨hk0, hg0⟩ | ⟨K, mo, pt, f, he⟩
  · refine go_q (v := .tuple #[.agg #[.int .i64 0, .int .i64 0, .bool false, .nilFunc], .bool false]) (by rw [hnt]; rfl) ((quiet_lookupG (ok := true) (z := .agg #[.int .i64 0, .int .i64 0, .bool false, .nilFunc]) (by rw [hty]; rfl) (by rw [hty]; rfl) (by rw [hP]; exact ⟨_, (by kernel_rfl : Try.prog.info? 89 = some Try.t89), rfl⟩) rfl rfl hmp).cast (by rw [hg0]; rfl)) ?_
    refine rn_ ?_; intros
    repeat (first | (refine go_gsplit rfl rfl (fun hc => absurd hc (by first | decide +kernel | (simp; first | done | fail))) (fun _ => ?_); refine st_ ?_; (refine rn_ ?_; intros)) | (refine go_gsplit rfl rfl (fun _ => ?_) (fun hc => absurd hc (by first | decide +kernel | (simp; first | done | fail))); refine st_ ?_; (refine rn_ ?_; intros)) | (refine x_split rfl rfl rfl (fun hc => absurd hc (by first | decide +kernel | (simp; first | done | fail))) (fun _ => ?_); refine st_ ?_; (refine ru_ ?_; intros)) | (refine x_split rfl rfl rfl (fun _ => ?_) (fun hc => absurd hc (by first | decide +kernel | (simp; first | done | fail))); refine st_ ?_; (refine ru_ ?_; intros)))
    repeat (refine go_gundef rfl (by rw [hnt]; rfl) rfl ?_; (refine st_ ?_; (refine rn_ ?_; intros)))
    repeat (first | (refine go_gsplit rfl rfl (fun hc => absurd hc (by first | decide +kernel | (simp; first | done | fail))) (fun _ => ?_); refine st_ ?_; (refine rn_ ?_; intros)) | (refine go_gsplit rfl rfl (fun _ => ?_) (fun hc => absurd hc (by first | decide +kernel | (simp; first | done | fail))); refine st_ ?_; (refine rn_ ?_; intros)) | (refine x_split rfl rfl rfl (fun hc => absurd hc (by first | decide +kernel | (simp; first | done | fail))) (fun _ => ?_); refine st_ ?_; (refine ru_ ?_; intros)) | (refine x_split rfl rfl rfl (fun _ => ?_) (fun hc => absurd hc (by first | decide +kernel | (simp; first | done | fail))); refine st_ ?_; (refine ru_ ?_; intros)))
    repeat (refine go_gundef rfl (by rw [hnt]; rfl) rfl ?_; (refine st_ ?_; (refine rn_ ?_; intros)))
    refine rn_ ?_; intros
    refine go_callWP [] (ow := []) (by rw [hnt]; rfl) rfl (by rw [hP]; kernel_rfl) rfl rfl rfl (.inl (by intro k hk; cases hk)) (hP ▸ need_ok false 2 G1) ?_ ?_
    · rintro v G' ow' _ ⟨h, _⟩
      cases h
    rintro v ⟨rfl, _⟩
    have e : doR m s o = (⟨[], []⟩, noneV, false, 2) := by rw [doR, kns0_rgt hk0]; rfl
    rw [e] at hQ
    refine x_panDV 60 hQ hmb hmh rfl (by rw [hP]; kernel_rfl) (ks := [5, 2, 3, 4]) (ow := doC be bt bv bc 0 (.slice none 0 0) (.slice none 0 0) (.int .i64 0) (.int .i64 0) (.slice none 0 0) false) rfl rfl (.inl (by intro k hk; omega)) (hP ▸ doClo_catch be bt bv bc _ _ _ _ _ _ 0 2 (by omega) _) ?_
    rintro u' G' ow' _ ⟨hs', rfl⟩
    refine ⟨hs', _, stRows (.slice none 0 0) 0 [] (.slice none 0 0) 0 [], doRes hty rfl rfl rfl rfl rfl rfl rfl rfl, .inr ?_, ?_⟩
    · intro r hr
      simp only [stRows, List.mem_cons, List.not_mem_nil, or_false] at hr
      rcases hr with rfl | rfl <;> exact ⟨rfl, rfl, rfl⟩
    · exact ⟨_, _, _, _, _, rfl, rfl, rfl, rfl, rep_leaf _ 0 0 (by simp [isI64]) (by simp [isI64]), by simp [noneV, tsz, tszL]⟩
  · refine go_q (v := .tuple #[effV K mo pt f, .bool true]) (by rw [hnt]; rfl) ((quiet_lookupG (ok := true) (z := .agg #[.int .i64 0, .int .i64 0, .bool false, .nilFunc]) (by rw [hty]; rfl) (by rw [hty]; rfl) (by rw [hP]; exact ⟨_, (by kernel_rfl : Try.prog.info? 89 = some Try.t89), rfl⟩) rfl rfl hmp).cast (by rw [he.get]; rfl)) ?_
    simp only [effV]
    refine rn_ ?_; intros
    repeat (first | (refine go_gsplit rfl rfl (fun hc => absurd hc (by first | decide +kernel | (simp; first | done | fail))) (fun _ => ?_); refine st_ ?_; (refine rn_ ?_; intros)) | (refine go_gsplit rfl rfl (fun _ => ?_) (fun hc => absurd hc (by first | decide +kernel | (simp; first | done | fail))); refine st_ ?_; (refine rn_ ?_; intros)) | (refine x_split rfl rfl rfl (fun hc => absurd hc (by first | decide +kernel | (simp; first | done | fail))) (fun _ => ?_); refine st_ ?_; (refine ru_ ?_; intros)) | (refine x_split rfl rfl rfl (fun _ => ?_) (fun hc => absurd hc (by first | decide +kernel | (simp; first | done | fail))); refine st_ ?_; (refine ru_ ?_; intros)))
    refine go_callf (by rw [hnt]; rfl) (by rw [hP]; kernel_rfl) rfl (hP ▸ valid_ok2 K mo pt _ o _ _ G1 rfl (ho.mono hle1)) ?_; refine rn_ ?_; intros
    have hK := he.kn
    have hno : (rgtO K o && stOk m s) = false → doR m s o = (⟨[], []⟩, noneV, false, 2) := fun h => by rw [doR, ← hK, h]; rfl
    refine go_gsplit rfl rfl (fun hv => ?_) (fun hv => ?_) <;> (refine st_ ?_; (refine rn_ ?_; intros))
    · -- valid
      refine go_callf (by rw [hnt]; rfl) (by rw [hP]; kernel_rfl) rfl (hP ▸ fits_ok K mo pt _ s _ _ m G1 rfl (hs.mono hle1) he.fit) ?_; refine rn_ ?_; intros
      cases hst : stOk m s
      · refine go_callWP [] (ow := []) (by rw [hnt]; rfl) rfl (by rw [hP]; kernel_rfl) rfl rfl rfl (.inl (by intro k hk; cases hk)) (hP ▸ need_ok _ 2 G1) ?_ ?_
        · rintro v G' ow' _ ⟨h, _⟩
          cases h
        rintro v ⟨rfl, _⟩
        rw [hno (by rw [hst, Bool.and_false])] at hQ
        refine x_panDV 60 hQ hmb hmh rfl (by rw [hP]; kernel_rfl) (ks := [5, 2, 3, 4]) (ow := doC be bt bv bc 0 (.slice none 0 0) (.slice none 0 0) (.int .i64 0) (.int .i64 0) (.slice none 0 0) false) rfl rfl (.inl (by intro k hk; omega)) (hP ▸ doClo_catch be bt bv bc _ _ _ _ _ _ 0 2 (by omega) _) ?_
        rintro u' G' ow' _ ⟨hs', rfl⟩
        refine ⟨hs', _, stRows (.slice none 0 0) 0 [] (.slice none 0 0) 0 [], doRes hty rfl rfl rfl rfl rfl rfl rfl rfl, .inr ?_, ?_⟩
        · intro r hr
          simp only [stRows, List.mem_cons, List.not_mem_nil, or_false] at hr
          rcases hr with rfl | rfl <;> exact ⟨rfl, rfl, rfl⟩
        · exact ⟨_, _, _, _, _, rfl, rfl, rfl, rfl, rep_leaf _ 0 0 (by simp [isI64]) (by simp [isI64]), by simp [noneV, tsz, tszL]⟩
      refine go_callWP [] (ow := []) (by rw [hnt]; rfl) rfl (by rw [hP]; kernel_rfl) rfl rfl rfl (.inl (by intro k hk; cases hk)) (hP ▸ need_ok _ 2 G1) ?_ ?_
      rotate_left
      · rintro v ⟨_, h⟩
        cases h
      rintro v G2 ow' (hle2 : Le G1 G2) ⟨_, rfl⟩
      simp only [setO]
      rename_i bf
      refine go_keep [4, 5, 6, 7, 8, 9, 10] [0, 1, 2, 3, 4, 5, 6] ?_
      refine st_ ?_
      clear v
      refine rn_ ?_; intros
      obtain ⟨⟨hvv, hvp⟩, hwf⟩ := stOk_vd hst
      have hle02 := hle1.trans hle2
      refine go_callV 60 (by rw [hnt]; rfl) (by rw [hP]; kernel_rfl) rfl rfl (by omega) (hP ▸ copyState_ok s _ _ G2 (hs.mono hle02) (fun x hx => vld_sml (hvv x hx)) (fun p hp => vld_sml (hvp p hp)) (by omega) (by omega)) ?_
      rintro v G3 rs Z (hle3 : Le G2 G3) ⟨v1, v2, xs, ys, rfl, rfl, hL, hM⟩
      refine go_ztake 60 61 0 rfl rfl rfl (by omega) (by omega) ?_
      intro Z1
      refine go_ztake 60 62 1 rfl rfl rfl (by omega) (by omega) ?_
      intro Z2
      refine go_drop 60 ?_
      simp only [stRows]
      refine st_ ?_
      refine go_qrow (G0 := G3) 61 rfl ?_
      intro Zv bz
      refine st_ ?_
      refine go_qval 61 rfl ?_
      rintro a1 c1 rfl _ _ _
      refine go_rowS 62 rfl ?_
      rintro a2 c2 rfl
      refine rn_ ?_; intros
      refine go_callWv [2, 61, 62] (f := f) (cap := []) (by rw [hnt]; rfl) (hP ▸ he.can) rfl rfl rfl rfl rfl (.inl (by intro k hk; omega)) (hP ▸ he.run s o _ _ bt _ G3 G3 (Le.refl _) ⟨_, _, bz, Zv, 0, xs, ys, rfl, hL, hM, by omega, by omega⟩ (ho.mono (hle02.trans hle3)) (by omega) (by omega) hwf) ?_
      rintro v G4 ow' (hle4 : Le G3 G4) ⟨slr, rfl, hrr, hrb, vv, pv, bz2, Z2, b2, xs2, ys2, rfl, hL2, hM2, hn1, hn2⟩
      simp only [setO]
      refine st_ ?_
      refine go_qval 61 rfl ?_
      rintro a3 c3 rfl _ _ _
      refine go_rowS 62 rfl ?_
      rintro a4 c4 rfl
      obtain ⟨asr, csr, rfl⟩ := VT.rep_slice hrr
      refine rn_ ?_; intros
      refine go_qpub rV 61 rfl hle4 (by omega) rfl (by omega) hL2 ?_
      intro G5 (hle5 : Le G4 G5) hS5
      refine st_ ?_
      refine go_pubL rPo 62 rfl (by omega) rfl (by omega) (Rp.L_mono hle5 hM2) ?_
      intro G6 ad6 cap6 (hle6 : Le G5 G6) he6 hS6
      rw [← he6] at hS6
      have hdv := do_vd (m := m) (s := s) (o := o) ⟨hvv, hvp⟩ (rgt_vld hv).1 (rgt_vld hv).2
      have hdR : doR m s o = ((doP m s o).1, (doP m s o).2.1, (doP m s o).2.2, 0) := by rw [doR, ← hK, hv, hst]; rfl
      rw [hdR] at hQ
      generalize doP m s o = r at *
      have hSv := Rp.S_mono hle6 hS5
      refine go_keep [6, 7, 8, 9] [2, 3, 4, 5] ?_
      refine st_ ?_
      refine x_held [(4, bc, .c 4 [.v (.bool r.2.2)])] rfl (by rw [hP]; kernel_rfl) rfl rfl rfl ?_; refine st_ ?_
      refine h_takeD 4 rfl (by kernel_rfl) (by kernel_rfl) (by kernel_rfl) (hQD _ (by decide)) (by rw [hnt]; rfl) (allIn (by repeat (first | exact trivial | refine ⟨rfl, ?_⟩))) (by first | exact Le.refl _ | assumption) (quiet_op (by rw [hty]; first | rfl | (refine st_ ?_; rfl))) ?_; refine st_ ?_
      refine h_two 0 2 rfl rfl (by kernel_rfl) ?_ ?_
      · refine rn_ ?_; intros
        refine h_hs (allIn (by repeat (first | exact trivial | refine ⟨rfl, ?_⟩))) (by first | exact Le.refl _ | assumption) ?_
        refine h_two 1 2 rfl rfl (by kernel_rfl) ?_ ?_
        · refine go_callV 60 (by rw [hnt]; rfl) (by rw [hP]; kernel_rfl) rfl rfl (by omega) (hP ▸ copyState_ok r.1 _ _ G6 ⟨hSv, hS6⟩ (fun x hx => vld_sml (hdv.vd.v x hx)) (fun p hp => vld_sml (hdv.vd.p p hp)) (by omega) (by omega)) ?_
          rintro v G7 rs Z7 (hle7 : Le G6 G7) ⟨v1, v2, xs3, ys3, rfl, rfl, hL3, hM3⟩
          refine go_ztake 60 61 0 rfl rfl rfl (by omega) (by omega) ?_
          intro Z3
          refine go_ztake 60 62 1 rfl rfl rfl (by omega) (by omega) ?_
          intro Z4
          refine go_drop 60 ?_
          simp only [stRows]
          refine st_ ?_
          refine go_rowS 61 rfl ?_
          rintro a5 c5 rfl
          refine go_rowS 62 rfl ?_
          rintro a6 c6 rfl
          refine rn_ ?_; intros
          refine h_hs (allIn (by repeat (first | exact trivial | refine ⟨rfl, ?_⟩))) (by first | exact Le.refl _ | assumption) ?_
          refine h_one 2 rfl (by kernel_rfl) ?_
          refine rn_ ?_; intros
          refine h_hs (allIn (by repeat (first | exact trivial | refine ⟨rfl, ?_⟩))) (by first | exact Le.refl _ | assumption) ?_
          refine h_one 3 rfl (by kernel_rfl) ?_
          refine go_call (by rw [hnt]; rfl) (by rw [hP]; kernel_rfl) rfl (hP ▸ copy_ok r.2.1 _ _ (VT.rep_mono (hle5.trans (hle6.trans hle7)) hrr) (by omega)) ?_
          rintro v G8 (hle8 : Le G7 G8) hv0
          obtain ⟨_, hv0⟩ | ⟨hsm, _⟩ := hv0
          rotate_left
          · rw [hdv.sm] at hsm; cases hsm
          obtain ⟨sl8, rfl, hr8⟩ := copied_cells hv0
          clear hv0
          have hle68 : Le G6 G8 := hle7.trans hle8
          obtain ⟨asl8, csl8, rfl⟩ := VT.rep_slice hr8
          refine rn_ ?_; intros
          refine h_hs (allIn (by repeat (first | exact trivial | refine ⟨rfl, ?_⟩))) (by first | exact Le.refl _ | assumption) ?_
          refine h_one 5 rfl (by kernel_rfl) ?_
          refine rn_ ?_; intros
          refine h_hs (allIn (by repeat (first | exact trivial | refine ⟨rfl, ?_⟩))) (by first | exact Le.refl _ | assumption) ?_
          refine h_one 6 rfl (by kernel_rfl) ?_
          refine rn_ ?_; intros
          refine h_hs (allIn (by repeat (first | exact trivial | refine ⟨rfl, ?_⟩))) (by first | exact Le.refl _ | assumption) ?_
          refine h_one 7 rfl (by kernel_rfl) ?_
          refine rn_ ?_; intros
          refine h_hs (allIn (by repeat (first | exact trivial | refine ⟨rfl, ?_⟩))) (by first | exact Le.refl _ | assumption) ?_
          refine h_one 8 rfl (by kernel_rfl) ?_
          refine rn_ ?_; intros
          refine h_hs (allIn (by repeat (first | exact trivial | refine ⟨rfl, ?_⟩))) (by first | exact Le.refl _ | assumption) ?_
          refine h_end (by kernel_rfl) ?_
          refine go_znil 60 rfl (by omega) ?_
          intro Z0
          refine go_zadd 60 61 rfl rfl (by omega) (by omega) (by omega) ?_
          intro Z1
          refine st_ ?_
          refine go_zadd 60 62 rfl rfl (by omega) (by omega) (by omega) ?_
          intro Z2
          refine st_ ?_
          refine rn_ ?_; intros
          refine x_retDV 60 rfl hQ hmb hmh rfl (by rw [hP]; kernel_rfl) (ks := [5, 2, 3, 4]) (ow := doC be bt bv bc 0 _ _ _ _ _ _) rfl rfl (.inl (by intro k hk; omega)) (hP ▸ doClo_idle be bt bv bc _ _ _ _ _ _ _) ?_
          rintro u' G' ow' (hle9 : Le G8 G') ⟨hs', rfl⟩
          refine ⟨hs', _, _, doRes hty rfl rfl rfl rfl rfl rfl rfl rfl, .inl ⟨_, _, rfl⟩, ?_⟩
          exact ⟨_, _, _, _, _, rfl, rfl, Rp.L_mono (hle8.trans hle9) hL3, Rp.L_mono (hle8.trans hle9) hM3, VT.rep_mono hle9 hr8, hrb⟩
        · refine rn_ ?_; intros
          refine h_hs (allIn (by repeat (first | exact trivial | refine ⟨rfl, ?_⟩))) (by first | exact Le.refl _ | assumption) ?_
          refine h_one 1 rfl (by kernel_rfl) ?_
          refine go_callV 60 (by rw [hnt]; rfl) (by rw [hP]; kernel_rfl) rfl rfl (by omega) (hP ▸ copyState_ok r.1 _ _ G6 ⟨hSv, hS6⟩ (fun x hx => vld_sml (hdv.vd.v x hx)) (fun p hp => vld_sml (hdv.vd.p p hp)) (by omega) (by omega)) ?_
          rintro v G7 rs Z7 (hle7 : Le G6 G7) ⟨v1, v2, xs3, ys3, rfl, rfl, hL3, hM3⟩
          refine go_ztake 60 61 0 rfl rfl rfl (by omega) (by omega) ?_
          intro Z3
          refine go_ztake 60 62 1 rfl rfl rfl (by omega) (by omega) ?_
          intro Z4
          refine go_drop 60 ?_
          simp only [stRows]
          refine st_ ?_
          refine go_rowS 61 rfl ?_
          rintro a5 c5 rfl
          refine go_rowS 62 rfl ?_
          rintro a6 c6 rfl
          refine rn_ ?_; intros
          refine h_hs (allIn (by repeat (first | exact trivial | refine ⟨rfl, ?_⟩))) (by first | exact Le.refl _ | assumption) ?_
          refine h_one 3 rfl (by kernel_rfl) ?_
          refine go_call (by rw [hnt]; rfl) (by rw [hP]; kernel_rfl) rfl (hP ▸ copy_ok r.2.1 _ _ (VT.rep_mono (hle5.trans (hle6.trans hle7)) hrr) (by omega)) ?_
          rintro v G8 (hle8 : Le G7 G8) hv0
          obtain ⟨_, hv0⟩ | ⟨hsm, _⟩ := hv0
          rotate_left
          · rw [hdv.sm] at hsm; cases hsm
          obtain ⟨sl8, rfl, hr8⟩ := copied_cells hv0
          clear hv0
          have hle68 : Le G6 G8 := hle7.trans hle8
          obtain ⟨asl8, csl8, rfl⟩ := VT.rep_slice hr8
          refine rn_ ?_; intros
          refine h_hs (allIn (by repeat (first | exact trivial | refine ⟨rfl, ?_⟩))) (by first | exact Le.refl _ | assumption) ?_
          refine h_one 5 rfl (by kernel_rfl) ?_
          refine rn_ ?_; intros
          refine h_hs (allIn (by repeat (first | exact trivial | refine ⟨rfl, ?_⟩))) (by first | exact Le.refl _ | assumption) ?_
          refine h_one 6 rfl (by kernel_rfl) ?_
          refine rn_ ?_; intros
          refine h_hs (allIn (by repeat (first | exact trivial | refine ⟨rfl, ?_⟩))) (by first | exact Le.refl _ | assumption) ?_
          refine h_one 7 rfl (by kernel_rfl) ?_
          refine rn_ ?_; intros
          refine h_hs (allIn (by repeat (first | exact trivial | refine ⟨rfl, ?_⟩))) (by first | exact Le.refl _ | assumption) ?_
          refine h_one 8 rfl (by kernel_rfl) ?_
          refine rn_ ?_; intros
          refine h_hs (allIn (by repeat (first | exact trivial | refine ⟨rfl, ?_⟩))) (by first | exact Le.refl _ | assumption) ?_
          refine h_end (by kernel_rfl) ?_
          refine go_znil 60 rfl (by omega) ?_
          intro Z0
          refine go_zadd 60 61 rfl rfl (by omega) (by omega) (by omega) ?_
          intro Z1
          refine st_ ?_
          refine go_zadd 60 62 rfl rfl (by omega) (by omega) (by omega) ?_
          intro Z2
          refine st_ ?_
          refine rn_ ?_; intros
          refine x_retDV 60 rfl hQ hmb hmh rfl (by rw [hP]; kernel_rfl) (ks := [5, 2, 3, 4]) (ow := doC be bt bv bc 0 _ _ _ _ _ _) rfl rfl (.inl (by intro k hk; omega)) (hP ▸ doClo_idle be bt bv bc _ _ _ _ _ _ _) ?_
          rintro u' G' ow' (hle9 : Le G8 G') ⟨hs', rfl⟩
          refine ⟨hs', _, _, doRes hty rfl rfl rfl rfl rfl rfl rfl rfl, .inl ⟨_, _, rfl⟩, ?_⟩
          exact ⟨_, _, _, _, _, rfl, rfl, Rp.L_mono (hle8.trans hle9) hL3, Rp.L_mono (hle8.trans hle9) hM3, VT.rep_mono hle9 hr8, hrb⟩
      · refine rn_ ?_; intros
        refine h_hs (allIn (by repeat (first | exact trivial | refine ⟨rfl, ?_⟩))) (by first | exact Le.refl _ | assumption) ?_
        refine h_one 0 rfl (by kernel_rfl) ?_
        refine rn_ ?_; intros
        refine h_hs (allIn (by repeat (first | exact trivial | refine ⟨rfl, ?_⟩))) (by first | exact Le.refl _ | assumption) ?_
        refine h_one 1 rfl (by kernel_rfl) ?_
        refine go_callV 60 (by rw [hnt]; rfl) (by rw [hP]; kernel_rfl) rfl rfl (by omega) (hP ▸ copyState_ok r.1 _ _ G6 ⟨hSv, hS6⟩ (fun x hx => vld_sml (hdv.vd.v x hx)) (fun p hp => vld_sml (hdv.vd.p p hp)) (by omega) (by omega)) ?_
        rintro v G7 rs Z7 (hle7 : Le G6 G7) ⟨v1, v2, xs3, ys3, rfl, rfl, hL3, hM3⟩
        refine go_ztake 60 61 0 rfl rfl rfl (by omega) (by omega) ?_
        intro Z3
        refine go_ztake 60 62 1 rfl rfl rfl (by omega) (by omega) ?_
        intro Z4
        refine go_drop 60 ?_
        simp only [stRows]
        refine st_ ?_
        refine go_rowS 61 rfl ?_
        rintro a5 c5 rfl
        refine go_rowS 62 rfl ?_
        rintro a6 c6 rfl
        refine rn_ ?_; intros
        refine h_hs (allIn (by repeat (first | exact trivial | refine ⟨rfl, ?_⟩))) (by first | exact Le.refl _ | assumption) ?_
        refine h_one 3 rfl (by kernel_rfl) ?_
        refine go_call (by rw [hnt]; rfl) (by rw [hP]; kernel_rfl) rfl (hP ▸ copy_ok r.2.1 _ _ (VT.rep_mono (hle5.trans (hle6.trans hle7)) hrr) (by omega)) ?_
        rintro v G8 (hle8 : Le G7 G8) hv0
        obtain ⟨_, hv0⟩ | ⟨hsm, _⟩ := hv0
        rotate_left
        · rw [hdv.sm] at hsm; cases hsm
        obtain ⟨sl8, rfl, hr8⟩ := copied_cells hv0
        clear hv0
        have hle68 : Le G6 G8 := hle7.trans hle8
        obtain ⟨asl8, csl8, rfl⟩ := VT.rep_slice hr8
        refine rn_ ?_; intros
        refine h_hs (allIn (by repeat (first | exact trivial | refine ⟨rfl, ?_⟩))) (by first | exact Le.refl _ | assumption) ?_
        refine h_one 5 rfl (by kernel_rfl) ?_
        refine rn_ ?_; intros
        refine h_hs (allIn (by repeat (first | exact trivial | refine ⟨rfl, ?_⟩))) (by first | exact Le.refl _ | assumption) ?_
        refine h_one 6 rfl (by kernel_rfl) ?_
        refine rn_ ?_; intros
        refine h_hs (allIn (by repeat (first | exact trivial | refine ⟨rfl, ?_⟩))) (by first | exact Le.refl _ | assumption) ?_
        refine h_one 7 rfl (by kernel_rfl) ?_
        refine rn_ ?_; intros
        refine h_hs (allIn (by repeat (first | exact trivial | refine ⟨rfl, ?_⟩))) (by first | exact Le.refl _ | assumption) ?_
        refine h_one 8 rfl (by kernel_rfl) ?_
        refine rn_ ?_; intros
        refine h_hs (allIn (by repeat (first | exact trivial | refine ⟨rfl, ?_⟩))) (by first | exact Le.refl _ | assumption) ?_
        refine h_end (by kernel_rfl) ?_
        refine go_znil 60 rfl (by omega) ?_
        intro Z0
        refine go_zadd 60 61 rfl rfl (by omega) (by omega) (by omega) ?_
        intro Z1
        refine st_ ?_
        refine go_zadd 60 62 rfl rfl (by omega) (by omega) (by omega) ?_
        intro Z2
        refine st_ ?_
        refine rn_ ?_; intros
        refine x_retDV 60 rfl hQ hmb hmh rfl (by rw [hP]; kernel_rfl) (ks := [5, 2, 3, 4]) (ow := doC be bt bv bc 0 _ _ _ _ _ _) rfl rfl (.inl (by intro k hk; omega)) (hP ▸ doClo_idle be bt bv bc _ _ _ _ _ _ _) ?_
        rintro u' G' ow' (hle9 : Le G8 G') ⟨hs', rfl⟩
        refine ⟨hs', _, _, doRes hty rfl rfl rfl rfl rfl rfl rfl rfl, .inl ⟨_, _, rfl⟩, ?_⟩
        exact ⟨_, _, _, _, _, rfl, rfl, Rp.L_mono (hle8.trans hle9) hL3, Rp.L_mono (hle8.trans hle9) hM3, VT.rep_mono hle9 hr8, hrb⟩
    · refine go_callWP [] (ow := []) (by rw [hnt]; rfl) rfl (by rw [hP]; kernel_rfl) rfl rfl rfl (.inl (by intro k hk; cases hk)) (hP ▸ need_ok _ 2 G1) ?_ ?_
      · rintro v G' ow' _ ⟨h, _⟩
        cases h
      rintro v ⟨rfl, _⟩
      rw [hno (by rw [hv]; rfl)] at hQ
      refine x_panDV 60 hQ hmb hmh rfl (by rw [hP]; kernel_rfl) (ks := [5, 2, 3, 4]) (ow := doC be bt bv bc 0 (.slice none 0 0) (.slice none 0 0) (.int .i64 0) (.int .i64 0) (.slice none 0 0) false) rfl rfl (.inl (by intro k hk; omega)) (hP ▸ doClo_catch be bt bv bc _ _ _ _ _ _ 0 2 (by omega) _) ?_
      rintro u' G' ow' _ ⟨hs', rfl⟩
      refine ⟨hs', _, stRows (.slice none 0 0) 0 [] (.slice none 0 0) 0 [], doRes hty rfl rfl rfl rfl rfl rfl rfl rfl, .inr ?_, ?_⟩
      · intro r hr
        simp only [stRows, List.mem_cons, List.not_mem_nil, or_false] at hr
        rcases hr with rfl | rfl <;> exact ⟨rfl, rfl, rfl⟩
      · exact ⟨_, _, _, _, _, rfl, rfl, rfl, rfl, rep_leaf _ 0 0 (by simp [isI64]) (by simp [isI64]), by simp [noneV, tsz, tszL]⟩
end Go.Proofs.Ytpmmbjcgabnloaa
