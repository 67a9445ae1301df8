/-
  Layer 10's reference: the value of a ready node.
-/
import Derived.Test.YtpppkednpamhbaaGreatZ5
import Derived.Laws.StructEq
set_option linter.unusedSimpArgs false
set_option linter.unusedVariables false
namespace Go.Proofs.YtpppkednpamhbaaGreat.R
set_option linter.unusedSimpArgs false
set_option linter.unusedVariables false
open Go.Sx
set_option maxHeartbeats 16000000
set_option maxRecDepth 20000
theorem rep0 {G : Hp} {k n : Int} (hk : isI64 k) (hn : isI64 n) : (VT.mk k n []).rep G (.slice none 0 0) := ⟨hk, hn, by simp, none, 0, rfl, .inl rfl⟩
theorem kOf_64 (op : Int) : isI64 (kOf op) := by
  unfold kOf
  repeat' split
  all_goals simp [isI64]
theorem rkind_ok (op : Int) (G : Hp) (h64 : isI64 op) (h : op = 10 ∨ 16 ≤ op ∧ op ≤ 23) : Pure Tryz.prog 104 [.int .i64 op] G (fun v _ => v = .int .i64 (kOf op)) := by
  refine enterX ty tyok Tryz.func104 rfl Tryz.ntmps104 [.v (.int .i64 op)] (by simp) ?_
  intro C hP hQ hnt hty hmb hmh hro; have hQp := qp_body hQ; refine st_ ?_
  refine rn_ ?_; intros
  refine x_split rfl rfl rfl (fun h1 => ?_) (fun h1 => ?_) <;> (refine st_ ?_; (refine ru_ ?_; intros))
  · have hop : op = 10 := by simpa using h1
    subst hop
    refine rn_ ?_; intros
    refine xc_ hQ hmb ?_; simp only [SV.den, resV, dens]
    rfl
  have hop : ¬ op = 10 := by simpa using h1
  refine rn_ ?_; intros
  rw [wr (n := op - 11) (by omega) (by omega)]
  refine xc_ hQ hmb ?_; simp only [SV.den, resV, dens]
  have e : kOf op = op - 11 := by
    unfold kOf
    repeat' split
    all_goals omega
  rw [e]
def rmkPost (o : Option VT) (v : Value) (G : Hp) : Prop := match o with
  | none => ∃ k n a m c, v = .tuple #[.agg #[.int .i64 k, .int .i64 n, .slice a m c], .bool false]
  | some y => ∃ sl, v = .tuple #[.agg #[.int .i64 y.k, .int .i64 y.n, sl], .bool true] ∧ y.rep G sl ∧ tsz y ≤ 1000
theorem rmakes_ok (f nn : Int) (nd : Nd) (sn sl sv : Value) (l vars : List VT) (o : Option VT) (G : Hp) (hnl : rI.S G nd.l sn) (hn64 : isI64 nd.n) (ho64 : isI64 nd.op) (hsl : rW.S G l sl) (hsv : rW.S G vars sv) (hll : l.length ≤ 1000)
    (hop1 : nd.op = 1 ∨ nd.op = 2 → l = []) (hop2 : nd.op = 2 → nd.n = 0) (hopd : nd.op = 1 ∨ nd.op = 2 ∨ nd.op = 3 ∨ (6 ≤ nd.op ∧ nd.op ≤ 12) ∨ (16 ≤ nd.op ∧ nd.op ≤ 23)) (ho : resF ⟨f, nn, vars, l⟩ nd = some o) :
    Pure Tryz.prog 75 [.agg #[.int .i64 f, .int .i64 nn, sv, sl], .agg #[.int .i64 nd.op, .int .i64 nd.n, sn]] G (rmkPost o) := by
  obtain ⟨anl, cnl, rfl⟩ := Rp.S_slice hnl
  obtain ⟨al, cl, rfl⟩ := Rp.S_slice hsl
  obtain ⟨av, cv', rfl⟩ := Rp.S_slice hsv
  unfold resF at ho
  simp only [] at ho
  refine enterX ty tyok Tryz.func75 rfl Tryz.ntmps75 [.a [.v (.int .i64 f), .v (.int .i64 nn), .v (.slice av vars.length cv'), .v (.slice al l.length cl)], .a [.v (.int .i64 nd.op), .v (.int .i64 nd.n), .v (.slice anl nd.l.length cnl)]] (by simp) ?_
  intro C hP hQ hnt hty hmb hmh hro; have hQp := qp_body hQ; refine st_ ?_
  refine rn_ ?_; intros
  rename_i b2 b3 b4 b6
  refine rn_ ?_; intros
  refine x_split rfl rfl rfl (fun h1 => ?_) (fun h1 => ?_) <;> (refine st_ ?_; (refine ru_ ?_; intros))
  · have hop : nd.op = 1 := by simpa using h1
    simp only [hop, Int.reduceEq, if_false, if_true] at ho
    obtain rfl := hop1 (.inl hop)
    split at ho
    rotate_left
    · cases ho
    injection ho with ho
    refine rn_ ?_; intros
    refine xc_ hQ hmb ?_; simp only [SV.den, resV, dens]
    rw [← ho, if_pos (by rw [show kOf 1 = 2 from rfl]; exact xvld_i _)]
    exact ⟨_, rfl, rep0 (by simp [isI64, kOf]) hn64, by simp [tsz, tszL]⟩
  refine rn_ ?_; intros
  refine x_split rfl rfl rfl (fun h2 => ?_) (fun h2 => ?_) <;> (refine st_ ?_; (refine ru_ ?_; intros))
  · have hop : nd.op = 2 := by simpa using h2
    simp only [hop, Int.reduceEq, if_false, if_true] at ho
    obtain rfl := hop1 (.inr hop)
    rw [hop2 hop] at ho
    split at ho
    rotate_left
    · cases ho
    injection ho with ho
    refine rn_ ?_; intros
    refine xc_ hQ hmb ?_; simp only [SV.den, resV, dens]
    rw [← ho, if_pos (by rw [show kOf 2 = 1 from rfl]; simp [vld, sml, cnt, cntL, shps, shpsL, shp])]
    exact ⟨_, rfl, rep0 (by simp [isI64, kOf]) (by simp [isI64]), by simp [tsz, tszL]⟩
  refine rn_ ?_; intros
  refine x_split rfl rfl rfl (fun h3 => ?_) (fun h3 => ?_) <;> (refine st_ ?_; (refine ru_ ?_; intros))
  · have hop : nd.op = 3 := by simpa using h3
    simp only [hop, Int.reduceEq, if_false, if_true] at ho
    split at ho
    rotate_left
    · cases ho
    rename_i hn0
    cases hv : vars[nd.n.toNat]? with
    | none => rw [hv] at ho; cases ho
    | some y =>
    rw [hv] at ho
    simp only [Option.map_some, Option.some.injEq] at ho
    subst ho
    obtain ⟨hi, hy⟩ := List.getElem?_eq_some_iff.1 hv
    obtain ⟨bV, oV, sv9, rfl, hatV, hrV, htV⟩ := rW_at hsv hi
    rw [hy] at hatV hrV htV
    obtain ⟨a9, c9, rfl⟩ := VT.rep_slice hrV
    refine rn_ ?_; intros
    refine go_q (v := .pointer (some ⟨bV, oV + nd.n.toNat * 3, none⟩)) (by rw [hnt]; rfl) ((quiet_index (by rw [hty]; rfl) (by rw [hty]; rfl) rfl rfl rfl (by omega) (by omega)).cast (by rfl)) ?_
    refine rn_ ?_; intros
    refine go_q (v := .agg #[.int .i64 y.k, .int .i64 y.n, .slice a9 y.l.length c9]) (by rw [hnt]; rfl) ((quiet_load (by rw [hty]; rfl) rfl (by simp [TK.agg]) hatV rfl).cast (by rfl)) ?_
    refine rn_ ?_; intros
    refine xc_ hQ hmb ?_; simp only [SV.den, resV, dens]
    exact ⟨_, rfl, hrV, htV⟩
  refine cut_tailK 2 (fun s' => ∃ (G1 : Hp) (y : VT) (slk : Value) (e : Int), Le G G1 ∧ s' = ⟨[(4, .p 2 b4 0), (5, .b false), (6, .p 3 b6 0), (7, .v (.int .i64 e))], [(2, b4, .c 42 [.v (.int .i64 0), .v (.int .i64 0), .v (.slice none 0 0)]), (3, b6, .c 42 [.v (.int .i64 y.k), .v (.int .i64 y.n), .v slk])], G1, []⟩ ∧
    ((e = 0 ∧ y.rep G1 slk ∧ tsz y ≤ 2000000 ∧ o = if vld y then some y else none) ∨ (e ≠ 0 ∧ o = none ∧ ∃ ad m c, slk = .slice ad m c))) ?_ ?_
  rotate_left
  · intro Kr hK
    simp only [List.take_succ_cons, List.take_zero, List.cons_append, List.nil_append]
    refine x_split rfl rfl rfl (fun h6 => ?_) (fun h6 => ?_) <;> (refine st_ ?_; (refine ru_ ?_; intros))
    · have hop : nd.op = 6 := by simpa using h6
      simp only [hop, Int.reduceEq, if_false, if_true] at ho
      obtain ⟨a, b', t, hdn, ho⟩ := two_some ho
      have hl2 : 2 ≤ l.length := by rw [hdn]; simp
      obtain ⟨bD, oD, s0, rfl, hat0, hr0, ht0⟩ := rW_at hsl (i := 0) (by omega)
      obtain ⟨bD', oD', s1, e1, hat1, hr1, ht1⟩ := rW_at hsl (i := 1) (by omega)
      cases e1
      have e0 : l[0]'(by omega) = a := by simp [hdn]
      have e1 : l[1]'(by omega) = b' := by simp [hdn]
      rw [e0] at hat0 hr0 ht0
      rw [e1] at hat1 hr1 ht1
      obtain ⟨a8, c8, rfl⟩ := VT.rep_slice hr0
      obtain ⟨a9, c9, rfl⟩ := VT.rep_slice hr1
      refine rn_ ?_; intros
      refine x_heldP [(0, b2, .c 96 [.v (.int .i64 f), .v (.int .i64 nn), .v (.slice av vars.length cv'), .v (.slice (some ⟨bD, oD, none⟩) l.length cl)])] 12 rfl (by rw [hP]; kernel_rfl) rfl rfl rfl ?_; refine st_ ?_
      refine hu_take0 0 rfl (by kernel_rfl) (by kernel_rfl) (by kernel_rfl) (by decide) (fun c a w v => hQp c a w _ v) (by rw [hnt]; rfl) (allIn (by repeat (first | exact trivial | refine ⟨rfl, ?_⟩))) (by first | exact Le.refl _ | assumption) (quiet_op (by rw [hty]; first | rfl | (refine st_ ?_; rfl))) ?_; refine st_ ?_
      refine hu_takeB 1 [1, 12] rfl (by kernel_rfl) (by kernel_rfl) (by kernel_rfl) (by kernel_rfl) (fun c a w v => hQp c a w _ v) (by rw [hnt]; rfl) (allIn (by repeat (first | exact trivial | refine ⟨rfl, ?_⟩))) (by first | exact Le.refl _ | assumption) (quiet_op (by rw [hty]; first | rfl | (refine st_ ?_; rfl))) ?_; refine st_ ?_
      refine hu_takeB 2 [2, 12] rfl (by kernel_rfl) (by kernel_rfl) (by kernel_rfl) (by kernel_rfl) (fun c a w v => hQp c a w _ v) (by rw [hnt]; rfl) (allIn (by repeat (first | exact trivial | refine ⟨rfl, ?_⟩))) (by first | exact Le.refl _ | assumption) (x := .v (.pointer (some ⟨bD, oD + 0 * 3, none⟩))) ((quiet_index (by rw [hty]; rfl) (by rw [hty]; rfl) rfl rfl rfl (by omega) (by omega)).cast (by rfl)) ?_
      refine st_ ?_
      refine hu_takeB 3 [3, 12] rfl (by kernel_rfl) (by kernel_rfl) (by kernel_rfl) (by kernel_rfl) (fun c a w v => hQp c a w _ v) (by rw [hnt]; rfl) (allIn (by repeat (first | exact trivial | refine ⟨rfl, ?_⟩))) (by first | exact Le.refl _ | assumption) (x := .a [.v (.int .i64 a.k), .v (.int .i64 a.n), .v (.slice a8 a.l.length c8)]) ((quiet_load (by rw [hty]; rfl) rfl (by simp [TK.agg]) hat0 rfl).cast (by rfl)) ?_
      refine st_ ?_
      refine hu_take0 4 rfl (by kernel_rfl) (by kernel_rfl) (by kernel_rfl) (by decide) (fun c a w v => hQp c a w _ v) (by rw [hnt]; rfl) (allIn (by repeat (first | exact trivial | refine ⟨rfl, ?_⟩))) (by first | exact Le.refl _ | assumption) (quiet_op (by rw [hty]; first | rfl | (refine st_ ?_; rfl))) ?_; refine st_ ?_
      refine hu_takeB 5 [5, 12] rfl (by kernel_rfl) (by kernel_rfl) (by kernel_rfl) (by kernel_rfl) (fun c a w v => hQp c a w _ v) (by rw [hnt]; rfl) (allIn (by repeat (first | exact trivial | refine ⟨rfl, ?_⟩))) (by first | exact Le.refl _ | assumption) (quiet_op (by rw [hty]; first | rfl | (refine st_ ?_; rfl))) ?_; refine st_ ?_
      refine hu_takeB 6 [6, 12] rfl (by kernel_rfl) (by kernel_rfl) (by kernel_rfl) (by kernel_rfl) (fun c a w v => hQp c a w _ v) (by rw [hnt]; rfl) (allIn (by repeat (first | exact trivial | refine ⟨rfl, ?_⟩))) (by first | exact Le.refl _ | assumption) (x := .v (.pointer (some ⟨bD, oD + 1 * 3, none⟩))) ((quiet_index (by rw [hty]; rfl) (by rw [hty]; rfl) rfl rfl rfl (by omega) (by omega)).cast (by rfl)) ?_
      refine st_ ?_
      refine hu_takeB 7 [7, 12] rfl (by kernel_rfl) (by kernel_rfl) (by kernel_rfl) (by kernel_rfl) (fun c a w v => hQp c a w _ v) (by rw [hnt]; rfl) (allIn (by repeat (first | exact trivial | refine ⟨rfl, ?_⟩))) (by first | exact Le.refl _ | assumption) (x := .a [.v (.int .i64 b'.k), .v (.int .i64 b'.n), .v (.slice a9 b'.l.length c9)]) ((quiet_load (by rw [hty]; rfl) rfl (by simp [TK.agg]) hat1 rfl).cast (by rfl)) ?_
      refine st_ ?_
      refine hu_one 8 rfl (by kernel_rfl) ?_
      refine go_call (by rw [hnt]; rfl) (by rw [hP]; kernel_rfl) rfl (hP ▸ radd_ok a b' _ _ G hr0 hr1 (by omega) (by omega)) ?_
      rintro _ G3 (hle3 : Le G G3) rfl
      obtain ⟨kk, nn9, ee, hnum, hcs⟩ := numd_cases a b' (fun m n => IntKind.i64.wrap (m + n)) (fun _ _ => wrapI _)
      rw [hnum]
      refine rn_ ?_; intros
      refine hs_ ?_
      refine hu_take0 9 rfl (by kernel_rfl) (by kernel_rfl) (by kernel_rfl) (by decide) (fun c a w v => hQp c a w _ v) (by rw [hnt]; rfl) (allIn (by repeat (first | exact trivial | refine ⟨rfl, ?_⟩))) (by first | exact Le.refl _ | assumption) (quiet_op (by rw [hty]; first | rfl | (refine st_ ?_; rfl))) ?_; refine st_ ?_
      refine hu_take0 10 rfl (by kernel_rfl) (by kernel_rfl) (by kernel_rfl) (by decide) (fun c a w v => hQp c a w _ v) (by rw [hnt]; rfl) (allIn (by repeat (first | exact trivial | refine ⟨rfl, ?_⟩))) (by first | exact Le.refl _ | assumption) (quiet_op (by rw [hty]; first | rfl | (refine st_ ?_; rfl))) ?_; refine st_ ?_
      refine hu_take0 11 rfl (by kernel_rfl) (by kernel_rfl) (by kernel_rfl) (by decide) (fun c a w v => hQp c a w _ v) (by rw [hnt]; rfl) (allIn (by repeat (first | exact trivial | refine ⟨rfl, ?_⟩))) (by first | exact Le.refl _ | assumption) (quiet_op (by rw [hty]; first | rfl | (refine st_ ?_; rfl))) ?_; refine st_ ?_
      refine hu_last 12 [] rfl (by kernel_rfl) rfl ?_
      refine rn_ ?_; intros
      refine h_one 13 rfl (by kernel_rfl) ?_
      refine rn_ ?_; intros
      refine hs_ ?_
      refine h_end (by kernel_rfl) ?_
      refine rn_ ?_; intros
      refine go_keep [4, 5, 6, 7] [2, 3] ?_
      refine st_ ?_
      refine hK _ ⟨G3, .mk kk nn9 [], .slice none 0 0, ee, hle3, rfl, ?_⟩
      rcases hcs with ⟨hn, he⟩ | ⟨hn, he, hr⟩
      · exact .inr ⟨he, by rw [← ho, hn], _, _, _, rfl⟩
      · exact .inl ⟨he, hr G3, by simp [tsz, tszL], by rw [← ho, hn, if_pos (xnumF hn)]⟩
    refine rn_ ?_; intros
    refine x_split rfl rfl rfl (fun h7 => ?_) (fun h7 => ?_) <;> (refine st_ ?_; (refine ru_ ?_; intros))
    · have hop : nd.op = 7 := by simpa using h7
      simp only [hop, Int.reduceEq, if_false, if_true] at ho
      obtain ⟨a, b', t, hdn, ho⟩ := two_some ho
      have hl2 : 2 ≤ l.length := by rw [hdn]; simp
      obtain ⟨bD, oD, s0, rfl, hat0, hr0, ht0⟩ := rW_at hsl (i := 0) (by omega)
      obtain ⟨bD', oD', s1, e1, hat1, hr1, ht1⟩ := rW_at hsl (i := 1) (by omega)
      cases e1
      have e0 : l[0]'(by omega) = a := by simp [hdn]
      have e1 : l[1]'(by omega) = b' := by simp [hdn]
      rw [e0] at hat0 hr0 ht0
      rw [e1] at hat1 hr1 ht1
      obtain ⟨a8, c8, rfl⟩ := VT.rep_slice hr0
      obtain ⟨a9, c9, rfl⟩ := VT.rep_slice hr1
      refine rn_ ?_; intros
      refine x_heldP [(0, b2, .c 96 [.v (.int .i64 f), .v (.int .i64 nn), .v (.slice av vars.length cv'), .v (.slice (some ⟨bD, oD, none⟩) l.length cl)])] 12 rfl (by rw [hP]; kernel_rfl) rfl rfl rfl ?_; refine st_ ?_
      refine hu_take0 0 rfl (by kernel_rfl) (by kernel_rfl) (by kernel_rfl) (by decide) (fun c a w v => hQp c a w _ v) (by rw [hnt]; rfl) (allIn (by repeat (first | exact trivial | refine ⟨rfl, ?_⟩))) (by first | exact Le.refl _ | assumption) (quiet_op (by rw [hty]; first | rfl | (refine st_ ?_; rfl))) ?_; refine st_ ?_
      refine hu_takeB 1 [1, 12] rfl (by kernel_rfl) (by kernel_rfl) (by kernel_rfl) (by kernel_rfl) (fun c a w v => hQp c a w _ v) (by rw [hnt]; rfl) (allIn (by repeat (first | exact trivial | refine ⟨rfl, ?_⟩))) (by first | exact Le.refl _ | assumption) (quiet_op (by rw [hty]; first | rfl | (refine st_ ?_; rfl))) ?_; refine st_ ?_
      refine hu_takeB 2 [2, 12] rfl (by kernel_rfl) (by kernel_rfl) (by kernel_rfl) (by kernel_rfl) (fun c a w v => hQp c a w _ v) (by rw [hnt]; rfl) (allIn (by repeat (first | exact trivial | refine ⟨rfl, ?_⟩))) (by first | exact Le.refl _ | assumption) (x := .v (.pointer (some ⟨bD, oD + 0 * 3, none⟩))) ((quiet_index (by rw [hty]; rfl) (by rw [hty]; rfl) rfl rfl rfl (by omega) (by omega)).cast (by rfl)) ?_
      refine st_ ?_
      refine hu_takeB 3 [3, 12] rfl (by kernel_rfl) (by kernel_rfl) (by kernel_rfl) (by kernel_rfl) (fun c a w v => hQp c a w _ v) (by rw [hnt]; rfl) (allIn (by repeat (first | exact trivial | refine ⟨rfl, ?_⟩))) (by first | exact Le.refl _ | assumption) (x := .a [.v (.int .i64 a.k), .v (.int .i64 a.n), .v (.slice a8 a.l.length c8)]) ((quiet_load (by rw [hty]; rfl) rfl (by simp [TK.agg]) hat0 rfl).cast (by rfl)) ?_
      refine st_ ?_
      refine hu_take0 4 rfl (by kernel_rfl) (by kernel_rfl) (by kernel_rfl) (by decide) (fun c a w v => hQp c a w _ v) (by rw [hnt]; rfl) (allIn (by repeat (first | exact trivial | refine ⟨rfl, ?_⟩))) (by first | exact Le.refl _ | assumption) (quiet_op (by rw [hty]; first | rfl | (refine st_ ?_; rfl))) ?_; refine st_ ?_
      refine hu_takeB 5 [5, 12] rfl (by kernel_rfl) (by kernel_rfl) (by kernel_rfl) (by kernel_rfl) (fun c a w v => hQp c a w _ v) (by rw [hnt]; rfl) (allIn (by repeat (first | exact trivial | refine ⟨rfl, ?_⟩))) (by first | exact Le.refl _ | assumption) (quiet_op (by rw [hty]; first | rfl | (refine st_ ?_; rfl))) ?_; refine st_ ?_
      refine hu_takeB 6 [6, 12] rfl (by kernel_rfl) (by kernel_rfl) (by kernel_rfl) (by kernel_rfl) (fun c a w v => hQp c a w _ v) (by rw [hnt]; rfl) (allIn (by repeat (first | exact trivial | refine ⟨rfl, ?_⟩))) (by first | exact Le.refl _ | assumption) (x := .v (.pointer (some ⟨bD, oD + 1 * 3, none⟩))) ((quiet_index (by rw [hty]; rfl) (by rw [hty]; rfl) rfl rfl rfl (by omega) (by omega)).cast (by rfl)) ?_
      refine st_ ?_
      refine hu_takeB 7 [7, 12] rfl (by kernel_rfl) (by kernel_rfl) (by kernel_rfl) (by kernel_rfl) (fun c a w v => hQp c a w _ v) (by rw [hnt]; rfl) (allIn (by repeat (first | exact trivial | refine ⟨rfl, ?_⟩))) (by first | exact Le.refl _ | assumption) (x := .a [.v (.int .i64 b'.k), .v (.int .i64 b'.n), .v (.slice a9 b'.l.length c9)]) ((quiet_load (by rw [hty]; rfl) rfl (by simp [TK.agg]) hat1 rfl).cast (by rfl)) ?_
      refine st_ ?_
      refine hu_one 8 rfl (by kernel_rfl) ?_
      refine go_call (by rw [hnt]; rfl) (by rw [hP]; kernel_rfl) rfl (hP ▸ rsub_ok a b' _ _ G hr0 hr1 (by omega) (by omega)) ?_
      rintro _ G3 (hle3 : Le G G3) rfl
      obtain ⟨kk, nn9, ee, hnum, hcs⟩ := numd_cases a b' (fun m n => IntKind.i64.wrap (m - n)) (fun _ _ => wrapI _)
      rw [hnum]
      refine rn_ ?_; intros
      refine hs_ ?_
      refine hu_take0 9 rfl (by kernel_rfl) (by kernel_rfl) (by kernel_rfl) (by decide) (fun c a w v => hQp c a w _ v) (by rw [hnt]; rfl) (allIn (by repeat (first | exact trivial | refine ⟨rfl, ?_⟩))) (by first | exact Le.refl _ | assumption) (quiet_op (by rw [hty]; first | rfl | (refine st_ ?_; rfl))) ?_; refine st_ ?_
      refine hu_take0 10 rfl (by kernel_rfl) (by kernel_rfl) (by kernel_rfl) (by decide) (fun c a w v => hQp c a w _ v) (by rw [hnt]; rfl) (allIn (by repeat (first | exact trivial | refine ⟨rfl, ?_⟩))) (by first | exact Le.refl _ | assumption) (quiet_op (by rw [hty]; first | rfl | (refine st_ ?_; rfl))) ?_; refine st_ ?_
      refine hu_take0 11 rfl (by kernel_rfl) (by kernel_rfl) (by kernel_rfl) (by decide) (fun c a w v => hQp c a w _ v) (by rw [hnt]; rfl) (allIn (by repeat (first | exact trivial | refine ⟨rfl, ?_⟩))) (by first | exact Le.refl _ | assumption) (quiet_op (by rw [hty]; first | rfl | (refine st_ ?_; rfl))) ?_; refine st_ ?_
      refine hu_last 12 [] rfl (by kernel_rfl) rfl ?_
      refine rn_ ?_; intros
      refine h_one 13 rfl (by kernel_rfl) ?_
      refine rn_ ?_; intros
      refine hs_ ?_
      refine h_end (by kernel_rfl) ?_
      refine rn_ ?_; intros
      refine go_keep [4, 5, 6, 7] [2, 3] ?_
      refine st_ ?_
      refine hK _ ⟨G3, .mk kk nn9 [], .slice none 0 0, ee, hle3, rfl, ?_⟩
      rcases hcs with ⟨hn, he⟩ | ⟨hn, he, hr⟩
      · exact .inr ⟨he, by rw [← ho, hn], _, _, _, rfl⟩
      · exact .inl ⟨he, hr G3, by simp [tsz, tszL], by rw [← ho, hn, if_pos (xnumF hn)]⟩
    refine rn_ ?_; intros
    refine x_split rfl rfl rfl (fun h8 => ?_) (fun h8 => ?_) <;> (refine st_ ?_; (refine ru_ ?_; intros))
    · have hop : nd.op = 8 := by simpa using h8
      simp only [hop, Int.reduceEq, if_false, if_true] at ho
      obtain ⟨a, b', t, hdn, ho⟩ := two_some ho
      have hl2 : 2 ≤ l.length := by rw [hdn]; simp
      obtain ⟨bD, oD, s0, rfl, hat0, hr0, ht0⟩ := rW_at hsl (i := 0) (by omega)
      obtain ⟨bD', oD', s1, e1, hat1, hr1, ht1⟩ := rW_at hsl (i := 1) (by omega)
      cases e1
      have e0 : l[0]'(by omega) = a := by simp [hdn]
      have e1 : l[1]'(by omega) = b' := by simp [hdn]
      rw [e0] at hat0 hr0 ht0
      rw [e1] at hat1 hr1 ht1
      obtain ⟨a8, c8, rfl⟩ := VT.rep_slice hr0
      obtain ⟨a9, c9, rfl⟩ := VT.rep_slice hr1
      refine rn_ ?_; intros
      refine x_heldP [(0, b2, .c 96 [.v (.int .i64 f), .v (.int .i64 nn), .v (.slice av vars.length cv'), .v (.slice (some ⟨bD, oD, none⟩) l.length cl)])] 12 rfl (by rw [hP]; kernel_rfl) rfl rfl rfl ?_; refine st_ ?_
      refine hu_take0 0 rfl (by kernel_rfl) (by kernel_rfl) (by kernel_rfl) (by decide) (fun c a w v => hQp c a w _ v) (by rw [hnt]; rfl) (allIn (by repeat (first | exact trivial | refine ⟨rfl, ?_⟩))) (by first | exact Le.refl _ | assumption) (quiet_op (by rw [hty]; first | rfl | (refine st_ ?_; rfl))) ?_; refine st_ ?_
      refine hu_takeB 1 [1, 12] rfl (by kernel_rfl) (by kernel_rfl) (by kernel_rfl) (by kernel_rfl) (fun c a w v => hQp c a w _ v) (by rw [hnt]; rfl) (allIn (by repeat (first | exact trivial | refine ⟨rfl, ?_⟩))) (by first | exact Le.refl _ | assumption) (quiet_op (by rw [hty]; first | rfl | (refine st_ ?_; rfl))) ?_; refine st_ ?_
      refine hu_takeB 2 [2, 12] rfl (by kernel_rfl) (by kernel_rfl) (by kernel_rfl) (by kernel_rfl) (fun c a w v => hQp c a w _ v) (by rw [hnt]; rfl) (allIn (by repeat (first | exact trivial | refine ⟨rfl, ?_⟩))) (by first | exact Le.refl _ | assumption) (x := .v (.pointer (some ⟨bD, oD + 0 * 3, none⟩))) ((quiet_index (by rw [hty]; rfl) (by rw [hty]; rfl) rfl rfl rfl (by omega) (by omega)).cast (by rfl)) ?_
      refine st_ ?_
      refine hu_takeB 3 [3, 12] rfl (by kernel_rfl) (by kernel_rfl) (by kernel_rfl) (by kernel_rfl) (fun c a w v => hQp c a w _ v) (by rw [hnt]; rfl) (allIn (by repeat (first | exact trivial | refine ⟨rfl, ?_⟩))) (by first | exact Le.refl _ | assumption) (x := .a [.v (.int .i64 a.k), .v (.int .i64 a.n), .v (.slice a8 a.l.length c8)]) ((quiet_load (by rw [hty]; rfl) rfl (by simp [TK.agg]) hat0 rfl).cast (by rfl)) ?_
      refine st_ ?_
      refine hu_take0 4 rfl (by kernel_rfl) (by kernel_rfl) (by kernel_rfl) (by decide) (fun c a w v => hQp c a w _ v) (by rw [hnt]; rfl) (allIn (by repeat (first | exact trivial | refine ⟨rfl, ?_⟩))) (by first | exact Le.refl _ | assumption) (quiet_op (by rw [hty]; first | rfl | (refine st_ ?_; rfl))) ?_; refine st_ ?_
      refine hu_takeB 5 [5, 12] rfl (by kernel_rfl) (by kernel_rfl) (by kernel_rfl) (by kernel_rfl) (fun c a w v => hQp c a w _ v) (by rw [hnt]; rfl) (allIn (by repeat (first | exact trivial | refine ⟨rfl, ?_⟩))) (by first | exact Le.refl _ | assumption) (quiet_op (by rw [hty]; first | rfl | (refine st_ ?_; rfl))) ?_; refine st_ ?_
      refine hu_takeB 6 [6, 12] rfl (by kernel_rfl) (by kernel_rfl) (by kernel_rfl) (by kernel_rfl) (fun c a w v => hQp c a w _ v) (by rw [hnt]; rfl) (allIn (by repeat (first | exact trivial | refine ⟨rfl, ?_⟩))) (by first | exact Le.refl _ | assumption) (x := .v (.pointer (some ⟨bD, oD + 1 * 3, none⟩))) ((quiet_index (by rw [hty]; rfl) (by rw [hty]; rfl) rfl rfl rfl (by omega) (by omega)).cast (by rfl)) ?_
      refine st_ ?_
      refine hu_takeB 7 [7, 12] rfl (by kernel_rfl) (by kernel_rfl) (by kernel_rfl) (by kernel_rfl) (fun c a w v => hQp c a w _ v) (by rw [hnt]; rfl) (allIn (by repeat (first | exact trivial | refine ⟨rfl, ?_⟩))) (by first | exact Le.refl _ | assumption) (x := .a [.v (.int .i64 b'.k), .v (.int .i64 b'.n), .v (.slice a9 b'.l.length c9)]) ((quiet_load (by rw [hty]; rfl) rfl (by simp [TK.agg]) hat1 rfl).cast (by rfl)) ?_
      refine st_ ?_
      refine hu_one 8 rfl (by kernel_rfl) ?_
      refine go_call (by rw [hnt]; rfl) (by rw [hP]; kernel_rfl) rfl (hP ▸ req_ok a b' _ _ G hr0 hr1 (by omega) (by omega)) ?_
      rintro _ G3 (hle3 : Le G G3) rfl
      obtain ⟨kk, nn9, ee, hnum, hcs⟩ := eqd_cases a b'
      rw [hnum]
      refine rn_ ?_; intros
      refine hs_ ?_
      refine hu_take0 9 rfl (by kernel_rfl) (by kernel_rfl) (by kernel_rfl) (by decide) (fun c a w v => hQp c a w _ v) (by rw [hnt]; rfl) (allIn (by repeat (first | exact trivial | refine ⟨rfl, ?_⟩))) (by first | exact Le.refl _ | assumption) (quiet_op (by rw [hty]; first | rfl | (refine st_ ?_; rfl))) ?_; refine st_ ?_
      refine hu_take0 10 rfl (by kernel_rfl) (by kernel_rfl) (by kernel_rfl) (by decide) (fun c a w v => hQp c a w _ v) (by rw [hnt]; rfl) (allIn (by repeat (first | exact trivial | refine ⟨rfl, ?_⟩))) (by first | exact Le.refl _ | assumption) (quiet_op (by rw [hty]; first | rfl | (refine st_ ?_; rfl))) ?_; refine st_ ?_
      refine hu_take0 11 rfl (by kernel_rfl) (by kernel_rfl) (by kernel_rfl) (by decide) (fun c a w v => hQp c a w _ v) (by rw [hnt]; rfl) (allIn (by repeat (first | exact trivial | refine ⟨rfl, ?_⟩))) (by first | exact Le.refl _ | assumption) (quiet_op (by rw [hty]; first | rfl | (refine st_ ?_; rfl))) ?_; refine st_ ?_
      refine hu_last 12 [] rfl (by kernel_rfl) rfl ?_
      refine rn_ ?_; intros
      refine h_one 13 rfl (by kernel_rfl) ?_
      refine rn_ ?_; intros
      refine hs_ ?_
      refine h_end (by kernel_rfl) ?_
      refine rn_ ?_; intros
      refine go_keep [4, 5, 6, 7] [2, 3] ?_
      refine st_ ?_
      refine hK _ ⟨G3, .mk kk nn9 [], .slice none 0 0, ee, hle3, rfl, ?_⟩
      rcases hcs with ⟨hn, he⟩ | ⟨hn, he, hr⟩
      · exact .inr ⟨he, by rw [← ho, hn], _, _, _, rfl⟩
      · exact .inl ⟨he, hr G3, by simp [tsz, tszL], by rw [← ho, hn, if_pos (xeqF hn)]⟩
    refine rn_ ?_; intros
    refine x_split rfl rfl rfl (fun h9 => ?_) (fun h9 => ?_) <;> (refine st_ ?_; (refine ru_ ?_; intros))
    · have hop : nd.op = 9 := by simpa using h9
      simp only [hop, Int.reduceEq, if_false, if_true] at ho
      obtain ⟨a, b', t, hdn, ho⟩ := two_some ho
      have hl2 : 2 ≤ l.length := by rw [hdn]; simp
      obtain ⟨bD, oD, s0, rfl, hat0, hr0, ht0⟩ := rW_at hsl (i := 0) (by omega)
      obtain ⟨bD', oD', s1, e1, hat1, hr1, ht1⟩ := rW_at hsl (i := 1) (by omega)
      cases e1
      have e0 : l[0]'(by omega) = a := by simp [hdn]
      have e1 : l[1]'(by omega) = b' := by simp [hdn]
      rw [e0] at hat0 hr0 ht0
      rw [e1] at hat1 hr1 ht1
      obtain ⟨a8, c8, rfl⟩ := VT.rep_slice hr0
      obtain ⟨a9, c9, rfl⟩ := VT.rep_slice hr1
      refine rn_ ?_; intros
      refine x_heldP [(0, b2, .c 96 [.v (.int .i64 f), .v (.int .i64 nn), .v (.slice av vars.length cv'), .v (.slice (some ⟨bD, oD, none⟩) l.length cl)])] 12 rfl (by rw [hP]; kernel_rfl) rfl rfl rfl ?_; refine st_ ?_
      refine hu_take0 0 rfl (by kernel_rfl) (by kernel_rfl) (by kernel_rfl) (by decide) (fun c a w v => hQp c a w _ v) (by rw [hnt]; rfl) (allIn (by repeat (first | exact trivial | refine ⟨rfl, ?_⟩))) (by first | exact Le.refl _ | assumption) (quiet_op (by rw [hty]; first | rfl | (refine st_ ?_; rfl))) ?_; refine st_ ?_
      refine hu_takeB 1 [1, 12] rfl (by kernel_rfl) (by kernel_rfl) (by kernel_rfl) (by kernel_rfl) (fun c a w v => hQp c a w _ v) (by rw [hnt]; rfl) (allIn (by repeat (first | exact trivial | refine ⟨rfl, ?_⟩))) (by first | exact Le.refl _ | assumption) (quiet_op (by rw [hty]; first | rfl | (refine st_ ?_; rfl))) ?_; refine st_ ?_
      refine hu_takeB 2 [2, 12] rfl (by kernel_rfl) (by kernel_rfl) (by kernel_rfl) (by kernel_rfl) (fun c a w v => hQp c a w _ v) (by rw [hnt]; rfl) (allIn (by repeat (first | exact trivial | refine ⟨rfl, ?_⟩))) (by first | exact Le.refl _ | assumption) (x := .v (.pointer (some ⟨bD, oD + 0 * 3, none⟩))) ((quiet_index (by rw [hty]; rfl) (by rw [hty]; rfl) rfl rfl rfl (by omega) (by omega)).cast (by rfl)) ?_
      refine st_ ?_
      refine hu_takeB 3 [3, 12] rfl (by kernel_rfl) (by kernel_rfl) (by kernel_rfl) (by kernel_rfl) (fun c a w v => hQp c a w _ v) (by rw [hnt]; rfl) (allIn (by repeat (first | exact trivial | refine ⟨rfl, ?_⟩))) (by first | exact Le.refl _ | assumption) (x := .a [.v (.int .i64 a.k), .v (.int .i64 a.n), .v (.slice a8 a.l.length c8)]) ((quiet_load (by rw [hty]; rfl) rfl (by simp [TK.agg]) hat0 rfl).cast (by rfl)) ?_
      refine st_ ?_
      refine hu_take0 4 rfl (by kernel_rfl) (by kernel_rfl) (by kernel_rfl) (by decide) (fun c a w v => hQp c a w _ v) (by rw [hnt]; rfl) (allIn (by repeat (first | exact trivial | refine ⟨rfl, ?_⟩))) (by first | exact Le.refl _ | assumption) (quiet_op (by rw [hty]; first | rfl | (refine st_ ?_; rfl))) ?_; refine st_ ?_
      refine hu_takeB 5 [5, 12] rfl (by kernel_rfl) (by kernel_rfl) (by kernel_rfl) (by kernel_rfl) (fun c a w v => hQp c a w _ v) (by rw [hnt]; rfl) (allIn (by repeat (first | exact trivial | refine ⟨rfl, ?_⟩))) (by first | exact Le.refl _ | assumption) (quiet_op (by rw [hty]; first | rfl | (refine st_ ?_; rfl))) ?_; refine st_ ?_
      refine hu_takeB 6 [6, 12] rfl (by kernel_rfl) (by kernel_rfl) (by kernel_rfl) (by kernel_rfl) (fun c a w v => hQp c a w _ v) (by rw [hnt]; rfl) (allIn (by repeat (first | exact trivial | refine ⟨rfl, ?_⟩))) (by first | exact Le.refl _ | assumption) (x := .v (.pointer (some ⟨bD, oD + 1 * 3, none⟩))) ((quiet_index (by rw [hty]; rfl) (by rw [hty]; rfl) rfl rfl rfl (by omega) (by omega)).cast (by rfl)) ?_
      refine st_ ?_
      refine hu_takeB 7 [7, 12] rfl (by kernel_rfl) (by kernel_rfl) (by kernel_rfl) (by kernel_rfl) (fun c a w v => hQp c a w _ v) (by rw [hnt]; rfl) (allIn (by repeat (first | exact trivial | refine ⟨rfl, ?_⟩))) (by first | exact Le.refl _ | assumption) (x := .a [.v (.int .i64 b'.k), .v (.int .i64 b'.n), .v (.slice a9 b'.l.length c9)]) ((quiet_load (by rw [hty]; rfl) rfl (by simp [TK.agg]) hat1 rfl).cast (by rfl)) ?_
      refine st_ ?_
      refine hu_one 8 rfl (by kernel_rfl) ?_
      refine go_call (by rw [hnt]; rfl) (by rw [hP]; kernel_rfl) rfl (hP ▸ rless_ok a b' _ _ G hr0 hr1 (by omega) (by omega)) ?_
      rintro _ G3 (hle3 : Le G G3) rfl
      obtain ⟨kk, nn9, ee, hnum, hcs⟩ := numd_cases a b' (fun m n => if decide (m < n) then 1 else 0) (fun _ _ => by split <;> simp [isI64])
      rw [hnum]
      refine rn_ ?_; intros
      refine hs_ ?_
      refine hu_take0 9 rfl (by kernel_rfl) (by kernel_rfl) (by kernel_rfl) (by decide) (fun c a w v => hQp c a w _ v) (by rw [hnt]; rfl) (allIn (by repeat (first | exact trivial | refine ⟨rfl, ?_⟩))) (by first | exact Le.refl _ | assumption) (quiet_op (by rw [hty]; first | rfl | (refine st_ ?_; rfl))) ?_; refine st_ ?_
      refine hu_take0 10 rfl (by kernel_rfl) (by kernel_rfl) (by kernel_rfl) (by decide) (fun c a w v => hQp c a w _ v) (by rw [hnt]; rfl) (allIn (by repeat (first | exact trivial | refine ⟨rfl, ?_⟩))) (by first | exact Le.refl _ | assumption) (quiet_op (by rw [hty]; first | rfl | (refine st_ ?_; rfl))) ?_; refine st_ ?_
      refine hu_take0 11 rfl (by kernel_rfl) (by kernel_rfl) (by kernel_rfl) (by decide) (fun c a w v => hQp c a w _ v) (by rw [hnt]; rfl) (allIn (by repeat (first | exact trivial | refine ⟨rfl, ?_⟩))) (by first | exact Le.refl _ | assumption) (quiet_op (by rw [hty]; first | rfl | (refine st_ ?_; rfl))) ?_; refine st_ ?_
      refine hu_last 12 [] rfl (by kernel_rfl) rfl ?_
      refine rn_ ?_; intros
      refine h_one 13 rfl (by kernel_rfl) ?_
      refine rn_ ?_; intros
      refine hs_ ?_
      refine h_end (by kernel_rfl) ?_
      refine rn_ ?_; intros
      refine go_keep [4, 5, 6, 7] [2, 3] ?_
      refine st_ ?_
      refine hK _ ⟨G3, .mk kk nn9 [], .slice none 0 0, ee, hle3, rfl, ?_⟩
      rcases hcs with ⟨hn, he⟩ | ⟨hn, he, hr⟩
      · exact .inr ⟨he, by rw [← ho, hn], _, _, _, rfl⟩
      · exact .inl ⟨he, hr G3, by simp [tsz, tszL], by rw [← ho, hn, if_pos (xnumF hn)]⟩
    refine rn_ ?_; intros
    refine x_split rfl rfl rfl (fun h11 => ?_) (fun h11 => ?_) <;> (refine st_ ?_; (refine ru_ ?_; intros))
    · have hop : nd.op = 11 := by simpa using h11
      simp only [hop, Int.reduceEq, if_false, if_true] at ho
      obtain ⟨a, t, hdn, ho⟩ := one_some ho
      have hl2 : 1 ≤ l.length := by rw [hdn]; simp
      obtain ⟨bD, oD, s0, rfl, hat0, hr0, ht0⟩ := rW_at hsl (i := 0) (by omega)
      have e0 : l[0]'(by omega) = a := by simp [hdn]
      rw [e0] at hat0 hr0 ht0
      refine rn_ ?_; intros
      refine go_q (v := .pointer (some ⟨bD, oD + 0 * 3, none⟩)) (by rw [hnt]; rfl) ((quiet_index (by rw [hty]; rfl) (by rw [hty]; rfl) rfl rfl rfl (by omega) (by omega)).cast (by rfl)) ?_
      refine rn_ ?_; intros
      refine go_q (v := .agg #[.int .i64 a.k, .int .i64 a.n, s0]) (by rw [hnt]; rfl) ((quiet_load (by rw [hty]; rfl) rfl (by simp [TK.agg]) hat0 rfl).cast (by rfl)) ?_
      refine rn_ ?_; intros
      refine go_call (by rw [hnt]; rfl) (by rw [hP]; kernel_rfl) rfl (hP ▸ rfirst_ok a s0 G hr0 (by omega)) ?_
      rintro _ G3 (hle3 : Le G G3) (⟨hv, a3, c3, rfl, hr⟩ | ⟨hv, rfl⟩)
      · refine rn_ ?_; intros
        refine go_keep [4, 5, 6, 7] [2, 3] ?_
        refine st_ ?_
        exact hK _ ⟨G3, _, _, 0, hle3, rfl, .inl ⟨rfl, hr, by have := half_tsz (i := 0) ht0; omega, by rw [← ho, halfF, if_pos hv, if_pos (xhalf (i := 0) (show halfF _ a = some _ by rw [halfF, if_pos hv]))]⟩⟩
      · refine rn_ ?_; intros
        refine go_keep [4, 5, 6, 7] [2, 3] ?_
        refine st_ ?_
        exact hK _ ⟨G3, .mk 0 0 [], .slice none 0 0, _, hle3, rfl, .inr ⟨by split <;> decide, by rw [← ho, halfF, if_neg (by rw [hv]; decide)], _, _, _, rfl⟩⟩
    refine rn_ ?_; intros
    refine x_split rfl rfl rfl (fun h12 => ?_) (fun h12 => ?_) <;> (refine st_ ?_; (refine ru_ ?_; intros))
    · have hop : nd.op = 12 := by simpa using h12
      simp only [hop, Int.reduceEq, if_false, if_true] at ho
      obtain ⟨a, t, hdn, ho⟩ := one_some ho
      have hl2 : 1 ≤ l.length := by rw [hdn]; simp
      obtain ⟨bD, oD, s0, rfl, hat0, hr0, ht0⟩ := rW_at hsl (i := 0) (by omega)
      have e0 : l[0]'(by omega) = a := by simp [hdn]
      rw [e0] at hat0 hr0 ht0
      refine rn_ ?_; intros
      refine go_q (v := .pointer (some ⟨bD, oD + 0 * 3, none⟩)) (by rw [hnt]; rfl) ((quiet_index (by rw [hty]; rfl) (by rw [hty]; rfl) rfl rfl rfl (by omega) (by omega)).cast (by rfl)) ?_
      refine rn_ ?_; intros
      refine go_q (v := .agg #[.int .i64 a.k, .int .i64 a.n, s0]) (by rw [hnt]; rfl) ((quiet_load (by rw [hty]; rfl) rfl (by simp [TK.agg]) hat0 rfl).cast (by rfl)) ?_
      refine rn_ ?_; intros
      refine go_call (by rw [hnt]; rfl) (by rw [hP]; kernel_rfl) rfl (hP ▸ rsecond_ok a s0 G hr0 (by omega)) ?_
      rintro _ G3 (hle3 : Le G G3) (⟨hv, a3, c3, rfl, hr⟩ | ⟨hv, rfl⟩)
      · refine rn_ ?_; intros
        refine go_keep [4, 5, 6, 7] [2, 3] ?_
        refine st_ ?_
        exact hK _ ⟨G3, _, _, 0, hle3, rfl, .inl ⟨rfl, hr, by have := half_tsz (i := 1) ht0; omega, by rw [← ho, halfF, if_pos hv, if_pos (xhalf (i := 1) (show halfF _ a = some _ by rw [halfF, if_pos hv]))]⟩⟩
      · refine rn_ ?_; intros
        refine go_keep [4, 5, 6, 7] [2, 3] ?_
        refine st_ ?_
        exact hK _ ⟨G3, .mk 0 0 [], .slice none 0 0, _, hle3, rfl, .inr ⟨by split <;> decide, by rw [← ho, halfF, if_neg (by rw [hv]; decide)], _, _, _, rfl⟩⟩
    refine rn_ ?_; intros
    have hopk : nd.op = 10 ∨ 16 ≤ nd.op ∧ nd.op ≤ 23 := by
      have q1 : ¬ nd.op = 1 := by simpa using h1
      have q2 : ¬ nd.op = 2 := by simpa using h2
      have q3 : ¬ nd.op = 3 := by simpa using h3
      have q6 : ¬ nd.op = 6 := by simpa using h6
      have q7 : ¬ nd.op = 7 := by simpa using h7
      have q8 : ¬ nd.op = 8 := by simpa using h8
      have q9 : ¬ nd.op = 9 := by simpa using h9
      have q11 : ¬ nd.op = 11 := by simpa using h11
      have q12 : ¬ nd.op = 12 := by simpa using h12
      omega
    rw [if_neg (show ¬ nd.op = 3 by omega), if_neg (show ¬ nd.op = 6 by omega), if_neg (show ¬ nd.op = 7 by omega), if_neg (show ¬ nd.op = 8 by omega), if_neg (show ¬ nd.op = 9 by omega), if_neg (show ¬ nd.op = 11 by omega), if_neg (show ¬ nd.op = 12 by omega)] at ho
    split at ho
    rotate_left
    · cases ho
    rename_i hts
    injection ho with ho
    have hk64 : isI64 (kOf nd.op) := kOf_64 _
    obtain ⟨cs, hcs, hsrc⟩ := Rp.srcS hsl
    have hcl := Rp.L_len hcs
    simp only [rW] at hcl
    refine rn_ ?_; intros
    refine x_held [(0, b2, .c 96 [.v (.int .i64 f), .v (.int .i64 nn), .v (.slice av vars.length cv'), .v (.slice al l.length cl)]), (1, b3, .c 110 [.v (.int .i64 nd.op), .v (.int .i64 nd.n), .v (.slice anl nd.l.length cnl)])] rfl (by rw [hP]; kernel_rfl) rfl rfl rfl ?_; refine st_ ?_
    refine tq_ 0 rfl (quiet_op (by rw [hty]; first | rfl | (refine st_ ?_; rfl))) ?_; refine st_ ?_
    refine tq_ 2 rfl (quiet_op (by rw [hty]; first | rfl | (refine st_ ?_; rfl))) ?_; refine st_ ?_
    refine tq_ 3 rfl (quiet_op (by rw [hty]; first | rfl | (refine st_ ?_; rfl))) ?_; refine st_ ?_
    refine tq_ 5 rfl (quiet_op (by rw [hty]; first | rfl | (refine st_ ?_; rfl))) ?_; refine st_ ?_
    refine tq_ 6 rfl (quiet_op (by rw [hty]; first | rfl | (refine st_ ?_; rfl))) ?_; refine st_ ?_
    refine h_two 1 4 rfl rfl (by kernel_rfl) ?_ ?_
    · refine go_callf (by rw [hnt]; rfl) (by rw [hP]; kernel_rfl) rfl (hP ▸ rkind_ok nd.op G ho64 hopk) ?_
      refine rn_ ?_; intros
      refine hs_ ?_
      refine h_one 4 rfl (by kernel_rfl) ?_
      refine rn_ ?_; intros
      refine hs_ ?_
      refine h_one 7 rfl (by kernel_rfl) ?_
      refine go_torowN 4 (n := 0) (size := 3) rfl rfl (by omega) ?_
      refine go_append_any 4 (by rw [hnt]; rfl) (by rw [hty]; rfl) (by rw [hty]; rfl) (by decide) rfl rfl rfl (by rw [hmh]; omega) rfl (hsrc.imp id fun f => f _ _ rfl) (by simp only []; omega) (Rp.L_one hcs) (by omega) (by simp only []; omega) ?_
      intro v6
      refine go_rowS 4 rfl ?_
      rintro ad6 cap6 rfl
      refine rn_ ?_; intros
      refine hs_ ?_
      refine tq_ 8 rfl (quiet_op (by rw [hty]; first | rfl | (refine st_ ?_; rfl))) ?_; refine st_ ?_
      refine h_one 9 rfl (by kernel_rfl) ?_
      refine rn_ ?_; intros
      refine hs_ ?_
      refine h_end (by kernel_rfl) ?_
      refine rn_ ?_; intros
      refine go_pubL rW 4 rfl (by rw [hmh]; omega) (ts := l) (by simp) (by omega) hcs ?_
      intro G5 ad8 cap8 (hle3 : Le G G5) e8 hS8
      injection e8 with q1 q2 q3
      subst q1 q3
      refine go_keep [4, 5, 6, 7] [2, 3] ?_
      refine st_ ?_
      exact hK _ ⟨G5, .mk (kOf nd.op) nd.n l, _, 0, hle3, rfl, .inl ⟨rfl, rW_repM hk64 hn64 hS8, Nat.le_trans hts (by omega), ho.symm⟩⟩
    · refine rn_ ?_; intros
      refine hs_ ?_
      refine h_one 1 rfl (by kernel_rfl) ?_
      refine go_callf (by rw [hnt]; rfl) (by rw [hP]; kernel_rfl) rfl (hP ▸ rkind_ok nd.op G ho64 hopk) ?_
      refine rn_ ?_; intros
      refine hs_ ?_
      refine h_one 7 rfl (by kernel_rfl) ?_
      refine go_torowN 4 (n := 0) (size := 3) rfl rfl (by omega) ?_
      refine go_append_any 4 (by rw [hnt]; rfl) (by rw [hty]; rfl) (by rw [hty]; rfl) (by decide) rfl rfl rfl (by rw [hmh]; omega) rfl (hsrc.imp id fun f => f _ _ rfl) (by simp only []; omega) (Rp.L_one hcs) (by omega) (by simp only []; omega) ?_
      intro v6
      refine go_rowS 4 rfl ?_
      rintro ad6 cap6 rfl
      refine rn_ ?_; intros
      refine hs_ ?_
      refine tq_ 8 rfl (quiet_op (by rw [hty]; first | rfl | (refine st_ ?_; rfl))) ?_; refine st_ ?_
      refine h_one 9 rfl (by kernel_rfl) ?_
      refine rn_ ?_; intros
      refine hs_ ?_
      refine h_end (by kernel_rfl) ?_
      refine rn_ ?_; intros
      refine go_pubL rW 4 rfl (by rw [hmh]; omega) (ts := l) (by simp) (by omega) hcs ?_
      intro G5 ad8 cap8 (hle3 : Le G G5) e8 hS8
      injection e8 with q1 q2 q3
      subst q1 q3
      refine go_keep [4, 5, 6, 7] [2, 3] ?_
      refine st_ ?_
      exact hK _ ⟨G5, .mk (kOf nd.op) nd.n l, _, 0, hle3, rfl, .inl ⟨rfl, rW_repM hk64 hn64 hS8, Nat.le_trans hts (by omega), ho.symm⟩⟩
  · rintro s' ⟨G1, y, slk, e, hle1, rfl, hcs⟩
    simp only [List.drop_succ_cons, List.drop_zero]
    rcases hcs with ⟨rfl, hry, hty9, ho2⟩ | ⟨he, ho2, ay, my, cy, rfl⟩
    · obtain ⟨ay, cy, rfl⟩ := VT.rep_slice hry
      refine rn_ ?_; intros
      refine x_heldP [(3, b6, .c 42 [.v (.int .i64 y.k), .v (.int .i64 y.n), .v (.slice ay y.l.length cy)])] 7 rfl (by rw [hP]; kernel_rfl) rfl rfl rfl ?_; refine st_ ?_
      refine hu_takeB 0 [0, 7] rfl (by kernel_rfl) (by kernel_rfl) (by kernel_rfl) (by kernel_rfl) (fun c a w v => hQp c a w _ v) (by rw [hnt]; rfl) (allIn (by repeat (first | exact trivial | refine ⟨rfl, ?_⟩))) (by first | exact Le.refl _ | assumption) (quiet_op (by rw [hty]; first | rfl | (refine st_ ?_; rfl))) ?_; refine st_ ?_
      refine hu_take0 1 rfl (by kernel_rfl) (by kernel_rfl) (by kernel_rfl) (by decide) (fun c a w v => hQp c a w _ v) (by rw [hnt]; rfl) (allIn (by repeat (first | exact trivial | refine ⟨rfl, ?_⟩))) (by first | exact Le.refl _ | assumption) (quiet_op (by rw [hty]; first | rfl | (refine st_ ?_; rfl))) ?_; refine st_ ?_
      refine hu_take0 2 rfl (by kernel_rfl) (by kernel_rfl) (by kernel_rfl) (by decide) (fun c a w v => hQp c a w _ v) (by rw [hnt]; rfl) (allIn (by repeat (first | exact trivial | refine ⟨rfl, ?_⟩))) (by first | exact Le.refl _ | assumption) (quiet_op (by rw [hty]; first | rfl | (refine st_ ?_; rfl))) ?_; refine st_ ?_
      refine hu_take0 3 rfl (by kernel_rfl) (by kernel_rfl) (by kernel_rfl) (by decide) (fun c a w v => hQp c a w _ v) (by rw [hnt]; rfl) (allIn (by repeat (first | exact trivial | refine ⟨rfl, ?_⟩))) (by first | exact Le.refl _ | assumption) (quiet_op (by rw [hty]; first | rfl | (refine st_ ?_; rfl))) ?_; refine st_ ?_
      refine go_slot 116 (.b true) rfl rfl ?_
      refine hu_one 4 rfl (by kernel_rfl) ?_
      refine rn_ ?_; intros
      refine hs_ ?_
      refine hu_one 5 rfl (by kernel_rfl) ?_
      refine rn_ ?_; intros
      refine go_callf (by rw [hnt]; rfl) (by rw [hP]; kernel_rfl) rfl (hP ▸ refright_ok y _ G1 hry hty9) ?_; refine rn_ ?_; intros
      refine hs_ ?_
      refine hu_take0 6 rfl (by kernel_rfl) (by kernel_rfl) (by kernel_rfl) (by decide) (fun c a w v => hQp c a w _ v) (by rw [hnt]; rfl) (allIn (by repeat (first | exact trivial | refine ⟨rfl, ?_⟩))) (by first | exact Le.refl _ | assumption) (quiet_op (by rw [hty]; first | rfl | (refine st_ ?_; rfl))) ?_; refine st_ ?_
      refine hu_last 7 [] rfl (by kernel_rfl) rfl ?_
      refine rn_ ?_; intros
      refine h_one 8 rfl (by kernel_rfl) ?_
      refine rn_ ?_; intros
      refine hs_ ?_
      refine h_end (by kernel_rfl) ?_
      refine rn_ ?_; intros
      refine xc_ hQ hmb ?_; simp only [SV.den, resV, dens]
      cases hvy : vld y with
      | true => rw [ho2, hvy]; exact ⟨_, rfl, hry, by have := xvld_sz hvy; omega⟩
      | false => rw [ho2, hvy]; exact ⟨_, _, _, _, _, rfl⟩
    · refine rn_ ?_; intros
      refine x_heldP [(3, b6, .c 42 [.v (.int .i64 y.k), .v (.int .i64 y.n), .v (.slice ay my cy)])] 7 rfl (by rw [hP]; kernel_rfl) rfl rfl rfl ?_; refine st_ ?_
      refine hu_takeB 0 [0, 7] rfl (by kernel_rfl) (by kernel_rfl) (by kernel_rfl) (by kernel_rfl) (fun c a w v => hQp c a w _ v) (by rw [hnt]; rfl) (allIn (by repeat (first | exact trivial | refine ⟨rfl, ?_⟩))) (by first | exact Le.refl _ | assumption) (quiet_op (by rw [hty]; first | rfl | (refine st_ ?_; rfl))) ?_; refine st_ ?_
      refine hu_take0 1 rfl (by kernel_rfl) (by kernel_rfl) (by kernel_rfl) (by decide) (fun c a w v => hQp c a w _ v) (by rw [hnt]; rfl) (allIn (by repeat (first | exact trivial | refine ⟨rfl, ?_⟩))) (by first | exact Le.refl _ | assumption) (quiet_op (by rw [hty]; first | rfl | (refine st_ ?_; rfl))) ?_; refine st_ ?_
      refine hu_take0 2 rfl (by kernel_rfl) (by kernel_rfl) (by kernel_rfl) (by decide) (fun c a w v => hQp c a w _ v) (by rw [hnt]; rfl) (allIn (by repeat (first | exact trivial | refine ⟨rfl, ?_⟩))) (by first | exact Le.refl _ | assumption) (quiet_op (by rw [hty]; first | rfl | (refine st_ ?_; rfl))) ?_; refine st_ ?_
      refine hu_take0 3 rfl (by kernel_rfl) (by kernel_rfl) (by kernel_rfl) (by decide) (fun c a w v => hQp c a w _ v) (by rw [hnt]; rfl) (allIn (by repeat (first | exact trivial | refine ⟨rfl, ?_⟩))) (by first | exact Le.refl _ | assumption) (quiet_op (by rw [hty]; first | rfl | (refine st_ ?_; rfl))) ?_; refine st_ ?_
      refine go_slot 116 (.b false) rfl (by simp [SV.den]; exact he) ?_
      refine hu_one 4 rfl (by kernel_rfl) ?_
      refine rn_ ?_; intros
      refine hs_ ?_
      refine hu_one 5 rfl (by kernel_rfl) ?_
      refine rn_ ?_; intros
      refine hs_ ?_
      refine hu_take0 6 rfl (by kernel_rfl) (by kernel_rfl) (by kernel_rfl) (by decide) (fun c a w v => hQp c a w _ v) (by rw [hnt]; rfl) (allIn (by repeat (first | exact trivial | refine ⟨rfl, ?_⟩))) (by first | exact Le.refl _ | assumption) (quiet_op (by rw [hty]; first | rfl | (refine st_ ?_; rfl))) ?_; refine st_ ?_
      refine hu_last 7 [] rfl (by kernel_rfl) rfl ?_
      refine rn_ ?_; intros
      refine h_one 8 rfl (by kernel_rfl) ?_
      refine rn_ ?_; intros
      refine hs_ ?_
      refine h_end (by kernel_rfl) ?_
      refine rn_ ?_; intros
      refine xc_ hQ hmb ?_; simp only [SV.den, resV, dens]
      rw [ho2]
      exact ⟨_, _, _, _, _, rfl⟩
end Go.Proofs.YtpppkednpamhbaaGreat.R
namespace Go.Proofs.YtpppkednpamhbaaGreat.R
set_option linter.unusedSimpArgs false
set_option linter.unusedVariables false
open Go.Sx
set_option maxHeartbeats 16000000
set_option maxRecDepth 20000
theorem rdone_ok (ps : Value) (p : Pr) (s : Fb) (v : VT) (sv : Value) (o : Fb) (v0 : Value) (G : Hp) (hp : rF.S G p ps) (h0 : rfO G ps s.st vt0 s.l v0) (hval : s.val = vt0) (hws : WS p (s.l.drop 1)) (hlen : s.l.length ≤ 256) (hv : v.rep G sv) (hvt : tsz v ≤ 1000) (hvv : vld v = true) (ho : prodF p s v = some o) :
    Pure Tryz.prog 76 [v0, .agg #[.int .i64 v.k, .int .i64 v.n, sv]] G (fun w G' => rfO G' ps o.st o.val o.l w) := by
  obtain ⟨lsl, vl, rfl, hL, hvl, _⟩ := h0
  obtain ⟨vA, vC, rfl⟩ := VT.rep_slice hvl
  obtain ⟨pA, pC, rfl⟩ := Rp.S_slice hp
  obtain ⟨a9, c9, rfl⟩ := VT.rep_slice hv
  unfold prodF at ho
  cases hsl : s.l with
  | nil => rw [hsl] at ho; cases ho
  | cons x l1 =>
  rw [hsl] at ho hL hws hlen
  obtain ⟨aL, cL, rfl⟩ := Rp.S_slice hL.1
  refine enterX ty tyok Tryz.func76 rfl Tryz.ntmps76 [.a [.v (.slice pA p.length pC), .v (.slice aL (x :: l1).reverse.length cL), .v (.int .i64 s.st), .v (.int .i64 vt0.k), .v (.int .i64 vt0.n), .v (.slice vA vt0.l.length vC)], .a [.v (.int .i64 v.k), .v (.int .i64 v.n), .v (.slice a9 v.l.length c9)]] (by simp) ?_
  intro C hP hQ hnt hty hmb hmh hro; have hQp := qp_body hQ; refine st_ ?_
  refine rn_ ?_; intros
  refine x_split rfl rfl rfl (fun h1 => ?_) (fun h1 => ?_) <;> (refine st_ ?_; (refine ru_ ?_; intros))
  · have hl1 : l1 = [] := List.eq_nil_of_length_eq_zero (by simp at h1; omega)
    subst hl1
    simp only [] at ho
    injection ho with ho
    subst ho
    refine rn_ ?_; intros
    refine xc_ hQ hmb ?_; simp only [SV.den, resV, dens]
    exact ⟨_, _, rfl, ⟨Rp.S_nil none 0, fun _ _ _ e => by cases e; simp⟩, hv, hvt⟩
  cases l1 with
  | nil => simp at h1
  | cons y r =>
  simp only [] at ho
  split at ho
  rotate_left
  · cases ho
  rename_i hdl
  obtain ⟨o', ho', rfl⟩ := Option.map_eq_some_iff.1 ho
  obtain ⟨⟨nd, hvx, hlt⟩, hws2⟩ := hws
  simp only [List.length_cons] at hlen
  have hvx2 : VX p ⟨y.fn, y.nd, y.vars, y.done ++ [v]⟩ nd := ⟨hvx.1, by simp; omega, hvx.2.2.1, fun w hw => by
    rcases List.mem_append.1 hw with hw | hw
    · exact hvx.2.2.2 w hw
    · simp at hw; subst hw; exact hvv⟩
  have hS1 := Rp.S_hi (a := r.length + 1) hL.1 (by simp)
  have et : (x :: y :: r).reverse.take (r.length + 1) = (y :: r).reverse := by
    rw [List.reverse_cons]
    exact List.take_left' (by simp)
  rw [et] at hS1
  obtain ⟨a7, c7, e7⟩ := Rp.S_slice hS1
  rw [e7] at hS1
  have ec : c7 = cL := by simp [Sx.sliced] at e7; omega
  have hcL : (x :: y :: r).reverse.length ≤ cL := hL.2 _ _ _ rfl
  have hcL2 : r.length + 2 ≤ cL := by simpa using hcL
  have ew : IntKind.i64.wrap (((x :: y :: r).reverse.length : Int) - 1) = ((r.length + 1 : Nat) : Int) := by simp only [List.length_reverse, List.length_cons]; rw [wr (by omega) (by omega)]; omega
  refine rn_ ?_; intros
  simp only [ew]
  refine go_q (v := .slice a7 (y :: r).reverse.length c7) (by rw [hnt]; rfl) ((quiet_sliceHi (by rw [hty]; rfl) (by rw [hty]; rfl) rfl rfl rfl (by omega) (by omega)).cast (by rw [← e7]; rfl)) ?_
  refine rn_ ?_; intros
  refine go_call (by rw [hnt]; rfl) (by rw [hP]; kernel_rfl) rfl (hP ▸ rlast_ok _ _ _ s.st vt0.k vt0.n p y r nd G hp hS1 ⟨_, _, _, rfl⟩ hvx.1.nd (by omega)) ?_
  rintro _ G2 (hle2 : Le G G2) ⟨av, cw, ad, cd, an, cn, rfl, hsv, hsd, hrI, g1, g2, i1, i2⟩
  obtain ⟨cs, hcs, hsrc⟩ := Rp.srcS hsd
  have hcl := Rp.L_len hcs
  simp only [rW] at hcl
  refine rn_ ?_; intros
  rename_i b1 b2 b3 b4 b5
  refine x_heldP [(1, b2, .c 42 [.v (.int .i64 v.k), .v (.int .i64 v.n), .v (.slice a9 v.l.length c9)]), (3, b4, .c 96 [.v (.int .i64 y.fn), .v (.int .i64 y.nd), .v (.slice av y.vars.length cw), .v (.slice ad y.done.length cd)])] 8 rfl (by rw [hP]; kernel_rfl) rfl rfl rfl ?_; refine st_ ?_
  refine hu_take 1 rfl (by kernel_rfl) (by kernel_rfl) (by kernel_rfl) (by kernel_rfl) rfl (fun c a w v => hQp c a w _ v) (by rw [hnt]; rfl) (allIn (by repeat (first | exact trivial | refine ⟨rfl, ?_⟩))) (by first | exact Le.refl _ | assumption) (quiet_op (by rw [hty]; first | rfl | (refine st_ ?_; rfl))) ?_; refine st_ ?_
  refine hu_take 2 rfl (by kernel_rfl) (by kernel_rfl) (by kernel_rfl) (by kernel_rfl) rfl (fun c a w v => hQp c a w _ v) (by rw [hnt]; rfl) (allIn (by repeat (first | exact trivial | refine ⟨rfl, ?_⟩))) (by first | exact Le.refl _ | assumption) (quiet_op (by rw [hty]; first | rfl | (refine st_ ?_; rfl))) ?_; refine st_ ?_
  refine hu_take 4 rfl (by kernel_rfl) (by kernel_rfl) (by kernel_rfl) (by kernel_rfl) rfl (fun c a w v => hQp c a w _ v) (by rw [hnt]; rfl) (allIn (by repeat (first | exact trivial | refine ⟨rfl, ?_⟩))) (by first | exact Le.refl _ | assumption) (quiet_op (by rw [hty]; first | rfl | (refine st_ ?_; rfl))) ?_; refine st_ ?_
  refine hu_two 0 5 rfl rfl (by kernel_rfl) ?_ ?_
  · refine rn_ ?_; intros
    refine hs_ ?_
    refine hu_two 3 5 rfl rfl (by kernel_rfl) ?_ ?_
    · refine go_torowN 5 (n := 0) (size := 3) rfl rfl (by omega) ?_
      refine go_append_any 5 (by rw [hnt]; rfl) (by rw [hty]; rfl) (by rw [hty]; rfl) (by decide) rfl rfl rfl (by rw [hmh]; omega) rfl (hsrc.imp id fun f => f _ _ rfl) (by simp only []; omega) (Rp.L_one hcs) (by omega) (by simp only []; omega) ?_
      intro v6
      refine go_rowS 5 rfl ?_
      rintro ad6 cap6 rfl
      refine rn_ ?_; intros
      refine hs_ ?_
      refine hu_one 5 rfl (by kernel_rfl) ?_
      refine rn_ ?_; intros
      refine hs_ ?_
      refine hu_one 6 rfl (by kernel_rfl) ?_
      refine go_append 5 (by rw [hnt]; rfl) (by rw [hty]; rfl) (by rw [hty]; rfl) (by decide) rfl rfl rfl (by rw [hmh]; omega) rfl (src_own 3 rfl rfl) rfl (by simp [dens, SV.den, Value.oneCell']) (by omega) (by simp only []; omega) ?_
      intro v7
      refine go_rowS 5 rfl ?_
      rintro ad7 cap7 rfl
      refine rn_ ?_; intros
      refine hs_ ?_
      refine hu_one 7 rfl (by kernel_rfl) ?_
      refine rn_ ?_; intros
      refine hs_ ?_
      refine hu_last 8 [] rfl (by kernel_rfl) rfl ?_
      refine rn_ ?_; intros
      refine h_end (by kernel_rfl) ?_
      refine rn_ ?_; intros
      refine go_pubL rW 5 rfl (by rw [hmh]; omega) (ts := y.done ++ [v]) (by simp) (by omega) (Rp.L_append hcs (Rp.L_single ⟨_, rfl, VT.rep_mono hle2 hv, hvt⟩)) ?_
      intro G5 ad8 cap8 (hle5 : Le G2 G5) e8 hS8
      injection e8 with q1 q2 q3
      subst q1 q3
      refine go_call (by rw [hnt]; rfl) (by rw [hP]; kernel_rfl) rfl (hP ▸ rwith_ok _ _ _ s.st vt0.k vt0.n y ⟨y.fn, y.nd, y.vars, y.done ++ [v]⟩ r _ _ G5 ⟨_, _, _, rfl⟩ (Rp.S_mono (hle2.trans hle5) hS1) ⟨_, _, _, rfl⟩ (Rp.S_mono hle5 hsv) (by simpa [SV.den] using hS8) g1 g2 (by omega)) ?_
      rintro _ G6 (hle6 : Le G5 G6) ⟨lsl', rfl, hS2⟩
      obtain ⟨a5, c5, rfl⟩ := Rp.S_slice hS2.1
      have hleA := (hle2.trans hle5).trans hle6
      simp only [fibV]
      refine rn_ ?_; intros
      refine go_call (by rw [hnt]; rfl) (by rw [hP]; kernel_rfl) rfl (hP ▸ rdown_ok _ s.st p 600 ⟨y.fn, y.nd, y.vars, y.done ++ [v]⟩ r nd _ o' G6 (Rp.S_mono hleA hp) ⟨_, _, rfl, hS2, VT.rep_mono hleA hvl, by simp [vt0, tsz, tszL]⟩ hvx2 (by omega) ho') ?_
      rintro _ G7 (hle7 : Le G6 G7) ⟨lsl3, vl3, rfl, hL3, hv3, ht3⟩
      obtain ⟨a5', c5', rfl⟩ := Rp.S_slice hL3.1
      obtain ⟨a6', c6', rfl⟩ := VT.rep_slice hv3
      simp only [fibV]
      refine rn_ ?_; intros
      refine xc_ hQ hmb ?_; simp only [SV.den, resV, dens]
      rw [hval]
      exact ⟨_, _, rfl, hL3, hv3, ht3⟩
    · refine rn_ ?_; intros
      refine hs_ ?_
      refine hu_one 3 rfl (by kernel_rfl) ?_
      refine go_torowN 5 (n := 0) (size := 3) rfl rfl (by omega) ?_
      refine go_append_any 5 (by rw [hnt]; rfl) (by rw [hty]; rfl) (by rw [hty]; rfl) (by decide) rfl rfl rfl (by rw [hmh]; omega) rfl (hsrc.imp id fun f => f _ _ rfl) (by simp only []; omega) (Rp.L_one hcs) (by omega) (by simp only []; omega) ?_
      intro v6
      refine go_rowS 5 rfl ?_
      rintro ad6 cap6 rfl
      refine rn_ ?_; intros
      refine hs_ ?_
      refine hu_one 6 rfl (by kernel_rfl) ?_
      refine go_append 5 (by rw [hnt]; rfl) (by rw [hty]; rfl) (by rw [hty]; rfl) (by decide) rfl rfl rfl (by rw [hmh]; omega) rfl (src_own 3 rfl rfl) rfl (by simp [dens, SV.den, Value.oneCell']) (by omega) (by simp only []; omega) ?_
      intro v7
      refine go_rowS 5 rfl ?_
      rintro ad7 cap7 rfl
      refine rn_ ?_; intros
      refine hs_ ?_
      refine hu_one 7 rfl (by kernel_rfl) ?_
      refine rn_ ?_; intros
      refine hs_ ?_
      refine hu_last 8 [] rfl (by kernel_rfl) rfl ?_
      refine rn_ ?_; intros
      refine h_end (by kernel_rfl) ?_
      refine rn_ ?_; intros
      refine go_pubL rW 5 rfl (by rw [hmh]; omega) (ts := y.done ++ [v]) (by simp) (by omega) (Rp.L_append hcs (Rp.L_single ⟨_, rfl, VT.rep_mono hle2 hv, hvt⟩)) ?_
      intro G5 ad8 cap8 (hle5 : Le G2 G5) e8 hS8
      injection e8 with q1 q2 q3
      subst q1 q3
      refine go_call (by rw [hnt]; rfl) (by rw [hP]; kernel_rfl) rfl (hP ▸ rwith_ok _ _ _ s.st vt0.k vt0.n y ⟨y.fn, y.nd, y.vars, y.done ++ [v]⟩ r _ _ G5 ⟨_, _, _, rfl⟩ (Rp.S_mono (hle2.trans hle5) hS1) ⟨_, _, _, rfl⟩ (Rp.S_mono hle5 hsv) (by simpa [SV.den] using hS8) g1 g2 (by omega)) ?_
      rintro _ G6 (hle6 : Le G5 G6) ⟨lsl', rfl, hS2⟩
      obtain ⟨a5, c5, rfl⟩ := Rp.S_slice hS2.1
      have hleA := (hle2.trans hle5).trans hle6
      simp only [fibV]
      refine rn_ ?_; intros
      refine go_call (by rw [hnt]; rfl) (by rw [hP]; kernel_rfl) rfl (hP ▸ rdown_ok _ s.st p 600 ⟨y.fn, y.nd, y.vars, y.done ++ [v]⟩ r nd _ o' G6 (Rp.S_mono hleA hp) ⟨_, _, rfl, hS2, VT.rep_mono hleA hvl, by simp [vt0, tsz, tszL]⟩ hvx2 (by omega) ho') ?_
      rintro _ G7 (hle7 : Le G6 G7) ⟨lsl3, vl3, rfl, hL3, hv3, ht3⟩
      obtain ⟨a5', c5', rfl⟩ := Rp.S_slice hL3.1
      obtain ⟨a6', c6', rfl⟩ := VT.rep_slice hv3
      simp only [fibV]
      refine rn_ ?_; intros
      refine xc_ hQ hmb ?_; simp only [SV.den, resV, dens]
      rw [hval]
      exact ⟨_, _, rfl, hL3, hv3, ht3⟩
  · refine rn_ ?_; intros
    refine hs_ ?_
    refine hu_one 0 rfl (by kernel_rfl) ?_
    refine rn_ ?_; intros
    refine hs_ ?_
    refine hu_one 3 rfl (by kernel_rfl) ?_
    refine go_torowN 6 (n := 0) (size := 3) rfl rfl (by omega) ?_
    refine go_append_any 6 (by rw [hnt]; rfl) (by rw [hty]; rfl) (by rw [hty]; rfl) (by decide) rfl rfl rfl (by rw [hmh]; omega) rfl (hsrc.imp id fun f => f _ _ rfl) (by simp only []; omega) (Rp.L_one hcs) (by omega) (by simp only []; omega) ?_
    intro v6
    refine go_rowS 6 rfl ?_
    rintro ad6 cap6 rfl
    refine rn_ ?_; intros
    refine hs_ ?_
    refine hu_one 6 rfl (by kernel_rfl) ?_
    refine go_append 6 (by rw [hnt]; rfl) (by rw [hty]; rfl) (by rw [hty]; rfl) (by decide) rfl rfl rfl (by rw [hmh]; omega) rfl (src_own 3 rfl rfl) rfl (by simp [dens, SV.den, Value.oneCell']) (by omega) (by simp only []; omega) ?_
    intro v7
    refine go_rowS 6 rfl ?_
    rintro ad7 cap7 rfl
    refine rn_ ?_; intros
    refine hs_ ?_
    refine hu_one 7 rfl (by kernel_rfl) ?_
    refine rn_ ?_; intros
    refine hs_ ?_
    refine hu_last 8 [] rfl (by kernel_rfl) rfl ?_
    refine rn_ ?_; intros
    refine h_end (by kernel_rfl) ?_
    refine rn_ ?_; intros
    refine go_pubL rW 6 rfl (by rw [hmh]; omega) (ts := y.done ++ [v]) (by simp) (by omega) (Rp.L_append hcs (Rp.L_single ⟨_, rfl, VT.rep_mono hle2 hv, hvt⟩)) ?_
    intro G5 ad8 cap8 (hle5 : Le G2 G5) e8 hS8
    injection e8 with q1 q2 q3
    subst q1 q3
    refine go_call (by rw [hnt]; rfl) (by rw [hP]; kernel_rfl) rfl (hP ▸ rwith_ok _ _ _ s.st vt0.k vt0.n y ⟨y.fn, y.nd, y.vars, y.done ++ [v]⟩ r _ _ G5 ⟨_, _, _, rfl⟩ (Rp.S_mono (hle2.trans hle5) hS1) ⟨_, _, _, rfl⟩ (Rp.S_mono hle5 hsv) (by simpa [SV.den] using hS8) g1 g2 (by omega)) ?_
    rintro _ G6 (hle6 : Le G5 G6) ⟨lsl', rfl, hS2⟩
    obtain ⟨a5, c5, rfl⟩ := Rp.S_slice hS2.1
    have hleA := (hle2.trans hle5).trans hle6
    simp only [fibV]
    refine rn_ ?_; intros
    refine go_call (by rw [hnt]; rfl) (by rw [hP]; kernel_rfl) rfl (hP ▸ rdown_ok _ s.st p 600 ⟨y.fn, y.nd, y.vars, y.done ++ [v]⟩ r nd _ o' G6 (Rp.S_mono hleA hp) ⟨_, _, rfl, hS2, VT.rep_mono hleA hvl, by simp [vt0, tsz, tszL]⟩ hvx2 (by omega) ho') ?_
    rintro _ G7 (hle7 : Le G6 G7) ⟨lsl3, vl3, rfl, hL3, hv3, ht3⟩
    obtain ⟨a5', c5', rfl⟩ := Rp.S_slice hL3.1
    obtain ⟨a6', c6', rfl⟩ := VT.rep_slice hv3
    simp only [fibV]
    refine rn_ ?_; intros
    refine xc_ hQ hmb ?_; simp only [SV.den, resV, dens]
    rw [hval]
    exact ⟨_, _, rfl, hL3, hv3, ht3⟩
end Go.Proofs.YtpppkednpamhbaaGreat.R
namespace Go.Proofs.YtpppkednpamhbaaGreat.R
set_option linter.unusedSimpArgs false
set_option linter.unusedVariables false
open Go.Sx
set_option maxHeartbeats 16000000
set_option maxRecDepth 20000
def RVal (s : Fb) : Prop := s.st ≠ 3 → s.val = vt0
theorem go_val {p : Pr} {s o : Fb} {l : List Fm} (h : s.val = vt0) (ho : goF p s l = some o) : o.val = vt0 := by
  obtain ⟨q, _, rfl⟩ := Option.map_eq_some_iff.1 ho
  exact h
theorem prod_val {p : Pr} {s o : Fb} {v : VT} (h : s.val = vt0) (ho : prodF p s v = some o) : RVal o := by
  unfold prodF at ho
  split at ho
  · cases ho
  · cases ho; exact fun q => absurd rfl q
  · split at ho
    · exact fun _ => go_val h ho
    · cases ho
theorem step_val {p : Pr} {s o : Fb} {e : Int} (h : RVal s) (ho : stepP p s = some (e, o)) : RVal o ∧ (s.st = 1 → e = 0) := by
  unfold stepP at ho
  split at ho
  · rename_i h1; cases ho; exact ⟨h, fun q => absurd q h1⟩
  · rename_i h1
    have hv : s.val = vt0 := h (by omega)
    split at ho
    · cases ho
    · split at ho
      · cases ho
      · split at ho
        · obtain ⟨q, hq, e1⟩ := Option.map_eq_some_iff.1 ho
          cases e1
          exact ⟨fun _ => go_val hv hq, fun _ => rfl⟩
        · split at ho
          · cases ho
          · cases ho; exact ⟨fun _ => hv, fun _ => rfl⟩
          · obtain ⟨q, hq, e1⟩ := Option.map_eq_some_iff.1 ho
            cases e1
            exact ⟨prod_val hv hq, fun _ => rfl⟩
theorem run_val {p : Pr} : ∀ {k : Nat} {s o : Fb} {n : Nat}, RVal s → runP p k s = some (n, o) → RVal o ∧ n ≤ k
  | 0, s, o, n, h, ho => by
    cases ho
    exact ⟨h, Nat.le_refl _⟩
  | k + 1, s, o, n, h, ho => by
    rw [runP] at ho
    split at ho
    · cases ho
    · rename_i e s' hst
      have h1 := (step_val h hst).1
      split at ho
      · obtain ⟨q, hq, e1⟩ := Option.map_eq_some_iff.1 ho
        cases e1
        obtain ⟨h2, h3⟩ := run_val h1 hq
        exact ⟨h2, by omega⟩
      · cases ho
        exact ⟨h1, by omega⟩
def resP (p : Pr) (s : Fb) (v : VT) : Option (Int × Fb) := if vld v then (if s.st ≠ 2 then some (100, s) else (prodF p s v).map fun o => (0, o)) else some (2, s)
theorem resP_tot {p : Pr} {s : Fb} (h : VF p s) (v : VT) : ∃ e o, resP p s v = some (e, o) ∧ VF p o := by
  unfold resP
  split
  · rename_i hv
    split
    · exact ⟨_, _, rfl, h⟩
    · rename_i h2
      rcases h.1 with (h3 | ⟨x, r, nd, h3, h4, h5, h6⟩) | ⟨h3, _⟩
      · injection h3 with h3 _; omega
      · obtain ⟨o, k1, k2⟩ := prod_tot (s := s) (by simpa using h3) hv h5 h6
        rw [k1]
        exact ⟨_, _, rfl, k2⟩
      · omega
  · exact ⟨_, _, rfl, h⟩
theorem resP_val {p : Pr} {s o : Fb} {v : VT} {e : Int} (h : RVal s) (ho : resP p s v = some (e, o)) : RVal o := by
  unfold resP at ho
  split at ho
  · split at ho
    · cases ho; exact h
    · obtain ⟨q, hq, e1⟩ := Option.map_eq_some_iff.1 ho
      cases e1
      exact prod_val (h (by omega)) hq
  · cases ho; exact h
def rfT (G : Hp) (ps : Value) (o : Fb) (e : Int) (w : Value) : Prop := ∃ lsl vl, w = .tuple #[fibV ps lsl o.st o.val.k o.val.n vl, .int .i64 e] ∧ fmS G o.l lsl ∧ o.val.rep G vl ∧ tsz o.val ≤ 1000
theorem vf_len {p : Pr} {s : Fb} (h : VF p s) : s.l.length ≤ 256 := by
  rcases h.1 with (h3 | ⟨x, r, nd, h3, h4, h5, h6⟩) | ⟨_, h3⟩
  · injection h3 with _ h3; rw [h3]; simp
  · simp only [] at h3
    rw [h3]; simp; omega
  · rw [h3]; simp
theorem rstep_ok (ps : Value) (p : Pr) (hpR : rgtP p = true) (s : Fb) (e : Int) (o : Fb) (v0 : Value) (G : Hp) (hp : rF.S G p ps) (h0 : rfO G ps s.st s.val s.l v0) (hVF : VF p s) (hval : RVal s) (ho : stepP p s = some (e, o)) :
    Pure Tryz.prog 41 [v0] G (fun w G' => rfT G' ps o e w) := by
  obtain ⟨lsl, vl, rfl, hL, hvl, hts⟩ := h0
  obtain ⟨vA, vC, rfl⟩ := VT.rep_slice hvl
  obtain ⟨pA, pC, rfl⟩ := Rp.S_slice hp
  obtain ⟨aL, cL, rfl⟩ := Rp.S_slice hL.1
  have hlen := vf_len hVF
  unfold stepP at ho
  refine enterX ty tyok Tryz.func41 rfl Tryz.ntmps41 [.a [.v (.slice pA p.length pC), .v (.slice aL s.l.reverse.length cL), .v (.int .i64 s.st), .v (.int .i64 s.val.k), .v (.int .i64 s.val.n), .v (.slice vA s.val.l.length vC)]] (by simp) ?_
  intro C hP hQ hnt hty hmb hmh hro; have hQp := qp_body hQ; refine st_ ?_
  refine rn_ ?_; intros
  refine x_split rfl rfl rfl (fun h1 => ?_) (fun h1 => ?_) <;> (refine st_ ?_; (refine ru_ ?_; intros))
  · have h1 : s.st ≠ 1 := by simpa using h1
    rw [if_pos h1] at ho
    cases ho
    refine rn_ ?_; intros
    refine xc_ hQ hmb ?_; simp only [SV.den, resV, dens]
    exact ⟨_, _, rfl, hL, hvl, hts⟩
  have h1 : s.st = 1 := by simpa using h1
  rw [if_neg (by omega)] at ho
  have hvt := hval (by omega)
  obtain ⟨x, r, nd, hsl, hRX, hWS, hr⟩ : ∃ x r nd, s.l = x :: r ∧ RX p 1 x nd ∧ WS p r ∧ r.length < 256 := by
    rcases hVF.1 with (h3 | ⟨x, r, nd, h3, h4, h5, h6⟩) | ⟨h3, _⟩
    · injection h3 with h3 _; omega
    · simp only [h1] at h3 h4
      exact ⟨x, r, nd, h3, h4, h5, h6⟩
    · omega
  have hRX' := hRX
  obtain ⟨hvx, n4, n5, hdl, hst⟩ := hRX'
  obtain ⟨B4, B5, B24, B11, B6, B1, B16, bo1, bo2⟩ := ben_len hvx.1.facts.2.1
  have hnm := hvx.1.facts.2.2.1
  have hL' : fmS G (x :: r) (.slice aL s.l.reverse.length cL) := by
    have := hL
    rw [hsl] at this
    rw [hsl]
    exact this
  rw [hsl] at ho
  simp only [hvx.1.nd] at ho
  have hvl' : vt0.rep G (.slice vA s.val.l.length vC) := by
    have := hvl
    rw [hvt] at this
    rw [hvt]
    exact this
  refine rn_ ?_; intros
  refine go_call (by rw [hnt]; rfl) (by rw [hP]; kernel_rfl) rfl (hP ▸ rlast_ok _ _ _ s.st s.val.k s.val.n p x r nd G hp hL'.1 ⟨_, _, _, rfl⟩ hvx.1.nd (by omega)) ?_
  rintro _ G1 (hle1 : Le G G1) ⟨av, cw, ad, cd, an, cn, rfl, hsv, hsd, hrI, g1, g2, i1, i2⟩
  have hL1 := hL'.mono hle1
  have hp1 := Rp.S_mono hle1 hp
  have hvl1 := VT.rep_mono hle1 hvl'
  have hk0 : s.val.k = vt0.k := by rw [hvt]
  have hn0 : s.val.n = vt0.n := by rw [hvt]
  refine rn_ ?_; intros
  refine x_split rfl rfl rfl (fun h13 => ?_) (fun h13 => ?_) <;> (refine st_ ?_; (refine ru_ ?_; intros))
  · have hop : nd.op = 13 := by simpa using h13
    rw [if_pos hop] at ho
    obtain ⟨o1, ho1, heq⟩ := Option.map_eq_some_iff.1 ho
    cases heq
    obtain ⟨o2, ho2, rfl⟩ := Option.map_eq_some_iff.1 ho1
    obtain ⟨c1, c2, y, hy⟩ := hvx.1.call hpR hop
    have hvx2 : VX p ⟨nd.n, 0, x.done, []⟩ y := ⟨by rw [hdl]; exact hy, by simp, hvx.2.2.2, by simp⟩
    refine rn_ ?_; intros
    refine go_call (by rw [hnt]; rfl) (by rw [hP]; kernel_rfl) rfl (hP ▸ rwith_ok _ _ _ s.st s.val.k s.val.n x ⟨nd.n, 0, x.done, []⟩ r _ (.slice none 0 0) G1 ⟨_, _, _, rfl⟩ hL1.1 ⟨_, _, _, rfl⟩ hsd (Rp.S_nil none 0) i2 (by simp [isI64]) (by omega)) ?_
    rintro _ G2 (hle2 : Le G1 G2) ⟨lsl', rfl, hS2⟩
    obtain ⟨a5, c5, rfl⟩ := Rp.S_slice hS2.1
    simp only [fibV, hk0, hn0]
    refine rn_ ?_; intros
    refine go_call (by rw [hnt]; rfl) (by rw [hP]; kernel_rfl) rfl (hP ▸ rdown_ok _ s.st p 600 ⟨nd.n, 0, x.done, []⟩ r y _ o2 G2 (Rp.S_mono hle2 hp1) ⟨_, _, rfl, hS2, VT.rep_mono hle2 hvl1, by simp [vt0, tsz, tszL]⟩ hvx2 (by omega) ho2) ?_
    rintro _ G7 (hle7 : Le G2 G7) ⟨lsl3, vl3, rfl, hL3, hv3, ht3⟩
    obtain ⟨a5', c5', rfl⟩ := Rp.S_slice hL3.1
    obtain ⟨a6', c6', rfl⟩ := VT.rep_slice hv3
    simp only [fibV]
    refine rn_ ?_; intros
    refine xc_ hQ hmb ?_; simp only [SV.den, resV, dens]
    rw [hvt]
    exact ⟨_, _, rfl, hL3, hv3, ht3⟩
  have n13 : nd.op ≠ 13 := by simpa using h13
  rw [if_neg n13] at ho
  obtain ⟨ov, ho1, hov⟩ := res_tot hRX n13
  rw [ho1] at ho
  have hop2 : nd.op = 2 → nd.n = 0 := by
    intro q
    simp [nmb, nms, q] at hnm
    exact hnm
  refine rn_ ?_; intros
  refine go_call (by rw [hnt]; rfl) (by rw [hP]; kernel_rfl) rfl (hP ▸ rmakes_ok x.fn x.nd nd _ _ _ x.done x.vars ov G1 hrI i2 i1 hsd hsv (vx_done hvx) (fun q => List.eq_nil_of_length_eq_zero (by have := B1 (by omega); omega)) hop2 (by omega) ho1) ?_
  rintro _ G2 (hle2 : Le G1 G2) hpost
  cases ov with
  | none =>
    obtain ⟨k9, n9, a9, m9, c9, rfl⟩ := hpost
    simp only [] at ho
    cases ho
    refine rn_ ?_; intros
    (refine x_split rfl rfl rfl (fun _ => ?_) (fun hc => absurd hc (by first | decide +kernel | (simp; first | done | fail))); refine st_ ?_; (refine ru_ ?_; intros))
    refine rn_ ?_; intros
    refine go_callf (by rw [hnt]; rfl) (by rw [hP]; kernel_rfl) rfl (hP ▸ rwrong_ok _ _ _ _ _ _ _ ⟨_, _, _, rfl⟩ ⟨_, _, _, rfl⟩ ⟨_, _, _, rfl⟩) ?_; refine rn_ ?_; intros
    refine xc_ hQ hmb ?_; simp only [SV.den, resV, dens]
    rw [hvt]
    exact ⟨_, _, rfl, ⟨Rp.S_nil none 0, fun _ _ _ e => by cases e; simp⟩, vt0_rep _, by simp [vt0, tsz, tszL]⟩
  | some y =>
    obtain ⟨sl9, rfl, hr9, ht9⟩ := hpost
    obtain ⟨a9, c9, rfl⟩ := VT.rep_slice hr9
    simp only [] at ho
    obtain ⟨o1, ho2, heq⟩ := Option.map_eq_some_iff.1 ho
    cases heq
    have hle12 := hle1.trans hle2
    refine rn_ ?_; intros
    (refine x_split rfl rfl rfl (fun hc => absurd hc (by first | decide +kernel | (simp; first | done | fail))) (fun _ => ?_); refine st_ ?_; (refine ru_ ?_; intros))
    refine rn_ ?_; intros
    simp only [hk0, hn0]
    refine go_call (by rw [hnt]; rfl) (by rw [hP]; kernel_rfl) rfl (hP ▸ rdone_ok _ p s y _ o _ G2 (Rp.S_mono hle12 hp) ⟨_, _, rfl, hL.mono hle12, VT.rep_mono hle12 hvl', by simp [vt0, tsz, tszL]⟩ hvt (by rw [hsl]; exact hWS) hlen hr9 ht9 (hov y rfl) ho2) ?_
    rintro _ G7 (hle7 : Le G2 G7) ⟨lsl3, vl3, rfl, hL3, hv3, ht3⟩
    obtain ⟨a5', c5', rfl⟩ := Rp.S_slice hL3.1
    obtain ⟨a6', c6', rfl⟩ := VT.rep_slice hv3
    simp only [fibV]
    refine rn_ ?_; intros
    refine xc_ hQ hmb ?_; simp only [SV.den, resV, dens]
    exact ⟨_, _, rfl, hL3, hv3, ht3⟩
end Go.Proofs.YtpppkednpamhbaaGreat.R
namespace Go.Proofs.YtpppkednpamhbaaGreat.R
set_option linter.unusedSimpArgs false
set_option linter.unusedVariables false
open Go.Sx
set_option maxHeartbeats 16000000
set_option maxRecDepth 20000
theorem rresume_ok (ps : Value) (p : Pr) (s : Fb) (v : VT) (sv : Value) (e : Int) (o : Fb) (v0 : Value) (G : Hp) (hp : rF.S G p ps) (h0 : rfO G ps s.st s.val s.l v0) (hVF : VF p s) (hval : RVal s) (hv : v.rep G sv) (hb : tsz v ≤ 1000) (ho : resP p s v = some (e, o)) :
    Pure Tryz.prog 43 [v0, .agg #[.int .i64 v.k, .int .i64 v.n, sv]] G (fun w G' => rfT G' ps o e w) := by
  obtain ⟨lsl, vl, rfl, hL, hvl, hts⟩ := h0
  obtain ⟨vA, vC, rfl⟩ := VT.rep_slice hvl
  obtain ⟨pA, pC, rfl⟩ := Rp.S_slice hp
  obtain ⟨aL, cL, rfl⟩ := Rp.S_slice hL.1
  obtain ⟨a9, c9, rfl⟩ := VT.rep_slice hv
  have hlen := vf_len hVF
  unfold resP at ho
  refine enterX ty tyok Tryz.func43 rfl Tryz.ntmps43 [.a [.v (.slice pA p.length pC), .v (.slice aL s.l.reverse.length cL), .v (.int .i64 s.st), .v (.int .i64 s.val.k), .v (.int .i64 s.val.n), .v (.slice vA s.val.l.length vC)], .a [.v (.int .i64 v.k), .v (.int .i64 v.n), .v (.slice a9 v.l.length c9)]] (by simp) ?_
  intro C hP hQ hnt hty hmb hmh hro; have hQp := qp_body hQ; refine st_ ?_
  refine rn_ ?_; intros
  refine go_callf (by rw [hnt]; rfl) (by rw [hP]; kernel_rfl) rfl (hP ▸ refright_ok v _ G hv (by omega)) ?_; refine rn_ ?_; intros
  refine x_split rfl rfl rfl (fun h1 => ?_) (fun h1 => ?_) <;> (refine st_ ?_; (refine ru_ ?_; intros))
  · have hvv : ¬ vld v = true := by simpa using h1
    rw [if_neg hvv] at ho
    cases ho
    refine rn_ ?_; intros
    refine xc_ hQ hmb ?_; simp only [SV.den, resV, dens]
    exact ⟨_, _, rfl, hL, hvl, hts⟩
  have hvv : vld v = true := by simpa using h1
  rw [if_pos hvv] at ho
  refine rn_ ?_; intros
  refine x_split rfl rfl rfl (fun h2 => ?_) (fun h2 => ?_) <;> (refine st_ ?_; (refine ru_ ?_; intros))
  · have h2 : s.st ≠ 2 := by simpa using h2
    rw [if_pos h2] at ho
    cases ho
    refine rn_ ?_; intros
    refine xc_ hQ hmb ?_; simp only [SV.den, resV, dens]
    exact ⟨_, _, rfl, hL, hvl, hts⟩
  have h2 : s.st = 2 := by simpa using h2
  rw [if_neg (by omega)] at ho
  obtain ⟨o1, ho2, heq⟩ := Option.map_eq_some_iff.1 ho
  cases heq
  have hvt := hval (by omega)
  have hk0 : s.val.k = vt0.k := by rw [hvt]
  have hn0 : s.val.n = vt0.n := by rw [hvt]
  have hvl' : vt0.rep G (.slice vA s.val.l.length vC) := by
    have := hvl
    rw [hvt] at this
    rw [hvt]
    exact this
  have hWS : WS p (s.l.drop 1) := by
    rcases hVF.1 with (h3 | ⟨x, r, nd, h3, h4, h5, h6⟩) | ⟨h3, _⟩
    · injection h3 with h3 _; omega
    · simp only [] at h3
      rw [h3]; exact h5
    · omega
  refine rn_ ?_; intros
  simp only [hk0, hn0]
  refine go_call (by rw [hnt]; rfl) (by rw [hP]; kernel_rfl) rfl (hP ▸ rdone_ok _ p s v _ o _ G hp ⟨_, _, rfl, hL, hvl', by simp [vt0, tsz, tszL]⟩ hvt hWS hlen hv hb hvv ho2) ?_
  rintro _ G7 (hle7 : Le G G7) ⟨lsl3, vl3, rfl, hL3, hv3, ht3⟩
  obtain ⟨a5', c5', rfl⟩ := Rp.S_slice hL3.1
  obtain ⟨a6', c6', rfl⟩ := VT.rep_slice hv3
  simp only [fibV]
  refine rn_ ?_; intros
  refine xc_ hQ hmb ?_; simp only [SV.den, resV, dens]
  exact ⟨_, _, rfl, hL3, hv3, ht3⟩
theorem rrun_ok (ps : Value) (p : Pr) (hpR : rgtP p = true) (s : Fb) (most : Int) (n : Nat) (o : Fb) (v0 : Value) (G : Hp) (hp : rF.S G p ps) (h0 : rfO G ps s.st s.val s.l v0) (hVF : VF p s) (hval : RVal s) (hm : most ≤ 1000000) (ho : runP p most.toNat s = some (n, o)) :
    Pure Tryz.prog 42 [v0, .int .i64 most] G (fun w G' => rfT G' ps o n w) := by
  obtain ⟨lsl, vl, rfl, hL, hvl, hts⟩ := h0
  obtain ⟨vA, vC, rfl⟩ := VT.rep_slice hvl
  obtain ⟨pA, pC, rfl⟩ := Rp.S_slice hp
  obtain ⟨aL, cL, rfl⟩ := Rp.S_slice hL.1
  refine enterX ty tyok Tryz.func42 rfl Tryz.ntmps42 [.a [.v (.slice pA p.length pC), .v (.slice aL s.l.reverse.length cL), .v (.int .i64 s.st), .v (.int .i64 s.val.k), .v (.int .i64 s.val.n), .v (.slice vA s.val.l.length vC)], .v (.int .i64 most)] (by simp) ?_
  intro C hP hQ hnt hty hmb hmh hro; have hQp := qp_body hQ; refine st_ ?_
  refine rn_ ?_; intros
  rename_i b1 b2
  refine go_keep [1, 2, 4, 5, 6] [0, 1] ?_
  refine st_ ?_
  refine x_loop (n := most.toNat) rfl (fun q s' => ∃ (i k : Nat) (s1 : Fb) (lsl vl : Value) (G1 : Hp), i + k = n ∧ q = most.toNat - i ∧ i ≤ most.toNat ∧ Le G G1 ∧ VF p s1 ∧ RVal s1 ∧ runP p (most.toNat - i) s1 = some (k, o) ∧ fmS G1 s1.l lsl ∧ s1.val.rep G1 vl ∧ tsz s1.val ≤ 1000 ∧
    s' = ⟨[(1, .v (.int .i64 most)), (2, .p 0 b1 0), (4, .p 1 b2 0), (5, .v (.int .i64 0)), (6, .v (.int .i64 i))], [(0, b1, .c 44 [.v (.slice pA p.length pC), .v lsl, .v (.int .i64 s1.st), .v (.int .i64 s1.val.k), .v (.int .i64 s1.val.n), .v vl]), (1, b2, .c 44 [.v (.slice none 0 0), .v (.slice none 0 0), .v (.int .i64 0), .v (.int .i64 0), .v (.int .i64 0), .v (.slice none 0 0)])], G1, []⟩) ⟨0, n, s, _, _, G, by omega, rfl, by omega, Le.refl _, hVF, hval, ho, hL, hvl, hts, rfl⟩ ?_
  clear hVF hval ho hL hvl hts
  rintro q s' ⟨i, k, s1, lsl, vl, G1, hik, hq, hi, hle1, hVF, hval, ho, hL, hvl, hts, rfl⟩ ih
  obtain ⟨vA, vC, rfl⟩ := VT.rep_slice hvl
  obtain ⟨aL, cL, rfl⟩ := Rp.S_slice hL.1
  have hp1 := Rp.S_mono hle1 hp
  refine rn_ ?_; intros
  refine go_gsplit rfl rfl (fun h1 => ?_) (fun h1 => ?_) <;> (refine st_ ?_; (refine rn_ ?_; intros))
  · have hlt : (i : Int) < most := by simpa using h1
    obtain ⟨j, hj⟩ : ∃ j, most.toNat - i = j + 1 := ⟨most.toNat - i - 1, by omega⟩
    rw [hj, runP] at ho
    refine x_split rfl rfl rfl (fun h2 => ?_) (fun h2 => ?_) <;> (refine st_ ?_; (refine ru_ ?_; intros))
    · have h2 : s1.st = 1 := by simpa using h2
      obtain ⟨e, s2, hst, hVF2⟩ := step_tot hpR hVF
      obtain ⟨hval2, he⟩ := step_val hval hst
      have he := he h2
      subst he
      rw [hst] at ho
      simp only [if_true] at ho
      obtain ⟨⟨k2, o2⟩, ho2, heq⟩ := Option.map_eq_some_iff.1 ho
      cases heq
      refine rn_ ?_; intros
      refine go_call (by rw [hnt]; rfl) (by rw [hP]; kernel_rfl) rfl (hP ▸ rstep_ok _ p hpR s1 0 s2 _ G1 hp1 ⟨_, _, rfl, hL, hvl, hts⟩ hVF hval hst) ?_
      rintro _ G2 (hle2 : Le G1 G2) ⟨lsl3, vl3, rfl, hL3, hv3, ht3⟩
      obtain ⟨a5', c5', rfl⟩ := Rp.S_slice hL3.1
      obtain ⟨a6', c6', rfl⟩ := VT.rep_slice hv3
      simp only [fibV]
      refine rn_ ?_; intros
      rw [wr (n := (i : Int) + 1) (by omega) (by omega)]
      refine go_keep [1, 2, 4, 5, 6] [0, 1] ?_
      refine st_ ?_
      exact ih (most.toNat - (i + 1)) _ (by omega) ⟨i + 1, k2, s2, _, _, G2, by omega, rfl, by omega, hle1.trans hle2, hVF2, hval2, by rw [show most.toNat - (i + 1) = j by omega]; exact ho2, hL3, hv3, ht3, rfl⟩
    · have h2 : s1.st ≠ 1 := by simpa using h2
      have hst : stepP p s1 = some (100, s1) := by
        unfold stepP
        rw [if_pos h2]
      rw [hst] at ho
      simp only [] at ho
      rw [if_neg (by decide)] at ho
      cases ho
      refine rn_ ?_; intros
      refine xc_ hQ hmb ?_; simp only [SV.den, resV, dens]
      rw [show n = i by omega]
      exact ⟨_, _, rfl, hL, hvl, hts⟩
  · have hge : ¬ (i : Int) < most := by simpa using h1
    have h0 : most.toNat - i = 0 := by omega
    rw [h0] at ho
    cases ho
    refine rn_ ?_; intros
    refine xc_ hQ hmb ?_; simp only [SV.den, resV, dens]
    rw [show n = i by omega]
    exact ⟨_, _, rfl, hL, hvl, hts⟩
end Go.Proofs.YtpppkednpamhbaaGreat.R
namespace Go.Proofs.YtpppkednpamhbaaGreat
set_option linter.unusedSimpArgs false
set_option linter.unusedVariables false
open Go.Sx
set_option maxRecDepth 100000
set_option maxHeartbeats 4000000
def iV (k : Int) : VT := .mk 2 k []
def givenP : Pr := [⟨0, [⟨4, 0, [1, 2]⟩, ⟨1, 5, []⟩, ⟨6, 0, [3, 4]⟩, ⟨3, 0, []⟩, ⟨1, 2, []⟩]⟩, ⟨1, [⟨5, 0, [1, 2, 3]⟩, ⟨3, 0, []⟩, ⟨13, 1, [4]⟩, ⟨15, 0, []⟩, ⟨7, 0, [5, 6]⟩, ⟨3, 0, []⟩, ⟨1, 1, []⟩]⟩]
def rS (k : Int) : Fb := ⟨1, vt0, [⟨1, 1, [iV k], []⟩, ⟨1, 0, [iV k], []⟩]⟩
theorem wrap_le {k : Int} (h0 : 0 ≤ k) (h1 : k ≤ 1000000) : IntKind.i64.wrap k = k := wr (by omega) (by omega)
theorem given_wh : (whP givenP).2.2 = 0 := by rfl
theorem given_bd : bdP givenP := by
  refine ⟨by decide, ?_⟩
  intro f hf
  simp only [givenP, List.mem_cons, List.not_mem_nil, or_false] at hf
  rcases hf with rfl | rfl
  all_goals
    refine ⟨by decide, ?_⟩
    intro x hx
    simp only [List.mem_cons, List.not_mem_nil, or_false] at hx
    rcases hx with rfl | rfl | rfl | rfl | rfl | rfl | rfl <;> decide
theorem given_d0 : downF givenP 600 [⟨0, 0, [], []⟩] = some (1, [⟨0, 1, [], []⟩, ⟨0, 0, [], []⟩]) := by rfl
theorem given_r0 : runP givenP 99 ⟨1, vt0, [⟨0, 1, [], []⟩, ⟨0, 0, [], []⟩]⟩ = some (4, ⟨3, iV 7, []⟩) := by rfl
theorem given_d1 : downF givenP 600 [⟨1, 0, [iV 1000], []⟩] = some (1, (rS 1000).l) := by rfl
theorem given_du : downF givenP 600 [⟨1, 0, [.mk 1 0 []], []⟩] = some (1, [⟨1, 1, [.mk 1 0 []], []⟩, ⟨1, 0, [.mk 1 0 []], []⟩]) := by rfl
theorem given_ru : runP givenP 9 ⟨1, vt0, [⟨1, 1, [.mk 1 0 []], []⟩, ⟨1, 0, [.mk 1 0 []], []⟩]⟩ = some (1, ⟨4, vt0, []⟩) := by rfl
def chS : Fb := ⟨2, vt0, [⟨1, 3, [iV 0], []⟩]⟩
theorem given_p : prodF givenP chS (.mk 4 3 []) = some ⟨3, .mk 4 3 [], []⟩ := by rfl
theorem given_z (q : Nat) : runP givenP (q + 2) (rS 0) = some (1, chS) := by rfl
theorem given_5 (j q : Nat) : runP givenP (q + 5) (rS ((j + 1 : Nat) : Int)) = (((((runP givenP q (rS (IntKind.i64.wrap (((j + 1 : Nat) : Int) - 1)))).map fun o => (o.1 + 1, o.2)).map fun o => (o.1 + 1, o.2)).map fun o => (o.1 + 1, o.2)).map fun o => (o.1 + 1, o.2)).map fun o => (o.1 + 1, o.2) := by rfl
theorem given_j : ∀ (j q : Nat), j ≤ 1000 → runP givenP (q + 2 + 5 * j) (rS (j : Int)) = some (5 * j + 1, chS)
  | 0, q, _ => given_z q
  | j + 1, q, h => by
    have ih := given_j j q (by omega)
    rw [show q + 2 + 5 * (j + 1) = (q + 2 + 5 * j) + 5 by omega, given_5, show (((j + 1 : Nat) : Int) - 1) = (j : Int) by omega, wrap_le (by omega) (by omega), ih]
    simp only [Option.map_some, Option.some.injEq, Prod.mk.injEq, and_true]
    omega
theorem given_r1 : runP givenP 9999 (rS 1000) = some (5001, chS) := given_j 1000 4997 (by omega)
end Go.Proofs.YtpppkednpamhbaaGreat
namespace Go.Proofs.YtpppkednpamhbaaGreat
set_option linter.unusedSimpArgs false
set_option linter.unusedVariables false
open Go.Sx
set_option maxHeartbeats 16000000
set_option maxRecDepth 20000
theorem rI_Lm {G : Hp} : ∀ {l : List Int}, (∀ n ∈ l, isI64 n) → rI.L G l (l.map (.int .i64 ·))
  | [], _ => rfl
  | x :: l, h => ⟨[.int .i64 x], _, rfl, ⟨rfl, h x (by simp)⟩, rI_Lm fun n hn => h n (by simp [hn])⟩
theorem rI_mk {G : Hp} {b cap : Nat} {l : List Int} {cs : List Value} (h : At G b 0 cs) (hcs : cs = l.map (.int .i64 ·)) (hl : ∀ n ∈ l, isI64 n) (hn : l.length ≤ 1000) : rI.S G l (.slice (some ⟨b, 0, none⟩) l.length cap) := by
  subst hcs
  exact ⟨by omega, _, _, rfl, .inr ⟨b, 0, _, rfl, h, rI_Lm hl⟩⟩
theorem rN_c {G : Hp} {op n : Int} {l : List Int} {sl : Value} {ns : List Nd} {cs : List Value} (h1 : isI64 op) (h2 : isI64 n) (h3 : rI.S G l sl) (h : rN.L G ns cs) : rN.L G (⟨op, n, l⟩ :: ns) (.int .i64 op :: .int .i64 n :: sl :: cs) :=
  ⟨[.int .i64 op, .int .i64 n, sl], cs, rfl, ⟨sl, rfl, h1, h2, h3⟩, h⟩
theorem rN_mk {G : Hp} {b cap : Nat} {l : List Nd} {cs : List Value} (h : At G b 0 cs) (hl : rN.L G l cs) (hn : l.length ≤ 1000) : rN.S G l (.slice (some ⟨b, 0, none⟩) l.length cap) := ⟨by omega, _, _, rfl, .inr ⟨b, 0, _, rfl, h, hl⟩⟩
theorem rF_mk {G : Hp} {b cap : Nat} {l : List Fu} {cs : List Value} (h : At G b 0 cs) (hl : rF.L G l cs) (hn : l.length ≤ 1000) : rF.S G l (.slice (some ⟨b, 0, none⟩) l.length cap) := ⟨by omega, _, _, rfl, .inr ⟨b, 0, _, rfl, h, hl⟩⟩
theorem numL_ok (e : Int) (G : Hp) : Pure Tryz.prog 11 [.int .i64 e] G (fun v _ => v = .int .i64 e) := by
  refine enterX ty tyok Tryz.func11 rfl Tryz.ntmps11 [.v (.int .i64 e)] (by simp) ?_
  intro C hP hQ hnt hty hmb hmh hro; have hQp := qp_body hQ; refine st_ ?_
  refine rn_ ?_; intros
  refine x_ret rfl hQ hmb (by rw [hty]; rfl) rfl ?_; simp only [SV.den, resV]
theorem numb_ok (n : Int) (G : Hp) : Pure Tryz.prog 25 [.int .i64 n] G (fun v _ => v = .agg #[.int .i64 2, .int .i64 n, .slice none 0 0]) := by
  refine enterX ty tyok Tryz.func25 rfl Tryz.ntmps25 [.v (.int .i64 n)] (by simp) ?_
  intro C hP hQ hnt hty hmb hmh hro; have hQp := qp_body hQ; refine st_ ?_
  refine rn_ ?_; intros
  refine xc_ hQ hmb ?_; simp only [SV.den, resV, dens]
theorem given_ok (G : Hp) : Pure Tryz.prog 21 [] G (fun v G' => ∃ ps, v = .agg #[ps] ∧ rF.S G' givenP ps) := by
  refine enterX ty tyok Tryz.func21 rfl Tryz.ntmps21 [] (by simp) ?_
  intro C hP hQ hnt hty hmb hmh hro; have hQp := qp_body hQ; refine st_ ?_
  refine rn_ ?_; intros
  rename_i b0 b1 b2 b3 b4 b5 b6 b7 b8
  refine go_pub 1 rfl (by omega) ?_
  intro G1 (hle1 : Le G G1) hG1
  refine go_pub 2 rfl (by omega) ?_
  intro G2 (hle2 : Le G1 G2) hG2
  refine go_pub 3 rfl (by omega) ?_
  intro G3 (hle3 : Le G2 G3) hG3
  refine go_pub 4 rfl (by omega) ?_
  intro G4 (hle4 : Le G3 G4) hG4
  refine go_pub 5 rfl (by omega) ?_
  intro G5 (hle5 : Le G4 G5) hG5
  refine go_pub 6 rfl (by omega) ?_
  intro G6 (hle6 : Le G5 G6) hG6
  refine go_pub 7 rfl (by omega) ?_
  intro G7 (hle7 : Le G6 G7) hG7
  refine go_pub 8 rfl (by omega) ?_
  intro G8 (hle8 : Le G7 G8) hG8
  refine st_ ?_
  refine rn_ ?_; intros
  refine xc_ hQ hmb ?_; simp only [SV.den, resV, dens]
  have q1 := (at_cells hG1).mono (((((((hle2).trans hle3).trans hle4).trans hle5).trans hle6).trans hle7).trans hle8)
  have q2 := (at_cells hG2).mono ((((((hle3).trans hle4).trans hle5).trans hle6).trans hle7).trans hle8)
  have q3 := (at_cells hG3).mono (((((hle4).trans hle5).trans hle6).trans hle7).trans hle8)
  have q4 := (at_cells hG4).mono ((((hle5).trans hle6).trans hle7).trans hle8)
  have q5 := (at_cells hG5).mono (((hle6).trans hle7).trans hle8)
  have q6 := (at_cells hG6).mono ((hle7).trans hle8)
  have q7 := (at_cells hG7).mono (hle8)
  have q8 := at_cells hG8
  refine ⟨_, rfl, rF_mk (l := givenP) q8 (rF_cons (by simp [isI64]) (rN_mk q3 (rN_c (by simp [isI64]) (by simp [isI64]) (rI_mk q1 rfl (by simp [isI64]) (by simp)) (rN_c (by simp [isI64]) (by simp [isI64]) (Rp.S_nil _ _) (rN_c (by simp [isI64]) (by simp [isI64]) (rI_mk q2 rfl (by simp [isI64]) (by simp)) (rN_c (by simp [isI64]) (by simp [isI64]) (Rp.S_nil _ _) (rN_c (by simp [isI64]) (by simp [isI64]) (Rp.S_nil _ _) rfl))))) (by simp)) (rF_cons (by simp [isI64]) (rN_mk q7 (rN_c (by simp [isI64]) (by simp [isI64]) (rI_mk q4 rfl (by simp [isI64]) (by simp)) (rN_c (by simp [isI64]) (by simp [isI64]) (Rp.S_nil _ _) (rN_c (by simp [isI64]) (by simp [isI64]) (rI_mk q5 rfl (by simp [isI64]) (by simp)) (rN_c (by simp [isI64]) (by simp [isI64]) (Rp.S_nil _ _) (rN_c (by simp [isI64]) (by simp [isI64]) (rI_mk q6 rfl (by simp [isI64]) (by simp)) (rN_c (by simp [isI64]) (by simp [isI64]) (Rp.S_nil _ _) (rN_c (by simp [isI64]) (by simp [isI64]) (Rp.S_nil _ _) rfl))))))) (by simp)) rfl)) (by decide)⟩
end Go.Proofs.YtpppkednpamhbaaGreat
namespace Go.Proofs.YtpppkednpamhbaaGreat
set_option linter.unusedSimpArgs false
set_option linter.unusedVariables false
open Go.Sx
set_option maxHeartbeats 40000000
set_option maxRecDepth 20000
theorem rW_one {G : Hp} {b c : Nat} {k n : Int} (h : At G b 0 [.int .i64 k, .int .i64 n, .slice none 0 0]) (hk : isI64 k) (hn : isI64 n) : rW.S G [.mk k n []] (.slice (some ⟨b, 0, none⟩) 1 c) :=
  ⟨by simp, _, _, rfl, .inr ⟨b, 0, _, rfl, h, [_, _, _], [], rfl, ⟨_, rfl, ⟨hk, hn, by simp, none, 0, rfl, .inl rfl⟩, by simp [tsz, tszL]⟩, rfl⟩⟩
theorem rep0 {G : Hp} {k n : Int} (hk : isI64 k) (hn : isI64 n) : (VT.mk k n []).rep G (.slice none 0 0) := ⟨hk, hn, by simp, none, 0, rfl, .inl rfl⟩
theorem wB {C : Ctx} (hP : C.P = Tryz.prog) (hQ : C.Q = bodyPost C.P Tryz.f8 (Ret [] C.w0 C.G0 (fun v _ => v = .bool true))) (hnt : C.nt = 201) (hty : C.ty = ty) (hmb : C.mb = []) (hmh : C.mh = 0) (hro : C.ro = none)
    (cb bb c1 c2 c3 : Nat) (vlb fsb ps : Value) (rsd : List Fw) (Zb : Nat → Prop) (G : Hp) (hc : At G cb 0 [ps]) (hp : rF.S G givenP ps) (v1 : vt0.rep G vlb) (v2 : tsz vt0 ≤ 1000) (v3 : fsOk G chS.l rsd) (v4 : chS.l.length ≤ 256) (v5 : ∀ m x, chS.l.head? = some m → rsd.head? = some x → rW.S G m.done x.done.v) :
    SGo C [.code (Go.Sx.c2 (Go.Sx.c1 (Go.Sx.c2 (Go.Sx.c2 (Go.Sx.c2 (Go.Sx.c2 (Go.Sx.c2 (Go.Sx.c2 (Go.Sx.c2 (Go.Sx.c2 (Go.Sx.c2 (Tryz.f8.body.getD .skip)))))))))))), .code (Go.Sx.c2 (Go.Sx.c2 (Go.Sx.c2 (Go.Sx.c2 (Go.Sx.c2 (Go.Sx.c2 (Go.Sx.c2 (Go.Sx.c2 (Go.Sx.c2 (Go.Sx.c2 (Tryz.f8.body.getD .skip)))))))))))] ⟨[(0, .b false), (1, .v (.pointer (some ⟨cb, 0, none⟩))), (10, .v (.pointer (some ⟨bb, 0, none⟩))), (127, .b false)],
      [(30, bb, .c 93 [.v (.pointer (some ⟨cb, 0, none⟩)), .v (.int .i64 2), .v (.int .i64 vt0.k), .v (.int .i64 vt0.n), .v vlb, .v fsb]), (31, c1, .row fsb 90 4 rsd.length (encF rsd)), (32, c2, .z (ZR ((rsd.drop 1).map (·.done))) Zb Zb), (33, c3, .row rw0.v rw0.e rw0.size rw0.n rw0.xs)], G, []⟩ := by
  have hQp := qp_body hQ
  refine rn_ ?_; intros
  refine go_callT [30, 31, 32, 33] (by rw [hnt]; rfl) (by rw [hP]; kernel_rfl) rfl rfl rfl (by rw [hmh]; simp) (by rw [hP]; exact resume_ok bb cb givenP ps chS ⟨3, .mk 4 3 [], []⟩ (.mk 4 3 []) (.slice none 0 0) _ G hc hp ⟨vlb, fsb, c1, c2, c3, rsd, Zb, v1, v2, v3, v4, v5, rfl⟩ (rep0 (by simp [isI64]) (by simp [isI64])) rfl (by simp [tsz, tszL]) rfl given_p) ?_
  clear v1 v2 v3 v4 v5
  rintro _ G1 ow1 (hle1 : Le G G1) ⟨rfl, vlb, fsb, c1, c2, c3, rse, Zb, v1, v2, v3, v4, v5, rfl⟩
  simp only [setO, fhO, frO, fzO, fdO]
  refine st_ ?_
  refine rn_ ?_; intros
  refine go_callW [30] (by rw [hnt]; rfl) (by rw [hP]; kernel_rfl) rfl rfl rfl (.inl (by rw [hmh]; simp)) (by rw [hP]; exact value_ok bb cb 3 (.mk 4 3 []) vlb fsb G1 v1 v2 rfl) ?_
  rintro _ G2 ow2 (hle2 : Le G1 G2) ⟨rfl, ⟨q, _⟩ | ⟨_, slx, rfl, hrx⟩⟩
  · exact absurd rfl q
  obtain ⟨y1, y2, rfl⟩ := VT.rep_slice hrx
  simp only [setO, fhO, frO, fzO, fdO]
  refine st_ ?_
  refine rn_ ?_; intros
  rename_i b34 b35 b36
  refine go_pub 36 rfl (by omega) ?_
  intro G3 (hle3 : Le G2 G3) hG3
  refine go_nilrow 40 42 3 rfl (by omega) ?_
  refine go_nilrow 41 42 3 rfl (by omega) ?_
  refine go_nilrow 42 42 3 rfl (by omega) ?_
  refine go_nilrow 43 42 3 rfl (by omega) ?_
  refine st_ ?_
  have hle13 := (hle1.trans hle2).trans hle3
  have hc3 := hc.mono hle13
  have hp3 := Rp.S_mono hle13 hp
  refine go_callT [40, 41, 42, 43] (by rw [hnt]; rfl) (by rw [hP]; kernel_rfl) rfl rfl rfl (by rw [hmh]; simp) (by rw [hP]; exact begin_ok givenP ps cb 1 [.mk 1 0 []] (.slice (some ⟨b36, 0, none⟩) 1 1) _ G3 hc3 hp3 (by omega) (by decide) (by decide) rfl (by simp) (rW_one (at_cells hG3) (by simp [isI64]) (by simp [isI64])) (by simp; rfl) given_du) ?_
  rintro _ G4 ow4 (hle4 : Le G3 G4) ⟨bd, rfl, vld', fsd, d1, d2, d3, rsf, Zd, w1, w2, w3, w4, w5, rfl⟩
  simp only [setO, fhO, frO, fzO, fdO]
  refine st_ ?_
  refine rn_ ?_; intros
  have hc4 := hc3.mono hle4
  have hp4 := Rp.S_mono hle4 hp3
  refine go_keep [0, 1, 10, 16, 17, 18, 19, 20, 21, 145] [30, 31, 32, 33, 34, 35, 40, 41, 42, 43] ?_
  refine st_ ?_
  refine go_callT [40, 41, 42, 43] (by rw [hnt]; rfl) (by rw [hP]; kernel_rfl) rfl rfl rfl (by rw [hmh]; simp) (by rw [hP]; exact run_ok bd cb givenP ps ⟨1, vt0, [⟨1, 1, [.mk 1 0 []], []⟩, ⟨1, 0, [.mk 1 0 []], []⟩]⟩ ⟨4, vt0, []⟩ 9 1 _ G4 (by omega) (by omega) hc4 hp4 ⟨vld', fsd, d1, d2, d3, rsf, Zd, w1, w2, w3, w4, w5, rfl⟩ given_ru) ?_
  clear w1 w2 w3 w4 w5
  rintro _ G5 ow5 (hle5 : Le G4 G5) ⟨rfl, vld', fsd, d1, d2, d3, rsg, Zd, w1, w2, w3, w4, w5, rfl⟩
  simp only [setO, fhO, frO, fzO, fdO]
  refine st_ ?_
  refine rn_ ?_; intros
  have hc5 := hc4.mono hle5
  have hp5 := Rp.S_mono hle5 hp4
  refine go_keep [0, 1, 10, 16, 17, 18, 19, 20, 21, 22, 23, 150] [30, 31, 32, 33, 34, 35, 40, 41, 42, 43] ?_
  refine st_ ?_
  have hle15 := hle4.trans hle5
  have hsame : Pure Tryz.prog 28 [.agg #[.int .i64 (VT.mk 4 3 []).k, .int .i64 (VT.mk 4 3 []).n, .slice y1 (VT.mk 4 3 []).l.length y2], .agg #[.int .i64 4, .int .i64 3, .slice none 0 0]] G5 (fun r _ => r = .bool true) :=
    (refSame_ok (.mk 4 3 []) (.mk 4 3 []) _ _ G5 (VT.rep_mono (hle3.trans hle15) hrx) (rep0 (by simp [isI64]) (by simp [isI64])) (by decide +kernel) (by decide +kernel)).val (by rfl)
  have hcE := begin_err givenP ps cb 2 none 0 0 4 G5 hc5 hp5 (by decide) (.inl ⟨.inr (by decide), rfl⟩)
  have hcF := begin_err givenP ps cb 1 none 0 0 2 G5 hc5 hp5 (by decide) (.inr ⟨by decide, by decide, by decide, rfl⟩)
  refine go_callf (by rw [hnt]; rfl) (by rw [hP]; kernel_rfl) rfl (hP ▸ hcE) ?_; refine rn_ ?_; intros
  refine go_callf (by rw [hnt]; rfl) (by rw [hP]; kernel_rfl) rfl (hP ▸ hcF) ?_; refine rn_ ?_; intros
  refine go_callf (by rw [hnt]; rfl) (by rw [hP]; kernel_rfl) rfl (hP ▸ numL_ok 0 _) ?_; refine rn_ ?_; intros
  refine go_callf (by rw [hnt]; rfl) (by rw [hP]; kernel_rfl) rfl (hP ▸ numL_ok 0 _) ?_; refine rn_ ?_; intros
  refine go_callf (by rw [hnt]; rfl) (by rw [hP]; kernel_rfl) rfl (hP ▸ numL_ok 0 _) ?_; refine rn_ ?_; intros
  (refine go_gsplit rfl rfl (fun _ => ?_) (fun hc => absurd hc (by first | decide +kernel | (simp; first | done | fail))); refine st_ ?_; (refine rn_ ?_; intros))
  (refine go_gsplit rfl rfl (fun _ => ?_) (fun hc => absurd hc (by first | decide +kernel | (simp; first | done | fail))); refine st_ ?_; (refine rn_ ?_; intros))
  refine go_callf (by rw [hnt]; rfl) (by rw [hP]; kernel_rfl) rfl (hP ▸ hsame) ?_; refine rn_ ?_; intros
  (refine go_gsplit rfl rfl (fun _ => ?_) (fun hc => absurd hc (by first | decide +kernel | (simp; first | done | fail))); refine st_ ?_; (refine rn_ ?_; intros))
  have hst : stepP givenP ⟨3, .mk 4 3 [], []⟩ = some (100, ⟨3, .mk 4 3 [], []⟩) := rfl
  have hle05 := (hle2.trans hle3).trans hle15
  refine go_callT [30, 31, 32, 33] (by rw [hnt]; rfl) (by rw [hP]; kernel_rfl) rfl rfl rfl (by rw [hmh]; simp) (by rw [hP]; exact step_ok bb cb givenP ps ⟨3, .mk 4 3 [], []⟩ ⟨3, .mk 4 3 [], []⟩ 100 _ G5 hc5 hp5 ⟨vlb, fsb, c1, c2, c3, rse, Zb, VT.rep_mono hle05 v1, v2, v3.mono hle05, v4, fun m x q q' => Rp.S_mono hle05 (v5 m x q q'), rfl⟩ hst) ?_
  rintro _ G6 ow6 (hle6 : Le G5 G6) ⟨rfl, vlc, fsc, e1, e2, e3, rsh, Ze, x1, x2, x3, x4, x5, rfl⟩
  simp only [setO, fhO, frO, fzO, fdO]
  refine st_ ?_
  refine rn_ ?_; intros
  refine go_callf (by rw [hnt]; rfl) (by rw [hP]; kernel_rfl) rfl (hP ▸ numL_ok 100 _) ?_; refine rn_ ?_; intros
  (refine go_gsplit rfl rfl (fun _ => ?_) (fun hc => absurd hc (by first | decide +kernel | (simp; first | done | fail))); refine st_ ?_; (refine rn_ ?_; intros))
  (refine go_gsplit rfl rfl (fun _ => ?_) (fun hc => absurd hc (by first | decide +kernel | (simp; first | done | fail))); refine st_ ?_; (refine rn_ ?_; intros))
  refine go_callW [40] (by rw [hnt]; rfl) (by rw [hP]; kernel_rfl) rfl rfl rfl (.inl (by rw [hmh]; simp)) (by rw [hP]; exact state_ok bd cb 4 vt0.k vt0.n vld' fsd G6) ?_
  rintro _ G7 ow7 (hle7 : Le G6 G7) ⟨rfl, rfl⟩
  simp only [setO, fhO, frO, fzO, fdO]
  refine st_ ?_
  refine rn_ ?_; intros
  (refine go_gsplit rfl rfl (fun _ => ?_) (fun hc => absurd hc (by first | decide +kernel | (simp; first | done | fail))); refine st_ ?_; (refine rn_ ?_; intros))
  refine go_callf (by rw [hnt]; rfl) (by rw [hP]; kernel_rfl) rfl (hP ▸ numL_ok 4 _) ?_; refine rn_ ?_; intros
  (refine go_gsplit rfl rfl (fun _ => ?_) (fun hc => absurd hc (by first | decide +kernel | (simp; first | done | fail))); refine st_ ?_; (refine rn_ ?_; intros))
  refine go_callf (by rw [hnt]; rfl) (by rw [hP]; kernel_rfl) rfl (hP ▸ numL_ok 2 _) ?_; refine rn_ ?_; intros
  refine xc_ hQ hmb ?_; simp only [SV.den, resV, dens]
end Go.Proofs.YtpppkednpamhbaaGreat
namespace Go.Proofs.YtpppkednpamhbaaGreat
set_option linter.unusedSimpArgs false
set_option linter.unusedVariables false
open Go.Sx
set_option maxHeartbeats 40000000
set_option maxRecDepth 20000
theorem works10_ok (G : Hp) : Pure Tryz.prog 8 [] G (fun v _ => v = .bool true) := by
  refine enterX ty tyok Tryz.func8 rfl Tryz.ntmps8 [] (by simp) ?_
  intro C hP hQ hnt hty hmb hmh hro; have hQp := qp_body hQ; refine st_ ?_
  refine rn_ ?_; intros
  refine go_call (by rw [hnt]; rfl) (by rw [hP]; kernel_rfl) rfl (hP ▸ given_ok G) ?_
  rintro _ G1 (hle1 : Le G G1) ⟨ps0, rfl, hps0⟩
  obtain ⟨ap0, cp0, rfl⟩ := Rp.S_slice hps0
  refine rn_ ?_; intros
  refine go_call (by rw [hnt]; rfl) (by rw [hP]; kernel_rfl) rfl (hP ▸ load_ok givenP _ G1 hps0 given_bd given_wh) ?_
  rintro _ G2 (hle2 : Le G1 G2) ⟨cb, ps, rfl, hc, hp⟩
  refine rn_ ?_; intros
  refine go_nilrow 20 42 3 rfl (by omega) ?_
  refine go_nilrow 21 42 3 rfl (by omega) ?_
  refine go_nilrow 22 42 3 rfl (by omega) ?_
  refine go_nilrow 23 42 3 rfl (by omega) ?_
  refine st_ ?_
  refine go_callT [20, 21, 22, 23] (by rw [hnt]; rfl) (by rw [hP]; kernel_rfl) rfl rfl rfl (by rw [hmh]; simp) (by rw [hP]; exact begin_ok givenP ps cb 0 [] _ _ G2 hc hp (by omega) (by decide) (by decide) rfl (by simp) (Rp.S_nil _ _) (by simp) given_d0) ?_
  rintro _ G3 ow3 (hle3 : Le G2 G3) ⟨ba, rfl, vla, fsa, a1, a2, a3, rsa, Za, u1, u2, u3, u4, u5, rfl⟩
  simp only [setO, fhO, frO, fzO, fdO]
  refine st_ ?_
  refine rn_ ?_; intros
  refine go_rowC 21 rfl ?_
  rintro qa1 qa2 rfl hqa
  have hra : rsa.length = 2 := u3.len
  refine go_callW [20] (by rw [hnt]; rfl) (by rw [hP]; kernel_rfl) rfl rfl rfl (.inl (by rw [hmh]; simp)) (by rw [hP]; exact frames_ok ba cb 1 vt0.k vt0.n vla qa1 rsa.length qa2 G3) ?_
  rintro _ G4 ow4 (hle4 : Le G3 G4) ⟨rfl, rfl⟩
  simp only [setO, fhO, frO, fzO, fdO]
  refine st_ ?_
  refine rn_ ?_; intros
  have hc4 := hc.mono (hle3.trans hle4)
  have hp4 := Rp.S_mono (hle3.trans hle4) hp
  refine go_callT [20, 21, 22, 23] (by rw [hnt]; rfl) (by rw [hP]; kernel_rfl) rfl rfl rfl (by rw [hmh]; simp) (by rw [hP]; exact run_ok ba cb givenP ps ⟨1, vt0, [⟨0, 1, [], []⟩, ⟨0, 0, [], []⟩]⟩ ⟨3, iV 7, []⟩ 99 4 _ G4 (by omega) (by omega) hc4 hp4 ⟨vla, _, a1, a2, a3, rsa, Za, VT.rep_mono hle4 u1, u2, u3.mono hle4, u4, fun m x q q' => Rp.S_mono hle4 (u5 m x q q'), rfl⟩ given_r0) ?_
  clear u1 u2 u3 u4 u5 hqa
  rintro _ G5 ow5 (hle5 : Le G4 G5) ⟨rfl, vla, fsa, a1, a2, a3, rsb, Za, u1, u2, u3, u4, u5, rfl⟩
  simp only [setO, fhO, frO, fzO, fdO]
  refine st_ ?_
  refine rn_ ?_; intros
  refine go_callW [20] (by rw [hnt]; rfl) (by rw [hP]; kernel_rfl) rfl rfl rfl (.inl (by rw [hmh]; simp)) (by rw [hP]; exact value_ok ba cb 3 (iV 7) vla fsa G5 u1 u2 rfl) ?_
  rintro _ G6 ow6 (hle6 : Le G5 G6) ⟨rfl, ⟨q, _⟩ | ⟨_, sl7, rfl, hr7⟩⟩
  · exact absurd rfl q
  obtain ⟨y1, y2, rfl⟩ := VT.rep_slice hr7
  simp only [setO, fhO, frO, fzO, fdO]
  refine st_ ?_
  refine rn_ ?_; intros
  refine go_callf (by rw [hnt]; rfl) (by rw [hP]; kernel_rfl) rfl (hP ▸ numb_ok 1000 _) ?_; refine rn_ ?_; intros
  refine go_keep [0, 1, 2, 3, 4, 5, 6, 7, 8, 9, 51, 52, 53] [20, 21, 22, 23, 24, 25] ?_
  refine st_ ?_
  rename_i b24 b25
  refine go_pub 25 rfl (by omega) ?_
  intro G7 (hle7 : Le G6 G7) hG7
  refine go_nilrow 30 42 3 rfl (by omega) ?_
  refine go_nilrow 31 42 3 rfl (by omega) ?_
  refine go_nilrow 32 42 3 rfl (by omega) ?_
  refine go_nilrow 33 42 3 rfl (by omega) ?_
  refine st_ ?_
  have hle47 := (hle5.trans hle6).trans hle7
  have hc7 := hc4.mono hle47
  have hp7 := Rp.S_mono hle47 hp4
  refine go_callT [30, 31, 32, 33] (by rw [hnt]; rfl) (by rw [hP]; kernel_rfl) rfl rfl rfl (by rw [hmh]; simp) (by rw [hP]; exact begin_ok givenP ps cb 1 [iV 1000] (.slice (some ⟨b25, 0, none⟩) 1 1) _ G7 hc7 hp7 (by omega) (by decide) (by decide) rfl (by simp) (rW_one (at_cells hG7) (by simp [isI64]) (by simp [isI64])) (by simp; rfl) given_d1) ?_
  rintro _ G8 ow8 (hle8 : Le G7 G8) ⟨bb, rfl, vlb, fsb, c1, c2, c3, rsc, Zb, v1, v2, v3, v4, v5, rfl⟩
  simp only [setO, fhO, frO, fzO, fdO]
  refine st_ ?_
  refine rn_ ?_; intros
  refine go_keep [0, 1, 2, 3, 4, 5, 6, 7, 8, 9, 10, 11, 58] [20, 21, 22, 23, 24, 30, 31, 32, 33] ?_
  refine st_ ?_
  refine go_callT [30, 31, 32, 33] (by rw [hnt]; rfl) (by rw [hP]; kernel_rfl) rfl rfl rfl (by rw [hmh]; simp) (by rw [hP]; exact run_ok bb cb givenP ps (rS 1000) chS 9999 5001 _ G8 (by omega) (by omega) (hc7.mono hle8) (Rp.S_mono hle8 hp7) ⟨vlb, _, c1, c2, c3, rsc, Zb, v1, v2, v3, v4, v5, rfl⟩ given_r1) ?_
  clear v1 v2 v3 v4 v5
  rintro _ G9 ow9 (hle9 : Le G8 G9) ⟨rfl, vlb, fsb, c1, c2, c3, rsd, Zb, v1, v2, v3, v4, v5, rfl⟩
  simp only [setO, fhO, frO, fzO, fdO]
  refine st_ ?_
  refine rn_ ?_; intros
  have hc9 := hc7.mono (hle8.trans hle9)
  have hp9 := Rp.S_mono (hle8.trans hle9) hp7
  refine go_callW [30, 31] (by rw [hnt]; rfl) (by rw [hP]; kernel_rfl) rfl rfl rfl (.inl (by rw [hmh]; simp)) (by rw [hP]; exact want_ok bb cb c1 vt0.k vt0.n vlb fsb ps givenP ⟨1, 3, [iV 0], []⟩ [] rsd ⟨15, 0, []⟩ G9 hc9 hp9 v3 rfl (by simp) rfl) ?_
  rintro _ G10 ow10 (hle10 : Le G9 G10) ⟨rfl, rfl⟩
  simp only [setO, fhO, frO, fzO, fdO]
  refine st_ ?_
  refine rn_ ?_; intros
  refine go_rowC 31 rfl ?_
  rintro qa1 qb2 rfl hqb
  have hrd : rsd.length = 1 := v3.len
  simp only [hra, hrd]
  refine go_keep [0, 1, 2, 3, 4, 5, 6, 7, 8, 9, 10, 11, 12, 13, 14, 15] [20, 21, 22, 23, 24, 30, 31, 32, 33, 34] ?_
  refine st_ ?_
  have hsame : Pure Tryz.prog 28 [.agg #[.int .i64 (iV 7).k, .int .i64 (iV 7).n, .slice y1 (iV 7).l.length y2], .agg #[.int .i64 2, .int .i64 7, .slice none 0 0]] G10 (fun r _ => r = .bool true) :=
    (refSame_ok (iV 7) (iV 7) _ _ G10 (VT.rep_mono (((hle7.trans hle8).trans hle9).trans hle10) hr7) ⟨by simp [isI64], by simp [isI64], by simp, none, 0, rfl, .inl rfl⟩ (by decide +kernel) (by decide +kernel)).val (by rfl)
  refine x_draw rfl (by rw [hP]; kernel_rfl) rfl (by kernel_rfl) ?_
  refine runq 400 hty hnt ?_; refine st_ ?_
  refine q_callf (by rw [hnt]; rfl) (by rw [hP]; kernel_rfl) rfl (hP ▸ numL_ok 0 _) ?_; refine runq 400 hty hnt ?_; refine st_ ?_
  refine q_callf (by rw [hnt]; rfl) (by rw [hP]; kernel_rfl) rfl (hP ▸ numL_ok 0 _) ?_; refine runq 400 hty hnt ?_; refine st_ ?_
  refine q_callf (by rw [hnt]; rfl) (by rw [hP]; kernel_rfl) rfl (hP ▸ numL_ok 0 _) ?_; refine runq 400 hty hnt ?_; refine st_ ?_
  refine q_callf (by rw [hnt]; rfl) (by rw [hP]; kernel_rfl) rfl (hP ▸ numL_ok 0 _) ?_; refine runq 400 hty hnt ?_; refine st_ ?_
  refine q_callf (by rw [hnt]; rfl) (by rw [hP]; kernel_rfl) rfl (hP ▸ numL_ok 0 _) ?_; refine runq 400 hty hnt ?_; refine st_ ?_
  (refine go_qsplit rfl rfl (fun hc => absurd hc (by decide +kernel)) (fun _ => ?_); refine st_ ?_; (try (refine runq 400 hty hnt ?_; refine st_ ?_)))
  (refine go_qsplit rfl rfl (fun hc => absurd hc (by decide +kernel)) (fun _ => ?_); refine st_ ?_; (try (refine runq 400 hty hnt ?_; refine st_ ?_)))
  (refine go_qsplit rfl rfl (fun hc => absurd hc (by decide +kernel)) (fun _ => ?_); refine st_ ?_; (try (refine runq 400 hty hnt ?_; refine st_ ?_)))
  refine q_callW [20] (by rw [hnt]; rfl) (by rw [hP]; kernel_rfl) rfl rfl rfl (by rw [hP]; exact state_ok ba cb 3 (iV 7).k (iV 7).n vla fsa G10) ?_
  refine runq 400 hty hnt ?_; refine st_ ?_
  (refine go_qsplit rfl rfl (fun hc => absurd hc (by decide +kernel)) (fun _ => ?_); refine st_ ?_; (try (refine runq 400 hty hnt ?_; refine st_ ?_)))
  (refine go_qsplit rfl rfl (fun hc => absurd hc (by decide +kernel)) (fun _ => ?_); refine st_ ?_; (try (refine runq 400 hty hnt ?_; refine st_ ?_)))
  refine q_callf (by rw [hnt]; rfl) (by rw [hP]; kernel_rfl) rfl (hP ▸ numb_ok 7 _) ?_; refine runq 400 hty hnt ?_; refine st_ ?_
  refine q_callf (by rw [hnt]; rfl) (by rw [hP]; kernel_rfl) rfl (hP ▸ hsame) ?_; refine runq 400 hty hnt ?_; refine st_ ?_
  (refine go_qsplit rfl rfl (fun hc => absurd hc (by decide +kernel)) (fun _ => ?_); refine st_ ?_; (try (refine runq 400 hty hnt ?_; refine st_ ?_)))
  (refine go_qsplit rfl rfl (fun hc => absurd hc (by decide +kernel)) (fun _ => ?_); refine st_ ?_; (try (refine runq 400 hty hnt ?_; refine st_ ?_)))
  refine q_callW [30] (by rw [hnt]; rfl) (by rw [hP]; kernel_rfl) rfl rfl rfl (by rw [hP]; exact state_ok bb cb 2 vt0.k vt0.n vlb _ G10) ?_
  refine runq 400 hty hnt ?_; refine st_ ?_
  (refine go_qsplit rfl rfl (fun hc => absurd hc (by decide +kernel)) (fun _ => ?_); refine st_ ?_; (try (refine runq 400 hty hnt ?_; refine st_ ?_)))
  (refine go_qsplit rfl rfl (fun hc => absurd hc (by decide +kernel)) (fun _ => ?_); refine st_ ?_; (try (refine runq 400 hty hnt ?_; refine st_ ?_)))
  (refine go_qsplit rfl rfl (fun hc => absurd hc (by decide +kernel)) (fun _ => ?_); refine st_ ?_; (try (refine runq 400 hty hnt ?_; refine st_ ?_)))
  refine q_callW [30] (by rw [hnt]; rfl) (by rw [hP]; kernel_rfl) rfl rfl rfl (by rw [hP]; exact frames_ok bb cb 2 vt0.k vt0.n vlb qa1 1 qb2 G10) ?_
  refine runq 400 hty hnt ?_; refine st_ ?_
  refine q_end ?_; refine rn_ ?_; intros
  refine go_slot 127 (.b false) rfl rfl ?_
  refine go_keep [0, 1, 10, 127] [30, 31, 32, 33] ?_
  refine st_ ?_
  have hfin := wB hP hQ hnt hty hmb hmh hro cb bb c1 c2 c3 vlb (.slice qa1 1 qb2) ps rsd Zb G10 (hc9.mono hle10) (Rp.S_mono hle10 hp9) (VT.rep_mono hle10 v1) v2 (v3.mono hle10) v4 (fun m x q q' => Rp.S_mono hle10 (v5 m x q q'))
  rw [hrd] at hfin
  exact hfin
end Go.Proofs.YtpppkednpamhbaaGreat
namespace Go.Proofs.YtpppkednpamhbaaGreat.R
set_option linter.unusedSimpArgs false
set_option linter.unusedVariables false
open Go.Sx
set_option maxHeartbeats 8000000
set_option maxRecDepth 20000
theorem rW_of {G : Hp} : ∀ {l : List VT} {cs : List Value}, repV G l cs → (∀ v ∈ l, tsz v ≤ 1000) → rW.L G l cs
  | [], cs, h, _ => by simp only [repV] at h; exact h
  | x :: l, cs, h, hb => by
    simp only [repV] at h
    obtain ⟨sl, r, rfl, h1, h2⟩ := h
    exact ⟨[_, _, _], r, rfl, ⟨sl, rfl, h1, hb x (by simp)⟩, rW_of h2 fun v hv => hb v (by simp [hv])⟩
theorem rW_ofS {G : Hp} {l : List VT} {sl : Value} (h : repS G l sl) (hb : ∀ v ∈ l, tsz v ≤ 1000) : rW.S G l sl := by
  obtain ⟨h1, ad, cap, h2, h3⟩ := h
  refine ⟨h1, ad, cap, h2, h3.imp id ?_⟩
  rintro ⟨b, off, cs, q1, q2, q3⟩
  exact ⟨b, off, cs, q1, q2, rW_of q3 hb⟩
theorem small_ok10 (p : Pr) (ps : Value) (G : Hp) (hps : rF.S G p ps) : Pure Tryz.prog 5 [.agg #[ps]] G (fun v _ => ∃ b : Bool, v = .bool b ∧ (b = true → p.length ≤ 12 ∧ ∀ f ∈ p, f.nodes.length ≤ 40)) := by
  have hps0 := hps
  have h63 := Rp.S_len hps
  obtain ⟨adp, cp, rfl⟩ := Rp.S_slice hps
  refine enterX ty tyok Tryz.func5 rfl Tryz.ntmps5 [.a [.v (.slice adp p.length cp)]] (by simp) ?_
  intro C hP hQ hnt hty hmb hmh hro; have hQp := qp_body hQ; refine st_ ?_
  refine rn_ ?_; intros
  rename_i b1
  refine x_split rfl rfl rfl (fun h1 => ?_) (fun h1 => ?_) <;> (refine st_ ?_; (refine ru_ ?_; intros))
  · refine rn_ ?_; intros
    refine xc_ hQ hmb ?_; simp only [SV.den, resV, dens]
    exact ⟨false, rfl, fun q => by cases q⟩
  have h12 : p.length ≤ 12 := by simp at h1; omega
  refine rn_ ?_; intros
  refine go_keep [1, 2, 3] [0] ?_
  refine st_ ?_
  refine x_loop rfl (fun q s => ∃ i : Nat, i ≤ p.length ∧ q = p.length - i ∧ (∀ f ∈ p.take i, f.nodes.length ≤ 40) ∧
    s = ⟨[(1, .p 0 b1 0), (2, .b false), (3, .v (.int .i64 i))], [(0, b1, .c 24 [.v (.slice adp p.length cp)])], G, []⟩) ⟨0, by omega, rfl, by simp, rfl⟩ ?_
  rintro q s ⟨i, hi, hq, hall, rfl⟩ ih
  refine rn_ ?_; intros
  refine x_if rfl rfl rfl rfl (fun hil => ?_) (fun hil => ?_)
  · have hlt : i < p.length := by simp at hil; omega
    obtain ⟨bp, op, nsp, rfl, hatp, hpp, hnp⟩ := rF_at hps0 hlt
    have hn63 := Rp.S_len hnp
    obtain ⟨adn, capn, rfl⟩ := Rp.S_slice hnp
    have hatp1 : At G bp (op + i * 2 + 1) [.slice adn (fu p i).nodes.length capn] := by simpa using hatp.sub 1 1 (by simp)
    refine rn_ ?_; intros
    refine go_q (v := .pointer (some ⟨bp, op + i * 2, none⟩)) (by rw [hnt]; rfl) ((quiet_index (by rw [hty]; rfl) (by rw [hty]; rfl) rfl rfl rfl (by omega) (by omega)).cast (by simp)) ?_
    refine rn_ ?_; intros
    refine go_q (by rw [hnt]; rfl) (quiet_load (by rw [hty]; rfl) rfl (by simp [TK.agg]) hatp1 rfl) ?_; refine rn_ ?_; intros
    refine x_split rfl rfl rfl (fun h2 => ?_) (fun h2 => ?_) <;> (refine st_ ?_; (refine ru_ ?_; intros))
    · refine rn_ ?_; intros
      refine xc_ hQ hmb ?_; simp only [SV.den, resV, dens]
      exact ⟨false, rfl, fun q => by cases q⟩
    · refine rn_ ?_; intros
      rw [wr (n := (i : Int) + 1) (by omega) (by omega)]
      refine go_keep [1, 2, 3] [0] ?_
      refine st_ ?_
      refine ih (p.length - (i + 1)) _ (by omega) ⟨i + 1, by omega, rfl, fun f hf => ?_, rfl⟩
      rw [← List.take_append_getElem hlt] at hf
      rcases List.mem_append.1 hf with hf | hf
      · exact hall f hf
      · simp only [List.mem_cons, List.not_mem_nil, or_false] at hf
        subst hf
        rw [fu_eq hlt] at h2
        simp at h2
        omega
  have hie : i = p.length := by simp at hil; omega
  subst hie
  rw [List.take_length] at hall
  refine rn_ ?_; intros
  refine xc_ hQ hmb ?_; simp only [SV.den, resV, dens]
  exact ⟨true, rfl, fun _ => ⟨h12, hall⟩⟩
theorem short_ok (l : List VT) (sl : Value) (most : Int) (G : Hp) (hl : repS G l sl) (hb : ∀ v ∈ l, tsz v ≤ 2000000) : Pure Tryz.prog 6 [sl, .int .i64 most] G (fun v _ => ∃ b : Bool, v = .bool b ∧ (b = true → (l.length : Int) ≤ most ∧ ∀ v ∈ l, tsz v ≤ 20)) := by
  obtain ⟨h63, ad, cap, rfl, hS⟩ := hl
  refine enterX ty tyok Tryz.func6 rfl Tryz.ntmps6 [.v (.slice ad l.length cap), .v (.int .i64 most)] (by simp) ?_
  intro C hP hQ hnt hty hmb hmh hro; have hQp := qp_body hQ; refine st_ ?_
  refine rn_ ?_; intros
  refine x_split rfl rfl rfl (fun h1 => ?_) (fun h1 => ?_) <;> (refine st_ ?_; (refine ru_ ?_; intros))
  · refine rn_ ?_; intros
    refine xc_ hQ hmb ?_; simp only [SV.den, resV, dens]
    exact ⟨false, rfl, fun q => by cases q⟩
  have h12 : (l.length : Int) ≤ most := by simp at h1; omega
  refine rn_ ?_; intros
  refine go_keep [0, 1, 4, 5] [] ?_
  refine st_ ?_
  refine x_loop rfl (fun q s => ∃ (i : Nat) (G1 : Hp), i ≤ l.length ∧ q = l.length - i ∧ Le G G1 ∧ (∀ v ∈ l.take i, tsz v ≤ 20) ∧
    s = ⟨[(0, .v (.slice ad l.length cap)), (1, .v (.int .i64 most)), (4, .b false), (5, .v (.int .i64 i))], [], G1, []⟩) ⟨0, G, by omega, rfl, Le.refl _, by simp, rfl⟩ ?_
  rintro q s ⟨i, G1, hi, hq, hle1, hall, rfl⟩ ih
  refine rn_ ?_; intros
  refine x_if rfl rfl rfl rfl (fun hil => ?_) (fun hil => ?_)
  · have hlt : i < l.length := by simp at hil; omega
    rcases hS with rfl | ⟨b, off, cs, rfl, ha, hrV⟩
    · simp at hlt
    obtain ⟨adx, capx, hat, hrx⟩ := At_get ha hrV hlt
    have hbx := hb l[i] (List.getElem_mem _)
    refine rn_ ?_; intros
    refine go_q (v := .pointer (some ⟨b, off + i * 3, none⟩)) (by rw [hnt]; rfl) ((quiet_index (by rw [hty]; rfl) (by rw [hty]; rfl) rfl rfl rfl (by omega) (by omega)).cast (by simp)) ?_
    refine rn_ ?_; intros
    refine go_q (v := .agg #[.int .i64 l[i].k, .int .i64 l[i].n, .slice adx l[i].l.length capx]) (by rw [hnt]; rfl) ((quiet_load (by rw [hty]; rfl) rfl (by simp [TK.agg]) (hat.mono hle1) rfl).cast (by rfl)) ?_
    refine rn_ ?_; intros
    refine go_callf (by rw [hnt]; rfl) (by rw [hP]; kernel_rfl) rfl (hP ▸ refsize_ok l[i] _ G1 (VT.rep_mono hle1 hrx) hbx) ?_; refine rn_ ?_; intros
    refine x_split rfl rfl rfl (fun h2 => ?_) (fun h2 => ?_) <;> (refine st_ ?_; (refine ru_ ?_; intros))
    · refine rn_ ?_; intros
      refine xc_ hQ hmb ?_; simp only [SV.den, resV, dens]
      exact ⟨false, rfl, fun q => by cases q⟩
    · refine rn_ ?_; intros
      rw [wr (n := (i : Int) + 1) (by omega) (by omega)]
      refine go_keep [0, 1, 4, 5] [] ?_
      refine st_ ?_
      refine ih (l.length - (i + 1)) _ (by omega) ⟨i + 1, G1, by omega, rfl, hle1, fun v hv => ?_, rfl⟩
      rw [← List.take_append_getElem hlt] at hv
      rcases List.mem_append.1 hv with hv | hv
      · exact hall v hv
      · simp only [List.mem_cons, List.not_mem_nil, or_false] at hv
        subst hv
        rw [cnt_eq _ 0 (by omega)] at h2
        simp at h2
        omega
  have hie : i = l.length := by simp at hil; omega
  subst hie
  rw [List.take_length] at hall
  refine rn_ ?_; intros
  refine xc_ hQ hmb ?_; simp only [SV.den, resV, dens]
  exact ⟨true, rfl, fun _ => ⟨h12, hall⟩⟩
theorem bd_of {p : Pr} (hp : rgtP p = true) (h : p.length ≤ 12 ∧ ∀ f ∈ p, f.nodes.length ≤ 40) : bdP p := by
  refine ⟨by omega, fun f hf => ⟨by have := h.2 f hf; omega, fun x hx => ?_⟩⟩
  have hb := badF_ok (yrgt hp).2.1 f hf
  simp only [whr] at hb
  cases hq : places f with
  | inl a => rw [hq] at hb; simp at hb
  | inr A =>
    obtain ⟨j, hj, rfl⟩ := List.getElem_of_mem hx
    have := ((tree hq).ok j hj).2.1
    rw [nd_eq hj] at this
    have := (ben_len this).2.2.2.2.2.2.1
    omega
mutual
theorem vq_refl : ∀ (x : VT), veq x x = true
  | .mk k n l => by simp [veq, vqL_refl l]
theorem vqL_refl : ∀ (l : List VT), veqL l l = true
  | [] => by simp [veqL]
  | x :: l => by simp [veqL, vq_refl x, vqL_refl l]
end
structure Ac where
  w : Int
  n : Int
  v : VT
def rA : Rp Ac where
  size := 5
  e G x cs := ∃ sl, cs = [.int .i64 x.w, .int .i64 x.n, .int .i64 x.v.k, .int .i64 x.v.n, sl] ∧ x.v.rep G sl ∧ isI64 x.w ∧ isI64 x.n
  mono hl h := by obtain ⟨sl, h1, h2, h3⟩ := h; exact ⟨sl, h1, VT.rep_mono hl h2, h3⟩
  len h := by obtain ⟨_, rfl, _⟩ := h; rfl
  one h u hu := by
    obtain ⟨sl, rfl, h2, _⟩ := h
    obtain ⟨_, _, rfl⟩ := VT.rep_slice h2
    simp at hu
    rcases hu with rfl | rfl | rfl | rfl | rfl <;> rfl
theorem rA_at {G : Hp} {l : List Ac} {ad : Option Addr} {n cap : Nat} (h : rA.S G l (.slice ad n cap)) {i : Nat} (hi : i < l.length) : ∃ b off a c, ad = some ⟨b, off, none⟩ ∧ At G b (off + i * 5) [.int .i64 l[i].w, .int .i64 l[i].n, .int .i64 l[i].v.k, .int .i64 l[i].v.n, .slice a l[i].v.l.length c] ∧ l[i].v.rep G (.slice a l[i].v.l.length c) ∧ isI64 l[i].w ∧ isI64 l[i].n := by
  obtain ⟨b, off, cap', c, hv, hat, sl, rfl, h1, h2, h3⟩ := Rp.S_get h hi
  obtain ⟨a, c', rfl⟩ := VT.rep_slice h1
  cases hv
  exact ⟨b, off, a, c', rfl, by simpa [rA] using hat, h1, h2, h3⟩
theorem few_ok (l : List Ac) (sl : Value) (most : Int) (G : Hp) (hl : rA.S G l sl) (hb : ∀ x ∈ l, tsz x.v ≤ 2000000) : Pure Tryz.prog 7 [sl, .int .i64 most] G (fun v _ => ∃ b : Bool, v = .bool b ∧ (b = true → (l.length : Int) ≤ most ∧ ∀ x ∈ l, x.n ≤ 200 ∧ tsz x.v ≤ 20)) := by
  have h63 := Rp.S_len hl
  obtain ⟨ad, cap, rfl⟩ := Rp.S_slice hl
  refine enterX ty tyok Tryz.func7 rfl Tryz.ntmps7 [.v (.slice ad l.length cap), .v (.int .i64 most)] (by simp) ?_
  intro C hP hQ hnt hty hmb hmh hro; have hQp := qp_body hQ; refine st_ ?_
  refine rn_ ?_; intros
  refine x_split rfl rfl rfl (fun h1 => ?_) (fun h1 => ?_) <;> (refine st_ ?_; (refine ru_ ?_; intros))
  · refine rn_ ?_; intros
    refine xc_ hQ hmb ?_; simp only [SV.den, resV, dens]
    exact ⟨false, rfl, fun q => by cases q⟩
  have h12 : (l.length : Int) ≤ most := by simp at h1; omega
  refine rn_ ?_; intros
  refine go_keep [0, 1, 4, 5] [] ?_
  refine st_ ?_
  refine x_loop rfl (fun q s => ∃ (i : Nat) (G1 : Hp), i ≤ l.length ∧ q = l.length - i ∧ Le G G1 ∧ (∀ x ∈ l.take i, x.n ≤ 200 ∧ tsz x.v ≤ 20) ∧
    s = ⟨[(0, .v (.slice ad l.length cap)), (1, .v (.int .i64 most)), (4, .b false), (5, .v (.int .i64 i))], [], G1, []⟩) ⟨0, G, by omega, rfl, Le.refl _, by simp, rfl⟩ ?_
  rintro q s ⟨i, G1, hi, hq, hle1, hall, rfl⟩ ih
  refine rn_ ?_; intros
  refine x_if rfl rfl rfl rfl (fun hil => ?_) (fun hil => ?_)
  · have hlt : i < l.length := by simp at hil; omega
    obtain ⟨b, off, a9, c9, rfl, hat, hrx, hw64, hn64⟩ := rA_at (Rp.S_mono hle1 hl) hlt
    have hbx := hb l[i] (List.getElem_mem _)
    have hat1 : At G1 b (off + i * 5 + 1) [.int .i64 l[i].n] := by simpa using hat.sub 1 1 (by simp)
    have hat2 : At G1 b (off + i * 5 + 2) [.int .i64 l[i].v.k, .int .i64 l[i].v.n, .slice a9 l[i].v.l.length c9] := by simpa using hat.sub 2 3 (by simp)
    refine rn_ ?_; intros
    refine go_q (v := .pointer (some ⟨b, off + i * 5, none⟩)) (by rw [hnt]; rfl) ((quiet_index (by rw [hty]; rfl) (by rw [hty]; rfl) rfl rfl rfl (by omega) (by omega)).cast (by simp)) ?_
    refine rn_ ?_; intros
    refine go_q (v := .int .i64 l[i].n) (by rw [hnt]; rfl) ((quiet_load (by rw [hty]; rfl) rfl (by simp [TK.agg]) hat1 rfl).cast (by rfl)) ?_
    refine rn_ ?_; intros
    refine go_gsplit rfl rfl (fun h2 => ?_) (fun h2 => ?_) <;> (refine st_ ?_; (refine rn_ ?_; intros))
    · refine xc_ hQ hmb ?_; simp only [SV.den, resV, dens]
      exact ⟨false, rfl, fun q => by cases q⟩
    have hn2 : l[i].n ≤ 200 := by simp at h2; omega
    refine go_q (v := .pointer (some ⟨b, off + i * 5, none⟩)) (by rw [hnt]; rfl) ((quiet_index (by rw [hty]; rfl) (by rw [hty]; rfl) rfl rfl rfl (by omega) (by omega)).cast (by simp)) ?_
    refine rn_ ?_; intros
    refine go_q (v := .agg #[.int .i64 l[i].v.k, .int .i64 l[i].v.n, .slice a9 l[i].v.l.length c9]) (by rw [hnt]; rfl) ((quiet_load (by rw [hty]; rfl) rfl (by simp [TK.agg]) hat2 rfl).cast (by rfl)) ?_
    refine rn_ ?_; intros
    refine go_callf (by rw [hnt]; rfl) (by rw [hP]; kernel_rfl) rfl (hP ▸ refsize_ok l[i].v _ G1 hrx hbx) ?_; refine rn_ ?_; intros
    refine x_split rfl rfl rfl (fun h3 => ?_) (fun h3 => ?_) <;> (refine st_ ?_; (refine ru_ ?_; intros))
    · refine rn_ ?_; intros
      refine xc_ hQ hmb ?_; simp only [SV.den, resV, dens]
      exact ⟨false, rfl, fun q => by cases q⟩
    · refine rn_ ?_; intros
      rw [wr (n := (i : Int) + 1) (by omega) (by omega)]
      refine go_keep [0, 1, 4, 5] [] ?_
      refine st_ ?_
      refine ih (l.length - (i + 1)) _ (by omega) ⟨i + 1, G1, by omega, rfl, hle1, fun x hx => ?_, rfl⟩
      rw [← List.take_append_getElem hlt] at hx
      rcases List.mem_append.1 hx with hx | hx
      · exact hall x hx
      · simp only [List.mem_cons, List.not_mem_nil, or_false] at hx
        subst hx
        rw [cnt_eq _ 0 (by omega)] at h3
        simp at h3
        omega
  have hie : i = l.length := by simp at hil; omega
  subst hie
  rw [List.take_length] at hall
  refine rn_ ?_; intros
  refine xc_ hQ hmb ?_; simp only [SV.den, resV, dens]
  exact ⟨true, rfl, fun _ => ⟨h12, hall⟩⟩
theorem vals_ok (l : List VT) (s1 s2 : Value) (G : Hp) (h1 : rW.S G l s1) (h2 : rW.S G l s2) (hv : ∀ v ∈ l, vld v = true) (hll : l.length ≤ 1000) :
    Pure Tryz.prog 79 [s1, s2] G (fun v _ => v = .bool true) := by
  obtain ⟨a1, c1, rfl⟩ := Rp.S_slice h1
  obtain ⟨a2, c2, rfl⟩ := Rp.S_slice h2
  refine enterX ty tyok Tryz.func79 rfl Tryz.ntmps79 [.v (.slice a1 l.length c1), .v (.slice a2 l.length c2)] (by simp) ?_
  intro C hP hQ hnt hty hmb hmh hro; have hQp := qp_body hQ; refine st_ ?_
  refine rn_ ?_; intros
  (refine x_split rfl rfl rfl (fun hc => absurd hc (by first | decide +kernel | (simp; first | done | fail))) (fun _ => ?_); refine st_ ?_; (refine ru_ ?_; intros))
  refine rn_ ?_; intros
  refine go_keep [0, 1, 4, 5] [] ?_
  refine st_ ?_
  refine x_loop rfl (fun q s => ∃ (i : Nat) (G1 : Hp), i ≤ l.length ∧ q = l.length - i ∧ Le G G1 ∧
    s = ⟨[(0, .v (.slice a1 l.length c1)), (1, .v (.slice a2 l.length c2)), (4, .b false), (5, .v (.int .i64 i))], [], G1, []⟩) ⟨0, G, by omega, rfl, Le.refl _, rfl⟩ ?_
  rintro q s ⟨i, G1, hi, hq, hle1, rfl⟩ ih
  refine rn_ ?_; intros
  refine x_if rfl rfl rfl rfl (fun hil => ?_) (fun hil => ?_)
  · have hlt : i < l.length := by simp at hil; omega
    obtain ⟨b, off, sv, rfl, hat, hrx, htx⟩ := rW_at (Rp.S_mono hle1 h1) hlt
    obtain ⟨b', off', sv', rfl, hat', hrx', htx'⟩ := rW_at (Rp.S_mono hle1 h2) hlt
    obtain ⟨a9, c9, rfl⟩ := VT.rep_slice hrx
    obtain ⟨a8, c8, rfl⟩ := VT.rep_slice hrx'
    have hv1 := hv l[i] (List.getElem_mem _)
    have hs1 : sml l[i] = true := by simp only [vld, Bool.and_eq_true] at hv1; exact hv1.1
    refine rn_ ?_; intros
    have hsame : Pure Tryz.prog 28 [.agg #[.int .i64 l[i].k, .int .i64 l[i].n, .slice a9 l[i].l.length c9], .agg #[.int .i64 l[i].k, .int .i64 l[i].n, .slice a8 l[i].l.length c8]] G1 (fun r _ => r = .bool true) :=
      (refSame_ok l[i] l[i] _ _ G1 hrx hrx' (by omega) (by omega)).val (by rw [hs1, vq_refl]; rfl)
    refine x_draw rfl (by rw [hP]; kernel_rfl) rfl (by kernel_rfl) ?_
    refine runq 400 hty hnt ?_; refine st_ ?_
    refine q_q (v := .pointer (some ⟨b, off + i * 3, none⟩)) (by rw [hnt]; rfl) ((quiet_index (by rw [hty]; rfl) (by rw [hty]; rfl) rfl rfl rfl (by omega) (by omega)).cast (by simp)) ?_
    refine runq 400 hty hnt ?_; refine st_ ?_
    refine q_q (v := .agg #[.int .i64 l[i].k, .int .i64 l[i].n, .slice a9 l[i].l.length c9]) (by rw [hnt]; rfl) ((quiet_load (by rw [hty]; rfl) rfl (by simp [TK.agg]) hat rfl).cast (by rfl)) ?_
    refine runq 400 hty hnt ?_; refine st_ ?_
    refine q_q (v := .pointer (some ⟨b', off' + i * 3, none⟩)) (by rw [hnt]; rfl) ((quiet_index (by rw [hty]; rfl) (by rw [hty]; rfl) rfl rfl rfl (by omega) (by omega)).cast (by simp)) ?_
    refine runq 400 hty hnt ?_; refine st_ ?_
    refine q_q (v := .agg #[.int .i64 l[i].k, .int .i64 l[i].n, .slice a8 l[i].l.length c8]) (by rw [hnt]; rfl) ((quiet_load (by rw [hty]; rfl) rfl (by simp [TK.agg]) hat' rfl).cast (by rfl)) ?_
    refine runq 400 hty hnt ?_; refine st_ ?_
    refine q_callf (by rw [hnt]; rfl) (by rw [hP]; kernel_rfl) rfl (hP ▸ hsame) ?_; refine runq 400 hty hnt ?_; refine st_ ?_
    refine q_end ?_; refine rn_ ?_; intros
    (refine x_split rfl rfl rfl (fun hc => absurd hc (by first | decide +kernel | (simp; first | done | fail))) (fun _ => ?_); refine st_ ?_; (refine ru_ ?_; intros))
    refine rn_ ?_; intros
    rw [wr (n := (i : Int) + 1) (by omega) (by omega)]
    refine go_keep [0, 1, 4, 5] [] ?_
    refine st_ ?_
    exact ih (l.length - (i + 1)) _ (by omega) ⟨i + 1, G1, by omega, rfl, hle1, rfl⟩
  refine rn_ ?_; intros
  refine xc_ hQ hmb ?_; simp only [SV.den, resV, dens]
  try rfl
theorem samewant_ok (k f : Int) (l : List VT) (s1 s2 : Value) (G : Hp) (h1 : rW.S G l s1) (h2 : rW.S G l s2) (hv : ∀ v ∈ l, vld v = true) (hll : l.length ≤ 1000) :
    Pure Tryz.prog 48 [.agg #[.int .i64 k, .int .i64 f, s1], .agg #[.int .i64 k, .int .i64 f, s2]] G (fun v _ => v = .bool true) := by
  have hvs := vals_ok l s1 s2 G h1 h2 hv hll
  obtain ⟨a1, c1, rfl⟩ := Rp.S_slice h1
  obtain ⟨a2, c2, rfl⟩ := Rp.S_slice h2
  refine enterX ty tyok Tryz.func48 rfl Tryz.ntmps48 [.a [.v (.int .i64 k), .v (.int .i64 f), .v (.slice a1 l.length c1)], .a [.v (.int .i64 k), .v (.int .i64 f), .v (.slice a2 l.length c2)]] (by simp) ?_
  intro C hP hQ hnt hty hmb hmh hro; have hQp := qp_body hQ; refine st_ ?_
  refine rn_ ?_; intros
  (refine go_gsplit rfl rfl (fun _ => ?_) (fun hc => absurd hc (by simp)); refine st_ ?_; (refine rn_ ?_; intros))
  (refine go_gsplit rfl rfl (fun _ => ?_) (fun hc => absurd hc (by simp)); refine st_ ?_; (refine rn_ ?_; intros))
  refine go_callf (by rw [hnt]; rfl) (by rw [hP]; kernel_rfl) rfl (hP ▸ hvs) ?_; refine rn_ ?_; intros
  refine xc_ hQ hmb ?_; simp only [SV.den, resV, dens]
  try rfl
end Go.Proofs.YtpppkednpamhbaaGreat.R
namespace Go.Proofs.YtpppkednpamhbaaGreat.R
set_option linter.unusedSimpArgs false
set_option linter.unusedVariables false
open Go.Sx
set_option maxHeartbeats 16000000
set_option maxRecDepth 20000
theorem rat_ok (ps : Value) (p : Pr) (s : Fb) (v0 : Value) (G : Hp) (hp : rF.S G p ps) (h0 : rfO G ps s.st s.val s.l v0) (hVF : VF p s) :
    Pure Tryz.prog 47 [v0] G (fun v _ => v = .tuple #[.int .i64 (atQ s).1, .int .i64 (atQ s).2.1, .bool (atQ s).2.2]) := by
  obtain ⟨lsl, vl, rfl, hL, hvl, hts⟩ := h0
  obtain ⟨vA, vC, rfl⟩ := VT.rep_slice hvl
  obtain ⟨pA, pC, rfl⟩ := Rp.S_slice hp
  obtain ⟨aL, cL, rfl⟩ := Rp.S_slice hL.1
  have hlen := vf_len hVF
  refine enterX ty tyok Tryz.func47 rfl Tryz.ntmps47 [.a [.v (.slice pA p.length pC), .v (.slice aL s.l.reverse.length cL), .v (.int .i64 s.st), .v (.int .i64 s.val.k), .v (.int .i64 s.val.n), .v (.slice vA s.val.l.length vC)]] (by simp) ?_
  intro C hP hQ hnt hty hmb hmh hro; have hQp := qp_body hQ; refine st_ ?_
  refine rn_ ?_; intros
  refine x_split rfl rfl rfl (fun h1 => ?_) (fun h1 => ?_) <;> (refine st_ ?_; (refine ru_ ?_; intros))
  · have hsl : s.l = [] := List.eq_nil_of_length_eq_zero (by simp at h1; simp [h1])
    refine rn_ ?_; intros
    refine xc_ hQ hmb ?_; simp only [SV.den, resV, dens]
    rw [show atQ s = (0, 0, false) by unfold atQ; rw [hsl]]
  obtain ⟨x, r, hsl⟩ : ∃ x r, s.l = x :: r := by
    cases hq : s.l with
    | nil => rw [hq] at h1; simp at h1
    | cons x r => exact ⟨x, r, rfl⟩
  have hq : atQ s = (x.fn, x.nd, true) := by unfold atQ; rw [hsl]
  have hL' : fmS G (x :: r) (.slice aL s.l.reverse.length cL) := by
    have := hL
    rw [hsl] at this
    rw [hsl]
    exact this
  obtain ⟨nd, hvx, hr⟩ := vf_top hVF hsl
  refine rn_ ?_; intros
  refine go_call (by rw [hnt]; rfl) (by rw [hP]; kernel_rfl) rfl (hP ▸ rlast_ok _ _ _ s.st s.val.k s.val.n p x r nd G hp hL'.1 ⟨_, _, _, rfl⟩ hvx.1.nd (by omega)) ?_
  rintro _ G1 (hle1 : Le G G1) ⟨av, cw, ad, cd, an, cn, rfl, hsv, hsd, hrI, g1, g2, i1, i2⟩
  refine rn_ ?_; intros
  refine x_draw rfl (by rw [hP]; kernel_rfl) rfl (by kernel_rfl) ?_
  refine runq 400 hty hnt ?_; refine st_ ?_
  refine q_end ?_; refine rn_ ?_; intros
  refine xc_ hQ hmb ?_; simp only [SV.den, resV, dens]
  rw [hq]
theorem rwant_ok (ps : Value) (p : Pr) (s : Fb) (v0 : Value) (G : Hp) (hp : rF.S G p ps) (h0 : rfO G ps s.st s.val s.l v0) (hVF : VF p s) :
    Pure Tryz.prog 45 [v0] G (fun v G' => wantA G' (wantQ p s) v) := by
  obtain ⟨lsl, vl, rfl, hL, hvl, hts⟩ := h0
  obtain ⟨vA, vC, rfl⟩ := VT.rep_slice hvl
  obtain ⟨pA, pC, rfl⟩ := Rp.S_slice hp
  obtain ⟨aL, cL, rfl⟩ := Rp.S_slice hL.1
  have hlen := vf_len hVF
  refine enterX ty tyok Tryz.func45 rfl Tryz.ntmps45 [.a [.v (.slice pA p.length pC), .v (.slice aL s.l.reverse.length cL), .v (.int .i64 s.st), .v (.int .i64 s.val.k), .v (.int .i64 s.val.n), .v (.slice vA s.val.l.length vC)]] (by simp) ?_
  intro C hP hQ hnt hty hmb hmh hro; have hQp := qp_body hQ; refine st_ ?_
  refine rn_ ?_; intros
  refine x_split rfl rfl rfl (fun h1 => ?_) (fun h1 => ?_) <;> (refine st_ ?_; (refine ru_ ?_; intros))
  · have h2 : ¬ s.st = 2 := by simpa using h1
    refine rn_ ?_; intros
    refine xc_ hQ hmb ?_; simp only [SV.den, resV, dens]
    unfold wantQ
    rw [if_neg h2]
    exact ⟨_, rfl, Rp.S_nil none 0⟩
  have h2 : s.st = 2 := by simpa using h1
  obtain ⟨m, r, nd, hs, hRX, hr⟩ := vf_two hVF h2
  have hq : wantQ p s = ((wantP nd m.done).1, (wantP nd m.done).2.1, (wantP nd m.done).2.2, true) := by
    unfold wantQ
    rw [if_pos h2, hs]
    simp only [hRX.1.1.nd]
  have hL' : fmS G (m :: r) (.slice aL s.l.reverse.length cL) := by
    have := hL
    rw [hs] at this
    rw [hs]
    exact this
  have hop := hRX.2.2.2.2
  refine rn_ ?_; intros
  refine go_call (by rw [hnt]; rfl) (by rw [hP]; kernel_rfl) rfl (hP ▸ rlast_ok _ _ _ s.st s.val.k s.val.n p m r nd G hp hL'.1 ⟨_, _, _, rfl⟩ hRX.1.1.nd (by omega)) ?_
  rintro _ G1 (hle1 : Le G G1) ⟨av, cw, ad, cd, an, cn, rfl, hsv, hsd, hrI, g1, g2, i1, i2⟩
  refine rn_ ?_; intros
  refine x_split rfl rfl rfl (fun h14 => ?_) (fun h14 => ?_) <;> (refine st_ ?_; (refine ru_ ?_; intros))
  · have hop : nd.op = 14 := by simpa using h14
    refine rn_ ?_; intros
    refine xc_ hQ hmb ?_; simp only [SV.den, resV, dens]
    rw [hq]
    simp only [wantP, hop]
    exact ⟨_, rfl, hsd⟩
  have h14 : ¬ nd.op = 14 := by simpa using h14
  refine rn_ ?_; intros
  refine x_split rfl rfl rfl (fun h15 => ?_) (fun h15 => ?_) <;> (refine st_ ?_; (refine ru_ ?_; intros))
  · have hop : nd.op = 15 := by simpa using h15
    refine rn_ ?_; intros
    refine xc_ hQ hmb ?_; simp only [SV.den, resV, dens]
    rw [hq]
    simp only [wantP, hop]
    exact ⟨_, rfl, Rp.S_nil none 0⟩
  have h15 : ¬ nd.op = 15 := by simpa using h15
  refine rn_ ?_; intros
  refine xc_ hQ hmb ?_; simp only [SV.den, resV, dens]
  rw [hq]
  simp only [wantP, if_neg h14, if_pos (show nd.op = 24 by omega)]
  exact ⟨_, rfl, hsd⟩
end Go.Proofs.YtpppkednpamhbaaGreat.R
namespace Go.Proofs.YtpppkednpamhbaaGreat
set_option linter.unusedSimpArgs false
set_option linter.unusedVariables false
open Go.Sx
def trailP (p : Pr) : Nat → Fb → Option (List (Int × Int))
  | 0, _ => some []
  | k + 1, s =>
    if s.st = 1 then
      match s.l with
      | [] => none
      | m :: _ =>
        match stepP p s with
        | none => none
        | some (_, o) => (trailP p k o).map ((m.fn, m.nd) :: ·)
    else some []
theorem vf_one {p : Pr} {s : Fb} (h : VF p s) (h1 : s.st = 1) : ∃ m r nd, s.l = m :: r ∧ VX p m nd ∧ r.length < 256 := by
  rcases h.1 with (h3 | ⟨x, r, nd, h3, h4, h5, h6⟩) | ⟨h3, _⟩
  · injection h3 with h3 _; omega
  · simp only [] at h3
    exact ⟨x, r, nd, h3, h4.1, h6⟩
  · omega
theorem trail_tot {p : Pr} (hp : rgtP p = true) : ∀ (k : Nat) {s : Fb}, VF p s → ∃ L, trailP p k s = some L ∧ L.length ≤ k
  | 0, s, h => ⟨[], rfl, by simp⟩
  | k + 1, s, h => by
    rw [trailP]
    by_cases h1 : s.st = 1
    · rw [if_pos h1]
      obtain ⟨m, r, nd, hs, _⟩ := vf_one h h1
      obtain ⟨e, o, h2, h3⟩ := step_tot hp h
      obtain ⟨L, h4, h5⟩ := trail_tot hp k h3
      rw [hs]
      simp only [h2, h4]
      exact ⟨_, rfl, by simp; omega⟩
    · rw [if_neg h1]
      exact ⟨[], rfl, by simp⟩
theorem trail_step {p : Pr} (hp : rgtP p = true) {k : Nat} {s : Fb} {L : List (Int × Int)} (h : VF p s) (h1 : s.st = 1) (ht : trailP p (k + 1) s = some L) : ∃ m r o L', s.l = m :: r ∧ stepP p s = some (0, o) ∧ VF p o ∧ trailP p k o = some L' ∧ L = (m.fn, m.nd) :: L' := by
  obtain ⟨m, r, nd, hs, _⟩ := vf_one h h1
  obtain ⟨e, o, h2, h3⟩ := step_tot hp h
  rw [trailP, if_pos h1, hs] at ht
  simp only [h2] at ht
  obtain ⟨L', h4, h5⟩ := Option.map_eq_some_iff.1 ht
  have he : e = 0 := by
    unfold stepP at h2
    rw [if_neg (by omega)] at h2
    split at h2
    · cases h2
    · split at h2
      · cases h2
      · split at h2
        · obtain ⟨q, _, e1⟩ := Option.map_eq_some_iff.1 h2
          cases e1; rfl
        · split at h2
          · cases h2
          · cases h2; rfl
          · obtain ⟨q, _, e1⟩ := Option.map_eq_some_iff.1 h2
            cases e1; rfl
  subst he
  exact ⟨m, r, o, L', hs, h2, h3, h4, h5.symm⟩
theorem trail_stop {p : Pr} {k : Nat} {s : Fb} {L : List (Int × Int)} (h1 : k = 0 ∨ s.st ≠ 1) (ht : trailP p k s = some L) : L = [] := by
  cases k with
  | zero => cases ht; rfl
  | succ k =>
    rw [trailP, if_neg (by omega)] at ht
    cases ht; rfl
end Go.Proofs.YtpppkednpamhbaaGreat
namespace Go.Proofs.YtpppkednpamhbaaGreat.R
open Go.Sx
set_option maxHeartbeats 16000000
set_option maxRecDepth 20000
theorem rtrail_ok (ps : Value) (p : Pr) (hpR : rgtP p = true) (s : Fb) (most : Int) (L : List (Int × Int)) (v0 : Value) (G : Hp) (hp : rF.S G p ps) (h0 : rfO G ps s.st s.val s.l v0) (hVF : VF p s) (hval : RVal s) (hm : most ≤ 100) (ho : trailP p most.toNat s = some L) :
    Pure Tryz.prog 18 [v0, .int .i64 most] G (fun w G' => rP.S G' L w) := by
  obtain ⟨lsl, vl, rfl, hL, hvl, hts⟩ := h0
  obtain ⟨vA, vC, rfl⟩ := VT.rep_slice hvl
  obtain ⟨pA, pC, rfl⟩ := Rp.S_slice hp
  obtain ⟨aL, cL, rfl⟩ := Rp.S_slice hL.1
  obtain ⟨_, hT, hLl⟩ := trail_tot hpR most.toNat hVF
  rw [ho] at hT
  cases hT
  refine enterX ty tyok Tryz.func18 rfl Tryz.ntmps18 [.a [.v (.slice pA p.length pC), .v (.slice aL s.l.reverse.length cL), .v (.int .i64 s.st), .v (.int .i64 s.val.k), .v (.int .i64 s.val.n), .v (.slice vA s.val.l.length vC)], .v (.int .i64 most)] (by simp) ?_
  intro C hP hQ hnt hty hmb hmh hro; have hQp := qp_body hQ; refine st_ ?_
  refine rn_ ?_; intros
  rename_i b1
  refine go_nilrow 30 60 2 rfl (by rw [hmh]; omega) ?_
  refine go_keep [1, 2, 4, 5] [0, 30] ?_
  refine st_ ?_
  refine x_loop (n := most.toNat) rfl (fun q s' => ∃ (i : Nat) (s1 : Fb) (lsl vl : Value) (G1 : Hp) (L0 L1 : List (Int × Int)) (ad3 : Option Addr) (cap3 : Nat) (xs : List Value), L = L0 ++ L1 ∧ L0.length = i ∧ q = most.toNat - i ∧ i ≤ most.toNat ∧ Le G G1 ∧ VF p s1 ∧ RVal s1 ∧ trailP p (most.toNat - i) s1 = some L1 ∧ fmS G1 s1.l lsl ∧ s1.val.rep G1 vl ∧ tsz s1.val ≤ 1000 ∧ rP.L G1 L0 xs ∧
    s' = ⟨[(1, .v (.int .i64 most)), (2, .p 0 b1 0), (4, .v (.slice none 0 0)), (5, .v (.slice ad3 i cap3))], [(0, b1, .c 44 [.v (.slice pA p.length pC), .v lsl, .v (.int .i64 s1.st), .v (.int .i64 s1.val.k), .v (.int .i64 s1.val.n), .v vl]), (30, 0, .row (.slice ad3 i cap3) 60 2 i xs)], G1, []⟩) ⟨0, s, _, _, G, [], L, none, 0, [], rfl, rfl, rfl, by omega, Le.refl _, hVF, hval, ho, hL, hvl, hts, rfl, rfl⟩ ?_
  clear hVF hval ho hL hvl hts
  rintro q s' ⟨i, s1, lsl, vl, G1, L0, L1, ad3, cap3, xs, hLL, hL0, hq, hi, hle1, hVF, hval, ho, hL, hvl, hts, hxs, rfl⟩ ih
  obtain ⟨vA, vC, rfl⟩ := VT.rep_slice hvl
  obtain ⟨aL, cL, rfl⟩ := Rp.S_slice hL.1
  have hp1 := Rp.S_mono hle1 hp
  refine rn_ ?_; intros
  refine go_gsplit rfl rfl (fun h1 => ?_) (fun h1 => ?_) <;> (refine st_ ?_; (refine rn_ ?_; intros))
  · have hlt : (i : Int) < most := by simpa using h1
    obtain ⟨j, hj⟩ : ∃ j, most.toNat - i = j + 1 := ⟨most.toNat - i - 1, by omega⟩
    rw [hj] at ho
    refine x_split rfl rfl rfl (fun h2 => ?_) (fun h2 => ?_) <;> (refine st_ ?_; (refine ru_ ?_; intros))
    · have h2 : s1.st = 1 := by simpa using h2
      obtain ⟨m, r, o, L', hsl, hst, hVF2, ht2, rfl⟩ := trail_step hpR hVF h2 ho
      have hval2 := (step_val hval hst).1
      have hq9 : atQ s1 = (m.fn, m.nd, true) := by unfold atQ; rw [hsl]
      have hm64 : isI64 m.fn ∧ isI64 m.nd := by
        have := hL.1
        rw [hsl] at this
        obtain ⟨_, _, _, _, _, _, _, _, _, _, _, g1, g2⟩ := rFm_last this
        exact ⟨g1, g2⟩
      refine rn_ ?_; intros
      have hat := rat_ok _ p s1 _ G1 hp1 ⟨_, _, rfl, hL, hvl, hts⟩ hVF
      rw [hq9] at hat
      refine go_callf (by rw [hnt]; rfl) (by rw [hP]; kernel_rfl) rfl (hP ▸ hat) ?_; refine rn_ ?_; intros
      refine go_append 30 (by rw [hnt]; rfl) (by rw [hty]; rfl) (by rw [hty]; rfl) (by decide) rfl rfl rfl (by rw [hmh]; omega) rfl (src_own 2 rfl rfl) rfl (by simp [dens, SV.den, Value.oneCell']) (by omega) (by simp only []; omega) ?_
      intro v'
      refine go_rowS 30 rfl ?_
      rintro ad4 cap4 rfl
      refine rn_ ?_; intros
      refine go_call (by rw [hnt]; rfl) (by rw [hP]; kernel_rfl) rfl (hP ▸ rstep_ok _ p hpR s1 0 o _ G1 hp1 ⟨_, _, rfl, hL, hvl, hts⟩ hVF hval hst) ?_
      rintro _ G2 (hle2 : Le G1 G2) ⟨lsl3, vl3, rfl, hL3, hv3, ht3⟩
      obtain ⟨a5', c5', rfl⟩ := Rp.S_slice hL3.1
      obtain ⟨a6', c6', rfl⟩ := VT.rep_slice hv3
      simp only [fibV]
      refine rn_ ?_; intros
      refine go_keep [1, 2, 4, 5] [0, 30] ?_
      refine st_ ?_
      exact ih (most.toNat - (i + 1)) _ (by omega) ⟨i + 1, o, _, _, G2, L0 ++ [(m.fn, m.nd)], L', ad4, cap4, _, by rw [hLL]; simp, by simp [hL0], rfl, by omega, hle1.trans hle2, hVF2, hval2, by rw [show most.toNat - (i + 1) = j by omega]; exact ht2, hL3, hv3, ht3, Rp.L_append (Rp.L_mono hle2 hxs) (Rp.L_single ⟨rfl, hm64.1, hm64.2⟩), rfl⟩
    · have h2 : s1.st ≠ 1 := by simpa using h2
      have hL1 := trail_stop (.inr h2) ho
      subst hL1
      rw [List.append_nil] at hLL
      subst hLL
      refine go_pubL rP 30 rfl (by rw [hmh]; omega) (ts := L) (by omega) (by omega) hxs ?_
      intro G5 ad8 cap8 (hle5 : Le G1 G5) e8 hS8
      injection e8 with q1 q2 q3
      subst q1 q3
      refine rn_ ?_; intros
      refine xc_ hQ hmb ?_; simp only [SV.den, resV, dens]
      subst hL0
      exact hS8
  · have hge : ¬ (i : Int) < most := by simpa using h1
    have hL1 := trail_stop (.inl (by omega)) ho
    subst hL1
    rw [List.append_nil] at hLL
    subst hLL
    refine go_pubL rP 30 rfl (by rw [hmh]; omega) (ts := L) (by omega) (by omega) hxs ?_
    intro G5 ad8 cap8 (hle5 : Le G1 G5) e8 hS8
    injection e8 with q1 q2 q3
    subst q1 q3
    refine rn_ ?_; intros
    refine xc_ hQ hmb ?_; simp only [SV.den, resV, dens]
    subst hL0
    exact hS8
end Go.Proofs.YtpppkednpamhbaaGreat.R
namespace Go.Proofs.YtpppkednpamhbaaGreat
set_option linter.unusedSimpArgs false
set_option linter.unusedVariables false
open Go.Sx
set_option maxHeartbeats 16000000
set_option maxRecDepth 20000
theorem trail1_ok (p : Pr) (hpR : rgtP p = true) (ps : Value) (b cb b1 b2 : Nat) (s : Fb) (most : Int) (L : List (Int × Int)) (G : Hp) (h1 : At G b1 0 [.pointer (some ⟨b, 0, none⟩)]) (h2 : At G b2 0 [.int .i64 most]) (hc : At G cb 0 [ps]) (hp : rF.S G p ps) (hz : fzG G b cb s) (hVF : VF p s) (hm : most ≤ 100) (hL : trailP p most.toNat s = some L) :
    Iter Tryz.prog 49 [.pointer (some ⟨b1, 0, none⟩), .pointer (some ⟨b2, 0, none⟩)] G (encII L) L.length := by
  obtain ⟨_, hT, hLl⟩ := trail_tot hpR most.toNat hVF
  rw [hL] at hT
  cases hT
  intro lp A B hy
  refine enterZ ty tyok Tryz.func49 rfl Tryz.ntmps49 [.v (.func (.yield lp) #[] #[]), .v (.pointer (some ⟨b1, 0, none⟩)), .v (.pointer (some ⟨b2, 0, none⟩))] (by simp) ?_
  intro C Z M hP hQ hnt hty hmb hmh hro hG0; have hQp := qp_body hQ; refine st_ ?_
  have hy' : YOk C.P lp A B (encII L) L.length := by rw [hP]; exact hy
  refine rn_ ?_; intros
  refine go_q (by rw [hnt]; rfl) (quiet_load (by rw [hty]; rfl) rfl (by simp [TK.agg]) h1 rfl) ?_; refine rn_ ?_; intros
  refine go_nilrow 20 42 3 rfl (by rw [hmh]; omega) ?_
  refine go_nilrow 21 42 3 rfl (by rw [hmh]; omega) ?_
  refine go_nilrow 22 42 3 rfl (by rw [hmh]; omega) ?_
  refine go_nilrow 23 42 3 rfl (by rw [hmh]; omega) ?_
  refine st_ ?_
  refine go_callT [20, 21, 22, 23] (by rw [hnt]; rfl) (by rw [hP]; kernel_rfl) rfl rfl rfl (by rw [hmh]; simp) (by rw [hP]; exact copyG_ok b cb s G hz) ?_
  rintro v6 G6 ow6 (hle6 : Le G G6) ⟨bf, rfl, vl6, fs6, c1, c2, c3, rs6, Z6, w1, w2, w3, w4, w5, rfl⟩
  simp only [setO, stk, fhO, frO, fzO, fdO]
  refine rn_ ?_; intros
  refine go_keep [0, 1, 2, 4, 5] [0, 20, 21, 22, 23] ?_
  refine st_ ?_
  refine x_loop (n := most.toNat) rfl (fun q s' => ∃ (k : Nat) (s1 : Fb) (G' : Hp) (Z' M' : Nat → Prop) (vl fs : Value) (f1 f2 f3 : Nat) (rs : List Fw) (Z1 : Nat → Prop) (L1 : List (Int × Int)), k ≤ most.toNat ∧ q = most.toNat - k ∧ Le G G' ∧ VF p s1 ∧ L.drop k = L1 ∧ k ≤ L.length ∧ trailP p (most.toNat - k) s1 = some L1 ∧ s1.val.rep G' vl ∧ tsz s1.val ≤ 1000 ∧ fsOk G' s1.l rs ∧ s1.l.length ≤ 256 ∧ (∀ m x, s1.l.head? = some m → rs.head? = some x → rW.S G' m.done x.done.v) ∧
    s' = ⟨[(0, .v (.func (.yield lp) #[] #[])), (1, .v (.pointer (some ⟨b1, 0, none⟩))), (2, .v (.pointer (some ⟨b2, 0, none⟩))), (4, .v (.pointer (some ⟨bf, 0, none⟩))), (5, .v (.int .i64 k))],
      [(0, 0, .z (lim (A k) Z C.w0.heap.size) Z' M'), (20, bf, .c 93 [.v (.pointer (some ⟨cb, 0, none⟩)), .v (.int .i64 s1.st), .v (.int .i64 s1.val.k), .v (.int .i64 s1.val.n), .v vl, .v fs]), (21, f1, .row fs 90 4 rs.length (encF rs)), (22, f2, .z (ZR ((rs.drop 1).map (·.done))) Z1 Z1), (23, f3, .row rw0.v rw0.e rw0.size rw0.n rw0.xs)], G', []⟩)
    ⟨0, s, G6, _, _, vl6, fs6, c1, c2, c3, rs6, Z6, L, by omega, rfl, hle6, hVF, rfl, by omega, hL, w1, w2, w3, w4, w5, rfl⟩ ?_
  clear w1 w2 w3 w4 w5 hVF hL
  rintro q s' ⟨k, s1, G1, Z', M', vl, fs, f1, f2, f3, rs, Z1, L1, hk, hq, hle, hVF, hLd, hkL, hL, v1, v2, v3, v4, v5, rfl⟩ ih
  obtain ⟨a6, c6, rfl⟩ := VT.rep_slice v1
  refine rn_ ?_; intros
  refine go_q (by rw [hnt]; rfl) (quiet_load (by rw [hty]; rfl) rfl (by simp [TK.agg]) (h2.mono hle) rfl) ?_; refine rn_ ?_; intros
  have hc1 := hc.mono hle
  have hp1 := Rp.S_mono hle hp
  refine go_gsplit rfl rfl (fun hg1 => ?_) (fun hg1 => ?_) <;> (refine st_ ?_; (refine rn_ ?_; intros))
  · have hlt : (k : Int) < most := by simpa using hg1
    obtain ⟨j, hj⟩ : ∃ j, most.toNat - k = j + 1 := ⟨most.toNat - k - 1, by omega⟩
    refine go_callW [20] (by rw [hnt]; rfl) (by rw [hP]; kernel_rfl) rfl rfl rfl (.inl (by rw [hmh]; simp)) (by rw [hP]; exact state_ok bf cb s1.st s1.val.k s1.val.n _ fs G1) ?_
    rintro _ G2 ow2 (hle2 : Le G1 G2) ⟨rfl, rfl⟩
    simp only [setO, stk, fhO]
    refine rn_ ?_; intros
    refine x_split rfl rfl rfl (fun hs1 => ?_) (fun hs1 => ?_) <;> (refine st_ ?_; (refine ru_ ?_; intros))
    · have h1' : s1.st = 1 := by simpa using hs1
      rw [hj] at hL
      obtain ⟨m, r, o, L', hsl, hst, hVF2, ht2, rfl⟩ := trail_step hpR hVF h1' hL
      obtain ⟨nd, hvx, hr⟩ := vf_top hVF hsl
      have hkl : k < L.length := by
        have := congrArg List.length hLd
        simp at this
        omega
      have hget : L[k]? = some (m.fn, m.nd) := by
        have : (L.drop k)[0]? = some (m.fn, m.nd) := by rw [hLd]; rfl
        simpa using this
      have hLd2 : L.drop (k + 1) = L' := by
        rw [← List.drop_drop, hLd]; rfl
      refine rn_ ?_; intros
      refine go_callW [20, 21] (by rw [hnt]; rfl) (by rw [hP]; kernel_rfl) rfl rfl rfl (.inl (by rw [hmh]; simp)) (by rw [hP]; exact at_ok bf cb f1 s1.st s1.val.k s1.val.n _ fs ps p m r rs nd G2 (hc1.mono hle2) (Rp.S_mono hle2 hp1) (by rw [← hsl]; exact v3.mono hle2) hvx.1.nd (by omega)) ?_
      rintro _ G3 ow3 (hle3 : Le G2 G3) ⟨rfl, rfl⟩
      have hle13 := hle2.trans hle3
      simp only [setO, stk, fhO, frO]
      refine rn_ ?_; intros
      refine go_callT [20, 21, 22, 23] (by rw [hnt]; rfl) (by rw [hP]; kernel_rfl) rfl rfl rfl (by rw [hmh]; simp) (by rw [hP]; exact step_ok bf cb p ps s1 o 0 _ G3 (hc1.mono hle13) (Rp.S_mono hle13 hp1) ⟨_, fs, f1, f2, f3, rs, Z1, VT.rep_mono hle13 v1, v2, v3.mono hle13, v4, fun m x q1 q2 => Rp.S_mono hle13 (v5 m x q1 q2), rfl⟩ hst) ?_
      rintro _ G4 ow4 (hle4 : Le G3 G4) ⟨rfl, vl7, fs7, d1, d2, d3, rs7, Z7, y1, y2, y3, y4, y5, rfl⟩
      have hle14 := hle13.trans hle4
      simp only [setO, stk, fhO, frO, fzO, fdO]
      refine rn_ ?_; intros
      (refine go_gsplit rfl rfl (fun hc => absurd hc (by first | decide +kernel | (simp; first | done | fail))) (fun _ => ?_); refine st_ ?_; (refine rn_ ?_; intros))
      refine go_yield 0 hy' (by rw [hnt]; rfl) rfl rfl rfl rfl hkl ⟨_, hget, rfl⟩ (fun Z2 M2 => ?_) (fun Z2 M2 => ?_)
      · refine rn_ ?_; intros
        rw [wr (n := (k : Int) + 1) (by omega) (by omega)]
        refine go_keep [0, 1, 2, 4, 5] [0, 20, 21, 22, 23] ?_
        refine st_ ?_
        exact ih (most.toNat - (k + 1)) _ (by omega) ⟨k + 1, o, G4, Z2, M2, vl7, fs7, d1, d2, d3, rs7, Z7, L', by omega, rfl, hle.trans hle14, hVF2, hLd2, by omega, by rw [show most.toNat - (k + 1) = j by omega]; exact ht2, y1, y2, y3, y4, y5, rfl⟩
      · refine rn_ ?_; intros
        refine x_retZ rfl hQ hmb hmh hG0 rfl (by rw [hty]; simp only [so, sq, zy, zz, tyE, SO', SQ', opQ, opStore, opAlloc, ev, putS, dOk, cv, SV.cs, SV.one, SV.bool?, eqB, Value.oneCell', ldOwn, binInt, binConst, binBool, binStr, isC, TK.agg, rv, rv1, ldV, resOne, resV, Nat.reduceAdd, Nat.reduceMul, Nat.reduceSub, Nat.reduceLT, Nat.reduceLeDiff, Nat.reduceEqDiff, Nat.reduceBEq, reduceIte, reduceCtorEq, eq_self]; try rfl) rfl rfl ?_
        exact .inr rfl
    · have h1' : s1.st ≠ 1 := by simpa using hs1
      have hL1 := trail_stop (.inr h1') hL
      subst hL1
      have hkl : k = L.length := by
        have := congrArg List.length hLd
        simp at this
        omega
      subst hkl
      refine rn_ ?_; intros
      refine go_endZ hQ hmb hmh hG0 rfl (by rw [hty]; simp only [so, sq, zy, zz, tyE, SO', SQ', opQ, opStore, opAlloc, ev, putS, dOk, cv, SV.cs, SV.one, SV.bool?, eqB, Value.oneCell', ldOwn, binInt, binConst, binBool, binStr, isC, TK.agg, rv, rv1, ldV, resOne, resV, Nat.reduceAdd, Nat.reduceMul, Nat.reduceSub, Nat.reduceLT, Nat.reduceLeDiff, Nat.reduceEqDiff, Nat.reduceBEq, reduceIte, reduceCtorEq, eq_self]; try rfl) rfl rfl ?_
      exact .inl rfl
  · have hge : ¬ (k : Int) < most := by simpa using hg1
    have hL1 := trail_stop (.inl (by omega)) hL
    subst hL1
    have hkl : k = L.length := by
      have := congrArg List.length hLd
      simp at this
      omega
    subst hkl
    refine rn_ ?_; intros
    refine go_endZ hQ hmb hmh hG0 rfl (by rw [hty]; simp only [so, sq, zy, zz, tyE, SO', SQ', opQ, opStore, opAlloc, ev, putS, dOk, cv, SV.cs, SV.one, SV.bool?, eqB, Value.oneCell', ldOwn, binInt, binConst, binBool, binStr, isC, TK.agg, rv, rv1, ldV, resOne, resV, Nat.reduceAdd, Nat.reduceMul, Nat.reduceSub, Nat.reduceLT, Nat.reduceLeDiff, Nat.reduceEqDiff, Nat.reduceBEq, reduceIte, reduceCtorEq, eq_self]; try rfl) rfl rfl ?_
    exact .inl rfl
theorem row_S {G : Hp} {l : List VT} {r : Rw} (h : rwOk G l r) (ha : RowAt G r) : rW.S G l r.v := by
  obtain ⟨d1, d2, d3, d4, d5, ad, cap, d6, d7⟩ := h
  have h63 : l.length ≤ 9223372036854775807 := by omega
  rcases ha with ⟨h1, h2, h3⟩ | ⟨g, c, h1, h2⟩
  · have hl : l = [] := List.eq_nil_of_length_eq_zero (by omega)
    subst hl
    exact ⟨h63, ad, cap, d6, .inl rfl⟩
  · rw [d3] at h1
    exact ⟨h63, _, c, h1, .inr ⟨g, 0, r.xs, rfl, h2, d4⟩⟩
theorem fsD_rest {G : Hp} : ∀ {l : List Fm} {rs : List Fw}, fsOk G l rs → (∀ (i : Nat) (r : Rw), (rs.map (·.done))[i]? = some r → RowAt G r) → fsD G l rs
  | [], rs, h, _ => h
  | m :: l, rs, h, ha => by
    obtain ⟨x, r, rfl, h1, h2⟩ := h
    exact ⟨x, r, rfl, row_S h1.done (ha 0 _ rfl), fsD_rest h2 fun i r' e => ha (i + 1) r' (by simpa using e)⟩
theorem fsD_of {G : Hp} {l : List Fm} {rs : List Fw} (h : fsOk G l rs) (ht : ∀ m x, l.head? = some m → rs.head? = some x → rW.S G m.done x.done.v) (ha : ∀ (i : Nat) (r : Rw), ((rs.drop 1).map (·.done))[i]? = some r → RowAt G r) : fsD G l rs := by
  cases l with
  | nil => exact h
  | cons m l =>
    obtain ⟨x, r, rfl, h1, h2⟩ := h
    exact ⟨x, r, rfl, ht m x rfl rfl, fsD_rest h2 (by simpa using ha)⟩
theorem trail_ok (b cb : Nat) (p : Pr) (hpR : rgtP p = true) (ps : Value) (s : Fb) (most : Int) (L : List (Int × Int)) (ow : Lds) (G : Hp) (hc : At G cb 0 [ps]) (hp : rF.S G p ps) (hVF : VF p s) (hfb : fbO G b cb s ow) (hm : most ≤ 100) (hL : trailP p most.toNat s = some L) :
    PureT Tryz.prog 19 [.pointer (some ⟨b, 0, none⟩), .int .i64 most] G ow (fun v G' ow' => fbO G' b cb s ow' ∧ ∃ fn cap, v = .func (.func fn) #[] cap.toArray ∧ canCall Tryz.prog fn = true ∧ Iter Tryz.prog fn cap G' (encII L) L.length) := by
  obtain ⟨vl, fs, b1, b2, b3, rs, Z, hvl, htv, hfs, hl256, hdn, rfl⟩ := hfb
  refine enterT ty tyok Tryz.func19 rfl Tryz.ntmps19 [.p 0 b 0, .v (.int .i64 most)] (by simp) (by simp) (plainL (by simp only [enumO]; exact (by repeat (first | exact plain_nil | refine plain_cons (fun _ h => h) ?_)))) ?_
  intro C w0 hP hQ hnt hty hmb hmh hro hG0 hb0; have hQp := qp_body hQ; refine st_ ?_
  generalize hrest : restB w0 _ G = Zr
  simp only [enumO, fhO, frO, fzO, fdO, List.cons_append, List.nil_append]
  refine rn_ ?_; intros
  refine go_nilrow 20 42 3 rfl (by rw [hmh]; omega) ?_
  refine go_nilrow 21 42 3 rfl (by rw [hmh]; omega) ?_
  refine go_nilrow 22 42 3 rfl (by rw [hmh]; omega) ?_
  refine go_nilrow 23 42 3 rfl (by rw [hmh]; omega) ?_
  refine st_ ?_
  refine go_callT [0, 1, 2, 3, 20, 21, 22, 23] (by rw [hnt]; rfl) (by rw [hP]; kernel_rfl) rfl rfl rfl (by rw [hmh]; simp) (by rw [hP]; exact copyf_ok b cb s [fhO b cb s.st s.val.k s.val.n vl fs, frO b1 fs rs, fzO b2 (rs.drop 1) Z, fdO b3 rw0] G ⟨vl, fs, b1, b2, b3, rs, Z, hvl, htv, hfs, hl256, hdn, rfl⟩) ?_
  rintro v6 G6 ow6 (hle6 : Le G G6) ⟨b', o1, o2, rfl, rfl, ⟨vl6, fs6, c1, c2, c3, rs6, Z6, w1, w2, w3, w4, w5, rfl⟩, ⟨vl7, fs7, d1, d2, d3, rs7, Z7, y1, y2, y3, y4, y5, rfl⟩⟩
  simp only [setO, stk, fhO, frO, fzO, fdO, List.cons_append, List.nil_append]
  refine rn_ ?_; intros
  rename_i bm bs
  obtain ⟨a7, c7, rfl⟩ := VT.rep_slice y1
  refine go_zpub 22 rfl (by rw [hmh]; omega) ?_
  intro G7 (hle7 : Le G6 G7) hz7
  refine go_drop 23 ?_
  refine st_ ?_
  refine go_pub 1000 rfl (by rw [hmh]; omega) ?_
  intro G8 (hle8 : Le G7 G8) hG8
  have hat8 := at_block hG8
  simp only [dens, SV.den] at hat8
  refine st_ ?_
  refine go_pub 1001 rfl (by rw [hmh]; omega) ?_
  intro G9 (hle9 : Le G8 G9) hG9
  have hat9 := at_block hG9
  simp only [dens, SV.den] at hat9
  refine st_ ?_
  have fin : ∀ (G11 : Hp) (fs7' : Value), Le G9 G11 → (∃ ad cap, fs7' = .slice ad rs7.length cap ∧ (rs7 = [] ∨ ∃ g, ad = some ⟨g, 0, none⟩ ∧ At G11 g 0 (encF rs7))) → At G11 b' 0 [.pointer (some ⟨cb, 0, none⟩), .int .i64 s.st, .int .i64 s.val.k, .int .i64 s.val.n, .slice a7 s.val.l.length c7, fs7'] →
      Iter Tryz.prog 49 [.pointer (some ⟨bs, 0, none⟩), .pointer (some ⟨bm, 0, none⟩)] G11 (encII L) L.length := by
    rintro G11 _ hle11 ⟨adf, capf, rfl, hrs⟩ hatb
    have hleT := (hle7.trans hle8).trans (hle9.trans hle11)
    have hle611 := hle6.trans hleT
    exact trail1_ok p hpR ps b' cb bs bm s most L G11 (hat9.mono hle11) (hat8.mono (hle9.trans hle11)) (hc.mono hle611) (Rp.S_mono hle611 hp)
      ⟨_, adf, capf, rs7, hatb, VT.rep_mono hleT y1, y2, y3.mono hleT, fsD_of (y3.mono hleT) (fun m x q1 q2 => Rp.S_mono hleT (y5 m x q1 q2)) (fun i r e => (hz7 i r e).mono ((hle8.trans hle9).trans hle11)), y4, hrs⟩ hVF hm hL
  refine go_rowcases 21 rfl (fun hv h0 hxs => ?_) (fun g cap hv hcap hxl => ?_)
  · subst hv
    have hr0 := List.length_eq_zero_iff.1 h0
    refine go_drop 21 ?_
    refine st_ ?_
    refine go_pub 20 rfl (by rw [hmh]; omega) ?_
    intro G11 (hle11 : Le G9 G11) hG11
    have hat11 := at_block hG11
    simp only [dens, SV.den] at hat11
    refine st_ ?_
    have hleT := hle6.trans ((hle7.trans hle8).trans (hle9.trans hle11))
    refine x_retT rfl hQ hmh hb0 rfl (by first | (simp; done) | decide) rfl (by rw [hty]; simp only [so, sq, zy, zz, tyE, SO', SQ', opQ, opStore, opAlloc, ev, putS, dOk, cv, SV.cs, SV.one, SV.bool?, eqB, Value.oneCell', ldOwn, binInt, binConst, binBool, binStr, isC, TK.agg, rv, rv1, ldV, resOne, resV, Nat.reduceAdd, Nat.reduceMul, Nat.reduceSub, Nat.reduceLT, Nat.reduceLeDiff, Nat.reduceEqDiff, Nat.reduceBEq, reduceIte, reduceCtorEq, eq_self]; try rfl) rfl (by rw [hrest]; rfl) (by first | exact Le.refl _ | assumption) rfl (by simp only [enumO]; exact (by repeat (first | exact plain_nil | refine plain_cons (fun _ h => h) ?_))) ?_; simp only [SV.den, resV, dens]
    have hle611 := (hle7.trans hle8).trans (hle9.trans hle11)
    exact ⟨⟨vl6, fs6, c1, c2, c3, rs6, Z6, VT.rep_mono hle611 w1, w2, w3.mono hle611, w4, fun m x q1 q2 => Rp.S_mono hle611 (w5 m x q1 q2), rfl⟩, _, [.pointer (some ⟨bs, 0, none⟩), .pointer (some ⟨bm, 0, none⟩)], by simp [dens, SV.den], by kernel_rfl, fin G11 _ hle11 ⟨none, 0, by rw [h0], .inl hr0⟩ hat11⟩
  · subst hv
    refine go_pubrow 21 rfl (by rw [hmh]; omega) ?_
    intro G10 (hle10 : Le G9 G10) hat10
    refine st_ ?_
    refine go_pub 20 rfl (by rw [hmh]; omega) ?_
    intro G11 (hle11 : Le G10 G11) hG11
    have hat11 := at_block hG11
    simp only [dens, SV.den] at hat11
    refine st_ ?_
    have hleT := hle6.trans ((hle7.trans hle8).trans (hle9.trans (hle10.trans hle11)))
    refine x_retT rfl hQ hmh hb0 rfl (by first | (simp; done) | decide) rfl (by rw [hty]; simp only [so, sq, zy, zz, tyE, SO', SQ', opQ, opStore, opAlloc, ev, putS, dOk, cv, SV.cs, SV.one, SV.bool?, eqB, Value.oneCell', ldOwn, binInt, binConst, binBool, binStr, isC, TK.agg, rv, rv1, ldV, resOne, resV, Nat.reduceAdd, Nat.reduceMul, Nat.reduceSub, Nat.reduceLT, Nat.reduceLeDiff, Nat.reduceEqDiff, Nat.reduceBEq, reduceIte, reduceCtorEq, eq_self]; try rfl) rfl (by rw [hrest]; rfl) (by first | exact Le.refl _ | assumption) rfl (by simp only [enumO]; exact (by repeat (first | exact plain_nil | refine plain_cons (fun _ h => h) ?_))) ?_; simp only [SV.den, resV, dens]
    have hle611 := (hle7.trans hle8).trans (hle9.trans (hle10.trans hle11))
    exact ⟨⟨vl6, fs6, c1, c2, c3, rs6, Z6, VT.rep_mono hle611 w1, w2, w3.mono hle611, w4, fun m x q1 q2 => Rp.S_mono hle611 (w5 m x q1 q2), rfl⟩, _, [.pointer (some ⟨bs, 0, none⟩), .pointer (some ⟨bm, 0, none⟩)], by simp [dens, SV.den], by kernel_rfl, fin G11 _ (hle10.trans hle11) ⟨_, cap, rfl, .inr ⟨g, rfl, hat10.mono hle11⟩⟩ hat11⟩
end Go.Proofs.YtpppkednpamhbaaGreat
namespace Go.Proofs.YtpppkednpamhbaaGreat.R
set_option linter.unusedSimpArgs false
set_option linter.unusedVariables false
open Go.Sx
set_option maxHeartbeats 16000000
set_option maxRecDepth 20000
def begQ (p : Pr) (f : Int) (args : List VT) : Int := if f < 0 ∨ (p.length : Int) ≤ f then 4 else if (args.length : Int) ≠ (fu p f.toNat).params then 2 else if args.all vld then 0 else 2
def zeroF : Value := .agg #[.slice none 0 0, .slice none 0 0, .int .i64 0, .int .i64 0, .int .i64 0, .slice none 0 0]
theorem rbegin_ok (p : Pr) (ps : Value) (f : Int) (args : List VT) (sl : Value) (G : Hp) (hp : rF.S G p ps) (hpR : rgtP p = true) (hS : rW.S G args sl) (hal : args.length ≤ 100) :
    Pure Tryz.prog 13 [.agg #[ps], .int .i64 f, sl] G (fun w G' => (begQ p f args ≠ 0 ∧ w = .tuple #[zeroF, .int .i64 (begQ p f args)]) ∨ (begQ p f args = 0 ∧ ∃ o, downF p 600 [⟨f, 0, args, []⟩] = some o ∧ VO p o ∧ rfT G' ps ⟨o.1, vt0, o.2⟩ 0 w)) := by
  have hp0 := hp
  have hp63 := Rp.S_len hp
  obtain ⟨pA, pC, rfl⟩ := Rp.S_slice hp
  obtain ⟨aS, cS, rfl⟩ := Rp.S_slice hS
  refine enterX ty tyok Tryz.func13 rfl Tryz.ntmps13 [.a [.v (.slice pA p.length pC)], .v (.int .i64 f), .v (.slice aS args.length cS)] (by simp) ?_
  intro C hP hQ hnt hty hmb hmh hro; have hQp := qp_body hQ; refine st_ ?_
  refine rn_ ?_; intros
  rename_i b1 b2
  have hz : ∀ e : Int, e ≠ 0 → begQ p f args = e → (begQ p f args ≠ 0 ∧ Value.tuple #[zeroF, .int .i64 e] = .tuple #[zeroF, .int .i64 (begQ p f args)]) := fun e h1 h2 => ⟨by rw [h2]; exact h1, by rw [h2]⟩
  refine go_gsplit rfl rfl (fun h1 => ?_) (fun h1 => ?_) <;> (refine st_ ?_; (refine rn_ ?_; intros))
  · have h1 : f < 0 := by simpa using h1
    refine rn_ ?_; intros
    refine xc_ hQ hmb ?_; simp only [SV.den, resV, dens]
    exact .inl (hz 4 (by decide) (by rw [begQ, if_pos (.inl h1)]))
  have hf0 : ¬ f < 0 := by simpa using h1
  refine x_split rfl rfl rfl (fun h2 => ?_) (fun h2 => ?_) <;> (refine st_ ?_; (refine ru_ ?_; intros))
  · have h2 : (p.length : Int) ≤ f := by simpa using h2
    refine rn_ ?_; intros
    refine xc_ hQ hmb ?_; simp only [SV.den, resV, dens]
    exact .inl (hz 4 (by decide) (by rw [begQ, if_pos (.inr h2)]))
  have hf1 : ¬ (p.length : Int) ≤ f := by simpa using h2
  have hb1 : ¬ (f < 0 ∨ (p.length : Int) ≤ f) := by omega
  obtain ⟨bF, oF, ns, rfl, hat, hp64, _⟩ := rF_at hp0 (i := f.toNat) (by omega)
  have hat0 : At G bF (oF + f.toNat * 2) [.int .i64 (fu p f.toNat).params] := by simpa using hat.sub 0 1 (by simp)
  refine rn_ ?_; intros
  refine go_q (v := .pointer (some ⟨bF, oF + f.toNat * 2, none⟩)) (by rw [hnt]; rfl) ((quiet_index (by rw [hty]; rfl) (by rw [hty]; rfl) rfl rfl rfl (by omega) (by omega)).cast (by rfl)) ?_
  refine rn_ ?_; intros
  refine go_q (by rw [hnt]; rfl) (quiet_load (by rw [hty]; rfl) rfl (by simp [TK.agg]) hat0 rfl) ?_; refine rn_ ?_; intros
  refine x_split rfl rfl rfl (fun h3 => ?_) (fun h3 => ?_) <;> (refine st_ ?_; (refine ru_ ?_; intros))
  · have h3 : (args.length : Int) ≠ (fu p f.toNat).params := by simpa using h3
    refine rn_ ?_; intros
    refine xc_ hQ hmb ?_; simp only [SV.den, resV, dens]
    exact .inl (hz 2 (by decide) (by rw [begQ, if_neg hb1, if_pos h3]))
  have h3 : ¬ (args.length : Int) ≠ (fu p f.toNat).params := by simpa using h3
  refine rn_ ?_; intros
  refine go_keep [1, 2, 3, 6, 7, 8] [0, 1] ?_
  refine st_ ?_
  refine x_loop rfl (fun q s' => ∃ (i : Nat) (G1 : Hp), i ≤ args.length ∧ q = args.length - i ∧ Le G G1 ∧ (∀ v ∈ args.take i, vld v = true) ∧
    s' = ⟨[(1, .v (.int .i64 f)), (2, .v (.slice aS args.length cS)), (3, .p 0 b1 0), (6, .p 1 b2 0), (7, .v (.int .i64 0)), (8, .v (.int .i64 i))], [(0, b1, .c 24 [.v (.slice (some ⟨bF, oF, none⟩) p.length pC)]), (1, b2, .c 44 [.v (.slice none 0 0), .v (.slice none 0 0), .v (.int .i64 0), .v (.int .i64 0), .v (.int .i64 0), .v (.slice none 0 0)])], G1, []⟩) ⟨0, G, by omega, rfl, Le.refl _, by simp, rfl⟩ ?_
  rintro q s' ⟨i, G1, hi, hq, hle1, hall, rfl⟩ ih
  refine rn_ ?_; intros
  refine x_if rfl rfl rfl rfl (fun hil => ?_) (fun hil => ?_)
  · have hlt : i < args.length := by simp at hil; omega
    obtain ⟨bV, oV, sv, rfl, hatV, hrV, htV⟩ := rW_at (Rp.S_mono hle1 hS) hlt
    obtain ⟨a9, c9, rfl⟩ := VT.rep_slice hrV
    refine rn_ ?_; intros
    refine go_q (v := .pointer (some ⟨bV, oV + i * 3, none⟩)) (by rw [hnt]; rfl) ((quiet_index (by rw [hty]; rfl) (by rw [hty]; rfl) rfl rfl rfl (by omega) (by omega)).cast (by simp)) ?_
    refine rn_ ?_; intros
    refine go_q (v := .agg #[.int .i64 args[i].k, .int .i64 args[i].n, .slice a9 args[i].l.length c9]) (by rw [hnt]; rfl) ((quiet_load (by rw [hty]; rfl) rfl (by simp [TK.agg]) hatV rfl).cast (by rfl)) ?_
    refine rn_ ?_; intros
    refine go_callf (by rw [hnt]; rfl) (by rw [hP]; kernel_rfl) rfl (hP ▸ refright_ok args[i] _ G1 hrV (by omega)) ?_; refine rn_ ?_; intros
    refine x_split rfl rfl rfl (fun h4 => ?_) (fun h4 => ?_) <;> (refine st_ ?_; (refine ru_ ?_; intros))
    · have h4 : ¬ vld args[i] = true := by simpa using h4
      refine rn_ ?_; intros
      refine xc_ hQ hmb ?_; simp only [SV.den, resV, dens]
      refine .inl (hz 2 (by decide) ?_)
      rw [begQ, if_neg hb1, if_neg h3, if_neg]
      intro hc
      exact h4 (List.all_eq_true.1 hc _ (List.getElem_mem _))
    · refine rn_ ?_; intros
      rw [wr (n := (i : Int) + 1) (by omega) (by omega)]
      refine go_keep [1, 2, 3, 6, 7, 8] [0, 1] ?_
      refine st_ ?_
      refine ih (args.length - (i + 1)) _ (by omega) ⟨i + 1, G1, by omega, rfl, hle1, fun v hv => ?_, rfl⟩
      rw [← List.take_append_getElem hlt] at hv
      rcases List.mem_append.1 hv with hv | hv
      · exact hall v hv
      · simp only [List.mem_cons, List.not_mem_nil, or_false] at hv
        subst hv
        simpa using h4
  have hie : i = args.length := by simp at hil; omega
  subst hie
  rw [List.take_length] at hall
  have hbq : begQ p f args = 0 := by
    rw [begQ, if_neg hb1, if_neg h3, if_pos]
    exact List.all_eq_true.2 hall
  obtain ⟨nd, hroot⟩ := PosOk.root hpR (show 0 ≤ f by omega) (show f < p.length by omega)
  have hVX : VX p ⟨f, 0, args, []⟩ nd := ⟨by
    have : (fu p f.toNat).params.toNat = args.length := by omega
    rw [this] at hroot
    exact hroot, by simp, hall, by simp⟩
  obtain ⟨o, hd, hVO⟩ := down_ok 600 ⟨f, 0, args, []⟩ [] nd hVX trivial (by simp) (by omega)
  have hS1 := Rp.S_mono hle1 hS
  obtain ⟨cs, hcs, hsrc⟩ := Rp.srcS hS1
  have hcl := Rp.L_len hcs
  simp only [rW] at hcl
  have hf64 : isI64 f := ⟨by omega, by omega⟩
  refine rn_ ?_; intros
  refine x_held [(0, b1, .c 24 [.v (.slice (some ⟨bF, oF, none⟩) p.length pC)])] rfl (by rw [hP]; kernel_rfl) rfl rfl rfl ?_; refine st_ ?_
  refine tq_ 0 rfl (quiet_op (by rw [hty]; first | rfl | (refine st_ ?_; rfl))) ?_; refine st_ ?_
  refine tq_ 1 rfl (quiet_op (by rw [hty]; first | rfl | (refine st_ ?_; rfl))) ?_; refine st_ ?_
  refine tq_ 3 rfl (quiet_op (by rw [hty]; first | rfl | (refine st_ ?_; rfl))) ?_; refine st_ ?_
  refine h_one 2 rfl (by kernel_rfl) ?_
  refine rn_ ?_; intros
  refine hs_ ?_
  refine h_one 4 rfl (by kernel_rfl) ?_
  refine go_torowN 2 (n := 0) (size := 3) rfl rfl (by omega) ?_
  refine go_append_any 2 (by rw [hnt]; rfl) (by rw [hty]; rfl) (by rw [hty]; rfl) (by decide) rfl rfl rfl (by rw [hmh]; omega) rfl (hsrc.imp id fun f => f _ _ rfl) (by simp only []; omega) (Rp.L_one hcs) (by omega) (by simp only []; omega) ?_
  intro v6
  refine go_rowS 2 rfl ?_
  rintro ad6 cap6 rfl
  refine go_pubL rW 2 rfl (by rw [hmh]; omega) (ts := args) (by simp) (by omega) (by simpa [dens] using hcs) ?_
  intro G5 ad8 cap8 (hle5 : Le G1 G5) e8 hS8
  injection e8 with q1 q2 q3
  subst q1 q3
  refine rn_ ?_; intros
  refine hs_ ?_
  refine tq_ 5 rfl (quiet_op (by rw [hty]; first | rfl | (refine st_ ?_; rfl))) ?_; refine st_ ?_
  refine h_one 6 rfl (by kernel_rfl) ?_
  refine rn_ ?_; intros
  refine hs_ ?_
  refine tq_ 7 rfl (quiet_op (by rw [hty]; first | rfl | (refine st_ ?_; rfl))) ?_; refine st_ ?_
  rename_i b8 b9
  refine go_torowN 2 (n := 1) (size := 4) rfl rfl (by omega) ?_
  refine go_pubL rFm 2 rfl (by rw [hmh]; omega) (ts := [⟨f, 0, args, []⟩]) rfl (by omega) (Rp.L_single ⟨_, _, rfl, by simpa [SV.den] using hS8, Rp.S_nil none 0, hf64, by simp [isI64]⟩) ?_
  intro G6 ad9 cap9 (hle6 : Le G5 G6) e9 hS9
  injection e9 with q1 q2 q3
  subst q1 q3
  have hle16 := hle5.trans hle6
  refine h_one 8 rfl (by kernel_rfl) ?_
  refine go_call (by rw [hnt]; rfl) (by rw [hP]; kernel_rfl) rfl (hP ▸ rdown_ok (.slice (some ⟨bF, oF, none⟩) p.length pC) 0 p 600 ⟨f, 0, args, []⟩ [] nd (fibV (.slice (some ⟨bF, oF, none⟩) p.length pC) (.slice (some ⟨b9, 0, none⟩) 1 1) 0 0 0 (.slice none 0 0)) o G6 (Rp.S_mono (hle1.trans hle16) hp0) ⟨_, _, rfl, ⟨hS9, fun _ _ _ e => by cases e; simp⟩, vt0_rep _, by simp [vt0, tsz, tszL]⟩ hVX (by simp) hd) ?_
  rintro _ G7 (hle7 : Le G6 G7) ⟨lsl3, vl3, rfl, hL3, hv3, ht3⟩
  obtain ⟨a5', c5', rfl⟩ := Rp.S_slice hL3.1
  obtain ⟨a6', c6', rfl⟩ := VT.rep_slice hv3
  have hle17 := hle16.trans hle7
  simp only [fibV]
  refine rn_ ?_; intros
  refine hs_ ?_
  refine h_one 9 rfl (by kernel_rfl) ?_
  refine rn_ ?_; intros
  refine hs_ ?_
  refine h_one 10 rfl (by kernel_rfl) ?_
  refine rn_ ?_; intros
  refine hs_ ?_
  refine h_end (by kernel_rfl) ?_
  refine rn_ ?_; intros
  refine xc_ hQ hmb ?_; simp only [SV.den, resV, dens]
  exact .inr ⟨hbq, o, hd, hVO, _, _, rfl, hL3, hv3, ht3⟩
end Go.Proofs.YtpppkednpamhbaaGreat.R
namespace Go.Proofs.YtpppkednpamhbaaGreat.R
set_option linter.unusedSimpArgs false
set_option linter.unusedVariables false
open Go.Sx
set_option maxHeartbeats 16000000
set_option maxRecDepth 20000
theorem wantQ_vld {p : Pr} {s : Fb} (h : VF p s) : (∀ v ∈ (wantQ p s).2.2.1, vld v = true) ∧ (wantQ p s).2.2.1.length ≤ 1000 := by
  unfold wantQ
  split
  · rename_i h2
    obtain ⟨m, r, nd, hs, hRX, hr⟩ := vf_two h h2
    rw [hs]
    simp only [hRX.1.1.nd]
    unfold wantP
    split
    · exact ⟨hRX.1.2.2.2, vx_done hRX.1⟩
    · split
      · exact ⟨hRX.1.2.2.2, vx_done hRX.1⟩
      · simp
  · simp
theorem is_ok (b cb b1 : Nat) (vl ps ps2 : Value) (ad : Option Addr) (cap : Nat) (p : Pr) (s : Fb) (rs : List Fw) (v0 : Value) (G : Hp) (hc : At G cb 0 [ps]) (hp : rF.S G p ps) (hp2 : rF.S G p ps2) (h0 : rfO G ps2 s.st s.val s.l v0) (hVF : VF p s) (hval : RVal s) (hb : fbP G s vl rs) :
    PureW Tryz.prog 17 [.pointer (some ⟨b, 0, none⟩), v0] G [fhO b cb s.st s.val.k s.val.n vl (.slice ad rs.length cap), frO b1 (.slice ad rs.length cap) rs] (fun v _ ow => v = .bool true ∧ ow = [fhO b cb s.st s.val.k s.val.n vl (.slice ad rs.length cap), frO b1 (.slice ad rs.length cap) rs]) := by
  have hrw := fun G' (hle : Le G G') => rwant_ok ps2 p s v0 G' (Rp.S_mono hle hp2) (h0.mono hle) hVF
  have hra := fun G' (hle : Le G G') => rat_ok ps2 p s v0 G' (Rp.S_mono hle hp2) (h0.mono hle) hVF
  obtain ⟨lsl, vl2, rfl, hL, hvl, hts⟩ := h0
  obtain ⟨vA, vC, rfl⟩ := VT.rep_slice hvl
  obtain ⟨pA, pC, rfl⟩ := Rp.S_slice hp2
  obtain ⟨aL, cL, rfl⟩ := Rp.S_slice hL.1
  have hlen := hb.fs.len
  obtain ⟨hwv, hwl⟩ := wantQ_vld hVF
  have hsm : sml s.val = true := by
    by_cases h3 : s.st = 3
    · have := hVF.2 h3
      simp only [vld, Bool.and_eq_true] at this
      exact this.1
    · rw [hval h3]; rfl
  refine enterW ty tyok Tryz.func17 rfl Tryz.ntmps17 [.p 0 b 0, .a [.v (.slice pA p.length pC), .v (.slice aL s.l.reverse.length cL), .v (.int .i64 s.st), .v (.int .i64 s.val.k), .v (.int .i64 s.val.n), .v (.slice vA s.val.l.length vC)]] (by simp) (mh := 2) rfl ?_
  intro C hP hQ hnt hty hmb hmh hro hG0 hmub; have hQp := qp_body hQ; refine st_ ?_
  simp only [enumO]
  refine rn_ ?_; intros
  refine go_callW [0, 1] (by rw [hnt]; rfl) (by rw [hP]; kernel_rfl) rfl rfl rfl (.inr (by rw [hmh]; decide)) (by rw [hP]; exact want_q b cb b1 vl _ ps p s rs G hc hp hVF hb) ?_
  rintro _ G1 ow1 (hle1 : Le G G1) ⟨rfl, sl1, rfl, hS1⟩
  obtain ⟨w1, w2, rfl⟩ := Rp.S_slice hS1
  simp only [setO, stk]
  refine rn_ ?_; intros
  refine go_call (by rw [hnt]; rfl) (by rw [hP]; kernel_rfl) rfl (hP ▸ hrw G1 hle1) ?_
  rintro _ G2 (hle2 : Le G1 G2) ⟨sl2, rfl, hS2⟩
  obtain ⟨w3, w4, rfl⟩ := Rp.S_slice hS2
  have hle12 := hle1.trans hle2
  refine rn_ ?_; intros
  refine go_callW [0] (by rw [hnt]; rfl) (by rw [hP]; kernel_rfl) rfl rfl rfl (.inr (by rw [hmh]; decide)) (by rw [hP]; exact value_q b cb vl _ p s rs G2 hVF hval (hb.mono hle12)) ?_
  rintro _ G3 ow3 (hle3 : Le G2 G3) ⟨rfl, sl3, rfl, hr3⟩
  obtain ⟨w5, w6, rfl⟩ := VT.rep_slice hr3
  have hle13 := hle12.trans hle3
  simp only [setO, stk]
  refine rn_ ?_; intros
  refine go_callW [0, 1] (by rw [hnt]; rfl) (by rw [hP]; kernel_rfl) rfl rfl rfl (.inr (by rw [hmh]; decide)) (by rw [hP]; exact at_q b cb b1 vl ps ad cap p s rs G3 (hc.mono hle13) (Rp.S_mono hle13 hp) hVF (hb.mono hle13)) ?_
  rintro _ G4 ow4 (hle4 : Le G3 G4) ⟨rfl, rfl⟩
  have hle14 := hle13.trans hle4
  simp only [setO, stk]
  refine rn_ ?_; intros
  refine go_callf (by rw [hnt]; rfl) (by rw [hP]; kernel_rfl) rfl (hP ▸ hra G4 hle14) ?_
  refine rn_ ?_; intros
  have hsw := samewant_ok (wantQ p s).1 (wantQ p s).2.1 (wantQ p s).2.2.1 _ _ G4 (Rp.S_mono ((hle2.trans hle3).trans hle4) hS1) (Rp.S_mono (hle3.trans hle4) hS2) hwv hwl
  have hsame : Pure Tryz.prog 28 [.agg #[.int .i64 s.val.k, .int .i64 s.val.n, .slice w5 s.val.l.length w6], .agg #[.int .i64 s.val.k, .int .i64 s.val.n, .slice vA s.val.l.length vC]] G4 (fun r _ => r = .bool true) :=
    (refSame_ok s.val s.val _ _ G4 (VT.rep_mono hle4 hr3) (VT.rep_mono hle14 hvl) (by omega) (by omega)).val (by rw [hsm, vq_refl]; rfl)
  refine go_keep [0, 3, 4, 5, 6, 7, 8, 9, 10, 11, 12, 13, 14, 15, 16] [0, 1, 2, 3, 4, 5] ?_
  refine st_ ?_
  refine x_draw rfl (by rw [hP]; kernel_rfl) rfl (by kernel_rfl) ?_
  refine runq 400 hty hnt ?_; refine st_ ?_
  refine q_callW [0] (by rw [hnt]; rfl) (by rw [hP]; kernel_rfl) rfl rfl rfl (by rw [hP]; exact state_ok b cb s.st s.val.k s.val.n vl _ G4) ?_
  refine runq 400 hty hnt ?_; refine st_ ?_
  (refine go_qsplit rfl rfl (fun _ => ?_) (fun hc => absurd hc (by simp)); refine st_ ?_; (try (refine runq 400 hty hnt ?_; refine st_ ?_)))
  refine q_callW [0] (by rw [hnt]; rfl) (by rw [hP]; kernel_rfl) rfl rfl rfl (by rw [hP]; exact frames_ok b cb s.st s.val.k s.val.n vl ad rs.length cap G4) ?_
  refine runq 400 hty hnt ?_; refine st_ ?_
  (refine go_qsplit rfl rfl (fun _ => ?_) (fun hc => absurd hc (by simp [hlen])); refine st_ ?_; (try (refine runq 400 hty hnt ?_; refine st_ ?_)))
  (refine go_qsplit rfl rfl (fun _ => ?_) (fun hc => absurd hc (by simp)); refine st_ ?_; (try (refine runq 400 hty hnt ?_; refine st_ ?_)))
  refine q_callf (by rw [hnt]; rfl) (by rw [hP]; kernel_rfl) rfl (hP ▸ hsw) ?_; refine runq 400 hty hnt ?_; refine st_ ?_
  (refine go_qsplit rfl rfl (fun _ => ?_) (fun hc => absurd hc (by simp)); refine st_ ?_; (try (refine runq 400 hty hnt ?_; refine st_ ?_)))
  (refine go_qsplit rfl rfl (fun _ => ?_) (fun hc => absurd hc (by by_cases h3 : s.st = 3 <;> simp [h3])); refine st_ ?_; (try (refine runq 400 hty hnt ?_; refine st_ ?_)))
  refine q_callf (by rw [hnt]; rfl) (by rw [hP]; kernel_rfl) rfl (hP ▸ hsame) ?_; refine runq 400 hty hnt ?_; refine st_ ?_
  (refine go_qsplit rfl rfl (fun _ => ?_) (fun hc => absurd hc (by simp)); refine st_ ?_; (try (refine runq 400 hty hnt ?_; refine st_ ?_)))
  (refine go_qsplit rfl rfl (fun _ => ?_) (fun hc => absurd hc (by simp)); refine st_ ?_; (try (refine runq 400 hty hnt ?_; refine st_ ?_)))
  (refine go_qsplit rfl rfl (fun _ => ?_) (fun hc => absurd hc (by simp)); refine st_ ?_; (try (refine runq 400 hty hnt ?_; refine st_ ?_)))
  refine q_end ?_; refine rn_ ?_; intros
  refine x_retW rfl hQ hmb hmh hG0 hmub rfl rfl (by rw [hty]; simp only [so, sq, zy, zz, tyE, SO', SQ', opQ, opStore, opAlloc, ev, putS, dOk, cv, SV.cs, SV.one, SV.bool?, eqB, Value.oneCell', ldOwn, binInt, binConst, binBool, binStr, isC, TK.agg, rv, rv1, ldV, resOne, resV, Nat.reduceAdd, Nat.reduceMul, Nat.reduceSub, Nat.reduceLT, Nat.reduceLeDiff, Nat.reduceEqDiff, Nat.reduceBEq, reduceIte, reduceCtorEq, eq_self]; try rfl) rfl rfl (by simp only [enumO]; exact (by repeat (first | exact plain_nil | refine plain_cons (fun _ h => h) ?_))) ?_; simp only [SV.den, resV, dens]
  refine ⟨by simp, ?_⟩
  first | rfl | trivial
end Go.Proofs.YtpppkednpamhbaaGreat.R
namespace Go.Proofs.YtpppkednpamhbaaGreat.R
set_option linter.unusedSimpArgs false
set_option linter.unusedVariables false
open Go.Sx
set_option maxHeartbeats 16000000
set_option maxRecDepth 20000
def actP (p : Pr) (s : Fb) (x : Ac) : Option Fb :=
  if x.w = 0 ∨ x.w = 1 ∨ x.w = 2 then (stepP p s).map (·.2) else if x.w = 3 then (runP p x.n.toNat s).map (·.2) else if x.w = 4 ∨ x.w = 5 ∨ x.w = 6 then (resP p s x.v).map (·.2) else some s
theorem act_tot {p : Pr} (hp : rgtP p = true) {s : Fb} (h : VF p s) (hv : RVal s) (x : Ac) : ∃ o, actP p s x = some o ∧ VF p o ∧ RVal o := by
  unfold actP
  split
  · obtain ⟨e, o, h1, h2⟩ := step_tot hp h
    exact ⟨o, by rw [h1]; rfl, h2, (step_val hv h1).1⟩
  · split
    · obtain ⟨n, o, h1, h2, _⟩ := run_tot hp x.n.toNat h
      exact ⟨o, by rw [h1]; rfl, h2, (run_val hv h1).1⟩
    · split
      · obtain ⟨e, o, h1, h2⟩ := resP_tot h x.v
        exact ⟨o, by rw [h1]; rfl, h2, resP_val hv h1⟩
      · exact ⟨s, rfl, h, hv⟩
def actO (G : Hp) (cb : Nat) (ps2 : Value) (o : Fb) (v : Value) (ow : Lds) : Prop := ∃ b' lsl vl, v = .tuple #[.pointer (some ⟨b', 0, none⟩), fibV ps2 lsl o.st o.val.k o.val.n vl, .bool true] ∧ fbO G b' cb o ow ∧ fmS G o.l lsl ∧ o.val.rep G vl ∧ tsz o.val ≤ 1000
theorem act_ok (b cb : Nat) (ps ps2 : Value) (p : Pr) (hpR : rgtP p = true) (s o : Fb) (x : Ac) (sx v0 : Value) (ow : Lds) (G : Hp) (hc : At G cb 0 [ps]) (hp : rF.S G p ps) (hp2 : rF.S G p ps2) (h0 : rfO G ps2 s.st s.val s.l v0) (hVF : VF p s) (hval : RVal s) (hfb : fbO G b cb s ow)
    (hx : x.v.rep G sx) (hxn : x.n ≤ 200) (hxt : tsz x.v ≤ 20) (ho : actP p s x = some o) :
    PureT Tryz.prog 16 [.pointer (some ⟨b, 0, none⟩), v0, .agg #[.int .i64 x.w, .int .i64 x.n, .int .i64 x.v.k, .int .i64 x.v.n, sx]] G ow (fun v G' ow' => actO G' cb ps2 o v ow') := by
  have h00 := h0
  obtain ⟨lsl, vl2, rfl, hL, hvl2, hts⟩ := h0
  obtain ⟨vA, vC, rfl⟩ := VT.rep_slice hvl2
  obtain ⟨pA, pC, rfl⟩ := Rp.S_slice hp2
  obtain ⟨aL, cL, rfl⟩ := Rp.S_slice hL.1
  obtain ⟨ax, cx, rfl⟩ := VT.rep_slice hx
  obtain ⟨vl, fs, b1, b2, b3, rs, Z, hvl, htv, hfs, hl256, hdn, rfl⟩ := hfb
  unfold actP at ho
  refine enterT ty tyok Tryz.func16 rfl Tryz.ntmps16 [.p 0 b 0, .a [.v (.slice pA p.length pC), .v (.slice aL s.l.reverse.length cL), .v (.int .i64 s.st), .v (.int .i64 s.val.k), .v (.int .i64 s.val.n), .v (.slice vA s.val.l.length vC)], .a [.v (.int .i64 x.w), .v (.int .i64 x.n), .v (.int .i64 x.v.k), .v (.int .i64 x.v.n), .v (.slice ax x.v.l.length cx)]] (by simp) (by simp) (plainL (by simp only [enumO]; exact (by repeat (first | exact plain_nil | refine plain_cons (fun _ h => h) ?_)))) ?_
  intro C w0 hP hQ hnt hty hmb hmh hro hG0 hb0; have hQp := qp_body hQ; refine st_ ?_
  generalize hrest : restB w0 _ G = Zr
  simp only [enumO, fhO, frO, fzO, fdO, List.cons_append, List.nil_append]
  refine rn_ ?_; intros
  rename_i b4 b5 b7
  refine cut_tailK 1 (fun s' => s' = ⟨[(0, .p 0 b 0), (4, .p 1000 b4 0), (5, .p 1001 b5 0), (6, .v (.pointer none)), (7, .p 1002 b7 0), (8, .b false), (18, .v (.int .i64 x.w)), (19, .b (decide (x.w = 0 ∨ x.w = 1 ∨ x.w = 2)))], [(0, b, .c 93 [.v (.pointer (some ⟨cb, 0, none⟩)), .v (.int .i64 s.st), .v (.int .i64 s.val.k), .v (.int .i64 s.val.n), .v vl, .v fs]), (1, b1, .row fs 90 4 rs.length (encF rs)), (2, b2, .z (ZR ((rs.drop 1).map (·.done))) Z Z), (3, b3, .row rw0.v rw0.e rw0.size rw0.n rw0.xs), (999, 0, .z (ZRest w0) Zr Zr),
      (1000, b4, .c 44 [.v (.slice pA p.length pC), .v (.slice aL s.l.reverse.length cL), .v (.int .i64 s.st), .v (.int .i64 s.val.k), .v (.int .i64 s.val.n), .v (.slice vA s.val.l.length vC)]), (1001, b5, .c 52 [.v (.int .i64 x.w), .v (.int .i64 x.n), .v (.int .i64 x.v.k), .v (.int .i64 x.v.n), .v (.slice ax x.v.l.length cx)]), (1002, b7, .c 44 [.v (.slice none 0 0), .v (.slice none 0 0), .v (.int .i64 0), .v (.int .i64 0), .v (.int .i64 0), .v (.slice none 0 0)])], G, []⟩) ?_ ?_
  rotate_left
  · intro Kr hK
    simp only [List.take_succ_cons, List.take_zero, List.cons_append, List.nil_append]
    refine x_split rfl rfl rfl (fun hw0 => ?_) (fun hw0 => ?_) <;> (refine st_ ?_; (refine ru_ ?_; intros))
    · have hw0 : x.w = 0 := by simpa using hw0
      have e : decide (x.w = 0 ∨ x.w = 1 ∨ x.w = 2) = true := by simp [hw0]
      refine go_keep [0, 4, 5, 6, 7, 8, 18, 19] [0, 1, 2, 3, 999, 1000, 1001, 1002] ?_
      refine st_ ?_
      exact hK _ (by rw [e])
    refine rn_ ?_; intros
    refine x_split rfl rfl rfl (fun hw1 => ?_) (fun hw1 => ?_) <;> (refine st_ ?_; (refine ru_ ?_; intros))
    · have hw1 : x.w = 1 := by simpa using hw1
      have e : decide (x.w = 0 ∨ x.w = 1 ∨ x.w = 2) = true := by simp [hw1]
      refine go_keep [0, 4, 5, 6, 7, 8, 18, 19] [0, 1, 2, 3, 999, 1000, 1001, 1002] ?_
      refine st_ ?_
      exact hK _ (by rw [e])
    refine rn_ ?_; intros
    have e : decide (x.w = 0 ∨ x.w = 1 ∨ x.w = 2) = (x.w == 2) := by
      simp at hw0 hw1
      by_cases h2 : x.w = 2 <;> simp [h2, hw0, hw1]
    refine go_keep [0, 4, 5, 6, 7, 8, 18, 19] [0, 1, 2, 3, 999, 1000, 1001, 1002] ?_
    refine st_ ?_
    refine go_slot 19 (.b (x.w == 2)) rfl rfl ?_
    refine st_ ?_
    exact hK _ (by rw [e])
  rintro _ rfl
  simp only [List.drop_succ_cons, List.drop_zero]
  cases hw : decide (x.w = 0 ∨ x.w = 1 ∨ x.w = 2) with
  | true =>
    rw [if_pos (of_decide_eq_true hw)] at ho
    obtain ⟨⟨e, o'⟩, hst, rfl⟩ := Option.map_eq_some_iff.1 ho
    refine rn_ ?_; intros
    refine go_call (by rw [hnt]; rfl) (by rw [hP]; kernel_rfl) rfl (hP ▸ rstep_ok _ p hpR s e o' _ G hp2 h00 hVF hval hst) ?_
    rintro _ G1 (hle1 : Le G G1) ⟨lsl3, vl3, rfl, hL3, hv3, ht3⟩
    obtain ⟨a5, c5, rfl⟩ := Rp.S_slice hL3.1
    obtain ⟨a6, c6, rfl⟩ := VT.rep_slice hv3
    simp only [fibV]
    refine rn_ ?_; intros
    rename_i b9
    refine x_held [(1003, b9, .c 44 [.v (.slice pA p.length pC), .v (.slice a5 o'.l.reverse.length c5), .v (.int .i64 o'.st), .v (.int .i64 o'.val.k), .v (.int .i64 o'.val.n), .v (.slice a6 o'.val.l.length c6)])] rfl (by rw [hP]; kernel_rfl) rfl rfl rfl ?_; refine st_ ?_
    refine tq_ 0 rfl (quiet_op (by rw [hty]; first | rfl | (refine st_ ?_; rfl))) ?_; refine st_ ?_
    refine tq_ 1 rfl (quiet_op (by rw [hty]; first | rfl | (refine st_ ?_; rfl))) ?_; refine st_ ?_
    refine tq_ 2 rfl (quiet_op (by rw [hty]; first | rfl | (refine st_ ?_; rfl))) ?_; refine st_ ?_
    refine tq_ 5 rfl (quiet_op (by rw [hty]; first | rfl | (refine st_ ?_; rfl))) ?_; refine st_ ?_
    refine h_one 3 rfl (by kernel_rfl) ?_
    refine go_callT [0, 1, 2, 3] (by rw [hnt]; rfl) (by rw [hP]; kernel_rfl) rfl rfl rfl (by rw [hmh]; simp) (by rw [hP]; exact step_ok b cb p ps s o' e _ G1 (hc.mono hle1) (Rp.S_mono hle1 hp) ⟨vl, fs, b1, b2, b3, rs, Z, VT.rep_mono hle1 hvl, htv, hfs.mono hle1, hl256, fun m x q q' => Rp.S_mono hle1 (hdn m x q q'), rfl⟩ hst) ?_
    rintro v6 G6 ow6 (hle6 : Le G1 G6) ⟨rfl, vl6, fs6, c1, c2, c3, rs6, Z6, w1, w2, w3, w4, w5, rfl⟩
    simp only [setO, stk, fhO, frO, fzO, fdO]
    refine rn_ ?_; intros
    refine hs_ ?_
    refine h_one 4 rfl (by kernel_rfl) ?_
    refine go_callf (by rw [hnt]; rfl) (by rw [hP]; kernel_rfl) rfl (hP ▸ numL_ok e _) ?_; refine rn_ ?_; intros
    refine hs_ ?_
    refine tq_ 6 rfl (quiet_op (by rw [hty]; first | rfl | (refine st_ ?_; rfl))) ?_; refine st_ ?_
    refine h_one 7 rfl (by kernel_rfl) ?_
    refine rn_ ?_; intros
    refine hs_ ?_
    refine h_one 8 rfl (by kernel_rfl) ?_
    refine rn_ ?_; intros
    refine hs_ ?_
    refine h_one 9 rfl (by kernel_rfl) ?_
    have hleA := hle1.trans hle6
    refine rn_ ?_; intros
    refine hs_ ?_
    refine h_end (by kernel_rfl) ?_
    refine rn_ ?_; intros
    refine x_retT rfl hQ hmh hb0 rfl (by first | (simp; done) | decide) rfl (by rw [hty]; simp only [so, sq, zy, zz, tyE, SO', SQ', opQ, opStore, opAlloc, ev, putS, dOk, cv, SV.cs, SV.one, SV.bool?, eqB, Value.oneCell', ldOwn, binInt, binConst, binBool, binStr, isC, TK.agg, rv, rv1, ldV, resOne, resV, Nat.reduceAdd, Nat.reduceMul, Nat.reduceSub, Nat.reduceLT, Nat.reduceLeDiff, Nat.reduceEqDiff, Nat.reduceBEq, reduceIte, reduceCtorEq, eq_self]; try rfl) rfl (by rw [hrest]; rfl) (by first | exact Le.refl _ | assumption) rfl (by simp only [enumO]; exact (by repeat (first | exact plain_nil | refine plain_cons (fun _ h => h) ?_))) ?_; simp only [SV.den, resV, dens]
    exact ⟨b, _, _, by simp [fibV], ⟨vl6, fs6, c1, c2, c3, rs6, Z6, w1, w2, w3, w4, w5, rfl⟩, hL3.mono hle6, VT.rep_mono hle6 hv3, ht3⟩
  | false =>
    rw [if_neg (of_decide_eq_false hw)] at ho
    refine rn_ ?_; intros
    refine x_split rfl rfl rfl (fun hw3 => ?_) (fun hw3 => ?_) <;> (refine st_ ?_; (refine ru_ ?_; intros))
    · have hw3 : x.w = 3 := by simpa using hw3
      rw [if_pos hw3] at ho
      obtain ⟨⟨n, o'⟩, hst, rfl⟩ := Option.map_eq_some_iff.1 ho
      refine rn_ ?_; intros
      refine go_call (by rw [hnt]; rfl) (by rw [hP]; kernel_rfl) rfl (hP ▸ rrun_ok _ p hpR s x.n n o' _ G hp2 h00 hVF hval (by omega) hst) ?_
      rintro _ G1 (hle1 : Le G G1) ⟨lsl3, vl3, rfl, hL3, hv3, ht3⟩
      obtain ⟨a5, c5, rfl⟩ := Rp.S_slice hL3.1
      obtain ⟨a6, c6, rfl⟩ := VT.rep_slice hv3
      simp only [fibV]
      refine rn_ ?_; intros
      rename_i b9
      refine go_callT [0, 1, 2, 3] (by rw [hnt]; rfl) (by rw [hP]; kernel_rfl) rfl rfl rfl (by rw [hmh]; simp) (by rw [hP]; exact run_okN b cb p ps s o' x.n n _ G1 (by omega) (hc.mono hle1) (Rp.S_mono hle1 hp) ⟨vl, fs, b1, b2, b3, rs, Z, VT.rep_mono hle1 hvl, htv, hfs.mono hle1, hl256, fun m x q q' => Rp.S_mono hle1 (hdn m x q q'), rfl⟩ hst) ?_
      rintro v6 G6 ow6 (hle6 : Le G1 G6) ⟨rfl, vl6, fs6, c1, c2, c3, rs6, Z6, w1, w2, w3, w4, w5, rfl⟩
      simp only [setO, stk, fhO, frO, fzO, fdO]
      refine rn_ ?_; intros
      refine x_held [(1003, b9, .c 44 [.v (.slice pA p.length pC), .v (.slice a5 o'.l.reverse.length c5), .v (.int .i64 o'.st), .v (.int .i64 o'.val.k), .v (.int .i64 o'.val.n), .v (.slice a6 o'.val.l.length c6)])] rfl (by rw [hP]; kernel_rfl) rfl rfl rfl ?_; refine st_ ?_
      refine tq_ 0 rfl (quiet_op (by rw [hty]; first | rfl | (refine st_ ?_; rfl))) ?_; refine st_ ?_
      refine tq_ 1 rfl (quiet_op (by rw [hty]; first | rfl | (refine st_ ?_; rfl))) ?_; refine st_ ?_
      refine tq_ 2 rfl (quiet_op (by rw [hty]; first | rfl | (refine st_ ?_; rfl))) ?_; refine st_ ?_
      refine tq_ 3 rfl (quiet_op (by rw [hty]; first | rfl | (refine st_ ?_; rfl))) ?_; refine st_ ?_
      refine tq_ 4 rfl (quiet_op (by rw [hty]; first | rfl | (refine st_ ?_; rfl))) ?_; refine st_ ?_
      refine tq_ 5 rfl (quiet_op (by rw [hty]; first | rfl | (refine st_ ?_; rfl))) ?_; refine st_ ?_
      refine go_slot 56 (.b true) rfl (by simp [SV.den]) ?_
      refine h_takeG 6 rfl rfl rfl (by kernel_rfl) (by kernel_rfl) (by kernel_rfl) hQp (by rw [hnt]; rfl) (allIn (by repeat (first | exact trivial | refine ⟨rfl, ?_⟩))) (by first | exact Le.refl _ | assumption) (quiet_op (by rw [hty]; first | rfl | (refine st_ ?_; rfl))) ?_; refine st_ ?_
      refine h_one 7 rfl (by kernel_rfl) ?_
      refine rn_ ?_; intros
      refine go_callf (by rw [hnt]; rfl) (by rw [hP]; kernel_rfl) rfl (hP ▸ numL_ok 0 _) ?_; refine rn_ ?_; intros
      refine hs_ ?_
      refine h_takeG 8 rfl rfl rfl (by kernel_rfl) (by kernel_rfl) (by kernel_rfl) hQp (by rw [hnt]; rfl) (allIn (by repeat (first | exact trivial | refine ⟨rfl, ?_⟩))) (by first | exact Le.refl _ | assumption) (quiet_op (by rw [hty]; first | rfl | (refine st_ ?_; rfl))) ?_; refine st_ ?_
      refine tq_ 9 rfl (quiet_op (by rw [hty]; first | rfl | (refine st_ ?_; rfl))) ?_; refine st_ ?_
      refine h_one 10 rfl (by kernel_rfl) ?_
      refine rn_ ?_; intros
      refine hs_ ?_
      refine h_one 11 rfl (by kernel_rfl) ?_
      refine rn_ ?_; intros
      refine hs_ ?_
      refine h_one 12 rfl (by kernel_rfl) ?_
      have hleA := hle1.trans hle6
      refine rn_ ?_; intros
      refine hs_ ?_
      refine h_end (by kernel_rfl) ?_
      refine rn_ ?_; intros
      refine x_retT rfl hQ hmh hb0 rfl (by first | (simp; done) | decide) rfl (by rw [hty]; simp only [so, sq, zy, zz, tyE, SO', SQ', opQ, opStore, opAlloc, ev, putS, dOk, cv, SV.cs, SV.one, SV.bool?, eqB, Value.oneCell', ldOwn, binInt, binConst, binBool, binStr, isC, TK.agg, rv, rv1, ldV, resOne, resV, Nat.reduceAdd, Nat.reduceMul, Nat.reduceSub, Nat.reduceLT, Nat.reduceLeDiff, Nat.reduceEqDiff, Nat.reduceBEq, reduceIte, reduceCtorEq, eq_self]; try rfl) rfl (by rw [hrest]; rfl) (by first | exact Le.refl _ | assumption) rfl (by simp only [enumO]; exact (by repeat (first | exact plain_nil | refine plain_cons (fun _ h => h) ?_))) ?_; simp only [SV.den, resV, dens]
      exact ⟨b, _, _, by simp [fibV], ⟨vl6, fs6, c1, c2, c3, rs6, Z6, w1, w2, w3, w4, w5, rfl⟩, hL3.mono hle6, VT.rep_mono hle6 hv3, ht3⟩
    have hw3 : ¬ x.w = 3 := by simpa using hw3
    rw [if_neg hw3] at ho
    refine rn_ ?_; intros
    refine cut_tailK 1 (fun s' => s' = ⟨[(0, .p 0 b 0), (4, .p 1000 b4 0), (5, .p 1001 b5 0), (6, .v (.pointer none)), (7, .p 1002 b7 0), (8, .b false), (18, .v (.int .i64 x.w)), (61, .b (decide (x.w = 4 ∨ x.w = 5 ∨ x.w = 6)))], [(0, b, .c 93 [.v (.pointer (some ⟨cb, 0, none⟩)), .v (.int .i64 s.st), .v (.int .i64 s.val.k), .v (.int .i64 s.val.n), .v vl, .v fs]), (1, b1, .row fs 90 4 rs.length (encF rs)), (2, b2, .z (ZR ((rs.drop 1).map (·.done))) Z Z), (3, b3, .row rw0.v rw0.e rw0.size rw0.n rw0.xs), (999, 0, .z (ZRest w0) Zr Zr),
          (1000, b4, .c 44 [.v (.slice pA p.length pC), .v (.slice aL s.l.reverse.length cL), .v (.int .i64 s.st), .v (.int .i64 s.val.k), .v (.int .i64 s.val.n), .v (.slice vA s.val.l.length vC)]), (1001, b5, .c 52 [.v (.int .i64 x.w), .v (.int .i64 x.n), .v (.int .i64 x.v.k), .v (.int .i64 x.v.n), .v (.slice ax x.v.l.length cx)]), (1002, b7, .c 44 [.v (.slice none 0 0), .v (.slice none 0 0), .v (.int .i64 0), .v (.int .i64 0), .v (.int .i64 0), .v (.slice none 0 0)])], G, []⟩) ?_ ?_
    rotate_left
    · intro Kr hK
      simp only [List.take_succ_cons, List.take_zero, List.cons_append, List.nil_append]
      refine x_split rfl rfl rfl (fun hw4 => ?_) (fun hw4 => ?_) <;> (refine st_ ?_; (refine ru_ ?_; intros))
      · have hw4 : x.w = 4 := by simpa using hw4
        have e : decide (x.w = 4 ∨ x.w = 5 ∨ x.w = 6) = true := by simp [hw4]
        refine go_keep [0, 4, 5, 6, 7, 8, 18, 61] [0, 1, 2, 3, 999, 1000, 1001, 1002] ?_
        refine st_ ?_
        exact hK _ (by rw [e])
      refine rn_ ?_; intros
      refine x_split rfl rfl rfl (fun hw5 => ?_) (fun hw5 => ?_) <;> (refine st_ ?_; (refine ru_ ?_; intros))
      · have hw5 : x.w = 5 := by simpa using hw5
        have e : decide (x.w = 4 ∨ x.w = 5 ∨ x.w = 6) = true := by simp [hw5]
        refine go_keep [0, 4, 5, 6, 7, 8, 18, 61] [0, 1, 2, 3, 999, 1000, 1001, 1002] ?_
        refine st_ ?_
        exact hK _ (by rw [e])
      refine rn_ ?_; intros
      have e : decide (x.w = 4 ∨ x.w = 5 ∨ x.w = 6) = (x.w == 6) := by
        simp at hw4 hw5
        by_cases h2 : x.w = 6 <;> simp [h2, hw4, hw5]
      refine go_keep [0, 4, 5, 6, 7, 8, 18, 61] [0, 1, 2, 3, 999, 1000, 1001, 1002] ?_
      refine st_ ?_
      refine go_slot 61 (.b (x.w == 6)) rfl rfl ?_
      refine st_ ?_
      exact hK _ (by rw [e])
    rintro _ rfl
    simp only [List.drop_succ_cons, List.drop_zero]
    cases hw9 : decide (x.w = 4 ∨ x.w = 5 ∨ x.w = 6) with
    | true =>
      rw [if_pos (of_decide_eq_true hw9)] at ho
      obtain ⟨⟨e, o'⟩, hst, rfl⟩ := Option.map_eq_some_iff.1 ho
      refine rn_ ?_; intros
      refine go_call (by rw [hnt]; rfl) (by rw [hP]; kernel_rfl) rfl (hP ▸ rresume_ok _ p s x.v _ e o' _ G hp2 h00 hVF hval hx (by omega) hst) ?_
      rintro _ G1 (hle1 : Le G G1) ⟨lsl3, vl3, rfl, hL3, hv3, ht3⟩
      obtain ⟨a5, c5, rfl⟩ := Rp.S_slice hL3.1
      obtain ⟨a6, c6, rfl⟩ := VT.rep_slice hv3
      simp only [fibV]
      refine rn_ ?_; intros
      rename_i b9
      refine x_held [(1003, b9, .c 44 [.v (.slice pA p.length pC), .v (.slice a5 o'.l.reverse.length c5), .v (.int .i64 o'.st), .v (.int .i64 o'.val.k), .v (.int .i64 o'.val.n), .v (.slice a6 o'.val.l.length c6)]), (1001, b5, .c 52 [.v (.int .i64 x.w), .v (.int .i64 x.n), .v (.int .i64 x.v.k), .v (.int .i64 x.v.n), .v (.slice ax x.v.l.length cx)])] rfl (by rw [hP]; kernel_rfl) rfl rfl rfl ?_; refine st_ ?_
      refine tq_ 0 rfl (quiet_op (by rw [hty]; first | rfl | (refine st_ ?_; rfl))) ?_; refine st_ ?_
      refine tq_ 1 rfl (quiet_op (by rw [hty]; first | rfl | (refine st_ ?_; rfl))) ?_; refine st_ ?_
      refine tq_ 2 rfl (quiet_op (by rw [hty]; first | rfl | (refine st_ ?_; rfl))) ?_; refine st_ ?_
      refine tq_ 3 rfl (quiet_op (by rw [hty]; first | rfl | (refine st_ ?_; rfl))) ?_; refine st_ ?_
      refine tq_ 4 rfl (quiet_op (by rw [hty]; first | rfl | (refine st_ ?_; rfl))) ?_; refine st_ ?_
      refine tq_ 7 rfl (quiet_op (by rw [hty]; first | rfl | (refine st_ ?_; rfl))) ?_; refine st_ ?_
      refine h_one 5 rfl (by kernel_rfl) ?_
      have hcase : ((vld x.v = false ∧ e = 2) ∨ (vld x.v = true ∧ s.st ≠ 2 ∧ e = 100)) ∧ o' = s ∨ (vld x.v = true ∧ s.st = 2 ∧ e = 0 ∧ prodF p s x.v = some o') := by
        unfold resP at hst
        split at hst
        · rename_i hv9
          split at hst
          · rename_i h2
            cases hst
            exact .inl ⟨.inr ⟨hv9, h2, rfl⟩, rfl⟩
          · rename_i h2
            obtain ⟨o9, ho9, heq⟩ := Option.map_eq_some_iff.1 hst
            cases heq
            exact .inr ⟨hv9, by omega, rfl, ho9⟩
        · rename_i hv9
          cases hst
          exact .inl ⟨.inl ⟨by simpa using hv9, rfl⟩, rfl⟩
      rcases hcase with ⟨he, rfl⟩ | ⟨hv9, hst2, rfl, ho9⟩
      · refine go_callW [0] (by rw [hnt]; rfl) (by rw [hP]; kernel_rfl) rfl rfl rfl (.inl (by rw [hmh]; simp)) (by rw [hP]; exact resume_err b cb o'.st o'.val.k o'.val.n vl fs x.v _ e G1 (VT.rep_mono hle1 hx) he) ?_
        rintro v6 G6 ow6 (hle6 : Le G1 G6) ⟨rfl, rfl⟩
        simp only [setO, stk, fhO]
        refine rn_ ?_; intros
        refine hs_ ?_
        refine h_one 6 rfl (by kernel_rfl) ?_
        refine go_callf (by rw [hnt]; rfl) (by rw [hP]; kernel_rfl) rfl (hP ▸ numL_ok _ _) ?_; refine rn_ ?_; intros
        refine hs_ ?_
        refine tq_ 8 rfl (quiet_op (by rw [hty]; first | rfl | (refine st_ ?_; rfl))) ?_; refine st_ ?_
        refine h_one 9 rfl (by kernel_rfl) ?_
        refine rn_ ?_; intros
        refine hs_ ?_
        refine h_one 10 rfl (by kernel_rfl) ?_
        refine rn_ ?_; intros
        refine hs_ ?_
        refine h_one 11 rfl (by kernel_rfl) ?_
        have hleA := hle1.trans hle6
        refine rn_ ?_; intros
        refine hs_ ?_
        refine h_end (by kernel_rfl) ?_
        refine rn_ ?_; intros
        refine x_retT rfl hQ hmh hb0 rfl (by first | (simp; done) | decide) rfl (by rw [hty]; simp only [so, sq, zy, zz, tyE, SO', SQ', opQ, opStore, opAlloc, ev, putS, dOk, cv, SV.cs, SV.one, SV.bool?, eqB, Value.oneCell', ldOwn, binInt, binConst, binBool, binStr, isC, TK.agg, rv, rv1, ldV, resOne, resV, Nat.reduceAdd, Nat.reduceMul, Nat.reduceSub, Nat.reduceLT, Nat.reduceLeDiff, Nat.reduceEqDiff, Nat.reduceBEq, reduceIte, reduceCtorEq, eq_self]; try rfl) rfl (by rw [hrest]; rfl) (by first | exact Le.refl _ | assumption) rfl (by simp only [enumO]; exact (by repeat (first | exact plain_nil | refine plain_cons (fun _ h => h) ?_))) ?_; simp only [SV.den, resV, dens]
        exact ⟨b, _, _, by simp [fibV], ⟨vl, fs, b1, b2, b3, rs, Z, VT.rep_mono hleA hvl, htv, hfs.mono hleA, hl256, fun m x q q' => Rp.S_mono hleA (hdn m x q q'), rfl⟩, hL3.mono hle6, VT.rep_mono hle6 hv3, ht3⟩
      · refine go_callT [0, 1, 2, 3] (by rw [hnt]; rfl) (by rw [hP]; kernel_rfl) rfl rfl rfl (by rw [hmh]; simp) (by rw [hP]; exact resume_ok b cb p ps s o' x.v _ _ G1 (hc.mono hle1) (Rp.S_mono hle1 hp) ⟨vl, fs, b1, b2, b3, rs, Z, VT.rep_mono hle1 hvl, htv, hfs.mono hle1, hl256, fun m x q q' => Rp.S_mono hle1 (hdn m x q q'), rfl⟩ (VT.rep_mono hle1 hx) hv9 (by omega) hst2 ho9) ?_
        rintro v6 G6 ow6 (hle6 : Le G1 G6) ⟨rfl, vl6, fs6, c1, c2, c3, rs6, Z6, w1, w2, w3, w4, w5, rfl⟩
        simp only [setO, stk, fhO, frO, fzO, fdO]
        refine rn_ ?_; intros
        refine hs_ ?_
        refine h_one 6 rfl (by kernel_rfl) ?_
        refine go_callf (by rw [hnt]; rfl) (by rw [hP]; kernel_rfl) rfl (hP ▸ numL_ok _ _) ?_; refine rn_ ?_; intros
        refine hs_ ?_
        refine tq_ 8 rfl (quiet_op (by rw [hty]; first | rfl | (refine st_ ?_; rfl))) ?_; refine st_ ?_
        refine h_one 9 rfl (by kernel_rfl) ?_
        refine rn_ ?_; intros
        refine hs_ ?_
        refine h_one 10 rfl (by kernel_rfl) ?_
        refine rn_ ?_; intros
        refine hs_ ?_
        refine h_one 11 rfl (by kernel_rfl) ?_
        have hleA := hle1.trans hle6
        refine rn_ ?_; intros
        refine hs_ ?_
        refine h_end (by kernel_rfl) ?_
        refine rn_ ?_; intros
        refine x_retT rfl hQ hmh hb0 rfl (by first | (simp; done) | decide) rfl (by rw [hty]; simp only [so, sq, zy, zz, tyE, SO', SQ', opQ, opStore, opAlloc, ev, putS, dOk, cv, SV.cs, SV.one, SV.bool?, eqB, Value.oneCell', ldOwn, binInt, binConst, binBool, binStr, isC, TK.agg, rv, rv1, ldV, resOne, resV, Nat.reduceAdd, Nat.reduceMul, Nat.reduceSub, Nat.reduceLT, Nat.reduceLeDiff, Nat.reduceEqDiff, Nat.reduceBEq, reduceIte, reduceCtorEq, eq_self]; try rfl) rfl (by rw [hrest]; rfl) (by first | exact Le.refl _ | assumption) rfl (by simp only [enumO]; exact (by repeat (first | exact plain_nil | refine plain_cons (fun _ h => h) ?_))) ?_; simp only [SV.den, resV, dens]
        exact ⟨b, _, _, by simp [fibV], ⟨vl6, fs6, c1, c2, c3, rs6, Z6, w1, w2, w3, w4, w5, rfl⟩, hL3.mono hle6, VT.rep_mono hle6 hv3, ht3⟩
    | false =>
      rw [if_neg (of_decide_eq_false hw9)] at ho
      cases ho
      refine rn_ ?_; intros
      refine x_held [(1000, b4, .c 44 [.v (.slice pA p.length pC), .v (.slice aL s.l.reverse.length cL), .v (.int .i64 s.st), .v (.int .i64 s.val.k), .v (.int .i64 s.val.n), .v (.slice vA s.val.l.length vC)])] rfl (by rw [hP]; kernel_rfl) rfl rfl rfl ?_; refine st_ ?_
      refine tq_ 0 rfl (quiet_op (by rw [hty]; first | rfl | (refine st_ ?_; rfl))) ?_; refine st_ ?_
      refine tq_ 2 rfl (quiet_op (by rw [hty]; first | rfl | (refine st_ ?_; rfl))) ?_; refine st_ ?_
      refine h_one 1 rfl (by kernel_rfl) ?_
      refine go_nilrow 20 42 3 rfl (by rw [hmh]; omega) ?_
      refine go_nilrow 21 42 3 rfl (by rw [hmh]; omega) ?_
      refine go_nilrow 22 42 3 rfl (by rw [hmh]; omega) ?_
      refine go_nilrow 23 42 3 rfl (by rw [hmh]; omega) ?_
      refine st_ ?_
      refine go_callT [0, 1, 2, 3, 20, 21, 22, 23] (by rw [hnt]; rfl) (by rw [hP]; kernel_rfl) rfl rfl rfl (by rw [hmh]; simp) (by rw [hP]; exact copyf_ok b cb s [fhO b cb s.st s.val.k s.val.n vl fs, frO b1 fs rs, fzO b2 (rs.drop 1) Z, fdO b3 rw0] G ⟨vl, fs, b1, b2, b3, rs, Z, hvl, htv, hfs, hl256, hdn, rfl⟩) ?_
      rintro v6 G6 ow6 (hle6 : Le G G6) ⟨b', o1, o2, rfl, rfl, ⟨vl6, fs6, c1, c2, c3, rs6, Z6, w1, w2, w3, w4, w5, rfl⟩, ⟨vl7, fs7, d1, d2, d3, rs7, Z7, y1, y2, y3, y4, y5, rfl⟩⟩
      simp only [setO, stk, fhO, frO, fzO, fdO, List.cons_append, List.nil_append]
      refine rn_ ?_; intros
      refine hs_ ?_
      refine h_one 3 rfl (by kernel_rfl) ?_
      refine rn_ ?_; intros
      refine hs_ ?_
      refine h_one 4 rfl (by kernel_rfl) ?_
      refine rn_ ?_; intros
      refine hs_ ?_
      refine h_one 5 rfl (by kernel_rfl) ?_
      refine rn_ ?_; intros
      refine hs_ ?_
      refine h_end (by kernel_rfl) ?_
      refine go_drop 0 ?_
      refine go_drop 1 ?_
      refine go_drop 2 ?_
      refine go_drop 3 ?_
      refine st_ ?_
      refine go_rekey 20 0 rfl rfl (by rw [hmh]; omega) (by rw [hmh]; omega) ?_
      refine go_rekey 21 1 rfl rfl (by rw [hmh]; omega) (by rw [hmh]; omega) ?_
      refine go_rekey 22 2 rfl rfl (by rw [hmh]; omega) (by rw [hmh]; omega) ?_
      refine go_rekey 23 3 rfl rfl (by rw [hmh]; omega) (by rw [hmh]; omega) ?_
      refine st_ ?_
      refine rn_ ?_; intros
      refine x_retT rfl hQ hmh hb0 rfl (by first | (simp; done) | decide) rfl (by rw [hty]; simp only [so, sq, zy, zz, tyE, SO', SQ', opQ, opStore, opAlloc, ev, putS, dOk, cv, SV.cs, SV.one, SV.bool?, eqB, Value.oneCell', ldOwn, binInt, binConst, binBool, binStr, isC, TK.agg, rv, rv1, ldV, resOne, resV, Nat.reduceAdd, Nat.reduceMul, Nat.reduceSub, Nat.reduceLT, Nat.reduceLeDiff, Nat.reduceEqDiff, Nat.reduceBEq, reduceIte, reduceCtorEq, eq_self]; try rfl) rfl (by rw [hrest]; rfl) (by first | exact Le.refl _ | assumption) rfl (by simp only [enumO]; exact (by repeat (first | exact plain_nil | refine plain_cons (fun _ h => h) ?_))) ?_; simp only [SV.den, resV, dens]
      exact ⟨b', _, _, by simp [fibV], ⟨vl7, fs7, d1, d2, d3, rs7, Z7, y1, y2, y3, y4, y5, rfl⟩, hL.mono hle6, VT.rep_mono hle6 hvl2, hts⟩
end Go.Proofs.YtpppkednpamhbaaGreat.R
namespace Go.Proofs.YtpppkednpamhbaaGreat
set_option linter.unusedSimpArgs false
set_option linter.unusedVariables false
open Go.Sx
set_option maxHeartbeats 16000000
set_option maxRecDepth 20000
theorem begin_bad (p : Pr) (ps : Value) (cb : Nat) (f : Int) (av : List VT) (sl : Value) (G : Hp) (hc : At G cb 0 [ps]) (hps : rF.S G p ps) (hf0 : 0 ≤ f) (hf1 : f < p.length) (hpl : p.length ≤ 100) (hn : (av.length : Int) = (fu p f.toNat).params) (hal : av.length ≤ 100)
    (hS : rW.S G av sl) (hbad : ∃ v ∈ av, vld v = false) :
    Pure Tryz.prog 12 [.pointer (some ⟨cb, 0, none⟩), .int .i64 f, sl] G (fun v _ => v = .tuple #[.pointer none, .int .i64 2]) := by
  have hms := miss2_ok p ps cb G hc hps (by omega)
  have hps0 := hps
  obtain ⟨ad, c, rfl⟩ := Rp.S_slice hS
  obtain ⟨bF, oF, ns, cF, rfl, hat, hp64, _⟩ : ∃ bF oF ns cF, ps = .slice (some ⟨bF, oF, none⟩) p.length cF ∧ At G bF (oF + f.toNat * 2) [.int .i64 (fu p f.toNat).params, ns] ∧ isI64 (fu p f.toNat).params ∧ rN.S G (fu p f.toNat).nodes ns := by
    obtain ⟨adp, capp, rfl⟩ := Rp.S_slice hps
    obtain ⟨bF, oF, ns, rfl, q⟩ := rF_at hps0 (i := f.toNat) (by omega)
    exact ⟨bF, oF, ns, capp, rfl, q⟩
  have hat0 : At G bF (oF + f.toNat * 2) [.int .i64 (fu p f.toNat).params] := by simpa using hat.sub 0 1 (by simp)
  refine enterX ty tyok Tryz.func12 rfl Tryz.ntmps12 [.v (.pointer (some ⟨cb, 0, none⟩)), .v (.int .i64 f), .v (.slice ad av.length c)] (by simp) ?_
  intro C hP hQ hnt hty hmb hmh hro; have hQp := qp_body hQ; refine st_ ?_
  refine rn_ ?_; intros
  refine go_callf (by rw [hnt]; rfl) (by rw [hP]; kernel_rfl) rfl (hP ▸ hms) ?_; refine rn_ ?_; intros
  (refine x_split rfl rfl rfl (fun hc => absurd hc (by first | decide +kernel | (simp; first | done | fail))) (fun _ => ?_); refine st_ ?_; (refine ru_ ?_; intros))
  refine rn_ ?_; intros
  refine go_gsplit rfl rfl (fun h1 => ?_) (fun h1 => ?_) <;> (refine st_ ?_; (refine rn_ ?_; intros))
  · exfalso; simp at h1; omega
  refine go_q (by rw [hnt]; rfl) (quiet_load (by rw [hty]; rfl) rfl (by simp [TK.agg]) hc rfl) ?_; refine rn_ ?_; intros
  refine x_split rfl rfl rfl (fun h2 => ?_) (fun h2 => ?_) <;> (refine st_ ?_; (refine ru_ ?_; intros))
  · exfalso; simp at h2; omega
  refine rn_ ?_; intros
  refine go_q (by rw [hnt]; rfl) (quiet_load (by rw [hty]; rfl) rfl (by simp [TK.agg]) hc rfl) ?_; refine rn_ ?_; intros
  refine go_q (v := .pointer (some ⟨bF, oF + f.toNat * 2, none⟩)) (by rw [hnt]; rfl) ((quiet_index (by rw [hty]; rfl) (by rw [hty]; rfl) rfl rfl rfl (by omega) (by omega)).cast (by rfl)) ?_
  refine rn_ ?_; intros
  refine go_q (by rw [hnt]; rfl) (quiet_load (by rw [hty]; rfl) rfl (by simp [TK.agg]) hat0 rfl) ?_; refine rn_ ?_; intros
  refine x_split rfl rfl rfl (fun h3 => ?_) (fun h3 => ?_) <;> (refine st_ ?_; (refine ru_ ?_; intros))
  · exfalso; simp at h3; exact h3 hn
  refine rn_ ?_; intros
  refine go_make 10 (by rw [hnt]; rfl) (by rw [hty]; rfl) (by rw [hty]; rfl) rfl rfl (Nat.zero_le _) rfl (by rw [hmh]; omega) (by omega) (by simp only []; omega) (by simp) ?_
  intro g10
  refine rn_ ?_; intros
  refine go_keep [0, 1, 2, 6, 7, 8, 41, 42, 43] [10] ?_
  refine st_ ?_
  refine x_loop rfl (fun q s' => ∃ (k : Nat) (G1 : Hp) (ad3 : Option Addr) (cap3 : Nat) (xs : List Value), k ≤ av.length ∧ q = av.length - k ∧ Le G G1 ∧ rW.L G1 (av.take k) xs ∧ (∀ v ∈ av.take k, vld v = true) ∧
    s' = ⟨[(0, .v (.pointer (some ⟨cb, 0, none⟩))), (1, .v (.int .i64 f)), (2, .v (.slice ad av.length c)), (6, .v (.pointer none)), (7, .v (.int .i64 0)), (8, .v (.slice ad3 k cap3)), (41, .v (.slice ad av.length c)), (42, .v (.int .i64 av.length)), (43, .v (.int .i64 k))],
      [(10, g10, .row (.slice ad3 k cap3) 42 3 k xs)], G1, []⟩) ⟨0, G, some ⟨g10, 0, none⟩, av.length, [], by omega, rfl, Le.refl _, rfl, by simp, rfl⟩ ?_
  rintro q s' ⟨k, G1, ad3, cap3, xs, hk, hq, hle1, hxs, hall, rfl⟩ ih
  refine rn_ ?_; intros
  refine x_if rfl rfl rfl rfl (fun hjl => ?_) (fun hjl => ?_)
  · have hlt : k < av.length := by simp at hjl; omega
    have htk : av.take (k + 1) = av.take k ++ [av[k]] := by rw [List.take_append_getElem]
    obtain ⟨bV, oV, sv, rfl, hatV, hrV, htV⟩ := rW_at (Rp.S_mono hle1 hS) hlt
    obtain ⟨a9, c9, rfl⟩ := VT.rep_slice hrV
    have hchk := check_ok av[k] _ G1 hrV
    refine rn_ ?_; intros
    refine go_q (by rw [hnt]; rfl) (quiet_index (by rw [hty]; rfl) (by rw [hty]; rfl) rfl rfl rfl (by omega) (by omega)) ?_
    refine rn_ ?_; intros
    refine go_q (v := .agg #[.int .i64 av[k].k, .int .i64 av[k].n, .slice a9 av[k].l.length c9]) (by rw [hnt]; rfl) ((quiet_load (by rw [hty]; rfl) rfl (by simp [TK.agg]) (by simpa using hatV) rfl).cast (by rfl)) ?_
    refine rn_ ?_; intros
    refine go_callf (by rw [hnt]; rfl) (by rw [hP]; kernel_rfl) rfl (hP ▸ hchk) ?_; refine rn_ ?_; intros
    refine x_split rfl rfl rfl (fun h8 => ?_) (fun h8 => ?_) <;> (refine st_ ?_; (refine ru_ ?_; intros))
    · refine rn_ ?_; intros
      refine xc_ hQ hmb ?_; simp only [SV.den, resV, dens]
      try rfl
    have hvv : vld av[k] = true := by
      cases hq9 : vld av[k] with
      | true => rfl
      | false => simp [chk, hq9] at h8
    refine rn_ ?_; intros
    refine go_call (by rw [hnt]; rfl) (by rw [hP]; kernel_rfl) rfl (hP ▸ copy_ok av[k] _ G1 hrV (by omega)) ?_
    rintro v2 G2 (hle2 : Le G1 G2) (⟨_, a8, c8, rfl, hr8⟩ | ⟨hns, _⟩)
    rotate_left
    · simp [vld, hns] at hvv
    refine rn_ ?_; intros
    refine go_append 10 (by rw [hnt]; rfl) (by rw [hty]; rfl) (by rw [hty]; rfl) (by decide) rfl rfl rfl (by rw [hmh]; omega) rfl (src_own 3 rfl rfl) rfl (by simp [dens, SV.den, Value.oneCell']) (by omega) (by simp only []; omega) ?_
    intro v'
    refine go_rowS 10 rfl ?_
    rintro ad4 cap4 rfl
    refine rn_ ?_; intros
    rw [wr (n := (k : Int) + 1) (by omega) (by omega)]
    refine go_keep [0, 1, 2, 6, 7, 8, 41, 42, 43] [10] ?_
    refine st_ ?_
    refine ih (av.length - (k + 1)) _ (by omega) ⟨k + 1, G2, ad4, cap4, _, by omega, rfl, hle1.trans hle2, ?_, ?_, rfl⟩
    · rw [htk]
      exact Rp.L_append (Rp.L_mono hle2 hxs) (Rp.L_single ⟨_, rfl, hr8, htV⟩)
    · rw [htk]
      intro v hv
      rcases List.mem_append.1 hv with hv | hv
      · exact hall v hv
      · simp only [List.mem_cons, List.not_mem_nil, or_false] at hv
        subst hv
        exact hvv
  exfalso
  have hkl : k = av.length := by simp at hjl; omega
  subst hkl
  rw [List.take_length] at hall
  obtain ⟨v, hv1, hv2⟩ := hbad
  rw [hall v hv1] at hv2
  cases hv2
end Go.Proofs.YtpppkednpamhbaaGreat
namespace Go.Sx
set_option linter.unusedSimpArgs false
set_option linter.unusedVariables false
section
variable {C : Ctx}
end
end Go.Sx
namespace Go.Proofs.YtpppkednpamhbaaGreat
set_option linter.unusedSimpArgs false
set_option linter.unusedVariables false
open Go.Sx
set_option maxHeartbeats 4000000
end Go.Proofs.YtpppkednpamhbaaGreat
namespace Go.Proofs.YtpppkednpamhbaaGreat
set_option linter.unusedSimpArgs false
set_option linter.unusedVariables false
open Go.Sx
set_option maxHeartbeats 4000000
end Go.Proofs.YtpppkednpamhbaaGreat
namespace Go.Proofs.YtpppkednpamhbaaGreat.R
set_option linter.unusedSimpArgs false
set_option linter.unusedVariables false
open Go.Sx
set_option maxHeartbeats 16000000
set_option maxRecDepth 20000
theorem beginE_ok (p : Pr) (ps : Value) (cb : Nat) (f : Int) (av : List VT) (sl : Value) (e : Int) (G : Hp) (hc : At G cb 0 [ps]) (hps : rF.S G p ps) (hp0 : 1 ≤ p.length) (hpl : p.length ≤ 100) (hal : av.length ≤ 100) (hS : rW.S G av sl) (he : begQ p f av = e) (h0 : e ≠ 0) :
    Pure Tryz.prog 12 [.pointer (some ⟨cb, 0, none⟩), .int .i64 f, sl] G (fun v _ => v = .tuple #[.pointer none, .int .i64 e]) := by
  unfold begQ at he
  split at he
  · rename_i h1
    obtain ⟨a, c, rfl⟩ := Rp.S_slice hS
    exact begin_err p ps cb f a _ c e G hc hps (by omega) (.inl ⟨h1, he.symm⟩)
  · rename_i h1
    split at he
    · rename_i h2
      obtain ⟨a, c, rfl⟩ := Rp.S_slice hS
      exact begin_err p ps cb f a _ c e G hc hps (by omega) (.inr ⟨by omega, by omega, h2, he.symm⟩)
    · rename_i h2
      split at he
      · exact absurd he.symm h0
      · rename_i h3
        subst he
        refine begin_bad p ps cb f av sl G hc hps (by omega) (by omega) hpl (by omega) hal hS ?_
        refine Classical.byContradiction fun hn => h3 (List.all_eq_true.2 fun v hv => ?_)
        cases hq : vld v with
        | true => rfl
        | false => exact absurd ⟨v, hv, hq⟩ hn
theorem begQ_no {p : Pr} {f : Int} {av : List VT} (h : begQ p f av = 0) : 0 ≤ f ∧ f < p.length ∧ (av.length : Int) = (fu p f.toNat).params ∧ ∀ v ∈ av, vld v = true := by
  unfold begQ at h
  split at h
  · cases h
  · split at h
    · cases h
    · split at h
      · rename_i h1 h2 h3
        exact ⟨by omega, by omega, by omega, List.all_eq_true.1 h3⟩
      · cases h
end Go.Proofs.YtpppkednpamhbaaGreat.R
namespace Go.Sx
set_option linter.unusedSimpArgs false
set_option linter.unusedVariables false
open Go.RowKit
section
variable {C : Ctx} {sl : List (Nat × SV)} {own : Owns} {G : Hp}
theorem equal_a2 {P : Program} {T e : TypeId} {te : TI} {q k : IntKind} {a b c d : Int} (hT : P.underlying T = some (.array 2 e)) (he : te.ok P e) (hq : P.underlying e = some (.int q)) (hs : te.size = 1) (ha : te.k.agg = false) (w : World) :
    (Op.equal T (.agg #[.int k a, .int k b]) (.agg #[.int k c, .int k d])).run P w = .ok (a == c && b == d) w := by
  have hag := run_isAgg w he
  have hsz := run_size w he
  rw [ha] at hag
  rw [hs] at hsz
  have hp : ∀ (m n : Int) (j : Nat) (v : Value), #[Value.int k m, Value.int k n][j]? = some v → (part e #[.int k m, .int k n] j).run P w = .ok v w := by
    intro m n j v h
    simp only [part, Sem.run_bind, hag, Result.andThen_ok, Bool.false_eq_true, if_false, h]
    rfl
  have hei : ∀ m n : Int, (Op.equalIn 9999 e (.int k m) (.int k n)).run P w = .ok (m == n) w := fun m n => run_equalIn_int w 9998 e k q m n hq
  show (Op.equalIn (9999 + 1) T _ _).run P w = _
  rw [Op.equalIn]
  simp only [Sem.run_bind, run_und w hT, Result.andThen_ok, hsz, Std.Legacy.Range.forIn_eq_forIn_range', Std.Legacy.Range.size, Nat.sub_zero, Nat.add_sub_cancel, Nat.div_one, List.range'_succ, List.range'_zero, List.forIn_cons, List.forIn_nil, Nat.mul_one, Nat.zero_add]
  simp only [hp a b 0 _ rfl, hp a b 1 _ rfl, hp c d 0 _ rfl, hp c d 1 _ rfl, hei, Result.andThen_ok, Sem.run_bind, Sem.run_pure]
  by_cases h1 : a = c <;> by_cases h2 : b = d <;> simp [h1, h2, hei, hp c d 1 _ rfl, hp a b 1 _ rfl, hp a d 1 _ rfl, hp c b 1 _ rfl, Sem.run_bind]
theorem quiet_aneq {T e T' : TypeId} {x y : Operand} {te : TI} {a b c d : Int} {vx vy : SV} {q k : IntKind} {sz by' : Nat} {ze : List Value} {fl : List (Nat × Nat × Bool)} (hT : C.ty T = some ⟨.arr 2 e, sz, by', ze, fl⟩) (he : C.ty e = some te) (hq : te.k = .int q) (hs : te.size = 1) (hg : C.P.eqGuardType C.P.depth T = false)
    (hx : ev sl x = some vx) (hvx : vx.den = .agg #[.int k a, .int k b]) (hy : ev sl y = some vy) (hvy : vy.den = .agg #[.int k c, .int k d]) : Quiet C sl own G (.binOp .neq T x y T') (.bool (!(a == c && b == d))) := by
  intro aa w dd t pos aft g hsl hh
  have hxv := ev_ok hsl hx
  rw [hvx] at hxv
  have hyv := ev_ok hsl hy
  rw [hvy] at hyv
  have hu := (C.tyok _ _ hT).k
  simp only [TK.fits] at hu
  have hue := (C.tyok _ _ he).k
  rw [hq] at hue
  simp only [TK.fits] at hue
  simp only [execOp, hxv, hyv]
  have h1 : (eqGuard .neq T x y (.agg #[.int k a, .int k b]) (.agg #[.int k c, .int k d])).run C.P w = .ok () w := by
    simp [eqGuard, Sem.run_bind, run_program, hg]
  have h2 : (binOp .neq T (.agg #[.int k a, .int k b]) (.agg #[.int k c, .int k d])).run C.P w = .ok (.bool (!(a == c && b == d))) w := by
    simp only [binOp, Sem.run_bind, equal_a2 hu (C.tyok _ _ he) hue hs (by rw [hq]; rfl), Result.andThen_ok, Sem.run_pure]
  rw [Sem.run_bind]
  simp [h1, h2, Sem.run_bind]
end
end Go.Sx
namespace Go.Proofs.YtpppkednpamhbaaGreat.R
set_option linter.unusedSimpArgs false
set_option linter.unusedVariables false
open Go.Sx
set_option maxHeartbeats 16000000
set_option maxRecDepth 20000
theorem trailL_ok (p : Pr) (ps : Value) (f : Int) (args : List VT) (l : List Ac) (most many : Int) (x : Ac) (sl sl2 sx : Value) (G : Hp) (hps : rF.S G p ps) (ha : repS G args sl) (hb : ∀ v ∈ args, tsz v ≤ 2000000) (hl : rA.S G l sl2) (hlb : ∀ x ∈ l, tsz x.v ≤ 2000000) (hx : x.v.rep G sx) (hxb : tsz x.v ≤ 2000000) (hxw : isI64 x.w) (hxn : isI64 x.n) :
    Pure Tryz.prog 4 [.agg #[ps], .int .i64 f, sl, sl2, .int .i64 most, .int .i64 many, .agg #[.int .i64 x.w, .int .i64 x.n, .int .i64 x.v.k, .int .i64 x.v.n, sx]] G (fun v _ => v = .bool true) := by
  have h63 := Rp.S_len hps
  obtain ⟨adp, cp, rfl⟩ := Rp.S_slice hps
  obtain ⟨ad2, c2', rfl⟩ := Rp.S_slice hl
  have hl63 := Rp.S_len hl
  obtain ⟨ax, cx, rfl⟩ := VT.rep_slice hx
  obtain ⟨ha63, ad, cap, rfl, haS⟩ := ha
  refine enterM ty tyok Tryz.func4 rfl Tryz.ntmps4 [.a [.v (.slice adp p.length cp)], .v (.int .i64 f), .v (.slice ad args.length cap), .v (.slice ad2 l.length c2'), .v (.int .i64 most), .v (.int .i64 many), .a [.v (.int .i64 x.w), .v (.int .i64 x.n), .v (.int .i64 x.v.k), .v (.int .i64 x.v.n), .v (.slice ax x.v.l.length cx)]] (by simp) ?_
  intro C hP hQ hnt hty hmb hmh hro; have hQp := qp_bodyM hQ; refine st_ ?_
  refine rn_ ?_; intros
  rename_i b7 b12 b13 b14
  refine go_marks 5 rfl (by omega) ?_
  refine st_ ?_
  refine go_call (by rw [hnt]; rfl) (by rw [hP]; kernel_rfl) rfl (hP ▸ small_ok10 p _ G hps) ?_
  rintro _ G1 (hle1 : Le G G1) ⟨bs, rfl, hbs⟩
  cases bs with
  | false =>
    refine rn_ ?_; intros
    (refine go_gsplit rfl rfl (fun _ => ?_) (fun hc => absurd hc (by first | decide +kernel | (simp; first | done | fail))); refine st_ ?_; (refine rn_ ?_; intros))
    refine rn_ ?_; intros
    refine go_callf (by rw [hnt]; rfl) (by rw [hP]; kernel_rfl) rfl (hP ▸ works10_ok _) ?_; refine rn_ ?_; intros
    refine x_retM 5 rfl hQ hmb rfl rfl rfl (by rw [hty]; simp only [so, sq, zy, zz, tyE, SO', SQ', opQ, opStore, opAlloc, ev, putS, dOk, cv, SV.cs, SV.one, SV.bool?, eqB, Value.oneCell', ldOwn, binInt, binConst, binBool, binStr, isC, TK.agg, rv, rv1, ldV, resOne, resV, Nat.reduceAdd, Nat.reduceMul, Nat.reduceSub, Nat.reduceLT, Nat.reduceLeDiff, Nat.reduceEqDiff, Nat.reduceBEq, reduceIte, reduceCtorEq, eq_self]; try rfl) ?_; simp only [SV.den, resV, dens]
    try first | rfl | trivial
  | true =>
  have hsm := hbs rfl
  refine rn_ ?_; intros
  (refine go_gsplit rfl rfl (fun hc => absurd hc (by first | decide +kernel | (simp; first | done | fail))) (fun _ => ?_); refine st_ ?_; (refine rn_ ?_; intros))
  refine go_call (by rw [hnt]; rfl) (by rw [hP]; kernel_rfl) rfl (hP ▸ short_ok args _ 9 G1 ⟨ha63, ad, cap, rfl, haS.elim .inl fun ⟨b, off, cs, q1, q2, q3⟩ => .inr ⟨b, off, cs, q1, q2.mono hle1, repV_mono hle1 q3⟩⟩ hb) ?_
  rintro _ G2 (hle2 : Le G1 G2) ⟨bt, rfl, hbt⟩
  have hle12 := hle1.trans hle2
  cases bt with
  | false =>
    refine rn_ ?_; intros
    (refine go_gsplit rfl rfl (fun _ => ?_) (fun hc => absurd hc (by first | decide +kernel | (simp; first | done | fail))); refine st_ ?_; (refine rn_ ?_; intros))
    refine rn_ ?_; intros
    refine go_callf (by rw [hnt]; rfl) (by rw [hP]; kernel_rfl) rfl (hP ▸ works10_ok _) ?_; refine rn_ ?_; intros
    refine x_retM 5 rfl hQ hmb rfl rfl rfl (by rw [hty]; simp only [so, sq, zy, zz, tyE, SO', SQ', opQ, opStore, opAlloc, ev, putS, dOk, cv, SV.cs, SV.one, SV.bool?, eqB, Value.oneCell', ldOwn, binInt, binConst, binBool, binStr, isC, TK.agg, rv, rv1, ldV, resOne, resV, Nat.reduceAdd, Nat.reduceMul, Nat.reduceSub, Nat.reduceLT, Nat.reduceLeDiff, Nat.reduceEqDiff, Nat.reduceBEq, reduceIte, reduceCtorEq, eq_self]; try rfl) ?_; simp only [SV.den, resV, dens]
    try first | rfl | trivial
  | true =>
  obtain ⟨hal, has⟩ := hbt rfl
  refine rn_ ?_; intros
  (refine go_gsplit rfl rfl (fun hc => absurd hc (by first | decide +kernel | (simp; first | done | fail))) (fun _ => ?_); refine st_ ?_; (refine rn_ ?_; intros))
  refine go_call (by rw [hnt]; rfl) (by rw [hP]; kernel_rfl) rfl (hP ▸ few_ok l _ 15 G2 (Rp.S_mono hle12 hl) hlb) ?_
  rintro _ G3a (hle3a : Le G2 G3a) ⟨bu, rfl, hbu⟩
  have hle13a := hle12.trans hle3a
  cases bu with
  | false =>
    refine rn_ ?_; intros
    (refine go_gsplit rfl rfl (fun _ => ?_) (fun hc => absurd hc (by first | decide +kernel | (simp; first | done | fail))); refine st_ ?_; (refine rn_ ?_; intros))
    refine rn_ ?_; intros
    refine go_callf (by rw [hnt]; rfl) (by rw [hP]; kernel_rfl) rfl (hP ▸ works10_ok _) ?_; refine rn_ ?_; intros
    refine x_retM 5 rfl hQ hmb rfl rfl rfl (by rw [hty]; simp only [so, sq, zy, zz, tyE, SO', SQ', opQ, opStore, opAlloc, ev, putS, dOk, cv, SV.cs, SV.one, SV.bool?, eqB, Value.oneCell', ldOwn, binInt, binConst, binBool, binStr, isC, TK.agg, rv, rv1, ldV, resOne, resV, Nat.reduceAdd, Nat.reduceMul, Nat.reduceSub, Nat.reduceLT, Nat.reduceLeDiff, Nat.reduceEqDiff, Nat.reduceBEq, reduceIte, reduceCtorEq, eq_self]; try rfl) ?_; simp only [SV.den, resV, dens]
    try first | rfl | trivial
  | true =>
  obtain ⟨hll, hlx⟩ := hbu rfl
  have hS0 : rW.S G args (.slice ad args.length cap) := rW_ofS ⟨ha63, ad, cap, rfl, haS⟩ fun v hv => by have := has v hv; omega
  refine rn_ ?_; intros
  (refine go_gsplit rfl rfl (fun hc => absurd hc (by first | decide +kernel | (simp; first | done | fail))) (fun _ => ?_); refine st_ ?_; (refine rn_ ?_; intros))
  -- the one call
  refine go_torowN 6 (n := 1) (size := 5) rfl rfl (by omega) ?_
  refine go_pubL rA 6 rfl (by rw [hmh]; omega) (ts := [x]) rfl (by omega) (Rp.L_single ⟨_, rfl, VT.rep_mono hle13a hx, hxw, hxn⟩) ?_
  intro G3b ad9 cap9 (hle3b : Le G3a G3b) e9 hS9
  injection e9 with q1 q2 q3
  subst q1 q3
  refine go_call (by rw [hnt]; rfl) (by rw [hP]; kernel_rfl) rfl (hP ▸ few_ok [x] _ 1 G3b hS9 (fun y hy => by simp at hy; subst hy; exact hxb)) ?_
  rintro _ G3 (hle3c : Le G3b G3) ⟨bw, rfl, hbw⟩
  have hle13 := (hle13a.trans hle3b).trans hle3c
  cases bw with
  | false =>
    refine rn_ ?_; intros
    (refine go_gsplit rfl rfl (fun _ => ?_) (fun hc => absurd hc (by first | decide +kernel | (simp; first | done | fail))); refine st_ ?_; (refine rn_ ?_; intros))
    refine rn_ ?_; intros
    refine go_callf (by rw [hnt]; rfl) (by rw [hP]; kernel_rfl) rfl (hP ▸ works10_ok _) ?_; refine rn_ ?_; intros
    refine x_retM 5 rfl hQ hmb rfl rfl rfl (by rw [hty]; simp only [so, sq, zy, zz, tyE, SO', SQ', opQ, opStore, opAlloc, ev, putS, dOk, cv, SV.cs, SV.one, SV.bool?, eqB, Value.oneCell', ldOwn, binInt, binConst, binBool, binStr, isC, TK.agg, rv, rv1, ldV, resOne, resV, Nat.reduceAdd, Nat.reduceMul, Nat.reduceSub, Nat.reduceLT, Nat.reduceLeDiff, Nat.reduceEqDiff, Nat.reduceBEq, reduceIte, reduceCtorEq, eq_self]; try rfl) ?_; simp only [SV.den, resV, dens]
    try first | rfl | trivial
  | true =>
  obtain ⟨hxn2, hxt⟩ := (hbw rfl).2 x (by simp)
  refine rn_ ?_; intros
  (refine go_gsplit rfl rfl (fun hc => absurd hc (by first | decide +kernel | (simp; first | done | fail))) (fun _ => ?_); refine st_ ?_; (refine rn_ ?_; intros))
  refine go_gsplit rfl rfl (fun hmost => ?_) (fun hmost => ?_) <;> (refine st_ ?_; (refine rn_ ?_; intros))
  · refine rn_ ?_; intros
    refine go_callf (by rw [hnt]; rfl) (by rw [hP]; kernel_rfl) rfl (hP ▸ works10_ok _) ?_; refine rn_ ?_; intros
    refine x_retM 5 rfl hQ hmb rfl rfl rfl (by rw [hty]; simp only [so, sq, zy, zz, tyE, SO', SQ', opQ, opStore, opAlloc, ev, putS, dOk, cv, SV.cs, SV.one, SV.bool?, eqB, Value.oneCell', ldOwn, binInt, binConst, binBool, binStr, isC, TK.agg, rv, rv1, ldV, resOne, resV, Nat.reduceAdd, Nat.reduceMul, Nat.reduceSub, Nat.reduceLT, Nat.reduceLeDiff, Nat.reduceEqDiff, Nat.reduceBEq, reduceIte, reduceCtorEq, eq_self]; try rfl) ?_; simp only [SV.den, resV, dens]
    try first | rfl | trivial
  have hmost : most ≤ 100 := by simp at hmost; omega
  have hrp := rrightp_ok p _ G3 (Rp.S_mono hle13 hps)
  refine go_callf (by rw [hnt]; rfl) (by rw [hP]; kernel_rfl) rfl (hP ▸ hrp) ?_; refine rn_ ?_; intros
  cases hp : rgtP p with
  | false =>
    (refine x_split rfl rfl rfl (fun _ => ?_) (fun hc => absurd hc (by first | decide +kernel | (simp; first | done | fail))); refine st_ ?_; (refine ru_ ?_; intros))
    refine rn_ ?_; intros
    refine go_callf (by rw [hnt]; rfl) (by rw [hP]; kernel_rfl) rfl (hP ▸ works10_ok _) ?_; refine rn_ ?_; intros
    refine x_retM 5 rfl hQ hmb rfl rfl rfl (by rw [hty]; simp only [so, sq, zy, zz, tyE, SO', SQ', opQ, opStore, opAlloc, ev, putS, dOk, cv, SV.cs, SV.one, SV.bool?, eqB, Value.oneCell', ldOwn, binInt, binConst, binBool, binStr, isC, TK.agg, rv, rv1, ldV, resOne, resV, Nat.reduceAdd, Nat.reduceMul, Nat.reduceSub, Nat.reduceLT, Nat.reduceLeDiff, Nat.reduceEqDiff, Nat.reduceBEq, reduceIte, reduceCtorEq, eq_self]; try rfl) ?_; simp only [SV.den, resV, dens]
    try first | rfl | trivial
  | true =>
  (refine x_split rfl rfl rfl (fun hc => absurd hc (by first | decide +kernel | (simp; first | done | fail))) (fun _ => ?_); refine st_ ?_; (refine ru_ ?_; intros))
  refine rn_ ?_; intros
  refine go_call (by rw [hnt]; rfl) (by rw [hP]; kernel_rfl) rfl (hP ▸ load_ok p _ G3 (Rp.S_mono hle13 hps) (bd_of hp hsm) (by simpa [rgtP] using hp)) ?_
  rintro _ G4 (hle4 : Le G3 G4) ⟨cb, ps4, rfl, hc, hp4⟩
  have hle14 := hle13.trans hle4
  have hp1 := (yrgt hp).1.1
  have hpl : p.length ≤ 100 := by omega
  refine rn_ ?_; intros
  by_cases hbq : begQ p f args = 0
  rotate_left
  · refine go_call (by rw [hnt]; rfl) (by rw [hP]; kernel_rfl) rfl (hP ▸ beginE_ok p ps4 cb f args _ (begQ p f args) G4 hc hp4 hp1 hpl (by omega) (Rp.S_mono hle14 hS0) rfl hbq) ?_
    rintro _ G5 (hle5 : Le G4 G5) rfl
    refine rn_ ?_; intros
    refine go_call (by rw [hnt]; rfl) (by rw [hP]; kernel_rfl) rfl (hP ▸ rbegin_ok p _ f args _ G5 (Rp.S_mono (hle14.trans hle5) hps) hp (Rp.S_mono (hle14.trans hle5) hS0) (by omega)) ?_
    rintro _ G6 (hle6 : Le G5 G6) (⟨_, rfl⟩ | ⟨q, _⟩)
    rotate_left
    · exact absurd q hbq
    simp only [zeroF]
    refine rn_ ?_; intros
    (refine x_split rfl rfl rfl (fun _ => ?_) (fun hc => absurd hc (by simp [hbq])); refine st_ ?_; (refine ru_ ?_; intros))
    refine rn_ ?_; intros
    refine go_callf (by rw [hnt]; rfl) (by rw [hP]; kernel_rfl) rfl (hP ▸ numL_ok _ _) ?_; refine rn_ ?_; intros
    (refine go_gsplit rfl rfl (fun _ => ?_) (fun hc => absurd hc (by simp)); refine st_ ?_; (refine rn_ ?_; intros))
    refine go_callf (by rw [hnt]; rfl) (by rw [hP]; kernel_rfl) rfl (hP ▸ works10_ok _) ?_; refine rn_ ?_; intros
    refine x_retM 5 rfl hQ hmb rfl rfl rfl (by rw [hty]; simp only [so, sq, zy, zz, tyE, SO', SQ', opQ, opStore, opAlloc, ev, putS, dOk, cv, SV.cs, SV.one, SV.bool?, eqB, Value.oneCell', ldOwn, binInt, binConst, binBool, binStr, isC, TK.agg, rv, rv1, ldV, resOne, resV, Nat.reduceAdd, Nat.reduceMul, Nat.reduceSub, Nat.reduceLT, Nat.reduceLeDiff, Nat.reduceEqDiff, Nat.reduceBEq, reduceIte, reduceCtorEq, eq_self]; try rfl) ?_; simp only [SV.den, resV, dens]
    try first | rfl | trivial
  obtain ⟨hf0, hf1, hn, hall⟩ := begQ_no hbq
  obtain ⟨nd, hroot⟩ := PosOk.root hp hf0 hf1
  have hVX : VX p ⟨f, 0, args, []⟩ nd := ⟨by
    have : (fu p f.toNat).params.toNat = args.length := by omega
    rw [this] at hroot
    exact hroot, by simp, hall, by simp⟩
  obtain ⟨o, hd, hVO⟩ := down_ok 600 ⟨f, 0, args, []⟩ [] nd hVX trivial (by simp) (by omega)
  refine go_nilrow 20 42 3 rfl (by omega) ?_
  refine go_nilrow 21 42 3 rfl (by omega) ?_
  refine go_nilrow 22 42 3 rfl (by omega) ?_
  refine go_nilrow 23 42 3 rfl (by omega) ?_
  refine st_ ?_
  refine go_callT [20, 21, 22, 23] (by rw [hnt]; rfl) (by rw [hP]; kernel_rfl) rfl rfl rfl (by rw [hmh]; simp) (by rw [hP]; exact begin_ok p ps4 cb f args _ o G4 hc hp4 hf0 hf1 hpl hn (by omega) (Rp.S_mono hle14 hS0) hall hd) ?_
  rintro _ G5 ow5 (hle5 : Le G4 G5) ⟨bf, rfl, vlf, fsf, f1, f2, f3, rsf, Zf, v1, v2, v3, v4, v5, rfl⟩
  simp only [setO, fhO, frO, fzO, fdO]
  refine st_ ?_
  refine rn_ ?_; intros
  refine go_call (by rw [hnt]; rfl) (by rw [hP]; kernel_rfl) rfl (hP ▸ rbegin_ok p _ f args _ G5 (Rp.S_mono (hle14.trans hle5) hps) hp (Rp.S_mono (hle14.trans hle5) hS0) (by omega)) ?_
  rintro _ G6 (hle6 : Le G5 G6) (⟨q, _⟩ | ⟨_, o', hd', _, lsl0, vl0, rfl, hL0, hv0, ht0⟩)
  · exact absurd hbq q
  rw [hd] at hd'
  cases hd'
  obtain ⟨a0, c0, rfl⟩ := Rp.S_slice hL0.1
  obtain ⟨a1, c1, rfl⟩ := VT.rep_slice hv0
  simp only [fibV]
  refine rn_ ?_; intros
  rename_i b24
  (refine x_split rfl rfl rfl (fun hc => absurd hc (by first | decide +kernel | (simp; first | done | fail))) (fun _ => ?_); refine st_ ?_; (refine ru_ ?_; intros))
  refine rn_ ?_; intros
  have hVF0 : VF p ⟨o.1, vt0, o.2⟩ := ⟨.inl hVO, fun q => by
    rcases hVO with rfl | ⟨x', r', nd', _, h5, _⟩
    · cases q
    · have := h5.2.2.2.2
      simp only [] at q
      omega⟩
  refine go_keep [3, 4, 7, 12, 13, 14, 16, 17, 18, 19, 21] [0, 1, 2, 3, 5, 20, 21, 22, 23, 24] ?_
  refine st_ ?_
  refine x_loop (n := l.length) rfl (fun q s' => ∃ (i : Nat) (s : Fb) (bf : Nat) (vl fs : Value) (f1 f2 f3 : Nat) (rs : List Fw) (Z : Nat → Prop) (lsl vl2 : Value) (G8 : Hp), i ≤ l.length ∧ q = l.length - i ∧ Le G6 G8 ∧ VF p s ∧ RVal s ∧ s.val.rep G8 vl ∧ tsz s.val ≤ 1000 ∧ fsOk G8 s.l rs ∧ s.l.length ≤ 256 ∧ (∀ m x, s.l.head? = some m → rs.head? = some x → rW.S G8 m.done x.done.v) ∧ fmS G8 s.l lsl ∧ s.val.rep G8 vl2 ∧ tsz s.val ≤ 1000 ∧
    s' = ⟨[(3, .v (.slice ad2 l.length c2')), (4, .v (.int .i64 most)), (7, .p 0 b7 0), (12, .p 1 b12 0), (13, .p 2 b13 0), (14, .p 3 b14 0), (16, .v (.int .i64 0)), (17, .v (.pointer (some ⟨bf, 0, none⟩))), (18, .v (.int .i64 0)), (19, .p 24 b24 0), (21, .v (.int .i64 i))], [(0, b7, .c 24 [.v (.slice adp p.length cp)]), (1, b12, .c 3 [.v (.int .i64 many)]), (2, b13, .c 52 [.v (.int .i64 x.w), .v (.int .i64 x.n), .v (.int .i64 x.v.k), .v (.int .i64 x.v.n), .v (.slice ax x.v.l.length cx)]), (3, b14, .c 4 [.v (.bool false)]), (5, 0, dzO []), (20, bf, .c 93 [.v (.pointer (some ⟨cb, 0, none⟩)), .v (.int .i64 s.st), .v (.int .i64 s.val.k), .v (.int .i64 s.val.n), .v vl, .v fs]), (21, f1, .row fs 90 4 rs.length (encF rs)), (22, f2, .z (ZR ((rs.drop 1).map (·.done))) Z Z), (23, f3, .row rw0.v rw0.e rw0.size rw0.n rw0.xs), (24, b24, .c 44 [.v (.slice adp p.length cp), .v lsl, .v (.int .i64 s.st), .v (.int .i64 s.val.k), .v (.int .i64 s.val.n), .v vl2])], G8, []⟩)
    ⟨0, ⟨o.1, vt0, o.2⟩, bf, vlf, fsf, f1, f2, f3, rsf, Zf, _, _, G6, by omega, rfl, Le.refl _, hVF0, fun _ => rfl, VT.rep_mono hle6 v1, v2, v3.mono hle6, v4, fun m x q1 q2 => Rp.S_mono hle6 (v5 m x q1 q2), hL0, hv0, ht0, rfl⟩ ?_
  clear v1 v2 v3 v4 v5 hL0 hv0 ht0
  rintro q s' ⟨i, s, bf, vl, fs, f1, f2, f3, rs, Z, lsl, vl2, G8, hi, hq, hle68, hVF, hval, v1, v2, v3, v4, v5, hL, hv2, ht2, rfl⟩ ih
  obtain ⟨a5, c5, rfl⟩ := Rp.S_slice hL.1
  obtain ⟨a6, c6, rfl⟩ := VT.rep_slice hv2
  obtain ⟨a4, c4, rfl⟩ := VT.rep_slice v1
  have hle58 := hle6.trans hle68
  have hle48 := hle5.trans hle58
  refine rn_ ?_; intros
  refine x_if rfl rfl rfl rfl (fun h1 => ?_) (fun h1 => ?_)
  · have hlt : i < l.length := by simp at h1; omega
    obtain ⟨bA, oA, a9, c9, rfl, hatA, hrx, hw64, hn64⟩ := rA_at (Rp.S_mono (hle14.trans hle48) hl) hlt
    obtain ⟨hxn3, hxt3⟩ := hlx l[i] (List.getElem_mem _)
    obtain ⟨o2, ho2, hVF2, hval2⟩ := act_tot hp hVF hval l[i]
    refine rn_ ?_; intros
    refine x_heldP [(24, b24, .c 44 [.v (.slice adp p.length cp), .v (.slice a5 s.l.reverse.length c5), .v (.int .i64 s.st), .v (.int .i64 s.val.k), .v (.int .i64 s.val.n), .v (.slice a6 s.val.l.length c6)])] 12 rfl (by rw [hP]; kernel_rfl) rfl rfl rfl ?_; refine st_ ?_
    refine hu_take 0 rfl (by kernel_rfl) (by kernel_rfl) (by kernel_rfl) (by kernel_rfl) rfl (fun c a w v => hQp c a w _ v) (by rw [hnt]; rfl) (allIn (by repeat (first | exact trivial | refine ⟨rfl, ?_⟩))) (by first | exact Le.refl _ | assumption) (quiet_op (by rw [hty]; first | rfl | (refine st_ ?_; rfl))) ?_; refine st_ ?_
    refine hu_take 1 rfl (by kernel_rfl) (by kernel_rfl) (by kernel_rfl) (by kernel_rfl) rfl (fun c a w v => hQp c a w _ v) (by rw [hnt]; rfl) (allIn (by repeat (first | exact trivial | refine ⟨rfl, ?_⟩))) (by first | exact Le.refl _ | assumption) (quiet_op (by rw [hty]; first | rfl | (refine st_ ?_; rfl))) ?_; refine st_ ?_
    refine hu_take 2 rfl (by kernel_rfl) (by kernel_rfl) (by kernel_rfl) (by kernel_rfl) rfl (fun c a w v => hQp c a w _ v) (by rw [hnt]; rfl) (allIn (by repeat (first | exact trivial | refine ⟨rfl, ?_⟩))) (by first | exact Le.refl _ | assumption) (quiet_op (by rw [hty]; first | rfl | (refine st_ ?_; rfl))) ?_; refine st_ ?_
    refine hu_take 3 rfl (by kernel_rfl) (by kernel_rfl) (by kernel_rfl) (by kernel_rfl) rfl (fun c a w v => hQp c a w _ v) (by rw [hnt]; rfl) (allIn (by repeat (first | exact trivial | refine ⟨rfl, ?_⟩))) (by first | exact Le.refl _ | assumption) (quiet_op (by rw [hty]; first | rfl | (refine st_ ?_; rfl))) ?_; refine st_ ?_
    refine hu_take 4 rfl (by kernel_rfl) (by kernel_rfl) (by kernel_rfl) (by kernel_rfl) rfl (fun c a w v => hQp c a w _ v) (by rw [hnt]; rfl) (allIn (by repeat (first | exact trivial | refine ⟨rfl, ?_⟩))) (by first | exact Le.refl _ | assumption) (x := .v (.pointer (some ⟨bA, oA + i * 5, none⟩))) ((quiet_index (by rw [hty]; rfl) (by rw [hty]; rfl) rfl rfl rfl (by omega) (by omega)).cast (by simp [SV.den])) ?_
    refine st_ ?_
    refine hu_take 5 rfl (by kernel_rfl) (by kernel_rfl) (by kernel_rfl) (by kernel_rfl) rfl (fun c a w v => hQp c a w _ v) (by rw [hnt]; rfl) (allIn (by repeat (first | exact trivial | refine ⟨rfl, ?_⟩))) (by first | exact Le.refl _ | assumption) (x := .a [.v (.int .i64 l[i].w), .v (.int .i64 l[i].n), .v (.int .i64 l[i].v.k), .v (.int .i64 l[i].v.n), .v (.slice a9 l[i].v.l.length c9)]) ((quiet_load (by rw [hty]; rfl) rfl (by simp [TK.agg]) hatA rfl).cast (by rfl)) ?_
    refine st_ ?_
    refine hu_one 6 rfl (by kernel_rfl) ?_
    refine go_callT [20, 21, 22, 23] (by rw [hnt]; rfl) (by rw [hP]; kernel_rfl) rfl rfl rfl (by rw [hmh]; simp) (by rw [hP]; exact act_ok bf cb ps4 (.slice adp p.length cp) p hp s o2 l[i] _ _ _ G8 (hc.mono hle48) (Rp.S_mono hle48 hp4) (Rp.S_mono (hle14.trans hle48) hps) ⟨_, _, rfl, hL, hv2, ht2⟩ hVF hval ⟨_, fs, f1, f2, f3, rs, Z, v1, v2, v3, v4, v5, rfl⟩ hrx hxn3 hxt3 ho2) ?_
    rintro _ G9 ow9 (hle9 : Le G8 G9) ⟨b', lsl3, vl3, rfl, ⟨vl6, fs6, c1, c2, c3, rs6, Z6, w1, w2, w3, w4, w5, rfl⟩, hL3, hv3, ht3⟩
    obtain ⟨a5', c5', rfl⟩ := Rp.S_slice hL3.1
    obtain ⟨a6', c6', rfl⟩ := VT.rep_slice hv3
    simp only [setO, stk, fhO, frO, fzO, fdO, fibV]
    refine rn_ ?_; intros
    refine hs_ ?_
    refine hu_take0 7 rfl (by kernel_rfl) (by kernel_rfl) (by kernel_rfl) (by decide) (fun c a w v => hQp c a w _ v) (by rw [hnt]; rfl) (allIn (by repeat (first | exact trivial | refine ⟨rfl, ?_⟩))) (by first | exact Le.refl _ | assumption) (quiet_op (by rw [hty]; first | rfl | (refine st_ ?_; rfl))) ?_; refine st_ ?_
    refine hu_take0 8 rfl (by kernel_rfl) (by kernel_rfl) (by kernel_rfl) (by decide) (fun c a w v => hQp c a w _ v) (by rw [hnt]; rfl) (allIn (by repeat (first | exact trivial | refine ⟨rfl, ?_⟩))) (by first | exact Le.refl _ | assumption) (quiet_op (by rw [hty]; first | rfl | (refine st_ ?_; rfl))) ?_; refine st_ ?_
    refine hu_take0 9 rfl (by kernel_rfl) (by kernel_rfl) (by kernel_rfl) (by decide) (fun c a w v => hQp c a w _ v) (by rw [hnt]; rfl) (allIn (by repeat (first | exact trivial | refine ⟨rfl, ?_⟩))) (by first | exact Le.refl _ | assumption) (quiet_op (by rw [hty]; first | rfl | (refine st_ ?_; rfl))) ?_; refine st_ ?_
    refine hu_take0 10 rfl (by kernel_rfl) (by kernel_rfl) (by kernel_rfl) (by decide) (fun c a w v => hQp c a w _ v) (by rw [hnt]; rfl) (allIn (by repeat (first | exact trivial | refine ⟨rfl, ?_⟩))) (by first | exact Le.refl _ | assumption) (quiet_op (by rw [hty]; first | rfl | (refine st_ ?_; rfl))) ?_; refine st_ ?_
    refine hu_one 11 rfl (by kernel_rfl) ?_
    refine rn_ ?_; intros
    refine hs_ ?_
    refine hu_last 12 [] rfl (by kernel_rfl) rfl ?_
    refine rn_ ?_; intros
    refine h_end (by kernel_rfl) ?_
    refine rn_ ?_; intros
    rw [wr (n := (i : Int) + 1) (by omega) (by omega)]
    refine go_keep [3, 4, 7, 12, 13, 14, 16, 17, 18, 19, 21] [0, 1, 2, 3, 5, 20, 21, 22, 23, 24] ?_
    refine st_ ?_
    exact ih (l.length - (i + 1)) _ (by omega) ⟨i + 1, o2, b', vl6, fs6, c1, c2, c3, rs6, Z6, _, _, G9, by omega, rfl, hle68.trans hle9, hVF2, hval2, w1, w2, w3, w4, w5, hL3, hv3, ht3, rfl⟩
  clear ih hq hi h1
  -- the trail, by both
  obtain ⟨L, hL9, hLl⟩ := trail_tot hp most.toNat hVF
  refine rn_ ?_; intros
  refine go_call (by rw [hnt]; rfl) (by rw [hP]; kernel_rfl) rfl (hP ▸ rtrail_ok _ p hp s most L _ G8 (Rp.S_mono (hle14.trans hle48) hps) ⟨_, _, rfl, hL, hv2, ht2⟩ hVF hval hmost hL9) ?_
  rintro _ G9 (hle9 : Le G8 G9) hSw
  have hSw0 := hSw
  obtain ⟨adw, capw, rfl⟩ := Rp.S_slice hSw
  have hle49 := hle48.trans hle9
  refine rn_ ?_; intros
  refine go_callT [20, 21, 22, 23] (by rw [hnt]; rfl) (by rw [hP]; kernel_rfl) rfl rfl rfl (by rw [hmh]; simp) (by rw [hP]; exact trail_ok bf cb p hp ps4 s most L _ G9 (hc.mono hle49) (Rp.S_mono hle49 hp4) hVF ⟨_, fs, f1, f2, f3, rs, Z, VT.rep_mono hle9 v1, v2, v3.mono hle9, v4, fun m x q1 q2 => Rp.S_mono hle9 (v5 m x q1 q2), rfl⟩ hmost hL9) ?_
  rintro _ G10 ow10 (hle10 : Le G9 G10) ⟨⟨vl6, fs6, c1, c2, c3, rs6, Z6, w1, w2, w3, w4, w5, rfl⟩, fn, cpt, rfl, hfc, hit⟩
  obtain ⟨a7, c7, rfl⟩ := VT.rep_slice w1
  have hle410 := hle49.trans hle10
  simp only [setO, stk, fhO, frO, fzO, fdO]
  refine rn_ ?_; intros
  rename_i b22
  refine go_callf (by rw [hnt]; rfl) (by rw [hP]; kernel_rfl) rfl (hP ▸ numL_ok 0 _) ?_; refine rn_ ?_; intros
  refine go_callf (by rw [hnt]; rfl) (by rw [hP]; kernel_rfl) rfl (hP ▸ numL_ok 0 _) ?_; refine rn_ ?_; intros
  (refine go_gsplit rfl rfl (fun hc => absurd hc (by first | decide +kernel | (simp; first | done | fail))) (fun _ => ?_); refine st_ ?_; (refine rn_ ?_; intros))
  refine go_q (by rw [hnt]; rfl) (quiet_feq (by rw [hty]; rfl) rfl rfl) ?_
  refine rn_ ?_; intros
  (refine go_gsplit rfl rfl (fun hc => absurd hc (by first | decide +kernel | (simp; first | done | fail))) (fun _ => ?_); refine st_ ?_; (refine rn_ ?_; intros))
  refine go_rowC 21 rfl ?_
  intro adr capr er hcapr
  subst er
  refine go_callW [20, 21] (by rw [hnt]; rfl) (by rw [hP]; kernel_rfl) rfl rfl rfl (.inl (by rw [hmh]; simp)) (by rw [hP]; exact is_ok bf cb c1 _ ps4 (.slice adp p.length cp) adr capr p s rs6 _ G10 (hc.mono hle410) (Rp.S_mono hle410 hp4) (Rp.S_mono (hle14.trans hle410) hps) ⟨_, _, rfl, hL.mono (hle9.trans hle10), VT.rep_mono (hle9.trans hle10) hv2, ht2⟩ hVF hval ⟨w1, w2, w3, w4, w5⟩) ?_
  rintro _ G11 ow11 (hle11 : Le G10 G11) ⟨rfl, rfl⟩
  have hle411 := hle410.trans hle11
  have hle811 := (hle9.trans hle10).trans hle11
  simp only [setO, stk, fhO, frO]
  refine rn_ ?_; intros
  (refine x_split rfl rfl rfl (fun hc => absurd hc (by first | decide +kernel | (simp; first | done | fail))) (fun _ => ?_); refine st_ ?_; (refine ru_ ?_; intros))
  refine rn_ ?_; intros
  obtain ⟨o3, ho3, hVF3, hval3⟩ := act_tot hp hVF hval x
  refine go_callT [20, 21, 22, 23] (by rw [hnt]; rfl) (by rw [hP]; kernel_rfl) rfl rfl rfl (by rw [hmh]; simp) (by rw [hP]; exact act_ok bf cb ps4 (.slice adp p.length cp) p hp s o3 x _ _ _ G11 (hc.mono hle411) (Rp.S_mono hle411 hp4) (Rp.S_mono (hle14.trans hle411) hps) ⟨_, _, rfl, hL.mono hle811, VT.rep_mono hle811 hv2, ht2⟩ hVF hval ⟨_, _, c1, c2, c3, rs6, Z6, VT.rep_mono hle11 w1, w2, w3.mono hle11, w4, fun m x q1 q2 => Rp.S_mono hle11 (w5 m x q1 q2), rfl⟩ (VT.rep_mono (hle14.trans hle411) hx) hxn2 hxt ho3) ?_
  rintro _ G12 ow12 (hle12' : Le G11 G12) ⟨b', lsl3, vl3, rfl, ⟨vl8, fs8, d1, d2, d3, rs8, Z8, y1, y2, y3, y4, y5, rfl⟩, hL3, hv3, ht3⟩
  obtain ⟨a5', c5', rfl⟩ := Rp.S_slice hL3.1
  obtain ⟨a6', c6', rfl⟩ := VT.rep_slice hv3
  simp only [setO, stk, fhO, frO, fzO, fdO, fibV]
  refine go_keep [12, 14, 22, 23] [1, 3, 5, 25] ?_
  refine st_ ?_
  refine rn_ ?_; intros
  rename_i bt
  refine go_keep [12, 14, 22, 23, 24] [1, 3, 5, 25, 26] ?_
  refine st_ ?_
  have hit12 := hit.mono (hle11.trans hle12')
  have hSw12 := Rp.S_mono ((hle10.trans hle11).trans hle12') hSw0
  refine x_loop rfl (fun q s => ∃ (turn : Nat) (bt : Nat) (ds : List Nat) (G' : Hp), turn ≤ 2 ∧ q = 2 - turn ∧ Le G12 G' ∧
    s = ⟨[(12, .p 1 b12 0), (14, .p 3 b14 0), (22, .p 25 b22 0), (23, .v (.func (.func fn) #[] cpt.toArray)), (24, .p 26 bt 0)], [(1, b12, .c 3 [.v (.int .i64 many)]), (3, b14, .c 4 [.v (.bool false)]), (5, 0, dzO ds), (25, b22, .c 55 [.v (.slice adw L.length capw)]), (26, bt, .c 3 [.v (.int .i64 turn)])], G', ds.map mkD⟩) ⟨0, bt, [], G12, by omega, rfl, Le.refl _, rfl⟩ ?_
  clear bt
  rintro q s ⟨turn, bt, ds, G13, hturn, hq, hle13', rfl⟩ ih
  refine rn_ ?_; intros
  refine x_if rfl rfl rfl rfl (fun ht2 => ?_) (fun ht2 => ?_)
  · have hlt : turn < 2 := by simp at ht2; omega
    refine rn_ ?_; intros
    rename_i bn
    refine go_keep [12, 14, 22, 23, 24, 25, 132] [1, 3, 5, 25, 26, 27] ?_
    refine st_ ?_
    refine cut_tail 2 (fun s' => ∃ (m : Nat) (ds : List Nat) (G' : Hp), m ≤ L.length ∧ Le G12 G' ∧ (turn = 0 → (m : Int) = min (L.length : Int) (max 1 many)) ∧ (turn = 1 → m = L.length) ∧
      s' = ⟨[(12, .p 1 b12 0), (14, .p 3 b14 0), (22, .p 25 b22 0), (23, .v (.func (.func fn) #[] cpt.toArray)), (24, .p 26 bt 0), (25, .p 27 bn 0)], [(1, b12, .c 3 [.v (.int .i64 many)]), (3, b14, .c 4 [.v (.bool false)]), (5, 0, dzO ds), (25, b22, .c 55 [.v (.slice adw L.length capw)]), (26, bt, .c 3 [.v (.int .i64 turn)]), (27, bn, .c 3 [.v (.int .i64 m)])], G', ds.map mkD⟩) ?_ (fun key => ?_)
    rotate_left
    · simp only [List.drop_succ_cons, List.drop_zero] at key
      refine x_range 5 rfl rfl (ps := #[133, 134]) rfl hro hmh rfl rfl (by rw [hP]; exact hfc) (by rw [hnt]; decide) (by rw [hP]; exact hit12.mono hle13') (encII_mono _) (fun _ _ _ h => by obtain ⟨_, _, rfl⟩ := h; rfl)
        (fun i own => (turn = 0 → i = 0 ∨ (i : Int) < many) ∧ own = [(1, b12, .c 3 [.v (.int .i64 many)]), (3, b14, .c 4 [.v (.bool false)]), (5, 0, dzO ds), (25, b22, .c 55 [.v (.slice adw L.length capw)]), (26, bt, .c 3 [.v (.int .i64 turn)]), (27, bn, .c 3 [.v (.int .i64 i)])])
        (fun c own => ∃ i : Nat, c = .exit 4 ∧ turn = 0 ∧ i < L.length ∧ (i = 0 ∨ (i : Int) < many) ∧ many ≤ i + 1 ∧ own = [(1, b12, .c 3 [.v (.int .i64 many)]), (3, b14, .c 4 [.v (.bool false)]), (5, 0, dzO ds), (25, b22, .c 55 [.v (.slice adw L.length capw)]), (26, bt, .c 3 [.v (.int .i64 turn)]), (27, bn, .c 3 [.v (.int .i64 ((i : Int) + 1))])])
        (fun i own h => by obtain ⟨_, rfl⟩ := h; exact ⟨keys_lt rfl, (by repeat (first | exact plain_nil | refine plain_cons (fun _ h => h) ?_)), rfl⟩) (fun _ _ h => by obtain ⟨i, _, _, _, _, _, rfl⟩ := h; exact ⟨(by repeat (first | exact plain_nil | refine plain_cons (fun _ h => h) ?_)), rfl⟩) ⟨fun _ => .inl rfl, rfl⟩ ?_ ?_ ?_
      · rintro C' C0 i own vs G14 lp D r hiN ⟨hi0, rfl⟩ (hle14' : Le G13 G14) ⟨y, hLi, rfl⟩ hR
        rw [List.getElem?_eq_getElem hiN] at hLi
        simp only [Option.some.injEq] at hLi
        subst hLi
        obtain ⟨e1, o1, rfl, ha1⟩ := rP_at (Rp.S_mono (hle13'.trans hle14') hSw12) (i := i) hiN
        have hnt2 := hR.nt.trans hnt; have hty2 := hR.ty.trans hty; have hP2 := hR.P.trans hP; clear hQ hQp hnt hty hP hmh hmb hro; have hnt := hnt2; have hty := hty2; have hP := hP2; have hmh := hR.mh; have hQp := hR.qp; simp only [putsS, List.toList_toArray]; refine st_ ?_
        refine rn_ ?_; intros
        refine go_br rfl hR.ready ?_
        refine st_ ?_
        refine rn_ ?_; intros
        (refine go_gsplit rfl rfl (fun hc => absurd hc (by simp; omega)) (fun _ => ?_); refine st_ ?_; (refine rn_ ?_; intros))
        refine go_q (by rw [hnt]; rfl) (quiet_index (by rw [hty]; rfl) (by rw [hty]; rfl) rfl rfl rfl (by omega) (by omega)) ?_
        refine rn_ ?_; intros
        refine go_q (by rw [hnt]; rfl) (quiet_load (vs := [.int .i64 L[i].1, .int .i64 L[i].2]) (by rw [hty]; rfl) rfl (by simp [TK.agg]) (by simpa using ha1) rfl) ?_
        refine rn_ ?_; intros
        refine go_q (v := .bool false) (by rw [hnt]; rfl) ((quiet_aneq (by rw [hty]; rfl) (by rw [hty]; rfl) rfl rfl (by rw [hP]; kernel_rfl) rfl rfl rfl rfl).cast (by simp)) ?_
        refine rn_ ?_; intros
        (refine x_split rfl rfl rfl (fun hc => absurd hc (by simp)) (fun _ => ?_); refine st_ ?_; (refine ru_ ?_; intros))
        rw [wr (n := (i : Int) + 1) (by omega) (by omega)]
        refine go_keep [12, 24, 25, 151, 152, 153] [998, 999, 1, 3, 5, 25, 26, 27] ?_
        refine st_ ?_
        refine go_gsplit rfl rfl (fun ht => ?_) (fun ht => ?_) <;> (refine st_ ?_; (refine rn_ ?_; intros))
        · have ht0 : turn = 0 := by simp at ht; exact ht
          refine x_if rfl rfl rfl rfl (fun hmany => ?_) (fun hmany => ?_)
          · simp at hmany
            refine x_rexit rfl rfl rfl hR rfl rfl ?_
            simp only [rmk, reduceIte, Nat.reduceEqDiff]
            exact ⟨i, rfl, ht0, hiN, hi0 ht0, by omega, rfl⟩
          · simp at hmany
            refine x_skip rfl ?_
            refine go_blk ?_
            refine go_rend hR rfl rfl ?_
            simp only [rmk, reduceIte, Nat.reduceEqDiff]
            exact ⟨fun _ => .inr (by omega), rfl⟩
        · have ht0 : turn ≠ 0 := by simp at ht; exact ht
          refine go_rend hR rfl rfl ?_
          simp only [rmk, reduceIte, Nat.reduceEqDiff]
          exact ⟨fun h => absurd h ht0, rfl⟩
      · rintro D own G14 ⟨hi0, rfl⟩ (hle14' : Le G13 G14)
        refine st_ ?_
        refine go_blk ?_
        refine go_keep [12, 14, 22, 23, 24, 25] [1, 3, 5, 25, 26, 27] ?_
        refine st_ ?_
        exact key _ ⟨L.length, D :: ds, G14, Nat.le_refl _, hle13'.trans hle14', fun h => by rcases hi0 h with h | h <;> omega, fun _ => rfl, rfl⟩
      · rintro D c own G14 ⟨i, rfl, ht0, hiN, hi1, hi2, rfl⟩ (hle14' : Le G13 G14)
        refine st_ ?_
        refine x_exit rfl rfl rfl ?_
        refine go_keep [12, 14, 22, 23, 24, 25] [1, 3, 5, 25, 26, 27] ?_
        refine st_ ?_
        exact key _ ⟨i + 1, D :: ds, G14, hiN, hle13'.trans hle14', fun h => by omega, fun h => by omega, rfl⟩
    · rintro s' ⟨m2, ds, G15, hm2L, hle15, hn0, hn1, rfl⟩
      simp only [List.drop_succ_cons, List.drop_zero]
      refine rn_ ?_; intros
      have hr0 : turn = 0 → (m2 : Int) = if (if 1 < many then many else 1) < ↑L.length then if 1 < many then many else 1 else ↑L.length := fun h => by
        have := hn0 h
        rw [this]; split <;> split <;> omega
      refine go_gsplit rfl rfl (fun ht => ?_) (fun ht => ?_) <;> (refine st_ ?_; (refine rn_ ?_; intros))
      · have ht0 : turn = 0 := by simpa using ht
        (refine go_gsplit rfl rfl (fun hc => absurd hc (by simp [hr0 ht0])) (fun _ => ?_); refine st_ ?_; (refine rn_ ?_; intros))
        (refine go_gsplit rfl rfl (fun hc => absurd hc (by simp [ht0])) (fun _ => ?_); refine st_ ?_; (refine rn_ ?_; intros))
        repeat (refine go_gundef rfl (by rw [hnt]; rfl) rfl ?_; (refine st_ ?_; (refine rn_ ?_; intros)))
        rename_i b16
        rw [wr (n := (turn : Int) + 1) (by omega) (by omega)]
        refine go_keep [12, 14, 22, 23, 24] [1, 3, 5, 25, 28] ?_
        refine st_ ?_
        refine go_rekey 28 26 rfl rfl (by omega) (by omega) ?_
        refine st_ ?_
        refine go_slot 24 (.p 26 b16 0) rfl (by simp [SV.den]) ?_
        refine st_ ?_
        exact ih (2 - (turn + 1)) _ (by omega) ⟨turn + 1, b16, ds, G15, by omega, rfl, hle15, by simp⟩
      · have ht1 : turn = 1 := by
          have : turn ≠ 0 := by simpa using ht
          omega
        repeat (refine go_gundef rfl (by rw [hnt]; rfl) rfl ?_; (refine st_ ?_; (refine rn_ ?_; intros)))
        (refine go_gsplit rfl rfl (fun _ => ?_) (fun hc => absurd hc (by simp [ht1])); refine st_ ?_; (refine rn_ ?_; intros))
        (refine x_split rfl rfl rfl (fun hc => absurd hc (by simp [hn1 ht1])) (fun _ => ?_); refine st_ ?_; (refine ru_ ?_; intros))
        rename_i b16
        rw [wr (n := (turn : Int) + 1) (by omega) (by omega)]
        refine go_keep [12, 14, 22, 23, 24] [1, 3, 5, 25, 28] ?_
        refine st_ ?_
        refine go_rekey 28 26 rfl rfl (by omega) (by omega) ?_
        refine st_ ?_
        refine go_slot 24 (.p 26 b16 0) rfl (by simp [SV.den]) ?_
        refine st_ ?_
        exact ih (2 - (turn + 1)) _ (by omega) ⟨turn + 1, b16, ds, G15, by omega, rfl, hle15, by simp⟩
  · clear ih
    refine rn_ ?_; intros
    refine go_callf (by rw [hnt]; rfl) (by rw [hP]; kernel_rfl) rfl (hP ▸ works10_ok _) ?_; refine rn_ ?_; intros
    refine x_retM 5 rfl hQ hmb rfl rfl rfl (by rw [hty]; simp only [so, sq, zy, zz, tyE, SO', SQ', opQ, opStore, opAlloc, ev, putS, dOk, cv, SV.cs, SV.one, SV.bool?, eqB, Value.oneCell', ldOwn, binInt, binConst, binBool, binStr, isC, TK.agg, rv, rv1, ldV, resOne, resV, Nat.reduceAdd, Nat.reduceMul, Nat.reduceSub, Nat.reduceLT, Nat.reduceLeDiff, Nat.reduceEqDiff, Nat.reduceBEq, reduceIte, reduceCtorEq, eq_self]; try rfl) ?_; simp only [SV.den, resV, dens]
    try first | rfl | trivial
end Go.Proofs.YtpppkednpamhbaaGreat.R
