/-
  Package pick, layer 2: Waits and Went, iterators over threads.
-/
import Derived.Test.YtcaohcmlicbjhaaZ2
import Derived.Laws.StructEq
import Derived.Deep.Strs
import Derived.Deep.Slices
import Derived.Test.YtcaohcmlicbjhaaRows
import Derived.WalkKit
import Derived.ProofKit
import Derived.OpenShut
import Derived.JoinedCond
import Derived.Carry
set_option linter.unusedSimpArgs false
set_option linter.unusedVariables false
namespace Go.Proofs.Ytcaohcmlicbjhaa
set_option linter.unusedSimpArgs false
set_option linter.unusedVariables false
open Go.Sx
set_option maxHeartbeats 4000000
def encII (L : List (Int × Int)) (k : Nat) (vs : List Value) (_ : Hp) : Prop := ∃ x, L[k]? = some x ∧ vs = [.int .i64 x.1, .int .i64 x.2]
theorem encII_mono (L : List (Int × Int)) : ∀ k vs G G', Le G G' → encII L k vs G → encII L k vs G' := fun _ _ _ _ _ h => h
theorem each1_ok (G : Hp) : Iter Try.prog 31 [] G (encII []) 0 := by
  intro lp A B hy
  refine enterZ ty tyok Try.func31 rfl Try.ntmps31 [.v (.func (.yield lp) #[] #[])] (by simp) ?_
  intro C Z M hP hQ hnt hty hmb hmh hro hG0; have hQp := qp_body hQ; refine st_ ?_
  refine rn_ ?_; intros
  refine go_endZ hQ hmb hmh hG0 rfl (by rw [hty]; simp only [so, sq, zy, zz, tyE, SO', SQ', opQ, opStore, opAlloc, ev, putS, dOk, cv, SV.cs, SV.one, SV.bool?, eqB, Value.oneCell', ldOwn, binInt, binConst, binBool, binStr, isC, TK.agg, rv, rv1, ldV, resOne, resV, Nat.reduceAdd, Nat.reduceMul, Nat.reduceSub, Nat.reduceLT, Nat.reduceLeDiff, Nat.reduceEqDiff, Nat.reduceBEq, reduceIte, reduceCtorEq, eq_self]; try rfl) rfl rfl ?_
  exact .inl rfl
theorem waits1_ok (g : Nat) (c : Tal) (G : Hp) (h : At G g 0 (talV c)) : Pure Try.prog 27 [.pointer (some ⟨g, 0, none⟩)] G (fun r _ => r = .int .i64 c.most) := by
  have h2 : At G g 2 [.int .i64 c.most] := by simpa [talV] using h.sub 2 1 (by simp [talV])
  refine enterX ty tyok Try.func27 rfl Try.ntmps27 [.v (.pointer (some ⟨g, 0, none⟩))] (by simp) ?_
  intro C hP hQ hnt hty hmb hmh hro; have hQp := qp_body hQ; refine st_ ?_
  refine rn_ ?_; intros
  refine go_q (by rw [hnt]; rfl) (quiet_load (by rw [hty]; rfl) rfl (by simp [TK.agg]) h2 rfl) ?_; refine rn_ ?_; intros
  refine x_retc rfl hQ hmb rfl (by rw [hty]; simp only [so, sq, zy, zz, tyE, SO', SQ', opQ, opStore, opAlloc, ev, putS, dOk, cv, SV.cs, SV.one, SV.bool?, eqB, Value.oneCell', ldOwn, binInt, binConst, binBool, binStr, isC, TK.agg, rv, rv1, ldV, resOne, resV, Nat.reduceAdd, Nat.reduceMul, Nat.reduceSub, Nat.reduceLT, Nat.reduceLeDiff, Nat.reduceEqDiff, Nat.reduceBEq, reduceIte, reduceCtorEq, eq_self]; try rfl) rfl ?_; simp only [SV.den, resV, dens]
theorem went1_ok (g : Nat) (c : Tal) (G : Hp) (h : At G g 0 (talV c)) : Pure Try.prog 28 [.pointer (some ⟨g, 0, none⟩)] G (fun r _ => r = .int .i64 c.went) := by
  have h2 : At G g 3 [.int .i64 c.went] := by simpa [talV] using h.sub 3 1 (by simp [talV])
  refine enterX ty tyok Try.func28 rfl Try.ntmps28 [.v (.pointer (some ⟨g, 0, none⟩))] (by simp) ?_
  intro C hP hQ hnt hty hmb hmh hro; have hQp := qp_body hQ; refine st_ ?_
  refine rn_ ?_; intros
  refine go_q (by rw [hnt]; rfl) (quiet_load (by rw [hty]; rfl) rfl (by simp [TK.agg]) h2 rfl) ?_; refine rn_ ?_; intros
  refine x_retc rfl hQ hmb rfl (by rw [hty]; simp only [so, sq, zy, zz, tyE, SO', SQ', opQ, opStore, opAlloc, ev, putS, dOk, cv, SV.cs, SV.one, SV.bool?, eqB, Value.oneCell', ldOwn, binInt, binConst, binBool, binStr, isC, TK.agg, rv, rv1, ldV, resOne, resV, Nat.reduceAdd, Nat.reduceMul, Nat.reduceSub, Nat.reduceLT, Nat.reduceLeDiff, Nat.reduceEqDiff, Nat.reduceBEq, reduceIte, reduceCtorEq, eq_self]; try rfl) rfl ?_; simp only [SV.den, resV, dens]
theorem each2_ok (L : List (Int × Int)) (fn : FuncId) (b8 b3 b7 bm c : Nat) (s1 : Value) (es : MEs) (G : Hp) (hfn : canCall Try.prog fn = true) (h8 : At G b8 0 [s1]) (h3 : At G b3 0 [.func (.func fn) #[] #[]]) (h7 : At G b7 0 [.map (some bm)]) (hm : G bm = some (mObj .i64 es c)) (hS1 : rI.S G (L.map (·.1)) s1)
    (hg : ∀ x ∈ L, ∃ g, mget x.1 es = some (.pointer (some ⟨g, 0, none⟩)) ∧ ∀ G', Le G G' → Pure Try.prog fn [.pointer (some ⟨g, 0, none⟩)] G' (fun r _ => r = .int .i64 x.2)) :
    Iter Try.prog 34 [.pointer (some ⟨b8, 0, none⟩), .pointer (some ⟨b3, 0, none⟩), .pointer (some ⟨b7, 0, none⟩)] G (encII L) L.length := by
  obtain ⟨ad1, cap1, rfl⟩ := Rp.S_slice hS1
  have h63 := Rp.S_len hS1
  simp only [List.length_map] at h63 hS1 h8
  intro lp A B hy
  refine enterZ ty tyok Try.func34 rfl Try.ntmps34 [.v (.func (.yield lp) #[] #[]), .v (.pointer (some ⟨b8, 0, none⟩)), .v (.pointer (some ⟨b3, 0, none⟩)), .v (.pointer (some ⟨b7, 0, none⟩))] (by simp) ?_
  intro C Z M hP hQ hnt hty hmb hmh hro hG0; have hQp := qp_body hQ; refine st_ ?_
  have hy' : YOk C.P lp A B (encII L) L.length := by rw [hP]; exact hy
  refine rn_ ?_; intros
  refine go_q (by rw [hnt]; rfl) (quiet_load (by rw [hty]; rfl) rfl (by simp [TK.agg]) h8 rfl) ?_; refine rn_ ?_; intros
  refine go_keep [0, 1, 2, 3, 7, 8, 9] [0] ?_
  refine st_ ?_
  refine x_loop rfl (fun q s => ∃ (k : Nat) (G' : Hp) (Z' M' : Nat → Prop), k ≤ L.length ∧ q = L.length - k ∧ Le G G' ∧
    s = ⟨[(0, .v (.func (.yield lp) #[] #[])), (1, .v (.pointer (some ⟨b8, 0, none⟩))), (2, .v (.pointer (some ⟨b3, 0, none⟩))), (3, .v (.pointer (some ⟨b7, 0, none⟩))), (7, .v (.slice ad1 L.length cap1)), (8, .v (.int .i64 L.length)), (9, .v (.int .i64 k))], [(0, 0, .z (lim (A k) Z C.w0.heap.size) Z' M')], G', []⟩)
    ⟨0, G, _, _, by omega, rfl, Le.refl _, rfl⟩ ?_
  rintro q s ⟨k, G1, Z1, M1, hk, hq, hle, rfl⟩ ih
  refine rn_ ?_; intros
  refine x_if rfl rfl rfl rfl (fun hjl => ?_) (fun hjl => ?_)
  · have hlt : k < L.length := by simp at hjl; omega
    obtain ⟨c1, o1, rfl, ha1⟩ := rI_at hS1 (i := k) (by simpa using hlt)
    simp only [List.getElem_map] at ha1
    obtain ⟨g, hgk, hcf⟩ := hg _ (List.getElem_mem hlt)
    refine rn_ ?_; intros
    refine go_q (by rw [hnt]; rfl) (quiet_index (by rw [hty]; rfl) (by rw [hty]; rfl) rfl rfl rfl (by omega) (by omega)) ?_
    refine rn_ ?_; intros
    refine go_q (by rw [hnt]; rfl) (quiet_load (vs := [.int .i64 L[k].1]) (by rw [hty]; rfl) rfl (by simp [TK.agg]) (by simpa using ha1.mono hle) rfl) ?_
    refine rn_ ?_; intros
    refine go_q (by rw [hnt]; rfl) (quiet_load (by rw [hty]; rfl) rfl (by simp [TK.agg]) (h3.mono hle) rfl) ?_
    refine rn_ ?_; intros
    refine go_q (by rw [hnt]; rfl) (quiet_load (by rw [hty]; rfl) rfl (by simp [TK.agg]) (h7.mono hle) rfl) ?_
    refine rn_ ?_; intros
    refine go_q (v := .pointer (some ⟨g, 0, none⟩)) (by rw [hnt]; rfl) ((quiet_lookupG (ok := false) (z := .pointer none) (by rw [hty]; rfl) (by rw [hty]; rfl) (by rw [hP]; exact ⟨_, (by kernel_rfl : Try.prog.info? 60 = some Try.t60), rfl⟩) rfl rfl (hle _ _ hm)).cast (by rw [hgk]; rfl)) ?_
    refine rn_ ?_; intros
    refine go_callw (cap := []) (by rw [hnt]; rfl) (by rw [hP]; exact hfn) rfl rfl rfl (by rw [hP]; exact hcf _ hle) ?_
    rintro v G2 (hle2 : Le G1 G2) rfl
    refine rn_ ?_; intros
    refine go_yield 0 hy' (by rw [hnt]; rfl) rfl rfl rfl rfl hlt (⟨L[k], List.getElem?_eq_getElem hlt, rfl⟩) (fun Z2 M2 => ?_) (fun Z2 M2 => ?_)
    · refine rn_ ?_; intros
      rw [wr (n := (k : Int) + 1) (by omega) (by omega)]
      refine go_keep [0, 1, 2, 3, 7, 8, 9] [0] ?_
      refine st_ ?_
      exact ih (L.length - (k + 1)) _ (by omega) ⟨k + 1, G2, Z2, M2, by omega, rfl, hle.trans hle2, by simp⟩
    · refine rn_ ?_; intros
      refine x_retZ rfl hQ hmb hmh hG0 rfl (by rw [hty]; simp only [so, sq, zy, zz, tyE, SO', SQ', opQ, opStore, opAlloc, ev, putS, dOk, cv, SV.cs, SV.one, SV.bool?, eqB, Value.oneCell', ldOwn, binInt, binConst, binBool, binStr, isC, TK.agg, rv, rv1, ldV, resOne, resV, Nat.reduceAdd, Nat.reduceMul, Nat.reduceSub, Nat.reduceLT, Nat.reduceLeDiff, Nat.reduceEqDiff, Nat.reduceBEq, reduceIte, reduceCtorEq, eq_self]; try rfl) rfl rfl ?_
      exact .inr rfl
  · have hge : k = L.length := by simp at hjl; omega
    subst hge
    refine rn_ ?_; intros
    refine go_endZ hQ hmb hmh hG0 rfl (by rw [hty]; simp only [so, sq, zy, zz, tyE, SO', SQ', opQ, opStore, opAlloc, ev, putS, dOk, cv, SV.cs, SV.one, SV.bool?, eqB, Value.oneCell', ldOwn, binInt, binConst, binBool, binStr, isC, TK.agg, rv, rv1, ldV, resOne, resV, Nat.reduceAdd, Nat.reduceMul, Nat.reduceSub, Nat.reduceLT, Nat.reduceLeDiff, Nat.reduceEqDiff, Nat.reduceBEq, reduceIte, reduceCtorEq, eq_self]; try rfl) rfl rfl ?_
    exact .inl rfl
theorem stepK_len (i : Nat) (took t : Int) : ∀ T : TLs, (stepK i took t T).length ≤ T.length + 1
  | [] => by simp [stepK]
  | x :: T => by
    have := stepK_len i took t T
    simp only [stepK]
    split <;> simp <;> omega
theorem cntI_len (i : Nat) (took : Int) : ∀ (runs : List Int) (T : TLs), (cntI i took runs T).length ≤ T.length + runs.length
  | [], T => by simp [cntI]
  | t :: r, T => by
    have h1 := cntI_len i took r (stepK i took t T)
    have h2 := stepK_len i took t T
    simp only [cntI, List.foldl_cons, List.length_cons] at h1 ⊢
    omega
theorem cntG_len {m : Nat} : ∀ (l : List Tn) (i : Nat) (T : TLs), (∀ x ∈ l, x.runs.length ≤ m) → (cntG i T l).length ≤ T.length + l.length * m
  | [], i, T, _ => by simp [cntG]
  | y :: l, i, T, h => by
    have h1 := cntG_len l (i + 1) (cntI i y.took y.runs T) fun x hx => h x (by simp [hx])
    have h2 := cntI_len i y.took y.runs T
    have h3 := h y (by simp)
    simp only [cntG, List.length_cons, Nat.succ_mul]
    omega
theorem cntL_len {l : List Tn} (hl : l.length ≤ 1000) (hr : ∀ x ∈ l, x.runs.length ≤ 1000) : (cntL l).length ≤ 1000000 := by
  have := cntG_len (m := 1000) l 0 [] hr
  simp only [List.length_nil, Nat.zero_add] at this
  have h2 := Nat.mul_le_mul_right 1000 hl
  rw [cntL]; omega
theorem rT_i64 {G : Hp} {l : List Tn} {v : Value} (h : rT.S G l v) : ∀ x ∈ l, ∀ t ∈ x.runs, isI64 t := by
  intro x hx t ht
  obtain ⟨i, hi, rfl⟩ := List.getElem_of_mem hx
  obtain ⟨ad, cap, rfl⟩ := Rp.S_slice h
  obtain ⟨b, off, sa, cs, _, _, _, hr⟩ := rT_at h hi
  exact rI_ok hr t ht
theorem mget_esT : ∀ {gs : List Nat} {T : TLs} {i j g : Nat} {y : Int × Tal}, (keysT T).Nodup → gs[j]? = some g → T[j]? = some y → mget y.1 (esT i gs T) = some (.pointer (some ⟨g, 0, none⟩))
  | [], T, i, j, g, y, _, h, _ => by simp at h
  | g :: gs, [], i, j, _, y, _, _, h => by simp at h
  | g :: gs, z :: T, i, 0, _, y, _, h, h' => by simp at h h'; subst h h'; simp [esT, mget]
  | g :: gs, z :: T, i, j + 1, _, y, hn, h, h' => by
    simp only [keysT, List.map_cons, List.nodup_cons] at hn
    have hy : T[j]? = some y := by simpa using h'
    have hne : ¬ z.1 = y.1 := fun q => hn.1 (q ▸ List.mem_map.2 ⟨y, List.mem_of_getElem? hy, rfl⟩)
    simp only [esT, mget, hne, if_false]
    exact mget_esT (i := i + 1) hn.2 (by simpa using h) hy
def srt (l : List Tn) : List Int := (keysT (cntL l)).mergeSort leZ
def seqT (num : Tal → Nat) (l : List Tn) : List (Int × Int) := if (chk l).2 = 0 then (srt l).map fun t => (t, ((((tg t (cntL l)).map num).getD 0 : Nat) : Int)) else []
theorem each_ok (num : Tal → Nat) (fn : FuncId) (hfn : canCall Try.prog fn = true) (hnum : ∀ (g : Nat) (c : Tal) (G : Hp), At G g 0 (talV c) → Pure Try.prog fn [.pointer (some ⟨g, 0, none⟩)] G (fun r _ => r = .int .i64 (num c)))
    (l : List Tn) (s1 : Value) (G : Hp) (h1 : rT.S G l s1) (hl : l.length ≤ 1000) (hr : ∀ x ∈ l, x.runs.length ≤ 1000) :
    Pure Try.prog 26 [s1, .func (.func fn) #[] #[]] G (fun v G' => ∃ f cap, v = .func (.func f) #[] cap.toArray ∧ canCall Try.prog f = true ∧ Iter Try.prog f cap G' (encII (seqT num l)) (seqT num l).length) := by
  have h10 := h1
  obtain ⟨ad1, cap1, rfl⟩ := Rp.S_slice h1
  refine enterX ty tyok Try.func26 rfl Try.ntmps26 [.v (.slice ad1 l.length cap1), .v (.func (.func fn) #[] #[])] (by simp) ?_
  intro C hP hQ hnt hty hmb hmh hro; have hQp := qp_body hQ; refine st_ ?_
  refine rn_ ?_; intros
  rename_i b3
  refine go_call (by rw [hnt]; rfl) (by rw [hP]; kernel_rfl) rfl (hP ▸ check_ok l _ G h10) ?_
  rintro v G0 (hle0 : Le G G0) rfl
  refine st_ ?_
  refine rn_ ?_; intros
  refine x_split rfl rfl rfl (fun hc => ?_) (fun hc => ?_) <;> (refine st_ ?_; (refine ru_ ?_; intros))
  · refine rn_ ?_; intros
    refine x_retc rfl hQ hmb rfl (by rw [hty]; simp only [so, sq, zy, zz, tyE, SO', SQ', opQ, opStore, opAlloc, ev, putS, dOk, cv, SV.cs, SV.one, SV.bool?, eqB, Value.oneCell', ldOwn, binInt, binConst, binBool, binStr, isC, TK.agg, rv, rv1, ldV, resOne, resV, Nat.reduceAdd, Nat.reduceMul, Nat.reduceSub, Nat.reduceLT, Nat.reduceLeDiff, Nat.reduceEqDiff, Nat.reduceBEq, reduceIte, reduceCtorEq, eq_self]; try rfl) rfl ?_; simp only [SV.den, resV, dens]
    have h : ((chk l).2 != 0) = true := hc
    have e : seqT num l = [] := by rw [seqT, if_neg (by simpa using h)]
    rw [e]
    exact ⟨31, [], rfl, by kernel_rfl, each1_ok _⟩
  have hc' : (chk l).2 = 0 := by have h : ((chk l).2 != 0) = false := hc; simpa using h
  have hsq : seqT num l = (srt l).map fun t => (t, ((((tg t (cntL l)).map num).getD 0 : Nat) : Int)) := by rw [seqT, if_pos hc']
  refine rn_ ?_; intros
  refine go_call (by rw [hnt]; rfl) (by rw [hP]; kernel_rfl) rfl (hP ▸ count_ok l _ G0 (Rp.S_mono hle0 h10) hl hr) ?_
  rintro v G1 (hle1 : Le G0 G1) ⟨bm, rfl, hTM⟩
  obtain ⟨gs, hgs, hGm, hat⟩ := hTM.mono (diff_le _ _)
  have hnd := cntL_nd l
  have hlen := cntL_len hl hr
  have hk64 : ∀ t ∈ keysT (cntL l), isI64 t := fun t ht => by
    obtain ⟨x, hx, hxt⟩ := cntL_mem.1 ht
    exact rT_i64 h10 x hx t hxt
  refine st_ ?_
  refine rn_ ?_; intros
  rename_i b7
  refine go_call (by rw [hnt]; rfl) (by rw [hP]; kernel_rfl) rfl (hP ▸ keys_ok bm G1) ?_
  rintro v G2 (hle2 : Le G1 G2) ⟨bb, rfl, hbb⟩
  refine rn_ ?_; intros
  have hso := sorted_ok bm bb (cntL l).length (esT 0 gs (cntL l)) G2 (hle2 _ _ hGm) hbb (fun x hx => by
      obtain ⟨j, g, y, h1, h2, rfl⟩ := esT_mem hx
      have := (List.getElem?_eq_some_iff.1 h2).1
      exact ⟨hk64 _ (List.mem_map.2 ⟨y, List.mem_of_getElem? h2, rfl⟩), by simp only []; omega⟩)
    (by rw [esT_keys 0 hgs]; exact hnd) (by rw [esT_born 0 hgs]; exact List.nodup_range') (by rw [esT_len 0 hgs]; exact hlen)
  rw [esT_keys 0 hgs] at hso
  refine go_call (by rw [hnt]; rfl) (by rw [hP]; kernel_rfl) rfl (hP ▸ hso) ?_
  rintro v G3 (hle3 : Le G2 G3) hS5
  have hS5' : rI.S G3 (srt l) v := Rp.S_mono (diff_le _ _) hS5
  obtain ⟨ads, caps, rfl⟩ := Rp.S_slice hS5'
  refine rn_ ?_; intros
  rename_i b8
  refine go_pub 0 rfl (by omega) ?_
  rintro G4 (hle4 : Le G3 G4) hG4
  refine go_pub 1 rfl (by omega) ?_
  rintro G5 (hle5 : Le G4 G5) hG5
  refine go_pub 2 rfl (by omega) ?_
  rintro G6 (hle6 : Le G5 G6) hG6
  refine go_slot 4 (.v (.func (.func 34) #[] #[.pointer (some ⟨b8, 0, none⟩), .pointer (some ⟨b3, 0, none⟩), .pointer (some ⟨b7, 0, none⟩)])) rfl (by simp [SV.den, dens]) ?_
  refine st_ ?_
  refine rn_ ?_; intros
  refine x_retc rfl hQ hmb rfl (by rw [hty]; simp only [so, sq, zy, zz, tyE, SO', SQ', opQ, opStore, opAlloc, ev, putS, dOk, cv, SV.cs, SV.one, SV.bool?, eqB, Value.oneCell', ldOwn, binInt, binConst, binBool, binStr, isC, TK.agg, rv, rv1, ldV, resOne, resV, Nat.reduceAdd, Nat.reduceMul, Nat.reduceSub, Nat.reduceLT, Nat.reduceLeDiff, Nat.reduceEqDiff, Nat.reduceBEq, reduceIte, reduceCtorEq, eq_self]; try rfl) rfl ?_; simp only [SV.den, resV, dens]
  refine ⟨34, [.pointer (some ⟨b8, 0, none⟩), .pointer (some ⟨b3, 0, none⟩), .pointer (some ⟨b7, 0, none⟩)], rfl, by kernel_rfl, ?_⟩
  rw [hsq]
  have hle16 : Le G1 G6 := hle2.trans (hle3.trans (hle4.trans (hle5.trans hle6)))
  refine each2_ok _ fn b8 b3 b7 bm (cntL l).length (.slice ads (srt l).length caps) (esT 0 gs (cntL l)) G6 hfn (at_cells hG6) ((at_cells hG4).mono (hle5.trans hle6)) ((at_cells hG5).mono hle6) (hle16 _ _ hGm) ?_ ?_
  · rw [List.map_map]
    have : (srt l).map ((fun x : Int × Int => x.1) ∘ fun t => (t, ((((tg t (cntL l)).map num).getD 0 : Nat) : Int))) = srt l := by simp [Function.comp_def]
    rw [this]
    exact Rp.S_mono (hle4.trans (hle5.trans hle6)) hS5'
  · intro x hx
    obtain ⟨t, ht, rfl⟩ := List.mem_map.1 hx
    rw [srt, List.mem_mergeSort] at ht
    obtain ⟨y, hy, rfl⟩ := List.mem_map.1 ht
    obtain ⟨j, hj, rfl⟩ := List.getElem_of_mem hy
    have hgj := List.getElem?_eq_getElem (l := gs) (i := j) (by omega)
    have hTj := List.getElem?_eq_getElem hj
    refine ⟨gs[j]'(by omega), mget_esT hnd hgj hTj, fun G' hle' => ?_⟩
    have := hnum _ _ G' ((hat j _ _ hgj hTj).mono (hle16.trans hle'))
    simp only [tg_get hnd hy, Option.map_some, Option.getD_some]
    exact this
def seqW (l : List Tn) : List (Int × Int) := seqT Tal.most l
def seqN (l : List Tn) : List (Int × Int) := seqT Tal.went l
theorem waits_ok (l : List Tn) (s1 : Value) (G : Hp) (h1 : rT.S G l s1) (hl : l.length ≤ 1000) (hr : ∀ x ∈ l, x.runs.length ≤ 1000) :
    Pure Try.prog 10 [s1] G (fun v G' => ∃ f cap, v = .func (.func f) #[] cap.toArray ∧ canCall Try.prog f = true ∧ Iter Try.prog f cap G' (encII (seqW l)) (seqW l).length) := by
  have h10 := h1
  obtain ⟨ad1, cap1, rfl⟩ := Rp.S_slice h1
  refine enterX ty tyok Try.func10 rfl Try.ntmps10 [.v (.slice ad1 l.length cap1)] (by simp) ?_
  intro C hP hQ hnt hty hmb hmh hro; have hQp := qp_body hQ; refine st_ ?_
  refine rn_ ?_; intros
  refine go_call (by rw [hnt]; rfl) (by rw [hP]; kernel_rfl) rfl (hP ▸ each_ok Tal.most 27 (by kernel_rfl) waits1_ok l _ G h10 hl hr) ?_
  rintro v G1 (hle1 : Le G G1) ⟨f, cap, rfl, hf, hi⟩
  refine st_ ?_
  refine rn_ ?_; intros
  refine x_retc rfl hQ hmb rfl (by rw [hty]; simp only [so, sq, zy, zz, tyE, SO', SQ', opQ, opStore, opAlloc, ev, putS, dOk, cv, SV.cs, SV.one, SV.bool?, eqB, Value.oneCell', ldOwn, binInt, binConst, binBool, binStr, isC, TK.agg, rv, rv1, ldV, resOne, resV, Nat.reduceAdd, Nat.reduceMul, Nat.reduceSub, Nat.reduceLT, Nat.reduceLeDiff, Nat.reduceEqDiff, Nat.reduceBEq, reduceIte, reduceCtorEq, eq_self]; try rfl) rfl ?_; simp only [SV.den, resV, dens]
  exact ⟨f, cap, rfl, by rw [← hP]; exact hf, by rw [← hP]; exact hi⟩
theorem went_ok (l : List Tn) (s1 : Value) (G : Hp) (h1 : rT.S G l s1) (hl : l.length ≤ 1000) (hr : ∀ x ∈ l, x.runs.length ≤ 1000) :
    Pure Try.prog 11 [s1] G (fun v G' => ∃ f cap, v = .func (.func f) #[] cap.toArray ∧ canCall Try.prog f = true ∧ Iter Try.prog f cap G' (encII (seqN l)) (seqN l).length) := by
  have h10 := h1
  obtain ⟨ad1, cap1, rfl⟩ := Rp.S_slice h1
  refine enterX ty tyok Try.func11 rfl Try.ntmps11 [.v (.slice ad1 l.length cap1)] (by simp) ?_
  intro C hP hQ hnt hty hmb hmh hro; have hQp := qp_body hQ; refine st_ ?_
  refine rn_ ?_; intros
  refine go_call (by rw [hnt]; rfl) (by rw [hP]; kernel_rfl) rfl (hP ▸ each_ok Tal.went 28 (by kernel_rfl) went1_ok l _ G h10 hl hr) ?_
  rintro v G1 (hle1 : Le G G1) ⟨f, cap, rfl, hf, hi⟩
  refine st_ ?_
  refine rn_ ?_; intros
  refine x_retc rfl hQ hmb rfl (by rw [hty]; simp only [so, sq, zy, zz, tyE, SO', SQ', opQ, opStore, opAlloc, ev, putS, dOk, cv, SV.cs, SV.one, SV.bool?, eqB, Value.oneCell', ldOwn, binInt, binConst, binBool, binStr, isC, TK.agg, rv, rv1, ldV, resOne, resV, Nat.reduceAdd, Nat.reduceMul, Nat.reduceSub, Nat.reduceLT, Nat.reduceLeDiff, Nat.reduceEqDiff, Nat.reduceBEq, reduceIte, reduceCtorEq, eq_self]; try rfl) rfl ?_; simp only [SV.den, resV, dens]
  exact ⟨f, cap, rfl, by rw [← hP]; exact hf, by rw [← hP]; exact hi⟩
end Go.Proofs.Ytcaohcmlicbjhaa
namespace Go.Sx
set_option linter.unusedSimpArgs false
set_option linter.unusedVariables false
open Go.RowKit
section
variable {C : Ctx} {sl : List (Nat × SV)} {own : Owns} {G : Hp}
end
end Go.Sx
namespace Go.Proofs.Ytcaohcmlicbjhaa
set_option linter.unusedSimpArgs false
set_option linter.unusedVariables false
open Go.Sx
theorem rT_cons {G : Hp} {took : Int} {runs : List Int} {sl : Value} {l : List Tn} {cs : List Value} (h1 : isI64 took) (h2 : rI.S G runs sl) (h : rT.L G l cs) : rT.L G (⟨runs, took⟩ :: l) (sl :: .int .i64 took :: cs) := ⟨[sl, .int .i64 took], cs, rfl, ⟨sl, rfl, h1, h2⟩, h⟩
theorem rT_row {G : Hp} {b n : Nat} {l : List Tn} {cs : List Value} {e : TypeId} (h : G b = some (.cells cs.toArray e)) (hn : l.length = n) (h63 : n ≤ 1000) (hL : rT.L G l cs) : rT.S G l (.slice (some ⟨b, 0, none⟩) n n) :=
  ⟨by omega, _, _, by rw [hn], .inr ⟨b, 0, _, rfl, at_cells h, hL⟩⟩
def l3 : List Tn := [⟨[0, 1], 0⟩, ⟨[0, 1], 0⟩, ⟨[0, 1], 1⟩]
theorem srt3 : srt l3 = [0, 1] := by
  rw [srt, show keysT (cntL l3) = [0, 1] by kernel_rfl]
  exact sort_eq (List.Perm.refl _) (by simp)
theorem seqW3 : seqW l3 = [(0, 1), (1, 2)] := by
  rw [seqW, seqT, if_pos (by kernel_rfl), srt3]; kernel_rfl
theorem seqN3 : seqN l3 = [(0, 2), (1, 1)] := by
  rw [seqN, seqT, if_pos (by kernel_rfl), srt3]; kernel_rfl
theorem rI_2 {G : Hp} {b : Nat} {x y : Int} {e : TypeId} (h : G b = some (.cells (dens [.v (.int .i64 x), .v (.int .i64 y)]).toArray e)) (hx : isI64 x) (hy : isI64 y) : rI.S G [x, y] (.slice (some ⟨b, 0, none⟩) 2 2) :=
  ⟨by simp, _, _, rfl, .inr ⟨b, 0, _, rfl, at_cells h, rI_L.2 ⟨rfl, by simp; exact ⟨hx, hy⟩⟩⟩⟩
theorem rI_1 {G : Hp} {b : Nat} {x : Int} {e : TypeId} (h : G b = some (.cells (dens [.v (.int .i64 x)]).toArray e)) (hx : isI64 x) : rI.S G [x] (.slice (some ⟨b, 0, none⟩) 1 1) :=
  ⟨by simp, _, _, rfl, .inr ⟨b, 0, _, rfl, at_cells h, rI_L.2 ⟨rfl, by simp; exact hx⟩⟩⟩
theorem rI_3 {G : Hp} {b : Nat} {x y z : Int} {e : TypeId} (h : G b = some (.cells (dens [.v (.int .i64 x), .v (.int .i64 y), .v (.int .i64 z)]).toArray e)) (hx : isI64 x) (hy : isI64 y) (hz : isI64 z) : rI.S G [x, y, z] (.slice (some ⟨b, 0, none⟩) 3 3) :=
  ⟨by simp, _, _, rfl, .inr ⟨b, 0, _, rfl, at_cells h, rI_L.2 ⟨rfl, by simp; exact ⟨hx, hy, hz⟩⟩⟩⟩
set_option maxHeartbeats 8000000
set_option maxRecDepth 20000
theorem works_ok (G : Hp) : Pure Try.prog 7 [] G (fun r _ => r = .bool true) := by
  refine enterM ty tyok Try.func7 rfl Try.ntmps7 [] (by simp) ?_
  intro C hP hQ hnt hty hmb hmh hro; have hQp := qp_bodyM hQ; refine st_ ?_
  refine rn_ ?_; intros
  rename_i b0
  refine go_marks 5 rfl (by omega) ?_
  refine st_ ?_
  refine go_call (by rw [hnt]; rfl) (by rw [hP]; kernel_rfl) rfl (hP ▸ index73_ok 3 (.inl rfl) _) ?_
  rintro v G1 (hle1 : Le G G1) rfl
  refine st_ ?_
  refine rn_ ?_; intros
  refine go_call (by rw [hnt]; rfl) (by rw [hP]; kernel_rfl) rfl (hP ▸ index73_ok 0 (.inr rfl) _) ?_
  rintro v G2 (hle2 : Le G1 G2) rfl
  refine st_ ?_
  refine rn_ ?_; intros
  simp only [show ((0 : Int) == 3) = false from rfl, show (if (0 : Int) = 3 then (1 : Int) else 0) = 0 from rfl]
  rename_i b5
  refine go_pub 6 rfl (by omega) ?_
  rintro G3 (hle3 : Le G2 G3) hG3
  refine go_slot 37 (.v (.slice (some ⟨b5, 0, none⟩) 2 2)) rfl (by simp [SV.den]) ?_
  refine st_ ?_
  refine go_call (by rw [hnt]; rfl) (by rw [hP]; kernel_rfl) rfl (hP ▸ picks_ok [0, 255] _ _ ⟨by simp, _, _, rfl, .inr ⟨b5, 0, _, rfl, at_cells hG3, rK_L (by simp)⟩⟩ (by simp)) ?_
  rintro v G4 (hle4 : Le G3 G4) hp4
  have hp0 := hp4
  obtain ⟨adp, capp, rfl⟩ := Rp.S_slice hp4
  obtain ⟨c1, o1, rfl, hq1, _⟩ := rK_at hp0 (i := 0) (by simp)
  obtain ⟨c2, o2, e2, hq2, _⟩ := rK_at hp0 (i := 1) (by simp)
  cases e2
  refine st_ ?_
  refine rn_ ?_; intros
  rename_i b6
  refine go_keep [0, 1, 2, 4, 5, 40] [0, 5, 6] ?_
  refine st_ ?_
  have i0 : isI64 0 := by simp [isI64]
  have i1 : isI64 1 := by simp [isI64]
  have i2 : isI64 2 := by simp [isI64]
  refine go_pub 6 rfl (by omega) ?_
  rintro G5 (hle5 : Le G4 G5) hG5
  refine go_slot 40 (.v (.slice (some ⟨b6, 0, none⟩) 3 3)) rfl (by simp [SV.den]) ?_
  refine st_ ?_
  have hn1 := next_ok 1 [0, 1, 2] _ G5 (rI_3 hG5 i0 i1 i2)
  rw [show nxt 1 [0, 1, 2] = (2, true) from by decide] at hn1
  refine go_call (by rw [hnt]; rfl) (by rw [hP]; kernel_rfl) rfl (hP ▸ hn1) ?_
  rintro v G6 (hle6 : Le G5 G6) rfl
  clear hn1
  refine st_ ?_
  refine rn_ ?_; intros
  rename_i b7
  refine go_keep [0, 1, 2, 4, 5, 6, 7, 45] [0, 5, 6] ?_
  refine st_ ?_
  refine go_pub 6 rfl (by omega) ?_
  rintro G7 (hle7 : Le G6 G7) hG7
  refine go_slot 45 (.v (.slice (some ⟨b7, 0, none⟩) 3 3)) rfl (by simp [SV.den]) ?_
  refine st_ ?_
  have hn2 := next_ok 2 [0, 1, 2] _ G7 (rI_3 hG7 i0 i1 i2)
  rw [show nxt 2 [0, 1, 2] = (0, true) from by decide] at hn2
  refine go_call (by rw [hnt]; rfl) (by rw [hP]; kernel_rfl) rfl (hP ▸ hn2) ?_
  rintro v G8 (hle8 : Le G7 G8) rfl
  clear hn2
  refine st_ ?_
  refine rn_ ?_; intros
  have hn3 := next_ok 5 [] (.slice none 0 0) G8 (Rp.S_nil _ _)
  rw [show nxt 5 [] = (0, false) from by decide] at hn3
  refine go_call (by rw [hnt]; rfl) (by rw [hP]; kernel_rfl) rfl (hP ▸ hn3) ?_
  rintro v G9 (hle9 : Le G8 G9) rfl
  clear hn3
  refine st_ ?_
  refine rn_ ?_; intros
  rename_i b8
  refine go_keep [0, 1, 2, 4, 5, 6, 7, 8, 9, 11, 53] [0, 5, 6] ?_
  refine st_ ?_
  refine go_pub 6 rfl (by omega) ?_
  rintro G10 (hle10 : Le G9 G10) hG10
  refine go_slot 53 (.v (.slice (some ⟨b8, 0, none⟩) 2 2)) rfl (by simp [SV.den]) ?_
  refine st_ ?_
  refine go_callf (by rw [hnt]; rfl) (by rw [hP]; kernel_rfl) rfl (hP ▸ of_ok 0 _ 2 2 _) ?_; refine rn_ ?_; intros
  rename_i b9
  refine go_pub 6 rfl (by omega) ?_
  rintro G11 (hle11 : Le G10 G11) hG11
  refine go_slot 55 (.v (.slice (some ⟨b9, 0, none⟩) 2 2)) rfl (by simp [SV.den]) ?_
  refine st_ ?_
  refine go_callf (by rw [hnt]; rfl) (by rw [hP]; kernel_rfl) rfl (hP ▸ of_ok 0 _ 2 2 _) ?_; refine rn_ ?_; intros
  rename_i b10
  refine go_pub 6 rfl (by omega) ?_
  rintro G12 (hle12 : Le G11 G12) hG12
  refine go_slot 57 (.v (.slice (some ⟨b10, 0, none⟩) 2 2)) rfl (by simp [SV.den]) ?_
  refine st_ ?_
  refine go_callf (by rw [hnt]; rfl) (by rw [hP]; kernel_rfl) rfl (hP ▸ of_ok 1 _ 2 2 _) ?_; refine rn_ ?_; intros
  rename_i b11
  refine go_keep [0, 1, 2, 4, 5, 6, 7, 8, 9, 11, 12, 61, 62] [0, 5, 6] ?_
  refine st_ ?_
  refine go_pub 6 rfl (by omega) ?_
  rintro G13 (hle13 : Le G12 G13) hG13
  refine go_slot 12 (.v (.slice (some ⟨b11, 0, none⟩) 3 3)) rfl (by simp [SV.den]) ?_
  refine st_ ?_
  have h1213 := hle13
  have h1113 := hle12.trans h1213
  have h1013 := hle11.trans h1113
  have hS13 : rT.S G13 l3 (.slice (some ⟨b11, 0, none⟩) 3 3) := rT_row hG13 rfl (by omega) (rT_cons i0 (Rp.S_mono h1013 (rI_2 hG10 i0 i1)) (rT_cons i0 (Rp.S_mono h1113 (rI_2 hG11 i0 i1)) (rT_cons i1 (Rp.S_mono h1213 (rI_2 hG12 i0 i1)) rfl)))
  have h413 : Le G4 G13 := hle5.trans (hle6.trans (hle7.trans (hle8.trans (hle9.trans (hle10.trans h1013)))))
  have ha1 : At G13 c1 o1 [.int .u64 0] := by simpa using hq1.mono h413
  have ha2 : At G13 c1 (o1 + 1) [.int .u64 255] := by simpa using hq2.mono h413
  have hl3 : ∀ x ∈ l3, x.runs.length ≤ 1000 := by simp [l3]
  clear hq1 hq2 hG3 hG5 hG7
  repeat (first | (refine go_gsplit rfl rfl (fun hc => absurd hc (by first | decide +kernel | (simp; first | done | fail))) (fun _ => ?_); refine st_ ?_; (refine rn_ ?_; intros)) | (refine go_gsplit rfl rfl (fun _ => ?_) (fun hc => absurd hc (by first | decide +kernel | (simp; first | done | fail))); refine st_ ?_; (refine rn_ ?_; intros)) | (refine x_split rfl rfl rfl (fun hc => absurd hc (by first | decide +kernel | (simp; first | done | fail))) (fun _ => ?_); refine st_ ?_; (refine ru_ ?_; intros)) | (refine x_split rfl rfl rfl (fun _ => ?_) (fun hc => absurd hc (by first | decide +kernel | (simp; first | done | fail))); refine st_ ?_; (refine ru_ ?_; intros)))
  refine go_q (by rw [hnt]; rfl) (quiet_index (by rw [hty]; rfl) (by rw [hty]; rfl) rfl rfl rfl (by omega) (by omega)) ?_
  refine rn_ ?_; intros
  refine go_q (by rw [hnt]; rfl) (quiet_load (by rw [hty]; rfl) rfl (by simp [TK.agg]) ha1 rfl) ?_; refine rn_ ?_; intros
  repeat (first | (refine go_gsplit rfl rfl (fun hc => absurd hc (by first | decide +kernel | (simp; first | done | fail))) (fun _ => ?_); refine st_ ?_; (refine rn_ ?_; intros)) | (refine go_gsplit rfl rfl (fun _ => ?_) (fun hc => absurd hc (by first | decide +kernel | (simp; first | done | fail))); refine st_ ?_; (refine rn_ ?_; intros)) | (refine x_split rfl rfl rfl (fun hc => absurd hc (by first | decide +kernel | (simp; first | done | fail))) (fun _ => ?_); refine st_ ?_; (refine ru_ ?_; intros)) | (refine x_split rfl rfl rfl (fun _ => ?_) (fun hc => absurd hc (by first | decide +kernel | (simp; first | done | fail))); refine st_ ?_; (refine ru_ ?_; intros)))
  refine go_q (by rw [hnt]; rfl) (quiet_index (by rw [hty]; rfl) (by rw [hty]; rfl) rfl rfl rfl (by omega) (by omega)) ?_
  refine rn_ ?_; intros
  refine go_q (by rw [hnt]; rfl) (quiet_load (by rw [hty]; rfl) rfl (by simp [TK.agg]) ha2 rfl) ?_; refine rn_ ?_; intros
  repeat (first | (refine go_gsplit rfl rfl (fun hc => absurd hc (by first | decide +kernel | (simp; first | done | fail))) (fun _ => ?_); refine st_ ?_; (refine rn_ ?_; intros)) | (refine go_gsplit rfl rfl (fun _ => ?_) (fun hc => absurd hc (by first | decide +kernel | (simp; first | done | fail))); refine st_ ?_; (refine rn_ ?_; intros)) | (refine x_split rfl rfl rfl (fun hc => absurd hc (by first | decide +kernel | (simp; first | done | fail))) (fun _ => ?_); refine st_ ?_; (refine ru_ ?_; intros)) | (refine x_split rfl rfl rfl (fun _ => ?_) (fun hc => absurd hc (by first | decide +kernel | (simp; first | done | fail))); refine st_ ?_; (refine ru_ ?_; intros)))
  refine go_callf (by rw [hnt]; rfl) (by rw [hP]; kernel_rfl) rfl (hP ▸ fair_ok 2 l3 _ _ hS13 (by simp [l3]) hl3) ?_; refine rn_ ?_; intros
  rw [show fairB 2 l3 = false by kernel_rfl]
  repeat (first | (refine go_gsplit rfl rfl (fun hc => absurd hc (by first | decide +kernel | (simp; first | done | fail))) (fun _ => ?_); refine st_ ?_; (refine rn_ ?_; intros)) | (refine go_gsplit rfl rfl (fun _ => ?_) (fun hc => absurd hc (by first | decide +kernel | (simp; first | done | fail))); refine st_ ?_; (refine rn_ ?_; intros)) | (refine x_split rfl rfl rfl (fun hc => absurd hc (by first | decide +kernel | (simp; first | done | fail))) (fun _ => ?_); refine st_ ?_; (refine ru_ ?_; intros)) | (refine x_split rfl rfl rfl (fun _ => ?_) (fun hc => absurd hc (by first | decide +kernel | (simp; first | done | fail))); refine st_ ?_; (refine ru_ ?_; intros)))
  refine go_callf (by rw [hnt]; rfl) (by rw [hP]; kernel_rfl) rfl (hP ▸ fair_ok 3 l3 _ _ hS13 (by simp [l3]) hl3) ?_; refine rn_ ?_; intros
  rw [show fairB 3 l3 = true by kernel_rfl]
  repeat (first | (refine go_gsplit rfl rfl (fun hc => absurd hc (by first | decide +kernel | (simp; first | done | fail))) (fun _ => ?_); refine st_ ?_; (refine rn_ ?_; intros)) | (refine go_gsplit rfl rfl (fun _ => ?_) (fun hc => absurd hc (by first | decide +kernel | (simp; first | done | fail))); refine st_ ?_; (refine rn_ ?_; intros)) | (refine x_split rfl rfl rfl (fun hc => absurd hc (by first | decide +kernel | (simp; first | done | fail))) (fun _ => ?_); refine st_ ?_; (refine ru_ ?_; intros)) | (refine x_split rfl rfl rfl (fun _ => ?_) (fun hc => absurd hc (by first | decide +kernel | (simp; first | done | fail))); refine st_ ?_; (refine ru_ ?_; intros)))
  refine go_keep [0, 12, 114] [0, 5] ?_
  refine st_ ?_
  have hw := waits_ok l3 _ G13 hS13 (by simp [l3]) hl3
  rw [seqW3] at hw
  refine go_call (by rw [hnt]; rfl) (by rw [hP]; kernel_rfl) rfl (hP ▸ hw) ?_
  rintro v G14 (hle14 : Le G13 G14) ⟨f1, p1, rfl, hf1, hi1⟩
  refine st_ ?_
  refine rn_ ?_; intros
  have hw2 := went_ok l3 _ G14 (Rp.S_mono hle14 hS13) (by simp [l3]) hl3
  rw [seqN3] at hw2
  refine go_call (by rw [hnt]; rfl) (by rw [hP]; kernel_rfl) rfl (hP ▸ hw2) ?_
  rintro v G15 (hle15 : Le G14 G15) ⟨f2, p2, rfl, hf2, hi2⟩
  refine st_ ?_
  refine rn_ ?_; intros
  refine go_q (by rw [hnt]; rfl) (quiet_feq (by rw [hty]; rfl) rfl rfl) ?_
  refine rn_ ?_; intros
  repeat (first | (refine go_gsplit rfl rfl (fun hc => absurd hc (by first | decide +kernel | (simp; first | done | fail))) (fun _ => ?_); refine st_ ?_; (refine rn_ ?_; intros)) | (refine go_gsplit rfl rfl (fun _ => ?_) (fun hc => absurd hc (by first | decide +kernel | (simp; first | done | fail))); refine st_ ?_; (refine rn_ ?_; intros)) | (refine x_split rfl rfl rfl (fun hc => absurd hc (by first | decide +kernel | (simp; first | done | fail))) (fun _ => ?_); refine st_ ?_; (refine ru_ ?_; intros)) | (refine x_split rfl rfl rfl (fun _ => ?_) (fun hc => absurd hc (by first | decide +kernel | (simp; first | done | fail))); refine st_ ?_; (refine ru_ ?_; intros)))
  refine go_q (by rw [hnt]; rfl) (quiet_feq (by rw [hty]; rfl) rfl rfl) ?_
  refine rn_ ?_; intros
  repeat (first | (refine go_gsplit rfl rfl (fun hc => absurd hc (by first | decide +kernel | (simp; first | done | fail))) (fun _ => ?_); refine st_ ?_; (refine rn_ ?_; intros)) | (refine go_gsplit rfl rfl (fun _ => ?_) (fun hc => absurd hc (by first | decide +kernel | (simp; first | done | fail))); refine st_ ?_; (refine rn_ ?_; intros)) | (refine x_split rfl rfl rfl (fun hc => absurd hc (by first | decide +kernel | (simp; first | done | fail))) (fun _ => ?_); refine st_ ?_; (refine ru_ ?_; intros)) | (refine x_split rfl rfl rfl (fun _ => ?_) (fun hc => absurd hc (by first | decide +kernel | (simp; first | done | fail))); refine st_ ?_; (refine ru_ ?_; intros)))
  refine go_keep [0, 14, 124] [0, 5] ?_
  refine st_ ?_
  clear hw hw2
  refine x_range 5 rfl rfl (ps := #[125, 126]) rfl hro hmh rfl rfl hf1 (by rw [hnt]; decide) (hi1.mono hle15) (encII_mono _) (fun _ _ _ h => by obtain ⟨_, _, rfl⟩ := h; rfl)
    (fun i own => own = [(0, b0, .c 4 [.v (.bool false)]), (5, 0, dzO [])]) (fun c own => False)
    (fun i own h => by subst h; exact ⟨keys_lt rfl, (by repeat (first | exact plain_nil | refine plain_cons (fun _ h => h) ?_)), rfl⟩) (fun _ _ h => h.elim) (by rfl) ?_ ?_ ?_
  · rintro C' C0 i own vs G7 lp D r hiN rfl (hle7 : Le G15 G7) ⟨x, hLi, rfl⟩ hR
    have hx : x = (0, 1) ∨ x = (1, 2) := by simpa using List.mem_of_getElem? hLi
    clear hLi
    have hnt2 := hR.nt.trans hnt; have hty2 := hR.ty.trans hty; have hP2 := hR.P.trans hP; clear hQ hQp hnt hty hP hmh hmb hro; have hnt := hnt2; have hty := hty2; have hP := hP2; have hmh := hR.mh; have hQp := hR.qp; simp only [putsS, List.toList_toArray]; refine st_ ?_
    rcases hx with rfl | rfl <;>
    · refine rn_ ?_; intros
      refine go_br rfl hR.ready ?_
      refine st_ ?_
      refine rn_ ?_; intros
      repeat (first | (refine go_gsplit rfl rfl (fun hc => absurd hc (by first | decide +kernel | (simp; first | done | fail))) (fun _ => ?_); refine st_ ?_; (refine rn_ ?_; intros)) | (refine go_gsplit rfl rfl (fun _ => ?_) (fun hc => absurd hc (by first | decide +kernel | (simp; first | done | fail))); refine st_ ?_; (refine rn_ ?_; intros)) | (refine x_split rfl rfl rfl (fun hc => absurd hc (by first | decide +kernel | (simp; first | done | fail))) (fun _ => ?_); refine st_ ?_; (refine ru_ ?_; intros)) | (refine x_split rfl rfl rfl (fun _ => ?_) (fun hc => absurd hc (by first | decide +kernel | (simp; first | done | fail))); refine st_ ?_; (refine ru_ ?_; intros)))
      refine go_rend hR rfl rfl ?_
      simp only [rmk, reduceIte, Nat.reduceEqDiff]
  · rintro D own G16 rfl (hle16 : Le G15 G16)
    refine st_ ?_
    refine rn_ ?_; intros
    refine go_keep [0, 139] [0, 5] ?_
    refine st_ ?_
    refine x_range 5 rfl rfl (ps := #[140, 141]) rfl hro hmh rfl rfl hf2 (by rw [hnt]; decide) (hi2.mono hle16) (encII_mono _) (fun _ _ _ h => by obtain ⟨_, _, rfl⟩ := h; rfl)
      (fun i own => own = [(0, b0, .c 4 [.v (.bool false)]), (5, 0, dzO [D])]) (fun c own => False)
      (fun i own h => by subst h; exact ⟨keys_lt rfl, (by repeat (first | exact plain_nil | refine plain_cons (fun _ h => h) ?_)), rfl⟩) (fun _ _ h => h.elim) (by rfl) ?_ ?_ ?_
    · rintro C' C0 i own vs G7 lp D' r hiN rfl (hle7 : Le G16 G7) ⟨x, hLi, rfl⟩ hR
      have hx : x = (0, 2) ∨ x = (1, 1) := by simpa using List.mem_of_getElem? hLi
      clear hLi
      have hnt2 := hR.nt.trans hnt; have hty2 := hR.ty.trans hty; have hP2 := hR.P.trans hP; clear hQ hQp hnt hty hP hmh hmb hro; have hnt := hnt2; have hty := hty2; have hP := hP2; have hmh := hR.mh; have hQp := hR.qp; simp only [putsS, List.toList_toArray]; refine st_ ?_
      rcases hx with rfl | rfl <;>
      · refine rn_ ?_; intros
        refine go_br rfl hR.ready ?_
        refine st_ ?_
        refine rn_ ?_; intros
        repeat (first | (refine go_gsplit rfl rfl (fun hc => absurd hc (by first | decide +kernel | (simp; first | done | fail))) (fun _ => ?_); refine st_ ?_; (refine rn_ ?_; intros)) | (refine go_gsplit rfl rfl (fun _ => ?_) (fun hc => absurd hc (by first | decide +kernel | (simp; first | done | fail))); refine st_ ?_; (refine rn_ ?_; intros)) | (refine x_split rfl rfl rfl (fun hc => absurd hc (by first | decide +kernel | (simp; first | done | fail))) (fun _ => ?_); refine st_ ?_; (refine ru_ ?_; intros)) | (refine x_split rfl rfl rfl (fun _ => ?_) (fun hc => absurd hc (by first | decide +kernel | (simp; first | done | fail))); refine st_ ?_; (refine ru_ ?_; intros)))
        refine go_rend hR rfl rfl ?_
        simp only [rmk, reduceIte, Nat.reduceEqDiff]
    · rintro D2 own G17 rfl (hle17 : Le G16 G17)
      clear hf1 hf2 hi1 hi2 hS13 ha1 ha2
      refine st_ ?_
      refine rn_ ?_; intros
      rename_i c1
      refine go_pub 6 rfl (by omega) ?_
      rintro G18 (hle18 : Le G17 G18) hG18
      refine go_slot 155 (.v (.slice (some ⟨c1, 0, none⟩) 2 2)) rfl (by simp [SV.den]) ?_
      refine st_ ?_
      refine go_callf (by rw [hnt]; rfl) (by rw [hP]; kernel_rfl) rfl (hP ▸ of_ok 2 _ 2 2 _) ?_; refine rn_ ?_; intros
      rename_i c2
      refine go_pub 6 rfl (by omega) ?_
      rintro G19 (hle19 : Le G18 G19) hG19
      refine go_slot 157 (.v (.slice (some ⟨c2, 0, none⟩) 1 1)) rfl (by simp [SV.den]) ?_
      refine st_ ?_
      have hk := check_ok [⟨[0, 1], 2⟩] _ G19 (rT_row hG19 rfl (by simp) (rT_cons i2 (Rp.S_mono hle19 (rI_2 hG18 i0 i1)) rfl))
      rw [show chk [⟨[0, 1], 2⟩] = (0, 2) by decide] at hk
      refine go_call (by rw [hnt]; rfl) (by rw [hP]; kernel_rfl) rfl (hP ▸ hk) ?_
      rintro v G20 (hle20 : Le G19 G20) rfl
      refine st_ ?_
      refine rn_ ?_; intros
      refine go_keep [0, 19, 20, 162] [0, 5, 6] ?_
      refine st_ ?_
      rename_i c3
      refine go_pub 6 rfl (by omega) ?_
      rintro G21 (hle21 : Le G20 G21) hG21
      refine go_slot 162 (.v (.slice (some ⟨c3, 0, none⟩) 2 2)) rfl (by simp [SV.den]) ?_
      refine st_ ?_
      refine go_callf (by rw [hnt]; rfl) (by rw [hP]; kernel_rfl) rfl (hP ▸ of_ok 1 _ 2 2 _) ?_; refine rn_ ?_; intros
      rename_i c4
      refine go_pub 6 rfl (by omega) ?_
      rintro G22 (hle22 : Le G21 G22) hG22
      refine go_slot 164 (.v (.slice (some ⟨c4, 0, none⟩) 1 1)) rfl (by simp [SV.den]) ?_
      refine st_ ?_
      have hk := check_ok [⟨[1, 0], 1⟩] _ G22 (rT_row hG22 rfl (by simp) (rT_cons i1 (Rp.S_mono hle22 (rI_2 hG21 i1 i0)) rfl))
      rw [show chk [⟨[1, 0], 1⟩] = (0, 2) by decide] at hk
      refine go_call (by rw [hnt]; rfl) (by rw [hP]; kernel_rfl) rfl (hP ▸ hk) ?_
      rintro v G23 (hle23 : Le G22 G23) rfl
      refine st_ ?_
      refine rn_ ?_; intros
      refine go_keep [0, 19, 20, 21, 22, 169] [0, 5, 6] ?_
      refine st_ ?_
      rename_i c5
      refine go_pub 6 rfl (by omega) ?_
      rintro G24 (hle24 : Le G23 G24) hG24
      refine go_slot 169 (.v (.slice (some ⟨c5, 0, none⟩) 1 1)) rfl (by simp [SV.den]) ?_
      refine st_ ?_
      refine go_callf (by rw [hnt]; rfl) (by rw [hP]; kernel_rfl) rfl (hP ▸ of_ok 0 _ 1 1 _) ?_; refine rn_ ?_; intros
      refine go_callf (by rw [hnt]; rfl) (by rw [hP]; kernel_rfl) rfl (hP ▸ of_ok 0 none 0 0 _) ?_; refine rn_ ?_; intros
      rename_i c6
      refine go_pub 6 rfl (by omega) ?_
      rintro G25 (hle25 : Le G24 G25) hG25
      refine go_slot 172 (.v (.slice (some ⟨c6, 0, none⟩) 2 2)) rfl (by simp [SV.den]) ?_
      refine st_ ?_
      have hk := check_ok [⟨[0], 0⟩, ⟨[], 0⟩] _ G25 (rT_row hG25 rfl (by simp) (rT_cons i0 (Rp.S_mono hle25 (rI_1 hG24 i0)) (rT_cons i0 (Rp.S_nil _ _) rfl)))
      rw [show chk [⟨[0], 0⟩, ⟨[], 0⟩] = (1, 2) by decide] at hk
      refine go_call (by rw [hnt]; rfl) (by rw [hP]; kernel_rfl) rfl (hP ▸ hk) ?_
      rintro v G26 (hle26 : Le G25 G26) rfl
      refine st_ ?_
      refine rn_ ?_; intros
      have hr := round_ok 2 3 G26 (by simp [isI64]) (by simp [isI64])
      rw [show rnd 2 3 = (rndT 2 3, 0) by rfl] at hr
      refine go_call (by rw [hnt]; rfl) (by rw [hP]; kernel_rfl) rfl (hP ▸ hr) ?_
      rintro v G27 (hle27 : Le G26 G27) ⟨sq, rfl, hSq⟩
      obtain ⟨aq, cq, rfl⟩ := Rp.S_slice hSq
      refine st_ ?_
      refine rn_ ?_; intros
      have hr0 := round_ok 0 1 G27 (by simp [isI64]) (by simp [isI64])
      rw [show rnd 0 1 = ([], 2) by rfl] at hr0
      refine go_call (by rw [hnt]; rfl) (by rw [hP]; kernel_rfl) rfl (hP ▸ hr0) ?_
      rintro v G28 (hle28 : Le G27 G28) ⟨sq2, rfl, hSq2⟩
      obtain ⟨aq2, cq2, rfl⟩ := Rp.S_slice hSq2
      refine st_ ?_
      clear hr hr0 hk hSq2
      refine go_keep [0, 19, 20, 21, 22, 23, 24, 25, 26, 180, 181] [0, 5] ?_
      refine st_ ?_
      refine rn_ ?_; intros
      repeat (first | (refine go_gsplit rfl rfl (fun hc => absurd hc (by first | decide +kernel | (simp; first | done | fail))) (fun _ => ?_); refine st_ ?_; (refine rn_ ?_; intros)) | (refine go_gsplit rfl rfl (fun _ => ?_) (fun hc => absurd hc (by first | decide +kernel | (simp; first | done | fail))); refine st_ ?_; (refine rn_ ?_; intros)) | (refine x_split rfl rfl rfl (fun hc => absurd hc (by first | decide +kernel | (simp; first | done | fail))) (fun _ => ?_); refine st_ ?_; (refine ru_ ?_; intros)) | (refine x_split rfl rfl rfl (fun _ => ?_) (fun hc => absurd hc (by first | decide +kernel | (simp; first | done | fail))); refine st_ ?_; (refine ru_ ?_; intros)))
      refine go_callf (by rw [hnt]; rfl) (by rw [hP]; kernel_rfl) rfl (hP ▸ num_ok 2 _) ?_; refine rn_ ?_; intros
      repeat (first | (refine go_gsplit rfl rfl (fun hc => absurd hc (by first | decide +kernel | (simp; first | done | fail))) (fun _ => ?_); refine st_ ?_; (refine rn_ ?_; intros)) | (refine go_gsplit rfl rfl (fun _ => ?_) (fun hc => absurd hc (by first | decide +kernel | (simp; first | done | fail))); refine st_ ?_; (refine rn_ ?_; intros)) | (refine x_split rfl rfl rfl (fun hc => absurd hc (by first | decide +kernel | (simp; first | done | fail))) (fun _ => ?_); refine st_ ?_; (refine ru_ ?_; intros)) | (refine x_split rfl rfl rfl (fun _ => ?_) (fun hc => absurd hc (by first | decide +kernel | (simp; first | done | fail))); refine st_ ?_; (refine ru_ ?_; intros)))
      refine go_callf (by rw [hnt]; rfl) (by rw [hP]; kernel_rfl) rfl (hP ▸ num_ok 2 _) ?_; refine rn_ ?_; intros
      repeat (first | (refine go_gsplit rfl rfl (fun hc => absurd hc (by first | decide +kernel | (simp; first | done | fail))) (fun _ => ?_); refine st_ ?_; (refine rn_ ?_; intros)) | (refine go_gsplit rfl rfl (fun _ => ?_) (fun hc => absurd hc (by first | decide +kernel | (simp; first | done | fail))); refine st_ ?_; (refine rn_ ?_; intros)) | (refine x_split rfl rfl rfl (fun hc => absurd hc (by first | decide +kernel | (simp; first | done | fail))) (fun _ => ?_); refine st_ ?_; (refine ru_ ?_; intros)) | (refine x_split rfl rfl rfl (fun _ => ?_) (fun hc => absurd hc (by first | decide +kernel | (simp; first | done | fail))); refine st_ ?_; (refine ru_ ?_; intros)))
      refine go_callf (by rw [hnt]; rfl) (by rw [hP]; kernel_rfl) rfl (hP ▸ num_ok 2 _) ?_; refine rn_ ?_; intros
      repeat (first | (refine go_gsplit rfl rfl (fun hc => absurd hc (by first | decide +kernel | (simp; first | done | fail))) (fun _ => ?_); refine st_ ?_; (refine rn_ ?_; intros)) | (refine go_gsplit rfl rfl (fun _ => ?_) (fun hc => absurd hc (by first | decide +kernel | (simp; first | done | fail))); refine st_ ?_; (refine rn_ ?_; intros)) | (refine x_split rfl rfl rfl (fun hc => absurd hc (by first | decide +kernel | (simp; first | done | fail))) (fun _ => ?_); refine st_ ?_; (refine ru_ ?_; intros)) | (refine x_split rfl rfl rfl (fun _ => ?_) (fun hc => absurd hc (by first | decide +kernel | (simp; first | done | fail))); refine st_ ?_; (refine ru_ ?_; intros)))
      refine go_callf (by rw [hnt]; rfl) (by rw [hP]; kernel_rfl) rfl (hP ▸ num_ok 0 _) ?_; refine rn_ ?_; intros
      repeat (first | (refine go_gsplit rfl rfl (fun hc => absurd hc (by first | decide +kernel | (simp; first | done | fail))) (fun _ => ?_); refine st_ ?_; (refine rn_ ?_; intros)) | (refine go_gsplit rfl rfl (fun _ => ?_) (fun hc => absurd hc (by first | decide +kernel | (simp; first | done | fail))); refine st_ ?_; (refine rn_ ?_; intros)) | (refine x_split rfl rfl rfl (fun hc => absurd hc (by first | decide +kernel | (simp; first | done | fail))) (fun _ => ?_); refine st_ ?_; (refine ru_ ?_; intros)) | (refine x_split rfl rfl rfl (fun _ => ?_) (fun hc => absurd hc (by first | decide +kernel | (simp; first | done | fail))); refine st_ ?_; (refine ru_ ?_; intros)))
      refine go_keep [0, 214, 215, 216, 28] [0, 5, 6] ?_
      refine st_ ?_
      rename_i c7
      refine go_pub 6 rfl (by omega) ?_
      rintro G29 (hle29 : Le G28 G29) hG29
      refine go_slot 216 (.v (.slice (some ⟨c7, 0, none⟩) 2 2)) rfl (by simp [SV.den]) ?_
      refine st_ ?_
      refine go_callf (by rw [hnt]; rfl) (by rw [hP]; kernel_rfl) rfl (hP ▸ of_ok 0 _ 2 2 _) ?_; refine rn_ ?_; intros
      rename_i c8
      refine go_pub 6 rfl (by omega) ?_
      rintro G30 (hle30 : Le G29 G30) hG30
      refine go_slot 218 (.v (.slice (some ⟨c8, 0, none⟩) 2 2)) rfl (by simp [SV.den]) ?_
      refine st_ ?_
      refine go_callf (by rw [hnt]; rfl) (by rw [hP]; kernel_rfl) rfl (hP ▸ of_ok 1 _ 2 2 _) ?_; refine rn_ ?_; intros
      rename_i c9
      refine go_pub 6 rfl (by omega) ?_
      rintro G31 (hle31 : Le G30 G31) hG31
      refine go_slot 220 (.v (.slice (some ⟨c9, 0, none⟩) 2 2)) rfl (by simp [SV.den]) ?_
      refine st_ ?_
      refine go_callf (by rw [hnt]; rfl) (by rw [hP]; kernel_rfl) rfl (hP ▸ of_ok 0 _ 2 2 _) ?_; refine rn_ ?_; intros
      rename_i c10
      refine go_pub 6 rfl (by omega) ?_
      rintro G32 (hle32 : Le G31 G32) hG32
      refine go_slot 222 (.v (.slice (some ⟨c10, 0, none⟩) 3 3)) rfl (by simp [SV.den]) ?_
      refine st_ ?_
      have hS1 : rT.S G32 (rndT 2 3) (.slice aq (rndT 2 3).length cq) := Rp.S_mono (hle28.trans (hle29.trans (hle30.trans (hle31.trans hle32)))) hSq
      have hS2 : rT.S G32 (rndT 2 3) (.slice (some ⟨c10, 0, none⟩) 3 3) := rT_row hG32 rfl (by omega) (rT_cons i0 (Rp.S_mono (hle30.trans (hle31.trans hle32)) (rI_2 hG29 i0 i1)) (rT_cons i1 (Rp.S_mono (hle31.trans hle32) (rI_2 hG30 i0 i1)) (rT_cons i0 (Rp.S_mono hle32 (rI_2 hG31 i0 i1)) rfl)))
      refine go_callf (by rw [hnt]; rfl) (by rw [hP]; kernel_rfl) rfl (hP ▸ same_ok (rndT 2 3) _ _ _ hS1 hS2) ?_; refine rn_ ?_; intros
      repeat (first | (refine go_gsplit rfl rfl (fun hc => absurd hc (by first | decide +kernel | (simp; first | done | fail))) (fun _ => ?_); refine st_ ?_; (refine rn_ ?_; intros)) | (refine go_gsplit rfl rfl (fun _ => ?_) (fun hc => absurd hc (by first | decide +kernel | (simp; first | done | fail))); refine st_ ?_; (refine rn_ ?_; intros)) | (refine x_split rfl rfl rfl (fun hc => absurd hc (by first | decide +kernel | (simp; first | done | fail))) (fun _ => ?_); refine st_ ?_; (refine ru_ ?_; intros)) | (refine x_split rfl rfl rfl (fun _ => ?_) (fun hc => absurd hc (by first | decide +kernel | (simp; first | done | fail))); refine st_ ?_; (refine ru_ ?_; intros)))
      refine go_callf (by rw [hnt]; rfl) (by rw [hP]; kernel_rfl) rfl (hP ▸ num_ok 2 _) ?_; refine rn_ ?_; intros
      repeat (first | (refine go_gsplit rfl rfl (fun hc => absurd hc (by first | decide +kernel | (simp; first | done | fail))) (fun _ => ?_); refine st_ ?_; (refine rn_ ?_; intros)) | (refine go_gsplit rfl rfl (fun _ => ?_) (fun hc => absurd hc (by first | decide +kernel | (simp; first | done | fail))); refine st_ ?_; (refine rn_ ?_; intros)) | (refine x_split rfl rfl rfl (fun hc => absurd hc (by first | decide +kernel | (simp; first | done | fail))) (fun _ => ?_); refine st_ ?_; (refine ru_ ?_; intros)) | (refine x_split rfl rfl rfl (fun _ => ?_) (fun hc => absurd hc (by first | decide +kernel | (simp; first | done | fail))); refine st_ ?_; (refine ru_ ?_; intros)))
      refine x_retM 5 rfl hQ hmb rfl rfl rfl (by rw [hty]; simp only [so, sq, zy, zz, tyE, SO', SQ', opQ, opStore, opAlloc, ev, putS, dOk, cv, SV.cs, SV.one, SV.bool?, eqB, Value.oneCell', ldOwn, binInt, binConst, binBool, binStr, isC, TK.agg, rv, rv1, ldV, resOne, resV, Nat.reduceAdd, Nat.reduceMul, Nat.reduceSub, Nat.reduceLT, Nat.reduceLeDiff, Nat.reduceEqDiff, Nat.reduceBEq, reduceIte, reduceCtorEq, eq_self]; try rfl) ?_; simp only [SV.den, resV, dens]
    · rintro D c own G' h
      exact h.elim
  · rintro D c own G' h
    exact h.elim
end Go.Proofs.Ytcaohcmlicbjhaa
namespace Go.Sx
set_option linter.unusedSimpArgs false
set_option linter.unusedVariables false
section
variable {α : Type} {r : Rp α} {G : Hp} {l : List α}
theorem Rp.srcS {v : Value} (h : r.S G l v) : ∃ cs, r.L G l cs ∧ ((∃ c, (SV.v v).den = .slice none 0 c ∧ l.length = 0 ∧ cs = []) ∨ ∀ (C : Ctx) (s : St), s.G = G → Src C s (.v v) l.length cs) := by
  obtain ⟨_, ad, cap, rfl, h⟩ := h
  exact Rp.src h
theorem Rp.S_hi {ad : Option Addr} {n cap a : Nat} (h : r.S G l (.slice ad n cap)) (ha : a ≤ l.length) : r.S G (l.take a) (sliced ad cap 0 a r.size) := by
  obtain ⟨h63, ad', cap', e, h⟩ := h
  injection e with e1 e2 e3
  subst e1 e2 e3
  have hl : (l.take a).length = a := by simp; omega
  have e : sliced ad cap 0 a r.size = .slice (if cap = 0 then ad else ad.map (·.add (0 * r.size))) a cap := by simp [sliced]
  refine ⟨by omega, _, cap, by rw [e, hl], ?_⟩
  rcases h with rfl | ⟨b, off, cs, rfl, hat, hL⟩
  · exact .inl (by simp)
  · refine .inr ⟨b, off, cs.take (a * r.size), ?_, by simpa using hat.sub 0 (a * r.size) (by rw [Rp.L_len hL]; simpa using Nat.mul_le_mul_right _ ha), Rp.L_take a hL⟩
    split
    · rfl
    · simp [add_none]
theorem Rp.S_lo {ad : Option Addr} {n cap a : Nat} (h : r.S G l (.slice ad n cap)) (ha : a ≤ l.length) (hc : l.length ≤ cap) : r.S G (l.drop a) (sliced ad cap a n r.size) := by
  obtain ⟨h63, ad', cap', e, h⟩ := h
  injection e with e1 e2 e3
  subst e1 e2 e3
  rcases Nat.lt_or_ge a l.length with hlt | hge
  · rcases h with rfl | ⟨b, off, cs, rfl, hat, hL⟩
    · simp at hlt
    · rw [sliced_some b off cap a l.length r.size hlt hc]
      exact ⟨by simp; omega, _, _, by rw [List.length_drop], .inr ⟨b, _, cs.drop (a * r.size), rfl, hat.drop _ (by rw [Rp.L_len hL]; exact Nat.mul_le_mul_right _ ha), Rp.L_drop a hL⟩⟩
  · have e : l.drop a = [] := List.drop_eq_nil_of_le hge
    have h0 : l.length - a = 0 := by omega
    rw [e, sliced, h0]
    exact Rp.S_nil _ _
end
end Go.Sx
namespace Go.Sx
set_option linter.unusedSimpArgs false
set_option linter.unusedVariables false
open Go.RowKit
section
variable {C : Ctx} {K : List KI} {s : St} {R : Array Oper} {l : List Oper} {d : Option Tmp} {t : TypeId} {pos : String} {aft : Array Edge} {v : Value} {α : Type}
theorem go_rowC (k : Nat) {b n size : Nat} {e : TypeId} {v : Value} {xs : List Value} (hk : lk k s.own = some (b, .row v e size n xs)) (h : ∀ ad cap, v = .slice ad n cap → n ≤ cap → SGo C K s) : SGo C K s :=
  go_rowcases k hk (fun hv hn0 _ => h none 0 (by rw [hv, hn0]) (by omega)) (fun g cap hv hc _ => h _ cap hv hc)
end
end Go.Sx
namespace Go.Proofs.Ytcaohcmlicbjhaa
set_option linter.unusedSimpArgs false
set_option linter.unusedVariables false
open Go.Sx
def back (t : Int) (o : List Int) : Nat → Nat
  | 0 => 0
  | a + 1 => if o.getD a 0 > t then back t o a else a + 1
def insT (t : Int) (o : List Int) : List Int := if inB o t then o else o.take (back t o o.length) ++ [t] ++ o.drop (back t o o.length)
def thrI (runs : List Int) (o : List Int) : List Int := runs.foldl (fun o t => insT t o) o
def thrL (l : List Tn) : List Int := l.foldl (fun o x => thrI x.runs o) []
theorem back_le (t : Int) (o : List Int) : ∀ a, back t o a ≤ a
  | 0 => by simp [back]
  | a + 1 => by
    have := back_le t o a
    rw [back]; split <;> omega
theorem insT_len (t : Int) (o : List Int) : (insT t o).length ≤ o.length + 1 := by
  have := back_le t o o.length
  rw [insT]; split <;> simp; omega
theorem insT_mem {t u : Int} {o : List Int} : u ∈ insT t o ↔ u ∈ o ∨ u = t := by
  rw [insT]
  split
  · rename_i h
    exact ⟨.inl, fun h' => h'.elim id fun e => e ▸ inB_iff.1 h⟩
  · have := List.take_append_drop (back t o o.length) o
    constructor
    · intro h
      simp only [List.mem_append, List.mem_singleton] at h
      rcases h with (h | h) | h
      · exact .inl (List.mem_of_mem_take h)
      · exact .inr h
      · exact .inl (List.mem_of_mem_drop h)
    · rintro (h | rfl)
      · rw [← this, List.mem_append] at h
        simp only [List.mem_append, List.mem_singleton]
        rcases h with h | h
        · exact .inl (.inl h)
        · exact .inr h
      · simp
theorem back_drop {t : Int} {o : List Int} : ∀ a, a ≤ o.length → ∀ x ∈ (o.take a).drop (back t o a), t < x
  | 0, _, x, hx => by simp at hx
  | a + 1, ha, x, hx => by
    rw [back] at hx
    split at hx
    · rename_i h
      rw [← List.take_append_getElem (show a < o.length by omega), List.drop_append_of_le_length (by simp; have := back_le t o a; omega), List.mem_append] at hx
      rcases hx with hx | hx
      · exact back_drop a (by omega) x hx
      · simp only [List.mem_singleton] at hx
        rw [List.getD_eq_getElem?_getD, List.getElem?_eq_getElem (show a < o.length by omega)] at h
        rw [hx]; exact h
    · rw [List.drop_eq_nil_of_le (by simp; omega)] at hx
      simp at hx
theorem back_take {t : Int} {o : List Int} (hs : o.Pairwise (· < ·)) : ∀ a, a ≤ o.length → ∀ x ∈ o.take (back t o a), x ≤ t
  | 0, _, x, hx => by simp [back] at hx
  | a + 1, ha, x, hx => by
    rw [back] at hx
    split at hx
    · exact back_take hs a (by omega) x hx
    · rename_i h
      rw [List.getD_eq_getElem?_getD, List.getElem?_eq_getElem (show a < o.length by omega)] at h
      simp only [Option.getD_some] at h
      rw [← List.take_append_getElem (show a < o.length by omega), List.mem_append] at hx
      rcases hx with hx | hx
      · obtain ⟨j, hj, rfl⟩ := List.getElem_of_mem hx
        simp only [List.length_take] at hj
        have := List.pairwise_iff_getElem.1 hs j a (by omega) (by omega) (by omega)
        simp only [List.getElem_take]
        omega
      · simp only [List.mem_singleton] at hx
        rw [hx]; omega
theorem insT_pw {t : Int} {o : List Int} (h : o.Pairwise (· < ·)) : (insT t o).Pairwise (· < ·) := by
  rw [insT]
  split
  · exact h
  · rename_i hn
    have hnm : t ∉ o := fun q => hn (inB_iff.2 q)
    have h1 := back_take (t := t) h o.length (Nat.le_refl _)
    have h2 := back_drop (t := t) (o := o) o.length (Nat.le_refl _)
    rw [List.take_length] at h2
    rw [List.append_assoc, List.pairwise_append]
    refine ⟨h.sublist (List.take_sublist _ _), List.pairwise_append.2 ⟨by simp, h.sublist (List.drop_sublist _ _), fun a ha b hb => ?_⟩, fun a ha b hb => ?_⟩
    · simp only [List.mem_singleton] at ha
      subst ha
      exact h2 b hb
    · have := h1 a ha
      have hne : a ≠ t := fun q => hnm (q ▸ List.mem_of_mem_take ha)
      rw [List.mem_append, List.mem_singleton] at hb
      rcases hb with rfl | hb
      · omega
      · have := h2 b hb; omega
theorem thrI_mem {u : Int} : ∀ {runs o : List Int}, u ∈ thrI runs o ↔ u ∈ o ∨ u ∈ runs
  | [], o => by simp [thrI]
  | t :: r, o => by
    have := thrI_mem (u := u) (runs := r) (o := insT t o)
    simp only [thrI, List.foldl_cons] at this ⊢
    rw [this, insT_mem, List.mem_cons, or_assoc]
theorem thrI_pw : ∀ {runs o : List Int}, o.Pairwise (· < ·) → (thrI runs o).Pairwise (· < ·)
  | [], o, h => h
  | t :: r, o, h => by
    have := thrI_pw (runs := r) (insT_pw (t := t) h)
    simpa only [thrI, List.foldl_cons] using this
theorem thrI_len : ∀ (runs o : List Int), (thrI runs o).length ≤ o.length + runs.length
  | [], o => by simp [thrI]
  | t :: r, o => by
    have h1 := thrI_len r (insT t o)
    have h2 := insT_len t o
    simp only [thrI, List.foldl_cons, List.length_cons] at h1 ⊢
    omega
theorem thrI_snoc {runs o : List Int} {k : Nat} (h : k < runs.length) : thrI (runs.take (k + 1)) o = insT runs[k] (thrI (runs.take k) o) := by
  rw [← List.take_append_getElem h, thrI, List.foldl_append]; rfl
theorem thrL_snoc {l : List Tn} {k : Nat} (h : k < l.length) : thrL (l.take (k + 1)) = thrI l[k].runs (thrL (l.take k)) := by
  rw [← List.take_append_getElem h, thrL, List.foldl_append]; rfl
theorem thrG_mem {u : Int} : ∀ {l : List Tn} {o : List Int}, u ∈ l.foldl (fun o x => thrI x.runs o) o ↔ u ∈ o ∨ ∃ x ∈ l, u ∈ x.runs
  | [], o => by simp
  | y :: l, o => by
    rw [List.foldl_cons, thrG_mem (l := l), thrI_mem]
    simp only [List.mem_cons]
    constructor
    · rintro ((h | h) | ⟨x, hx, h⟩)
      · exact .inl h
      · exact .inr ⟨y, .inl rfl, h⟩
      · exact .inr ⟨x, .inr hx, h⟩
    · rintro (h | ⟨x, rfl | hx, h⟩)
      · exact .inl (.inl h)
      · exact .inl (.inr h)
      · exact .inr ⟨x, hx, h⟩
theorem thrG_pw : ∀ {l : List Tn} {o : List Int}, o.Pairwise (· < ·) → (l.foldl (fun o x => thrI x.runs o) o).Pairwise (· < ·)
  | [], o, h => h
  | y :: l, o, h => by rw [List.foldl_cons]; exact thrG_pw (thrI_pw h)
theorem thrG_len {m : Nat} : ∀ (l : List Tn) (o : List Int), (∀ x ∈ l, x.runs.length ≤ m) → (l.foldl (fun o x => thrI x.runs o) o).length ≤ o.length + l.length * m
  | [], o, _ => by simp
  | y :: l, o, h => by
    have h1 := thrG_len l (thrI y.runs o) fun x hx => h x (by simp [hx])
    have h2 := thrI_len y.runs o
    have h3 := h y (by simp)
    simp only [List.foldl_cons, List.length_cons, Nat.succ_mul]
    omega
theorem thr_srt (l : List Tn) : thrL l = srt l := by
  refine (sort_eq (List.Perm.symm ?_) (thrG_pw List.Pairwise.nil)).symm
  refine (List.perm_ext_iff_of_nodup ((thrG_pw List.Pairwise.nil).imp fun {a b} h => by omega) (cntL_nd l)).2 fun u => ?_
  rw [thrG_mem, cntL_mem]; simp
set_option maxHeartbeats 8000000
theorem threads_ok (l : List Tn) (s1 : Value) (G : Hp) (h1 : rT.S G l s1) (hl : l.length ≤ 1000) (hr : ∀ x ∈ l, x.runs.length ≤ 1000) : Pure Try.prog 9 [s1] G (fun r G' => rI.S G' (thrL l) r) := by
  have h10 := h1
  have h64 := rT_i64 h1
  obtain ⟨ad1, cap1, rfl⟩ := Rp.S_slice h1
  refine enterX ty tyok Try.func9 rfl Try.ntmps9 [.v (.slice ad1 l.length cap1)] (by simp) ?_
  intro C hP hQ hnt hty hmb hmh hro; have hQp := qp_body hQ; refine st_ ?_
  refine rn_ ?_; intros
  refine go_keep [0, 3, 4] [] ?_
  refine st_ ?_
  refine x_loop rfl (fun q s => ∃ (i : Nat) (ad : Option Addr) (cap : Nat) (G' : Hp), i ≤ l.length ∧ q = l.length - i ∧ Le G G' ∧ (thrL (l.take i)).length ≤ cap ∧ rI.S G' (thrL (l.take i)) (.slice ad (thrL (l.take i)).length cap) ∧
    s = ⟨[(0, .v (.slice ad1 l.length cap1)), (3, .v (.slice ad (thrL (l.take i)).length cap)), (4, .v (.int .i64 i))], [], G', []⟩) ⟨0, none, 0, G, by omega, rfl, Le.refl _, by simp [thrL], Rp.S_nil _ _, rfl⟩ ?_
  rintro q s ⟨i, ad, cap, G1, hi, hq, hle, hcap, hS, rfl⟩ ih
  refine rn_ ?_; intros
  refine x_if rfl rfl rfl rfl (fun hil => ?_) (fun hil => ?_)
  · have hlt : i < l.length := by simp at hil; omega
    obtain ⟨c1, o1, sa, cs, rfl, ha1, ht, hrr⟩ := rT_at h10 (i := i) hlt
    have hrl := hr _ (List.getElem_mem hlt)
    have hsn := thrL_snoc hlt
    have hT := thrG_len (m := 1000) (l.take i) [] fun x hx => hr x (List.mem_of_mem_take hx)
    have hT' : (thrL (l.take i)).length ≤ 1000000 := by
      have := Nat.mul_le_mul_right 1000 (show (l.take i).length ≤ 1000 by simp; omega)
      simp only [List.length_nil, Nat.zero_add] at hT
      rw [thrL]; omega
    clear hT
    generalize thrL (l.take i) = T at *
    refine go_keep [0, 3, 4] [] ?_
    refine st_ ?_
    refine rn_ ?_; intros
    refine go_keep [0, 3, 4, 5] [] ?_
    refine st_ ?_
    refine x_loop rfl (fun q s => ∃ (k : Nat) (o : List Int) (ad : Option Addr) (cap : Nat) (G' : Hp), k ≤ l[i].runs.length ∧ q = l[i].runs.length - k ∧ Le G G' ∧ o = thrI (l[i].runs.take k) T ∧ o.length ≤ cap ∧ rI.S G' o (.slice ad o.length cap) ∧
      s = ⟨[(0, .v (.slice (some ⟨c1, o1, none⟩) l.length cap1)), (3, .v (.slice ad o.length cap)), (4, .v (.int .i64 i)), (5, .v (.int .i64 k))], [], G', []⟩) ⟨0, T, ad, cap, G1, by omega, rfl, hle, rfl, hcap, hS, rfl⟩ ?_
    clear hcap hS hle
    rintro q s ⟨k, o, ad, cap, G2, hk, hq, hle12, hoT, hcap, hS, rfl⟩ ihk
    have hol := thrI_len (l[i].runs.take k) T
    rw [← hoT] at hol
    simp only [List.length_take] at hol
    have ha2 := ha1.mono hle12
    have ha1a : At G2 c1 (o1 + i * 2) [.slice sa l[i].runs.length cs] := by simpa using ha2.sub 0 1 (by simp)
    refine rn_ ?_; intros
    refine go_q (by rw [hnt]; rfl) (quiet_index (by rw [hty]; rfl) (by rw [hty]; rfl) rfl rfl rfl (by omega) (by omega)) ?_
    refine rn_ ?_; intros
    refine go_q (by rw [hnt]; rfl) (quiet_load (by rw [hty]; rfl) rfl (by simp [TK.agg]) ha1a rfl) ?_; refine rn_ ?_; intros
    refine x_if rfl rfl rfl rfl (fun hjl => ?_) (fun hjl => ?_)
    · have hklt : k < l[i].runs.length := by simp at hjl; omega
      obtain ⟨d1, p1, rfl, hb1⟩ := rI_at (Rp.S_mono hle12 hrr) (i := k) hklt
      have ht64 := h64 _ (List.getElem_mem hlt) _ (List.getElem_mem hklt)
      obtain ⟨t, hte⟩ : ∃ t, l[i].runs[k] = t := ⟨_, rfl⟩
      rw [hte] at hb1 ht64
      refine rn_ ?_; intros
      refine go_q (by rw [hnt]; rfl) (quiet_index (by rw [hty]; rfl) (by rw [hty]; rfl) rfl rfl rfl (by omega) (by omega)) ?_
      refine rn_ ?_; intros
      refine go_q (by rw [hnt]; rfl) (quiet_load (by rw [hty]; rfl) rfl (by simp [TK.agg]) ha1a rfl) ?_; refine rn_ ?_; intros
      refine go_q (by rw [hnt]; rfl) (quiet_index (by rw [hty]; rfl) (by rw [hty]; rfl) rfl rfl rfl (by omega) (by omega)) ?_
      refine rn_ ?_; intros
      refine go_q (by rw [hnt]; rfl) (quiet_load (vs := [.int .i64 t]) (by rw [hty]; rfl) rfl (by simp [TK.agg]) (by simpa using hb1) rfl) ?_
      refine rn_ ?_; intros
      refine go_callf (by rw [hnt]; rfl) (by rw [hP]; kernel_rfl) rfl (hP ▸ rin_ok o _ t G2 hS) ?_; refine rn_ ?_; intros
      refine x_split rfl rfl rfl (fun hin => ?_) (fun hin => ?_) <;> (refine st_ ?_; (refine ru_ ?_; intros))
      · refine rn_ ?_; intros
        have hins : insT t o = o := by rw [insT, if_pos hin]
        rw [wr (n := (k : Int) + 1) (by omega) (by omega)]
        refine go_keep [0, 3, 4, 5] [] ?_
        refine st_ ?_
        exact ihk (l[i].runs.length - (k + 1)) _ (by omega) ⟨k + 1, o, ad, cap, G2, by omega, rfl, hle12, by rw [thrI_snoc hklt, ← hoT, hte, hins], hcap, hS, by simp⟩
      · have hins : insT t o = o.take (back t o o.length) ++ [t] ++ o.drop (back t o o.length) := by rw [insT, if_neg (by rw [hin]; decide)]
        have hok' : ∀ n ∈ insT t o, isI64 n := fun n hn => by
          rcases insT_mem.1 hn with h | rfl
          · exact rI_ok hS n h
          · exact ht64
        have hpl := back_le t o o.length
        have hto : insT t o = insT l[i].runs[k] o := by rw [hte]
        refine cut_tail 2 (fun s' => s' = ⟨[(0, .v (.slice (some ⟨c1, o1, none⟩) l.length cap1)), (3, .v (.slice ad o.length cap)), (4, .v (.int .i64 i)), (5, .v (.int .i64 k)), (6, .v (.int .i64 t)), (7, .v (.int .i64 (back t o o.length)))], [], G2, []⟩) ?_ (fun key => ?_)
        rotate_left
        · simp only [List.drop_succ_cons, List.drop_zero] at key
          refine go_keep [0, 3, 4, 5, 6, 7] [] ?_
          refine st_ ?_
          refine x_loop rfl (fun q s => ∃ (a : Nat), a ≤ o.length ∧ q = a ∧ back t o o.length = back t o a ∧
            s = ⟨[(0, .v (.slice (some ⟨c1, o1, none⟩) l.length cap1)), (3, .v (.slice ad o.length cap)), (4, .v (.int .i64 i)), (5, .v (.int .i64 k)), (6, .v (.int .i64 t)), (7, .v (.int .i64 a))], [], G2, []⟩) ⟨o.length, by omega, rfl, rfl, rfl⟩ ?_
          rintro q s ⟨a, ha, hq, hba, rfl⟩ iha
          refine rn_ ?_; intros
          refine go_gsplit rfl rfl (fun ha0 => ?_) (fun ha0 => ?_) <;> (refine st_ ?_; (refine rn_ ?_; intros))
          · obtain ⟨b, rfl⟩ : ∃ b, a = b + 1 := ⟨a - 1, by simp at ha0; omega⟩
            obtain ⟨e1, p2, rfl, hc1⟩ := rI_at hS (i := b) (by omega)
            have hw : IntKind.i64.wrap (((b + 1 : Nat) : Int) - 1) = (b : Int) := by rw [wr (by omega) (by omega)]; omega
            rw [back, List.getD_eq_getElem?_getD, List.getElem?_eq_getElem (show b < o.length by omega), Option.getD_some] at hba
            rw [hw]
            refine go_q (by rw [hnt]; rfl) (quiet_index (by rw [hty]; rfl) (by rw [hty]; rfl) rfl rfl rfl (by omega) (by omega)) ?_
            refine rn_ ?_; intros
            refine go_q (by rw [hnt]; rfl) (quiet_load (vs := [.int .i64 o[b]]) (by rw [hty]; rfl) rfl (by simp [TK.agg]) (by simpa using hc1) rfl) ?_
            refine rn_ ?_; intros
            refine x_split rfl rfl rfl (fun hgt => ?_) (fun hgt => ?_) <;> (refine st_ ?_; (refine ru_ ?_; intros))
            · refine rn_ ?_; intros
              rw [if_pos (by simpa using hgt)] at hba
              rw [hw]
              refine go_keep [0, 3, 4, 5, 6, 7] [] ?_
              refine st_ ?_
              exact iha b _ (by omega) ⟨b, by omega, rfl, hba, rfl⟩
            · rw [if_neg (by simpa using hgt)] at hba
              refine go_keep [0, 3, 4, 5, 6, 7] [] ?_
              refine st_ ?_
              exact key _ (by rw [hba])
          · have h0 : a = 0 := by simp at ha0; omega
            subst h0
            refine go_keep [0, 3, 4, 5, 6, 7] [] ?_
            refine st_ ?_
            exact key _ (by rw [hba]; rfl)
        rintro s' rfl
        simp only [List.drop_succ_cons, List.drop_zero]
        have hS1 := Rp.S_hi hS hpl
        have hS2 := Rp.S_lo hS hpl hcap
        obtain ⟨cs1, hc1, hs1⟩ := Rp.srcS hS1
        obtain ⟨cs2, hc2, hs2⟩ := Rp.srcS hS2
        obtain ⟨rfl, hok1⟩ := rI_L.1 hc1
        obtain ⟨rfl, hok2⟩ := rI_L.1 hc2
        generalize hpe : back t o o.length = p at *
        have hlp : (o.take p).length = p := by simp; omega
        have hld : (o.drop p).length = o.length - p := by simp
        rw [hlp] at hs1
        rw [hld] at hs2
        refine x_held [] rfl (by rw [hP]; kernel_rfl) rfl rfl rfl ?_
        refine st_ ?_
        refine h_take 1 rfl (by kernel_rfl) (by kernel_rfl) (by kernel_rfl) hQp (by rw [hnt]; rfl) (allIn (by repeat (first | exact trivial | refine ⟨rfl, ?_⟩))) (by first | exact Le.refl _ | assumption) (quiet_op (by rw [hty]; first | rfl | (refine st_ ?_; rfl))) ?_; refine st_ ?_
        refine h_take 2 rfl (by kernel_rfl) (by kernel_rfl) (by kernel_rfl) hQp (by rw [hnt]; rfl) (allIn (by repeat (first | exact trivial | refine ⟨rfl, ?_⟩))) (by first | exact Le.refl _ | assumption) (quiet_op (by rw [hty]; first | rfl | (refine st_ ?_; rfl))) ?_; refine st_ ?_
        refine h_take 3 rfl (by kernel_rfl) (by kernel_rfl) (by kernel_rfl) hQp (by rw [hnt]; rfl) (allIn (by repeat (first | exact trivial | refine ⟨rfl, ?_⟩))) (by first | exact Le.refl _ | assumption) (x := .v (Sx.sliced ad cap 0 p 1)) ((quiet_sliceHi (k' := .i64) (m := p) (by rw [hty]; rfl) (by rw [hty]; rfl) rfl rfl rfl (by omega) (by omega)).cast rfl) ?_
        refine st_ ?_
        refine h_take 5 rfl (by kernel_rfl) (by kernel_rfl) (by kernel_rfl) hQp (by rw [hnt]; rfl) (allIn (by repeat (first | exact trivial | refine ⟨rfl, ?_⟩))) (by first | exact Le.refl _ | assumption) (quiet_op (by rw [hty]; first | rfl | (refine st_ ?_; rfl))) ?_; refine st_ ?_
        refine h_take 8 rfl (by kernel_rfl) (by kernel_rfl) (by kernel_rfl) hQp (by rw [hnt]; rfl) (allIn (by repeat (first | exact trivial | refine ⟨rfl, ?_⟩))) (by first | exact Le.refl _ | assumption) (quiet_op (by rw [hty]; first | rfl | (refine st_ ?_; rfl))) ?_; refine st_ ?_
        refine h_take 9 rfl (by kernel_rfl) (by kernel_rfl) (by kernel_rfl) hQp (by rw [hnt]; rfl) (allIn (by repeat (first | exact trivial | refine ⟨rfl, ?_⟩))) (by first | exact Le.refl _ | assumption) (quiet_op (by rw [hty]; first | rfl | (refine st_ ?_; rfl))) ?_; refine st_ ?_
        refine h_take 10 rfl (by kernel_rfl) (by kernel_rfl) (by kernel_rfl) hQp (by rw [hnt]; rfl) (allIn (by repeat (first | exact trivial | refine ⟨rfl, ?_⟩))) (by first | exact Le.refl _ | assumption) (x := .v (Sx.sliced ad cap p o.length 1)) ((quiet_sliceLo (k := .i64) (n := p) (by rw [hty]; rfl) (by rw [hty]; rfl) rfl rfl rfl (by omega) (by omega)).cast rfl) ?_
        refine st_ ?_
        refine h_two 0 6 rfl rfl (by kernel_rfl) ?_ ?_
        · refine rn_ ?_; intros
          refine h_hs (allIn (by repeat (first | exact trivial | refine ⟨rfl, ?_⟩))) (by first | exact Le.refl _ | assumption) ?_
          refine h_two 4 6 rfl rfl (by kernel_rfl) ?_ ?_
          · refine go_litrow 0 (n := 0) (size := 1) rfl (by omega) rfl (by omega) ?_
            refine st_ ?_
            refine go_append_any 0 (by rw [hnt]; rfl) (by rw [hty]; rfl) (by rw [hty]; rfl) (by decide) rfl rfl rfl (by omega) rfl (hs1.imp id fun h => h _ _ rfl) (by simp only [List.length_map]; omega) (Rp.L_one hc1) (by omega) (by simp only []; omega) ?_
            intro v1
            refine rn_ ?_; intros
            refine h_hs (allIn (by repeat (first | exact trivial | refine ⟨rfl, ?_⟩))) (by first | exact Le.refl _ | assumption) ?_
            refine h_one 6 rfl (by kernel_rfl) ?_
            refine rn_ ?_; intros
            refine h_hs (allIn (by repeat (first | exact trivial | refine ⟨rfl, ?_⟩))) (by first | exact Le.refl _ | assumption) ?_
            refine h_one 7 rfl (by kernel_rfl) ?_
            refine go_append 0 (by rw [hnt]; rfl) (by rw [hty]; rfl) (by rw [hty]; rfl) (by decide) rfl rfl rfl (by omega) rfl (src_own 1 rfl rfl) rfl (by simp [dens, SV.den, Value.oneCell']) (by omega) (by simp only []; omega) ?_
            intro v2
            refine rn_ ?_; intros
            refine h_hs (allIn (by repeat (first | exact trivial | refine ⟨rfl, ?_⟩))) (by first | exact Le.refl _ | assumption) ?_
            refine h_one 11 rfl (by kernel_rfl) ?_
            refine go_append_any 0 (by rw [hnt]; rfl) (by rw [hty]; rfl) (by rw [hty]; rfl) (by decide) rfl rfl rfl (by omega) rfl (hs2.imp id fun h => h _ _ rfl) (by simp only [List.length_map]; omega) (Rp.L_one hc2) (by omega) (by simp only []; omega) ?_
            intro v3
            refine rn_ ?_; intros
            refine h_hs (allIn (by repeat (first | exact trivial | refine ⟨rfl, ?_⟩))) (by first | exact Le.refl _ | assumption) ?_
            refine h_take 12 rfl (by kernel_rfl) (by kernel_rfl) (by kernel_rfl) hQp (by rw [hnt]; rfl) (allIn (by repeat (first | exact trivial | refine ⟨rfl, ?_⟩))) (by first | exact Le.refl _ | assumption) (quiet_op (by rw [hty]; first | rfl | (refine st_ ?_; rfl))) ?_; refine st_ ?_
            refine h_end (by kernel_rfl) ?_
            refine rn_ ?_; intros
            refine go_rowC 0 rfl ?_
            rintro ad3 cap3 rfl hcap3
            refine go_pubL rI 0 rfl (by omega) (ts := insT t o) (by rw [hins]; simp; omega) (by omega) (rI_L.2 ⟨by rw [hins]; simp [dens, SV.den], hok'⟩) ?_
            rintro G3 ad4 cap4 (hle3 : Le G2 G3) hse hS3
            injection hse with e1 e2 e3
            subst e1 e3
            rw [wr (n := (k : Int) + 1) (by omega) (by omega)]
            refine go_keep [0, 3, 4, 5] [] ?_
            refine st_ ?_
            exact ihk (l[i].runs.length - (k + 1)) _ (by omega) ⟨k + 1, insT t o, ad3, cap3, G3, by omega, rfl, hle12.trans hle3, by rw [thrI_snoc hklt, ← hoT, hte], by rw [← e2]; exact hcap3, hS3, by simp [← e2]⟩
          · refine rn_ ?_; intros
            refine h_hs (allIn (by repeat (first | exact trivial | refine ⟨rfl, ?_⟩))) (by first | exact Le.refl _ | assumption) ?_
            refine h_one 4 rfl (by kernel_rfl) ?_
            refine go_litrow 0 (n := 0) (size := 1) rfl (by omega) rfl (by omega) ?_
            refine st_ ?_
            refine go_append_any 0 (by rw [hnt]; rfl) (by rw [hty]; rfl) (by rw [hty]; rfl) (by decide) rfl rfl rfl (by omega) rfl (hs1.imp id fun h => h _ _ rfl) (by simp only [List.length_map]; omega) (Rp.L_one hc1) (by omega) (by simp only []; omega) ?_
            intro v1
            refine rn_ ?_; intros
            refine h_hs (allIn (by repeat (first | exact trivial | refine ⟨rfl, ?_⟩))) (by first | exact Le.refl _ | assumption) ?_
            refine h_one 7 rfl (by kernel_rfl) ?_
            refine go_append 0 (by rw [hnt]; rfl) (by rw [hty]; rfl) (by rw [hty]; rfl) (by decide) rfl rfl rfl (by omega) rfl (src_own 1 rfl rfl) rfl (by simp [dens, SV.den, Value.oneCell']) (by omega) (by simp only []; omega) ?_
            intro v2
            refine rn_ ?_; intros
            refine h_hs (allIn (by repeat (first | exact trivial | refine ⟨rfl, ?_⟩))) (by first | exact Le.refl _ | assumption) ?_
            refine h_one 11 rfl (by kernel_rfl) ?_
            refine go_append_any 0 (by rw [hnt]; rfl) (by rw [hty]; rfl) (by rw [hty]; rfl) (by decide) rfl rfl rfl (by omega) rfl (hs2.imp id fun h => h _ _ rfl) (by simp only [List.length_map]; omega) (Rp.L_one hc2) (by omega) (by simp only []; omega) ?_
            intro v3
            refine rn_ ?_; intros
            refine h_hs (allIn (by repeat (first | exact trivial | refine ⟨rfl, ?_⟩))) (by first | exact Le.refl _ | assumption) ?_
            refine h_take 12 rfl (by kernel_rfl) (by kernel_rfl) (by kernel_rfl) hQp (by rw [hnt]; rfl) (allIn (by repeat (first | exact trivial | refine ⟨rfl, ?_⟩))) (by first | exact Le.refl _ | assumption) (quiet_op (by rw [hty]; first | rfl | (refine st_ ?_; rfl))) ?_; refine st_ ?_
            refine h_end (by kernel_rfl) ?_
            refine rn_ ?_; intros
            refine go_rowC 0 rfl ?_
            rintro ad3 cap3 rfl hcap3
            refine go_pubL rI 0 rfl (by omega) (ts := insT t o) (by rw [hins]; simp; omega) (by omega) (rI_L.2 ⟨by rw [hins]; simp [dens, SV.den], hok'⟩) ?_
            rintro G3 ad4 cap4 (hle3 : Le G2 G3) hse hS3
            injection hse with e1 e2 e3
            subst e1 e3
            rw [wr (n := (k : Int) + 1) (by omega) (by omega)]
            refine go_keep [0, 3, 4, 5] [] ?_
            refine st_ ?_
            exact ihk (l[i].runs.length - (k + 1)) _ (by omega) ⟨k + 1, insT t o, ad3, cap3, G3, by omega, rfl, hle12.trans hle3, by rw [thrI_snoc hklt, ← hoT, hte], by rw [← e2]; exact hcap3, hS3, by simp [← e2]⟩
        · refine rn_ ?_; intros
          refine h_hs (allIn (by repeat (first | exact trivial | refine ⟨rfl, ?_⟩))) (by first | exact Le.refl _ | assumption) ?_
          refine h_one 0 rfl (by kernel_rfl) ?_
          refine rn_ ?_; intros
          refine h_hs (allIn (by repeat (first | exact trivial | refine ⟨rfl, ?_⟩))) (by first | exact Le.refl _ | assumption) ?_
          refine h_one 4 rfl (by kernel_rfl) ?_
          refine go_litrow 1 (n := 0) (size := 1) rfl (by omega) rfl (by omega) ?_
          refine st_ ?_
          refine go_append_any 1 (by rw [hnt]; rfl) (by rw [hty]; rfl) (by rw [hty]; rfl) (by decide) rfl rfl rfl (by omega) rfl (hs1.imp id fun h => h _ _ rfl) (by simp only [List.length_map]; omega) (Rp.L_one hc1) (by omega) (by simp only []; omega) ?_
          intro v1
          refine rn_ ?_; intros
          refine h_hs (allIn (by repeat (first | exact trivial | refine ⟨rfl, ?_⟩))) (by first | exact Le.refl _ | assumption) ?_
          refine h_one 7 rfl (by kernel_rfl) ?_
          refine go_append 1 (by rw [hnt]; rfl) (by rw [hty]; rfl) (by rw [hty]; rfl) (by decide) rfl rfl rfl (by omega) rfl (src_own 1 rfl rfl) rfl (by simp [dens, SV.den, Value.oneCell']) (by omega) (by simp only []; omega) ?_
          intro v2
          refine rn_ ?_; intros
          refine h_hs (allIn (by repeat (first | exact trivial | refine ⟨rfl, ?_⟩))) (by first | exact Le.refl _ | assumption) ?_
          refine h_one 11 rfl (by kernel_rfl) ?_
          refine go_append_any 1 (by rw [hnt]; rfl) (by rw [hty]; rfl) (by rw [hty]; rfl) (by decide) rfl rfl rfl (by omega) rfl (hs2.imp id fun h => h _ _ rfl) (by simp only [List.length_map]; omega) (Rp.L_one hc2) (by omega) (by simp only []; omega) ?_
          intro v3
          refine rn_ ?_; intros
          refine h_hs (allIn (by repeat (first | exact trivial | refine ⟨rfl, ?_⟩))) (by first | exact Le.refl _ | assumption) ?_
          refine h_take 12 rfl (by kernel_rfl) (by kernel_rfl) (by kernel_rfl) hQp (by rw [hnt]; rfl) (allIn (by repeat (first | exact trivial | refine ⟨rfl, ?_⟩))) (by first | exact Le.refl _ | assumption) (quiet_op (by rw [hty]; first | rfl | (refine st_ ?_; rfl))) ?_; refine st_ ?_
          refine h_end (by kernel_rfl) ?_
          refine rn_ ?_; intros
          refine go_rowC 1 rfl ?_
          rintro ad3 cap3 rfl hcap3
          refine go_pubL rI 1 rfl (by omega) (ts := insT t o) (by rw [hins]; simp; omega) (by omega) (rI_L.2 ⟨by rw [hins]; simp [dens, SV.den], hok'⟩) ?_
          rintro G3 ad4 cap4 (hle3 : Le G2 G3) hse hS3
          injection hse with e1 e2 e3
          subst e1 e3
          rw [wr (n := (k : Int) + 1) (by omega) (by omega)]
          refine go_keep [0, 3, 4, 5] [] ?_
          refine st_ ?_
          exact ihk (l[i].runs.length - (k + 1)) _ (by omega) ⟨k + 1, insT t o, ad3, cap3, G3, by omega, rfl, hle12.trans hle3, by rw [thrI_snoc hklt, ← hoT, hte], by rw [← e2]; exact hcap3, hS3, by simp [← e2]⟩
    · have hge : k = l[i].runs.length := by simp at hjl; omega
      subst hge
      rw [List.take_length, ← hsn] at hoT
      refine rn_ ?_; intros
      rw [wr (n := (i : Int) + 1) (by omega) (by omega)]
      refine go_keep [0, 3, 4] [] ?_
      refine st_ ?_
      subst hoT
      exact ih (l.length - (i + 1)) _ (by omega) ⟨i + 1, ad, cap, G2, by omega, rfl, hle12, hcap, hS, by simp⟩
  · have hge : i = l.length := by simp at hil; omega
    subst hge
    rw [List.take_length] at *
    refine rn_ ?_; intros
    refine x_retc rfl hQ hmb rfl (by rw [hty]; simp only [so, sq, zy, zz, tyE, SO', SQ', opQ, opStore, opAlloc, ev, putS, dOk, cv, SV.cs, SV.one, SV.bool?, eqB, Value.oneCell', ldOwn, binInt, binConst, binBool, binStr, isC, TK.agg, rv, rv1, ldV, resOne, resV, Nat.reduceAdd, Nat.reduceMul, Nat.reduceSub, Nat.reduceLT, Nat.reduceLeDiff, Nat.reduceEqDiff, Nat.reduceBEq, reduceIte, reduceCtorEq, eq_self]; try rfl) rfl ?_; simp only [SV.den, resV, dens]
    exact hS
end Go.Proofs.Ytcaohcmlicbjhaa
namespace Go.Proofs.Ytcaohcmlicbjhaa
set_option linter.unusedSimpArgs false
set_option linter.unusedVariables false
open Go.Sx
set_option maxHeartbeats 8000000
set_option maxRecDepth 20000
theorem fewT_le : ∀ {l : List Tn} {m : Nat}, fewT l m = true → l.length ≤ m → ∀ x ∈ l, x.runs.length ≤ 12
  | [], _, _, _, x, hx => by simp at hx
  | y :: l, 0, _, hl, x, hx => by simp at hl
  | y :: l, m + 1, h, hl, x, hx => by
    simp only [fewT, Bool.and_eq_true, decide_eq_true_eq] at h
    rcases List.mem_cons.1 hx with rfl | hx
    · exact h.1
    · exact fewT_le h.2 (by simpa using hl) x hx
theorem fewQ_le {l : List Tn} {m : Nat} (h : fewQ l m = true) : l.length ≤ m ∧ ∀ x ∈ l, x.runs.length ≤ 12 := by
  simp only [fewQ, Bool.and_eq_true, decide_eq_true_eq] at h
  exact ⟨h.2, fewT_le h.1 (by omega)⟩
def allQ (l : List Tn) : List Int := if (chk l).2 = 0 then thrL l else []
theorem seq_all (num : Tal → Nat) (l : List Tn) : (seqT num l).map (·.1) = allQ l := by
  rw [seqT, allQ]
  split
  · rw [List.map_map, thr_srt]; simp [Function.comp_def]
  · rfl
theorem seq_val {num : Tal → Nat} {l : List Tn} {f : Int → Nat} (hf : ∀ (hr : ∀ x ∈ l, rightT x = true) {x : Int × Tal}, x ∈ cntL l → num x.2 = f x.1) : ∀ x ∈ seqT num l, x.2 = (f x.1 : Int) := by
  intro x hx
  rw [seqT] at hx
  split at hx
  · rename_i h
    obtain ⟨t, ht, rfl⟩ := List.mem_map.1 hx
    rw [srt, List.mem_mergeSort] at ht
    obtain ⟨y, hy, rfl⟩ := List.mem_map.1 ht
    simp only [tg_get (cntL_nd l) hy, Option.map_some, Option.getD_some]
    rw [hf (chk_ok h) hy]
  · simp at hx
theorem seqW_val {l : List Tn} : ∀ x ∈ seqW l, x.2 = ((waitF l x.1).1 : Int) := seq_val (num := Tal.most) (f := fun t => (waitF l t).1) fun hr x hx => (tal_ok hr hx).1
theorem seqN_val {l : List Tn} : ∀ x ∈ seqN l, x.2 = (wentF l x.1 : Int) := seq_val (num := Tal.went) (f := fun t => wentF l t) fun hr x hx => (tal_ok hr hx).2
theorem pickWaits_ok (l : List Tn) (s1 : Value) (many : Int) (G : Hp) (h1 : rT.S G l s1) (hm : isI64 many) : Pure Try.prog 3 [s1, .int .i64 many] G (fun r _ => r = .bool true) := by
  have h10 := h1
  obtain ⟨ad1, cap1, rfl⟩ := Rp.S_slice h1
  have h63 := Rp.S_len h1
  refine enterM ty tyok Try.func3 rfl Try.ntmps3 [.v (.slice ad1 l.length cap1), .v (.int .i64 many)] (by simp) ?_
  intro C hP hQ hnt hty hmb hmh hro; have hQp := qp_bodyM hQ; refine st_ ?_
  refine rn_ ?_; intros
  rename_i b2 b3 b4
  refine go_marks 5 rfl (by omega) ?_
  refine st_ ?_
  refine go_callf (by rw [hnt]; rfl) (by rw [hP]; kernel_rfl) rfl (hP ▸ few_ok l _ 25 (by omega) G h10) ?_; refine rn_ ?_; intros
  refine x_split rfl rfl rfl (fun hf => ?_) (fun hf => ?_) <;> (refine st_ ?_; (refine ru_ ?_; intros))
  · refine go_callf (by rw [hnt]; rfl) (by rw [hP]; kernel_rfl) rfl (hP ▸ works_ok _) ?_; refine rn_ ?_; intros
    refine x_retM 5 rfl hQ hmb rfl rfl rfl (by rw [hty]; simp only [so, sq, zy, zz, tyE, SO', SQ', opQ, opStore, opAlloc, ev, putS, dOk, cv, SV.cs, SV.one, SV.bool?, eqB, Value.oneCell', ldOwn, binInt, binConst, binBool, binStr, isC, TK.agg, rv, rv1, ldV, resOne, resV, Nat.reduceAdd, Nat.reduceMul, Nat.reduceSub, Nat.reduceLT, Nat.reduceLeDiff, Nat.reduceEqDiff, Nat.reduceBEq, reduceIte, reduceCtorEq, eq_self]; try rfl) ?_; simp only [SV.den, resV, dens]
  obtain ⟨hl25, hr12⟩ := fewQ_le (l := l) (m := 25) (by simpa using hf)
  have hl : l.length ≤ 1000 := by omega
  have hr : ∀ x ∈ l, x.runs.length ≤ 1000 := fun x hx => by have := hr12 x hx; omega
  refine rn_ ?_; intros
  rename_i b6
  refine go_callf (by rw [hnt]; rfl) (by rw [hP]; kernel_rfl) rfl (hP ▸ rcheck_ok l _ G h10) ?_; refine rn_ ?_; intros
  refine cut_tail 1 (fun s' => ∃ (G' : Hp) (ada : Option Addr) (capa : Nat), Le G G' ∧ rI.S G' (allQ l) (.slice ada (allQ l).length capa) ∧
    s' = ⟨[(2, .p 0 b2 0), (3, .p 1 b3 0), (4, .p 2 b4 0), (5, .p 6 b6 0)], [(0, b2, .c 22 [.v (.slice ad1 l.length cap1)]), (1, b3, .c 3 [.v (.int .i64 many)]), (2, b4, .c 4 [.v (.bool false)]), (5, 0, dzO []), (6, b6, .c 25 [.v (.slice ada (allQ l).length capa)])], G', []⟩) ?_ (fun key => ?_)
  rotate_left
  · simp only [List.drop_succ_cons, List.drop_zero] at key
    refine x_if rfl rfl rfl rfl (fun hc0 => ?_) (fun hc0 => ?_)
    · have hc : (chk l).2 = 0 := by simpa using hc0
      refine rn_ ?_; intros
      refine go_call (by rw [hnt]; rfl) (by rw [hP]; kernel_rfl) rfl (hP ▸ threads_ok l _ G h10 hl hr) ?_
      rintro v G1 (hle1 : Le G G1) hS1
      obtain ⟨ada, capa, rfl⟩ := Rp.S_slice hS1
      refine st_ ?_
      refine runo0 400 hty hnt hmh ?_; refine st_ ?_
      refine go_ops ?_
      refine go_keep [2, 3, 4, 5] [0, 1, 2, 5, 6] ?_
      refine st_ ?_
      have e : allQ l = thrL l := by rw [allQ, if_pos hc]
      exact key _ ⟨G1, ada, capa, hle1, by rw [e]; exact hS1, by rw [e]⟩
    · have hc : (chk l).2 ≠ 0 := by simpa using hc0
      refine x_skip rfl ?_
      refine go_keep [2, 3, 4, 5] [0, 1, 2, 5, 6] ?_
      refine st_ ?_
      have e : allQ l = [] := by rw [allQ, if_neg hc]
      exact key _ ⟨G, none, 0, Le.refl _, by rw [e]; exact Rp.S_nil _ _, by rw [e]; rfl⟩
  rintro s' ⟨G1, ada, capa, hle1, hSa, rfl⟩
  simp only [List.drop_succ_cons, List.drop_zero]
  refine rn_ ?_; intros
  refine x_held [(0, b2, .c 22 [.v (.slice ad1 l.length cap1)])] rfl (by rw [hP]; kernel_rfl) rfl rfl rfl ?_
  refine st_ ?_
  refine h_take 0 rfl (by kernel_rfl) (by kernel_rfl) (by kernel_rfl) hQp (by rw [hnt]; rfl) (allIn (by repeat (first | exact trivial | refine ⟨rfl, ?_⟩))) (by first | exact Le.refl _ | assumption) (quiet_op (by rw [hty]; first | rfl | (refine st_ ?_; rfl))) ?_; refine st_ ?_
  refine h_take 2 rfl (by kernel_rfl) (by kernel_rfl) (by kernel_rfl) hQp (by rw [hnt]; rfl) (allIn (by repeat (first | exact trivial | refine ⟨rfl, ?_⟩))) (by first | exact Le.refl _ | assumption) (quiet_op (by rw [hty]; first | rfl | (refine st_ ?_; rfl))) ?_; refine st_ ?_
  refine h_one 1 rfl (by kernel_rfl) ?_
  refine go_call (by rw [hnt]; rfl) (by rw [hP]; kernel_rfl) rfl (hP ▸ waits_ok l _ G1 (Rp.S_mono hle1 h10) hl hr) ?_
  rintro v G2 (hle2 : Le G1 G2) ⟨f1, p1, rfl, hf1, hi1⟩
  refine st_ ?_
  refine rn_ ?_; intros
  refine h_hs (allIn (by repeat (first | exact trivial | refine ⟨rfl, ?_⟩))) (by first | exact Le.refl _ | assumption) ?_
  refine h_one 3 rfl (by kernel_rfl) ?_
  refine go_call (by rw [hnt]; rfl) (by rw [hP]; kernel_rfl) rfl (hP ▸ went_ok l _ G2 (Rp.S_mono (hle1.trans hle2) h10) hl hr) ?_
  rintro v G3 (hle3 : Le G2 G3) ⟨f2, p2, rfl, hf2, hi2⟩
  have hle13 : Le G1 G3 := hle2.trans hle3
  refine st_ ?_
  refine rn_ ?_; intros
  refine h_hs (allIn (by repeat (first | exact trivial | refine ⟨rfl, ?_⟩))) (by first | exact Le.refl _ | assumption) ?_
  refine h_take 4 rfl (by kernel_rfl) (by kernel_rfl) (by kernel_rfl) hQp (by rw [hnt]; rfl) (allIn (by repeat (first | exact trivial | refine ⟨rfl, ?_⟩))) (by first | exact Le.refl _ | assumption) (quiet_op (by rw [hty]; first | rfl | (refine st_ ?_; rfl))) ?_; refine st_ ?_
  refine h_take 5 rfl (by kernel_rfl) (by kernel_rfl) (by kernel_rfl) hQp (by rw [hnt]; rfl) (allIn (by repeat (first | exact trivial | refine ⟨rfl, ?_⟩))) (by first | exact Le.refl _ | assumption) (quiet_op (by rw [hty]; first | rfl | (refine st_ ?_; rfl))) ?_; refine st_ ?_
  refine h_end (by kernel_rfl) ?_
  refine rn_ ?_; intros
  refine go_keep [2, 3, 4, 5, 8, 9, 32] [0, 1, 2, 5, 6] ?_
  refine st_ ?_
  refine go_q (by rw [hnt]; rfl) (quiet_feq (by rw [hty]; rfl) rfl rfl) ?_
  refine rn_ ?_; intros
  repeat (first | (refine go_gsplit rfl rfl (fun hc => absurd hc (by first | decide +kernel | (simp; first | done | fail))) (fun _ => ?_); refine st_ ?_; (refine rn_ ?_; intros)) | (refine go_gsplit rfl rfl (fun _ => ?_) (fun hc => absurd hc (by first | decide +kernel | (simp; first | done | fail))); refine st_ ?_; (refine rn_ ?_; intros)) | (refine x_split rfl rfl rfl (fun hc => absurd hc (by first | decide +kernel | (simp; first | done | fail))) (fun _ => ?_); refine st_ ?_; (refine ru_ ?_; intros)) | (refine x_split rfl rfl rfl (fun _ => ?_) (fun hc => absurd hc (by first | decide +kernel | (simp; first | done | fail))); refine st_ ?_; (refine ru_ ?_; intros)))
  refine go_q (by rw [hnt]; rfl) (quiet_feq (by rw [hty]; rfl) rfl rfl) ?_
  refine rn_ ?_; intros
  repeat (first | (refine go_gsplit rfl rfl (fun hc => absurd hc (by first | decide +kernel | (simp; first | done | fail))) (fun _ => ?_); refine st_ ?_; (refine rn_ ?_; intros)) | (refine go_gsplit rfl rfl (fun _ => ?_) (fun hc => absurd hc (by first | decide +kernel | (simp; first | done | fail))); refine st_ ?_; (refine rn_ ?_; intros)) | (refine x_split rfl rfl rfl (fun hc => absurd hc (by first | decide +kernel | (simp; first | done | fail))) (fun _ => ?_); refine st_ ?_; (refine ru_ ?_; intros)) | (refine x_split rfl rfl rfl (fun _ => ?_) (fun hc => absurd hc (by first | decide +kernel | (simp; first | done | fail))); refine st_ ?_; (refine ru_ ?_; intros)))
  refine rn_ ?_; intros
  rename_i b10
  refine go_keep [2, 3, 4, 5, 8, 9, 10] [0, 1, 2, 5, 6, 7] ?_
  refine st_ ?_
  have hi1' := hi1.mono hle3
  have hle03 : Le G G3 := hle1.trans (hle2.trans hle3)
  have hSa3 : rI.S G3 (allQ l) (.slice ada (allQ l).length capa) := Rp.S_mono (hle2.trans hle3) hSa
  have hT3 : rT.S G3 l (.slice ad1 l.length cap1) := Rp.S_mono hle03 h10
  have ha63 := Rp.S_len hSa
  clear hSa hi1 hle1 hle2 hle3 hle13 hf h1 h10
  refine x_loop rfl (fun q s => ∃ (turn : Nat) (b10 : Nat) (ds : List Nat) (G' : Hp), turn ≤ 4 ∧ q = 4 - turn ∧ Le G3 G' ∧
    s = ⟨[(2, .p 0 b2 0), (3, .p 1 b3 0), (4, .p 2 b4 0), (5, .p 6 b6 0), (8, .v (.func (.func f1) #[] p1.toArray)), (9, .v (.func (.func f2) #[] p2.toArray)), (10, .p 7 b10 0)],
      [(0, b2, .c 22 [.v (.slice ad1 l.length cap1)]), (1, b3, .c 3 [.v (.int .i64 many)]), (2, b4, .c 4 [.v (.bool false)]), (5, 0, dzO ds), (6, b6, .c 25 [.v (.slice ada (allQ l).length capa)]), (7, b10, .c 3 [.v (.int .i64 turn)])], G', ds.map mkD⟩) ⟨0, b10, [], G3, by omega, rfl, Le.refl _, rfl⟩ ?_
  clear b10
  rintro q s ⟨turn, b10, ds, G5, hturn, hq, hle5, rfl⟩ ih
  refine rn_ ?_; intros
  refine x_if rfl rfl rfl rfl (fun ht4 => ?_) (fun ht4 => ?_)
  · have hlt : turn < 4 := by simp at ht4; omega
    have htm : (turn : Int).tmod 2 = ((turn % 2 : Nat) : Int) := by rw [Int.tmod_eq_emod_of_nonneg (by omega)]; omega
    refine rn_ ?_; intros
    simp only [Int.reduceLT, Int.reduceLE, Int.reduceEq, Int.reduceNeg, Int.le_refl, Int.reduceToNat, if_false, if_true, and_self]; refine st_ ?_; refine rn_ ?_; intros
    rw [htm]
    refine cut_tail 1 (fun s' => ∃ (fn : FuncId) (cp : List Value) (L : List (Int × Int)), canCall C.P fn = true ∧ Iter C.P fn cp G3 (encII L) L.length ∧ L.map (·.1) = allQ l ∧ (turn % 2 = 0 → ∀ x ∈ L, x.2 = ((waitF l x.1).1 : Int)) ∧ (turn % 2 = 1 → ∀ x ∈ L, x.2 = (wentF l x.1 : Int)) ∧
      s' = ⟨[(2, .p 0 b2 0), (3, .p 1 b3 0), (4, .p 2 b4 0), (5, .p 6 b6 0), (8, .v (.func (.func f1) #[] p1.toArray)), (9, .v (.func (.func f2) #[] p2.toArray)), (10, .p 7 b10 0), (11, .v (.func (.func fn) #[] cp.toArray))],
      [(0, b2, .c 22 [.v (.slice ad1 l.length cap1)]), (1, b3, .c 3 [.v (.int .i64 many)]), (2, b4, .c 4 [.v (.bool false)]), (5, 0, dzO ds), (6, b6, .c 25 [.v (.slice ada (allQ l).length capa)]), (7, b10, .c 3 [.v (.int .i64 turn)])], G5, ds.map mkD⟩) ?_ (fun key => ?_)
    rotate_left
    · simp only [List.drop_succ_cons, List.drop_zero] at key
      refine x_if rfl rfl rfl rfl (fun hodd => ?_) (fun hodd => ?_)
      · have hodd' : turn % 2 = 1 := by simp at hodd; omega
        refine x_reg rfl rfl ?_
        refine runo0 400 hty hnt hmh ?_; refine st_ ?_
        refine go_ops ?_
        refine go_keep [2, 3, 4, 5, 8, 9, 10, 11] [0, 1, 2, 5, 6, 7] ?_
        refine st_ ?_
        exact key _ ⟨f2, p2, seqN l, hf2, hi2, seq_all _ l, fun h => by omega, fun _ => seqN_val, rfl⟩
      · have hodd' : turn % 2 = 0 := by simp at hodd; omega
        refine x_skip rfl ?_
        refine go_keep [2, 3, 4, 5, 8, 9, 10, 11] [0, 1, 2, 5, 6, 7] ?_
        refine st_ ?_
        exact key _ ⟨f1, p1, seqW l, hf1, hi1', seq_all _ l, fun _ => seqW_val, fun h => by omega, rfl⟩
    rintro s' ⟨fn, cp, L, hfc, hit, hLa, hL0, hL1, rfl⟩
    have hLl : L.length = (allQ l).length := by rw [← hLa, List.length_map]
    simp only [List.drop_succ_cons, List.drop_zero]
    refine rn_ ?_; intros
    rename_i b12
    refine go_keep [2, 3, 4, 5, 8, 9, 10, 11, 12, 47] [0, 1, 2, 5, 6, 7, 8] ?_
    refine st_ ?_
    refine cut_tail 2 (fun s' => ∃ (m : Nat) (ds : List Nat) (G' : Hp), m ≤ L.length ∧ Le G3 G' ∧ (turn < 2 → (m : Int) = min (L.length : Int) (max 1 many)) ∧ (2 ≤ turn → m = L.length) ∧
      s' = ⟨[(2, .p 0 b2 0), (3, .p 1 b3 0), (4, .p 2 b4 0), (5, .p 6 b6 0), (8, .v (.func (.func f1) #[] p1.toArray)), (9, .v (.func (.func f2) #[] p2.toArray)), (10, .p 7 b10 0), (12, .p 8 b12 0)],
      [(0, b2, .c 22 [.v (.slice ad1 l.length cap1)]), (1, b3, .c 3 [.v (.int .i64 many)]), (2, b4, .c 4 [.v (.bool false)]), (5, 0, dzO ds), (6, b6, .c 25 [.v (.slice ada (allQ l).length capa)]), (7, b10, .c 3 [.v (.int .i64 turn)]), (8, b12, .c 3 [.v (.int .i64 m)])], G', ds.map mkD⟩) ?_ (fun key => ?_)
    rotate_left
    · simp only [List.drop_succ_cons, List.drop_zero] at key
      refine x_range 5 rfl rfl (ps := #[48, 49]) rfl hro hmh rfl rfl hfc (by rw [hnt]; decide) (hit.mono hle5) (encII_mono _) (fun _ _ _ h => by obtain ⟨_, _, rfl⟩ := h; rfl)
        (fun i own => (turn < 2 → i = 0 ∨ (i : Int) < many) ∧ own = [(0, b2, .c 22 [.v (.slice ad1 l.length cap1)]), (1, b3, .c 3 [.v (.int .i64 many)]), (2, b4, .c 4 [.v (.bool false)]), (5, 0, dzO ds), (6, b6, .c 25 [.v (.slice ada (allQ l).length capa)]), (7, b10, .c 3 [.v (.int .i64 turn)]), (8, b12, .c 3 [.v (.int .i64 i)])])
        (fun c own => ∃ i : Nat, c = .exit 2 ∧ turn < 2 ∧ i < L.length ∧ (i = 0 ∨ (i : Int) < many) ∧ many ≤ i + 1 ∧ own = [(0, b2, .c 22 [.v (.slice ad1 l.length cap1)]), (1, b3, .c 3 [.v (.int .i64 many)]), (2, b4, .c 4 [.v (.bool false)]), (5, 0, dzO ds), (6, b6, .c 25 [.v (.slice ada (allQ l).length capa)]), (7, b10, .c 3 [.v (.int .i64 turn)]), (8, b12, .c 3 [.v (.int .i64 ((i : Int) + 1))])])
        (fun i own h => by obtain ⟨_, rfl⟩ := h; exact ⟨keys_lt rfl, (by repeat (first | exact plain_nil | refine plain_cons (fun _ h => h) ?_)), rfl⟩) (fun _ _ h => by obtain ⟨i, _, _, _, _, _, rfl⟩ := h; exact ⟨(by repeat (first | exact plain_nil | refine plain_cons (fun _ h => h) ?_)), rfl⟩) ⟨fun _ => .inl rfl, rfl⟩ ?_ ?_ ?_
      · rintro C' C0 i own vs G7 lp D r hiN ⟨hi0, rfl⟩ (hle7 : Le G5 G7) ⟨x, hLi, rfl⟩ hR
        rw [List.getElem?_eq_getElem hiN] at hLi
        simp only [Option.some.injEq] at hLi
        have hxm : x ∈ L := by rw [← hLi]; exact List.getElem_mem _
        have hia : i < (allQ l).length := by omega
        have hx1 : (allQ l)[i] = x.1 := by simp [← hLa, hLi]
        have hle57 := hle5.trans hle7
        have hT7 := Rp.S_mono hle57 hT3
        obtain ⟨c1, o1, rfl, ha1⟩ := rI_at (Rp.S_mono hle57 hSa3) (i := i) hia
        rw [hx1] at ha1
        have hnt2 := hR.nt.trans hnt; have hty2 := hR.ty.trans hty; have hP2 := hR.P.trans hP; clear hQ hQp hnt hty hP hmh hmb hro; have hnt := hnt2; have hty := hty2; have hP := hP2; have hmh := hR.mh; have hQp := hR.qp; simp only [putsS, List.toList_toArray]; refine st_ ?_
        refine rn_ ?_; intros
        refine go_br rfl hR.ready ?_
        refine st_ ?_
        refine rn_ ?_; intros
        (refine go_gsplit rfl rfl (fun hc => absurd hc (by simp; omega)) (fun _ => ?_); refine st_ ?_; (refine rn_ ?_; intros))
        refine go_q (by rw [hnt]; rfl) (quiet_index (by rw [hty]; rfl) (by rw [hty]; rfl) rfl rfl rfl (by omega) (by omega)) ?_
        refine rn_ ?_; intros
        refine go_q (by rw [hnt]; rfl) (quiet_load (vs := [.int .i64 x.1]) (by rw [hty]; rfl) rfl (by simp [TK.agg]) (by simpa using ha1) rfl) ?_
        refine rn_ ?_; intros
        (refine go_gsplit rfl rfl (fun hc => absurd hc (by simp)) (fun _ => ?_); refine st_ ?_; ((try (refine runo0 400 hty hnt hmh ?_; simp only [so, sq, zy, zz, tyE, SO', SQ', opQ, opStore, opAlloc, ev, putS, dOk, cv, SV.cs, SV.one, SV.bool?, eqB, Value.oneCell', ldOwn, binInt, binConst, binBool, binStr, isC, TK.agg, rv, rv1, ldV, resOne, resV, Nat.reduceAdd, Nat.reduceMul, Nat.reduceSub, Nat.reduceLT, Nat.reduceLeDiff, Nat.reduceEqDiff, Nat.reduceBEq, Int.reduceEq, reduceIte, reduceCtorEq, eq_self])); (refine ru_ ?_; intros)))
        rw [htm]
        refine go_gsplit rfl rfl (fun hev => ?_) (fun hev => ?_) <;> (refine st_ ?_; ((try (refine runo0 400 hty hnt hmh ?_; simp only [so, sq, zy, zz, tyE, SO', SQ', opQ, opStore, opAlloc, ev, putS, dOk, cv, SV.cs, SV.one, SV.bool?, eqB, Value.oneCell', ldOwn, binInt, binConst, binBool, binStr, isC, TK.agg, rv, rv1, ldV, resOne, resV, Nat.reduceAdd, Nat.reduceMul, Nat.reduceSub, Nat.reduceLT, Nat.reduceLeDiff, Nat.reduceEqDiff, Nat.reduceBEq, Int.reduceEq, reduceIte, reduceCtorEq, eq_self])); (refine ru_ ?_; intros)))
        · have hev' : turn % 2 = 0 := by simp at hev; omega
          have hx2 := hL0 hev' x hxm
          refine go_callf (by rw [hnt]; rfl) (by rw [hP]; kernel_rfl) rfl (hP ▸ rwait_ok l _ x.1 G7 hT7) ?_; refine rn_ ?_; intros
          rw [hx2]
          (refine go_gsplit rfl rfl (fun hc => absurd hc (by simp)) (fun _ => ?_); refine st_ ?_; ((try (refine runo0 400 hty hnt hmh ?_; simp only [so, sq, zy, zz, tyE, SO', SQ', opQ, opStore, opAlloc, ev, putS, dOk, cv, SV.cs, SV.one, SV.bool?, eqB, Value.oneCell', ldOwn, binInt, binConst, binBool, binStr, isC, TK.agg, rv, rv1, ldV, resOne, resV, Nat.reduceAdd, Nat.reduceMul, Nat.reduceSub, Nat.reduceLT, Nat.reduceLeDiff, Nat.reduceEqDiff, Nat.reduceBEq, Int.reduceEq, reduceIte, reduceCtorEq, eq_self])); (refine ru_ ?_; intros)))
          rw [htm]
          (refine go_gsplit rfl rfl (fun hc => absurd hc (by simp; omega)) (fun _ => ?_); refine st_ ?_; (refine rn_ ?_; intros))
          rw [wr (n := (i : Int) + 1) (by omega) (by omega)]
          refine go_keep [3, 10, 12, 88, 89, 90] [998, 999, 0, 1, 2, 5, 6, 7, 8] ?_
          refine st_ ?_
          refine go_gsplit rfl rfl (fun ht => ?_) (fun ht => ?_) <;> (refine st_ ?_; (refine rn_ ?_; intros))
          · have ht0 : turn < 2 := by simp at ht; omega
            refine x_if rfl rfl rfl rfl (fun hmany => ?_) (fun hmany => ?_)
            · simp at hmany
              refine x_rexit rfl rfl rfl hR rfl rfl ?_
              simp only [rmk, reduceIte, Nat.reduceEqDiff]
              exact ⟨i, rfl, ht0, hiN, hi0 ht0, by omega, rfl⟩
            · simp at hmany
              refine x_skip rfl ?_
              refine go_blk ?_
              refine go_rend hR rfl rfl ?_
              simp only [rmk, reduceIte, Nat.reduceEqDiff]
              exact ⟨fun _ => .inr (by omega), rfl⟩
          · have ht0 : ¬ turn < 2 := by simp at ht; omega
            refine go_rend hR rfl rfl ?_
            simp only [rmk, reduceIte, Nat.reduceEqDiff]
            exact ⟨fun h => absurd h ht0, rfl⟩
        · have hev' : turn % 2 = 1 := by simp at hev; omega
          have hx2 := hL1 hev' x hxm
          rw [htm]
          (refine go_gsplit rfl rfl (fun _ => ?_) (fun hc => absurd hc (by simp; omega)); refine st_ ?_; (refine rn_ ?_; intros))
          refine go_callf (by rw [hnt]; rfl) (by rw [hP]; kernel_rfl) rfl (hP ▸ rwent_ok l _ x.1 G7 hT7) ?_; refine rn_ ?_; intros
          rw [hx2]
          (refine x_split rfl rfl rfl (fun hc => absurd hc (by simp)) (fun _ => ?_); refine st_ ?_; (refine ru_ ?_; intros))
          rw [wr (n := (i : Int) + 1) (by omega) (by omega)]
          refine go_keep [3, 10, 12, 88, 89, 90] [998, 999, 0, 1, 2, 5, 6, 7, 8] ?_
          refine st_ ?_
          refine go_gsplit rfl rfl (fun ht => ?_) (fun ht => ?_) <;> (refine st_ ?_; (refine rn_ ?_; intros))
          · have ht0 : turn < 2 := by simp at ht; omega
            refine x_if rfl rfl rfl rfl (fun hmany => ?_) (fun hmany => ?_)
            · simp at hmany
              refine x_rexit rfl rfl rfl hR rfl rfl ?_
              simp only [rmk, reduceIte, Nat.reduceEqDiff]
              exact ⟨i, rfl, ht0, hiN, hi0 ht0, by omega, rfl⟩
            · simp at hmany
              refine x_skip rfl ?_
              refine go_blk ?_
              refine go_rend hR rfl rfl ?_
              simp only [rmk, reduceIte, Nat.reduceEqDiff]
              exact ⟨fun _ => .inr (by omega), rfl⟩
          · have ht0 : ¬ turn < 2 := by simp at ht; omega
            refine go_rend hR rfl rfl ?_
            simp only [rmk, reduceIte, Nat.reduceEqDiff]
            exact ⟨fun h => absurd h ht0, rfl⟩
      · rintro D own G7 ⟨hi0, rfl⟩ (hle7 : Le G5 G7)
        refine st_ ?_
        refine go_blk ?_
        refine go_keep [2, 3, 4, 5, 8, 9, 10, 12] [0, 1, 2, 5, 6, 7, 8] ?_
        refine st_ ?_
        exact key _ ⟨L.length, D :: ds, G7, Nat.le_refl _, hle5.trans hle7, fun h => by rcases hi0 h with h | h <;> omega, fun _ => rfl, rfl⟩
      · rintro D c own G7 ⟨i, rfl, ht0, hiN, hi1, hi2, rfl⟩ (hle7 : Le G5 G7)
        refine st_ ?_
        refine x_exit rfl rfl rfl ?_
        refine go_keep [2, 3, 4, 5, 8, 9, 10, 12] [0, 1, 2, 5, 6, 7, 8] ?_
        refine st_ ?_
        exact key _ ⟨i + 1, D :: ds, G7, hiN, hle5.trans hle7, fun h => by omega, fun h => by omega, rfl⟩
    · rintro s' ⟨m2, ds, G6, hm2L, hle6, hn0, hn1, rfl⟩
      simp only [List.drop_succ_cons, List.drop_zero]
      refine rn_ ?_; intros
      have hr0 : turn < 2 → (m2 : Int) = if (if 1 < many then many else 1) < ↑(allQ l).length then if 1 < many then many else 1 else ↑(allQ l).length := fun h => by
        have := hn0 h
        rw [this, hLl]; split <;> split <;> omega
      refine go_gsplit rfl rfl (fun ht => ?_) (fun ht => ?_) <;> (refine st_ ?_; (refine rn_ ?_; intros))
      · have ht0 : turn < 2 := by simp at ht; omega
        (refine go_gsplit rfl rfl (fun hc => absurd hc (by simp [hr0 ht0])) (fun _ => ?_); refine st_ ?_; (refine rn_ ?_; intros))
        (refine go_gsplit rfl rfl (fun hc => absurd hc (by simp; omega)) (fun _ => ?_); refine st_ ?_; (refine rn_ ?_; intros))
        repeat (refine go_gundef rfl (by rw [hnt]; rfl) rfl ?_; (refine st_ ?_; (refine rn_ ?_; intros)))
        rename_i b16
        rw [wr (n := (turn : Int) + 1) (by omega) (by omega)]
        refine go_keep [2, 3, 4, 5, 8, 9, 10] [0, 1, 2, 5, 6, 9] ?_
        refine st_ ?_
        refine go_rekey 9 7 rfl rfl (by omega) (by omega) ?_
        refine st_ ?_
        refine go_slot 10 (.p 7 b16 0) rfl (by simp [SV.den]) ?_
        refine st_ ?_
        exact ih (4 - (turn + 1)) _ (by omega) ⟨turn + 1, b16, ds, G6, by omega, rfl, hle6, by simp⟩
      · have ht1 : 2 ≤ turn := by simp at ht; omega
        repeat (refine go_gundef rfl (by rw [hnt]; rfl) rfl ?_; (refine st_ ?_; (refine rn_ ?_; intros)))
        (refine go_gsplit rfl rfl (fun _ => ?_) (fun hc => absurd hc (by simp; omega)); refine st_ ?_; (refine rn_ ?_; intros))
        (refine x_split rfl rfl rfl (fun hc => absurd hc (by simp [hn1 ht1, hLl])) (fun _ => ?_); refine st_ ?_; (refine ru_ ?_; intros))
        rename_i b16
        rw [wr (n := (turn : Int) + 1) (by omega) (by omega)]
        refine go_keep [2, 3, 4, 5, 8, 9, 10] [0, 1, 2, 5, 6, 9] ?_
        refine st_ ?_
        refine go_rekey 9 7 rfl rfl (by omega) (by omega) ?_
        refine st_ ?_
        refine go_slot 10 (.p 7 b16 0) rfl (by simp [SV.den]) ?_
        refine st_ ?_
        exact ih (4 - (turn + 1)) _ (by omega) ⟨turn + 1, b16, ds, G6, by omega, rfl, hle6, by simp⟩
  · clear ih
    refine rn_ ?_; intros
    refine go_callf (by rw [hnt]; rfl) (by rw [hP]; kernel_rfl) rfl (hP ▸ works_ok G5) ?_; refine rn_ ?_; intros
    refine x_retM 5 rfl hQ hmb rfl rfl rfl (by rw [hty]; simp only [so, sq, zy, zz, tyE, SO', SQ', opQ, opStore, opAlloc, ev, putS, dOk, cv, SV.cs, SV.one, SV.bool?, eqB, Value.oneCell', ldOwn, binInt, binConst, binBool, binStr, isC, TK.agg, rv, rv1, ldV, resOne, resV, Nat.reduceAdd, Nat.reduceMul, Nat.reduceSub, Nat.reduceLT, Nat.reduceLeDiff, Nat.reduceEqDiff, Nat.reduceBEq, reduceIte, reduceCtorEq, eq_self]; try rfl) ?_; simp only [SV.den, resV, dens]
end Go.Proofs.Ytcaohcmlicbjhaa
namespace Go.Sx
set_option linter.unusedSimpArgs false
set_option linter.unusedVariables false
open Go.RowKit

def hp (w : World) : Hp := fun b => w.heap[b]?
theorem has_hp (w : World) : Has w (hp w) := fun _ _ h => h
theorem at_of_cells {w : World} {b off : Nat} {cs : List Value} (h0 : 0 < cs.length) (h : ∀ i, i < cs.length → w.cell? ⟨b, off + i, none⟩ = cs[i]?) : At (hp w) b off cs := by
  have h1 := h 0 h0
  rw [List.getElem?_eq_getElem h0] at h1
  unfold World.cell? at h1 h
  cases hb : w.heap[b]? with
  | none => simp [hb] at h1
  | some o =>
    cases o with
    | cells arr e fz =>
      simp only [hb, Option.isSome_none, Bool.false_eq_true, if_false] at h
      refine ⟨arr, e, fz, hb, ?_, fun i hi => h i hi⟩
      have := h (cs.length - 1) (by omega)
      rw [List.getElem?_eq_getElem (show cs.length - 1 < cs.length by omega)] at this
      obtain ⟨hlt, _⟩ := Array.getElem?_eq_some_iff.1 this
      omega
    | _ => simp [hb] at h1
theorem wf_i64 {n : Int} (h : (Lit.int .i64 n).wf = true) : isI64 n := by
  simpa [Lit.wf, IntKind.min, IntKind.max, IntKind.signed, IntKind.bits, isI64] using h
theorem gatherL {α : Type} {r : Rp α} {w : World} {b : Nat} : ∀ (n off : Nat),
    (∀ i, i < n → ∃ x cs', r.e (hp w) x cs' ∧ ∀ j, j < r.size → w.cell? ⟨b, off + i * r.size + j, none⟩ = cs'[j]?) →
    ∃ (l : List α) (cs : List Value), l.length = n ∧ r.L (hp w) l cs ∧ ∀ i, i < cs.length → w.cell? ⟨b, off + i, none⟩ = cs[i]?
  | 0, off, _ => ⟨[], [], rfl, rfl, by simp⟩
  | n + 1, off, h => by
    obtain ⟨x, c0, hx, h0⟩ := h 0 (by omega)
    obtain ⟨l, cs, hl, hL, hcs⟩ := gatherL (r := r) (w := w) (b := b) n (off + r.size) (fun i hi => by
      obtain ⟨x, c, hx, hc⟩ := h (i + 1) (by omega)
      refine ⟨x, c, hx, fun j hj => ?_⟩
      rw [← hc j hj]
      congr 2
      rw [Nat.succ_mul]; omega)
    have hlen := r.len hx
    refine ⟨x :: l, c0 ++ cs, by simp [hl], ⟨c0, cs, rfl, hx, hL⟩, fun i hi => ?_⟩
    rcases Nat.lt_or_ge i r.size with q | q
    · rw [List.getElem?_append_left (by omega)]
      have := h0 i q
      simpa using this
    · rw [List.getElem?_append_right (by omega), ← hcs (i - c0.length) (by simp at hi; omega)]
      congr 2; omega
section
variable {H : Type} {enc : TypeId × Value → H} {P : Program} {w : World}
theorem add_eq (b off j : Nat) : (Addr.mk b off none).add j = ⟨b, off + j, none⟩ := by
  unfold Addr.add
  split
  · subst_vars; rfl
  · rfl
theorem open_list {α : Type} (r : Rp α) {t e : TypeId} (ht : P.underlying t = some (.slice e)) (hsz : P.cellsOf e = r.size) (hpos : 0 < r.size)
    (hel : ∀ n d ps cs, DataW.trod enc P w 0 (fun _ => true) true n e cs = some (d, ps) → cs.length = r.size → ∃ x, r.e (hp w) x cs)
    {n : Nat} {d : DataW H} {ps : List MemPlace} {cs : List Value} (h : DataW.trod enc P w 0 (fun _ => true) true n t cs = some (d, ps)) : ∃ (sl : Value) (l : List α), cs = [sl] ∧ r.S (hp w) l sl := by
  have hs := Deep.open_slice ht h
  rcases hs with ⟨hc, hy⟩ | ⟨a, len, cap, mm, n', D, Pl, hc, _, hle, hcap, hmm, hy, hel2⟩
  · exact ⟨_, [], hc, Rp.S_nil _ _⟩
  · simp only [if_true] at hmm
    subst hmm
    have hml : len ≤ 9223372036854775807 := Nat.le_trans (Nat.le_trans hle hcap) (by decide)
    by_cases hz : len = 0
    · subst hz
      exact ⟨_, [], hc, Rp.S_nil _ _⟩
    · obtain ⟨b, off, spot⟩ := a
      rw [hsz] at hel2
      have hspot : spot = none := by
        obtain ⟨cs', q1, _⟩ := hel2 0 (by omega)
        obtain ⟨_, q2, q3⟩ := World.cells?_some q1
        have q4 := q3 0 (by omega)
        rw [List.getElem?_eq_getElem (by omega)] at q4
        simpa [Addr.add] using World.cell?_spot q4
      subst hspot
      obtain ⟨l, cs2, hl, hL, hcs⟩ := gatherL (r := r) (w := w) (b := b) len off (fun i hi => by
        obtain ⟨cs', q1, q2⟩ := hel2 i (by omega)
        obtain ⟨_, q3, q4⟩ := World.cells?_some q1
        obtain ⟨x, hx⟩ := hel _ _ _ _ q2 (by omega)
        refine ⟨x, cs', hx, fun j hj => ?_⟩
        have := q4 j (by omega)
        rw [Deep.add_add, add_eq] at this
        rw [← this, Nat.add_assoc])
      have hlen := Rp.L_len hL
      have hcl : 0 < cs2.length := by rw [hlen, hl]; exact Nat.mul_pos (by omega) hpos
      exact ⟨_, l, hc, by rw [hl]; exact hml, _, _, by rw [hl], .inr ⟨_, _, _, rfl, at_of_cells hcl hcs, hL⟩⟩
theorem trod_struct2 {t : TypeId} {f0 f1 : Field} {fuel : Nat} {cs : List Value} {x : DataW H × List MemPlace} {base : Nat} {spare : Nat → Bool} {held : Bool} (ht : P.underlying t = some (.struct #[f0, f1])) (h : DataW.trod enc P w base spare held fuel t cs = some x) :
    ∃ y0 y1 n, x = (.agg [y0.1, y1.1], y0.2 ++ y1.2) ∧ cs.length = P.cellsOf t ∧ DataW.trod enc P w base spare held n f0.type ((cs.drop f0.offset).take (P.cellsOf f0.type)) = some y0 ∧
      DataW.trod enc P w base spare held n f1.type ((cs.drop f1.offset).take (P.cellsOf f1.type)) = some y1 := by
  obtain ⟨xs, n, _, rfl, hl, hlen, hf⟩ := DataW.trod_struct ht h
  match xs, hlen with
  | [y0, y1], _ => exact ⟨y0, y1, n, by simp, hl, by simpa using hf 0 f0 rfl, by simpa using hf 1 f1 rfl⟩
theorem open_int1 {T : TypeId} (hT : P.underlying T = some (.int .i64)) (hc : P.cellsOf T = 1) {n : Nat} {x : DataW H × List MemPlace} {cs : List Value} (h : DataW.trod enc P w 0 (fun _ => true) true n T cs = some x) : ∃ k, cs = [.int .i64 k] ∧ isI64 k := by
  obtain ⟨k, hk, _, hw⟩ := DataW.trod_int hT h
  exact ⟨k, hk, wf_i64 hw⟩
theorem open_ints {t e : TypeId} (ht : P.underlying t = some (.slice e)) (he : P.underlying e = some (.int .i64)) (hc : P.cellsOf e = 1) {n : Nat} {d : DataW H} {ps : List MemPlace} {cs : List Value} (h : DataW.trod enc P w 0 (fun _ => true) true n t cs = some (d, ps)) : ∃ (sl : Value) (l : List Int), cs = [sl] ∧ rI.S (hp w) l sl :=
  open_list rI ht hc (by decide) (fun n d ps cs h _ => by
    obtain ⟨k, rfl, hk⟩ := open_int1 he hc h
    exact ⟨k, rfl, hk⟩) h
end
end Go.Sx
namespace Go.Proofs.Ytcaohcmlicbjhaa
set_option linter.unusedSimpArgs false
set_option linter.unusedVariables false
open Go.Sx
set_option maxRecDepth 20000
section
variable {H : Type} {enc : TypeId × Value → H} {w : World}
theorem open_turn {n : Nat} {d : DataW H} {ps : List MemPlace} {cs : List Value} (h : DataW.trod enc Try.prog w 0 (fun _ => true) true n 46 cs = some (d, ps)) : ∃ x : Tn, rT.e (hp w) x cs := by
  obtain ⟨y0, y1, m, _, hlen, h0, h1⟩ := trod_struct2 Try.underlying46 h
  rw [show Try.prog.cellsOf 46 = 2 by kernel_rfl] at hlen
  match cs, hlen with
  | [c0, c1], _ =>
  have e1 : Try.prog.cellsOf 25 = 1 := by kernel_rfl
  have e2 : Try.prog.cellsOf 3 = 1 := by kernel_rfl
  simp only [e1, e2, List.drop_zero, List.drop_succ_cons, List.take_succ_cons, List.take_zero] at h0 h1
  obtain ⟨sl, l, hs, hS⟩ := open_ints Try.underlying25 Try.underlying3 (by kernel_rfl) h0
  obtain ⟨k, hk, wk⟩ := open_int1 Try.underlying3 e2 h1
  cases hk; cases hs
  exact ⟨⟨l, k⟩, _, rfl, wk, hS⟩
theorem open_turns {n : Nat} {d : DataW H} {ps : List MemPlace} {cs : List Value} (h : DataW.trod enc Try.prog w 0 (fun _ => true) true n 22 cs = some (d, ps)) : ∃ (sl : Value) (l : List Tn), cs = [sl] ∧ rT.S (hp w) l sl :=
  open_list rT Try.underlying22 (by kernel_rfl) (by decide) (fun n d ps cs h _ => open_turn h) h
theorem wf_u16 {n : Int} (h : (Lit.int .u16 n).wf = true) : 0 ≤ n ∧ n < 65536 := by
  have : 0 ≤ n ∧ n ≤ 65535 := by simpa [Lit.wf, IntKind.min, IntKind.max, IntKind.signed, IntKind.bits] using h
  omega
def rU : Rp Int where
  size := 1
  e _ x cs := cs = [.int .u16 x] ∧ 0 ≤ x ∧ x < 65536
  mono _ h := h
  len h := by rw [h.1]; rfl
  one h u hu := by rw [h.1] at hu; simp at hu; rw [hu]; rfl
theorem rU_at {G : Hp} {l : List Int} {ad : Option Addr} {n cap : Nat} (h : rU.S G l (.slice ad n cap)) {i : Nat} (hi : i < l.length) : ∃ b off, ad = some ⟨b, off, none⟩ ∧ At G b (off + i) [.int .u16 l[i]] ∧ 0 ≤ l[i] ∧ l[i] < 65536 := by
  obtain ⟨b, off, cap', c, hv, hat, rfl, h2⟩ := Rp.S_get h hi
  cases hv
  exact ⟨b, off, rfl, by simpa [rU] using hat, h2⟩
theorem open_u16s {n : Nat} {d : DataW H} {ps : List MemPlace} {cs : List Value} (h : DataW.trod enc Try.prog w 0 (fun _ => true) true n 41 cs = some (d, ps)) : ∃ (sl : Value) (l : List Int), cs = [sl] ∧ rU.S (hp w) l sl :=
  open_list rU Try.underlying41 (by kernel_rfl) (by decide) (fun n d ps cs h _ => by
    obtain ⟨k, hk, _, hw⟩ := DataW.trod_int Try.underlying42 h
    have := wf_u16 hw
    exact ⟨k, hk, this⟩) h
end
end Go.Proofs.Ytcaohcmlicbjhaa
namespace Go.Proofs.Ytcaohcmlicbjhaa
set_option linter.unusedSimpArgs false
set_option linter.unusedVariables false
open Go.ChangeShapes Go.WideShapes Go.ChangeAt Go.RowKit

theorem own : ownKnob Try.prog.godebug = none := by kernel_rfl
theorem laidOut : laidOutB Try.prog = true := by kernel_rfl

theorem post_below {H : Type} {enc : TypeId × Value → H} {P : Program} {f : Func} {s : ChangeSpec} {fresh handsOn again : Bool} {W W' : World} {args : Array Value} {v : Value} {ds : List (DataW H)} {pa : List MemPlace}
    (hvs : s.vars = []) (hfn : (s.fn H (ds ++ [])).vars = []) (hW : DataW.Whole enc P f.params.toList s.vars false W args.toList ds [] pa)
    (hres : ∀ (b : Nat) (sp : Nat → Bool) (hd : Bool), DataW.TrodAll enc P W' b sp hd f.resultTypes.toList (v.resultList f.resultTypes.size) (s.fn H (ds ++ [])).results [])
    (hargs : ∀ sp : Nat → Bool, (∀ p ∈ pa, sp p.block = true) → DataW.TrodAll enc P W' 0 sp true f.params.toList args.toList (s.fn H (ds ++ [])).args pa)
    (hb : Below W.heap.size W W')
    (hok : ∀ (j : Nat) (t : TypeId) (r : Value), f.resultTypes[j]? = some t → (v.resultList f.resultTypes.size)[j]? = some r → Value.okWide P W' .any 0 t r) :
    s.post enc P f false fresh handsOn again W args v W' := by
  have hlt := hW.lt
  have hvars : ∀ sp : Nat → Bool, DataW.TrodVars enc P W' sp s.vars (s.fn H (ds ++ [])).vars [] := fun sp => by rw [hvs, hfn]; rfl
  have hz := hW
  obtain ⟨_, _, _, _, _, hfrozen, _⟩ := hz
  refine ⟨ds, [], pa, [], pa, [], hW, hres _ _ _, hargs _ (fun p hp => by simpa using hlt p hp), hvars _, World.keptBut_mono (fun p hp => ⟨hp, Or.inr (by simpa using hp)⟩) (hb.frame (· ∈ pa)), fun _ => ?_⟩
  refine ⟨hok, _, _, ([] ++ pa) ++ [], ⟨[] ++ pa, [], trodAll_append (hargs _ (fun _ _ => rfl)) (hres _ _ _), hvars _, rfl, fun b off hp => ?_, by simp⟩, fun p hp _ => by simpa using hp⟩
  · have hp' : MemPlace.cell b off ∈ pa := by simpa using hp
    rw [hb.frozen (hlt _ hp')]
    exact hfrozen b off hp'
end Go.Proofs.Ytcaohcmlicbjhaa
