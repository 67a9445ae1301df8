/-
  betrothalref06.Places: the same answers.
-/
import Derived.Test.YtmdkenpodcnnbaaZ2
import Derived.Shelf.SlIterI.Nil
import Derived.Shelf.SortM.Plain
import Derived.Shelf.SortM.SortNone
set_option linter.unusedSimpArgs false
set_option linter.unusedVariables false
namespace Go.Proofs.Ytmdkenpodcnnbaa
set_option linter.unusedSimpArgs false
set_option linter.unusedVariables false
open Go.Sx
set_option maxHeartbeats 4000000
def rP : Rp (Int × Int) where
  size := 2
  e _ x cs := cs = [.int .i64 x.1, .int .i64 x.2] ∧ isI64 x.1 ∧ isI64 x.2
  mono _ h := h
  len h := by obtain ⟨rfl, _⟩ := h; rfl
  one h u hu := by
    obtain ⟨rfl, _⟩ := h
    simp at hu
    rcases hu with rfl | rfl <;> rfl
def en (A : Pl) : List Value := A.flatMap fun x => [.int .i64 x.1, .int .i64 x.2]
theorem en_cons (x : Int × Int) (A : Pl) : en (x :: A) = .int .i64 x.1 :: .int .i64 x.2 :: en A := rfl
theorem en_len : ∀ A : Pl, (en A).length = A.length * 2
  | [] => rfl
  | x :: A => by rw [en_cons]; simp only [List.length_cons, en_len A]; omega
theorem en_drop : ∀ (A : Pl) (i : Nat), (en A).drop (i * 2) = en (A.drop i)
  | A, 0 => by simp
  | [], i + 1 => by simp [en]
  | x :: A, i + 1 => by rw [en_cons, show (i + 1) * 2 = i * 2 + 1 + 1 by omega]; simp [en_drop A i]
theorem en_L {G : Hp} : ∀ {A : Pl}, okA A → rP.L G A (en A)
  | [], _ => rfl
  | x :: A, h => ⟨[.int .i64 x.1, .int .i64 x.2], en A, rfl, ⟨rfl, h x (by simp)⟩, en_L fun y hy => h y (by simp [hy])⟩
theorem ldA {A : Pl} {i off : Nat} (h : i < A.length) (ho : off = i * 2) : ldV false (((en A).drop off).take 1) = .int .i64 (pa A i) := by
  subst ho
  rw [en_drop, List.drop_eq_getElem_cons h, en_cons, pa_eq h]
  rfl
theorem ldB {A : Pl} {i off : Nat} (h : i < A.length) (ho : off = i * 2 + 1) : ldV false (((en A).drop off).take 1) = .int .i64 (de A i) := by
  subst ho
  rw [← List.drop_drop, en_drop, List.drop_eq_getElem_cons h, en_cons, de_eq h]
  rfl
theorem layA' (x : Int × Int) : ∀ {A : Pl} {i : Nat}, i < A.length → lay (en A) (i * 2) [.int .i64 x.1, .int .i64 x.2] = some (en (A.set i x))
  | a :: A, 0, _ => by simp [en_cons, lay]
  | a :: A, i + 1, h => by
    rw [en_cons, show (i + 1) * 2 = i * 2 + 1 + 1 by omega]
    simp only [lay, layA' x (A := A) (i := i) (by simpa using h), Option.map_some, List.set_cons_succ, en_cons]
theorem layB' (d : Int) : ∀ {A : Pl} {i : Nat}, i < A.length → lay (en A) (i * 2 + 1) [.int .i64 d] = some (en (A.set i (pa A i, d)))
  | a :: A, 0, _ => by simp [en_cons, lay, pa]
  | a :: A, i + 1, h => by
    rw [en_cons, show (i + 1) * 2 + 1 = i * 2 + 1 + 1 + 1 by omega]
    simp only [lay, layB' d (A := A) (i := i) (by simpa using h), Option.map_some, List.set_cons_succ, en_cons]
    simp [pa]
theorem layA {A : Pl} {i off : Nat} (x : Int × Int) (h : i < A.length) (ho : off = i * 2) {vs : List Value} (hv : vs = [.int .i64 x.1, .int .i64 x.2]) : lay (en A) off vs = some (en (A.set i x)) := by
  subst ho hv; exact layA' x h
theorem layB {A : Pl} {i off : Nat} (d : Int) (h : i < A.length) (ho : off = i * 2 + 1) {vs : List Value} (hv : vs = [.int .i64 d]) : lay (en A) off vs = some (en (A.set i (pa A i, d))) := by
  subst ho hv; exact layB' d h
theorem rep_en : ∀ n, rep [Value.int .i64 0, Value.int .i64 0] n = en (mid n 0)
  | 0 => rfl
  | n + 1 => by
    have h : mid (n + 1) 0 = (0, 0) :: mid n 0 := by simp [mid, List.replicate_succ]
    rw [h, en_cons, ← rep_en n]
    rfl
def refR (f : Fu) (r : Value) (G' : Hp) : Prop :=
  match places f with
  | .inl i => r = .tuple #[.slice none 0 0, .int .i64 i, .bool true]
  | .inr A => ∃ sl, r = .tuple #[sl, .int .i64 0, .bool false] ∧ rP.S G' A sl
theorem places_ref (f : Fu) (ns : Value) (G : Hp) (hp : isI64 f.params) (hns : rN.S G f.nodes ns) : Pure Try.prog 44 [.agg #[.int .i64 f.params, ns]] G (fun r G' => refR f r G') := by
  have hns0 := hns
  obtain ⟨ad, cap, rfl⟩ := Rp.S_slice hns
  have h63 := Rp.S_len hns
  simp only [isI64] at hp
  refine enterX ty tyok Try.func44 rfl Try.ntmps44 [.a [.v (.int .i64 f.params), .v (.slice ad f.nodes.length cap)]] (by simp) ?_
  intro C hP hQ hnt hty hmb hmh hro; have hQp := qp_body hQ; refine st_ ?_
  refine rn_ ?_; intros
  rename_i b1
  have ret : out f → refR f (.tuple #[.slice none 0 0, .int .i64 0, .bool true]) G := fun h => by
    simp only [refR, places, if_pos h]; rfl
  refine go_gsplit rfl rfl (fun h1 => ?_) (fun h1 => ?_) <;> (refine st_ ?_; (refine rn_ ?_; intros))
  · refine x_retc rfl hQ hmb rfl (by rw [hty]; simp only [so, sq, zy, zz, tyE, SO', SQ', opQ, opStore, opAlloc, ev, putS, dOk, cv, SV.cs, SV.one, SV.bool?, eqB, Value.oneCell', ldOwn, binInt, binConst, binBool, binStr, isC, TK.agg, rv, rv1, ldV, resOne, resV, Nat.reduceAdd, Nat.reduceMul, Nat.reduceSub, Nat.reduceLT, Nat.reduceLeDiff, Nat.reduceEqDiff, Nat.reduceBEq, reduceIte, reduceCtorEq, eq_self]; try rfl) rfl ?_; simp only [SV.den, resV, dens]
    exact ret (.inl (by simpa using h1))
  refine go_gsplit rfl rfl (fun h2 => ?_) (fun h2 => ?_) <;> (refine st_ ?_; (refine rn_ ?_; intros))
  · refine x_retc rfl hQ hmb rfl (by rw [hty]; simp only [so, sq, zy, zz, tyE, SO', SQ', opQ, opStore, opAlloc, ev, putS, dOk, cv, SV.cs, SV.one, SV.bool?, eqB, Value.oneCell', ldOwn, binInt, binConst, binBool, binStr, isC, TK.agg, rv, rv1, ldV, resOne, resV, Nat.reduceAdd, Nat.reduceMul, Nat.reduceSub, Nat.reduceLT, Nat.reduceLeDiff, Nat.reduceEqDiff, Nat.reduceBEq, reduceIte, reduceCtorEq, eq_self]; try rfl) rfl ?_; simp only [SV.den, resV, dens]
    exact ret (.inr (.inl (by simpa using h2)))
  refine go_gsplit rfl rfl (fun h3 => ?_) (fun h3 => ?_) <;> (refine st_ ?_; (refine rn_ ?_; intros))
  · refine x_retc rfl hQ hmb rfl (by rw [hty]; simp only [so, sq, zy, zz, tyE, SO', SQ', opQ, opStore, opAlloc, ev, putS, dOk, cv, SV.cs, SV.one, SV.bool?, eqB, Value.oneCell', ldOwn, binInt, binConst, binBool, binStr, isC, TK.agg, rv, rv1, ldV, resOne, resV, Nat.reduceAdd, Nat.reduceMul, Nat.reduceSub, Nat.reduceLT, Nat.reduceLeDiff, Nat.reduceEqDiff, Nat.reduceBEq, reduceIte, reduceCtorEq, eq_self]; try rfl) rfl ?_; simp only [SV.den, resV, dens]
    exact ret (.inr (.inr (.inl (by simp at h3; omega))))
  refine x_split rfl rfl rfl (fun h4 => ?_) (fun h4 => ?_) <;> (refine st_ ?_; (refine ru_ ?_; intros))
  · refine x_retc rfl hQ hmb rfl (by rw [hty]; simp only [so, sq, zy, zz, tyE, SO', SQ', opQ, opStore, opAlloc, ev, putS, dOk, cv, SV.cs, SV.one, SV.bool?, eqB, Value.oneCell', ldOwn, binInt, binConst, binBool, binStr, isC, TK.agg, rv, rv1, ldV, resOne, resV, Nat.reduceAdd, Nat.reduceMul, Nat.reduceSub, Nat.reduceLT, Nat.reduceLeDiff, Nat.reduceEqDiff, Nat.reduceBEq, reduceIte, reduceCtorEq, eq_self]; try rfl) rfl ?_; simp only [SV.den, resV, dens]
    exact ret (.inr (.inr (.inr (by simp at h4; omega))))
  clear ret
  have hout : ¬ out f := by
    simp at h1 h2 h3 h4
    unfold out; omega
  have hn1 : 1 ≤ f.nodes.length := by unfold out at hout; omega
  have hn2 : f.nodes.length ≤ 200 := by unfold out at hout; omega
  refine go_make 10 (by rw [hnt]; rfl) (by rw [hty]; rfl) (by rw [hty]; rfl) rfl rfl (Nat.le_refl _) rfl (by omega) (by omega) (by simp only []; omega) (by simp) ?_
  intro g1
  refine rn_ ?_; intros
  rw [rep_en]
  refine go_keep [1, 5, 6, 7] [0, 10] ?_
  refine st_ ?_
  refine x_loop rfl (fun q s => ∃ (j : Nat), j ≤ f.nodes.length ∧ q = f.nodes.length - j ∧
    s = ⟨[(1, .p 0 b1 0), (5, .v (.int .i64 f.nodes.length)), (6, .v (.slice (some ⟨g1, 0, none⟩) f.nodes.length f.nodes.length)), (7, .v (.int .i64 j))],
      [(0, b1, .c 46 [.v (.int .i64 f.params), .v (.slice ad f.nodes.length cap)]), (10, g1, .row (.slice (some ⟨g1, 0, none⟩) f.nodes.length f.nodes.length) 95 2 f.nodes.length (en (mid f.nodes.length j)))], G, []⟩) ⟨0, by omega, rfl, rfl⟩ ?_
  rintro q s ⟨j, hj, hq, rfl⟩ ih
  refine rn_ ?_; intros
  refine x_if rfl rfl rfl rfl (fun hjl => ?_) (fun hjl => ?_)
  · have hlt : j < f.nodes.length := by simp at hjl; omega
    refine rn_ ?_; intros
    refine go_q (by rw [hnt]; rfl) (quiet_index (by rw [hty]; rfl) (by rw [hty]; rfl) rfl rfl rfl (by omega) (by omega)) ?_
    refine rn_ ?_; intros
    refine go_storeR 10 rfl (by rw [hty]; rfl) rfl rfl rfl rfl rfl rfl (layA (i := j) ((-1 : Int), (0 : Int)) (by rw [mid_len hj]; omega) (by simp) rfl) ?_
    refine rn_ ?_; intros
    rw [wr (n := (j : Int) + 1) (by omega) (by omega), mid_set hlt]
    refine go_keep [1, 5, 6, 7] [0, 10] ?_
    refine st_ ?_
    exact ih (f.nodes.length - (j + 1)) _ (by omega) ⟨j + 1, by omega, rfl, by simp⟩
  have hge : j = f.nodes.length := by simp at hjl; omega
  subst hge
  clear ih
  have hm1 : mid f.nodes.length f.nodes.length = List.replicate f.nodes.length (-1, 0) := by simp [mid]
  rw [hm1]
  refine rn_ ?_; intros
  refine go_q (by rw [hnt]; rfl) (quiet_index (by rw [hty]; rfl) (by rw [hty]; rfl) rfl rfl rfl (by omega) (by omega)) ?_
  refine rn_ ?_; intros
  refine go_storeR 10 rfl (by rw [hty]; rfl) rfl rfl rfl rfl rfl rfl (layB (i := 0) f.params (by simp; omega) (by simp) rfl) ?_
  refine rn_ ?_; intros
  have hp0 : (List.replicate f.nodes.length ((-1 : Int), (0 : Int))).set 0 (pa (List.replicate f.nodes.length ((-1 : Int), (0 : Int))) 0, f.params) = pl0 f := by
    rw [pl0, pa_eq (by simp; omega)]; simp
  rw [hp0]
  refine go_keep [1, 5, 6, 8] [0, 10] ?_
  refine st_ ?_
  have hpl : places f = plGo f.nodes.length 0 f.nodes (pl0 f) := by rw [places, if_neg hout]
  refine x_loop rfl (fun q s => ∃ (j : Nat) (A : Pl), j ≤ f.nodes.length ∧ q = f.nodes.length - j ∧ A.length = f.nodes.length ∧ okA A ∧ places f = plGo f.nodes.length j (f.nodes.drop j) A ∧
    s = ⟨[(1, .p 0 b1 0), (5, .v (.int .i64 f.nodes.length)), (6, .v (.slice (some ⟨g1, 0, none⟩) f.nodes.length f.nodes.length)), (8, .v (.int .i64 j))],
      [(0, b1, .c 46 [.v (.int .i64 f.params), .v (.slice ad f.nodes.length cap)]), (10, g1, .row (.slice (some ⟨g1, 0, none⟩) f.nodes.length f.nodes.length) 95 2 f.nodes.length (en A))], G, []⟩) ⟨0, pl0 f, by omega, rfl, pl0_len f, pl0_ok hout, by simpa using hpl, rfl⟩ ?_
  rintro q s ⟨i, A, hi, hq, hA, hok, hpl2, rfl⟩ ih
  refine rn_ ?_; intros
  refine x_if rfl rfl rfl rfl (fun hil => ?_) (fun hil => ?_)
  · have hlt : i < f.nodes.length := by simp at hil; omega
    rw [List.drop_eq_getElem_cons hlt] at hpl2
    simp only [plGo] at hpl2
    obtain ⟨bn, offn, capn, cn, hse, hatn, sl, rfl, hop, hnn, hsl⟩ := Rp.S_get hns0 hlt
    cases hse
    obtain ⟨h63', adl, capl, rfl, hsrc⟩ := hsl
    have hatn' : At G bn (offn + i * 3) [.int .i64 f.nodes[i].op, .int .i64 f.nodes[i].n, .slice adl f.nodes[i].l.length capl] := by simpa [rN] using hatn
    clear hatn
    generalize hx : f.nodes[i] = x at *
    refine rn_ ?_; intros
    refine go_q (by rw [hnt]; rfl) (quiet_index (by rw [hty]; rfl) (by rw [hty]; rfl) rfl rfl rfl (by omega) (by omega)) ?_
    refine rn_ ?_; intros
    refine go_q (by rw [hnt]; rfl) (quiet_load (by rw [hty]; rfl) rfl (by simp [TK.agg]) hatn' rfl) ?_
    refine rn_ ?_; intros
    rename_i b9
    refine go_keep [1, 5, 6, 8, 9, 10] [0, 10, 11] ?_
    refine st_ ?_
    have ret : nodeStep f.nodes.length i x A = none → refR f (.tuple #[.slice none 0 0, .int .i64 i, .bool true]) G := fun h => by
      rw [h] at hpl2
      simp only [refR, hpl2]
    refine cut_tail 2 (fun s' => ¬ (0 < i ∧ pa A i < 0) ∧ de A i ≤ 64 ∧ ben x.op x.l.length = true ∧ nmb x.op x.n (de A i) = true ∧ s' = ⟨[(1, .p 0 b1 0), (5, .v (.int .i64 f.nodes.length)), (6, .v (.slice (some ⟨g1, 0, none⟩) f.nodes.length f.nodes.length)), (8, .v (.int .i64 i)), (9, .p 11 b9 0), (10, .v (.int .i64 x.op))],
      [(0, b1, .c 46 [.v (.int .i64 f.params), .v (.slice (some ⟨bn, offn, none⟩) f.nodes.length cap)]), (10, g1, .row (.slice (some ⟨g1, 0, none⟩) f.nodes.length f.nodes.length) 95 2 f.nodes.length (en A)), (11, b9, .c 51 [.v (.int .i64 x.op), .v (.int .i64 x.n), .v (.slice adl x.l.length capl)])], G, []⟩) ?_ (fun key => ?_)
    · rintro s' ⟨hb1, hb2, hben, hnmb, rfl⟩
      simp only [List.drop_succ_cons, List.drop_zero]
      have hnb : nodeStep f.nodes.length i x A = kids f.nodes.length x.op i 0 x.l A := if_neg (by
        rintro (h | h | h | h)
        · exact hb1 h
        · omega
        · rw [hben] at h; cases h
        · rw [hnmb] at h; cases h)
      have hdk := de_ok hok (show i < A.length by omega)
      simp only [isI64] at hdk
      refine rn_ ?_; intros
      refine x_loop rfl (fun q s => ∃ (k : Nat) (B : Pl), k ≤ x.l.length ∧ q = x.l.length - k ∧ B.length = f.nodes.length ∧ okA B ∧ de B i = de A i ∧ kids f.nodes.length x.op i 0 x.l A = kids f.nodes.length x.op i k (x.l.drop k) B ∧
        s = ⟨[(1, .p 0 b1 0), (5, .v (.int .i64 f.nodes.length)), (6, .v (.slice (some ⟨g1, 0, none⟩) f.nodes.length f.nodes.length)), (8, .v (.int .i64 i)), (9, .p 11 b9 0), (10, .v (.int .i64 x.op)), (11, .v (.int .i64 k))],
          [(0, b1, .c 46 [.v (.int .i64 f.params), .v (.slice (some ⟨bn, offn, none⟩) f.nodes.length cap)]), (10, g1, .row (.slice (some ⟨g1, 0, none⟩) f.nodes.length f.nodes.length) 95 2 f.nodes.length (en B)), (11, b9, .c 51 [.v (.int .i64 x.op), .v (.int .i64 x.n), .v (.slice adl x.l.length capl)])], G, []⟩) ⟨0, A, by omega, rfl, hA, hok, rfl, by simp, by simp⟩ ?_
      rintro q2 s ⟨k, B, hk, hq2, hB, hokB, hdB, hkid, rfl⟩ ih2
      refine rn_ ?_; intros
      refine x_if rfl rfl rfl rfl (fun hjl => ?_) (fun hjl => ?_)
      · have hlt2 : k < x.l.length := by simp at hjl; omega
        rcases hsrc with h0 | ⟨bl, offl, csl, rfl, hal, hrl⟩
        · simp [h0] at hlt2
        obtain ⟨c0, hat, rfl, hc64⟩ := Rp.at_get hal hrl (i := k) hlt2
        have hat' : At G bl (offl + k) [.int .i64 x.l[k]] := by simpa [rI] using hat
        rw [List.drop_eq_getElem_cons hlt2] at hkid
        simp only [kids] at hkid
        generalize hce : x.l[k] = c at *
        refine rn_ ?_; intros
        refine go_q (by rw [hnt]; rfl) (quiet_index (by rw [hty]; rfl) (by rw [hty]; rfl) rfl rfl rfl (by omega) (by omega)) ?_
        refine rn_ ?_; intros
        refine go_q (by rw [hnt]; rfl) (quiet_load (vs := [.int .i64 c]) (by rw [hty]; rfl) rfl (by simp [TK.agg]) (by simpa using hat') rfl) ?_
        refine rn_ ?_; intros
        have kn : (c ≤ i ∨ (f.nodes.length : Int) ≤ c ∨ 0 ≤ pa B c.toNat) → refR f (.tuple #[.slice none 0 0, .int .i64 i, .bool true]) G := fun h => ret (by rw [hnb, hkid, if_pos h])
        refine go_gsplit rfl rfl (fun hc1 => ?_) (fun hc1 => ?_) <;> (refine st_ ?_; (refine rn_ ?_; intros))
        · refine x_retc rfl hQ hmb rfl (by rw [hty]; simp only [so, sq, zy, zz, tyE, SO', SQ', opQ, opStore, opAlloc, ev, putS, dOk, cv, SV.cs, SV.one, SV.bool?, eqB, Value.oneCell', ldOwn, binInt, binConst, binBool, binStr, isC, TK.agg, rv, rv1, ldV, resOne, resV, Nat.reduceAdd, Nat.reduceMul, Nat.reduceSub, Nat.reduceLT, Nat.reduceLeDiff, Nat.reduceEqDiff, Nat.reduceBEq, reduceIte, reduceCtorEq, eq_self]; try rfl) rfl ?_; simp only [SV.den, resV, dens]
          exact kn (.inl (by simpa using hc1))
        have hc1' : (i : Int) < c := by simp at hc1; omega
        refine go_gsplit rfl rfl (fun hc2 => ?_) (fun hc2 => ?_) <;> (refine st_ ?_; (refine rn_ ?_; intros))
        · refine x_retc rfl hQ hmb rfl (by rw [hty]; simp only [so, sq, zy, zz, tyE, SO', SQ', opQ, opStore, opAlloc, ev, putS, dOk, cv, SV.cs, SV.one, SV.bool?, eqB, Value.oneCell', ldOwn, binInt, binConst, binBool, binStr, isC, TK.agg, rv, rv1, ldV, resOne, resV, Nat.reduceAdd, Nat.reduceMul, Nat.reduceSub, Nat.reduceLT, Nat.reduceLeDiff, Nat.reduceEqDiff, Nat.reduceBEq, reduceIte, reduceCtorEq, eq_self]; try rfl) rfl ?_; simp only [SV.den, resV, dens]
          exact kn (.inr (.inl (by simpa using hc2)))
        have hc2' : c < (f.nodes.length : Int) := by simp at hc2; omega
        obtain ⟨c, rfl⟩ : ∃ c' : Nat, c = c' := ⟨c.toNat, by omega⟩
        simp only [Int.toNat_natCast] at kn hkid
        refine go_q (by rw [hnt]; rfl) (quiet_index (by rw [hty]; rfl) (by rw [hty]; rfl) rfl rfl rfl (by omega) (by omega)) ?_
        refine rn_ ?_; intros
        refine go_q (v := .int .i64 (pa B c)) (by rw [hnt]; rfl) ((quiet_loadR (k := 10) (by rw [hty]; rfl) rfl (by simp [TK.agg]) rfl (by simp [en_len]; omega)).cast (by exact ldA (by omega) (by simp))) ?_
        refine rn_ ?_; intros
        refine x_split rfl rfl rfl (fun hc3 => ?_) (fun hc3 => ?_) <;> (refine st_ ?_; (refine ru_ ?_; intros))
        · refine x_retc rfl hQ hmb rfl (by rw [hty]; simp only [so, sq, zy, zz, tyE, SO', SQ', opQ, opStore, opAlloc, ev, putS, dOk, cv, SV.cs, SV.one, SV.bool?, eqB, Value.oneCell', ldOwn, binInt, binConst, binBool, binStr, isC, TK.agg, rv, rv1, ldV, resOne, resV, Nat.reduceAdd, Nat.reduceMul, Nat.reduceSub, Nat.reduceLT, Nat.reduceLeDiff, Nat.reduceEqDiff, Nat.reduceBEq, reduceIte, reduceCtorEq, eq_self]; try rfl) rfl ?_; simp only [SV.den, resV, dens]
          exact kn (.inr (.inr (by simpa using hc3)))
        have hc3' : ¬ 0 ≤ pa B c := by simp at hc3; omega
        rw [if_neg (by omega)] at hkid
        refine go_q (by rw [hnt]; rfl) (quiet_index (by rw [hty]; rfl) (by rw [hty]; rfl) rfl rfl rfl (by omega) (by omega)) ?_
        refine rn_ ?_; intros
        refine go_q (v := .int .i64 (de A i)) (by rw [hnt]; rfl) ((quiet_loadR (k := 10) (by rw [hty]; rfl) rfl (by simp [TK.agg]) rfl (by simp [en_len]; omega)).cast (by rw [← hdB]; exact ldB (by omega) (by simp))) ?_
        refine rn_ ?_; intros
        refine go_q (by rw [hnt]; rfl) (quiet_index (by rw [hty]; rfl) (by rw [hty]; rfl) rfl rfl rfl (by omega) (by omega)) ?_
        refine rn_ ?_; intros
        refine go_storeR 10 rfl (by rw [hty]; rfl) rfl rfl rfl rfl rfl rfl (layA (i := c) ((i : Int), de A i) (by omega) (by simp) rfl) ?_
        refine rn_ ?_; intros
        have fin : ∀ D, D = de A i + more x.op k → SGo C _ _ := fun D hD => ih2 (x.l.length - (k + 1)) ⟨[(1, .p 0 b1 0), (5, .v (.int .i64 f.nodes.length)), (6, .v (.slice (some ⟨g1, 0, none⟩) f.nodes.length f.nodes.length)), (8, .v (.int .i64 i)), (9, .p 11 b9 0), (10, .v (.int .i64 x.op)), (11, .v (.int .i64 ((k : Int) + 1)))],
          [(0, b1, .c 46 [.v (.int .i64 f.params), .v (.slice (some ⟨bn, offn, none⟩) f.nodes.length cap)]), (10, g1, .row (.slice (some ⟨g1, 0, none⟩) f.nodes.length f.nodes.length) 95 2 f.nodes.length (en (B.set c ((i : Int), D)))), (11, b9, .c 51 [.v (.int .i64 x.op), .v (.int .i64 x.n), .v (.slice (some ⟨bl, offl, none⟩) x.l.length capl)])], G, []⟩ (by omega)
          ⟨k + 1, B.set c ((i : Int), D), by omega, rfl, by simp [hB], okA_set hokB ⟨by simp only [isI64]; omega, by subst hD; simp only [isI64, more]; split <;> omega⟩, by rw [de_set (by omega), if_neg (by omega)]; exact hdB, by rw [hkid, hdB, hD], by simp⟩
        have hset : ∀ D E : Int, (B.set c ((i : Int), D)).set c (pa (B.set c ((i : Int), D)) c, E) = B.set c ((i : Int), E) := fun D E => by rw [List.set_set, pa_set (by omega), if_pos rfl]
        refine go_gsplit rfl rfl (fun hm1 => ?_) (fun hm1 => ?_) <;> (refine st_ ?_; (refine rn_ ?_; intros))
        · have hm1' : x.op = 4 := by simpa using hm1
          refine x_split rfl rfl rfl (fun hm2 => ?_) (fun hm2 => ?_) <;> (refine st_ ?_; (refine ru_ ?_; intros))
          · have hm2' : k = 1 := by simp at hm2; omega
            refine go_q (by rw [hnt]; rfl) (quiet_index (by rw [hty]; rfl) (by rw [hty]; rfl) rfl rfl rfl (by omega) (by omega)) ?_
            refine rn_ ?_; intros
            refine go_q (v := .int .i64 (de A i)) (by rw [hnt]; rfl) ((quiet_loadR (k := 10) (by rw [hty]; rfl) rfl (by simp [TK.agg]) rfl (by simp [en_len]; omega)).cast (by exact (ldB (A := B.set c ((i : Int), de A i)) (i := c) (by simp; omega) (by simp)).trans (by rw [de_set (by omega), if_pos rfl]))) ?_
            refine rn_ ?_; intros
            rw [wr (n := de A i + 1) (by omega) (by omega)]
            refine go_q (by rw [hnt]; rfl) (quiet_index (by rw [hty]; rfl) (by rw [hty]; rfl) rfl rfl rfl (by omega) (by omega)) ?_
            refine rn_ ?_; intros
            refine go_storeR 10 rfl (by rw [hty]; rfl) rfl rfl rfl rfl rfl rfl (layB (i := c) (de A i + 1) (by simp; omega) (by simp) rfl) ?_
            refine rn_ ?_; intros
            rw [wr (n := (k : Int) + 1) (by omega) (by omega), hset]
            refine go_keep [1, 5, 6, 8, 9, 10, 11] [0, 10, 11] ?_
            refine st_ ?_
            exact fin _ (by rw [more, if_pos ⟨hm1', hm2'⟩])
          · have hm2' : ¬ k = 1 := by simp at hm2; omega
            rw [wr (n := (k : Int) + 1) (by omega) (by omega)]
            refine go_keep [1, 5, 6, 8, 9, 10, 11] [0, 10, 11] ?_
            refine st_ ?_
            exact fin _ (by rw [more, if_neg (by omega)]; simp)
        · have hm1' : ¬ x.op = 4 := by simpa using hm1
          rw [wr (n := (k : Int) + 1) (by omega) (by omega)]
          refine go_keep [1, 5, 6, 8, 9, 10, 11] [0, 10, 11] ?_
          refine st_ ?_
          exact fin _ (by rw [more, if_neg (by omega)]; simp)
      · have hge : k = x.l.length := by simp at hjl; omega
        subst hge
        clear ih2
        simp only [List.drop_length, kids] at hkid
        rw [hnb, hkid] at hpl2
        refine rn_ ?_; intros
        rw [wr (n := (i : Int) + 1) (by omega) (by omega)]
        refine go_keep [1, 5, 6, 8] [0, 10] ?_
        refine st_ ?_
        exact ih (f.nodes.length - (i + 1)) _ (by omega) ⟨i + 1, B, by omega, rfl, hB, hokB, hpl2, by simp⟩
    simp only [List.drop_succ_cons, List.drop_zero] at key
    refine x_draw rfl (by rw [hP]; kernel_rfl) rfl (by kernel_rfl) ?_
    refine runq 400 hty hnt ?_; refine st_ ?_
    refine go_qsplit rfl rfl (fun h1 => ?_) (fun h1 => ?_)
    · refine st_ ?_
      refine runq 400 hty hnt ?_; refine st_ ?_
      refine q_q (by rw [hnt]; rfl) (quiet_index (by rw [hty]; rfl) (by rw [hty]; rfl) rfl rfl rfl (by omega) (by omega)) ?_
      refine runq 400 hty hnt ?_; refine st_ ?_
      refine q_q (v := .int .i64 (pa A i)) (by rw [hnt]; rfl) ((quiet_loadR (k := 10) (by rw [hty]; rfl) rfl (by simp [TK.agg]) rfl (by simp [en_len]; omega)).cast (by exact ldA (by omega) (by simp))) ?_
      refine runq 400 hty hnt ?_; refine st_ ?_
      refine go_qsplit rfl rfl (fun h2 => ?_) (fun h2 => ?_) <;> (refine st_ ?_; (try (refine runq 400 hty hnt ?_; refine st_ ?_)))
      · (first | refine q_end ?_; refine rn_ ?_; intros | skip)
        refine rn_ ?_; intros
        refine x_retc rfl hQ hmb rfl (by rw [hty]; simp only [so, sq, zy, zz, tyE, SO', SQ', opQ, opStore, opAlloc, ev, putS, dOk, cv, SV.cs, SV.one, SV.bool?, eqB, Value.oneCell', ldOwn, binInt, binConst, binBool, binStr, isC, TK.agg, rv, rv1, ldV, resOne, resV, Nat.reduceAdd, Nat.reduceMul, Nat.reduceSub, Nat.reduceLT, Nat.reduceLeDiff, Nat.reduceEqDiff, Nat.reduceBEq, reduceIte, reduceCtorEq, eq_self]; try rfl) rfl ?_; simp only [SV.den, resV, dens]
        exact ret (if_pos (.inl ⟨by simpa using h1, by simpa using h2⟩))
      have hb1 : ¬ (0 < i ∧ pa A i < 0) := by simp at h2; omega
      refine q_q (by rw [hnt]; rfl) (quiet_index (by rw [hty]; rfl) (by rw [hty]; rfl) rfl rfl rfl (by omega) (by omega)) ?_
      refine runq 400 hty hnt ?_; refine st_ ?_
      refine q_q (v := .int .i64 (de A i)) (by rw [hnt]; rfl) ((quiet_loadR (k := 10) (by rw [hty]; rfl) rfl (by simp [TK.agg]) rfl (by simp [en_len]; omega)).cast (by exact ldB (by omega) (by simp))) ?_
      refine runq 400 hty hnt ?_; refine st_ ?_
      refine go_qsplit rfl rfl (fun h3 => ?_) (fun h3 => ?_) <;> (refine st_ ?_; (try (refine runq 400 hty hnt ?_; refine st_ ?_)))
      · (first | refine q_end ?_; refine rn_ ?_; intros | skip)
        refine rn_ ?_; intros
        refine x_retc rfl hQ hmb rfl (by rw [hty]; simp only [so, sq, zy, zz, tyE, SO', SQ', opQ, opStore, opAlloc, ev, putS, dOk, cv, SV.cs, SV.one, SV.bool?, eqB, Value.oneCell', ldOwn, binInt, binConst, binBool, binStr, isC, TK.agg, rv, rv1, ldV, resOne, resV, Nat.reduceAdd, Nat.reduceMul, Nat.reduceSub, Nat.reduceLT, Nat.reduceLeDiff, Nat.reduceEqDiff, Nat.reduceBEq, reduceIte, reduceCtorEq, eq_self]; try rfl) rfl ?_; simp only [SV.den, resV, dens]
        exact ret (if_pos (.inr (.inl (by simpa using h3))))
      refine q_callf (by rw [hnt]; rfl) (by rw [hP]; kernel_rfl) rfl (hP ▸ beneath_ok x.op x.l.length G (by omega)) ?_
      refine runq 400 hty hnt ?_; refine st_ ?_
      refine go_qsplit rfl rfl (fun h4 => ?_) (fun h4 => ?_) <;> (refine st_ ?_; (try (refine runq 400 hty hnt ?_; refine st_ ?_)))
      · (first | refine q_end ?_; refine rn_ ?_; intros | skip)
        refine rn_ ?_; intros
        refine x_retc rfl hQ hmb rfl (by rw [hty]; simp only [so, sq, zy, zz, tyE, SO', SQ', opQ, opStore, opAlloc, ev, putS, dOk, cv, SV.cs, SV.one, SV.bool?, eqB, Value.oneCell', ldOwn, binInt, binConst, binBool, binStr, isC, TK.agg, rv, rv1, ldV, resOne, resV, Nat.reduceAdd, Nat.reduceMul, Nat.reduceSub, Nat.reduceLT, Nat.reduceLeDiff, Nat.reduceEqDiff, Nat.reduceBEq, reduceIte, reduceCtorEq, eq_self]; try rfl) rfl ?_; simp only [SV.den, resV, dens]
        exact ret (if_pos (.inr (.inr (.inl (by simpa using h4)))))
      refine q_q (by rw [hnt]; rfl) (quiet_index (by rw [hty]; rfl) (by rw [hty]; rfl) rfl rfl rfl (by omega) (by omega)) ?_
      refine runq 400 hty hnt ?_; refine st_ ?_
      refine q_q (v := .int .i64 (de A i)) (by rw [hnt]; rfl) ((quiet_loadR (k := 10) (by rw [hty]; rfl) rfl (by simp [TK.agg]) rfl (by simp [en_len]; omega)).cast (by exact ldB (by omega) (by simp))) ?_
      refine runq 400 hty hnt ?_; refine st_ ?_
      refine q_callf (by rw [hnt]; rfl) (by rw [hP]; kernel_rfl) rfl (hP ▸ refnumber_ok x.op x.n (de A i) G) ?_
      refine runq 400 hty hnt ?_; refine st_ ?_
      refine q_end ?_; refine rn_ ?_; intros
      refine rn_ ?_; intros
      refine x_if rfl rfl rfl rfl (fun h5 => ?_) (fun h5 => ?_)
      · refine rn_ ?_; intros
        refine x_retc rfl hQ hmb rfl (by rw [hty]; simp only [so, sq, zy, zz, tyE, SO', SQ', opQ, opStore, opAlloc, ev, putS, dOk, cv, SV.cs, SV.one, SV.bool?, eqB, Value.oneCell', ldOwn, binInt, binConst, binBool, binStr, isC, TK.agg, rv, rv1, ldV, resOne, resV, Nat.reduceAdd, Nat.reduceMul, Nat.reduceSub, Nat.reduceLT, Nat.reduceLeDiff, Nat.reduceEqDiff, Nat.reduceBEq, reduceIte, reduceCtorEq, eq_self]; try rfl) rfl ?_; simp only [SV.den, resV, dens]
        exact ret (if_pos (.inr (.inr (.inr (by simpa using h5)))))
      refine x_skip rfl ?_
      refine go_keep [1, 5, 6, 8, 9, 10] [0, 10, 11] ?_
      refine st_ ?_
      exact key _ ⟨hb1, by simpa using h3, by simpa using h4, by simpa using h5, rfl⟩
    · refine st_ ?_
      refine runq 400 hty hnt ?_; refine st_ ?_
      have hb1 : ¬ (0 < i ∧ pa A i < 0) := by simp at h1; omega
      refine q_q (by rw [hnt]; rfl) (quiet_index (by rw [hty]; rfl) (by rw [hty]; rfl) rfl rfl rfl (by omega) (by omega)) ?_
      refine runq 400 hty hnt ?_; refine st_ ?_
      refine q_q (v := .int .i64 (de A i)) (by rw [hnt]; rfl) ((quiet_loadR (k := 10) (by rw [hty]; rfl) rfl (by simp [TK.agg]) rfl (by simp [en_len]; omega)).cast (by exact ldB (by omega) (by simp))) ?_
      refine runq 400 hty hnt ?_; refine st_ ?_
      refine go_qsplit rfl rfl (fun h3 => ?_) (fun h3 => ?_) <;> (refine st_ ?_; (try (refine runq 400 hty hnt ?_; refine st_ ?_)))
      · (first | refine q_end ?_; refine rn_ ?_; intros | skip)
        refine rn_ ?_; intros
        refine x_retc rfl hQ hmb rfl (by rw [hty]; simp only [so, sq, zy, zz, tyE, SO', SQ', opQ, opStore, opAlloc, ev, putS, dOk, cv, SV.cs, SV.one, SV.bool?, eqB, Value.oneCell', ldOwn, binInt, binConst, binBool, binStr, isC, TK.agg, rv, rv1, ldV, resOne, resV, Nat.reduceAdd, Nat.reduceMul, Nat.reduceSub, Nat.reduceLT, Nat.reduceLeDiff, Nat.reduceEqDiff, Nat.reduceBEq, reduceIte, reduceCtorEq, eq_self]; try rfl) rfl ?_; simp only [SV.den, resV, dens]
        exact ret (if_pos (.inr (.inl (by simpa using h3))))
      refine q_callf (by rw [hnt]; rfl) (by rw [hP]; kernel_rfl) rfl (hP ▸ beneath_ok x.op x.l.length G (by omega)) ?_
      refine runq 400 hty hnt ?_; refine st_ ?_
      refine go_qsplit rfl rfl (fun h4 => ?_) (fun h4 => ?_) <;> (refine st_ ?_; (try (refine runq 400 hty hnt ?_; refine st_ ?_)))
      · (first | refine q_end ?_; refine rn_ ?_; intros | skip)
        refine rn_ ?_; intros
        refine x_retc rfl hQ hmb rfl (by rw [hty]; simp only [so, sq, zy, zz, tyE, SO', SQ', opQ, opStore, opAlloc, ev, putS, dOk, cv, SV.cs, SV.one, SV.bool?, eqB, Value.oneCell', ldOwn, binInt, binConst, binBool, binStr, isC, TK.agg, rv, rv1, ldV, resOne, resV, Nat.reduceAdd, Nat.reduceMul, Nat.reduceSub, Nat.reduceLT, Nat.reduceLeDiff, Nat.reduceEqDiff, Nat.reduceBEq, reduceIte, reduceCtorEq, eq_self]; try rfl) rfl ?_; simp only [SV.den, resV, dens]
        exact ret (if_pos (.inr (.inr (.inl (by simpa using h4)))))
      refine q_q (by rw [hnt]; rfl) (quiet_index (by rw [hty]; rfl) (by rw [hty]; rfl) rfl rfl rfl (by omega) (by omega)) ?_
      refine runq 400 hty hnt ?_; refine st_ ?_
      refine q_q (v := .int .i64 (de A i)) (by rw [hnt]; rfl) ((quiet_loadR (k := 10) (by rw [hty]; rfl) rfl (by simp [TK.agg]) rfl (by simp [en_len]; omega)).cast (by exact ldB (by omega) (by simp))) ?_
      refine runq 400 hty hnt ?_; refine st_ ?_
      refine q_callf (by rw [hnt]; rfl) (by rw [hP]; kernel_rfl) rfl (hP ▸ refnumber_ok x.op x.n (de A i) G) ?_
      refine runq 400 hty hnt ?_; refine st_ ?_
      refine q_end ?_; refine rn_ ?_; intros
      refine rn_ ?_; intros
      refine x_if rfl rfl rfl rfl (fun h5 => ?_) (fun h5 => ?_)
      · refine rn_ ?_; intros
        refine x_retc rfl hQ hmb rfl (by rw [hty]; simp only [so, sq, zy, zz, tyE, SO', SQ', opQ, opStore, opAlloc, ev, putS, dOk, cv, SV.cs, SV.one, SV.bool?, eqB, Value.oneCell', ldOwn, binInt, binConst, binBool, binStr, isC, TK.agg, rv, rv1, ldV, resOne, resV, Nat.reduceAdd, Nat.reduceMul, Nat.reduceSub, Nat.reduceLT, Nat.reduceLeDiff, Nat.reduceEqDiff, Nat.reduceBEq, reduceIte, reduceCtorEq, eq_self]; try rfl) rfl ?_; simp only [SV.den, resV, dens]
        exact ret (if_pos (.inr (.inr (.inr (by simpa using h5)))))
      refine x_skip rfl ?_
      refine go_keep [1, 5, 6, 8, 9, 10] [0, 10, 11] ?_
      refine st_ ?_
      exact key _ ⟨hb1, by simpa using h3, by simpa using h4, by simpa using h5, rfl⟩
  · have hge : i = f.nodes.length := by simp at hil; omega
    subst hge
    clear ih
    simp only [List.drop_length, plGo] at hpl2
    refine go_pubL rP 10 (ts := A) rfl (by omega) (by simp [hA]) (by omega) (en_L hok) ?_
    rintro G3 ad1 cap1 (hle3 : Le G G3) hs1 hS1
    refine st_ ?_
    refine rn_ ?_; intros
    refine x_retc rfl hQ hmb rfl (by rw [hty]; simp only [so, sq, zy, zz, tyE, SO', SQ', opQ, opStore, opAlloc, ev, putS, dOk, cv, SV.cs, SV.one, SV.bool?, eqB, Value.oneCell', ldOwn, binInt, binConst, binBool, binStr, isC, TK.agg, rv, rv1, ldV, resOne, resV, Nat.reduceAdd, Nat.reduceMul, Nat.reduceSub, Nat.reduceLT, Nat.reduceLeDiff, Nat.reduceEqDiff, Nat.reduceBEq, reduceIte, reduceCtorEq, eq_self]; try rfl) rfl ?_; simp only [SV.den, resV, dens]
    show refR _ _ _
    simp only [refR, hpl2]
    rw [← hs1] at hS1
    exact ⟨_, rfl, hS1⟩
end Go.Proofs.Ytmdkenpodcnnbaa
namespace Go.Proofs.Ytmdkenpodcnnbaa
set_option linter.unusedSimpArgs false
set_option linter.unusedVariables false
open Go.Sx
set_option maxHeartbeats 4000000
def encII (L : List (Int × Int)) (k : Nat) (vs : List Value) (_ : Hp) : Prop := ∃ x, L[k]? = some x ∧ vs = [.int .i64 x.1, .int .i64 x.2]
theorem encII_mono (L : List (Int × Int)) : ∀ k vs G G', Le G G' → encII L k vs G → encII L k vs G' := fun _ _ _ _ _ h => h
theorem rI_at {G : Hp} {l : List Int} {ad : Option Addr} {n cap : Nat} (h : rI.S G l (.slice ad n cap)) {i : Nat} (hi : i < l.length) : ∃ b off, ad = some ⟨b, off, none⟩ ∧ At G b (off + i) [.int .i64 l[i]] := by
  obtain ⟨b, off, cap', c, hv, hat, rfl, _⟩ := Rp.S_get h hi
  cases hv
  exact ⟨b, off, rfl, by simpa [rI] using hat⟩
theorem calls1_ok (G : Hp) : Iter Try.prog 39 [] G (encII []) 0 := by
  intro lp A B hy
  refine enterZ ty tyok Try.func39 rfl Try.ntmps39 [.v (.func (.yield lp) #[] #[])] (by simp) ?_
  intro C Z M hP hQ hnt hty hmb hmh hro hG0; have hQp := qp_body hQ; refine st_ ?_
  refine rn_ ?_; intros
  refine go_endZ hQ hmb hmh hG0 rfl (by rw [hty]; simp only [so, sq, zy, zz, tyE, SO', SQ', opQ, opStore, opAlloc, ev, putS, dOk, cv, SV.cs, SV.one, SV.bool?, eqB, Value.oneCell', ldOwn, binInt, binConst, binBool, binStr, isC, TK.agg, rv, rv1, ldV, resOne, resV, Nat.reduceAdd, Nat.reduceMul, Nat.reduceSub, Nat.reduceLT, Nat.reduceLeDiff, Nat.reduceEqDiff, Nat.reduceBEq, reduceIte, reduceCtorEq, eq_self]; try rfl) rfl rfl ?_
  exact .inl rfl
theorem rP_at {G : Hp} {l : Pl} {ad : Option Addr} {n cap : Nat} (h : rP.S G l (.slice ad n cap)) {i : Nat} (hi : i < l.length) : ∃ b off, ad = some ⟨b, off, none⟩ ∧ At G b (off + i * 2) [.int .i64 l[i].1, .int .i64 l[i].2] := by
  obtain ⟨b, off, cap', c, hv, hat, rfl, _⟩ := Rp.S_get h hi
  cases hv
  exact ⟨b, off, rfl, by simpa [rP] using hat⟩
theorem calls2_ok (L : Pl) (b1 : Nat) (s1 : Value) (G : Hp) (h1 : At G b1 0 [s1]) (hS1 : rP.S G L s1) :
    Iter Try.prog 41 [.pointer (some ⟨b1, 0, none⟩)] G (encII L) L.length := by
  obtain ⟨ad1, cap1, rfl⟩ := Rp.S_slice hS1
  have h63 := Rp.S_len hS1
  intro lp A B hy
  refine enterZ ty tyok Try.func41 rfl Try.ntmps41 [.v (.func (.yield lp) #[] #[]), .v (.pointer (some ⟨b1, 0, none⟩))] (by simp) ?_
  intro C Z M hP hQ hnt hty hmb hmh hro hG0; have hQp := qp_body hQ; refine st_ ?_
  have hy' : YOk C.P lp A B (encII L) L.length := by rw [hP]; exact hy
  refine rn_ ?_; intros
  refine go_q (by rw [hnt]; rfl) (quiet_load (by rw [hty]; rfl) rfl (by simp [TK.agg]) h1 rfl) ?_; refine rn_ ?_; intros
  refine go_keep [0, 1, 5, 6, 7] [0] ?_
  refine st_ ?_
  refine x_loop rfl (fun q s => ∃ (k : Nat) (G' : Hp) (Z' M' : Nat → Prop), k ≤ L.length ∧ q = L.length - k ∧ Le G G' ∧
    s = ⟨[(0, .v (.func (.yield lp) #[] #[])), (1, .v (.pointer (some ⟨b1, 0, none⟩))), (5, .v (.slice ad1 L.length cap1)), (6, .v (.int .i64 L.length)), (7, .v (.int .i64 k))], [(0, 0, .z (lim (A k) Z C.w0.heap.size) Z' M')], G', []⟩)
    ⟨0, G, _, _, by omega, rfl, Le.refl _, rfl⟩ ?_
  rintro q s ⟨k, G1, Z1, M1, hk, hq, hle, rfl⟩ ih
  refine rn_ ?_; intros
  refine x_if rfl rfl rfl rfl (fun hjl => ?_) (fun hjl => ?_)
  · have hlt : k < L.length := by simp at hjl; omega
    obtain ⟨c1, o1, rfl, ha1⟩ := rP_at hS1 (i := k) hlt
    refine rn_ ?_; intros
    refine go_q (by rw [hnt]; rfl) (quiet_index (by rw [hty]; rfl) (by rw [hty]; rfl) rfl rfl rfl (by omega) (by omega)) ?_
    refine rn_ ?_; intros
    refine go_q (by rw [hnt]; rfl) (quiet_load (by rw [hty]; rfl) rfl (by simp [TK.agg]) (ha1.mono hle) rfl) ?_
    refine rn_ ?_; intros
    simp only [Int.reduceLT, Int.reduceLE, Int.le_refl, Int.cast_ofNat_Int, and_self, if_true, Int.reduceToNat, Nat.zero_mul, Nat.one_mul]; refine st_ ?_; refine rn_ ?_; intros
    refine go_yield 0 hy' (by rw [hnt]; rfl) rfl rfl rfl rfl hlt (⟨L[k], List.getElem?_eq_getElem hlt, rfl⟩) (fun Z2 M2 => ?_) (fun Z2 M2 => ?_)
    · refine rn_ ?_; intros
      rw [wr (n := (k : Int) + 1) (by omega) (by omega)]
      refine go_keep [0, 1, 5, 6, 7] [0] ?_
      refine st_ ?_
      exact ih (L.length - (k + 1)) _ (by omega) ⟨k + 1, G1, Z2, M2, by omega, rfl, hle, by simp⟩
    · refine rn_ ?_; intros
      refine x_retZ rfl hQ hmb hmh hG0 rfl (by rw [hty]; simp only [so, sq, zy, zz, tyE, SO', SQ', opQ, opStore, opAlloc, ev, putS, dOk, cv, SV.cs, SV.one, SV.bool?, eqB, Value.oneCell', ldOwn, binInt, binConst, binBool, binStr, isC, TK.agg, rv, rv1, ldV, resOne, resV, Nat.reduceAdd, Nat.reduceMul, Nat.reduceSub, Nat.reduceLT, Nat.reduceLeDiff, Nat.reduceEqDiff, Nat.reduceBEq, reduceIte, reduceCtorEq, eq_self]; try rfl) rfl rfl ?_
      exact .inr rfl
  · have hge : k = L.length := by simp at hjl; omega
    subst hge
    refine rn_ ?_; intros
    refine go_endZ hQ hmb hmh hG0 rfl (by rw [hty]; simp only [so, sq, zy, zz, tyE, SO', SQ', opQ, opStore, opAlloc, ev, putS, dOk, cv, SV.cs, SV.one, SV.bool?, eqB, Value.oneCell', ldOwn, binInt, binConst, binBool, binStr, isC, TK.agg, rv, rv1, ldV, resOne, resV, Nat.reduceAdd, Nat.reduceMul, Nat.reduceSub, Nat.reduceLT, Nat.reduceLeDiff, Nat.reduceEqDiff, Nat.reduceBEq, reduceIte, reduceCtorEq, eq_self]; try rfl) rfl rfl ?_
    exact .inl rfl
end Go.Proofs.Ytmdkenpodcnnbaa
namespace Go.Proofs.Ytmdkenpodcnnbaa
set_option linter.unusedSimpArgs false
set_option linter.unusedVariables false
open Go.Sx
set_option maxHeartbeats 4000000
def cals : List Nd → Nat → Pl
  | [], _ => []
  | x :: l, i => if nms x.op then ((i : Int), x.n) :: cals l (i + 1) else cals l (i + 1)
def calP (f : Fu) : Pl := match places f with
  | .inl _ => []
  | .inr _ => cals f.nodes 0
theorem cals_len : ∀ (l : List Nd) (i : Nat), (cals l i).length ≤ l.length
  | [], i => by simp [cals]
  | x :: l, i => by
    have := cals_len l (i + 1)
    simp only [cals]
    split <;> simp <;> omega
theorem en_app : ∀ (A B : Pl), en (A ++ B) = en A ++ en B := fun A B => by simp [en]
theorem calls_ok (f : Fu) (ns : Value) (G : Hp) (hp : isI64 f.params) (hns : rN.S G f.nodes ns) :
    Pure Try.prog 23 [.agg #[.int .i64 f.params, ns]] G (fun v G' => ∃ fn cap, v = .func (.func fn) #[] cap.toArray ∧ canCall Try.prog fn = true ∧ Iter Try.prog fn cap (diff G' G) (encII (calP f)) (calP f).length) := by
  have hns0 := hns
  obtain ⟨ad, cap, rfl⟩ := Rp.S_slice hns
  refine enterX ty tyok Try.func23 rfl Try.ntmps23 [.a [.v (.int .i64 f.params), .v (.slice ad f.nodes.length cap)]] (by simp) ?_
  intro C hP hQ hnt hty hmb hmh hro; have hQp := qp_body hQ; refine st_ ?_
  refine rn_ ?_; intros
  rename_i b1
  refine go_callf (by rw [hnt]; rfl) (by rw [hP]; kernel_rfl) rfl (hP ▸ check_ok f _ G hp hns0) ?_; refine rn_ ?_; intros
  cases hpl : places f with
  | inl i =>
    refine go_slot 8 (.b true) rfl (by simp [SV.den, whr, hpl]) ?_
    refine rn_ ?_; intros
    refine x_retc rfl hQ hmb rfl (by rw [hty]; simp only [so, sq, zy, zz, tyE, SO', SQ', opQ, opStore, opAlloc, ev, putS, dOk, cv, SV.cs, SV.one, SV.bool?, eqB, Value.oneCell', ldOwn, binInt, binConst, binBool, binStr, isC, TK.agg, rv, rv1, ldV, resOne, resV, Nat.reduceAdd, Nat.reduceMul, Nat.reduceSub, Nat.reduceLT, Nat.reduceLeDiff, Nat.reduceEqDiff, Nat.reduceBEq, reduceIte, reduceCtorEq, eq_self]; try rfl) rfl ?_; simp only [SV.den, resV, dens]
    refine ⟨_, [], rfl, by kernel_rfl, ?_⟩
    simp only [calP, hpl]
    exact calls1_ok _
  | inr A =>
    refine go_slot 8 (.b false) rfl (by simp [SV.den, whr, hpl]) ?_
    have hT := tree hpl
    have h200 := hT.n200
    have hcP : calP f = cals f.nodes 0 := by simp only [calP, hpl]
    refine rn_ ?_; intros
    rename_i b3
    refine go_nilrow 30 39 2 rfl (by omega) ?_
    refine go_keep [1, 3, 10, 11, 12] [0, 1, 30] ?_
    refine st_ ?_
    have hcl := cals_len f.nodes 0
    refine x_loop rfl (fun q s => ∃ (k : Nat) (ad3 : Option Addr) (cap3 : Nat) (P : Pl), k ≤ f.nodes.length ∧ q = f.nodes.length - k ∧ cals f.nodes 0 = P ++ cals (f.nodes.drop k) k ∧ okA P ∧
      s = ⟨[(1, .p 0 b1 0), (3, .p 1 b3 0), (10, .v (.slice ad f.nodes.length cap)), (11, .v (.int .i64 f.nodes.length)), (12, .v (.int .i64 k))],
        [(0, b1, .c 46 [.v (.int .i64 f.params), .v (.slice ad f.nodes.length cap)]), (1, b3, .c 38 [.v (.slice ad3 P.length cap3)]), (30, 0, .row (.slice ad3 P.length cap3) 39 2 P.length (en P))], G, []⟩) ⟨0, none, 0, [], by omega, rfl, by simp, fun x hx => by simp at hx, by simp [en]⟩ ?_
    rintro q s ⟨k, ad3, cap3, P, hk, hq, hcp, hokP, rfl⟩ ih
    refine rn_ ?_; intros
    refine x_if rfl rfl rfl rfl (fun hjl => ?_) (fun hjl => ?_)
    · have hlt : k < f.nodes.length := by simp at hjl; omega
      rw [List.drop_eq_getElem_cons hlt] at hcp
      simp only [cals] at hcp
      obtain ⟨bn, offn, capn, cn, hse, hatn, sl, rfl, hop, hnn, hsl⟩ := Rp.S_get hns0 hlt
      cases hse
      obtain ⟨h63', adl, capl, rfl, hsrc⟩ := hsl
      have hatn' : At G bn (offn + k * 3) [.int .i64 f.nodes[k].op, .int .i64 f.nodes[k].n, .slice adl f.nodes[k].l.length capl] := by simpa [rN] using hatn
      refine rn_ ?_; intros
      refine go_q (by rw [hnt]; rfl) (quiet_index (by rw [hty]; rfl) (by rw [hty]; rfl) rfl rfl rfl (by omega) (by omega)) ?_
      refine rn_ ?_; intros
      refine go_q (by rw [hnt]; rfl) (quiet_load (by rw [hty]; rfl) rfl (by simp [TK.agg]) hatn' rfl) ?_
      refine rn_ ?_; intros
      rename_i b5
      refine go_callf (by rw [hnt]; rfl) (by rw [hP]; kernel_rfl) rfl (hP ▸ names_ok f.nodes[k].op G) ?_; refine rn_ ?_; intros
      have hPl : P.length ≤ 200 := by have := congrArg List.length hcp; simp at this; omega
      refine x_split rfl rfl rfl (fun hnm => ?_) (fun hnm => ?_) <;> (refine st_ ?_; (refine ru_ ?_; intros))
      · rw [hnm, if_pos rfl] at hcp
        refine go_append 30 (by rw [hnt]; rfl) (by rw [hty]; rfl) (by rw [hty]; rfl) (by decide) rfl rfl rfl (by omega) rfl (src_own 2 rfl rfl) rfl (by simp [dens, SV.den, Value.oneCell']) (by omega) (by simp only []; omega) ?_
        intro v'
        refine go_rowS 30 rfl ?_
        rintro ad4 cap4 rfl
        refine rn_ ?_; intros
        rw [wr (n := (k : Int) + 1) (by omega) (by omega)]
        refine go_keep [1, 3, 10, 11, 12] [0, 1, 30] ?_
        refine st_ ?_
        exact ih (f.nodes.length - (k + 1)) _ (by omega) ⟨k + 1, ad4, cap4, P ++ [((k : Int), f.nodes[k].n)], by omega, rfl, by rw [hcp]; simp, fun x hx => by
          rcases List.mem_append.1 hx with hx | hx
          · exact hokP x hx
          · simp at hx; subst hx; exact ⟨by simp only [isI64]; omega, hnn⟩, by simp [dens, SV.den, en_app]; rfl⟩
      · rw [hnm, if_neg (by simp)] at hcp
        rw [wr (n := (k : Int) + 1) (by omega) (by omega)]
        refine go_keep [1, 3, 10, 11, 12] [0, 1, 30] ?_
        refine st_ ?_
        exact ih (f.nodes.length - (k + 1)) _ (by omega) ⟨k + 1, ad3, cap3, P, by omega, rfl, hcp, hokP, by simp⟩
    · have hge : k = f.nodes.length := by simp at hjl; omega
      subst hge
      clear ih
      simp only [List.drop_length, cals, List.append_nil] at hcp
      have hno : ∀ {G' : Hp} {g : Nat}, Le G G' → G' g = none → G g = none := fun {G' g} hl h => by
        cases hq : G g with
        | none => rfl
        | some o => have := hl _ _ hq; rw [h] at this; cases this
      refine go_new0 1 (g := b3) rfl rfl ?_
      intro (hn3 : G b3 = none)
      refine go_pub 1 rfl (by omega) ?_
      rintro G3 (hle3 : Le G G3) hG3
      refine go_slot 3 (.v (.pointer (some ⟨b3, 0, none⟩))) rfl rfl ?_
      refine st_ ?_
      have fin : ∀ (G4 : Hp), Le G3 G4 → rP.S (diff G4 G) (calP f) (.slice ad3 P.length cap3) → Iter Try.prog 41 [.pointer (some ⟨b3, 0, none⟩)] (diff G4 G) (encII (calP f)) (calP f).length := fun G4 hle4 hS =>
        calls2_ok (calP f) b3 _ (diff G4 G) (at_diff ((at_cells hG3).mono hle4) hn3) hS
      refine go_rowcases 30 rfl (fun hv h0 _ => ?_) (fun g3 capg hv hcv hxl => ?_)
      · have hP0 := List.length_eq_zero_iff.1 h0
        subst hP0
        simp only [List.length_nil] at hv ⊢
        cases hv
        refine rn_ ?_; intros
        refine x_retc rfl hQ hmb rfl (by rw [hty]; simp only [so, sq, zy, zz, tyE, SO', SQ', opQ, opStore, opAlloc, ev, putS, dOk, cv, SV.cs, SV.one, SV.bool?, eqB, Value.oneCell', ldOwn, binInt, binConst, binBool, binStr, isC, TK.agg, rv, rv1, ldV, resOne, resV, Nat.reduceAdd, Nat.reduceMul, Nat.reduceSub, Nat.reduceLT, Nat.reduceLeDiff, Nat.reduceEqDiff, Nat.reduceBEq, reduceIte, reduceCtorEq, eq_self]; try rfl) rfl ?_; simp only [SV.den, resV, dens]
        refine ⟨41, [.pointer (some ⟨b3, 0, none⟩)], by simp, by kernel_rfl, fin G3 (Le.refl _) ?_⟩
        rw [hcP, hcp]
        exact Rp.S_nil _ _
      · cases hv
        refine go_new0 30 (g := g3) rfl rfl ?_
        intro (hng : G3 g3 = none)
        refine go_pubrow 30 rfl (by omega) ?_
        rintro G4 (hle4 : Le G3 G4) hG4
        refine st_ ?_
        refine rn_ ?_; intros
        refine x_retc rfl hQ hmb rfl (by rw [hty]; simp only [so, sq, zy, zz, tyE, SO', SQ', opQ, opStore, opAlloc, ev, putS, dOk, cv, SV.cs, SV.one, SV.bool?, eqB, Value.oneCell', ldOwn, binInt, binConst, binBool, binStr, isC, TK.agg, rv, rv1, ldV, resOne, resV, Nat.reduceAdd, Nat.reduceMul, Nat.reduceSub, Nat.reduceLT, Nat.reduceLeDiff, Nat.reduceEqDiff, Nat.reduceBEq, reduceIte, reduceCtorEq, eq_self]; try rfl) rfl ?_; simp only [SV.den, resV, dens]
        refine ⟨41, [.pointer (some ⟨b3, 0, none⟩)], by simp, by kernel_rfl, fin G4 hle4 ?_⟩
        rw [hcP, hcp]
        exact ⟨by have := congrArg List.length hcp; omega, _, _, rfl, .inr ⟨_, _, _, rfl, at_diff hG4 (hno hle3 hng), en_L hokP⟩⟩
end Go.Proofs.Ytmdkenpodcnnbaa
namespace Go.Proofs.Ytmdkenpodcnnbaa
set_option linter.unusedSimpArgs false
set_option linter.unusedVariables false
open Go.Sx
set_option maxHeartbeats 4000000
theorem refwhere_ok (f : Fu) (ns : Value) (G : Hp) (hp : isI64 f.params) (hns : rN.S G f.nodes ns) : Pure Try.prog 27 [.agg #[.int .i64 f.params, ns]] G (fun r _ => r = .tuple #[.int .i64 (whr f).1, .int .i64 (whr f).2]) := by
  have hns0 := hns
  obtain ⟨ad, cap, rfl⟩ := Rp.S_slice hns
  refine enterX ty tyok Try.func27 rfl Try.ntmps27 [.a [.v (.int .i64 f.params), .v (.slice ad f.nodes.length cap)]] (by simp) ?_
  intro C hP hQ hnt hty hmb hmh hro; have hQp := qp_body hQ; refine st_ ?_
  refine rn_ ?_; intros
  refine go_call (by rw [hnt]; rfl) (by rw [hP]; kernel_rfl) rfl (hP ▸ places_ref f _ G hp hns0) ?_
  rintro v G1 (hle1 : Le G G1) hl
  simp only [refR] at hl
  cases hpl : places f with
  | inl i =>
    rw [hpl] at hl
    simp only at hl
    subst hl
    refine rn_ ?_; intros
    refine go_slot 13 (.b true) rfl (by simp [SV.den]) ?_; refine rn_ ?_; intros
    refine x_retc rfl hQ hmb rfl (by rw [hty]; simp only [so, sq, zy, zz, tyE, SO', SQ', opQ, opStore, opAlloc, ev, putS, dOk, cv, SV.cs, SV.one, SV.bool?, eqB, Value.oneCell', ldOwn, binInt, binConst, binBool, binStr, isC, TK.agg, rv, rv1, ldV, resOne, resV, Nat.reduceAdd, Nat.reduceMul, Nat.reduceSub, Nat.reduceLT, Nat.reduceLeDiff, Nat.reduceEqDiff, Nat.reduceBEq, reduceIte, reduceCtorEq, eq_self]; try rfl) rfl ?_; simp only [SV.den, resV, dens]
    simp [whr, hpl]
  | inr A =>
    rw [hpl] at hl
    obtain ⟨sl, rfl, hS⟩ := hl
    obtain ⟨ad1, cap1, rfl⟩ := Rp.S_slice hS
    refine rn_ ?_; intros
    refine go_slot 13 (.b false) rfl (by simp [SV.den]) ?_; refine rn_ ?_; intros
    refine x_retc rfl hQ hmb rfl (by rw [hty]; simp only [so, sq, zy, zz, tyE, SO', SQ', opQ, opStore, opAlloc, ev, putS, dOk, cv, SV.cs, SV.one, SV.bool?, eqB, Value.oneCell', ldOwn, binInt, binConst, binBool, binStr, isC, TK.agg, rv, rv1, ldV, resOne, resV, Nat.reduceAdd, Nat.reduceMul, Nat.reduceSub, Nat.reduceLT, Nat.reduceLeDiff, Nat.reduceEqDiff, Nat.reduceBEq, reduceIte, reduceCtorEq, eq_self]; try rfl) rfl ?_; simp only [SV.den, resV, dens]
    simp [whr, hpl]
end Go.Proofs.Ytmdkenpodcnnbaa
namespace Go.Proofs.Ytmdkenpodcnnbaa
set_option linter.unusedSimpArgs false
set_option linter.unusedVariables false
open Go.Sx

abbrev Pr := List Fu
def fuD : Fu := ⟨0, []⟩
def rF : Rp Fu where
  size := 2
  e G x cs := ∃ ns, cs = [.int .i64 x.params, ns] ∧ isI64 x.params ∧ rN.S G x.nodes ns
  mono hl h := by obtain ⟨ns, h1, h2, h3⟩ := h; exact ⟨ns, h1, h2, Rp.S_mono hl h3⟩
  len h := by obtain ⟨ns, rfl, _⟩ := h; rfl
  one h u hu := by
    obtain ⟨ns, rfl, _, h3⟩ := h
    obtain ⟨ad, cap, rfl⟩ := Rp.S_slice h3
    simp at hu
    rcases hu with rfl | rfl <;> rfl
def fu (p : Pr) (i : Nat) : Fu := p.getD i fuD
theorem fu_eq {p : Pr} {i : Nat} (h : i < p.length) : fu p i = p[i] := by simp [fu, h]

def fits (x : Nd) (m : Int) : Bool := if x.op = 23 then m == IntKind.i64.wrap ((x.l.length : Int) + 1) else m == (x.l.length : Int)
def misB (p : Pr) (f : Fu) (x : Int × Int) : Bool := decide ((p.length : Int) ≤ x.2) || !fits (nd f x.1.toNat) (fu p x.2.toNat).params
def misL (p : Pr) (f : Fu) : Pl → Option Int
  | [] => none
  | x :: l => if misB p f x then some x.1 else misL p f l
def misR (o : Option Int) : Value := match o with
  | some i => .tuple #[.int .i64 i, .bool true]
  | none => .tuple #[.int .i64 0, .bool false]

theorem cals_get : ∀ {l : List Nd} {i k : Nat} {x : Int × Int}, (cals l i)[k]? = some x → ∃ m, ∃ h : m < l.length, x = (((i + m : Nat) : Int), l[m].n) ∧ nms l[m].op = true
  | [], i, k, x, h => by simp [cals] at h
  | y :: l, i, k, x, h => by
    simp only [cals] at h
    split at h
    · rename_i hy
      cases k with
      | zero => simp at h; subst h; exact ⟨0, by simp, by simp, hy⟩
      | succ k =>
        simp at h
        obtain ⟨m, hm, h1, h2⟩ := cals_get h
        exact ⟨m + 1, by simp; omega, by rw [h1]; simp; omega, by simpa using h2⟩
    · obtain ⟨m, hm, h1, h2⟩ := cals_get h
      exact ⟨m + 1, by simp; omega, by rw [h1]; simp; omega, by simpa using h2⟩
theorem nmb_nms {op n d : Int} (h : nms op = true) (hb : nmb op n d = true) : 0 ≤ n ∧ n ≤ 63 := by
  have h13 : op ≠ 1 ∧ op ≠ 3 := by constructor <;> (rintro rfl; simp [nms] at h)
  simp only [nmb, h13.1, h13.2, if_false, h, if_true, Bool.and_eq_true, decide_eq_true_eq] at hb
  exact hb
theorem calP_get {f : Fu} {k : Nat} {x : Int × Int} (h : (calP f)[k]? = some x) : ∃ m, ∃ h : m < f.nodes.length, x = ((m : Int), f.nodes[m].n) ∧ nms f.nodes[m].op = true ∧ 0 ≤ f.nodes[m].n ∧ f.nodes[m].n ≤ 63 := by
  simp only [calP] at h
  cases hp : places f with
  | inl i => rw [hp] at h; simp at h
  | inr A =>
    rw [hp] at h
    obtain ⟨m, hm, h1, h2⟩ := cals_get h
    have h3 := ((tree hp).ok m hm).2.2
    rw [nd_eq hm] at h3
    exact ⟨m, hm, by simpa using h1, h2, nmb_nms h2 h3⟩

set_option maxHeartbeats 4000000
theorem fits_ok (x : Nd) (sl : Value) (m : Int) (G : Hp) (hr : rI.S G x.l sl) : Pure Try.prog 43 [.agg #[.int .i64 x.op, .int .i64 x.n, sl], .int .i64 m] G (fun r _ => r = .bool (fits x m)) := by
  have hl := Rp.S_len hr
  obtain ⟨ad, cap, rfl⟩ := Rp.S_slice hr
  refine enterX ty tyok Try.func43 rfl Try.ntmps43 [.a [.v (.int .i64 x.op), .v (.int .i64 x.n), .v _], .v (.int .i64 m)] (by simp) ?_
  intro C hP hQ hnt hty hmb hmh hro; have hQp := qp_body hQ; refine st_ ?_
  refine rn_ ?_; intros
  refine x_split rfl rfl rfl (fun h1 => ?_) (fun h1 => ?_) <;> (refine st_ ?_; (refine ru_ ?_; intros))
  · refine x_retc rfl hQ hmb rfl (by rw [hty]; simp only [so, sq, zy, zz, tyE, SO', SQ', opQ, opStore, opAlloc, ev, putS, dOk, cv, SV.cs, SV.one, SV.bool?, eqB, Value.oneCell', ldOwn, binInt, binConst, binBool, binStr, isC, TK.agg, rv, rv1, ldV, resOne, resV, Nat.reduceAdd, Nat.reduceMul, Nat.reduceSub, Nat.reduceLT, Nat.reduceLeDiff, Nat.reduceEqDiff, Nat.reduceBEq, reduceIte, reduceCtorEq, eq_self]; try rfl) rfl ?_; simp only [SV.den, resV, dens]
    simp only [fits, show x.op = 23 by simpa using h1, if_true]
  · refine x_retc rfl hQ hmb rfl (by rw [hty]; simp only [so, sq, zy, zz, tyE, SO', SQ', opQ, opStore, opAlloc, ev, putS, dOk, cv, SV.cs, SV.one, SV.bool?, eqB, Value.oneCell', ldOwn, binInt, binConst, binBool, binStr, isC, TK.agg, rv, rv1, ldV, resOne, resV, Nat.reduceAdd, Nat.reduceMul, Nat.reduceSub, Nat.reduceLT, Nat.reduceLeDiff, Nat.reduceEqDiff, Nat.reduceBEq, reduceIte, reduceCtorEq, eq_self]; try rfl) rfl ?_; simp only [SV.den, resV, dens]
    simp only [fits, show ¬ x.op = 23 by simpa using h1, if_false]

theorem misL_drop {p : Pr} {f : Fu} {L : Pl} {k : Nat} {x : Int × Int} (h : L[k]? = some x) : misL p f (L.drop k) = if misB p f x then some x.1 else misL p f (L.drop (k + 1)) := by
  obtain ⟨hk, e⟩ := List.getElem?_eq_some_iff.1 h
  rw [List.drop_eq_getElem_cons hk, e]
  rfl
theorem rF_at {G : Hp} {p : Pr} {ad : Option Addr} {n cap : Nat} (h : rF.S G p (.slice ad n cap)) {i : Nat} (hi : i < p.length) : ∃ b off ns, ad = some ⟨b, off, none⟩ ∧ At G b (off + i * 2) [.int .i64 (fu p i).params, ns] ∧ isI64 (fu p i).params ∧ rN.S G (fu p i).nodes ns := by
  obtain ⟨b, off, cap', c, hv, ha, ns, rfl, h1, h2⟩ := Rp.S_get h hi
  cases hv
  rw [fu_eq hi]
  exact ⟨b, off, ns, rfl, ha, h1, h2⟩
theorem misnames_ok (p : Pr) (f : Fu) (ps ns : Value) (G : Hp) (hps : rF.S G p ps) (hp : isI64 f.params) (hns : rN.S G f.nodes ns) :
    Pure Try.prog 26 [.agg #[ps], .agg #[.int .i64 f.params, ns]] G (fun r _ => r = misR (misL p f (calP f))) := by
  have hps0 := hps
  have hns0 := hns
  have hn63 := Rp.S_len hns
  obtain ⟨ad, cap, rfl⟩ := Rp.S_slice hns
  obtain ⟨adp, capp, rfl⟩ := Rp.S_slice hps
  refine enterM ty tyok Try.func26 rfl Try.ntmps26 [.a [.v (.slice adp p.length capp)], .a [.v (.int .i64 f.params), .v (.slice ad f.nodes.length cap)]] (by simp) ?_
  intro C hP hQ hnt hty hmb hmh hro; have hQp := qp_bodyM hQ; refine st_ ?_
  refine rn_ ?_; intros
  rename_i b1 b2 b3 b4
  refine go_marks 20 rfl (by omega) ?_
  refine st_ ?_
  refine go_call (by rw [hnt]; rfl) (by rw [hP]; kernel_rfl) rfl (hP ▸ calls_ok f _ G hp hns0) ?_
  rintro v G1 (hle1 : Le G G1) ⟨fn, cp, rfl, hfc, hit⟩
  replace hit := hit.mono (diff_le G1 G)
  refine rn_ ?_; intros
  refine go_keep [2, 3, 4, 5, 9] [0, 1, 2, 3, 20] ?_
  refine st_ ?_
  have hps1 := Rp.S_mono hle1 hps0
  have hns1 := Rp.S_mono hle1 hns0
  refine x_range 20 rfl rfl (ps := #[10, 11]) rfl hro hmh rfl rfl hfc (by rw [hnt]; decide) hit (encII_mono _) (fun _ _ _ h => by obtain ⟨_, _, rfl⟩ := h; rfl)
    (fun k own => misL p f (calP f) = misL p f ((calP f).drop k) ∧ own = [(0, b1, .c 24 [.v (.slice adp p.length capp)]), (1, b2, .c 46 [.v (.int .i64 f.params), .v (.slice ad f.nodes.length cap)]), (2, b3, .c 3 [.v (.int .i64 0)]), (3, b4, .c 4 [.v (.bool false)]), (20, 0, dzO [])])
    (fun c own => ∃ i : Int, c = .ret ∧ misL p f (calP f) = some i ∧ own = [(0, b1, .c 24 [.v (.slice adp p.length capp)]), (1, b2, .c 46 [.v (.int .i64 f.params), .v (.slice ad f.nodes.length cap)]), (2, b3, .c 3 [.v (.int .i64 i)]), (3, b4, .c 4 [.b true]), (20, 0, dzO [])])
    (fun i own h => by obtain ⟨_, rfl⟩ := h; exact ⟨keys_lt rfl, (by repeat (first | exact plain_nil | refine plain_cons (fun _ h => h) ?_)), rfl⟩) (fun _ _ h => by obtain ⟨i, _, _, rfl⟩ := h; exact ⟨(by repeat (first | exact plain_nil | refine plain_cons (fun _ h => h) ?_)), rfl⟩) ⟨by simp, rfl⟩ ?_ ?_ ?_
  · rintro C' C0 k own vs G7 lp D r hiN ⟨hk0, rfl⟩ (hle7 : Le G1 G7) ⟨x, hLk, rfl⟩ hR
    have hdr := misL_drop (p := p) (f := f) hLk
    obtain ⟨m, hm, rfl, hnm, h0, h63⟩ := calP_get hLk
    have hps7 := Rp.S_mono hle7 hps1
    obtain ⟨bn, offn, capn, cn, hse, hatn, sl, rfl, hop, hnn, hsl⟩ := Rp.S_get (Rp.S_mono hle7 hns1) hm
    cases hse
    have hnt2 := hR.nt.trans hnt; have hty2 := hR.ty.trans hty; have hP2 := hR.P.trans hP; clear hQ hQp hnt hty hP hmh hmb hro; have hnt := hnt2; have hty := hty2; have hP := hP2; have hmh := hR.mh; have hQp := hR.qp; simp only [putsS, List.toList_toArray]; refine st_ ?_
    refine rn_ ?_; intros
    refine go_br rfl hR.ready ?_
    refine st_ ?_
    refine rn_ ?_; intros
    refine x_draw rfl (by rw [hP]; kernel_rfl) rfl (by kernel_rfl) ?_
    refine runq 400 hty hnt ?_; refine st_ ?_
    obtain ⟨t, ht⟩ : ∃ t : Nat, f.nodes[m].n = t := ⟨f.nodes[m].n.toNat, by omega⟩
    simp only [ht] at hdr ⊢
    refine go_qsplit rfl rfl (fun hge => ?_) (fun hge => ?_) <;> (refine st_ ?_; (try (refine runq 400 hty hnt ?_; refine st_ ?_)))
    · have hb : misB p f ((m : Int), (t : Int)) = true := by simp at hge; simp [misB, hge]
      rw [if_pos hb] at hdr
      refine q_end ?_; refine rn_ ?_; intros
      refine x_rret rfl hR rfl rfl ?_
      exact ⟨m, rfl, by rw [hk0, hdr], rfl⟩
    · have htl : t < p.length := by simp at hge; omega
      obtain ⟨bp, op, nsp, rfl, hatp, hpp, hnp⟩ := rF_at hps7 htl
      have hatp0 : At G7 bp (op + t * 2) [.int .i64 (fu p t).params] := by simpa using hatp.sub 0 1 (by simp)
      refine q_q (by rw [hnt]; rfl) (quiet_index (by rw [hty]; rfl) (by rw [hty]; rfl) rfl rfl rfl (by omega) (by omega)) ?_; refine runq 400 hty hnt ?_; refine st_ ?_
      refine q_q (by rw [hnt]; rfl) (quiet_load (by rw [hty]; rfl) rfl (by simp [TK.agg]) (by simpa [rN] using hatn) rfl) ?_
      refine runq 400 hty hnt ?_; refine st_ ?_
      refine q_q (by rw [hnt]; rfl) (quiet_index (by rw [hty]; rfl) (by rw [hty]; rfl) rfl rfl rfl (by omega) (by omega)) ?_; refine runq 400 hty hnt ?_; refine st_ ?_
      refine q_q (by rw [hnt]; rfl) (quiet_load (by rw [hty]; rfl) rfl (by simp [TK.agg]) (by simpa using hatp0) rfl) ?_
      refine runq 400 hty hnt ?_; refine st_ ?_
      refine q_callf (by rw [hnt]; rfl) (by rw [hP]; kernel_rfl) rfl (hP ▸ fits_ok f.nodes[m] sl (fu p t).params G7 hsl) ?_; refine runq 400 hty hnt ?_; refine st_ ?_
      refine q_end ?_; refine rn_ ?_; intros
      have hmb : misB p f ((m : Int), (t : Int)) = !fits f.nodes[m] (fu p t).params := by
        simp only [misB, Int.toNat_natCast, nd_eq hm]
        rw [decide_eq_false (by omega), Bool.false_or]
      refine x_split rfl rfl rfl (fun hf => ?_) (fun hf => ?_) <;> (refine st_ ?_; (refine ru_ ?_; intros))
      · rw [hmb, if_pos hf] at hdr
        refine x_rret rfl hR rfl rfl ?_
        exact ⟨m, rfl, by rw [hk0, hdr], rfl⟩
      · rw [hmb, hf] at hdr
        refine go_rend hR rfl rfl ?_
        exact ⟨by rw [hk0, hdr]; rfl, rfl⟩
  · rintro D own G7 ⟨hk0, rfl⟩ (hle7 : Le G1 G7)
    rw [List.drop_length] at hk0
    refine st_ ?_
    refine rn_ ?_; intros
    refine x_retM 20 rfl hQ hmb rfl rfl rfl (by rw [hty]; simp only [so, sq, zy, zz, tyE, SO', SQ', opQ, opStore, opAlloc, ev, putS, dOk, cv, SV.cs, SV.one, SV.bool?, eqB, Value.oneCell', ldOwn, binInt, binConst, binBool, binStr, isC, TK.agg, rv, rv1, ldV, resOne, resV, Nat.reduceAdd, Nat.reduceMul, Nat.reduceSub, Nat.reduceLT, Nat.reduceLeDiff, Nat.reduceEqDiff, Nat.reduceBEq, reduceIte, reduceCtorEq, eq_self]; try rfl) ?_; simp only [SV.den, resV, dens]
    rw [hk0]; rfl
  · rintro D c own G7 ⟨i, rfl, hi, rfl⟩ (hle7 : Le G1 G7)
    refine st_ ?_
    refine rn_ ?_; intros
    refine x_retM 20 rfl hQ hmb rfl rfl rfl (by rw [hty]; simp only [so, sq, zy, zz, tyE, SO', SQ', opQ, opStore, opAlloc, ev, putS, dOk, cv, SV.cs, SV.one, SV.bool?, eqB, Value.oneCell', ldOwn, binInt, binConst, binBool, binStr, isC, TK.agg, rv, rv1, ldV, resOne, resV, Nat.reduceAdd, Nat.reduceMul, Nat.reduceSub, Nat.reduceLT, Nat.reduceLeDiff, Nat.reduceEqDiff, Nat.reduceBEq, reduceIte, reduceCtorEq, eq_self]; try rfl) ?_; simp only [SV.den, resV, dens]
    rw [hi]; rfl
end Go.Proofs.Ytmdkenpodcnnbaa
namespace Go.Proofs.Ytmdkenpodcnnbaa
set_option linter.unusedSimpArgs false
set_option linter.unusedVariables false
open Go.Sx

def badF : List Fu → Nat → Option (Int × Int)
  | [], _ => none
  | f :: l, i => if (whr f).2 = 0 then badF l (i + 1) else some (i, (whr f).1)
def misF (p : Pr) : List Fu → Nat → Option (Int × Int)
  | [], _ => none
  | f :: l, i => match misL p f (calP f) with
    | some a => some (i, a)
    | none => misF p l (i + 1)
def whP (p : Pr) : Int × Int × Int :=
  if p.length < 1 ∨ 64 < p.length then (0, 0, 70) else match badF p 0 with
    | some x => (x.1, x.2, 70)
    | none => if 0 < (fu p 0).params then (0, 0, 70) else match misF p p 0 with
      | some x => (x.1, x.2, 70)
      | none => (0, 0, 0)
theorem fu_drop {p : Pr} {i : Nat} (h : i < p.length) : p.drop i = fu p i :: p.drop (i + 1) := by rw [fu_eq h, List.drop_eq_getElem_cons h]

set_option maxHeartbeats 4000000
theorem wherep_ok (p : Pr) (ps : Value) (G : Hp) (hps : rF.S G p ps) :
    Pure Try.prog 9 [.agg #[ps]] G (fun r _ => r = .tuple #[.int .i64 (whP p).1, .int .i64 (whP p).2.1, .int .i64 (whP p).2.2]) := by
  have hps0 := hps
  have hp63 := Rp.S_len hps
  obtain ⟨adp, capp, rfl⟩ := Rp.S_slice hps
  refine enterX ty tyok Try.func9 rfl Try.ntmps9 [.a [.v (.slice adp p.length capp)]] (by simp) ?_
  intro C hP hQ hnt hty hmb hmh hro; have hQp := qp_body hQ; refine st_ ?_
  refine rn_ ?_; intros
  rename_i b1
  refine go_gsplit rfl rfl (fun h1 => ?_) (fun h1 => ?_) <;> (refine st_ ?_; (refine rn_ ?_; intros))
  · refine x_retc rfl hQ hmb rfl (by rw [hty]; simp only [so, sq, zy, zz, tyE, SO', SQ', opQ, opStore, opAlloc, ev, putS, dOk, cv, SV.cs, SV.one, SV.bool?, eqB, Value.oneCell', ldOwn, binInt, binConst, binBool, binStr, isC, TK.agg, rv, rv1, ldV, resOne, resV, Nat.reduceAdd, Nat.reduceMul, Nat.reduceSub, Nat.reduceLT, Nat.reduceLeDiff, Nat.reduceEqDiff, Nat.reduceBEq, reduceIte, reduceCtorEq, eq_self]; try rfl) rfl ?_; simp only [SV.den, resV, dens]
    rw [whP, if_pos (by have := of_decide_eq_true h1; omega)]
  refine x_split rfl rfl rfl (fun h2 => ?_) (fun h2 => ?_) <;> (refine st_ ?_; (refine ru_ ?_; intros))
  · refine x_retc rfl hQ hmb rfl (by rw [hty]; simp only [so, sq, zy, zz, tyE, SO', SQ', opQ, opStore, opAlloc, ev, putS, dOk, cv, SV.cs, SV.one, SV.bool?, eqB, Value.oneCell', ldOwn, binInt, binConst, binBool, binStr, isC, TK.agg, rv, rv1, ldV, resOne, resV, Nat.reduceAdd, Nat.reduceMul, Nat.reduceSub, Nat.reduceLT, Nat.reduceLeDiff, Nat.reduceEqDiff, Nat.reduceBEq, reduceIte, reduceCtorEq, eq_self]; try rfl) rfl ?_; simp only [SV.den, resV, dens]
    rw [whP, if_pos (by have := of_decide_eq_true h2; omega)]
  have hlen : ¬ (p.length < 1 ∨ 64 < p.length) := by simp at h1 h2; omega
  have hpos : 0 < p.length := by omega
  refine go_keep [1, 24, 25, 26] [0] ?_
  refine st_ ?_
  refine x_loop rfl (fun q s => ∃ i : Nat, i ≤ p.length ∧ q = p.length - i ∧ badF p 0 = badF (p.drop i) i ∧
    s = ⟨[(1, .p 0 b1 0), (24, .v (.slice adp p.length capp)), (25, .v (.int .i64 p.length)), (26, .v (.int .i64 i))], [(0, b1, .c 24 [.v (.slice adp p.length capp)])], G, []⟩) ⟨0, by omega, rfl, rfl, rfl⟩ ?_
  rintro q s ⟨i, hi, hq, hbad, rfl⟩ ih
  refine rn_ ?_; intros
  refine x_if rfl rfl rfl rfl (fun hil => ?_) (fun hil => ?_)
  · have hlt : i < p.length := by simp at hil; omega
    obtain ⟨bp, op, nsp, rfl, hatp, hpp, hnp⟩ := rF_at hps0 hlt
    rw [fu_drop hlt] at hbad
    simp only [badF] at hbad
    have hc := where_ok (fu p i) nsp G hpp hnp
    obtain ⟨adn, capn, rfl⟩ := Rp.S_slice hnp
    refine rn_ ?_; intros
    refine go_q (by rw [hnt]; rfl) (quiet_index (by rw [hty]; rfl) (by rw [hty]; rfl) rfl rfl rfl (by omega) (by omega)) ?_
    refine rn_ ?_; intros
    refine go_q (by rw [hnt]; rfl) (quiet_load (by rw [hty]; rfl) rfl (by simp [TK.agg]) hatp rfl) ?_
    refine rn_ ?_; intros
    refine go_callf (by rw [hnt]; rfl) (by rw [hP]; kernel_rfl) rfl (hP ▸ hc) ?_; refine rn_ ?_; intros
    refine x_split rfl rfl rfl (fun hw => ?_) (fun hw => ?_) <;> (refine st_ ?_; (refine ru_ ?_; intros))
    · refine x_retc rfl hQ hmb rfl (by rw [hty]; simp only [so, sq, zy, zz, tyE, SO', SQ', opQ, opStore, opAlloc, ev, putS, dOk, cv, SV.cs, SV.one, SV.bool?, eqB, Value.oneCell', ldOwn, binInt, binConst, binBool, binStr, isC, TK.agg, rv, rv1, ldV, resOne, resV, Nat.reduceAdd, Nat.reduceMul, Nat.reduceSub, Nat.reduceLT, Nat.reduceLeDiff, Nat.reduceEqDiff, Nat.reduceBEq, reduceIte, reduceCtorEq, eq_self]; try rfl) rfl ?_; simp only [SV.den, resV, dens]
      rw [if_neg (by simpa using hw)] at hbad
      simp only [whP, if_neg hlen, hbad]
    · rw [if_pos (by simpa using hw)] at hbad
      rw [wr (n := (i : Int) + 1) (by omega) (by omega)]
      refine go_keep [1, 24, 25, 26] [0] ?_
      refine st_ ?_
      exact ih (p.length - (i + 1)) _ (by omega) ⟨i + 1, by omega, rfl, hbad, by simp⟩
  have hge : i = p.length := by simp at hil; omega
  subst hge
  clear ih hil
  rw [List.drop_length] at hbad
  simp only [badF] at hbad
  obtain ⟨bp, op, nsp, rfl, hatp, hpp, hnp⟩ := rF_at hps0 hpos
  have hatp0 : At G bp (op + 0 * 2) [.int .i64 (fu p 0).params] := by simpa using hatp.sub 0 1 (by simp)
  refine rn_ ?_; intros
  refine go_q (by rw [hnt]; rfl) (quiet_index (by rw [hty]; rfl) (by rw [hty]; rfl) rfl rfl rfl (by omega) (by omega)) ?_
  refine rn_ ?_; intros
  refine go_q (by rw [hnt]; rfl) (quiet_load (by rw [hty]; rfl) rfl (by simp [TK.agg]) (by simpa using hatp0) rfl) ?_
  refine rn_ ?_; intros
  refine x_split rfl rfl rfl (fun h3 => ?_) (fun h3 => ?_) <;> (refine st_ ?_; (refine ru_ ?_; intros))
  · refine x_retc rfl hQ hmb rfl (by rw [hty]; simp only [so, sq, zy, zz, tyE, SO', SQ', opQ, opStore, opAlloc, ev, putS, dOk, cv, SV.cs, SV.one, SV.bool?, eqB, Value.oneCell', ldOwn, binInt, binConst, binBool, binStr, isC, TK.agg, rv, rv1, ldV, resOne, resV, Nat.reduceAdd, Nat.reduceMul, Nat.reduceSub, Nat.reduceLT, Nat.reduceLeDiff, Nat.reduceEqDiff, Nat.reduceBEq, reduceIte, reduceCtorEq, eq_self]; try rfl) rfl ?_; simp only [SV.den, resV, dens]
    simp only [whP, if_neg hlen, hbad, if_pos (show 0 < (fu p 0).params by simpa using h3)]
  have h3' : ¬ 0 < (fu p 0).params := by simpa using h3
  refine go_keep [1, 48, 49, 50] [0] ?_
  refine st_ ?_
  refine x_loop rfl (fun q s => ∃ i : Nat, i ≤ p.length ∧ q = p.length - i ∧ misF p p 0 = misF p (p.drop i) i ∧
    s = ⟨[(1, .p 0 b1 0), (48, .v (.slice (some ⟨bp, op, none⟩) p.length capp)), (49, .v (.int .i64 p.length)), (50, .v (.int .i64 i))], [(0, b1, .c 24 [.v (.slice (some ⟨bp, op, none⟩) p.length capp)])], G, []⟩) ⟨0, by omega, rfl, rfl, rfl⟩ ?_
  clear q hq hi
  rintro q s ⟨i, hi, hq, hmis, rfl⟩ ih
  refine rn_ ?_; intros
  refine x_if rfl rfl rfl rfl (fun hil => ?_) (fun hil => ?_)
  · have hlt : i < p.length := by simp at hil; omega
    obtain ⟨bp', op', nsi, hse, hati, hpi, hni⟩ := rF_at hps0 hlt
    cases hse
    rw [fu_drop hlt] at hmis
    simp only [misF] at hmis
    have hc := misnames_ok p (fu p i) _ nsi G hps0 hpi hni
    obtain ⟨adn, capn, rfl⟩ := Rp.S_slice hni
    refine rn_ ?_; intros
    refine go_q (by rw [hnt]; rfl) (quiet_index (by rw [hty]; rfl) (by rw [hty]; rfl) rfl rfl rfl (by omega) (by omega)) ?_
    refine rn_ ?_; intros
    refine go_q (by rw [hnt]; rfl) (quiet_load (by rw [hty]; rfl) rfl (by simp [TK.agg]) hati rfl) ?_
    refine rn_ ?_; intros
    cases hm : misL p (fu p i) (calP (fu p i)) with
    | some a =>
      rw [hm] at hc hmis
      simp only [misR] at hc
      simp only at hmis
      refine go_callf (by rw [hnt]; rfl) (by rw [hP]; kernel_rfl) rfl (hP ▸ hc) ?_; refine rn_ ?_; intros
      refine go_slot 61 (.b true) rfl (by simp [SV.den]) ?_; refine rn_ ?_; intros
      refine x_retc rfl hQ hmb rfl (by rw [hty]; simp only [so, sq, zy, zz, tyE, SO', SQ', opQ, opStore, opAlloc, ev, putS, dOk, cv, SV.cs, SV.one, SV.bool?, eqB, Value.oneCell', ldOwn, binInt, binConst, binBool, binStr, isC, TK.agg, rv, rv1, ldV, resOne, resV, Nat.reduceAdd, Nat.reduceMul, Nat.reduceSub, Nat.reduceLT, Nat.reduceLeDiff, Nat.reduceEqDiff, Nat.reduceBEq, reduceIte, reduceCtorEq, eq_self]; try rfl) rfl ?_; simp only [SV.den, resV, dens]
      simp only [whP, if_neg hlen, hbad, if_neg h3', hmis]
    | none =>
      rw [hm] at hc hmis
      simp only [misR] at hc
      simp only at hmis
      refine go_callf (by rw [hnt]; rfl) (by rw [hP]; kernel_rfl) rfl (hP ▸ hc) ?_; refine rn_ ?_; intros
      refine go_slot 61 (.b false) rfl (by simp [SV.den]) ?_; refine rn_ ?_; intros
      rw [wr (n := (i : Int) + 1) (by omega) (by omega)]
      refine go_keep [1, 48, 49, 50] [0] ?_
      refine st_ ?_
      exact ih (p.length - (i + 1)) _ (by omega) ⟨i + 1, by omega, rfl, hmis, by simp⟩
  have hge : i = p.length := by simp at hil; omega
  subst hge
  clear ih hil
  rw [List.drop_length] at hmis
  simp only [misF] at hmis
  refine rn_ ?_; intros
  refine x_retc rfl hQ hmb rfl (by rw [hty]; simp only [so, sq, zy, zz, tyE, SO', SQ', opQ, opStore, opAlloc, ev, putS, dOk, cv, SV.cs, SV.one, SV.bool?, eqB, Value.oneCell', ldOwn, binInt, binConst, binBool, binStr, isC, TK.agg, rv, rv1, ldV, resOne, resV, Nat.reduceAdd, Nat.reduceMul, Nat.reduceSub, Nat.reduceLT, Nat.reduceLeDiff, Nat.reduceEqDiff, Nat.reduceBEq, reduceIte, reduceCtorEq, eq_self]; try rfl) rfl ?_; simp only [SV.den, resV, dens]
  simp only [whP, if_neg hlen, hbad, if_neg h3', hmis]

theorem checkp_ok (p : Pr) (ps : Value) (G : Hp) (hps : rF.S G p ps) : Pure Try.prog 12 [.agg #[ps]] G (fun r _ => r = .int .i64 (whP p).2.2) := by
  have hps0 := hps
  obtain ⟨adp, capp, rfl⟩ := Rp.S_slice hps
  refine enterX ty tyok Try.func12 rfl Try.ntmps12 [.a [.v (.slice adp p.length capp)]] (by simp) ?_
  intro C hP hQ hnt hty hmb hmh hro; have hQp := qp_body hQ; refine st_ ?_
  refine rn_ ?_; intros
  refine go_callf (by rw [hnt]; rfl) (by rw [hP]; kernel_rfl) rfl (hP ▸ wherep_ok p _ G hps0) ?_; refine rn_ ?_; intros
  refine x_retc rfl hQ hmb rfl (by rw [hty]; simp only [so, sq, zy, zz, tyE, SO', SQ', opQ, opStore, opAlloc, ev, putS, dOk, cv, SV.cs, SV.one, SV.bool?, eqB, Value.oneCell', ldOwn, binInt, binConst, binBool, binStr, isC, TK.agg, rv, rv1, ldV, resOne, resV, Nat.reduceAdd, Nat.reduceMul, Nat.reduceSub, Nat.reduceLT, Nat.reduceLeDiff, Nat.reduceEqDiff, Nat.reduceBEq, reduceIte, reduceCtorEq, eq_self]; try rfl) rfl ?_; simp only [SV.den, resV, dens]
def siz : Pr → Int
  | [] => 0
  | f :: l => f.nodes.length + siz l
theorem siz_take {p : Pr} {i : Nat} (h : i < p.length) : siz (p.take (i + 1)) = siz (p.take i) + (fu p i).nodes.length := by
  have key : ∀ (a b : Pr), siz (a ++ b) = siz a + siz b := by
    intro a b
    induction a with
    | nil => simp [siz]
    | cons x a ih => simp only [List.cons_append, siz, ih]; omega
  rw [List.take_add_one, List.getElem?_eq_getElem h, key, fu_eq h]
  simp [siz]
theorem siz_le : ∀ (p : Pr) (i : Nat), 0 ≤ siz (p.take i) ∧ siz (p.take i) ≤ siz p
  | [], i => by simp [siz]
  | f :: p, 0 => by have := siz_le p 0; simp [siz] at this ⊢; omega
  | f :: p, i + 1 => by have := siz_le p i; simp [siz]; omega
theorem siz_bound {k : Nat} : ∀ {p : Pr}, (∀ f ∈ p, f.nodes.length ≤ k) → siz p ≤ (p.length * k : Nat)
  | [], _ => by simp [siz]
  | f :: p, h => by
    have h1 := siz_bound (p := p) fun g hg => h g (by simp [hg])
    have h2 := h f (by simp)
    simp only [siz, List.length_cons, Nat.succ_mul]
    omega
theorem sizep_ok (p : Pr) (ps : Value) (G : Hp) (hps : rF.S G p ps) (hb : siz p ≤ 1000000000000) : Pure Try.prog 13 [.agg #[ps]] G (fun r _ => r = .int .i64 (siz p)) := by
  have hps0 := hps
  have hp63 := Rp.S_len hps
  obtain ⟨adp, capp, rfl⟩ := Rp.S_slice hps
  refine enterX ty tyok Try.func13 rfl Try.ntmps13 [.a [.v (.slice adp p.length capp)]] (by simp) ?_
  intro C hP hQ hnt hty hmb hmh hro; have hQp := qp_body hQ; refine st_ ?_
  refine rn_ ?_; intros
  refine go_keep [3, 7, 8, 9] [] ?_
  refine st_ ?_
  refine x_loop rfl (fun q s => ∃ i : Nat, i ≤ p.length ∧ q = p.length - i ∧
    s = ⟨[(3, .v (.int .i64 (siz (p.take i)))), (7, .v (.slice adp p.length capp)), (8, .v (.int .i64 p.length)), (9, .v (.int .i64 i))], [], G, []⟩) ⟨0, by omega, rfl, rfl⟩ ?_
  rintro q s ⟨i, hi, hq, rfl⟩ ih
  refine rn_ ?_; intros
  refine x_if rfl rfl rfl rfl (fun hil => ?_) (fun hil => ?_)
  · have hlt : i < p.length := by simp at hil; omega
    obtain ⟨bp, op, nsp, rfl, hatp, hpp, hnp⟩ := rF_at hps0 hlt
    obtain ⟨adn, capn, rfl⟩ := Rp.S_slice hnp
    have h1 := siz_le p (i + 1)
    have h2 := siz_take hlt
    have h3 := siz_le p i
    refine rn_ ?_; intros
    refine go_q (by rw [hnt]; rfl) (quiet_index (by rw [hty]; rfl) (by rw [hty]; rfl) rfl rfl rfl (by omega) (by omega)) ?_
    refine rn_ ?_; intros
    refine go_q (by rw [hnt]; rfl) (quiet_load (by rw [hty]; rfl) rfl (by simp [TK.agg]) hatp rfl) ?_
    refine rn_ ?_; intros
    rw [wr (n := (i : Int) + 1) (by omega) (by omega), wr (n := siz (p.take i) + (fu p i).nodes.length) (by omega) (by omega), ← h2]
    refine go_keep [3, 7, 8, 9] [] ?_
    refine st_ ?_
    exact ih (p.length - (i + 1)) _ (by omega) ⟨i + 1, by omega, rfl, by simp⟩
  have hge : i = p.length := by simp at hil; omega
  subst hge
  clear ih hil
  refine rn_ ?_; intros
  refine x_retc rfl hQ hmb rfl (by rw [hty]; simp only [so, sq, zy, zz, tyE, SO', SQ', opQ, opStore, opAlloc, ev, putS, dOk, cv, SV.cs, SV.one, SV.bool?, eqB, Value.oneCell', ldOwn, binInt, binConst, binBool, binStr, isC, TK.agg, rv, rv1, ldV, resOne, resV, Nat.reduceAdd, Nat.reduceMul, Nat.reduceSub, Nat.reduceLT, Nat.reduceLeDiff, Nat.reduceEqDiff, Nat.reduceBEq, reduceIte, reduceCtorEq, eq_self]; try rfl) rfl ?_; simp only [SV.den, resV, dens]
  rw [List.take_length]
def fewN (l : List Nd) : Bool := l.all fun x => decide (x.l.length ≤ 20)
def fewF (l : Pr) : Bool := l.all fun f => decide (f.nodes.length ≤ 220) && fewN f.nodes
def fewP (l : Pr) : Bool := decide (l.length ≤ 70) && fewF l
theorem fewF_drop {l : Pr} {i : Nat} (h : i < l.length) : fewF (l.drop i) = (decide ((fu l i).nodes.length ≤ 220) && fewN (fu l i).nodes && fewF (l.drop (i + 1))) := by
  rw [fu_drop h]; simp [fewF]
theorem fewN_drop {l : List Nd} {i : Nat} (h : i < l.length) : fewN (l.drop i) = (decide (l[i].l.length ≤ 20) && fewN (l.drop (i + 1))) := by
  rw [List.drop_eq_getElem_cons h]; simp only [fewN, List.all_cons]
theorem fewP_of {l : Pr} (h : fewP l = true) : l.length ≤ 70 ∧ ∀ f ∈ l, f.nodes.length ≤ 220 ∧ ∀ x ∈ f.nodes, x.l.length ≤ 20 := by
  simp only [fewP, fewF, fewN, Bool.and_eq_true, decide_eq_true_eq, List.all_eq_true] at h
  exact h
theorem few_ok (l : Pr) (ls : Value) (G : Hp) (hl : rF.S G l ls) : Pure Try.prog 7 [ls] G (fun r _ => r = .bool (fewP l)) := by
  have hl0 := hl
  have hl63 := Rp.S_len hl
  obtain ⟨adp, capp, rfl⟩ := Rp.S_slice hl
  refine enterX ty tyok Try.func7 rfl Try.ntmps7 [.v (.slice adp l.length capp)] (by simp) ?_
  intro C hP hQ hnt hty hmb hmh hro; have hQp := qp_body hQ; refine st_ ?_
  refine rn_ ?_; intros
  refine x_split rfl rfl rfl (fun h70 => ?_) (fun h70 => ?_) <;> (refine st_ ?_; (refine ru_ ?_; intros))
  · refine x_retc rfl hQ hmb rfl (by rw [hty]; simp only [so, sq, zy, zz, tyE, SO', SQ', opQ, opStore, opAlloc, ev, putS, dOk, cv, SV.cs, SV.one, SV.bool?, eqB, Value.oneCell', ldOwn, binInt, binConst, binBool, binStr, isC, TK.agg, rv, rv1, ldV, resOne, resV, Nat.reduceAdd, Nat.reduceMul, Nat.reduceSub, Nat.reduceLT, Nat.reduceLeDiff, Nat.reduceEqDiff, Nat.reduceBEq, reduceIte, reduceCtorEq, eq_self]; try rfl) rfl ?_; simp only [SV.den, resV, dens]
    have := of_decide_eq_true h70
    simp only [fewP, decide_eq_false (show ¬ l.length ≤ 70 by omega), Bool.false_and]
  have h70' : l.length ≤ 70 := by have := of_decide_eq_false h70; omega
  have hfew : fewP l = fewF l := by simp [fewP, h70']
  refine go_keep [0, 3] [] ?_
  refine st_ ?_
  refine x_loop rfl (fun q s => ∃ i : Nat, i ≤ l.length ∧ q = l.length - i ∧ fewF l = fewF (l.drop i) ∧
    s = ⟨[(0, .v (.slice adp l.length capp)), (3, .v (.int .i64 i))], [], G, []⟩) ⟨0, by omega, rfl, rfl, rfl⟩ ?_
  rintro q s ⟨i, hi, hq, hf, rfl⟩ ih
  refine rn_ ?_; intros
  refine x_if rfl rfl rfl rfl (fun hil => ?_) (fun hil => ?_)
  · have hlt : i < l.length := by simp at hil; omega
    obtain ⟨bp, op, nsp, rfl, hatp, hpp, hnp⟩ := rF_at hl0 hlt
    have hn63 := Rp.S_len hnp
    have hnp0 := hnp
    obtain ⟨adn, capn, rfl⟩ := Rp.S_slice hnp
    have hatp1 : At G bp (op + i * 2 + 1) [.slice adn (fu l i).nodes.length capn] := by simpa using hatp.sub 1 1 (by simp)
    rw [fewF_drop hlt] at hf
    refine rn_ ?_; intros
    refine go_q (by rw [hnt]; rfl) (quiet_index (by rw [hty]; rfl) (by rw [hty]; rfl) rfl rfl rfl (by omega) (by omega)) ?_
    refine rn_ ?_; intros
    refine go_q (by rw [hnt]; rfl) (quiet_load (by rw [hty]; rfl) rfl (by simp [TK.agg]) hatp1 rfl) ?_; refine rn_ ?_; intros
    refine x_split rfl rfl rfl (fun h220 => ?_) (fun h220 => ?_) <;> (refine st_ ?_; (refine ru_ ?_; intros))
    · refine x_retc rfl hQ hmb rfl (by rw [hty]; simp only [so, sq, zy, zz, tyE, SO', SQ', opQ, opStore, opAlloc, ev, putS, dOk, cv, SV.cs, SV.one, SV.bool?, eqB, Value.oneCell', ldOwn, binInt, binConst, binBool, binStr, isC, TK.agg, rv, rv1, ldV, resOne, resV, Nat.reduceAdd, Nat.reduceMul, Nat.reduceSub, Nat.reduceLT, Nat.reduceLeDiff, Nat.reduceEqDiff, Nat.reduceBEq, reduceIte, reduceCtorEq, eq_self]; try rfl) rfl ?_; simp only [SV.den, resV, dens]
      have := of_decide_eq_true h220
      rw [hfew, hf, decide_eq_false (by omega)]
      rfl
    rw [decide_eq_true (by have := of_decide_eq_false h220; omega), Bool.true_and] at hf
    refine go_keep [0, 3, 4] [] ?_
    refine st_ ?_
    refine x_loop rfl (fun q s => ∃ k : Nat, k ≤ (fu l i).nodes.length ∧ q = (fu l i).nodes.length - k ∧ fewF l = (fewN ((fu l i).nodes.drop k) && fewF (l.drop (i + 1))) ∧
      s = ⟨[(0, .v (.slice (some ⟨bp, op, none⟩) l.length capp)), (3, .v (.int .i64 i)), (4, .v (.int .i64 k))], [], G, []⟩) ⟨0, by omega, rfl, hf, rfl⟩ ?_
    clear hf
    rintro q s ⟨k, hk, hq, hf, rfl⟩ ihk
    refine rn_ ?_; intros
    refine go_q (by rw [hnt]; rfl) (quiet_index (by rw [hty]; rfl) (by rw [hty]; rfl) rfl rfl rfl (by omega) (by omega)) ?_
    refine rn_ ?_; intros
    refine go_q (by rw [hnt]; rfl) (quiet_load (by rw [hty]; rfl) rfl (by simp [TK.agg]) hatp1 rfl) ?_; refine rn_ ?_; intros
    refine x_if rfl rfl rfl rfl (fun hkl => ?_) (fun hkl => ?_)
    · have hkt : k < (fu l i).nodes.length := by simp at hkl; omega
      obtain ⟨bn, offn, capn', cn, hse, hatn, sl, rfl, hop, hnn, hsl⟩ := Rp.S_get hnp0 hkt
      cases hse
      have hs63 := Rp.S_len hsl
      obtain ⟨ads, caps, rfl⟩ := Rp.S_slice hsl
      have hatn2 : At G bn (offn + k * 3 + 2) [.slice ads (fu l i).nodes[k].l.length caps] := by simpa [rN] using hatn.sub 2 1 (by simp)
      rw [fewN_drop hkt] at hf
      refine rn_ ?_; intros
      refine go_q (by rw [hnt]; rfl) (quiet_index (by rw [hty]; rfl) (by rw [hty]; rfl) rfl rfl rfl (by omega) (by omega)) ?_
      refine rn_ ?_; intros
      refine go_q (by rw [hnt]; rfl) (quiet_load (by rw [hty]; rfl) rfl (by simp [TK.agg]) hatp1 rfl) ?_; refine rn_ ?_; intros
      refine go_q (by rw [hnt]; rfl) (quiet_index (by rw [hty]; rfl) (by rw [hty]; rfl) rfl rfl rfl (by omega) (by omega)) ?_
      refine rn_ ?_; intros
      refine go_q (by rw [hnt]; rfl) (quiet_load (by rw [hty]; rfl) rfl (by simp [TK.agg]) hatn2 rfl) ?_; refine rn_ ?_; intros
      refine x_split rfl rfl rfl (fun h20 => ?_) (fun h20 => ?_) <;> (refine st_ ?_; (refine ru_ ?_; intros))
      · refine x_retc rfl hQ hmb rfl (by rw [hty]; simp only [so, sq, zy, zz, tyE, SO', SQ', opQ, opStore, opAlloc, ev, putS, dOk, cv, SV.cs, SV.one, SV.bool?, eqB, Value.oneCell', ldOwn, binInt, binConst, binBool, binStr, isC, TK.agg, rv, rv1, ldV, resOne, resV, Nat.reduceAdd, Nat.reduceMul, Nat.reduceSub, Nat.reduceLT, Nat.reduceLeDiff, Nat.reduceEqDiff, Nat.reduceBEq, reduceIte, reduceCtorEq, eq_self]; try rfl) rfl ?_; simp only [SV.den, resV, dens]
        have := of_decide_eq_true h20
        rw [hfew, hf, decide_eq_false (by omega)]
        rfl
      rw [decide_eq_true (by have := of_decide_eq_false h20; omega), Bool.true_and] at hf
      rw [wr (n := (k : Int) + 1) (by omega) (by omega)]
      refine go_keep [0, 3, 4] [] ?_
      refine st_ ?_
      exact ihk ((fu l i).nodes.length - (k + 1)) _ (by omega) ⟨k + 1, by omega, rfl, hf, by simp⟩
    have hge : k = (fu l i).nodes.length := by simp at hkl; omega
    subst hge
    clear ihk hkl
    rw [List.drop_length] at hf
    refine rn_ ?_; intros
    rw [wr (n := (i : Int) + 1) (by omega) (by omega)]
    refine go_keep [0, 3] [] ?_
    refine st_ ?_
    exact ih (l.length - (i + 1)) _ (by omega) ⟨i + 1, by omega, rfl, by simpa [fewN] using hf, by simp⟩
  have hge : i = l.length := by simp at hil; omega
  subst hge
  clear ih hil
  rw [List.drop_length] at hf
  refine rn_ ?_; intros
  refine x_retc rfl hQ hmb rfl (by rw [hty]; simp only [so, sq, zy, zz, tyE, SO', SQ', opQ, opStore, opAlloc, ev, putS, dOk, cv, SV.cs, SV.one, SV.bool?, eqB, Value.oneCell', ldOwn, binInt, binConst, binBool, binStr, isC, TK.agg, rv, rv1, ldV, resOne, resV, Nat.reduceAdd, Nat.reduceMul, Nat.reduceSub, Nat.reduceLT, Nat.reduceLeDiff, Nat.reduceEqDiff, Nat.reduceBEq, reduceIte, reduceCtorEq, eq_self]; try rfl) rfl ?_; simp only [SV.den, resV, dens]
  rw [hfew, hf]; rfl
end Go.Proofs.Ytmdkenpodcnnbaa
namespace Go.Proofs.Ytmdkenpodcnnbaa
set_option linter.unusedSimpArgs false
set_option linter.unusedVariables false
open Go.Sx
set_option maxHeartbeats 4000000
def nmP (x : Nd) : Int := if x.op = 23 then IntKind.i64.wrap ((x.l.length : Int) + 1) else if nms x.op then x.l.length else 0
theorem rnames_ok (x : Nd) (sl : Value) (G : Hp) (hr : rI.S G x.l sl) : Pure Try.prog 28 [.agg #[.int .i64 x.op, .int .i64 x.n, sl]] G (fun r _ => r = .tuple #[.int .i64 (nmP x), .bool (nms x.op)]) := by
  obtain ⟨ad, cap, rfl⟩ := Rp.S_slice hr
  refine enterX ty tyok Try.func28 rfl Try.ntmps28 [.a [.v (.int .i64 x.op), .v (.int .i64 x.n), .v _]] (by simp) ?_
  intro C hP hQ hnt hty hmb hmh hro; have hQp := qp_body hQ; refine st_ ?_
  refine rn_ ?_; intros
  iterate 5
    refine x_split rfl rfl rfl (fun h1 => ?_) (fun h1 => ?_) <;> (refine st_ ?_; (refine ru_ ?_; intros))
    · refine x_retc rfl hQ hmb rfl (by rw [hty]; simp only [so, sq, zy, zz, tyE, SO', SQ', opQ, opStore, opAlloc, ev, putS, dOk, cv, SV.cs, SV.one, SV.bool?, eqB, Value.oneCell', ldOwn, binInt, binConst, binBool, binStr, isC, TK.agg, rv, rv1, ldV, resOne, resV, Nat.reduceAdd, Nat.reduceMul, Nat.reduceSub, Nat.reduceLT, Nat.reduceLeDiff, Nat.reduceEqDiff, Nat.reduceBEq, reduceIte, reduceCtorEq, eq_self]; try rfl) rfl ?_; simp only [SV.den, resV, dens]
      simp at h1
      simp_all [nmP, nms]
  refine x_retc rfl hQ hmb rfl (by rw [hty]; simp only [so, sq, zy, zz, tyE, SO', SQ', opQ, opStore, opAlloc, ev, putS, dOk, cv, SV.cs, SV.one, SV.bool?, eqB, Value.oneCell', ldOwn, binInt, binConst, binBool, binStr, isC, TK.agg, rv, rv1, ldV, resOne, resV, Nat.reduceAdd, Nat.reduceMul, Nat.reduceSub, Nat.reduceLT, Nat.reduceLeDiff, Nat.reduceEqDiff, Nat.reduceBEq, reduceIte, reduceCtorEq, eq_self]; try rfl) rfl ?_; simp only [SV.den, resV, dens]
  simp_all [nmP, nms]
theorem fits_nm {x : Nd} {m : Int} (h : nms x.op = true) : fits x m = (m == nmP x) := by
  simp only [fits, nmP, h, if_true]
  split <;> rfl
def misN (p : Pr) : List Nd → Nat → Option Int
  | [], _ => none
  | x :: l, k => if nms x.op && (decide ((p.length : Int) ≤ x.n) || !fits x (fu p x.n.toNat).params) then some k else misN p l (k + 1)
theorem misN_eq {p : Pr} {f : Fu} : ∀ {l : List Nd} {k : Nat}, f.nodes.drop k = l → misN p l k = misL p f (cals l k)
  | [], k, _ => rfl
  | x :: l, k, h => by
    have hk : k < f.nodes.length := by
      rcases Nat.lt_or_ge k f.nodes.length with q | q
      · exact q
      · rw [List.drop_eq_nil_of_le q] at h; cases h
    rw [List.drop_eq_getElem_cons hk] at h
    obtain ⟨hx, hl⟩ := List.cons.inj h
    have ih := misN_eq (p := p) (l := l) (k := k + 1) hl
    simp only [misN, cals]
    by_cases hn : nms x.op = true
    · simp only [hn, Bool.true_and, if_true, misL, misB, Int.toNat_natCast, nd_eq hk, hx, ih]
    · simp only [hn, Bool.false_and, Bool.false_eq_true, if_false, ih]
def misM (p : Pr) : List Fu → Nat → Option (Int × Int)
  | [], _ => none
  | f :: l, i => match misN p f.nodes 0 with
    | some a => some (i, a)
    | none => misM p l (i + 1)
theorem misM_eq {p : Pr} : ∀ {l : List Fu} {i : Nat}, badF l i = none → misM p l i = misF p l i
  | [], i, _ => rfl
  | f :: l, i, h => by
    simp only [badF] at h
    split at h
    · rename_i hw
      have hc : calP f = cals f.nodes 0 := by
        simp only [whr] at hw
        simp only [calP]
        cases hp : places f with
        | inl a => rw [hp] at hw; simp at hw
        | inr A => rfl
      simp only [misM, misF, misM_eq (p := p) h, hc, misN_eq (p := p) (f := f) (l := f.nodes) (k := 0) (by simp)]
      try rfl
    · cases h
theorem badF_par {p : Pr} (h : badF p 0 = none) (hp : 0 < p.length) : 0 ≤ (fu p 0).params := by
  cases p with
  | nil => simp at hp
  | cons f p =>
    simp only [badF] at h
    split at h
    · rename_i hw
      simp only [whr] at hw
      cases hq : places f with
      | inl a => rw [hq] at hw; simp at hw
      | inr A => have := (tree hq).par9.1; simpa [fu] using this
    · cases h
theorem badF_ok : ∀ {p : List Fu} {i : Nat}, badF p i = none → ∀ f ∈ p, (whr f).2 = 0
  | [], _, _, f, hf => by simp at hf
  | g :: p, i, h, f, hf => by
    simp only [badF] at h
    split at h
    · rename_i hw
      rcases List.mem_cons.1 hf with rfl | hf
      · exact hw
      · exact badF_ok h f hf
    · cases h
theorem nms_range {f : Fu} (h : (whr f).2 = 0) {k : Nat} (hk : k < f.nodes.length) (hn : nms f.nodes[k].op = true) : 0 ≤ f.nodes[k].n ∧ f.nodes[k].n ≤ 63 := by
  simp only [whr] at h
  cases hp : places f with
  | inl a => rw [hp] at h; simp at h
  | inr A =>
    have h3 := ((tree hp).ok k hk).2.2
    rw [nd_eq hk] at h3
    exact nmb_nms hn h3
theorem refwherep_ok (p : Pr) (ps : Value) (G : Hp) (hps : rF.S G p ps) :
    Pure Try.prog 10 [.agg #[ps]] G (fun r _ => r = .tuple #[.int .i64 (whP p).1, .int .i64 (whP p).2.1, .int .i64 (whP p).2.2]) := by
  have hps0 := hps
  have hp63 := Rp.S_len hps
  obtain ⟨adp, capp, rfl⟩ := Rp.S_slice hps
  refine enterX ty tyok Try.func10 rfl Try.ntmps10 [.a [.v (.slice adp p.length capp)]] (by simp) ?_
  intro C hP hQ hnt hty hmb hmh hro; have hQp := qp_body hQ; refine st_ ?_
  refine rn_ ?_; intros
  rename_i b1
  refine go_gsplit rfl rfl (fun h1 => ?_) (fun h1 => ?_) <;> (refine st_ ?_; (refine rn_ ?_; intros))
  · refine x_retc rfl hQ hmb rfl (by rw [hty]; simp only [so, sq, zy, zz, tyE, SO', SQ', opQ, opStore, opAlloc, ev, putS, dOk, cv, SV.cs, SV.one, SV.bool?, eqB, Value.oneCell', ldOwn, binInt, binConst, binBool, binStr, isC, TK.agg, rv, rv1, ldV, resOne, resV, Nat.reduceAdd, Nat.reduceMul, Nat.reduceSub, Nat.reduceLT, Nat.reduceLeDiff, Nat.reduceEqDiff, Nat.reduceBEq, reduceIte, reduceCtorEq, eq_self]; try rfl) rfl ?_; simp only [SV.den, resV, dens]
    rw [whP, if_pos (by have := of_decide_eq_true h1; omega)]
  refine x_split rfl rfl rfl (fun h2 => ?_) (fun h2 => ?_) <;> (refine st_ ?_; (refine ru_ ?_; intros))
  · refine x_retc rfl hQ hmb rfl (by rw [hty]; simp only [so, sq, zy, zz, tyE, SO', SQ', opQ, opStore, opAlloc, ev, putS, dOk, cv, SV.cs, SV.one, SV.bool?, eqB, Value.oneCell', ldOwn, binInt, binConst, binBool, binStr, isC, TK.agg, rv, rv1, ldV, resOne, resV, Nat.reduceAdd, Nat.reduceMul, Nat.reduceSub, Nat.reduceLT, Nat.reduceLeDiff, Nat.reduceEqDiff, Nat.reduceBEq, reduceIte, reduceCtorEq, eq_self]; try rfl) rfl ?_; simp only [SV.den, resV, dens]
    rw [whP, if_pos (by have := of_decide_eq_true h2; omega)]
  have hlen : ¬ (p.length < 1 ∨ 64 < p.length) := by simp at h1 h2; omega
  have hpos : 0 < p.length := by omega
  refine go_keep [1, 5, 6] [0] ?_
  refine st_ ?_
  refine x_loop rfl (fun q s => ∃ i : Nat, i ≤ p.length ∧ q = p.length - i ∧ badF p 0 = badF (p.drop i) i ∧
    s = ⟨[(1, .p 0 b1 0), (5, .v (.int .i64 p.length)), (6, .v (.int .i64 i))], [(0, b1, .c 24 [.v (.slice adp p.length capp)])], G, []⟩) ⟨0, by omega, rfl, rfl, rfl⟩ ?_
  rintro q s ⟨i, hi, hq, hbad, rfl⟩ ih
  refine rn_ ?_; intros
  refine x_if rfl rfl rfl rfl (fun hil => ?_) (fun hil => ?_)
  · have hlt : i < p.length := by simp at hil; omega
    obtain ⟨bp, op, nsp, rfl, hatp, hpp, hnp⟩ := rF_at hps0 hlt
    rw [fu_drop hlt] at hbad
    simp only [badF] at hbad
    have hc := refwhere_ok (fu p i) nsp G hpp hnp
    obtain ⟨adn, capn, rfl⟩ := Rp.S_slice hnp
    refine rn_ ?_; intros
    refine go_q (by rw [hnt]; rfl) (quiet_index (by rw [hty]; rfl) (by rw [hty]; rfl) rfl rfl rfl (by omega) (by omega)) ?_
    refine rn_ ?_; intros
    refine go_q (by rw [hnt]; rfl) (quiet_load (by rw [hty]; rfl) rfl (by simp [TK.agg]) hatp rfl) ?_
    refine rn_ ?_; intros
    refine go_callf (by rw [hnt]; rfl) (by rw [hP]; kernel_rfl) rfl (hP ▸ hc) ?_; refine rn_ ?_; intros
    refine x_split rfl rfl rfl (fun hw => ?_) (fun hw => ?_) <;> (refine st_ ?_; (refine ru_ ?_; intros))
    · refine x_retc rfl hQ hmb rfl (by rw [hty]; simp only [so, sq, zy, zz, tyE, SO', SQ', opQ, opStore, opAlloc, ev, putS, dOk, cv, SV.cs, SV.one, SV.bool?, eqB, Value.oneCell', ldOwn, binInt, binConst, binBool, binStr, isC, TK.agg, rv, rv1, ldV, resOne, resV, Nat.reduceAdd, Nat.reduceMul, Nat.reduceSub, Nat.reduceLT, Nat.reduceLeDiff, Nat.reduceEqDiff, Nat.reduceBEq, reduceIte, reduceCtorEq, eq_self]; try rfl) rfl ?_; simp only [SV.den, resV, dens]
      rw [if_neg (by simpa using hw)] at hbad
      simp only [whP, if_neg hlen, hbad]
    · rw [if_pos (by simpa using hw)] at hbad
      rw [wr (n := (i : Int) + 1) (by omega) (by omega)]
      refine go_keep [1, 5, 6] [0] ?_
      refine st_ ?_
      exact ih (p.length - (i + 1)) _ (by omega) ⟨i + 1, by omega, rfl, hbad, by simp⟩
  have hge : i = p.length := by simp at hil; omega
  subst hge
  clear ih hil
  rw [List.drop_length] at hbad
  simp only [badF] at hbad
  obtain ⟨bp, op, nsp, rfl, hatp, hpp, hnp⟩ := rF_at hps0 hpos
  have hatp0 : At G bp (op + 0 * 2) [.int .i64 (fu p 0).params] := by simpa using hatp.sub 0 1 (by simp)
  refine rn_ ?_; intros
  refine go_q (by rw [hnt]; rfl) (quiet_index (by rw [hty]; rfl) (by rw [hty]; rfl) rfl rfl rfl (by omega) (by omega)) ?_
  refine rn_ ?_; intros
  refine go_q (by rw [hnt]; rfl) (quiet_load (by rw [hty]; rfl) rfl (by simp [TK.agg]) (by simpa using hatp0) rfl) ?_
  refine rn_ ?_; intros
  have hpar := badF_par hbad hpos
  refine x_split rfl rfl rfl (fun h3 => ?_) (fun h3 => ?_) <;> (refine st_ ?_; (refine ru_ ?_; intros))
  · refine x_retc rfl hQ hmb rfl (by rw [hty]; simp only [so, sq, zy, zz, tyE, SO', SQ', opQ, opStore, opAlloc, ev, putS, dOk, cv, SV.cs, SV.one, SV.bool?, eqB, Value.oneCell', ldOwn, binInt, binConst, binBool, binStr, isC, TK.agg, rv, rv1, ldV, resOne, resV, Nat.reduceAdd, Nat.reduceMul, Nat.reduceSub, Nat.reduceLT, Nat.reduceLeDiff, Nat.reduceEqDiff, Nat.reduceBEq, reduceIte, reduceCtorEq, eq_self]; try rfl) rfl ?_; simp only [SV.den, resV, dens]
    simp only [whP, if_neg hlen, hbad, if_pos (show 0 < (fu p 0).params by simp at h3; omega)]
  have h3' : ¬ 0 < (fu p 0).params := by simp at h3; omega
  have hbok := badF_ok hbad
  have hwh : whP p = match misM p p 0 with | some x => (x.1, x.2, 70) | none => (0, 0, 0) := by
    simp only [whP, if_neg hlen, hbad, if_neg h3', misM_eq hbad]
    try rfl
  refine go_keep [1, 5, 9] [0] ?_
  refine st_ ?_
  refine x_loop rfl (fun q s => ∃ i : Nat, i ≤ p.length ∧ q = p.length - i ∧ misM p p 0 = misM p (p.drop i) i ∧
    s = ⟨[(1, .p 0 b1 0), (5, .v (.int .i64 p.length)), (9, .v (.int .i64 i))], [(0, b1, .c 24 [.v (.slice (some ⟨bp, op, none⟩) p.length capp)])], G, []⟩) ⟨0, by omega, rfl, rfl, rfl⟩ ?_
  clear q hq hi
  rintro q s ⟨i, hi, hq, hmis, rfl⟩ ih
  refine rn_ ?_; intros
  refine x_if rfl rfl rfl rfl (fun hil => ?_) (fun hil => ?_)
  · have hlt : i < p.length := by simp at hil; omega
    obtain ⟨bp', op', nsi, hse, hati, hpi, hni⟩ := rF_at hps0 hlt
    cases hse
    have hi0 : (whr (fu p i)).2 = 0 := hbok _ (by rw [fu_eq hlt]; exact List.getElem_mem _)
    rw [fu_drop hlt] at hmis
    simp only [misM] at hmis
    have hni0 := hni
    have hn63 := Rp.S_len hni
    obtain ⟨adn, capn, rfl⟩ := Rp.S_slice hni
    have hati1 : At G bp (op + i * 2 + 1) [.slice adn (fu p i).nodes.length capn] := by simpa using hati.sub 1 1 (by simp)
    refine rn_ ?_; intros
    refine go_keep [1, 5, 9, 10] [0] ?_
    refine st_ ?_
    refine x_loop rfl (fun q s => ∃ k : Nat, k ≤ (fu p i).nodes.length ∧ q = (fu p i).nodes.length - k ∧ misN p (fu p i).nodes 0 = misN p ((fu p i).nodes.drop k) k ∧
      s = ⟨[(1, .p 0 b1 0), (5, .v (.int .i64 p.length)), (9, .v (.int .i64 i)), (10, .v (.int .i64 k))], [(0, b1, .c 24 [.v (.slice (some ⟨bp, op, none⟩) p.length capp)])], G, []⟩) ⟨0, by omega, rfl, rfl, rfl⟩ ?_
    rintro q s ⟨k, hk, hq, hmn, rfl⟩ ihk
    refine rn_ ?_; intros
    refine go_q (by rw [hnt]; rfl) (quiet_index (by rw [hty]; rfl) (by rw [hty]; rfl) rfl rfl rfl (by omega) (by omega)) ?_
    refine rn_ ?_; intros
    refine go_q (by rw [hnt]; rfl) (quiet_load (by rw [hty]; rfl) rfl (by simp [TK.agg]) hati1 rfl) ?_; refine rn_ ?_; intros
    refine x_if rfl rfl rfl rfl (fun hkl => ?_) (fun hkl => ?_)
    · have hkt : k < (fu p i).nodes.length := by simp at hkl; omega
      obtain ⟨bn, offn, capn', cn, hse, hatn, sl, rfl, hop, hnn, hsl⟩ := Rp.S_get hni0 hkt
      cases hse
      have hc := rnames_ok (fu p i).nodes[k] sl G hsl
      have hrg := nms_range hi0 hkt
      have hs63 := Rp.S_len hsl
      obtain ⟨ads, caps, rfl⟩ := Rp.S_slice hsl
      rw [List.drop_eq_getElem_cons hkt] at hmn
      simp only [misN] at hmn
      refine rn_ ?_; intros
      refine go_q (by rw [hnt]; rfl) (quiet_index (by rw [hty]; rfl) (by rw [hty]; rfl) rfl rfl rfl (by omega) (by omega)) ?_
      refine rn_ ?_; intros
      refine go_q (by rw [hnt]; rfl) (quiet_load (by rw [hty]; rfl) rfl (by simp [TK.agg]) hati1 rfl) ?_; refine rn_ ?_; intros
      refine go_q (by rw [hnt]; rfl) (quiet_index (by rw [hty]; rfl) (by rw [hty]; rfl) rfl rfl rfl (by omega) (by omega)) ?_
      refine rn_ ?_; intros
      refine go_q (by rw [hnt]; rfl) (quiet_load (by rw [hty]; rfl) rfl (by simp [TK.agg]) (by simpa [rN] using hatn) rfl) ?_
      refine rn_ ?_; intros
      refine go_callf (by rw [hnt]; rfl) (by rw [hP]; kernel_rfl) rfl (hP ▸ hc) ?_; refine rn_ ?_; intros
      refine go_gsplit rfl rfl (fun hn => ?_) (fun hn => ?_) <;> (refine st_ ?_; (refine rn_ ?_; intros))
      · obtain ⟨t, ht⟩ : ∃ t : Nat, (fu p i).nodes[k].n = t := ⟨(fu p i).nodes[k].n.toNat, by have := hrg hn; omega⟩
        have ht63 : t ≤ 63 := by have := hrg hn; omega
        simp only [ht]
        rw [hn, ht] at hmn
        refine go_gsplit rfl rfl (fun hge => ?_) (fun hge => ?_) <;> (refine st_ ?_; (refine rn_ ?_; intros))
        · rw [if_pos (by have := of_decide_eq_true hge; simp; omega)] at hmn
          rw [hmn] at hmis
          refine x_retc rfl hQ hmb rfl (by rw [hty]; simp only [so, sq, zy, zz, tyE, SO', SQ', opQ, opStore, opAlloc, ev, putS, dOk, cv, SV.cs, SV.one, SV.bool?, eqB, Value.oneCell', ldOwn, binInt, binConst, binBool, binStr, isC, TK.agg, rv, rv1, ldV, resOne, resV, Nat.reduceAdd, Nat.reduceMul, Nat.reduceSub, Nat.reduceLT, Nat.reduceLeDiff, Nat.reduceEqDiff, Nat.reduceBEq, reduceIte, reduceCtorEq, eq_self]; try rfl) rfl ?_; simp only [SV.den, resV, dens]
          rw [hwh, hmis]
        · have htl : t < p.length := by have := of_decide_eq_false hge; omega
          obtain ⟨bq, oq, nsq, hse, hatq, hpq, hnq⟩ := rF_at hps0 htl
          cases hse
          have hatq0 : At G bp (op + t * 2) [.int .i64 (fu p t).params] := by simpa using hatq.sub 0 1 (by simp)
          refine go_q (by rw [hnt]; rfl) (quiet_index (by rw [hty]; rfl) (by rw [hty]; rfl) rfl rfl rfl (by omega) (by omega)) ?_
          refine rn_ ?_; intros
          refine go_q (by rw [hnt]; rfl) (quiet_load (by rw [hty]; rfl) rfl (by simp [TK.agg]) (by simpa using hatq0) rfl) ?_
          refine rn_ ?_; intros
          rw [decide_eq_false (by omega), Bool.false_or, Bool.true_and, Int.toNat_natCast, fits_nm hn] at hmn
          refine x_split rfl rfl rfl (fun hm => ?_) (fun hm => ?_) <;> (refine st_ ?_; (refine ru_ ?_; intros))
          · rw [if_pos (by simpa using hm)] at hmn
            rw [hmn] at hmis
            refine x_retc rfl hQ hmb rfl (by rw [hty]; simp only [so, sq, zy, zz, tyE, SO', SQ', opQ, opStore, opAlloc, ev, putS, dOk, cv, SV.cs, SV.one, SV.bool?, eqB, Value.oneCell', ldOwn, binInt, binConst, binBool, binStr, isC, TK.agg, rv, rv1, ldV, resOne, resV, Nat.reduceAdd, Nat.reduceMul, Nat.reduceSub, Nat.reduceLT, Nat.reduceLeDiff, Nat.reduceEqDiff, Nat.reduceBEq, reduceIte, reduceCtorEq, eq_self]; try rfl) rfl ?_; simp only [SV.den, resV, dens]
            rw [hwh, hmis]
          · rw [if_neg (by simpa using hm)] at hmn
            rw [wr (n := (k : Int) + 1) (by omega) (by omega)]
            refine go_keep [1, 5, 9, 10] [0] ?_
            refine st_ ?_
            exact ihk ((fu p i).nodes.length - (k + 1)) _ (by omega) ⟨k + 1, by omega, rfl, hmn, by simp⟩
      · rw [hn, Bool.false_and, if_neg (by simp)] at hmn
        repeat (refine go_gundef rfl (by rw [hnt]; rfl) rfl ?_; (refine st_ ?_; (refine rn_ ?_; intros)))
        rw [wr (n := (k : Int) + 1) (by omega) (by omega)]
        refine go_keep [1, 5, 9, 10] [0] ?_
        refine st_ ?_
        exact ihk ((fu p i).nodes.length - (k + 1)) _ (by omega) ⟨k + 1, by omega, rfl, hmn, by simp⟩
    have hge : k = (fu p i).nodes.length := by simp at hkl; omega
    subst hge
    clear ihk hkl
    rw [List.drop_length] at hmn
    simp only [misN] at hmn
    rw [hmn] at hmis
    refine rn_ ?_; intros
    rw [wr (n := (i : Int) + 1) (by omega) (by omega)]
    refine go_keep [1, 5, 9] [0] ?_
    refine st_ ?_
    exact ih (p.length - (i + 1)) _ (by omega) ⟨i + 1, by omega, rfl, hmis, by simp⟩
  have hge : i = p.length := by simp at hil; omega
  subst hge
  clear ih hil
  rw [List.drop_length] at hmis
  simp only [misM] at hmis
  refine rn_ ?_; intros
  refine x_retc rfl hQ hmb rfl (by rw [hty]; simp only [so, sq, zy, zz, tyE, SO', SQ', opQ, opStore, opAlloc, ev, putS, dOk, cv, SV.cs, SV.one, SV.bool?, eqB, Value.oneCell', ldOwn, binInt, binConst, binBool, binStr, isC, TK.agg, rv, rv1, ldV, resOne, resV, Nat.reduceAdd, Nat.reduceMul, Nat.reduceSub, Nat.reduceLT, Nat.reduceLeDiff, Nat.reduceEqDiff, Nat.reduceBEq, reduceIte, reduceCtorEq, eq_self]; try rfl) rfl ?_; simp only [SV.den, resV, dens]
  rw [hwh, hmis]
def rgtP (p : Pr) : Bool := (whP p).2.2 == 0
theorem rrightp_ok (p : Pr) (ps : Value) (G : Hp) (hps : rF.S G p ps) : Pure Try.prog 29 [.agg #[ps]] G (fun r _ => r = .bool (rgtP p)) := by
  have hps0 := hps
  obtain ⟨adp, capp, rfl⟩ := Rp.S_slice hps
  refine enterX ty tyok Try.func29 rfl Try.ntmps29 [.a [.v (.slice adp p.length capp)]] (by simp) ?_
  intro C hP hQ hnt hty hmb hmh hro; have hQp := qp_body hQ; refine st_ ?_
  refine rn_ ?_; intros
  refine go_callf (by rw [hnt]; rfl) (by rw [hP]; kernel_rfl) rfl (hP ▸ refwherep_ok p _ G hps0) ?_; refine rn_ ?_; intros
  refine x_retc rfl hQ hmb rfl (by rw [hty]; simp only [so, sq, zy, zz, tyE, SO', SQ', opQ, opStore, opAlloc, ev, putS, dOk, cv, SV.cs, SV.one, SV.bool?, eqB, Value.oneCell', ldOwn, binInt, binConst, binBool, binStr, isC, TK.agg, rv, rv1, ldV, resOne, resV, Nat.reduceAdd, Nat.reduceMul, Nat.reduceSub, Nat.reduceLT, Nat.reduceLeDiff, Nat.reduceEqDiff, Nat.reduceBEq, reduceIte, reduceCtorEq, eq_self]; try rfl) rfl ?_; simp only [SV.den, resV, dens]
  simp [rgtP]
end Go.Proofs.Ytmdkenpodcnnbaa
namespace Go.Proofs.Ytmdkenpodcnnbaa
set_option linter.unusedSimpArgs false
set_option linter.unusedVariables false
open Go.Sx
set_option maxHeartbeats 4000000
theorem clone_ok (l : List Int) (sl : Value) (G : Hp) (hS : rI.S G l sl) (hb : l.length ≤ 1000000) : PureR Try.prog 45 [sl] G (fun v _ r e size n xs => v = r ∧ e = 3 ∧ size = 1 ∧ n = l.length ∧ xs = l.map (.int .i64 ·)) := by
  obtain ⟨h63, ad, cap, rfl, hsrc⟩ := hS
  refine enterR ty tyok Try.func45 rfl Try.ntmps45 [.v (.slice ad l.length cap)] (by simp) ?_
  intro C hP hQ hnt hty hmb hmh hro; have hQp := qp_body hQ; refine st_ ?_
  refine rn_ ?_; intros
  refine go_q (by rw [hnt]; rfl) (quiet_snil (by rw [hty]; rfl) rfl rfl) ?_
  refine rn_ ?_; intros
  cases ad with
  | none =>
    have hl : l = [] := by rcases hsrc with h | ⟨b, off, cs, h, _⟩; exact h; cases h
    subst hl
    refine go_slot 4 (.b true) rfl rfl ?_
    refine rn_ ?_; intros
    refine go_nilrow 9 3 1 rfl (by omega) ?_
    refine st_ ?_
    refine x_retr 9 rfl hQ hmb hmh rfl (by rw [hty]; simp only [so, sq, zy, zz, tyE, SO', SQ', opQ, opStore, opAlloc, ev, putS, dOk, cv, SV.cs, SV.one, SV.bool?, eqB, Value.oneCell', ldOwn, binInt, binConst, binBool, binStr, isC, TK.agg, rv, rv1, ldV, resOne, resV, Nat.reduceAdd, Nat.reduceMul, Nat.reduceSub, Nat.reduceLT, Nat.reduceLeDiff, Nat.reduceEqDiff, Nat.reduceBEq, reduceIte, reduceCtorEq, eq_self]; try rfl) rfl rfl ?_
    simp [resV, SV.den]
  | some a =>
    refine go_slot 4 (.b false) rfl rfl ?_
    refine rn_ ?_; intros
    obtain ⟨cs2, hr2, hs2⟩ := Rp.src (r := rI) (cap := cap) hsrc
    have hlen2 := Rp.L_len hr2
    simp only [rI, Nat.mul_one] at hlen2
    refine go_litrow 0 (n := 0) (size := 1) rfl (by omega) rfl (by omega) ?_
    refine st_ ?_
    refine go_append_any 0 (by rw [hnt]; rfl) (by rw [hty]; rfl) (by rw [hty]; rfl) (by decide) rfl rfl rfl (by omega) rfl (hs2.imp id fun f => f _ _ rfl) (by simp only []; omega) (Rp.L_one hr2) (by omega) (by simp only []; omega) ?_
    intro v'
    refine go_rowS 0 rfl ?_
    rintro ad2 cap2 rfl
    refine rn_ ?_; intros
    refine x_retr 0 rfl hQ hmb hmh rfl (by rw [hty]; simp only [so, sq, zy, zz, tyE, SO', SQ', opQ, opStore, opAlloc, ev, putS, dOk, cv, SV.cs, SV.one, SV.bool?, eqB, Value.oneCell', ldOwn, binInt, binConst, binBool, binStr, isC, TK.agg, rv, rv1, ldV, resOne, resV, Nat.reduceAdd, Nat.reduceMul, Nat.reduceSub, Nat.reduceLT, Nat.reduceLeDiff, Nat.reduceEqDiff, Nat.reduceBEq, reduceIte, reduceCtorEq, eq_self]; try rfl) rfl rfl ?_
    refine ⟨by simp [resV, SV.den], rfl, rfl, by simp, ?_⟩
    simpa using (rI_L.1 hr2).1
def encN : List Nd → List Value → List Value
  | x :: l, s :: ss => .int .i64 x.op :: .int .i64 x.n :: s :: encN l ss
  | _, _ => []
def rowsL : List Nd → List Value → List Rw
  | x :: l, s :: ss => ⟨3, 1, s, x.l.length, x.l.map (.int .i64 ·)⟩ :: rowsL l ss
  | _, _ => []
def RF (f : Fu) (ns : Value) (ss : List Value) : List Rw := rowsL f.nodes ss ++ [⟨51, 3, ns, f.nodes.length, encN f.nodes ss⟩]
theorem encN_snoc {x : Nd} {s : Value} : ∀ (l : List Nd) (ss : List Value), l.length = ss.length → encN (l ++ [x]) (ss ++ [s]) = encN l ss ++ [.int .i64 x.op, .int .i64 x.n, s]
  | [], [], _ => by simp [encN]
  | y :: l, u :: ss, h => by simp [encN, encN_snoc l ss (by simpa using h)]
theorem rowsL_snoc {x : Nd} {s : Value} : ∀ (l : List Nd) (ss : List Value), l.length = ss.length → rowsL (l ++ [x]) (ss ++ [s]) = rowsL l ss ++ [⟨3, 1, s, x.l.length, x.l.map (.int .i64 ·)⟩]
  | [], [], _ => by simp [rowsL]
  | y :: l, u :: ss, h => by simp [rowsL, rowsL_snoc l ss (by simpa using h)]
theorem Rp.src_mono {G G' : Hp} {l : List Int} {ad : Option Addr} (hl : Le G G') (h : l = [] ∨ ∃ b off cs, ad = some ⟨b, off, none⟩ ∧ At G b off cs ∧ rI.L G l cs) : l = [] ∨ ∃ b off cs, ad = some ⟨b, off, none⟩ ∧ At G' b off cs ∧ rI.L G' l cs := by
  rcases h with h | ⟨b, off, cs, h1, h2, h3⟩
  · exact .inl h
  · exact .inr ⟨b, off, cs, h1, h2.mono hl, Rp.L_mono hl h3⟩
theorem copy_ok (f : Fu) (ns : Value) (G : Hp) (hns : rN.S G f.nodes ns) (hb : f.nodes.length ≤ 300) (hb2 : ∀ x ∈ f.nodes, x.l.length ≤ 40) :
    PureV Try.prog 30 [.agg #[.int .i64 f.params, ns]] G (fun v _ rs => ∃ ad cap ss, ss.length = f.nodes.length ∧ v = .agg #[.int .i64 f.params, .slice ad f.nodes.length cap] ∧ rs = RF f (.slice ad f.nodes.length cap) ss) := by
  have hns0 := hns
  obtain ⟨ad, cap, rfl⟩ := Rp.S_slice hns
  refine enterV ty tyok Try.func30 rfl Try.ntmps30 [.a [.v (.int .i64 f.params), .v (.slice ad f.nodes.length cap)]] (by simp) ?_
  intro C hP hQ hnt hty hmb hmh hro; have hQp := qp_body hQ; refine st_ ?_
  refine rn_ ?_; intros
  rename_i b1 b2 b3
  refine go_nilrow 41 51 3 rfl (by omega) ?_
  refine go_znil 40 rfl (by omega) ?_
  intro Z0
  refine go_keep [1, 2, 3, 10, 11, 12] [0, 1, 2, 40, 41] ?_
  refine st_ ?_
  refine x_loop rfl (fun q s => ∃ (k : Nat) (G' : Hp) (ss : List Value) (ad3 : Option Addr) (cap3 : Nat) (Z : Nat → Prop), k ≤ f.nodes.length ∧ q = f.nodes.length - k ∧ Le G G' ∧ ss.length = k ∧
    s = ⟨[(1, .p 0 b1 0), (2, .p 1 b2 0), (3, .p 2 b3 0), (10, .v (.slice ad f.nodes.length cap)), (11, .v (.int .i64 f.nodes.length)), (12, .v (.int .i64 k))],
      [(0, b1, .c 46 [.v (.int .i64 f.params), .v (.slice ad f.nodes.length cap)]), (1, b2, .c 46 [.v (.int .i64 0), .v (.slice none 0 0)]), (2, b3, .c 46 [.v (.int .i64 f.params), .v (.slice ad3 k cap3)]),
       (40, 0, .z (ZR (rowsL (f.nodes.take k) ss)) Z Z), (41, 0, .row (.slice ad3 k cap3) 51 3 k (encN (f.nodes.take k) ss))], G', []⟩) ⟨0, G, [], none, 0, Z0, by omega, rfl, Le.refl _, rfl, by simp [rowsL, encN]⟩ ?_
  rintro q s ⟨k, G1, ss, ad3, cap3, Z, hk, hq, hle1, hss, rfl⟩ ih
  refine rn_ ?_; intros
  refine x_if rfl rfl rfl rfl (fun hjl => ?_) (fun hjl => ?_)
  · have hlt : k < f.nodes.length := by simp at hjl; omega
    have htk : f.nodes.take (k + 1) = f.nodes.take k ++ [f.nodes[k]] := by rw [List.take_append_getElem]
    have hl40 : f.nodes[k].l.length ≤ 1000000 := by have := hb2 f.nodes[k] (List.getElem_mem hlt); omega
    obtain ⟨bn, offn, capn, cn, hse, hatn, sl, rfl, hop, hnn, hsl⟩ := Rp.S_get hns0 hlt
    cases hse
    obtain ⟨h63', adl, capl, rfl, hsrc⟩ := hsl
    have hatn' : At G bn (offn + k * 3) [.int .i64 f.nodes[k].op, .int .i64 f.nodes[k].n, .slice adl f.nodes[k].l.length capl] := by simpa [rN] using hatn
    clear hatn
    refine rn_ ?_; intros
    refine go_q (by rw [hnt]; rfl) (quiet_index (by rw [hty]; rfl) (by rw [hty]; rfl) rfl rfl rfl (by omega) (by omega)) ?_
    refine rn_ ?_; intros
    refine go_q (by rw [hnt]; rfl) (quiet_load (by rw [hty]; rfl) rfl (by simp [TK.agg]) (hatn'.mono hle1) rfl) ?_
    refine rn_ ?_; intros
    rename_i b5
    refine x_held [(42, b5, .c 51 [.v (.int .i64 f.nodes[k].op), .v (.int .i64 f.nodes[k].n), .v (.slice adl f.nodes[k].l.length capl)])] rfl (by rw [hP]; kernel_rfl) rfl rfl rfl ?_; refine st_ ?_
    refine h_take 0 rfl (by kernel_rfl) (by kernel_rfl) (by kernel_rfl) hQp (by rw [hnt]; rfl) (allIn (by repeat (first | exact trivial | refine ⟨rfl, ?_⟩))) (by first | exact Le.refl _ | assumption) (quiet_op (by rw [hty]; first | rfl | (refine st_ ?_; rfl))) ?_; refine st_ ?_
    refine h_take 2 rfl (by kernel_rfl) (by kernel_rfl) (by kernel_rfl) hQp (by rw [hnt]; rfl) (allIn (by repeat (first | exact trivial | refine ⟨rfl, ?_⟩))) (by first | exact Le.refl _ | assumption) (quiet_op (by rw [hty]; first | rfl | (refine st_ ?_; rfl))) ?_; refine st_ ?_
    refine h_take 3 rfl (by kernel_rfl) (by kernel_rfl) (by kernel_rfl) hQp (by rw [hnt]; rfl) (allIn (by repeat (first | exact trivial | refine ⟨rfl, ?_⟩))) (by first | exact Le.refl _ | assumption) (quiet_op (by rw [hty]; first | rfl | (refine st_ ?_; rfl))) ?_; refine st_ ?_
    refine h_take 4 rfl (by kernel_rfl) (by kernel_rfl) (by kernel_rfl) hQp (by rw [hnt]; rfl) (allIn (by repeat (first | exact trivial | refine ⟨rfl, ?_⟩))) (by first | exact Le.refl _ | assumption) (quiet_op (by rw [hty]; first | rfl | (refine st_ ?_; rfl))) ?_; refine st_ ?_
    refine h_take 5 rfl (by kernel_rfl) (by kernel_rfl) (by kernel_rfl) hQp (by rw [hnt]; rfl) (allIn (by repeat (first | exact trivial | refine ⟨rfl, ?_⟩))) (by first | exact Le.refl _ | assumption) (quiet_op (by rw [hty]; first | rfl | (refine st_ ?_; rfl))) ?_; refine st_ ?_
    refine h_take 6 rfl (by kernel_rfl) (by kernel_rfl) (by kernel_rfl) hQp (by rw [hnt]; rfl) (allIn (by repeat (first | exact trivial | refine ⟨rfl, ?_⟩))) (by first | exact Le.refl _ | assumption) (quiet_op (by rw [hty]; first | rfl | (refine st_ ?_; rfl))) ?_; refine st_ ?_
    refine h_take 7 rfl (by kernel_rfl) (by kernel_rfl) (by kernel_rfl) hQp (by rw [hnt]; rfl) (allIn (by repeat (first | exact trivial | refine ⟨rfl, ?_⟩))) (by first | exact Le.refl _ | assumption) (quiet_op (by rw [hty]; first | rfl | (refine st_ ?_; rfl))) ?_; refine st_ ?_
    refine h_two 1 8 rfl rfl (by kernel_rfl) ?_ ?_
    · refine rn_ ?_; intros
      refine h_hs (allIn (by repeat (first | exact trivial | refine ⟨rfl, ?_⟩))) (by first | exact Le.refl _ | assumption) ?_
      refine h_one 8 rfl (by kernel_rfl) ?_
      refine go_callr 50 (by rw [hnt]; rfl) (by rw [hP]; kernel_rfl) rfl rfl (by omega) (hP ▸ clone_ok f.nodes[k].l _ G1 ⟨h63', adl, capl, rfl, Rp.src_mono hle1 hsrc⟩ hl40) ?_
      rintro v G2 r e size n xs (hle2 : Le G1 G2) ⟨rfl, rfl, rfl, rfl, rfl⟩
      refine go_rowS 50 rfl ?_
      rintro adc capc rfl
      refine rn_ ?_; intros
      refine h_hs (allIn (by repeat (first | exact trivial | refine ⟨rfl, ?_⟩))) (by first | exact Le.refl _ | assumption) ?_
      refine h_take 9 rfl (by kernel_rfl) (by kernel_rfl) (by kernel_rfl) hQp (by rw [hnt]; rfl) (allIn (by repeat (first | exact trivial | refine ⟨rfl, ?_⟩))) (by first | exact Le.refl _ | assumption) (quiet_op (by rw [hty]; first | rfl | (refine st_ ?_; rfl))) ?_; refine st_ ?_
      refine h_one 10 rfl (by kernel_rfl) ?_
      refine rn_ ?_; intros
      refine h_hs (allIn (by repeat (first | exact trivial | refine ⟨rfl, ?_⟩))) (by first | exact Le.refl _ | assumption) ?_
      refine h_one 11 rfl (by kernel_rfl) ?_
      refine go_append 41 (by rw [hnt]; rfl) (by rw [hty]; rfl) (by rw [hty]; rfl) (by decide) rfl rfl rfl (by omega) rfl (src_own 3 rfl rfl) rfl (by simp [dens, SV.den, Value.oneCell']) (by omega) (by simp only []; omega) ?_
      intro v'
      refine go_rowS 41 rfl ?_
      rintro ad4 cap4 rfl
      refine rn_ ?_; intros
      refine h_hs (allIn (by repeat (first | exact trivial | refine ⟨rfl, ?_⟩))) (by first | exact Le.refl _ | assumption) ?_
      refine h_take 12 rfl (by kernel_rfl) (by kernel_rfl) (by kernel_rfl) hQp (by rw [hnt]; rfl) (allIn (by repeat (first | exact trivial | refine ⟨rfl, ?_⟩))) (by first | exact Le.refl _ | assumption) (quiet_op (by rw [hty]; first | rfl | (refine st_ ?_; rfl))) ?_; refine st_ ?_
      refine h_one 13 rfl (by kernel_rfl) ?_
      refine rn_ ?_; intros
      refine h_hs (allIn (by repeat (first | exact trivial | refine ⟨rfl, ?_⟩))) (by first | exact Le.refl _ | assumption) ?_
      refine h_end (by kernel_rfl) ?_
      refine rn_ ?_; intros
      rw [wr (n := (k : Int) + 1) (by omega) (by omega)]
      refine go_zadd 40 50 rfl rfl (by omega) (by omega) (by omega) ?_
      intro Z2
      refine go_keep [1, 2, 3, 10, 11, 12] [0, 1, 2, 40, 41] ?_
      refine st_ ?_
      refine ih (f.nodes.length - (k + 1)) _ (by omega) ⟨k + 1, G2, ss ++ [.slice adc f.nodes[k].l.length capc], ad4, cap4, Z2, by omega, rfl, hle1.trans hle2, by simp [hss], ?_⟩
      rw [htk, rowsL_snoc _ _ (by simp; omega), encN_snoc _ _ (by simp; omega)]
      simp [dens, SV.den]
    · refine go_callr 50 (by rw [hnt]; rfl) (by rw [hP]; kernel_rfl) rfl rfl (by omega) (hP ▸ clone_ok f.nodes[k].l _ G1 ⟨h63', adl, capl, rfl, Rp.src_mono hle1 hsrc⟩ hl40) ?_
      rintro v G2 r e size n xs (hle2 : Le G1 G2) ⟨rfl, rfl, rfl, rfl, rfl⟩
      refine go_rowS 50 rfl ?_
      rintro adc capc rfl
      refine rn_ ?_; intros
      refine h_hs (allIn (by repeat (first | exact trivial | refine ⟨rfl, ?_⟩))) (by first | exact Le.refl _ | assumption) ?_
      refine h_take 9 rfl (by kernel_rfl) (by kernel_rfl) (by kernel_rfl) hQp (by rw [hnt]; rfl) (allIn (by repeat (first | exact trivial | refine ⟨rfl, ?_⟩))) (by first | exact Le.refl _ | assumption) (quiet_op (by rw [hty]; first | rfl | (refine st_ ?_; rfl))) ?_; refine st_ ?_
      refine h_two 1 10 rfl rfl (by kernel_rfl) ?_ ?_
      · refine rn_ ?_; intros
        refine h_hs (allIn (by repeat (first | exact trivial | refine ⟨rfl, ?_⟩))) (by first | exact Le.refl _ | assumption) ?_
        refine h_one 10 rfl (by kernel_rfl) ?_
        refine rn_ ?_; intros
        refine h_hs (allIn (by repeat (first | exact trivial | refine ⟨rfl, ?_⟩))) (by first | exact Le.refl _ | assumption) ?_
        refine h_one 11 rfl (by kernel_rfl) ?_
        refine go_append 41 (by rw [hnt]; rfl) (by rw [hty]; rfl) (by rw [hty]; rfl) (by decide) rfl rfl rfl (by omega) rfl (src_own 3 rfl rfl) rfl (by simp [dens, SV.den, Value.oneCell']) (by omega) (by simp only []; omega) ?_
        intro v'
        refine go_rowS 41 rfl ?_
        rintro ad4 cap4 rfl
        refine rn_ ?_; intros
        refine h_hs (allIn (by repeat (first | exact trivial | refine ⟨rfl, ?_⟩))) (by first | exact Le.refl _ | assumption) ?_
        refine h_take 12 rfl (by kernel_rfl) (by kernel_rfl) (by kernel_rfl) hQp (by rw [hnt]; rfl) (allIn (by repeat (first | exact trivial | refine ⟨rfl, ?_⟩))) (by first | exact Le.refl _ | assumption) (quiet_op (by rw [hty]; first | rfl | (refine st_ ?_; rfl))) ?_; refine st_ ?_
        refine h_one 13 rfl (by kernel_rfl) ?_
        refine rn_ ?_; intros
        refine h_hs (allIn (by repeat (first | exact trivial | refine ⟨rfl, ?_⟩))) (by first | exact Le.refl _ | assumption) ?_
        refine h_end (by kernel_rfl) ?_
        refine rn_ ?_; intros
        rw [wr (n := (k : Int) + 1) (by omega) (by omega)]
        refine go_zadd 40 50 rfl rfl (by omega) (by omega) (by omega) ?_
        intro Z2
        refine go_keep [1, 2, 3, 10, 11, 12] [0, 1, 2, 40, 41] ?_
        refine st_ ?_
        refine ih (f.nodes.length - (k + 1)) _ (by omega) ⟨k + 1, G2, ss ++ [.slice adc f.nodes[k].l.length capc], ad4, cap4, Z2, by omega, rfl, hle1.trans hle2, by simp [hss], ?_⟩
        rw [htk, rowsL_snoc _ _ (by simp; omega), encN_snoc _ _ (by simp; omega)]
        simp [dens, SV.den]
      · refine rn_ ?_; intros
        refine h_hs (allIn (by repeat (first | exact trivial | refine ⟨rfl, ?_⟩))) (by first | exact Le.refl _ | assumption) ?_
        refine h_one 1 rfl (by kernel_rfl) ?_
        refine rn_ ?_; intros
        refine h_hs (allIn (by repeat (first | exact trivial | refine ⟨rfl, ?_⟩))) (by first | exact Le.refl _ | assumption) ?_
        refine h_one 11 rfl (by kernel_rfl) ?_
        refine go_append 41 (by rw [hnt]; rfl) (by rw [hty]; rfl) (by rw [hty]; rfl) (by decide) rfl rfl rfl (by omega) rfl (src_own 3 rfl rfl) rfl (by simp [dens, SV.den, Value.oneCell']) (by omega) (by simp only []; omega) ?_
        intro v'
        refine go_rowS 41 rfl ?_
        rintro ad4 cap4 rfl
        refine rn_ ?_; intros
        refine h_hs (allIn (by repeat (first | exact trivial | refine ⟨rfl, ?_⟩))) (by first | exact Le.refl _ | assumption) ?_
        refine h_take 12 rfl (by kernel_rfl) (by kernel_rfl) (by kernel_rfl) hQp (by rw [hnt]; rfl) (allIn (by repeat (first | exact trivial | refine ⟨rfl, ?_⟩))) (by first | exact Le.refl _ | assumption) (quiet_op (by rw [hty]; first | rfl | (refine st_ ?_; rfl))) ?_; refine st_ ?_
        refine h_one 13 rfl (by kernel_rfl) ?_
        refine rn_ ?_; intros
        refine h_hs (allIn (by repeat (first | exact trivial | refine ⟨rfl, ?_⟩))) (by first | exact Le.refl _ | assumption) ?_
        refine h_end (by kernel_rfl) ?_
        refine rn_ ?_; intros
        rw [wr (n := (k : Int) + 1) (by omega) (by omega)]
        refine go_zadd 40 50 rfl rfl (by omega) (by omega) (by omega) ?_
        intro Z2
        refine go_keep [1, 2, 3, 10, 11, 12] [0, 1, 2, 40, 41] ?_
        refine st_ ?_
        refine ih (f.nodes.length - (k + 1)) _ (by omega) ⟨k + 1, G2, ss ++ [.slice adc f.nodes[k].l.length capc], ad4, cap4, Z2, by omega, rfl, hle1.trans hle2, by simp [hss], ?_⟩
        rw [htk, rowsL_snoc _ _ (by simp; omega), encN_snoc _ _ (by simp; omega)]
        simp [dens, SV.den]
  · have hge : k = f.nodes.length := by simp at hjl; omega
    subst hge
    clear ih
    rw [List.take_length]
    refine go_zadd 40 41 rfl rfl (by omega) (by omega) (by omega) ?_
    intro Z2
    refine st_ ?_
    refine rn_ ?_; intros
    refine x_retV 40 rfl hQ hmb hmh rfl (by rw [hty]; simp only [so, sq, zy, zz, tyE, SO', SQ', opQ, opStore, opAlloc, ev, putS, dOk, cv, SV.cs, SV.one, SV.bool?, eqB, Value.oneCell', ldOwn, binInt, binConst, binBool, binStr, isC, TK.agg, rv, rv1, ldV, resOne, resV, Nat.reduceAdd, Nat.reduceMul, Nat.reduceSub, Nat.reduceLT, Nat.reduceLeDiff, Nat.reduceEqDiff, Nat.reduceBEq, reduceIte, reduceCtorEq, eq_self]; try rfl) rfl rfl ?_
    exact ⟨ad3, cap3, ss, hss, by simp [resV, SV.den, dens], rfl⟩
end Go.Proofs.Ytmdkenpodcnnbaa
namespace Go.Proofs.Ytmdkenpodcnnbaa
set_option linter.unusedSimpArgs false
set_option linter.unusedVariables false
open Go.Sx
theorem rN_cons {G : Hp} {op n : Int} {l : List Int} {sl : Value} {nodes : List Nd} {cs : List Value} (h1 : isI64 op) (h2 : isI64 n) (h3 : rI.S G l sl) (h : rN.L G nodes cs) : rN.L G (⟨op, n, l⟩ :: nodes) (.int .i64 op :: .int .i64 n :: sl :: cs) :=
  ⟨[_, _, _], cs, rfl, ⟨sl, rfl, h1, h2, h3⟩, h⟩
def okN (l : List Nd) : Prop := ∀ x ∈ l, isI64 x.op ∧ isI64 x.n ∧ ∀ v ∈ x.l, isI64 v
theorem rI_ok {G : Hp} {l : List Int} {v : Value} (h : rI.S G l v) : ∀ n ∈ l, isI64 n := by
  obtain ⟨_, ad, cap, _, h | ⟨b, off, cs, _, _, hL⟩⟩ := h
  · subst h; simp
  · exact (rI_L.1 hL).2
theorem rNL_ok {G : Hp} : ∀ {l : List Nd} {cs : List Value}, rN.L G l cs → okN l
  | [], _, _ => fun x hx => by simp at hx
  | y :: l, cs, h => by
    obtain ⟨c, d, _, ⟨sl, _, h1, h2, h3⟩, h4⟩ := h
    intro x hx
    rcases List.mem_cons.1 hx with rfl | hx
    · exact ⟨h1, h2, rI_ok h3⟩
    · exact rNL_ok h4 x hx
theorem rN_ok {G : Hp} {l : List Nd} {v : Value} (h : rN.S G l v) : okN l := by
  obtain ⟨_, ad, cap, _, h | ⟨b, off, cs, _, _, hL⟩⟩ := h
  · subst h; exact fun x hx => by simp at hx
  · exact rNL_ok hL
theorem rowsL_len : ∀ {l : List Nd} {ss : List Value}, ss.length = l.length → (rowsL l ss).length = l.length
  | [], [], _ => rfl
  | x :: l, s :: ss, h => by simp [rowsL, rowsL_len (l := l) (ss := ss) (by simpa using h)]
theorem rowsL_get : ∀ {l : List Nd} {ss : List Value} {i : Nat} (h : ss.length = l.length) (hi : i < l.length), (rowsL l ss)[i]? = some ⟨3, 1, ss[i]'(by omega), l[i].l.length, l[i].l.map (.int .i64 ·)⟩
  | x :: l, s :: ss, 0, _, _ => by simp [rowsL]
  | x :: l, s :: ss, i + 1, h, hi => by simp [rowsL, rowsL_get (l := l) (ss := ss) (i := i) (by simpa using h) (by simpa using hi)]
theorem rowsL_set : ∀ {l : List Nd} {ss : List Value} {i : Nat} {x : Nd} (h : ss.length = l.length) (hi : i < l.length), (rowsL l ss).set i ⟨3, 1, ss[i]'(by omega), x.l.length, x.l.map (.int .i64 ·)⟩ = rowsL (l.set i x) ss
  | y :: l, s :: ss, 0, x, _, _ => by simp [rowsL]
  | y :: l, s :: ss, i + 1, x, h, hi => by simp [rowsL, rowsL_set (l := l) (ss := ss) (i := i) (x := x) (by simpa using h) (by simpa using hi)]
theorem encN_len : ∀ {l : List Nd} {ss : List Value}, ss.length = l.length → (encN l ss).length = l.length * 3
  | [], [], _ => rfl
  | x :: l, s :: ss, h => by simp only [encN, List.length_cons, encN_len (l := l) (ss := ss) (by simpa using h)]; omega
theorem encN_drop : ∀ {l : List Nd} {ss : List Value} (i : Nat), ss.length = l.length → (encN l ss).drop (i * 3) = encN (l.drop i) (ss.drop i)
  | l, ss, 0, _ => by simp
  | [], [], i + 1, _ => by simp [encN]
  | x :: l, s :: ss, i + 1, h => by
    rw [show (i + 1) * 3 = i * 3 + 1 + 1 + 1 by omega]
    simp [encN, encN_drop (l := l) (ss := ss) i (by simpa using h)]
theorem encN_at {l : List Nd} {ss : List Value} {i : Nat} (h : ss.length = l.length) (hi : i < l.length) : (encN l ss).drop (i * 3) = .int .i64 l[i].op :: .int .i64 l[i].n :: ss[i]'(by omega) :: encN (l.drop (i + 1)) (ss.drop (i + 1)) := by
  rw [encN_drop i h, List.drop_eq_getElem_cons hi, List.drop_eq_getElem_cons (l := ss) (show i < ss.length by omega)]
  rfl
theorem ldN1 {l : List Nd} {ss : List Value} {i off : Nat} (h : ss.length = l.length) (hi : i < l.length) (ho : off = i * 3 + 1) : ldV false (((encN l ss).drop off).take 1) = .int .i64 l[i].n := by
  subst ho
  rw [← List.drop_drop, encN_at h hi]; rfl
theorem layN' (m : Int) (k : List Int) : ∀ {l : List Nd} {ss : List Value} {i : Nat} (_ : ss.length = l.length) (hi : i < l.length), lay (encN l ss) (i * 3 + 1) [.int .i64 m] = some (encN (l.set i ⟨l[i].op, m, k⟩) ss)
  | x :: l, s :: ss, 0, _, _ => by simp [encN, lay]
  | x :: l, s :: ss, i + 1, h, hi => by
    rw [show (i + 1) * 3 + 1 = i * 3 + 1 + 1 + 1 + 1 by omega]
    simp only [encN, lay, layN' m k (l := l) (ss := ss) (i := i) (by simpa using h) (by simpa using hi), Option.map_some, List.set_cons_succ, List.getElem_cons_succ]
theorem layN (m : Int) (k : List Int) {l : List Nd} {ss : List Value} {i off : Nat} (h : ss.length = l.length) (hi : i < l.length) (ho : off = i * 3 + 1) {vs : List Value} (hv : vs = [.int .i64 m]) : lay (encN l ss) off vs = some (encN (l.set i ⟨l[i].op, m, k⟩) ss) := by
  subst ho hv; exact layN' m k h hi
theorem encN_L {G : Hp} : ∀ {l : List Nd} {ss : List Value}, ss.length = l.length → okN l → (∀ (i : Nat) (r : Rw), (rowsL l ss)[i]? = some r → RowAt G r) → (∀ x ∈ l, x.l.length ≤ 1000) → rN.L G l (encN l ss)
  | [], [], _, _, _, _ => rfl
  | x :: l, s :: ss, h, ho, hr, hb => by
    have h0 := hr 0 _ (by simp [rowsL]; rfl)
    obtain ⟨o1, o2, o3⟩ := ho x (by simp)
    exact rN_cons o1 o2 (RowAt.S h0 rfl (by have := hb x (by simp); omega) (rI_L.2 ⟨rfl, o3⟩)) (encN_L (by simpa using h) (fun y hy => ho y (by simp [hy])) (fun i r e => hr (i + 1) r (by simpa [rowsL] using e)) (fun y hy => hb y (by simp [hy])))
theorem RF_S {G : Hp} {f : Fu} {ns : Value} {ss : List Value} (h : ss.length = f.nodes.length) (ho : okN f.nodes) (hb : ∀ x ∈ f.nodes, x.l.length ≤ 1000) (hn : f.nodes.length ≤ 1000) (hr : ∀ (i : Nat) (r : Rw), (RF f ns ss)[i]? = some r → RowAt G r) : rN.S G f.nodes ns := by
  have h1 := hr f.nodes.length ⟨51, 3, ns, f.nodes.length, encN f.nodes ss⟩ (by simp [RF, List.getElem?_append_right, rowsL_len h])
  refine RowAt.S h1 rfl (by omega) (encN_L h ho (fun i r e => hr i r ?_) hb)
  have := (List.getElem?_eq_some_iff.1 e).1
  rw [RF, List.getElem?_append_left this]
  exact e
end Go.Proofs.Ytmdkenpodcnnbaa
namespace Go.Sx
set_option linter.unusedSimpArgs false
set_option linter.unusedVariables false
open Go.RowKit

section
variable {C : Ctx} {K : List KI} {s : St}
theorem go_zjoin (k j : Nat) {b b2 : Nat} {rs rs2 : List Rw} {Z Z2 : Nat → Prop} (hk : lk k s.own = some (b, .z (ZR rs) Z Z)) (hj : lk j s.own = some (b2, .z (ZR rs2) Z2 Z2)) (hmk : C.mh ≤ k) (hmj : C.mh ≤ j) (hkj : k ≠ j)
    (h : ∀ Z', SGo C K ⟨s.sl, stk k (b, .z (ZR (rs ++ rs2)) Z' Z') (rmk j s.own), s.G, s.df⟩) : SGo C K s := by
  intro a w hS
  obtain ⟨z1, z2, z3, z4⟩ := (hS.mem.own _ _ _ hk).1
  obtain ⟨y1, y2, y3, y4⟩ := (hS.mem.own _ _ _ hj).1
  have hdis : ∀ g, Z g → Z2 g → False := fun g hg q => hkj (hS.mem.inj _ _ _ _ _ _ g hk hj hg q)
  have hget : ∀ {m r}, (rs ++ rs2)[m]? = some r → (rs[m]? = some r) ∨ (rs.length ≤ m ∧ rs2[m - rs.length]? = some r) := by
    intro m r e
    rcases Nat.lt_or_ge m rs.length with q | q
    · rw [List.getElem?_append_left q] at e; exact .inl e
    · rw [List.getElem?_append_right q] at e; exact .inr ⟨q, e⟩
  refine h (fun g => Z g ∨ Z2 g) a w ⟨hS.sl, hS.nt, hS.df, hS.mem.join hk hj hmk hmj hkj ⟨fun m r e => ?_, fun m m' r1 r2 g e e' q q' => ?_, fun g => ⟨fun hg => ?_, fun hg => ?_⟩, fun g hg => hg⟩ (fun g hg => hg) (fun g hg => hg)⟩
  · rcases hget e with e | ⟨_, e⟩
    · exact z1 m r e
    · exact y1 _ r e
  · rcases hget e with e | ⟨n1, e⟩ <;> rcases hget e' with e' | ⟨n2, e'⟩
    · exact z2 m m' r1 r2 g e e' q q'
    · exact (hdis g ((z3 g).2 ⟨m, r1, e, q⟩) ((y3 g).2 ⟨_, r2, e', q'⟩)).elim
    · exact (hdis g ((z3 g).2 ⟨m', r2, e', q'⟩) ((y3 g).2 ⟨_, r1, e, q⟩)).elim
    · have := y2 _ _ r1 r2 g e e' q q'; omega
  · rcases hg with hg | hg
    · obtain ⟨m, r, e, q⟩ := (z3 g).1 hg
      exact ⟨m, r, by rw [List.getElem?_append_left (List.getElem?_eq_some_iff.1 e).1]; exact e, q⟩
    · obtain ⟨m, r, e, q⟩ := (y3 g).1 hg
      exact ⟨rs.length + m, r, by rw [List.getElem?_append_right (by omega), Nat.add_sub_cancel_left]; exact e, q⟩
  · obtain ⟨m, r, e, q⟩ := hg
    rcases hget e with e | ⟨_, e⟩
    · exact .inl ((z3 g).2 ⟨m, r, e, q⟩)
    · exact .inr ((y3 g).2 ⟨_, r, e, q⟩)
end

theorem retv_grow {w w' : World} {G G' : Hp} {rs : List Rw} {Z X : Nat → Prop} (hw : Has w G) (hg : Grow [] w G w' G') (hz : (ZR rs).A Z Z w') (hZ : ∀ g, Z g → G' g = none ∧ w.heap.size ≤ g) :
    ∃ G2, Grow [] w G w' G2 ∧ Le G' G2 ∧ (∀ g, Z g → X g → G2 g = none) ∧ ∀ (i : Nat) (r : Rw), rs[i]? = some r → (∀ g, r.v.ownBlock = some g → ¬ X g) → RowAt G2 r := by
  classical
  obtain ⟨z1, z2, z3, z4⟩ := hz
  refine ⟨fun g => if Z g ∧ ¬ X g then w'.heap[g]? else G' g, ⟨hg.os, hg.tape, hg.output, hg.size, hg.blk, fun g o e => ?_, fun g hlt => ?_⟩, fun g o e => ?_, fun g hz hx => ?_, fun i r e hr => row_at (z1 i r e) fun g hg' => ?_⟩
  · split at e
    · exact e
    · exact hg.has g o e
  · have : ¬ Z g := fun q => by have := (hZ g q).2; omega
    simp only [this, false_and, if_false]
    exact hg.old g hlt
  · have : ¬ Z g := fun q => by rw [(hZ g q).1] at e; cases e
    simp only [this, false_and, if_false]
    exact e
  · simp only [hx, not_true_eq_false, and_false, if_false]
    exact (hZ g hz).1
  · have h1 : Z g := (z3 g).2 ⟨i, r, e, hg'⟩
    simp only [h1, hr g hg', not_false_eq_true, and_self, if_true]
theorem PureV.pure {P : Program} {f : FuncId} {args : List Value} {G : Hp} {φ : Value → Hp → List Rw → Prop} {ψ : Value → Hp → Prop} (h : PureV P f args G φ)
    (hψ : ∀ v G1 G2 rs, Le G G1 → Le G1 G2 → φ v G1 rs → (∀ (i : Nat) (r : Rw), rs[i]? = some r → RowAt G2 r) → ψ v G2) : Pure P f args G ψ := by
  intro w hw
  refine (h w hw).mono ?_
  rintro e w' ⟨v, G', rs, Z, rfl, hg, hz, hZ, hφ⟩
  obtain ⟨G2, g1, g2, _, g3⟩ := retv_grow (X := fun _ => False) hw hg hz hZ
  exact ⟨v, G2, rfl, g1, hψ v G' G2 rs (fun b o e => hg.keep hw e) g2 hφ fun i r e => g3 i r e (fun _ _ q => q)⟩
theorem PureV.toR {P : Program} {f : FuncId} {args : List Value} {G : Hp} {φ : Value → Hp → List Rw → Prop} {ψ : Value → Hp → Value → TypeId → Nat → Nat → List Value → Prop} (h : PureV P f args G φ)
    (hψ : ∀ v G1 rs, Le G G1 → φ v G1 rs → ∃ (i : Nat) (r : Rw), rs[i]? = some r ∧ ∀ G2, Le G1 G2 → (∀ (j : Nat) (r' : Rw), j ≠ i → rs[j]? = some r' → RowAt G2 r') → ψ v G2 r.v r.e r.size r.n r.xs) : PureR P f args G ψ := by
  intro w hw
  refine (h w hw).mono ?_
  rintro e w' ⟨v, G', rs, Z, rfl, hg, hz, hZ, hφ⟩
  obtain ⟨i, r, hi, hr⟩ := hψ v G' rs (fun b o e => hg.keep hw e) hφ
  obtain ⟨G2, g1, g2, g0, g3⟩ := retv_grow (X := fun g => r.v.ownBlock = some g) hw hg hz hZ
  obtain ⟨z1, z2, z3, z4⟩ := hz
  refine ⟨v, G2, r.v, r.e, r.size, r.n, r.xs, rfl, g1, z1 i r hi, fun g hb => ?_, hr G2 g2 fun j r' hj e => g3 j r' e fun g hb hb' => hj (z2 j i r' r g e hi hb hb')⟩
  have hzg : Z g := (z3 g).2 ⟨i, r, hi, hb⟩
  exact ⟨g0 g hzg hb, (hZ g hzg).2⟩

def QS (cur : Array Value) (off cap : Nat) (xs : List Value) : Prop := xs.length ≤ cap ∧ (0 < cap → off + cap = cur.size) ∧ ∀ i, i < xs.length → cur[off + i]? = xs[i]?
theorem QS.tail {cur : Array Value} {off cap : Nat} {x : Value} {xs : List Value} (h : QS cur off (cap + 1) (x :: xs)) : QS cur (if cap = 0 then off else off + 1) cap xs := by
  obtain ⟨h1, h2, h3⟩ := h
  refine ⟨by simp at h1; exact h1, fun hc => ?_, fun i hi => ?_⟩
  · rw [if_neg (by omega)]; have := h2 (by omega); omega
  · have hc : ¬ cap = 0 := by simp at h1; omega
    rw [if_neg hc, show off + 1 + i = off + (i + 1) by omega, h3 (i + 1) (by simp; omega)]
    simp
section
variable {C : Ctx} {K : List KI} {s : St} {sl : List (Nat × SV)} {own : Owns} {G : Hp} {R : Array Oper} {l : List Oper} {d : Option Tmp} {t : TypeId} {pos : String} {aft : Array Edge}
theorem quiet_loadO (k : Nat) {T : TypeId} {x : Operand} {ti : TI} {b off : Nat} {e : TypeId} {cur : Array Value} {v : Value} {y : SV}
    (hT : C.ty T = some ti) (hag : ti.k.agg = false) (hx : ev sl x = some y) (hy : y.den = .pointer (some ⟨b, off, none⟩)) (hk : lk k own = some (b, .o (.cells cur e))) (hv : cur[off]? = some v) :
    Quiet C sl own G (.load T x) v := by
  intro a w d t pos aft g hs hh
  have hxv := ev_ok hs hx
  rw [hy] at hxv
  have hb := hh.1 _ _ _ hk
  simp only [OO.holds] at hb
  have hc : w.cell? ⟨b, off, none⟩ = some v := by rw [cell_at hb]; exact hv
  simp only [execOp, hxv, Instr.loadAt, Instr.sureAddr, Sem.run_bind, Sem.run_pure, Result.andThen_ok, loadVar, run_isAgg w (C.tyok _ _ hT), hag]
  simp [run_load, hc]
theorem run_append_roomO {P : Program} {w : World} {T e : TypeId} {te : TI} (ty' : TypeId) (ht : P.underlying T = some (.slice e)) (he : te.ok P e) (hs : te.size = 1) {g off n cap : Nat} {cur : Array Value} (hg : w.heap[g]? = some (.cells cur e))
    {a : Addr} {c : Nat} {v : Value} (hv : w.cell? a = some v) (h1 : v.oneCell' = true) (hroom : n + 1 ≤ cap) (hfit : off + n < cur.size) :
    (Builtin.append_ #[T, T] ty' #[.slice (some ⟨g, off, none⟩) n cap, .slice (some a) 1 c]).run P w = .ok (.slice (some ⟨g, off, none⟩) (n + 1) cap) (setBlk w g (.cells (cur.setIfInBounds (off + n) v) e)) := by
  obtain ⟨i, z, hi, hsz, hb, hz, hc⟩ := he.info
  rw [hs] at hsz
  have hf := run_firstCells_some (P := P) w i.size 1 a 1 c [v] (by simp [hsz]) (fun j u hu => by
    cases j with
    | zero =>
      simp at hu; subst hu
      have : a.add 0 = a := by unfold Addr.add; simp
      rw [this]; exact hv
    | succ j => simp at hu)
  rw [hsz] at hf
  have hlay : lay cur.toList (off + n + 0) [v] = some (cur.setIfInBounds (off + n) v).toList := by
    have key : ∀ (l : List Value) (m : Nat) (u : Value), m < l.length → lay l m [u] = some (l.set m u) := by
      intro l
      induction l with
      | nil => intro m u hm; simp at hm
      | cons x l ih =>
        intro m u hm
        cases m with
        | zero => cases l <;> simp [lay]
        | succ m => simp [lay, ih m u (by simpa using hm)]
    rw [Nat.add_zero, key _ _ _ (by simpa using hfit)]
    simp
  have hst := run_storeCells (P := P) (b := g) (off := off + n) (e := e) [v] 0 w cur.toList _ (by simpa using hg) (by simp [h1]) hlay
  simp [Builtin.append_, run_underlying ht, sizeOf, typeInfo, hi, Builtin.lenOf, hroom, hf, hsz, add_none, hst]
  congr 2
  apply Array.ext'
  simp
theorem go_qappend (k : Nat) {x y : Operand} {T e : TypeId} {te : TI} {sz by' : Nat} {ze : List Value} {fl : List (Nat × Nat × Bool)} {g off n cap : Nat} {cur : Array Value} {xs : List Value} {v : Value} {z : SV}
    (hd : dOk C.nt d = true) (hT : C.ty T = some ⟨.slice e, sz, by', ze, fl⟩) (he : C.ty e = some te) (hsz : te.size = 1) (hx : ev s.sl x = some (.v (.slice (some ⟨g, off, none⟩) n cap))) (hk : lk k s.own = some (g, .o (.cells cur e)))
    (hy : ev s.sl y = some z) (hsrc : Src C s z 1 [v]) (h1 : v.oneCell' = true) (hq : QS cur off cap xs) (hn : xs.length = n) (h63 : n + 1 ≤ 9223372036854775807) (hbytes : (n + 1) * te.bytes ≤ 140737488355328)
    (h : ∀ g' off' cap' cur', QS cur' off' cap' (xs ++ [v]) → SGo C (.ops R l :: K) ⟨putS d (.v (.slice (some ⟨g', off', none⟩) (n + 1) cap')) s.sl, stk k (g', .o (.cells cur' e)) s.own, s.G, s.df⟩) :
    SGo C (.ops R (⟨d, .call ⟨.builtin .append, #[x, y], #[T, T]⟩, t, pos, aft, none⟩ :: l) :: K) s := by
  intro a w hS
  have hxv := ev_ok hS.sl hx
  have hyv := ev_ok hS.sl hy
  simp only [SV.den] at hxv
  obtain ⟨ad, c, hz, hnews⟩ := hsrc w hS.mem
  rw [hz] at hyv
  have g1 := (C.tyok _ _ hT).k
  simp only [TK.fits] at g1
  have hb := (hS.mem.own _ _ _ hk).1
  simp only [OO.holds] at hb
  have hlt := lt_of_heap hb
  have hv : w.cell? ad = some v := by
    have h0 := hnews 0 v rfl
    have : ad.add 0 = ad := by unfold Addr.add; simp
    rwa [this] at h0
  obtain ⟨q1, q2, q3⟩ := hq
  by_cases hroom : n + 1 ≤ cap
  · have hfit : off + n < cur.size := by have := q2 (by omega); omega
    have hr := run_append_roomO (P := C.P) t g1 (C.tyok _ _ he) hsz hb hv (c := c) h1 hroom hfit
    have hrun : (execOp a.eval ⟨d, .call ⟨.builtin .append, #[x, y], #[T, T]⟩, t, pos, aft, none⟩).run C.P w = .ok (.value (.slice (some ⟨g, off, none⟩) (n + 1) cap)) (setBlk w g (.cells (cur.setIfInBounds (off + n) v) e)) := by
      simp only [execOp, resolve, invoke, builtin, Sem.run_bind, Sem.run_pure, Result.andThen_ok, List.map_toArray, List.map_cons, List.map_nil, hxv, hyv, hr]
    refine K_value rfl hrun ?_
    have hm : Mem C (stk k (g, .o (.cells (cur.setIfInBounds (off + n) v) e)) s.own) s.G (setBlk w g (.cells (cur.setIfInBounds (off + n) v) e)) :=
      hS.mem.put hk rfl rfl rfl (by rw [setBlk_size]; exact Nat.le_refl _) (fun j _ hj => setBlk_ne (fun e => hj e) _) (setBlk_same hlt _) (fun g => ⟨.inl, .inl⟩)
    have := h g off cap (cur.setIfInBounds (off + n) v) ⟨by simp; omega, fun hc => by simp; exact q2 hc, fun i hi => ?_⟩ _ _ (hS.put hd (.v (.slice (some ⟨g, off, none⟩) (n + 1) cap)) hm)
    · simpa only [SV.den] using this
    · simp at hi
      by_cases hin : i = n
      · subst hin
        rw [Array.getElem?_setIfInBounds_self_of_lt hfit, List.getElem?_append_right (by omega)]
        simp [hn]
      · rw [Array.getElem?_setIfInBounds_ne (by omega), q3 i (by omega), List.getElem?_append_left (by omega)]
  · obtain ⟨i, z0, hi, hs, hb', hz0, hc⟩ := (C.tyok _ _ he).info
    have hr := run_append_grow (P := C.P) w T t e i z0 g1 hi hz0 ⟨g, off, none⟩ n cap xs (by rw [hs, hsz]; omega) (fun j u hu => by
        have hj := (List.getElem?_eq_some_iff.1 hu).1
        rw [add_none, cell_at hb, q3 j hj]; exact hu) ad 1 c [v] (by rw [hs, hsz]; rfl) hnews (by omega) (by omega) (growslice_fits (by omega) (by rw [hb']; exact hbytes))
    have hrun : (execOp a.eval ⟨d, .call ⟨.builtin .append, #[x, y], #[T, T]⟩, t, pos, aft, none⟩).run C.P w = .ok (.value (.slice (some ⟨w.heap.size, 0, none⟩) (n + 1) (grownCap w (n + 1) cap e))) (w.drew.alloc (.cells (xs.toArray ++ [v].toArray ++ Builtin.zeroCells z0.cells (grownCap w (n + 1) cap e - (n + 1))) e)) := by
      simp only [execOp, resolve, invoke, builtin, Sem.run_bind, Sem.run_pure, Result.andThen_ok, List.map_toArray, List.map_cons, List.map_nil, hxv, hyv, hr]
    refine K_value rfl hrun ?_
    have hge := grownCap_ge w (n + 1) cap e
    have hzs : z0.cells.size = 1 := by rw [hc]; simpa [hsz] using (C.tyok _ _ he).len
    have hm : Mem C (stk k (w.heap.size, .o (.cells (xs.toArray ++ [v].toArray ++ Builtin.zeroCells z0.cells (grownCap w (n + 1) cap e - (n + 1))) e)) s.own) s.G (w.drew.alloc (.cells (xs.toArray ++ [v].toArray ++ Builtin.zeroCells z0.cells (grownCap w (n + 1) cap e - (n + 1))) e)) :=
      hS.mem.drew.put hk rfl rfl rfl (by simp) (fun j hj _ => alloc_old _ _ hj) (alloc_new _ _) (fun g' => ⟨fun q => .inr (by simp only [OO.blks] at q; show w.heap.size ≤ g'; omega), fun q => .inr (by simp only [OO.mut] at q; show w.heap.size ≤ g'; omega)⟩)
    have := h w.heap.size 0 (grownCap w (n + 1) cap e) (xs.toArray ++ [v].toArray ++ Builtin.zeroCells z0.cells (grownCap w (n + 1) cap e - (n + 1))) ⟨by simp; omega, fun _ => by simp [size_zeroCells, hzs]; omega, fun i hi => ?_⟩ _ _ (hS.put hd (.v (.slice (some ⟨w.heap.size, 0, none⟩) (n + 1) (grownCap w (n + 1) cap e))) hm)
    · simpa only [SV.den] using this
    · rw [Nat.zero_add, Array.getElem?_append_left (by simpa using hi)]
      simp
end
end Go.Sx
namespace Go.Proofs.Ytmdkenpodcnnbaa
set_option linter.unusedSimpArgs false
set_option linter.unusedVariables false
open Go.Sx
abbrev Cs := List (Value × List Value)
def okC : Pr → Cs → Prop
  | [], [] => True
  | f :: p, v :: vs => v.2.length = f.nodes.length ∧ okC p vs
  | _, _ => False
def rowsP : Pr → Cs → List Rw
  | f :: p, v :: vs => RF f v.1 v.2 ++ rowsP p vs
  | _, _ => []
def encP : Pr → Cs → List Value
  | f :: p, v :: vs => .int .i64 f.params :: v.1 :: encP p vs
  | _, _ => []
theorem okC_len : ∀ {p : Pr} {vs : Cs}, okC p vs → p.length = vs.length
  | [], [], _ => rfl
  | f :: p, v :: vs, h => by simp [okC_len h.2]
theorem okC_snoc {f : Fu} {v : Value} {ss : List Value} : ∀ (p : Pr) (vs : Cs), okC p vs → ss.length = f.nodes.length → okC (p ++ [f]) (vs ++ [(v, ss)])
  | [], [], _, h => ⟨h, trivial⟩
  | g :: p, w :: vs, h, h' => ⟨h.1, okC_snoc p vs h.2 h'⟩
theorem rowsP_snoc {f : Fu} {v : Value × List Value} : ∀ (p : Pr) (vs : Cs), p.length = vs.length → rowsP (p ++ [f]) (vs ++ [v]) = rowsP p vs ++ RF f v.1 v.2
  | [], [], _ => by simp [rowsP]
  | g :: p, w :: vs, h => by simp [rowsP, rowsP_snoc p vs (by simpa using h)]
theorem encP_snoc {f : Fu} {v : Value × List Value} : ∀ (p : Pr) (vs : Cs), p.length = vs.length → encP (p ++ [f]) (vs ++ [v]) = encP p vs ++ [.int .i64 f.params, v.1]
  | [], [], _ => by simp [encP]
  | g :: p, w :: vs, h => by simp [encP, encP_snoc p vs (by simpa using h)]
theorem encP_len : ∀ {p : Pr} {vs : Cs}, p.length = vs.length → (encP p vs).length = p.length * 2
  | [], [], _ => rfl
  | f :: p, v :: vs, h => by simp only [encP, List.length_cons, encP_len (p := p) (vs := vs) (by simpa using h)]; omega
def okP (p : Pr) : Prop := ∀ f ∈ p, isI64 f.params ∧ okN f.nodes
theorem rFL_ok {G : Hp} : ∀ {l : Pr} {cs : List Value}, rF.L G l cs → okP l
  | [], _, _ => fun x hx => by simp at hx
  | y :: l, cs, h => by
    obtain ⟨c, d, _, ⟨ns, _, h1, h2⟩, h4⟩ := h
    intro x hx
    rcases List.mem_cons.1 hx with rfl | hx
    · exact ⟨h1, rN_ok h2⟩
    · exact rFL_ok h4 x hx
theorem rF_ok {G : Hp} {l : Pr} {v : Value} (h : rF.S G l v) : okP l := by
  obtain ⟨_, ad, cap, _, h | ⟨b, off, cs, _, _, hL⟩⟩ := h
  · subst h; exact fun x hx => by simp at hx
  · exact rFL_ok hL
def bdP (p : Pr) : Prop := p.length ≤ 1000 ∧ ∀ f ∈ p, f.nodes.length ≤ 300 ∧ ∀ x ∈ f.nodes, x.l.length ≤ 40
theorem rF_cons {G : Hp} {f : Fu} {ns : Value} {p : Pr} {cs : List Value} (h1 : isI64 f.params) (h2 : rN.S G f.nodes ns) (h : rF.L G p cs) : rF.L G (f :: p) (.int .i64 f.params :: ns :: cs) :=
  ⟨[.int .i64 f.params, ns], cs, rfl, ⟨ns, rfl, h1, h2⟩, h⟩
theorem encP_L {G : Hp} : ∀ {p : Pr} {vs : Cs}, okC p vs → okP p → (∀ f ∈ p, f.nodes.length ≤ 300 ∧ ∀ x ∈ f.nodes, x.l.length ≤ 40) → (∀ (i : Nat) (r : Rw), (rowsP p vs)[i]? = some r → RowAt G r) → rF.L G p (encP p vs)
  | [], [], _, _, _, _ => rfl
  | f :: p, v :: vs, h, ho, hb, hr => by
    obtain ⟨o1, o2⟩ := ho f (by simp)
    obtain ⟨b1, b2⟩ := hb f (by simp)
    refine rF_cons o1 (RF_S h.1 o2 (fun x hx => by have := b2 x hx; omega) (by omega) fun i r e => hr i r ?_) (encP_L h.2 (fun g hg => ho g (by simp [hg])) (fun g hg => hb g (by simp [hg])) fun i r e => hr ((RF f v.1 v.2).length + i) r ?_)
    · simp only [rowsP]
      rw [List.getElem?_append_left (List.getElem?_eq_some_iff.1 e).1]; exact e
    · simp only [rowsP]
      rw [List.getElem?_append_right (by omega), Nat.add_sub_cancel_left]; exact e
set_option maxHeartbeats 4000000
theorem copyp_ok (p : Pr) (ps : Value) (G : Hp) (hps : rF.S G p ps) (hb : bdP p) :
    PureV Try.prog 16 [.agg #[ps]] G (fun v _ rs => ∃ ad cap vs, okC p vs ∧ v = .agg #[.slice ad p.length cap] ∧ rs = rowsP p vs ++ [⟨46, 2, .slice ad p.length cap, p.length, encP p vs⟩]) := by
  have hps0 := hps
  have hb1 := hb.1
  obtain ⟨adp, capp, rfl⟩ := Rp.S_slice hps
  refine enterV ty tyok Try.func16 rfl Try.ntmps16 [.a [.v (.slice adp p.length capp)]] (by simp) ?_
  intro C hP hQ hnt hty hmb hmh hro; have hQp := qp_body hQ; refine st_ ?_
  refine rn_ ?_; intros
  rename_i b1 b2 b3
  refine go_nilrow 41 46 2 rfl (by omega) ?_
  refine go_znil 40 rfl (by omega) ?_
  intro Z0
  refine go_keep [1, 2, 3, 7, 8, 9] [0, 1, 2, 40, 41] ?_
  refine st_ ?_
  refine x_loop rfl (fun q s => ∃ (k : Nat) (G' : Hp) (vs : Cs) (ad3 : Option Addr) (cap3 : Nat) (Z : Nat → Prop), k ≤ p.length ∧ q = p.length - k ∧ Le G G' ∧ okC (p.take k) vs ∧
    s = ⟨[(1, .p 0 b1 0), (2, .p 1 b2 0), (3, .p 2 b3 0), (7, .v (.slice adp p.length capp)), (8, .v (.int .i64 p.length)), (9, .v (.int .i64 k))],
      [(0, b1, .c 24 [.v (.slice adp p.length capp)]), (1, b2, .c 24 [.v (.slice none 0 0)]), (2, b3, .c 24 [.v (.slice ad3 k cap3)]),
       (40, 0, .z (ZR (rowsP (p.take k) vs)) Z Z), (41, 0, .row (.slice ad3 k cap3) 46 2 k (encP (p.take k) vs))], G', []⟩) ⟨0, G, [], none, 0, Z0, by omega, rfl, Le.refl _, trivial, by simp [rowsP, encP]⟩ ?_
  rintro q s ⟨k, G1, vs, ad3, cap3, Z, hk, hq, hle1, hvs, rfl⟩ ih
  refine rn_ ?_; intros
  refine x_if rfl rfl rfl rfl (fun hjl => ?_) (fun hjl => ?_)
  · have hlt : k < p.length := by simp at hjl; omega
    have htk : p.take (k + 1) = p.take k ++ [fu p k] := by rw [fu_eq hlt, List.take_append_getElem]
    obtain ⟨hl300, hl40⟩ := hb.2 (fu p k) (by rw [fu_eq hlt]; exact List.getElem_mem _)
    obtain ⟨bp, op, nsp, rfl, hatp, hpp, hnp⟩ := rF_at hps0 hlt
    have hnp1 := Rp.S_mono hle1 hnp
    obtain ⟨adn, capn, rfl⟩ := Rp.S_slice hnp
    refine rn_ ?_; intros
    refine go_q (by rw [hnt]; rfl) (quiet_index (by rw [hty]; rfl) (by rw [hty]; rfl) rfl rfl rfl (by omega) (by omega)) ?_
    refine rn_ ?_; intros
    refine go_q (by rw [hnt]; rfl) (quiet_load (by rw [hty]; rfl) rfl (by simp [TK.agg]) (hatp.mono hle1) rfl) ?_
    refine rn_ ?_; intros
    rename_i b5
    refine x_held [(42, b5, .c 46 [.v (.int .i64 (fu p k).params), .v (.slice adn (fu p k).nodes.length capn)])] rfl (by rw [hP]; kernel_rfl) rfl rfl rfl ?_; refine st_ ?_
    refine h_take 0 rfl (by kernel_rfl) (by kernel_rfl) (by kernel_rfl) hQp (by rw [hnt]; rfl) (allIn (by repeat (first | exact trivial | refine ⟨rfl, ?_⟩))) (by first | exact Le.refl _ | assumption) (quiet_op (by rw [hty]; first | rfl | (refine st_ ?_; rfl))) ?_; refine st_ ?_
    refine h_take 2 rfl (by kernel_rfl) (by kernel_rfl) (by kernel_rfl) hQp (by rw [hnt]; rfl) (allIn (by repeat (first | exact trivial | refine ⟨rfl, ?_⟩))) (by first | exact Le.refl _ | assumption) (quiet_op (by rw [hty]; first | rfl | (refine st_ ?_; rfl))) ?_; refine st_ ?_
    refine h_two 1 3 rfl rfl (by kernel_rfl) ?_ ?_
    · refine rn_ ?_; intros
      refine h_hs (allIn (by repeat (first | exact trivial | refine ⟨rfl, ?_⟩))) (by first | exact Le.refl _ | assumption) ?_
      refine h_one 3 rfl (by kernel_rfl) ?_
      refine go_callV 50 (by rw [hnt]; rfl) (by rw [hP]; kernel_rfl) rfl rfl (by omega) (hP ▸ copy_ok (fu p k) _ G1 hnp1 hl300 hl40) ?_
      rintro v G2 rs Z5 (hle2 : Le G1 G2) ⟨adc, capc, ssc, hssc, rfl, rfl⟩
      refine rn_ ?_; intros
      refine h_hs (allIn (by repeat (first | exact trivial | refine ⟨rfl, ?_⟩))) (by first | exact Le.refl _ | assumption) ?_
      refine h_one 4 rfl (by kernel_rfl) ?_
      refine rn_ ?_; intros
      refine h_hs (allIn (by repeat (first | exact trivial | refine ⟨rfl, ?_⟩))) (by first | exact Le.refl _ | assumption) ?_
      refine h_one 5 rfl (by kernel_rfl) ?_
      refine go_append 41 (by rw [hnt]; rfl) (by rw [hty]; rfl) (by rw [hty]; rfl) (by decide) rfl rfl rfl (by omega) rfl (src_own 2 rfl rfl) rfl (by simp [dens, SV.den, Value.oneCell']) (by omega) (by simp only []; omega) ?_
      intro v'
      refine go_rowS 41 rfl ?_
      rintro ad4 cap4 rfl
      refine rn_ ?_; intros
      refine h_hs (allIn (by repeat (first | exact trivial | refine ⟨rfl, ?_⟩))) (by first | exact Le.refl _ | assumption) ?_
      refine h_take 6 rfl (by kernel_rfl) (by kernel_rfl) (by kernel_rfl) hQp (by rw [hnt]; rfl) (allIn (by repeat (first | exact trivial | refine ⟨rfl, ?_⟩))) (by first | exact Le.refl _ | assumption) (quiet_op (by rw [hty]; first | rfl | (refine st_ ?_; rfl))) ?_; refine st_ ?_
      refine h_one 7 rfl (by kernel_rfl) ?_
      refine rn_ ?_; intros
      refine h_hs (allIn (by repeat (first | exact trivial | refine ⟨rfl, ?_⟩))) (by first | exact Le.refl _ | assumption) ?_
      refine h_end (by kernel_rfl) ?_
      refine rn_ ?_; intros
      rw [wr (n := (k : Int) + 1) (by omega) (by omega)]
      refine go_zjoin 40 50 rfl rfl (by omega) (by omega) (by omega) ?_
      intro Z2
      refine go_keep [1, 2, 3, 7, 8, 9] [0, 1, 2, 40, 41] ?_
      refine st_ ?_
      refine ih (p.length - (k + 1)) _ (by omega) ⟨k + 1, G2, vs ++ [(.slice adc (fu p k).nodes.length capc, ssc)], ad4, cap4, Z2, by omega, rfl, hle1.trans hle2, ?_, ?_⟩
      · rw [htk]; exact okC_snoc _ _ hvs hssc
      · rw [htk, rowsP_snoc _ _ (okC_len hvs), encP_snoc _ _ (okC_len hvs)]
        simp [dens, SV.den]
    · refine go_callV 50 (by rw [hnt]; rfl) (by rw [hP]; kernel_rfl) rfl rfl (by omega) (hP ▸ copy_ok (fu p k) _ G1 hnp1 hl300 hl40) ?_
      rintro v G2 rs Z5 (hle2 : Le G1 G2) ⟨adc, capc, ssc, hssc, rfl, rfl⟩
      refine rn_ ?_; intros
      refine h_hs (allIn (by repeat (first | exact trivial | refine ⟨rfl, ?_⟩))) (by first | exact Le.refl _ | assumption) ?_
      refine h_two 1 4 rfl rfl (by kernel_rfl) ?_ ?_
      · refine rn_ ?_; intros
        refine h_hs (allIn (by repeat (first | exact trivial | refine ⟨rfl, ?_⟩))) (by first | exact Le.refl _ | assumption) ?_
        refine h_one 4 rfl (by kernel_rfl) ?_
        refine rn_ ?_; intros
        refine h_hs (allIn (by repeat (first | exact trivial | refine ⟨rfl, ?_⟩))) (by first | exact Le.refl _ | assumption) ?_
        refine h_one 5 rfl (by kernel_rfl) ?_
        refine go_append 41 (by rw [hnt]; rfl) (by rw [hty]; rfl) (by rw [hty]; rfl) (by decide) rfl rfl rfl (by omega) rfl (src_own 2 rfl rfl) rfl (by simp [dens, SV.den, Value.oneCell']) (by omega) (by simp only []; omega) ?_
        intro v'
        refine go_rowS 41 rfl ?_
        rintro ad4 cap4 rfl
        refine rn_ ?_; intros
        refine h_hs (allIn (by repeat (first | exact trivial | refine ⟨rfl, ?_⟩))) (by first | exact Le.refl _ | assumption) ?_
        refine h_take 6 rfl (by kernel_rfl) (by kernel_rfl) (by kernel_rfl) hQp (by rw [hnt]; rfl) (allIn (by repeat (first | exact trivial | refine ⟨rfl, ?_⟩))) (by first | exact Le.refl _ | assumption) (quiet_op (by rw [hty]; first | rfl | (refine st_ ?_; rfl))) ?_; refine st_ ?_
        refine h_one 7 rfl (by kernel_rfl) ?_
        refine rn_ ?_; intros
        refine h_hs (allIn (by repeat (first | exact trivial | refine ⟨rfl, ?_⟩))) (by first | exact Le.refl _ | assumption) ?_
        refine h_end (by kernel_rfl) ?_
        refine rn_ ?_; intros
        rw [wr (n := (k : Int) + 1) (by omega) (by omega)]
        refine go_zjoin 40 50 rfl rfl (by omega) (by omega) (by omega) ?_
        intro Z2
        refine go_keep [1, 2, 3, 7, 8, 9] [0, 1, 2, 40, 41] ?_
        refine st_ ?_
        refine ih (p.length - (k + 1)) _ (by omega) ⟨k + 1, G2, vs ++ [(.slice adc (fu p k).nodes.length capc, ssc)], ad4, cap4, Z2, by omega, rfl, hle1.trans hle2, ?_, ?_⟩
        · rw [htk]; exact okC_snoc _ _ hvs hssc
        · rw [htk, rowsP_snoc _ _ (okC_len hvs), encP_snoc _ _ (okC_len hvs)]
          simp [dens, SV.den]
      · refine rn_ ?_; intros
        refine h_hs (allIn (by repeat (first | exact trivial | refine ⟨rfl, ?_⟩))) (by first | exact Le.refl _ | assumption) ?_
        refine h_one 1 rfl (by kernel_rfl) ?_
        refine rn_ ?_; intros
        refine h_hs (allIn (by repeat (first | exact trivial | refine ⟨rfl, ?_⟩))) (by first | exact Le.refl _ | assumption) ?_
        refine h_one 5 rfl (by kernel_rfl) ?_
        refine go_append 41 (by rw [hnt]; rfl) (by rw [hty]; rfl) (by rw [hty]; rfl) (by decide) rfl rfl rfl (by omega) rfl (src_own 2 rfl rfl) rfl (by simp [dens, SV.den, Value.oneCell']) (by omega) (by simp only []; omega) ?_
        intro v'
        refine go_rowS 41 rfl ?_
        rintro ad4 cap4 rfl
        refine rn_ ?_; intros
        refine h_hs (allIn (by repeat (first | exact trivial | refine ⟨rfl, ?_⟩))) (by first | exact Le.refl _ | assumption) ?_
        refine h_take 6 rfl (by kernel_rfl) (by kernel_rfl) (by kernel_rfl) hQp (by rw [hnt]; rfl) (allIn (by repeat (first | exact trivial | refine ⟨rfl, ?_⟩))) (by first | exact Le.refl _ | assumption) (quiet_op (by rw [hty]; first | rfl | (refine st_ ?_; rfl))) ?_; refine st_ ?_
        refine h_one 7 rfl (by kernel_rfl) ?_
        refine rn_ ?_; intros
        refine h_hs (allIn (by repeat (first | exact trivial | refine ⟨rfl, ?_⟩))) (by first | exact Le.refl _ | assumption) ?_
        refine h_end (by kernel_rfl) ?_
        refine rn_ ?_; intros
        rw [wr (n := (k : Int) + 1) (by omega) (by omega)]
        refine go_zjoin 40 50 rfl rfl (by omega) (by omega) (by omega) ?_
        intro Z2
        refine go_keep [1, 2, 3, 7, 8, 9] [0, 1, 2, 40, 41] ?_
        refine st_ ?_
        refine ih (p.length - (k + 1)) _ (by omega) ⟨k + 1, G2, vs ++ [(.slice adc (fu p k).nodes.length capc, ssc)], ad4, cap4, Z2, by omega, rfl, hle1.trans hle2, ?_, ?_⟩
        · rw [htk]; exact okC_snoc _ _ hvs hssc
        · rw [htk, rowsP_snoc _ _ (okC_len hvs), encP_snoc _ _ (okC_len hvs)]
          simp [dens, SV.den]
  · have hge : k = p.length := by simp at hjl; omega
    subst hge
    clear ih
    rw [List.take_length]
    refine go_zadd 40 41 rfl rfl (by omega) (by omega) (by omega) ?_
    intro Z2
    refine st_ ?_
    refine rn_ ?_; intros
    refine x_retV 40 rfl hQ hmb hmh rfl (by rw [hty]; simp only [so, sq, zy, zz, tyE, SO', SQ', opQ, opStore, opAlloc, ev, putS, dOk, cv, SV.cs, SV.one, SV.bool?, eqB, Value.oneCell', ldOwn, binInt, binConst, binBool, binStr, isC, TK.agg, rv, rv1, ldV, resOne, resV, Nat.reduceAdd, Nat.reduceMul, Nat.reduceSub, Nat.reduceLT, Nat.reduceLeDiff, Nat.reduceEqDiff, Nat.reduceBEq, reduceIte, reduceCtorEq, eq_self]; try rfl) rfl rfl ?_
    exact ⟨ad3, cap3, vs, by simpa using hvs, by simp [resV, SV.den, dens], rfl⟩
end Go.Proofs.Ytmdkenpodcnnbaa
namespace Go.Proofs.Ytmdkenpodcnnbaa
set_option linter.unusedSimpArgs false
set_option linter.unusedVariables false
open Go.Sx
theorem whr_or (f : Fu) : (whr f).2 = 0 ∨ (whr f).2 = 60 := by
  simp only [whr]
  cases places f <;> simp
def shNd (d : Int) (x : Nd) : Nd := if nms x.op then ⟨x.op, x.n + d, x.l⟩ else x
def shF (d : Int) (f : Fu) : Fu := ⟨f.params, f.nodes.map (shNd d)⟩
def shOk (d : Int) (f : Fu) : Bool := (calP f).all fun x => decide (x.2 + d < 64)
def shR (l : Pr) (d : Int) : Pr × Int :=
  if d < 0 ∨ 64 < d then ([], 2) else if l.all (fun f => (whr f).2 == 0) = false then ([], 60) else if l.all (shOk d) then (l.map (shF d), 0) else ([], 3)
def appL (d : Int) (ns : List Nd) (L : Pl) : List Nd := L.foldl (fun ns x => ns.set x.1.toNat ⟨(ns.getD x.1.toNat ndD).op, x.2 + d, (ns.getD x.1.toNat ndD).l⟩) ns
theorem appL_len (d : Int) : ∀ (L : Pl) (ns : List Nd), (appL d ns L).length = ns.length
  | [], _ => rfl
  | x :: L, ns => by simp only [appL, List.foldl_cons]; exact (appL_len d L _).trans (by simp)
theorem appL_snoc (d : Int) (L : Pl) (ns : List Nd) (x : Int × Int) : appL d ns (L ++ [x]) = (appL d ns L).set x.1.toNat ⟨((appL d ns L).getD x.1.toNat ndD).op, x.2 + d, ((appL d ns L).getD x.1.toNat ndD).l⟩ := by
  simp [appL]
theorem appL_cals (d : Int) : ∀ (l : List Nd) (pre : List Nd), appL d (pre ++ l) (cals l pre.length) = pre ++ l.map (shNd d)
  | [], pre => by simp [cals, appL]
  | x :: l, pre => by
    simp only [cals]
    by_cases h : nms x.op = true
    · rw [if_pos h]
      simp only [appL, List.foldl_cons, Int.toNat_natCast]
      have h1 : (pre ++ x :: l).getD pre.length ndD = x := by simp
      have h2 : (pre ++ x :: l).set pre.length ⟨x.op, x.n + d, x.l⟩ = (pre ++ [shNd d x]) ++ l := by simp [shNd, h]
      rw [h1, h2]
      have := appL_cals d l (pre ++ [shNd d x])
      simp only [List.length_append, List.length_cons, List.length_nil, Nat.zero_add] at this
      exact this.trans (by simp)
    · rw [if_neg h]
      have := appL_cals d l (pre ++ [x])
      simp only [List.length_append, List.length_cons, List.length_nil, Nat.zero_add] at this
      have e : shNd d x = x := by simp [shNd, h]
      simpa [e] using this
theorem calP_eq {f : Fu} (h : (whr f).2 = 0) : calP f = cals f.nodes 0 := by
  simp only [whr] at h
  simp only [calP]
  cases hp : places f with
  | inl a => rw [hp] at h; simp at h
  | inr A => rfl
theorem appL_all {d : Int} {f : Fu} (h : (whr f).2 = 0) : appL d f.nodes (calP f) = f.nodes.map (shNd d) := by
  rw [calP_eq h]; exact appL_cals d f.nodes []
theorem valid_bd {f : Fu} (h : (whr f).2 = 0) : f.nodes.length ≤ 200 ∧ 0 ≤ f.params ∧ f.params ≤ 9 ∧ ∀ x ∈ f.nodes, x.l.length ≤ 16 := by
  simp only [whr] at h
  cases hp : places f with
  | inl a => rw [hp] at h; simp at h
  | inr A =>
    have ht := tree hp
    refine ⟨ht.n200, ht.par9.1, ht.par9.2, fun x hx => ?_⟩
    obtain ⟨j, hj, rfl⟩ := List.getElem_of_mem hx
    have h1 := (ht.ok j hj).2.1
    rw [nd_eq hj] at h1
    simp only [ben, chl, Bool.and_eq_true, decide_eq_true_eq] at h1
    have h2 := h1.2
    repeat' split at h2
    all_goals first | omega | (simp at h2; omega) | (simp at h2; simp [h2])
theorem rowsL_map {g : Nd → Nd} (hg : ∀ x, (g x).l = x.l) : ∀ (l : List Nd) (ss : List Value), rowsL (l.map g) ss = rowsL l ss
  | [], _ => rfl
  | x :: l, [] => rfl
  | x :: l, s :: ss => by simp [rowsL, hg, rowsL_map hg l ss]
theorem shNd_l (d : Int) (x : Nd) : (shNd d x).l = x.l := by simp only [shNd]; split <;> rfl
theorem shNd_ok {d : Int} {f : Fu} (hv : (whr f).2 = 0) (h0 : 0 ≤ d) (h64 : d ≤ 64) (ho : okN f.nodes) : okN (f.nodes.map (shNd d)) := by
  intro y hy
  obtain ⟨x, hx, rfl⟩ := List.mem_map.1 hy
  obtain ⟨o1, o2, o3⟩ := ho x hx
  simp only [shNd]
  split
  · rename_i hn
    obtain ⟨j, hj, rfl⟩ := List.getElem_of_mem hx
    have := nms_range hv hj hn
    exact ⟨o1, by simp only [isI64]; omega, o3⟩
  · exact ⟨o1, o2, o3⟩

theorem RF_set {d : Int} {f : Fu} {ns : Value} {ss : List Value} (h : ss.length = f.nodes.length) : ((RF f ns ss).set f.nodes.length (Rw.nil 51 3)).set f.nodes.length ⟨51, 3, ns, f.nodes.length, encN (f.nodes.map (shNd d)) ss⟩ = RF (shF d f) ns ss := by
  rw [List.set_set]
  simp only [RF, shF, rowsL_map (shNd_l d), List.length_map]
  rw [List.set_append_right _ _ (by rw [rowsL_len h]; exact Nat.le_refl _), rowsL_len h, Nat.sub_self]
  rfl
set_option maxHeartbeats 8000000
theorem shift_ok (l : Pr) (ls : Value) (d : Int) (G : Hp) (hl : rF.S G l ls) (hd : isI64 d) (hlen : l.length ≤ 1000) :
    Pure Try.prog 20 [ls, .int .i64 d] G (fun v G' => ∃ sl, v = .tuple #[sl, .int .i64 (shR l d).2] ∧ rF.S G' (shR l d).1 sl) := by
  have hl0 := hl
  have hlok := rF_ok hl
  obtain ⟨adp, capp, rfl⟩ := Rp.S_slice hl
  refine enterM ty tyok Try.func20 rfl Try.ntmps20 [.v (.slice adp l.length capp), .v (.int .i64 d)] (by simp) ?_
  intro C hP hQ hnt hty hmb hmh hro; have hQp := qp_bodyM hQ; refine st_ ?_
  refine rn_ ?_; intros
  rename_i b1 b2 b3
  refine go_marks 20 rfl (by omega) ?_
  refine st_ ?_
  refine go_gsplit rfl rfl (fun h1 => ?_) (fun h1 => ?_) <;> (refine st_ ?_; (refine rn_ ?_; intros))
  · refine x_retM 20 rfl hQ hmb rfl rfl rfl (by rw [hty]; simp only [so, sq, zy, zz, tyE, SO', SQ', opQ, opStore, opAlloc, ev, putS, dOk, cv, SV.cs, SV.one, SV.bool?, eqB, Value.oneCell', ldOwn, binInt, binConst, binBool, binStr, isC, TK.agg, rv, rv1, ldV, resOne, resV, Nat.reduceAdd, Nat.reduceMul, Nat.reduceSub, Nat.reduceLT, Nat.reduceLeDiff, Nat.reduceEqDiff, Nat.reduceBEq, reduceIte, reduceCtorEq, eq_self]; try rfl) ?_; simp only [SV.den, resV, dens]
    rw [shR, if_pos (.inl (of_decide_eq_true h1))]
    exact ⟨_, rfl, Rp.S_nil _ _⟩
  refine x_split rfl rfl rfl (fun h2 => ?_) (fun h2 => ?_) <;> (refine st_ ?_; (refine ru_ ?_; intros))
  · refine x_retM 20 rfl hQ hmb rfl rfl rfl (by rw [hty]; simp only [so, sq, zy, zz, tyE, SO', SQ', opQ, opStore, opAlloc, ev, putS, dOk, cv, SV.cs, SV.one, SV.bool?, eqB, Value.oneCell', ldOwn, binInt, binConst, binBool, binStr, isC, TK.agg, rv, rv1, ldV, resOne, resV, Nat.reduceAdd, Nat.reduceMul, Nat.reduceSub, Nat.reduceLT, Nat.reduceLeDiff, Nat.reduceEqDiff, Nat.reduceBEq, reduceIte, reduceCtorEq, eq_self]; try rfl) ?_; simp only [SV.den, resV, dens]
    rw [shR, if_pos (.inr (of_decide_eq_true h2))]
    exact ⟨_, rfl, Rp.S_nil _ _⟩
  have hd0 : ¬ (d < 0 ∨ 64 < d) := by have := of_decide_eq_false h1; have := of_decide_eq_false h2; omega
  refine go_keep [0, 3, 4, 5, 21, 22, 23] [0, 1, 2, 20] ?_
  refine st_ ?_
  refine x_loop rfl (fun q s => ∃ i : Nat, i ≤ l.length ∧ q = l.length - i ∧ (∀ f ∈ l.take i, (whr f).2 = 0) ∧
    s = ⟨[(0, .v (.slice adp l.length capp)), (3, .p 0 b1 0), (4, .p 1 b2 0), (5, .p 2 b3 0), (21, .v (.slice adp l.length capp)), (22, .v (.int .i64 l.length)), (23, .v (.int .i64 i))],
      [(0, b1, .c 3 [.v (.int .i64 d)]), (1, b2, .c 22 [.v (.slice none 0 0)]), (2, b3, .c 27 [.v (.int .i64 0)]), (20, 0, dzO [])], G, []⟩) ⟨0, by omega, rfl, by simp, rfl⟩ ?_
  rintro q s ⟨i, hi, hq, hall, rfl⟩ ih
  refine rn_ ?_; intros
  refine x_if rfl rfl rfl rfl (fun hil => ?_) (fun hil => ?_)
  · have hlt : i < l.length := by simp at hil; omega
    have htk : l.take (i + 1) = l.take i ++ [fu l i] := by rw [fu_eq hlt, List.take_append_getElem]
    obtain ⟨bp, op, nsp, rfl, hatp, hpp, hnp⟩ := rF_at hl0 hlt
    have hc := check_ok (fu l i) nsp G hpp hnp
    obtain ⟨adn, capn, rfl⟩ := Rp.S_slice hnp
    refine rn_ ?_; intros
    refine go_q (by rw [hnt]; rfl) (quiet_index (by rw [hty]; rfl) (by rw [hty]; rfl) rfl rfl rfl (by omega) (by omega)) ?_
    refine rn_ ?_; intros
    refine go_q (by rw [hnt]; rfl) (quiet_load (by rw [hty]; rfl) rfl (by simp [TK.agg]) hatp rfl) ?_
    refine rn_ ?_; intros
    refine go_callf (by rw [hnt]; rfl) (by rw [hP]; kernel_rfl) rfl (hP ▸ hc) ?_; refine rn_ ?_; intros
    refine x_split rfl rfl rfl (fun hw => ?_) (fun hw => ?_) <;> (refine st_ ?_; (refine ru_ ?_; intros))
    · refine x_retM 20 rfl hQ hmb rfl rfl rfl (by rw [hty]; simp only [so, sq, zy, zz, tyE, SO', SQ', opQ, opStore, opAlloc, ev, putS, dOk, cv, SV.cs, SV.one, SV.bool?, eqB, Value.oneCell', ldOwn, binInt, binConst, binBool, binStr, isC, TK.agg, rv, rv1, ldV, resOne, resV, Nat.reduceAdd, Nat.reduceMul, Nat.reduceSub, Nat.reduceLT, Nat.reduceLeDiff, Nat.reduceEqDiff, Nat.reduceBEq, reduceIte, reduceCtorEq, eq_self]; try rfl) ?_; simp only [SV.den, resV, dens]
      have hw' : (whr (fu l i)).2 ≠ 0 := by simpa using hw
      have h60 := (whr_or (fu l i)).resolve_left hw'
      have : l.all (fun f => (whr f).2 == 0) = false := by
        rw [← Bool.not_eq_true, List.all_eq_true]
        intro h
        exact hw' (by simpa using h (fu l i) (by rw [fu_eq hlt]; exact List.getElem_mem _))
      rw [shR, if_neg hd0, if_pos this, h60]
      exact ⟨_, rfl, Rp.S_nil _ _⟩
    · rw [wr (n := (i : Int) + 1) (by omega) (by omega)]
      refine go_keep [0, 3, 4, 5, 21, 22, 23] [0, 1, 2, 20] ?_
      refine st_ ?_
      refine ih (l.length - (i + 1)) _ (by omega) ⟨i + 1, by omega, rfl, fun f hf => ?_, by simp⟩
      rw [htk] at hf
      rcases List.mem_append.1 hf with hf | hf
      · exact hall f hf
      · simp at hf; subst hf; simpa using hw
  have hge : i = l.length := by simp at hil; omega
  subst hge
  clear ih hil hq hi
  rw [List.take_length] at hall
  have hall' : l.all (fun f => (whr f).2 == 0) = true := by rw [List.all_eq_true]; intro f hf; simp [hall f hf]
  have hsh : shR l d = if l.all (shOk d) then (l.map (shF d), 0) else ([], 3) := by rw [shR, if_neg hd0, if_neg (by simp [hall'])]
  refine rn_ ?_; intros
  refine go_nilrow 41 46 2 rfl (by omega) ?_
  refine go_keep [0, 3, 4, 5, 9, 33, 34, 35] [0, 1, 2, 20, 41] ?_
  refine st_ ?_
  refine x_loop rfl (fun q s => ∃ (i : Nat) (G' : Hp) (xs : List Value) (ad3 : Option Addr) (cap3 : Nat) (ds : List Nat), i ≤ l.length ∧ q = l.length - i ∧ Le G G' ∧ (l.take i).all (shOk d) = true ∧ rF.L G' ((l.take i).map (shF d)) xs ∧
    s = ⟨[(0, .v (.slice adp l.length capp)), (3, .p 0 b1 0), (4, .p 1 b2 0), (5, .p 2 b3 0), (9, .v (.slice ad3 i cap3)), (33, .v (.slice adp l.length capp)), (34, .v (.int .i64 l.length)), (35, .v (.int .i64 i))],
      [(0, b1, .c 3 [.v (.int .i64 d)]), (1, b2, .c 22 [.v (.slice none 0 0)]), (2, b3, .c 27 [.v (.int .i64 0)]), (20, 0, dzO ds), (41, 0, .row (.slice ad3 i cap3) 46 2 i xs)], G', ds.map mkD⟩) ⟨0, G, [], none, 0, [], by omega, rfl, Le.refl _, by simp, rfl, rfl⟩ ?_
  rintro q s ⟨i, G1, xs, ad3, cap3, ds, hi, hq, hle1, hok1, hL1, rfl⟩ ih
  refine rn_ ?_; intros
  refine x_if rfl rfl rfl rfl (fun hil => ?_) (fun hil => ?_)
  · have hlt : i < l.length := by simp at hil; omega
    have htk : l.take (i + 1) = l.take i ++ [fu l i] := by rw [fu_eq hlt, List.take_append_getElem]
    have hmem : fu l i ∈ l := by rw [fu_eq hlt]; exact List.getElem_mem _
    have hv := hall _ hmem
    obtain ⟨hb200, hb9, hb9', hb16⟩ := valid_bd hv
    obtain ⟨bp, op, nsp, rfl, hatp, hpp, hnp⟩ := rF_at hl0 hlt
    have hnp1 := Rp.S_mono hle1 hnp
    have hokf := (hlok _ hmem).2
    generalize hfi : fu l i = f at *
    have hcc := copy_ok f nsp G1 hnp1 (by omega) (fun x hx => by have := hb16 x hx; omega)
    have hca := fun G2 (hle : Le G1 G2) => calls_ok f nsp G2 hpp (Rp.S_mono hle hnp1)
    obtain ⟨adn, capn, rfl⟩ := Rp.S_slice hnp
    refine rn_ ?_; intros
    refine go_q (by rw [hnt]; rfl) (quiet_index (by rw [hty]; rfl) (by rw [hty]; rfl) rfl rfl rfl (by omega) (by omega)) ?_
    refine rn_ ?_; intros
    refine go_q (by rw [hnt]; rfl) (quiet_load (by rw [hty]; rfl) rfl (by simp [TK.agg]) (hatp.mono hle1) rfl) ?_
    refine rn_ ?_; intros
    refine go_callV 50 (by rw [hnt]; rfl) (by rw [hP]; kernel_rfl) rfl rfl (by omega) (hP ▸ hcc) ?_
    rintro v G2 rs Z5 (hle2 : Le G1 G2) ⟨adc, capc, ss, hss, rfl, rfl⟩
    refine rn_ ?_; intros
    refine go_call (by rw [hnt]; rfl) (by rw [hP]; kernel_rfl) rfl (hP ▸ hca G2 hle2) ?_
    rintro v G3 (hle3 : Le G2 G3) ⟨fn, cp, rfl, hfc, hit⟩
    replace hit := hit.mono (diff_le G3 G2)
    refine rn_ ?_; intros
    rename_i b4 b5
    have hns3 := Rp.S_mono (hle1.trans (hle2.trans hle3)) hnp
    refine go_keep [0, 3, 4, 5, 9, 12, 33, 34, 35, 42] [0, 1, 2, 20, 41, 50, 51] ?_
    refine st_ ?_
    have hrN : (RF f (.slice adc f.nodes.length capc) ss)[f.nodes.length]? = some ⟨51, 3, .slice adc f.nodes.length capc, f.nodes.length, encN f.nodes ss⟩ := by simp [RF, List.getElem?_append_right, rowsL_len hss]
    refine go_ztake 50 60 f.nodes.length rfl hrN rfl (by omega) (by omega) ?_
    intro Z6
    refine st_ ?_
    refine cut_tail 2 (fun s' => ∃ (G' : Hp) (D : Nat), Le G3 G' ∧ shOk d f = true ∧
      s' = ⟨[(0, .v (.slice (some ⟨bp, op, none⟩) l.length capp)), (3, .p 0 b1 0), (4, .p 1 b2 0), (5, .p 2 b3 0), (9, .v (.slice ad3 i cap3)), (12, .p 51 b5 0), (33, .v (.slice (some ⟨bp, op, none⟩) l.length capp)), (34, .v (.int .i64 l.length)), (35, .v (.int .i64 i))],
      [(0, b1, .c 3 [.v (.int .i64 d)]), (1, b2, .c 22 [.v (.slice none 0 0)]), (2, b3, .c 27 [.v (.int .i64 0)]), (20, 0, dzO (D :: ds)), (41, 0, .row (.slice ad3 i cap3) 46 2 i xs),
       (50, 0, .z (ZR ((RF f (.slice adc f.nodes.length capc) ss).set f.nodes.length (Rw.nil 51 3))) Z6 Z6), (51, b5, .c 46 [.v (.int .i64 f.params), .v (.slice adc f.nodes.length capc)]),
       (60, 0, .row (.slice adc f.nodes.length capc) 51 3 f.nodes.length (encN (f.nodes.map (shNd d)) ss))], G', (D :: ds).map mkD⟩) ?_ (fun key => ?_)
    rotate_left
    · refine x_range 20 rfl rfl (ps := #[43, 44]) rfl hro hmh rfl rfl hfc (by rw [hnt]; decide) hit (encII_mono _) (fun _ _ _ h => by obtain ⟨_, _, rfl⟩ := h; rfl)
        (fun k own => (∀ x ∈ (calP f).take k, x.2 + d < 64) ∧ own = [(0, b1, .c 3 [.v (.int .i64 d)]), (1, b2, .c 22 [.v (.slice none 0 0)]), (2, b3, .c 27 [.v (.int .i64 0)]), (20, 0, dzO ds), (41, 0, .row (.slice ad3 i cap3) 46 2 i xs),
       (50, 0, .z (ZR ((RF f (.slice adc f.nodes.length capc) ss).set f.nodes.length (Rw.nil 51 3))) Z6 Z6), (51, b5, .c 46 [.v (.int .i64 f.params), .v (.slice adc f.nodes.length capc)]),
       (60, 0, .row (.slice adc f.nodes.length capc) 51 3 f.nodes.length (encN (appL d f.nodes ((calP f).take k)) ss))])
        (fun c own => c = .ret ∧ shOk d f = false ∧ own = [(0, b1, .c 3 [.v (.int .i64 d)]), (1, b2, .c 22 [.v (.slice none 0 0)]), (2, b3, .c 27 [.v (.int .i64 3)]), (20, 0, dzO ds)])
        (fun i own h => by obtain ⟨_, rfl⟩ := h; exact ⟨keys_lt rfl, (by repeat (first | exact plain_nil | refine plain_cons (fun _ h => h) ?_)), rfl⟩) (fun _ _ h => by obtain ⟨_, _, rfl⟩ := h; exact ⟨(by repeat (first | exact plain_nil | refine plain_cons (fun _ h => h) ?_)), rfl⟩) ⟨by simp, rfl⟩ ?_ ?_ ?_
      · rintro C' C0 k own vs G7 lp D r hiN ⟨hk0, rfl⟩ (hle7 : Le G3 G7) ⟨x, hLk, rfl⟩ hR
        have htk2 : (calP f).take (k + 1) = (calP f).take k ++ [x] := by
          obtain ⟨hk, e⟩ := List.getElem?_eq_some_iff.1 hLk
          rw [← e, List.take_append_getElem]
        have hxm : x ∈ calP f := List.mem_of_getElem? hLk
        obtain ⟨m, hm, rfl, hnm, h0, h63⟩ := calP_get hLk
        have hd1 := hd0
        have hnt2 := hR.nt.trans hnt; have hty2 := hR.ty.trans hty; have hP2 := hR.P.trans hP; clear hQ hQp hnt hty hP hmh hmb hro; have hnt := hnt2; have hty := hty2; have hP := hP2; have hmh := hR.mh; have hQp := hR.qp; simp only [putsS, List.toList_toArray]; refine st_ ?_
        refine rn_ ?_; intros
        refine go_br rfl hR.ready ?_
        refine st_ ?_
        refine rn_ ?_; intros
        rw [wr (n := f.nodes[m].n + d) (by omega) (by omega)]
        refine x_split rfl rfl rfl (fun h64 => ?_) (fun h64 => ?_) <;> (refine st_ ?_; (refine ru_ ?_; intros))
        · refine go_keep [3] [998, 999, 0, 1, 2, 20] ?_
          refine st_ ?_
          refine x_rret rfl hR rfl rfl ?_
          exact ⟨rfl, List.all_eq_false.2 ⟨_, hxm, by have := of_decide_eq_true h64; simp; omega⟩, rfl⟩
        · have h64' := of_decide_eq_false h64
          have hml : m < (appL d f.nodes ((calP f).take k)).length := by rw [appL_len]; exact hm
          refine go_rowcases 60 rfl (fun _ h0 _ => by omega) ?_
          intro g capg hse hcg hxl
          cases hse
          refine go_q (by rw [hnt]; rfl) (quiet_index (by rw [hty]; rfl) (by rw [hty]; rfl) rfl rfl rfl (by omega) (by omega)) ?_
          refine rn_ ?_; intros
          rw [wr (n := f.nodes[m].n + d) (by omega) (by omega)]
          refine go_storeR 60 rfl (by rw [hty]; rfl) rfl rfl rfl rfl rfl rfl (layN (f.nodes[m].n + d) ((appL d f.nodes ((calP f).take k)).getD m ndD).l (by rw [appL_len]; exact hss) hml (by simp) rfl) ?_
          refine rn_ ?_; intros
          refine go_keep [3] [998, 999, 0, 1, 2, 20, 41, 50, 51, 60] ?_
          refine st_ ?_
          refine go_rend hR rfl rfl ?_
          refine ⟨fun x hx => ?_, ?_⟩
          · rw [htk2] at hx
            rcases List.mem_append.1 hx with hx | hx
            · exact hk0 x hx
            · simp at hx; subst hx; simp; omega
          · rw [htk2, appL_snoc]
            simp only [Int.toNat_natCast, rmk, reduceIte, Nat.reduceEqDiff]
            simp [List.getD, hml]
      · rintro D own G7 ⟨hk0, rfl⟩ (hle7 : Le G3 G7)
        rw [List.take_length] at hk0
        refine st_ ?_
        refine go_blk ?_
        refine go_keep [0, 3, 4, 5, 9, 12, 33, 34, 35] [0, 1, 2, 20, 41, 50, 51, 60] ?_
        refine st_ ?_
        exact key _ ⟨G7, D, hle7, by simpa [shOk] using hk0, by rw [List.take_length, appL_all hv]; rfl⟩
      · rintro D c own G7 ⟨rfl, hbad, rfl⟩ (hle7 : Le G3 G7)
        refine st_ ?_
        refine x_retM 20 rfl hQ hmb rfl rfl rfl (by rw [hty]; simp only [so, sq, zy, zz, tyE, SO', SQ', opQ, opStore, opAlloc, ev, putS, dOk, cv, SV.cs, SV.one, SV.bool?, eqB, Value.oneCell', ldOwn, binInt, binConst, binBool, binStr, isC, TK.agg, rv, rv1, ldV, resOne, resV, Nat.reduceAdd, Nat.reduceMul, Nat.reduceSub, Nat.reduceLT, Nat.reduceLeDiff, Nat.reduceEqDiff, Nat.reduceBEq, reduceIte, reduceCtorEq, eq_self]; try rfl) ?_; simp only [SV.den, resV, dens]
        rw [hsh, if_neg (by rw [Bool.not_eq_true, List.all_eq_false]; exact ⟨f, hmem, by simp [hbad]⟩)]
        exact ⟨_, rfl, Rp.S_nil _ _⟩
    · rintro s' ⟨G7, D, hle7, hshok, rfl⟩
      simp only [List.drop_succ_cons, List.drop_zero]
      refine rn_ ?_; intros
      refine go_append 41 (by rw [hnt]; rfl) (by rw [hty]; rfl) (by rw [hty]; rfl) (by decide) rfl rfl rfl (by omega) rfl (src_own 2 rfl rfl) rfl (by simp [dens, SV.den, Value.oneCell']) (by omega) (by simp only []; omega) ?_
      intro v'
      refine go_rowS 41 rfl ?_
      rintro ad4 cap4 rfl
      refine rn_ ?_; intros
      refine go_zgive 50 60 f.nodes.length rfl (by rw [List.getElem?_set_self (by simp [RF, rowsL_len hss])]) rfl rfl (by omega) (by omega) (by omega) ?_
      intro Z7
      refine st_ ?_
      rw [RF_set hss]
      refine go_zpub 50 rfl (by omega) ?_
      intro G8 (hle8 : Le G7 G8) hrows
      refine st_ ?_
      have hns8 : rN.S G8 (f.nodes.map (shNd d)) (.slice adc f.nodes.length capc) := RF_S (f := shF d f) (by simpa [shF] using hss) (shNd_ok hv (by omega) (by omega) hokf) (fun x hx => by
          simp only [shF] at hx
          obtain ⟨y, hy, rfl⟩ := List.mem_map.1 hx
          rw [shNd_l]; have := hb16 y hy; omega) (by simp [shF]; omega) hrows
      rw [wr (n := (i : Int) + 1) (by omega) (by omega)]
      refine go_keep [0, 3, 4, 5, 9, 33, 34, 35] [0, 1, 2, 20, 41] ?_
      refine st_ ?_
      refine ih (l.length - (i + 1)) _ (by omega) ⟨i + 1, G8, xs ++ [.int .i64 f.params, .slice adc f.nodes.length capc], ad4, cap4, D :: ds, by omega, rfl, hle1.trans (hle2.trans (hle3.trans (hle7.trans hle8))), ?_, ?_, ?_⟩
      · rw [htk, List.all_append, hok1]; simp [hshok]
      · rw [htk, List.map_append]
        exact Rp.L_append (Rp.L_mono (hle2.trans (hle3.trans (hle7.trans hle8))) hL1) (rF_cons hpp hns8 rfl)
      · simp [dens, SV.den]
  have hge : i = l.length := by simp at hil; omega
  subst hge
  clear ih hil hq hi
  rw [List.take_length] at hok1 hL1
  refine rn_ ?_; intros
  refine go_pubL rF 41 rfl (by omega) (by simp) (by omega) hL1 ?_
  rintro G2 ad2 cap2 (hle2 : Le G1 G2) hse2 hS2
  refine rn_ ?_; intros
  refine x_retM 20 rfl hQ hmb rfl rfl rfl (by rw [hty]; simp only [so, sq, zy, zz, tyE, SO', SQ', opQ, opStore, opAlloc, ev, putS, dOk, cv, SV.cs, SV.one, SV.bool?, eqB, Value.oneCell', ldOwn, binInt, binConst, binBool, binStr, isC, TK.agg, rv, rv1, ldV, resOne, resV, Nat.reduceAdd, Nat.reduceMul, Nat.reduceSub, Nat.reduceLT, Nat.reduceLeDiff, Nat.reduceEqDiff, Nat.reduceBEq, reduceIte, reduceCtorEq, eq_self]; try rfl) ?_; simp only [SV.den, resV, dens]
  rw [hsh, if_pos hok1]
  refine ⟨_, rfl, ?_⟩
  rw [hse2]; exact hS2
end Go.Proofs.Ytmdkenpodcnnbaa
namespace Go.Proofs.Ytmdkenpodcnnbaa
set_option linter.unusedSimpArgs false
set_option linter.unusedVariables false
open Go.Sx

structure Gd (cl : Nat → List Nat) (D : Nat → Option Nat) : Prop where
  z : D 0 = some 0
  u : ∀ x, D x = some 0 → x = 0
  s : ∀ i d j, D i = some d → j ∈ cl i → ∃ e, D j = some e ∧ e ≤ d + 1
  p : ∀ j k, D j = some (k + 1) → ∃ i, D i = some k ∧ j ∈ cl i
theorem Gd.half {cl : Nat → List Nat} {D E : Nat → Option Nat} (h : Gd cl D) (g : Gd cl E) {k : Nat} (ih : ∀ m, m ≤ k → ∀ x, D x = some m ↔ E x = some m) {x : Nat} (hx : D x = some (k + 1)) : E x = some (k + 1) := by
  obtain ⟨i, hi, hj⟩ := h.p x k hx
  obtain ⟨e, he, hle⟩ := g.s i k x ((ih k (Nat.le_refl _) i).1 hi) hj
  rcases Nat.lt_or_ge e (k + 1) with q | q
  · have := (ih e (by omega) x).2 he
    rw [hx] at this
    cases this; omega
  · rw [he, show e = k + 1 by omega]
theorem Gd.same {cl : Nat → List Nat} {D E : Nat → Option Nat} (h : Gd cl D) (g : Gd cl E) : D = E := by
  have key : ∀ k, ∀ m, m ≤ k → ∀ x, D x = some m ↔ E x = some m := by
    intro k
    induction k with
    | zero =>
      intro m hm x
      obtain rfl : m = 0 := by omega
      constructor
      · intro q; rw [h.u x q]; exact g.z
      · intro q; rw [g.u x q]; exact h.z
    | succ k ih =>
      intro m hm x
      rcases Nat.lt_or_ge m (k + 1) with q | q
      · exact ih m (by omega) x
      · obtain rfl : m = k + 1 := by omega
        exact ⟨h.half g ih, g.half h (fun m hm x => (ih m hm x).symm)⟩
  funext x
  cases hd : D x with
  | some d => exact ((key d d (Nat.le_refl _) x).1 hd).symm
  | none =>
    cases he : E x with
    | none => rfl
    | some e => have := (key e e (Nat.le_refl _) x).2 he; rw [hd] at this; cases this


abbrev Qu := List (Nat × Nat)
def qhas (Q : Qu) (x : Nat) : Bool := Q.any (fun e => e.1 == x)
def qadd (d : Nat) (Q : Qu) (j : Nat) : Qu := if qhas Q j then Q else Q ++ [(j, d + 1)]
theorem qhas_iff {Q : Qu} {x : Nat} : qhas Q x = true ↔ ∃ e ∈ Q, e.1 = x := by simp [qhas]
structure BInv (cl : Nat → List Nat) (n : Nat) (Q : Qu) (h : Nat) (js : List Nat) : Prop where
  z : Q[0]? = some (0, 0)
  nd : (Q.map (·.1)).Nodup
  lt : ∀ e ∈ Q, e.1 < n
  mono : ∀ (a b : Nat) (x y : Nat × Nat), a ≤ b → Q[a]? = some x → Q[b]? = some y → x.2 ≤ y.2
  near : ∀ (x : Nat × Nat), Q[h]? = some x → ∀ e ∈ Q, e.2 ≤ x.2 + 1
  par : ∀ (m : Nat) (x : Nat × Nat), 0 < m → Q[m]? = some x → ∃ (p : Nat) (y : Nat × Nat), p < m ∧ Q[p]? = some y ∧ x.2 = y.2 + 1 ∧ x.1 ∈ cl y.1
  done : ∀ (p : Nat) (y : Nat × Nat), p < h → Q[p]? = some y → ∀ j ∈ cl y.1, ∃ e ∈ Q, e.1 = j ∧ e.2 ≤ y.2 + 1
  part : ∀ (y : Nat × Nat), Q[h]? = some y → ∀ j ∈ js, ∃ e ∈ Q, e.1 = j ∧ e.2 ≤ y.2 + 1
theorem BInv.start (cl : Nat → List Nat) {n : Nat} (hn : 0 < n) : BInv cl n [(0, 0)] 0 [] where
  z := rfl
  nd := by simp
  lt e he := by simp at he; subst he; exact hn
  mono a b x y _ h1 h2 := by
    cases a <;> cases b <;> simp at h1 h2
    subst h1 h2; exact Nat.le_refl _
  near x _ e he := by simp at he; subst he; simp
  par m x hm h := by cases m <;> simp at h; omega
  done p y hp := by omega
  part y _ j hj := by simp at hj
theorem BInv.len {cl : Nat → List Nat} {n : Nat} {Q : Qu} {h : Nat} {js : List Nat} (H : BInv cl n Q h js) : Q.length ≤ n := by
  have := nodup_le n (Q.map (·.1)) H.nd (fun x hx => by obtain ⟨e, he, rfl⟩ := List.mem_map.1 hx; exact H.lt e he)
  simpa using this
theorem BInv.add {cl : Nat → List Nat} {n : Nat} {Q : Qu} {h : Nat} {js : List Nat} (H : BInv cl n Q h js) {y : Nat × Nat} (hy : Q[h]? = some y) {j : Nat} (hj : j ∈ cl y.1) (hjn : j < n) : BInv cl n (qadd y.2 Q j) h (js ++ [j]) := by
  have hlt : h < Q.length := (List.getElem?_eq_some_iff.1 hy).1
  unfold qadd
  split
  · rename_i hq
    obtain ⟨e, he, hej⟩ := qhas_iff.1 hq
    refine { H with part := fun y' hy' k hk => ?_ }
    rcases List.mem_append.1 hk with hk | hk
    · exact H.part y' hy' k hk
    · simp at hk; subst hk
      exact ⟨e, he, hej, H.near y' hy' e he⟩
  · rename_i hq
    have hnew : ∀ e ∈ Q, e.1 ≠ j := fun e he hej => hq (qhas_iff.2 ⟨e, he, hej⟩)
    have hget : ∀ {m : Nat} {x : Nat × Nat}, (Q ++ [(j, y.2 + 1)])[m]? = some x → Q[m]? = some x ∨ (m = Q.length ∧ x = (j, y.2 + 1)) := by
      intro m x e
      rcases Nat.lt_or_ge m Q.length with q | q
      · rw [List.getElem?_append_left q] at e; exact .inl e
      · rw [List.getElem?_append_right q] at e
        rcases Nat.eq_or_lt_of_le q with r | r
        · subst r; simp at e; exact .inr ⟨rfl, e.symm⟩
        · rw [List.getElem?_eq_none (by simp; omega)] at e; cases e
    have hold : ∀ {m : Nat} {x : Nat × Nat}, Q[m]? = some x → (Q ++ [(j, y.2 + 1)])[m]? = some x := by
      intro m x e
      rw [List.getElem?_append_left (List.getElem?_eq_some_iff.1 e).1]; exact e
    have hh : ∀ {x : Nat × Nat}, (Q ++ [(j, y.2 + 1)])[h]? = some x → x = y := by
      intro x e
      rw [List.getElem?_append_left hlt, hy] at e
      exact (Option.some.inj e).symm
    refine ⟨hold H.z, ?_, ?_, ?_, ?_, ?_, ?_, ?_⟩
    · rw [List.map_append, List.nodup_append]
      refine ⟨H.nd, by simp, fun a ha b hb => ?_⟩
      obtain ⟨e, he, rfl⟩ := List.mem_map.1 ha
      simp at hb; subst hb
      exact hnew e he
    · intro e he
      rcases List.mem_append.1 he with he | he
      · exact H.lt e he
      · simp at he; subst he; exact hjn
    · intro a b x x' hab ha hb
      rcases hget ha with ha | ⟨ha, hx⟩ <;> rcases hget hb with hb | ⟨hb, hx'⟩
      · exact H.mono a b x x' hab ha hb
      · subst hx'
        exact H.near y hy x (List.mem_of_getElem? ha)
      · have := (List.getElem?_eq_some_iff.1 hb).1; omega
      · subst hx hx'; exact Nat.le_refl _
    · intro x hx e he
      rw [hh hx]
      rcases List.mem_append.1 he with he | he
      · exact H.near y hy e he
      · simp at he; subst he; exact Nat.le_refl _
    · intro m x hm hx
      rcases hget hx with hx | ⟨rfl, rfl⟩
      · obtain ⟨p, y', hp, hpy, h1, h2⟩ := H.par m x hm hx
        exact ⟨p, y', hp, hold hpy, h1, h2⟩
      · exact ⟨h, y, hlt, hold hy, rfl, hj⟩
    · intro p y' hp hpy k hk
      rcases hget hpy with hpy | ⟨rfl, rfl⟩
      · obtain ⟨e, he, h1, h2⟩ := H.done p y' hp hpy k hk
        exact ⟨e, List.mem_append_left _ he, h1, h2⟩
      · omega
    · intro y' hy' k hk
      rw [hh hy']
      rcases List.mem_append.1 hk with hk | hk
      · obtain ⟨e, he, h1, h2⟩ := H.part y hy k hk
        exact ⟨e, List.mem_append_left _ he, h1, h2⟩
      · simp at hk; subst hk
        exact ⟨(k, y.2 + 1), by simp, rfl, Nat.le_refl _⟩
theorem BInv.next {cl : Nat → List Nat} {n : Nat} {Q : Qu} {h : Nat} {y : Nat × Nat} (hy : Q[h]? = some y) (H : BInv cl n Q h (cl y.1)) : BInv cl n Q (h + 1) [] where
  z := H.z
  nd := H.nd
  lt := H.lt
  mono := H.mono
  near x hx e he := by
    have h1 := H.near y hy e he
    have h2 := H.mono h (h + 1) y x (by omega) hy hx
    omega
  par := H.par
  done p y' hp hpy := by
    rcases Nat.lt_or_ge p h with q | q
    · exact H.done p y' q hpy
    · obtain rfl : p = h := by omega
      rw [hy] at hpy
      cases hpy
      exact H.part y hy
  part _ _ _ hj := by simp at hj
def qd (Q : Qu) (x : Nat) : Option Nat := (Q.find? (fun e => e.1 == x)).map (·.2)
theorem qd_some {Q : Qu} (hn : (Q.map (·.1)).Nodup) {x d : Nat} : qd Q x = some d ↔ (x, d) ∈ Q := by
  induction Q with
  | nil => simp [qd]
  | cons e Q ih =>
    obtain ⟨h1, h2⟩ := List.nodup_cons.1 hn
    have ih := ih h2
    simp only [qd, List.find?_cons] at ih ⊢
    by_cases he : e.1 = x
    · simp only [he, beq_self_eq_true, Option.map_some, Option.some.injEq, List.mem_cons]
      constructor
      · rintro rfl; left; rw [← he]
      · rintro (q | q)
        · rw [← q]
        · exact (h1 (List.mem_map.2 ⟨(x, d), q, he.symm⟩)).elim
    · have : (e.1 == x) = false := by simpa using he
      simp only [this, Bool.false_eq_true, if_false, List.mem_cons]
      rw [ih]
      constructor
      · exact .inr
      · rintro (q | q)
        · exact absurd (by rw [← q]) he
        · exact q
theorem BInv.good {cl : Nat → List Nat} {n : Nat} {Q : Qu} {h : Nat} (H : BInv cl n Q h []) (hl : Q.length ≤ h) : Gd cl (qd Q) where
  z := (qd_some H.nd).2 (List.mem_of_getElem? H.z)
  u x hx := by
    obtain ⟨m, hm, e⟩ := List.getElem_of_mem ((qd_some H.nd).1 hx)
    rcases Nat.eq_zero_or_pos m with q | q
    · subst q
      have := H.z
      rw [List.getElem?_eq_getElem hm, e] at this
      cases this; rfl
    · obtain ⟨p, y, _, _, h1, _⟩ := H.par m (x, 0) q (by rw [List.getElem?_eq_getElem hm, e])
      simp at h1
  s i d j hi hj := by
    obtain ⟨m, hm, e⟩ := List.getElem_of_mem ((qd_some H.nd).1 hi)
    obtain ⟨e', he', h1, h2⟩ := H.done m (i, d) (by omega) (by rw [List.getElem?_eq_getElem hm, e]) j hj
    exact ⟨e'.2, (qd_some H.nd).2 (by rw [← h1]; exact he'), h2⟩
  p j k hj := by
    obtain ⟨m, hm, e⟩ := List.getElem_of_mem ((qd_some H.nd).1 hj)
    rcases Nat.eq_zero_or_pos m with q | q
    · subst q
      have := H.z
      rw [List.getElem?_eq_getElem hm, e] at this
      cases this
    · obtain ⟨p, y, _, hpy, h1, h2⟩ := H.par m (j, k + 1) q (by rw [List.getElem?_eq_getElem hm, e])
      refine ⟨y.1, (qd_some H.nd).2 ?_, h2⟩
      have : y.2 = k := by simp at h1; omega
      rw [← this]; exact List.mem_of_getElem? hpy


def ov (out : List Int) (x : Nat) : Int := out.getD x (-1)
def radd (far : Nat) (out : List Int) (j : Nat) : List Int := if ov out j < 0 then out.set j ((far : Int) + 1) else out
structure RInv (cl : Nat → List Nat) (n : Nat) (out : List Int) (far i : Nat) (js : List Nat) : Prop where
  len : out.length = n
  z : ov out 0 = 0
  low : ∀ x, -1 ≤ ov out x
  top : ∀ x, ov out x ≤ (far : Int) + 1
  u : ∀ x, ov out x = 0 → x = 0
  par : ∀ x (k : Nat), ov out x = (k : Int) + 1 → ∃ i', ov out i' = k ∧ x ∈ cl i'
  done : ∀ i', 0 ≤ ov out i' → (ov out i' < far ∨ (ov out i' = far ∧ i' < i)) → ∀ j ∈ cl i', 0 ≤ ov out j ∧ ov out j ≤ ov out i' + 1
  part : ov out i = far → ∀ j ∈ js, 0 ≤ ov out j ∧ ov out j ≤ (far : Int) + 1
theorem ov_set {out : List Int} {j x : Nat} {v : Int} (hj : j < out.length) : ov (out.set j v) x = if x = j then v else ov out x := by
  simp only [ov, List.getD_eq_getElem?_getD, List.getElem?_set]
  by_cases h : j = x
  · subst h; simp [hj]
  · rw [if_neg h, if_neg (fun q => h q.symm)]
theorem ov_out {out : List Int} {x : Nat} (h : out.length ≤ x) : ov out x = -1 := by simp [ov, h]
theorem RInv.lt {cl : Nat → List Nat} {n : Nat} {out : List Int} {far i : Nat} {js : List Nat} (H : RInv cl n out far i js) {x : Nat} (h : 0 ≤ ov out x) : x < n := by
  rcases Nat.lt_or_ge x n with q | q
  · exact q
  · rw [ov_out (by rw [H.len]; exact q)] at h; omega
theorem RInv.add {cl : Nat → List Nat} {n : Nat} {out : List Int} {far i : Nat} {js : List Nat} (H : RInv cl n out far i js) (hi : ov out i = far) {j : Nat} (hj : j ∈ cl i) (hjn : j < n) : RInv cl n (radd far out j) far i (js ++ [j]) ∧ ov (radd far out j) i = far := by
  unfold radd
  split
  · rename_i hneg
    have hs : ∀ x, ov (out.set j ((far : Int) + 1)) x = if x = j then (far : Int) + 1 else ov out x := fun x => ov_set (by rw [H.len]; exact hjn)
    have hne : i ≠ j := by rintro rfl; omega
    have keep : ∀ x, 0 ≤ ov out x → ov (out.set j ((far : Int) + 1)) x = ov out x := fun x hx => by
      rw [hs, if_neg]; rintro rfl; omega
    refine ⟨⟨by simp [H.len], by rw [keep 0 (by rw [H.z]; omega)]; exact H.z, fun x => ?_, fun x => ?_, fun x hx => ?_, fun x k hx => ?_, fun i' h0 hc k hk => ?_, fun _ k hk => ?_⟩, by rw [hs, if_neg hne]; exact hi⟩
    · rw [hs]; split
      · omega
      · exact H.low x
    · rw [hs]; split
      · omega
      · exact H.top x
    · rw [hs] at hx; split at hx
      · omega
      · exact H.u x hx
    · rw [hs] at hx; split at hx
      · rename_i e; subst e
        have : k = far := by omega
        subst this
        exact ⟨i, by rw [hs, if_neg hne]; exact hi, hj⟩
      · obtain ⟨i', h1, h2⟩ := H.par x k hx
        exact ⟨i', by rw [keep i' (by rw [h1]; omega)]; exact h1, h2⟩
    · have hnj : i' ≠ j := by
        rintro rfl
        rw [hs, if_pos rfl] at hc; omega
      have e := hs i'
      rw [if_neg hnj] at e
      rw [e] at h0 hc ⊢
      obtain ⟨h1, h2⟩ := H.done i' h0 hc k hk
      rw [keep k h1]
      exact ⟨h1, h2⟩
    · rcases List.mem_append.1 hk with hk | hk
      · obtain ⟨h1, h2⟩ := H.part hi k hk
        rw [keep k h1]; exact ⟨h1, h2⟩
      · simp at hk; subst hk
        rw [hs, if_pos rfl]; omega
  · rename_i hneg
    refine ⟨{ H with part := fun _ k hk => ?_ }, hi⟩
    rcases List.mem_append.1 hk with hk | hk
    · exact H.part hi k hk
    · simp at hk; subst hk
      exact ⟨by omega, H.top k⟩
theorem RInv.skip {cl : Nat → List Nat} {n : Nat} {out : List Int} {far i : Nat} (H : RInv cl n out far i []) (hi : ov out i ≠ far) : RInv cl n out far (i + 1) [] :=
  { H with
    done := fun i' h0 hc => H.done i' h0 (by
      rcases hc with q | ⟨q, r⟩
      · exact .inl q
      · refine .inr ⟨q, ?_⟩
        have : i' ≠ i := by rintro rfl; exact hi q
        omega)
    part := fun _ _ hk => by simp at hk }
theorem RInv.next {cl : Nat → List Nat} {n : Nat} {out : List Int} {far i : Nat} (H : RInv cl n out far i (cl i)) (hi : ov out i = far) : RInv cl n out far (i + 1) [] :=
  { H with
    done := fun i' h0 hc k hk => by
      by_cases e : i' = i
      · subst e; rw [hi]; exact H.part hi k hk
      · refine H.done i' h0 ?_ k hk
        rcases hc with q | ⟨q, r⟩
        · exact .inl q
        · exact .inr ⟨q, by omega⟩
    part := fun _ _ hk => by simp at hk }
theorem RInv.round {cl : Nat → List Nat} {n : Nat} {out : List Int} {far : Nat} (H : RInv cl n out far n []) : RInv cl n out (far + 1) 0 [] :=
  { H with
    top := fun x => by have := H.top x; omega
    done := fun i' h0 hc => H.done i' h0 (by
      rcases hc with q | ⟨q, r⟩
      · have := H.lt h0
        rcases Int.lt_or_le (ov out i') far with s | s
        · exact .inl s
        · exact .inr ⟨by omega, this⟩
      · omega)
    part := fun _ _ hk => by simp at hk }
theorem RInv.start (cl : Nat → List Nat) {n : Nat} (hn : 0 < n) : RInv cl n ((List.replicate n (-1 : Int)).set 0 0) 0 0 [] := by
  have hs : ∀ x, ov ((List.replicate n (-1 : Int)).set 0 0) x = if x = 0 then 0 else -1 := fun x => by
    rw [ov_set (by simpa using hn)]
    split
    · rfl
    · simp only [ov, List.getD_eq_getElem?_getD, List.getElem?_replicate]
      split <;> rfl
  refine ⟨by simp, by rw [hs, if_pos rfl], fun x => ?_, fun x => ?_, fun x hx => ?_, fun x k hx => ?_, fun i' h0 hc => ?_, fun _ j hj => by simp at hj⟩
  · rw [hs]; split <;> omega
  · rw [hs]; split <;> omega
  · rw [hs] at hx; split at hx
    · assumption
    · omega
  · rw [hs] at hx; split at hx <;> omega
  · rw [hs] at h0 hc
    split at h0
    · rename_i e; subst e; simp at hc
    · omega
theorem RInv.chain {cl : Nat → List Nat} {n : Nat} {out : List Int} {far i : Nat} {js : List Nat} (H : RInv cl n out far i js) : ∀ (k x : Nat), ov out x = k → ∃ l : List Nat, l.Nodup ∧ l.length = k + 1 ∧ ∀ y ∈ l, 0 ≤ ov out y ∧ ov out y ≤ k
  | 0, x, hx => ⟨[x], by simp, rfl, fun y hy => by simp at hy; subst hy; omega⟩
  | k + 1, x, hx => by
    obtain ⟨i', h1, _⟩ := H.par x k (by rw [hx]; rfl)
    obtain ⟨l, a, b, c⟩ := H.chain k i' h1
    refine ⟨x :: l, List.nodup_cons.2 ⟨fun hm => ?_, a⟩, by simp [b], fun y hy => ?_⟩
    · have := (c x hm).2; omega
    · rcases List.mem_cons.1 hy with rfl | hy
      · omega
      · have := c y hy; omega
def od (out : List Int) (x : Nat) : Option Nat := if 0 ≤ ov out x then some (ov out x).toNat else none
theorem od_some {out : List Int} {x d : Nat} : od out x = some d ↔ ov out x = d := by
  unfold od
  split
  · simp; omega
  · simp; omega
theorem RInv.good {cl : Nat → List Nat} {n : Nat} {out : List Int} (H : RInv cl n out n 0 []) : Gd cl (od out) where
  z := od_some.2 H.z
  u x hx := H.u x (od_some.1 hx)
  s i d j hi hj := by
    have hi := od_some.1 hi
    obtain ⟨l, a, b, c⟩ := H.chain d i hi
    have := nodup_le n l a (fun y hy => H.lt (c y hy).1)
    obtain ⟨h1, h2⟩ := H.done i (by omega) (.inl (by omega)) j hj
    exact ⟨(ov out j).toNat, od_some.2 (by omega), by omega⟩
  p j k hj := by
    obtain ⟨i, h1, h2⟩ := H.par j k (by rw [od_some.1 hj]; rfl)
    exact ⟨i, od_some.2 h1, h2⟩
end Go.Proofs.Ytmdkenpodcnnbaa
namespace Go.Proofs.Ytmdkenpodcnnbaa
set_option linter.unusedSimpArgs false
set_option linter.unusedVariables false
open Go.Sx
def rstep (cl : Nat → List Nat) (far : Nat) (out : List Int) (i : Nat) : List Int := if ov out i = far then (cl i).foldl (radd far) out else out
def rround (cl : Nat → List Nat) (n far : Nat) (out : List Int) : List Int := (List.range n).foldl (rstep cl far) out
def rout (cl : Nat → List Nat) (n : Nat) : List Int := (List.range n).foldl (fun out far => rround cl n far out) ((List.replicate n (-1 : Int)).set 0 0)
section
variable {cl : Nat → List Nat} {n : Nat}
theorem radds (hcl : ∀ i, ∀ j ∈ cl i, j < n) {far i : Nat} : ∀ (l : List Nat) {out : List Int} {js : List Nat}, RInv cl n out far i js → ov out i = far → (∀ j ∈ l, j ∈ cl i) → RInv cl n (l.foldl (radd far) out) far i (js ++ l) ∧ ov (l.foldl (radd far) out) i = far
  | [], out, js, H, hi, _ => by simpa using ⟨H, hi⟩
  | j :: l, out, js, H, hi, hl => by
    obtain ⟨h1, h2⟩ := H.add hi (hl j (by simp)) (hcl i j (hl j (by simp)))
    have := radds hcl l h1 h2 (fun k hk => hl k (by simp [hk]))
    simpa using this
theorem rstep_inv (hcl : ∀ i, ∀ j ∈ cl i, j < n) {far i : Nat} {out : List Int} (H : RInv cl n out far i []) : RInv cl n (rstep cl far out i) far (i + 1) [] := by
  unfold rstep
  split
  · rename_i hi
    obtain ⟨h1, h2⟩ := radds hcl (cl i) H hi (fun _ h => h)
    rw [List.nil_append] at h1
    exact h1.next h2
  · rename_i hi
    exact H.skip hi
theorem rround_inv (hcl : ∀ i, ∀ j ∈ cl i, j < n) {far : Nat} {out : List Int} (H : RInv cl n out far 0 []) : ∀ i, RInv cl n ((List.range i).foldl (rstep cl far) out) far i []
  | 0 => by simpa using H
  | i + 1 => by rw [List.range_succ, List.foldl_append]; exact rstep_inv hcl (rround_inv hcl H i)
theorem rout_inv (hn : 0 < n) (hcl : ∀ i, ∀ j ∈ cl i, j < n) : ∀ far, RInv cl n ((List.range far).foldl (fun out far => rround cl n far out) ((List.replicate n (-1 : Int)).set 0 0)) far 0 []
  | 0 => by simpa using RInv.start cl hn
  | far + 1 => by rw [List.range_succ, List.foldl_append]; exact (rround_inv hcl (rout_inv hn hcl far) n).round
theorem rout_good (hn : 0 < n) (hcl : ∀ i, ∀ j ∈ cl i, j < n) : Gd cl (od (rout cl n)) := (rout_inv hn hcl n).good
theorem rout_len (hn : 0 < n) (hcl : ∀ i, ∀ j ∈ cl i, j < n) : (rout cl n).length = n := (rout_inv hn hcl n).len
end
def rlist (n : Nat) (D : Nat → Option Nat) : Pl := (List.range n).filterMap fun (x : Nat) => (D x).map fun (d : Nat) => ((x : Int), (d : Int))
theorem rlist_mem {n : Nat} {D : Nat → Option Nat} {x : Int × Int} : x ∈ rlist n D ↔ ∃ k d : Nat, k < n ∧ D k = some d ∧ x = ((k : Int), (d : Int)) := by
  simp only [rlist, List.mem_filterMap, List.mem_range, Option.map_eq_some_iff]
  constructor
  · rintro ⟨k, hk, d, hd, rfl⟩; exact ⟨k, d, hk, hd, rfl⟩
  · rintro ⟨k, d, hk, hd, rfl⟩; exact ⟨k, hk, d, hd, rfl⟩
theorem rlist_sorted (n : Nat) (D : Nat → Option Nat) : ((rlist n D).map (·.1)).Pairwise (· < ·) := by
  rw [List.pairwise_map]
  simp only [rlist]
  refine List.Pairwise.filterMap _ (R := fun a b : Nat => a < b) ?_ (List.pairwise_lt_range)
  intro a b hab x hx y hy
  simp only [Option.mem_def, Option.map_eq_some_iff] at hx hy
  obtain ⟨_, _, rfl⟩ := hx
  obtain ⟨_, _, rfl⟩ := hy
  simp; exact hab
abbrev leZ : Int → Int → Bool := fun x y => decide (x ≤ y)
theorem leZ_tr : ∀ a b c : Int, leZ a b = true → leZ b c = true → leZ a c = true := fun a b c h1 h2 => by simp only [leZ, decide_eq_true_eq] at *; omega
theorem leZ_to : ∀ a b : Int, (leZ a b || leZ b a) = true := fun a b => by simp only [leZ, Bool.or_eq_true, decide_eq_true_eq]; omega
theorem sort_eq {l m : List Int} (h : l.Perm m) (hm : m.Pairwise (· < ·)) : l.mergeSort leZ = m := by
  refine List.Perm.eq_of_pairwise (le := fun a b => leZ a b = true) (fun a b _ _ h1 h2 => ?_) (List.pairwise_mergeSort leZ_tr leZ_to l) (hm.imp fun {a b} hab => by simp only [leZ, decide_eq_true_eq]; omega) ((List.mergeSort_perm l leZ).trans h)
  simp only [leZ, decide_eq_true_eq] at h1 h2
  omega
theorem sort_perm {l m : List Int} (h : l.Perm m) : l.mergeSort leZ = m.mergeSort leZ := by
  refine List.Perm.eq_of_pairwise (le := fun a b => leZ a b = true) (fun a b _ _ h1 h2 => ?_) (List.pairwise_mergeSort leZ_tr leZ_to l) (List.pairwise_mergeSort leZ_tr leZ_to m) (((List.mergeSort_perm l leZ).trans h).trans (List.mergeSort_perm m leZ).symm)
  simp only [leZ, decide_eq_true_eq] at h1 h2
  omega
theorem BInv.keys {cl : Nat → List Nat} {n : Nat} {Q : Qu} {h : Nat} {js : List Nat} (H : BInv cl n Q h js) : (Q.map fun e => ((e.1 : Nat) : Int)).Perm ((rlist n (qd Q)).map (·.1)) := by
  refine (List.perm_ext_iff_of_nodup ?_ ?_).2 fun x => ?_
  · have : (Q.map fun e => ((e.1 : Nat) : Int)) = (Q.map (·.1)).map fun k : Nat => (k : Int) := by simp
    rw [this, List.nodup_iff_pairwise_ne, List.pairwise_map]
    exact H.nd.imp fun {a b} hab => by omega
  · exact (rlist_sorted n (qd Q)).imp fun {a b} hab => by omega
  · simp only [List.mem_map]
    constructor
    · rintro ⟨e, he, rfl⟩
      exact ⟨_, rlist_mem.2 ⟨e.1, e.2, H.lt e he, (qd_some H.nd).2 he, rfl⟩, rfl⟩
    · rintro ⟨y, hy, rfl⟩
      obtain ⟨k, d, hk, hd, rfl⟩ := rlist_mem.1 hy
      exact ⟨(k, d), (qd_some H.nd).1 hd, rfl⟩
end Go.Proofs.Ytmdkenpodcnnbaa
namespace Go.Proofs.Ytmdkenpodcnnbaa
set_option linter.unusedSimpArgs false
set_option linter.unusedVariables false
open Go.Sx
def pcl (p : Pr) (i : Nat) : List Nat := (calP (fu p i)).map fun x => x.2.toNat
def rL (p : Pr) : Pl := if rgtP p then rlist p.length (od (rout (pcl p) p.length)) else []
theorem rgtP_of {p : Pr} (h : rgtP p = true) : (1 ≤ p.length ∧ p.length ≤ 64) ∧ badF p 0 = none ∧ ¬ 0 < (fu p 0).params ∧ misF p p 0 = none := by
  simp only [rgtP, whP, beq_iff_eq] at h
  split at h
  · simp at h
  · rename_i hlen
    split at h
    · simp at h
    · rename_i hb
      split at h
      · simp at h
      · rename_i hp
        split at h
        · simp at h
        · rename_i hm
          exact ⟨by omega, hb, hp, hm⟩
theorem misF_ok {p : Pr} : ∀ {l : List Fu} {i : Nat}, misF p l i = none → ∀ f ∈ l, misL p f (calP f) = none
  | [], _, _, f, hf => by simp at hf
  | g :: l, i, h, f, hf => by
    simp only [misF] at h
    split at h
    · cases h
    · rename_i hg
      rcases List.mem_cons.1 hf with rfl | hf
      · exact hg
      · exact misF_ok h f hf
theorem misL_ok {p : Pr} {f : Fu} : ∀ {L : Pl}, misL p f L = none → ∀ x ∈ L, misB p f x = false
  | [], _, x, hx => by simp at hx
  | y :: L, h, x, hx => by
    simp only [misL] at h
    split at h
    · cases h
    · rename_i hy
      rcases List.mem_cons.1 hx with rfl | hx
      · simpa using hy
      · exact misL_ok h x hx
theorem call_lt {p : Pr} (h : rgtP p = true) {i : Nat} (hi : i < p.length) {x : Int × Int} (hx : x ∈ calP (fu p i)) : 0 ≤ x.2 ∧ x.2 < p.length := by
  obtain ⟨k, hk, e⟩ := List.getElem_of_mem hx
  obtain ⟨m, hm, rfl, _, h0, _⟩ := calP_get (f := fu p i) (k := k) (x := x) (by rw [List.getElem?_eq_getElem hk, e])
  refine ⟨h0, ?_⟩
  have h1 := misL_ok (misF_ok (rgtP_of h).2.2.2 (fu p i) (by rw [fu_eq hi]; exact List.getElem_mem _)) _ hx
  simp only [misB, Bool.or_eq_false_iff, decide_eq_false_iff_not] at h1
  omega
theorem pcl_lt {p : Pr} (h : rgtP p = true) : ∀ i, ∀ j ∈ pcl p i, j < p.length := by
  intro i j hj
  obtain ⟨x, hx, rfl⟩ := List.mem_map.1 hj
  rcases Nat.lt_or_ge i p.length with q | q
  · have := call_lt h q hx; omega
  · have : fu p i = fuD := by simp [fu, q]
    rw [this] at hx
    have e : calP fuD = [] := by decide
    rw [e] at hx; simp at hx

def qEi : Nat → Qu → MEs
  | _, [] => []
  | i, e :: Q => ((e.1 : Int), .int .i64 e.2, i) :: qEi (i + 1) Q
theorem qE_snoc (e : Nat × Nat) : ∀ (Q : Qu) (i : Nat), qEi i (Q ++ [e]) = qEi i Q ++ [((e.1 : Int), .int .i64 e.2, i + Q.length)]
  | [], i => by simp [qEi]
  | x :: Q, i => by simp [qEi, qE_snoc e Q (i + 1)]; omega
theorem qE_get (x : Nat) : ∀ (Q : Qu) (i : Nat), mget (x : Int) (qEi i Q) = (qd Q x).map fun d : Nat => Value.int .i64 d
  | [], i => rfl
  | e :: Q, i => by
    simp only [qEi, mget, qd, List.find?_cons]
    by_cases h : e.1 = x
    · simp [h]
    · have : (e.1 == x) = false := by simpa using h
      simp only [this, Bool.false_eq_true, if_false]
      rw [if_neg (by omega)]
      exact qE_get x Q (i + 1)
theorem qE_len : ∀ (Q : Qu) (i : Nat), (qEi i Q).length = Q.length
  | [], _ => rfl
  | e :: Q, i => by simp [qEi, qE_len Q (i + 1)]
theorem qE_keys : ∀ (Q : Qu) (i : Nat), (qEi i Q).map (·.1) = Q.map fun e => ((e.1 : Nat) : Int)
  | [], _ => rfl
  | e :: Q, i => by simp [qEi, qE_keys Q (i + 1)]
theorem qd_has {Q : Qu} {x : Nat} : (qd Q x).isSome = qhas Q x := by
  rw [Bool.eq_iff_iff]
  simp [qd, qhas, List.find?_isSome]
theorem qd_none {Q : Qu} {x : Nat} (h : qhas Q x = false) : qd Q x = none := by
  rw [← qd_has] at h
  cases hq : qd Q x with
  | none => rfl
  | some d => rw [hq] at h; cases h

set_option maxHeartbeats 4000000
theorem reach1_ok (G : Hp) : Iter Try.prog 31 [] G (encII []) 0 := by
  intro lp A B hy
  refine enterZ ty tyok Try.func31 rfl Try.ntmps31 [.v (.func (.yield lp) #[] #[])] (by simp) ?_
  intro C Z M hP hQ hnt hty hmb hmh hro hG0; have hQp := qp_body hQ; refine st_ ?_
  refine rn_ ?_; intros
  refine go_endZ hQ hmb hmh hG0 rfl (by rw [hty]; simp only [so, sq, zy, zz, tyE, SO', SQ', opQ, opStore, opAlloc, ev, putS, dOk, cv, SV.cs, SV.one, SV.bool?, eqB, Value.oneCell', ldOwn, binInt, binConst, binBool, binStr, isC, TK.agg, rv, rv1, ldV, resOne, resV, Nat.reduceAdd, Nat.reduceMul, Nat.reduceSub, Nat.reduceLT, Nat.reduceLeDiff, Nat.reduceEqDiff, Nat.reduceBEq, reduceIte, reduceCtorEq, eq_self]; try rfl) rfl rfl ?_
  exact .inl rfl
theorem reach2_ok (L : Pl) (b1 b3 bm c : Nat) (s1 : Value) (es : MEs) (G : Hp) (h1 : At G b1 0 [s1]) (h3 : At G b3 0 [.map (some bm)]) (hm : G bm = some (mObj .i64 es c)) (hS1 : rI.S G (L.map (·.1)) s1) (hg : ∀ x ∈ L, mget x.1 es = some (.int .i64 x.2)) :
    Iter Try.prog 34 [.pointer (some ⟨b1, 0, none⟩), .pointer (some ⟨b3, 0, none⟩)] G (encII L) L.length := by
  obtain ⟨ad1, cap1, rfl⟩ := Rp.S_slice hS1
  have h63 := Rp.S_len hS1
  simp only [List.length_map] at h63 hS1 h1
  intro lp A B hy
  refine enterZ ty tyok Try.func34 rfl Try.ntmps34 [.v (.func (.yield lp) #[] #[]), .v (.pointer (some ⟨b1, 0, none⟩)), .v (.pointer (some ⟨b3, 0, none⟩))] (by simp) ?_
  intro C Z M hP hQ hnt hty hmb hmh hro hG0; have hQp := qp_body hQ; refine st_ ?_
  have hy' : YOk C.P lp A B (encII L) L.length := by rw [hP]; exact hy
  refine rn_ ?_; intros
  refine go_q (by rw [hnt]; rfl) (quiet_load (by rw [hty]; rfl) rfl (by simp [TK.agg]) h1 rfl) ?_; refine rn_ ?_; intros
  refine go_keep [0, 1, 2, 6, 7, 8] [0] ?_
  refine st_ ?_
  refine x_loop rfl (fun q s => ∃ (k : Nat) (G' : Hp) (Z' M' : Nat → Prop), k ≤ L.length ∧ q = L.length - k ∧ Le G G' ∧
    s = ⟨[(0, .v (.func (.yield lp) #[] #[])), (1, .v (.pointer (some ⟨b1, 0, none⟩))), (2, .v (.pointer (some ⟨b3, 0, none⟩))), (6, .v (.slice ad1 L.length cap1)), (7, .v (.int .i64 L.length)), (8, .v (.int .i64 k))], [(0, 0, .z (lim (A k) Z C.w0.heap.size) Z' M')], G', []⟩)
    ⟨0, G, _, _, by omega, rfl, Le.refl _, rfl⟩ ?_
  rintro q s ⟨k, G1, Z1, M1, hk, hq, hle, rfl⟩ ih
  refine rn_ ?_; intros
  refine x_if rfl rfl rfl rfl (fun hjl => ?_) (fun hjl => ?_)
  · have hlt : k < L.length := by simp at hjl; omega
    obtain ⟨c1, o1, rfl, ha1⟩ := rI_at hS1 (i := k) (by simpa using hlt)
    simp only [List.getElem_map] at ha1
    have hgk := hg _ (List.getElem_mem hlt)
    refine rn_ ?_; intros
    refine go_q (by rw [hnt]; rfl) (quiet_index (by rw [hty]; rfl) (by rw [hty]; rfl) rfl rfl rfl (by omega) (by omega)) ?_
    refine rn_ ?_; intros
    refine go_q (by rw [hnt]; rfl) (quiet_load (vs := [.int .i64 L[k].1]) (by rw [hty]; rfl) rfl (by simp [TK.agg]) (by simpa using ha1.mono hle) rfl) ?_
    refine rn_ ?_; intros
    refine go_q (by rw [hnt]; rfl) (quiet_load (by rw [hty]; rfl) rfl (by simp [TK.agg]) (h3.mono hle) rfl) ?_
    refine rn_ ?_; intros
    refine go_q (v := .int .i64 L[k].2) (by rw [hnt]; rfl) ((quiet_lookupG (z := .int .i64 0) (by rw [hty]; rfl) (by rw [hty]; rfl) (by rw [hP]; exact ⟨_, (by kernel_rfl : Try.prog.info? 3 = some Try.t3), rfl⟩) rfl rfl (hle _ _ hm)).cast (by simp [hgk])) ?_
    refine rn_ ?_; intros
    refine go_yield 0 hy' (by rw [hnt]; rfl) rfl rfl rfl rfl hlt (⟨L[k], List.getElem?_eq_getElem hlt, rfl⟩) (fun Z2 M2 => ?_) (fun Z2 M2 => ?_)
    · refine rn_ ?_; intros
      rw [wr (n := (k : Int) + 1) (by omega) (by omega)]
      refine go_keep [0, 1, 2, 6, 7, 8] [0] ?_
      refine st_ ?_
      exact ih (L.length - (k + 1)) _ (by omega) ⟨k + 1, G1, Z2, M2, by omega, rfl, hle, by simp⟩
    · refine rn_ ?_; intros
      refine x_retZ rfl hQ hmb hmh hG0 rfl (by rw [hty]; simp only [so, sq, zy, zz, tyE, SO', SQ', opQ, opStore, opAlloc, ev, putS, dOk, cv, SV.cs, SV.one, SV.bool?, eqB, Value.oneCell', ldOwn, binInt, binConst, binBool, binStr, isC, TK.agg, rv, rv1, ldV, resOne, resV, Nat.reduceAdd, Nat.reduceMul, Nat.reduceSub, Nat.reduceLT, Nat.reduceLeDiff, Nat.reduceEqDiff, Nat.reduceBEq, reduceIte, reduceCtorEq, eq_self]; try rfl) rfl rfl ?_
      exact .inr rfl
  · have hge : k = L.length := by simp at hjl; omega
    subst hge
    refine rn_ ?_; intros
    refine go_endZ hQ hmb hmh hG0 rfl (by rw [hty]; simp only [so, sq, zy, zz, tyE, SO', SQ', opQ, opStore, opAlloc, ev, putS, dOk, cv, SV.cs, SV.one, SV.bool?, eqB, Value.oneCell', ldOwn, binInt, binConst, binBool, binStr, isC, TK.agg, rv, rv1, ldV, resOne, resV, Nat.reduceAdd, Nat.reduceMul, Nat.reduceSub, Nat.reduceLT, Nat.reduceLeDiff, Nat.reduceEqDiff, Nat.reduceBEq, reduceIte, reduceCtorEq, eq_self]; try rfl) rfl rfl ?_
    exact .inl rfl
end Go.Proofs.Ytmdkenpodcnnbaa
namespace Go.Proofs.Ytmdkenpodcnnbaa
set_option linter.unusedSimpArgs false
set_option linter.unusedVariables false
open Go.RowKit Go.Maps Go.Sort Go.Shelf
def keysA_ren : Go.Shelf.Ren := ⟨fun | 7 => 33 | 10 => 48 | n => n, fun | 23 => 69 | 26 => 3 | 3 => 3 | 28 => 72 | 0 => 0 | 27 => 71 | 33 => 88 | 4 => 4 | n => n, fun | n => n⟩
theorem keysA : Go.Proofs.SlLaysZI.n7 Try.prog keysA_ren where
  mixed := by kernel_rfl
  f7 := ⟨Try.f33.name, by decide, Try.func33.trans (congrArg some (by kernel_rfl))⟩
  f10 := ⟨Try.f48.name, by decide, Try.func48.trans (congrArg some (by kernel_rfl))⟩
  t0 := Try.underlying0
  a0 := Try.isAgg0
  z0 := Try.sizeOf0
  v0 := Try.zeroValue0
  t4 := Try.underlying4
  a4 := Try.isAgg4
  z4 := Try.sizeOf4
  v4 := Try.zeroValue4
  t23 := Try.underlying69
  a23 := Try.isAgg69
  z23 := Try.sizeOf69
  v23 := Try.zeroValue69
  t26 := Try.underlying3
  a26 := Try.isAgg3
  z26 := Try.sizeOf3
  v26 := Try.zeroValue3
  t27 := Try.underlying71
  a27 := Try.isAgg71
  z27 := Try.sizeOf71
  v27 := Try.zeroValue71
  t28 := Try.underlying72
  a28 := Try.isAgg72
  z28 := Try.sizeOf72
  v28 := Try.zeroValue72
  t33 := Try.underlying88
  a33 := Try.isAgg88
  z33 := Try.sizeOf88
  v33 := Try.zeroValue88
def sortedA_ren : Go.Shelf.Ren := ⟨fun | 6 => 32 | 8 => 46 | 9 => 47 | 11 => 56 | 13 => 58 | 12 => 57 | 23 => 71 | 24 => 72 | 14 => 62 | 15 => 63 | 16 => 64 | 17 => 65 | 18 => 66 | 19 => 67 | 20 => 68 | 21 => 69 | 22 => 70 | 25 => 73 | 26 => 74 | 27 => 75 | 28 => 76 | 29 => 77 | 30 => 78 | 31 => 79 | n => n, fun | 26 => 3 | 28 => 72 | 24 => 36 | 0 => 0 | 3 => 3 | 37 => 100 | 48 => 111 | 50 => 113 | 4 => 4 | 40 => 105 | 39 => 104 | 45 => 62 | 5 => 5 | 9 => 9 | 51 => 114 | 55 => 118 | 57 => 120 | 58 => 64 | 33 => 88 | n => n, fun | n => n⟩
theorem sortedA : Go.Proofs.SlLaysZI.n6 Try.prog sortedA_ren where
  mixed := by kernel_rfl
  f6 := ⟨Try.f32.name, by decide, Try.func32.trans (congrArg some (by kernel_rfl))⟩
  f8 := ⟨Try.f46.name, by decide, Try.func46.trans (congrArg some (by kernel_rfl))⟩
  f11 := ⟨Try.f56.name, by decide, Try.func56.trans (congrArg some (by kernel_rfl))⟩
  t0 := Try.underlying0
  a0 := Try.isAgg0
  z0 := Try.sizeOf0
  v0 := Try.zeroValue0
  t24 := Try.underlying36
  a24 := Try.isAgg36
  z24 := Try.sizeOf36
  v24 := Try.zeroValue36
  t26 := Try.underlying3
  a26 := Try.isAgg3
  z26 := Try.sizeOf3
  v26 := Try.zeroValue3
  t28 := Try.underlying72
  a28 := Try.isAgg72
  z28 := Try.sizeOf72
  v28 := Try.zeroValue72
  i26 := by kernel_rfl
def sortA_ren : Go.Shelf.Ren := ⟨fun | 5 => 47 | 8 => 58 | 7 => 57 | 19 => 71 | 20 => 72 | 10 => 62 | 11 => 63 | 12 => 64 | 13 => 65 | 14 => 66 | 15 => 67 | 16 => 68 | 17 => 69 | 18 => 70 | 30 => 73 | 31 => 74 | 32 => 75 | 33 => 76 | 34 => 77 | 35 => 78 | 40 => 79 | n => n, fun | 23 => 36 | 25 => 3 | 3 => 3 | 32 => 100 | 22 => 36 | 0 => 0 | 44 => 111 | 46 => 113 | 4 => 4 | 36 => 105 | 35 => 104 | 41 => 62 | 5 => 5 | 9 => 9 | 53 => 114 | 57 => 118 | 63 => 120 | 64 => 64 | n => n, fun | n => n⟩
theorem sortA : Go.Proofs.SlLaysM.n5 Try.prog sortA_ren where
  mixed := by kernel_rfl
  f5 := ⟨Try.f47.name, by decide, Try.func47.trans (congrArg some (by kernel_rfl))⟩
  f7 := ⟨Try.f57.name, by decide, Try.func57.trans (congrArg some (by kernel_rfl))⟩
  f8 := Try.func58.trans (congrArg some (by kernel_rfl))
  f10 := ⟨Try.f62.name, by decide, Try.func62.trans (congrArg some (by kernel_rfl))⟩
  f11 := ⟨Try.f63.name, by decide, Try.func63.trans (congrArg some (by kernel_rfl))⟩
  f12 := ⟨Try.f64.name, by decide, Try.func64.trans (congrArg some (by kernel_rfl))⟩
  f13 := ⟨Try.f65.name, by decide, Try.func65.trans (congrArg some (by kernel_rfl))⟩
  f14 := ⟨Try.f66.name, by decide, Try.func66.trans (congrArg some (by kernel_rfl))⟩
  f15 := ⟨Try.f67.name, by decide, Try.func67.trans (congrArg some (by kernel_rfl))⟩
  f16 := ⟨Try.f68.name, by decide, Try.func68.trans (congrArg some (by kernel_rfl))⟩
  f17 := ⟨Try.f69.name, by decide, Try.func69.trans (congrArg some (by kernel_rfl))⟩
  f18 := ⟨Try.f70.name, by decide, Try.func70.trans (congrArg some (by kernel_rfl))⟩
  f19 := Try.func71.trans (congrArg some (by kernel_rfl))
  f20 := Try.func72.trans (congrArg some (by kernel_rfl))
  f30 := ⟨Try.f73.name, by decide, Try.func73.trans (congrArg some (by kernel_rfl))⟩
  f31 := Try.func74.trans (congrArg some (by kernel_rfl))
  f32 := Try.func75.trans (congrArg some (by kernel_rfl))
  f33 := ⟨Try.f76.name, by decide, Try.func76.trans (congrArg some (by kernel_rfl))⟩
  f34 := ⟨Try.f77.name, by decide, Try.func77.trans (congrArg some (by kernel_rfl))⟩
  f35 := ⟨Try.f78.name, by decide, Try.func78.trans (congrArg some (by kernel_rfl))⟩
  f40 := ⟨Try.f79.name, by decide, Try.func79.trans (congrArg some (by kernel_rfl))⟩
  t0 := Try.underlying0
  a0 := Try.isAgg0
  z0 := Try.sizeOf0
  v0 := Try.zeroValue0
  t3 := Try.underlying3
  a3 := Try.isAgg3
  z3 := Try.sizeOf3
  v3 := Try.zeroValue3
  t4 := Try.underlying4
  a4 := Try.isAgg4
  z4 := Try.sizeOf4
  v4 := Try.zeroValue4
  t5 := Try.underlying5
  a5 := Try.isAgg5
  z5 := Try.sizeOf5
  v5 := Try.zeroValue5
  t9 := Try.underlying9
  a9 := Try.isAgg9
  z9 := Try.sizeOf9
  v9 := Try.zeroValue9
  t22 := Try.underlying36
  a22 := Try.isAgg36
  z22 := Try.sizeOf36
  v22 := Try.zeroValue36
  t23 := Try.underlying36
  a23 := Try.isAgg36
  z23 := Try.sizeOf36
  v23 := Try.zeroValue36
  t25 := Try.underlying3
  a25 := Try.isAgg3
  z25 := Try.sizeOf3
  v25 := Try.zeroValue3
  t32 := Try.underlying100
  a32 := Try.isAgg100
  z32 := Try.sizeOf100
  v32 := Try.zeroValue100
  t35 := Try.underlying104
  a35 := Try.isAgg104
  z35 := Try.sizeOf104
  v35 := Try.zeroValue104
  t36 := Try.underlying105
  a36 := Try.isAgg105
  z36 := Try.sizeOf105
  v36 := Try.zeroValue105
  t41 := Try.underlying62
  a41 := Try.isAgg62
  z41 := Try.sizeOf62
  v41 := Try.zeroValue62
  t44 := Try.underlying111
  a44 := Try.isAgg111
  z44 := Try.sizeOf111
  v44 := Try.zeroValue111
  t46 := Try.underlying113
  a46 := Try.isAgg113
  z46 := Try.sizeOf113
  v46 := Try.zeroValue113
  t53 := Try.underlying114
  a53 := Try.isAgg114
  z53 := Try.sizeOf114
  v53 := Try.zeroValue114
  t57 := Try.underlying118
  a57 := Try.isAgg118
  z57 := Try.sizeOf118
  v57 := Try.zeroValue118
  t63 := Try.underlying120
  a63 := Try.isAgg120
  z63 := Try.sizeOf120
  v63 := Try.zeroValue120
  t64 := Try.underlying64
  a64 := Try.isAgg64
  z64 := Try.sizeOf64
  v64 := Try.zeroValue64
end Go.Proofs.Ytmdkenpodcnnbaa
namespace Go.Sx
set_option linter.unusedSimpArgs false
set_option linter.unusedVariables false
theorem grow_alloc1 {w : World} {G : Hp} (hw : Has w G) (o : Obj) : Grow [] w G (w.alloc o) (fun j => if j = w.heap.size then some o else G j) := by
  refine ⟨rfl, rfl, rfl, by simp, fun k hk _ => alloc_old w o hk, fun b x e => ?_, fun b hb => ?_⟩
  · change (if b = w.heap.size then some o else G b) = some x at e
    split at e
    · rename_i h; cases e; rw [h]; exact alloc_new w o
    · have := hw b x e; rw [alloc_old w o (lt_of_heap this)]; exact this
  · show (if b = w.heap.size then some o else G b) = G b
    rw [if_neg (by omega)]
end Go.Sx
namespace Go.Proofs.Ytmdkenpodcnnbaa
open Go.Sx Go.RowKit Go.Maps Go.Sort Go.Shelf Go.MapKept
theorem keys_ok (b : Nat) (G : Hp) : Pure Try.prog 33 [.map (some b)] G (fun v G' => ∃ bb, v = .func (.func 48) #[] #[.pointer (some ⟨bb, 0, none⟩)] ∧ At G' bb 0 [.map (some b)]) := by
  intro w hw
  have h := (callsIn_wide (n := 5)).1 (AnyZI.keys_in keysA Fence.wide 5 trivial rfl (some b) w)
  refine h.mono ?_
  rintro e w' ⟨rfl, rfl⟩
  exact ⟨_, _, rfl, grow_alloc1 hw _, w.heap.size, rfl, at_cells (vs := [.map (some b)]) (e := 69) (by simp; rfl)⟩
theorem sortsA (m : Nat) : AnyZI.SortsIn Try.prog sortedA_ren Fence.wide m :=
  ⟨fun blk off cap ss W hH hblk hsz => callsIn_wide.2 (AnyM.slices_Sort_int sortA blk off cap ss W hH hblk hsz),
   fun p cap W => callsIn_wide.2 (AnyM.slices_Sort_int_none sortA p cap W)⟩
def anyR (_ : Value) : Option (DataW Unit × List MemPlace) := some (.nil, [])
theorem owns_of {w : World} {b c : Nat} {es : MEs} (h : w.heap[b]? = some (mObj .i64 es c)) (h1 : ∀ x ∈ es, isI64 x.1 ∧ x.2.2 < c) (h2 : (es.map (·.1)).Nodup) (h3 : (es.map (·.2.2)).Nodup) (hl : es.length ≤ 1000000) :
    ∃ D : DataW Unit, w.ownsMap Try.prog 3 anyR b es.length D ∧ (intKeys D).Perm (es.map (·.1)) ∧ Maps.size D = es.length := by
  have hkey : ∀ x ∈ es, keyOf Try.prog 3 (.int .i64 x.1) = some (.int .i64 x.1) := fun x hx => keyOf_int_mk Try.underlying3 (by have := (h1 x hx).1; simp only [isI64] at this; simp [Lit.wf, IntKind.min, IntKind.max, IntKind.bits, IntKind.signed]; omega)
  have hrd : ∀ x ∈ es, WideElems.rd Try.prog 3 anyR (mEnt .i64 x) = some (.int .i64 x.1, .nil) := fun x hx => WideElems.rd_mk (R := anyR) (val := x.2.1) (born := x.2.2) (yv := (.nil, [])) (hkey x hx) rfl
  refine ⟨_, ⟨(es.map (mEnt .i64)).toArray, c, h, ⟨by simp [maxLen]; omega, ⟨?_, ?_, ?_⟩, ?_⟩, by simp, rfl⟩, ?_, ?_⟩
  · intro x hx
    simp at hx
    obtain ⟨y, z, u, hy, rfl⟩ := hx
    exact (h1 _ hy).2
  · simpa [List.map_map, Function.comp_def, mEnt] using h3
  · have : ((es.map (mEnt .i64)).toArray.toList.map (·.key)) = (es.map (·.1)).map (Value.int .i64) := by simp [List.map_map, Function.comp_def, mEnt]
    rw [this, List.nodup_iff_pairwise_ne, List.pairwise_map]
    exact (List.nodup_iff_pairwise_ne.1 h2).imp fun {a b} hab e => hab (by cases e; rfl)
  · intro x hx
    simp at hx
    obtain ⟨y, z, u, hy, rfl⟩ := hx
    exact ⟨_, hrd _ hy⟩
  · have hm : ((es.map (mEnt .i64)).toArray.toList.map (WideElems.rg Try.prog 3 anyR)) = es.map fun x => ((.int .i64 x.1 : Lit), (.nil : DataW Unit)) := by
      rw [List.map_map]
      refine List.map_congr_left fun x hx => ?_
      rw [Function.comp_apply]
      exact WideElems.rg_of (hrd x hx)
    rw [hm]
    simp only [intKeys]
    have := (WideShapes.sorted_perm (es.map fun x => ((.int .i64 x.1 : Lit), (.nil : DataW Unit)))).map fun p => Go.intOf p.1
    refine this.trans ?_
    rw [List.map_map]
    exact List.Perm.refl _
  · simp only [Maps.size, DataW.length_sorted]
    simp
theorem sorted_ok (b bb c : Nat) (es : MEs) (G : Hp) (h : G b = some (mObj .i64 es c)) (hb : At G bb 0 [.map (some b)]) (h1 : ∀ x ∈ es, isI64 x.1 ∧ x.2.2 < c) (h2 : (es.map (·.1)).Nodup) (h3 : (es.map (·.2.2)).Nodup) (hl : es.length ≤ 1000000) :
    Pure Try.prog 32 [.func (.func 48) #[] #[.pointer (some ⟨bb, 0, none⟩)]] G (fun v G' => rI.S (diff G' G) ((es.map (·.1)).mergeSort leZ) v) := by
  intro w hw
  obtain ⟨D, hown, hperm, hsz⟩ := owns_of (hw _ _ h) h1 h2 h3 hl
  obtain ⟨arr, e0, fz, a1, a2, a3⟩ := hb
  have hbw := hw _ _ a1
  have hcell : w.cell? ⟨bb, 0, none⟩ = some (.map (some b)) := by
    rw [cell_at hbw]
    have := a3 0 (by simp)
    simpa using this
  have hseq := AnyZI.keys_gives (ρ := keysA_ren) { keysA with } Fence.wide 2 trivial rfl (by omega) bb b es.length D w (lt_of_heap hbw) hcell hown
  have cS := AnyZI.sorted_in sortedA Fence.wide 5 trivial trivial trivial trivial rfl (by omega) (sortsA _) (enters_of Try.func47 (by kernel_rfl) rfl) 48 #[.pointer (some ⟨bb, 0, none⟩)] trivial (enters_of Try.func48 (by kernel_rfl) rfl) _ (Maps.size D) (by rw [hsz]; simp only [maxLen]; omega) (by rw [hsz]; omega) w hseq
  refine ((callsIn_wide (n := 5)).1 cS).mono ?_
  rintro e w' ⟨v, ss, rfl, hS, hrow, hnil, hB⟩
  have hsort : ss.mergeSort (fun x y => decide (x ≤ y)) = (es.map (·.1)).mergeSort leZ := sort_perm (hS.trans hperm)
  rw [hsort] at hrow
  have hlen : ss.length = ((es.map (·.1)).mergeSort leZ).length := by
    rw [← hsort]; simp
  rw [hlen] at hrow
  have h64 : ∀ n ∈ (es.map (·.1)).mergeSort leZ, isI64 n := fun n hn => by
    rw [List.mem_mergeSort] at hn
    obtain ⟨x, hx, rfl⟩ := List.mem_map.1 hn
    exact (h1 x hx).1
  have hll : ((es.map (·.1)).mergeSort leZ).length ≤ 1000000 := by simpa using hl
  generalize (es.map (·.1)).mergeSort leZ = L at *
  have hlt := hrow.lt
  rcases hrow.2 with ⟨q1, q2⟩ | ⟨g0, cap, cur, q1, hbg, hgg, hnc, hcm, hcss, htake⟩
  · subst q1
    have : L = [] := List.length_eq_zero_iff.1 q2
    subst this
    refine ⟨_, G, rfl, ⟨hB.os, hB.tape, hB.output, hB.size, fun k hk _ => hB.block k hk, fun j y e => ?_, fun _ _ => rfl⟩, Rp.S_nil _ _⟩
    have := hw j y e
    rw [hB.block j (lt_of_heap this)]; exact this
  · subst q1
    obtain ⟨x, hx, hat⟩ := row_block hrow
    have hgn : G g0 = none := by
      cases hq : G g0 with
      | none => rfl
      | some o => have := lt_of_heap (hw _ _ hq); omega
    refine ⟨_, fun j => if j = g0 then some x else G j, rfl, ⟨hB.os, hB.tape, hB.output, hB.size, fun k hk _ => hB.block k hk, fun j y e => ?_, fun j hj => ?_⟩, ?_⟩
    · change (if j = g0 then some x else G j) = some y at e
      split at e
      · rename_i q; subst q; cases e; exact hx
      · have := hw j y e
        rw [hB.block j (lt_of_heap this)]; exact this
    · show (if j = g0 then some x else G j) = G j
      rw [if_neg (by omega)]
    · exact ⟨by omega, _, _, rfl, .inr ⟨_, _, _, rfl, at_diff (hat _ (by simp)) hgn, rI_L.2 ⟨rfl, h64⟩⟩⟩
end Go.Proofs.Ytmdkenpodcnnbaa
namespace Go.Sx
set_option linter.unusedSimpArgs false
set_option linter.unusedVariables false
theorem go_asO {C : Ctx} {K : List KI} {s : St} (k : Nat) {b : Nat} {e : TypeId} {cells : List SV} (hk : lk k s.own = some (b, .c e cells)) (h : SGo C K ⟨s.sl, stk k (b, .o (.cells (dens cells).toArray e)) s.own, s.G, s.df⟩) : SGo C K s := by
  intro a w hS
  have hh := (hS.mem.own _ _ _ hk).1
  simp only [OO.holds] at hh
  have hm := hS.mem.put hk (b' := b) (o' := .o (.cells (dens cells).toArray e)) rfl rfl rfl (Nat.le_refl _) (fun j _ _ => rfl) hh (fun g => ⟨.inl, .inl⟩)
  exact h a w ⟨hS.sl, hS.nt, hS.df, hm⟩
end Go.Sx
namespace Go.Proofs.Ytmdkenpodcnnbaa
open Go.Sx
theorem BInv.dle {cl : Nat → List Nat} {n : Nat} {Q : Qu} {h : Nat} {js : List Nat} (H : BInv cl n Q h js) : ∀ (m : Nat) (x : Nat × Nat), Q[m]? = some x → x.2 ≤ m := by
  intro m
  induction m using Nat.strongRecOn with
  | _ m ih =>
    intro x hx
    rcases Nat.eq_zero_or_pos m with q | q
    · subst q; rw [H.z] at hx; cases hx; simp
    · obtain ⟨p, y, hp, hpy, h1, _⟩ := H.par m x q hx
      have := ih p hp y hpy
      omega
theorem qE_mem : ∀ (Q : Qu) (i : Nat), ∀ x ∈ qEi i Q, (∃ e ∈ Q, x.1 = ((e.1 : Nat) : Int)) ∧ i ≤ x.2.2 ∧ x.2.2 < i + Q.length
  | [], _, x, hx => by simp [qEi] at hx
  | e :: Q, i, x, hx => by
    simp only [qEi, List.mem_cons] at hx
    rcases hx with rfl | hx
    · exact ⟨⟨e, by simp, rfl⟩, by simp, by simp⟩
    · obtain ⟨⟨y, h1, h2⟩, h3, h4⟩ := qE_mem Q (i + 1) x hx
      exact ⟨⟨y, by simp [h1], h2⟩, by omega, by simp; omega⟩
theorem qE_births : ∀ (Q : Qu) (i : Nat), ((qEi i Q).map (·.2.2)).Nodup
  | [], _ => by simp [qEi]
  | e :: Q, i => by
    simp only [qEi, List.map_cons, List.nodup_cons]
    refine ⟨fun hm => ?_, qE_births Q (i + 1)⟩
    obtain ⟨x, hx, he⟩ := List.mem_map.1 hm
    have := (qE_mem Q (i + 1) x hx).2.1
    omega
theorem qE_bd {cl : Nat → List Nat} {n : Nat} {Q : Qu} {h : Nat} {js : List Nat} (H : BInv cl n Q h js) (hn : n ≤ 64) : ∀ x ∈ qEi 0 Q, isI64 x.1 ∧ x.2.2 < Q.length := by
  intro x hx
  obtain ⟨⟨e, he, h1⟩, _, h3⟩ := qE_mem Q 0 x hx
  have := H.lt e he
  exact ⟨by rw [h1]; simp only [isI64]; omega, by omega⟩
theorem qE_nd {cl : Nat → List Nat} {n : Nat} {Q : Qu} {h : Nat} {js : List Nat} (H : BInv cl n Q h js) : ((qEi 0 Q).map (·.1)).Nodup := by
  rw [qE_keys]
  have : (Q.map fun e => ((e.1 : Nat) : Int)) = (Q.map (·.1)).map fun k : Nat => (k : Int) := by simp
  rw [this, List.nodup_iff_pairwise_ne, List.pairwise_map]
  exact H.nd.imp fun {a b} hab => by omega
def qN (Q : Qu) : List Value := Q.map fun e => .int .i64 e.1
set_option maxHeartbeats 8000000
theorem reach_ok (p : Pr) (ps : Value) (G : Hp) (hps : rF.S G p ps) :
    Pure Try.prog 17 [.agg #[ps]] G (fun v G' => ∃ fn cap, v = .func (.func fn) #[] cap.toArray ∧ canCall Try.prog fn = true ∧ Iter Try.prog fn cap (diff G' G) (encII (rL p)) (rL p).length) := by
  have hps0 := hps
  obtain ⟨adp, capp, rfl⟩ := Rp.S_slice hps
  refine enterM ty tyok Try.func17 rfl Try.ntmps17 [.a [.v (.slice adp p.length capp)]] (by simp) ?_
  intro C hP hQ hnt hty hmb hmh hro; have hQp := qp_bodyM hQ; refine st_ ?_
  refine rn_ ?_; intros
  rename_i b1
  refine go_marks 20 rfl (by omega) ?_
  refine st_ ?_
  refine go_callf (by rw [hnt]; rfl) (by rw [hP]; kernel_rfl) rfl (hP ▸ checkp_ok p _ G hps0) ?_; refine rn_ ?_; intros
  refine x_split rfl rfl rfl (fun hr => ?_) (fun hr => ?_) <;> (refine st_ ?_; (refine ru_ ?_; intros))
  · have hr' : rgtP p = false := by simpa [rgtP] using hr
    refine x_retM 20 rfl hQ hmb rfl rfl rfl (by rw [hty]; simp only [so, sq, zy, zz, tyE, SO', SQ', opQ, opStore, opAlloc, ev, putS, dOk, cv, SV.cs, SV.one, SV.bool?, eqB, Value.oneCell', ldOwn, binInt, binConst, binBool, binStr, isC, TK.agg, rv, rv1, ldV, resOne, resV, Nat.reduceAdd, Nat.reduceMul, Nat.reduceSub, Nat.reduceLT, Nat.reduceLeDiff, Nat.reduceEqDiff, Nat.reduceBEq, reduceIte, reduceCtorEq, eq_self]; try rfl) ?_; simp only [SV.den, resV, dens]
    refine ⟨31, [], rfl, by kernel_rfl, ?_⟩
    have : rL p = [] := by simp [rL, hr']
    rw [this]
    exact reach1_ok _
  have hr' : rgtP p = true := by simpa [rgtP] using hr
  have hlen := (rgtP_of hr').1
  have hlt := pcl_lt hr'
  refine rn_ ?_; intros
  refine go_mkmap 70 .i64 (by rw [hnt]; rfl) rfl (by omega) ?_
  intro bm
  refine rn_ ?_; intros
  refine go_mupd 70 (.inr rfl) (by rw [hnt]; rfl) (by rw [hty]; rfl) (by rw [hty]; rfl) rfl rfl rfl rfl ?_
  refine rn_ ?_; intros
  rename_i b2 b3 b4
  refine go_see 73 [.v (.slice (some ⟨b3, 0, none⟩) 1 1)] rfl (by simp [dens, SV.den]) ?_
  refine go_asO 72 rfl ?_
  refine go_keep [1, 3, 4] [0, 20, 70, 71, 72, 73] ?_
  refine st_ ?_
  refine x_loop rfl (fun q s => ∃ (h : Nat) (Q : Qu) (g off cap : Nat) (cur : Array Value) (b4 : Nat) (ds : List Nat) (G' : Hp), BInv (pcl p) p.length Q h [] ∧ h ≤ Q.length ∧ q = p.length - h ∧ Le G G' ∧ QS cur off cap (qN (Q.drop h)) ∧
    s = ⟨[(1, .p 0 b1 0), (3, .p 71 b2 0), (4, .p 73 b4 0)], [(0, b1, .c 24 [.v (.slice adp p.length capp)]), (20, 0, dzO ds), (70, bm, .o (mObj .i64 (qEi 0 Q) Q.length)), (71, b2, .c 69 [.v (.map (some bm))]),
      (72, g, .o (.cells cur 3)), (73, b4, .c 36 [.v (.slice (some ⟨g, off, none⟩) (Q.length - h) cap)])], G', ds.map mkD⟩)
    ⟨0, [(0, 0)], b3, 0, 1, #[.int .i64 0], b4, [], G, BInv.start _ (by omega), by simp, rfl, Le.refl _, ⟨by simp [qN], fun _ => by simp, fun i hi => by simp [qN] at hi; subst hi; rfl⟩, rfl⟩ ?_
  clear b3 b4
  rintro q s ⟨h, Q, g, off, cap, cur, b4, ds, G1, hB, hh, hq, hle1, hQS, rfl⟩ ih
  have hQn := hB.len
  refine rn_ ?_; intros
  refine x_if rfl rfl rfl rfl (fun hne => ?_) (fun hne => ?_)
  · have hhl : h < Q.length := by simp at hne; omega
    obtain ⟨y, hy⟩ : ∃ y, Q[h]? = some y := ⟨Q[h], List.getElem?_eq_getElem hhl⟩
    have hyn : y.1 < p.length := hB.lt y (List.mem_of_getElem? hy)
    have hdr : Q.drop h = y :: Q.drop (h + 1) := by
      obtain ⟨hk, e⟩ := List.getElem?_eq_some_iff.1 hy
      rw [List.drop_eq_getElem_cons hk, e]
    obtain ⟨bp, op, nsp, rfl, hatp, hpp, hnp⟩ := rF_at hps0 hyn
    have hnp1 := Rp.S_mono hle1 hnp
    have hca := calls_ok (fu p y.1) nsp G1 hpp hnp1
    obtain ⟨adn, capn, rfl⟩ := Rp.S_slice hnp
    have hc0 : cur[off]? = some (.int .i64 y.1) := by
      have := hQS.2.2 0 (by rw [hdr]; simp [qN])
      rw [hdr] at this
      simpa [qN] using this
    refine rn_ ?_; intros
    refine go_q (by rw [hnt]; rfl) (quiet_index (by rw [hty]; rfl) (by rw [hty]; rfl) rfl rfl rfl (by omega) (by omega)) ?_
    refine rn_ ?_; intros
    refine go_q (by rw [hnt]; rfl) (quiet_loadO 72 (v := .int .i64 y.1) (by rw [hty]; rfl) rfl rfl rfl rfl (by simpa using hc0)) ?_
    refine rn_ ?_; intros
    refine go_q (by rw [hnt]; rfl) (quiet_index (by rw [hty]; rfl) (by rw [hty]; rfl) rfl rfl rfl (by omega) (by omega)) ?_
    refine rn_ ?_; intros
    refine go_q (by rw [hnt]; rfl) (quiet_load (by rw [hty]; rfl) rfl (by simp [TK.agg]) (hatp.mono hle1) rfl) ?_
    refine rn_ ?_; intros
    rename_i b5
    refine go_call (by rw [hnt]; rfl) (by rw [hP]; kernel_rfl) rfl (hP ▸ hca) ?_
    rintro v G2 (hle2 : Le G1 G2) ⟨fn, cp, rfl, hfc, hit⟩
    replace hit := hit.mono (diff_le G2 G1)
    refine rn_ ?_; intros
    refine go_keep [1, 3, 4, 5, 30] [0, 20, 70, 71, 72, 73, 74] ?_
    refine st_ ?_
    refine x_range 20 rfl rfl (ps := #[31, 32]) rfl hro hmh rfl rfl hfc (by rw [hnt]; decide) hit (encII_mono _) (fun _ _ _ h => by obtain ⟨_, _, rfl⟩ := h; rfl)
      (fun k own => ∃ (Q' : Qu) (g off cap : Nat) (cur : Array Value), BInv (pcl p) p.length Q' h (((calP (fu p y.1)).take k).map fun x => x.2.toNat) ∧ Q'[h]? = some y ∧ h ≤ Q'.length ∧ QS cur off cap (qN (Q'.drop h)) ∧
        own = [(0, b1, .c 24 [.v (.slice (some ⟨bp, op, none⟩) p.length capp)]), (20, 0, dzO ds), (70, bm, .o (mObj .i64 (qEi 0 Q') Q'.length)), (71, b2, .c 69 [.v (.map (some bm))]),
      (72, g, .o (.cells cur 3)), (73, b4, .c 36 [.v (.slice (some ⟨g, off, none⟩) (Q'.length - h) cap)]), (74, b5, .c 3 [.v (.int .i64 y.1)])])
      (fun _ _ => False)
      (fun i own h => by obtain ⟨_, _, _, _, _, _, _, _, _, rfl⟩ := h; exact ⟨keys_lt rfl, (by repeat (first | exact plain_nil | refine plain_cons (fun _ h => h) ?_)), rfl⟩) (fun _ _ h => h.elim) ⟨Q, g, off, cap, cur, by simpa using hB, hy, hh, hQS, rfl⟩ ?_ ?_ ?_
    · rintro C' C0 k own vs G7 lp D r hiN ⟨Q', g', off', cap', cur', hB', hy', hh', hQS', rfl⟩ (hle7 : Le G2 G7) ⟨x, hLk, rfl⟩ hR
      have htk2 : (calP (fu p y.1)).take (k + 1) = (calP (fu p y.1)).take k ++ [x] := by
        obtain ⟨hk, e⟩ := List.getElem?_eq_some_iff.1 hLk
        rw [← e, List.take_append_getElem]
      have hxm : x ∈ calP (fu p y.1) := List.mem_of_getElem? hLk
      have hxr := call_lt hr' hyn hxm
      obtain ⟨t, ht⟩ : ∃ t : Nat, x.2 = t := ⟨x.2.toNat, by omega⟩
      have htp : t ∈ pcl p y.1 := List.mem_map.2 ⟨x, hxm, by rw [ht]; rfl⟩
      have htn : t < p.length := by omega
      have hadd := hB'.add hy' htp htn
      have hn63 := hlen.2
      have hQn' := hB'.len
      have hnt2 := hR.nt.trans hnt; have hty2 := hR.ty.trans hty; have hP2 := hR.P.trans hP; clear hQ hQp hnt hty hP hmh hmb hro; have hnt := hnt2; have hty := hty2; have hP := hP2; have hmh := hR.mh; have hQp := hR.qp; simp only [putsS, List.toList_toArray]; refine st_ ?_
      refine rn_ ?_; intros
      refine go_br rfl hR.ready ?_
      refine st_ ?_
      simp only [ht]
      refine rn_ ?_; intros
      refine go_q (v := .tuple #[.int .i64 ((qd Q' t).getD 0 : Nat), .bool (qhas Q' t)]) (by rw [hnt]; rfl) ((quiet_lookup 70 (z := .int .i64 0) (by rw [hty]; rfl) (by rw [hty]; rfl) (by rw [hP]; exact ⟨_, (by kernel_rfl : Try.prog.info? 3 = some Try.t3), rfl⟩) rfl rfl rfl).cast (by
        rw [qE_get, if_pos rfl, ← qd_has]; cases qd Q' t <;> rfl)) ?_
      refine rn_ ?_; intros
      refine x_if rfl rfl rfl rfl (fun hnew => ?_) (fun hnew => ?_)
      · have hnew' : qhas Q' t = false := by simpa using hnew
        have hqa : qadd y.2 Q' t = Q' ++ [(t, y.2 + 1)] := by simp [qadd, hnew']
        rw [hqa] at hadd
        have hy2 : qd Q' y.1 = some y.2 := (qd_some hB'.nd).2 (List.mem_of_getElem? hy')
        refine rn_ ?_; intros
        refine go_q (v := .int .i64 y.2) (by rw [hnt]; rfl) ((quiet_lookup 70 (z := .int .i64 0) (by rw [hty]; rfl) (by rw [hty]; rfl) (by rw [hP]; exact ⟨_, (by kernel_rfl : Try.prog.info? 3 = some Try.t3), rfl⟩) rfl rfl rfl).cast (by
          rw [qE_get, hy2]; rfl)) ?_
        refine rn_ ?_; intros
        refine go_mupd 70 (.inl rfl) (by rw [hnt]; rfl) (by rw [hty]; rfl) (by rw [hty]; rfl) rfl rfl rfl rfl ?_
        have hyd := hB'.dle h y hy'
        rw [wr (n := (y.2 : Int) + 1) (by omega) (by omega)]
        have hm1 : mput (t : Int) (SV.v (.int .i64 ((y.2 : Int) + 1))).den Q'.length (qEi 0 Q') = qEi 0 (Q' ++ [(t, y.2 + 1)]) := by
          rw [mput_none (by rw [qE_get, qd_none hnew']; rfl), qE_snoc]; simp [SV.den]
        have hm2 : mclk (t : Int) Q'.length (qEi 0 Q') = (Q' ++ [(t, y.2 + 1)]).length := by
          simp only [mclk, qE_get, qd_none hnew']; simp
        rw [hm1, hm2]
        refine rn_ ?_; intros
        refine go_qappend 72 (v := .int .i64 t) (by rw [hnt]; rfl) (by rw [hty]; rfl) (by rw [hty]; rfl) rfl rfl rfl rfl (src_own (r := [.v (.int .i64 t)]) 1 rfl rfl) rfl hQS' (by simp [qN]) (by omega) (by simp only []; omega) ?_
        intro g2 off2 cap2 cur2 hQS2
        refine rn_ ?_; intros
        refine go_keep [3] [998, 999, 0, 20, 70, 71, 72, 73, 74] ?_
        refine st_ ?_
        refine go_rend hR rfl rfl ?_
        have hdrop : qN ((Q' ++ [(t, y.2 + 1)]).drop h) = qN (Q'.drop h) ++ [.int .i64 t] := by
          rw [List.drop_append_of_le_length hh']; simp [qN]
        have hlen2 : (Q' ++ [(t, y.2 + 1)]).length - h = Q'.length - h + 1 := by simp; omega
        refine ⟨Q' ++ [(t, y.2 + 1)], g2, off2, cap2, cur2, ?_, ?_, by simp; omega, by rw [hdrop]; exact hQS2, by rw [hlen2]; rfl⟩
        · rw [htk2, List.map_append]; simpa [ht] using hadd
        · rw [List.getElem?_append_left (List.getElem?_eq_some_iff.1 hy').1]; exact hy'
      · have hnew' : qhas Q' t = true := by simpa using hnew
        have hqa : qadd y.2 Q' t = Q' := by simp [qadd, hnew']
        rw [hqa] at hadd
        refine rn_ ?_; intros
        refine go_keep [3] [998, 999, 0, 20, 70, 71, 72, 73, 74] ?_
        refine st_ ?_
        refine go_rend hR rfl rfl ?_
        refine ⟨Q', g', off', cap', cur', ?_, hy', hh', hQS', rfl⟩
        rw [htk2, List.map_append]; simpa [ht] using hadd
    · rintro D own G7 ⟨Q', g', off', cap', cur', hB', hy', hh', hQS', rfl⟩ (hle7 : Le G2 G7)
      rw [List.take_length] at hB'
      replace hB' := BInv.next hy' hB'
      have hhl' := (List.getElem?_eq_some_iff.1 hy').1
      have hdr' : Q'.drop h = y :: Q'.drop (h + 1) := by
        obtain ⟨hk, e⟩ := List.getElem?_eq_some_iff.1 hy'
        rw [List.drop_eq_getElem_cons hk, e]
      have hQn' := hB'.len
      obtain ⟨cap0, rfl⟩ : ∃ c0, cap' = c0 + 1 := ⟨cap' - 1, by have := hQS'.1; rw [hdr'] at this; simp [qN] at this; omega⟩
      rw [hdr'] at hQS'
      have hQS2 := QS.tail (x := .int .i64 y.1) (xs := qN (Q'.drop (h + 1))) (by simpa [qN] using hQS')
      refine st_ ?_
      refine rn_ ?_; intros
      rename_i b6
      refine go_q (v := .slice (some ⟨g', if cap0 = 0 then off' else off' + 1, none⟩) (Q'.length - h - 1) cap0) (by rw [hnt]; rfl) ((quiet_sliceLo (by rw [hty]; rfl) (by rw [hty]; rfl) rfl rfl rfl (by omega) (by omega)).cast (by
        simp only [Sx.sliced]
        by_cases hc : cap0 = 0
        · simp [hc]
        · simp [hc, add_none])) ?_
      refine rn_ ?_; intros
      refine go_keep [1, 3, 4] [0, 20, 70, 71, 72, 75] ?_
      refine st_ ?_
      refine go_rekey 75 73 rfl rfl (by omega) (by omega) ?_
      refine st_ ?_
      refine go_slot 4 (.p 73 b6 0) rfl (by simp [SV.den]) ?_
      refine st_ ?_
      exact ih (p.length - (h + 1)) _ (by omega) ⟨h + 1, Q', g', _, cap0, cur', b6, D :: ds, G7, hB', by omega, rfl, hle1.trans (hle2.trans hle7), hQS2, by rw [Nat.sub_sub]; rfl⟩
    · rintro D c own G' hf
      exact hf.elim
  have hge : Q.length ≤ h := by simp at hne; omega
  clear ih hne
  have hgood := hB.good hge
  have hD : qd Q = od (rout (pcl p) p.length) := hgood.same (rout_good (by omega) hlt)
  have hrL : rL p = rlist p.length (qd Q) := by rw [rL, if_pos hr', hD]
  have hk63 : ∀ x ∈ qEi 0 Q, isI64 x.1 ∧ x.2.2 < Q.length := qE_bd hB hlen.2
  have hno : ∀ {A B : Hp} {g : Nat}, Le A B → B g = none → A g = none := fun {A B g} hl h => by
    cases hq : A g with
    | none => rfl
    | some o => have := hl _ _ hq; rw [h] at this; cases this
  refine go_new0 70 (g := bm) rfl rfl ?_
  intro (hnm : G1 bm = none)
  refine go_pubx 70 rfl (by omega) rfl (fun _ h => h) ?_
  intro G2 (hle2 : Le G1 G2) hGm
  refine st_ ?_
  refine go_new0 71 (g := b2) rfl rfl ?_
  intro (hn2 : G2 b2 = none)
  refine go_pub 71 rfl (by omega) ?_
  rintro G3 (hle3 : Le G2 G3) hG3
  refine go_slot 3 (.v (.pointer (some ⟨b2, 0, none⟩))) rfl rfl ?_
  refine st_ ?_
  refine rn_ ?_; intros
  refine go_q (by rw [hnt]; rfl) (quiet_load (by rw [hty]; rfl) rfl (by simp [TK.agg]) (at_cells hG3) rfl) ?_
  refine rn_ ?_; intros
  refine go_call (by rw [hnt]; rfl) (by rw [hP]; kernel_rfl) rfl (hP ▸ keys_ok bm G3) ?_
  rintro v G4 (hle4 : Le G3 G4) ⟨bb, rfl, hbb⟩
  refine rn_ ?_; intros
  have hso := fun (G5 : Hp) (hl : Le G4 G5) => sorted_ok bm bb Q.length (qEi 0 Q) G5 (hl _ _ (hle4 _ _ (hle3 _ _ hGm))) (hbb.mono hl) hk63 (qE_nd hB) (qE_births Q 0) (by rw [qE_len]; omega)
  refine go_call (by rw [hnt]; rfl) (by rw [hP]; kernel_rfl) rfl (hP ▸ hso G4 (Le.refl _)) ?_
  rintro v G5 (hle5 : Le G4 G5) hS5
  have hkeys : ((qEi 0 Q).map (·.1)).mergeSort leZ = (rlist p.length (qd Q)).map (·.1) := by
    rw [qE_keys]; exact sort_eq hB.keys (rlist_sorted _ _)
  rw [hkeys] at hS5
  obtain ⟨ads, caps, rfl⟩ := Rp.S_slice hS5
  refine rn_ ?_; intros
  rename_i b6
  refine go_new0 74 (g := b6) rfl rfl ?_
  intro (hn6 : G5 b6 = none)
  refine go_pub 74 rfl (by omega) ?_
  rintro G6 (hle6 : Le G5 G6) hG6
  refine go_slot 10 (.v (.pointer (some ⟨b6, 0, none⟩))) rfl rfl ?_
  refine st_ ?_
  refine rn_ ?_; intros
  refine x_retM 20 rfl hQ hmb rfl rfl rfl (by rw [hty]; simp only [so, sq, zy, zz, tyE, SO', SQ', opQ, opStore, opAlloc, ev, putS, dOk, cv, SV.cs, SV.one, SV.bool?, eqB, Value.oneCell', ldOwn, binInt, binConst, binBool, binStr, isC, TK.agg, rv, rv1, ldV, resOne, resV, Nat.reduceAdd, Nat.reduceMul, Nat.reduceSub, Nat.reduceLT, Nat.reduceLeDiff, Nat.reduceEqDiff, Nat.reduceBEq, reduceIte, reduceCtorEq, eq_self]; try rfl) ?_; simp only [SV.den, resV, dens]
  have hle16 : Le G G6 := hle1.trans (hle2.trans (hle3.trans (hle4.trans (hle5.trans hle6))))
  refine ⟨34, [.pointer (some ⟨b6, 0, none⟩), .pointer (some ⟨b2, 0, none⟩)], rfl, by kernel_rfl, ?_⟩
  rw [hrL]
  refine reach2_ok _ b6 b2 bm Q.length _ (qEi 0 Q) _ (at_diff (at_cells hG6) (hno (hle1.trans (hle2.trans (hle3.trans (hle4.trans hle5)))) hn6)) (at_diff ((at_cells hG3).mono (hle4.trans (hle5.trans hle6))) (hno (hle1.trans hle2) hn2)) ?_ (Rp.S_mono (diff_mono (hle1.trans (hle2.trans (hle3.trans hle4))) hle6) hS5) ?_
  · simp only [diff, hno hle1 hnm]
    exact hle6 _ _ (hle5 _ _ (hle4 _ _ (hle3 _ _ hGm)))
  · intro x hx
    obtain ⟨k, d, hk, hd, rfl⟩ := rlist_mem.1 hx
    rw [qE_get, hd]; rfl
end Go.Proofs.Ytmdkenpodcnnbaa
