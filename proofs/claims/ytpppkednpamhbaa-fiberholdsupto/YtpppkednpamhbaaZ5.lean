/-
  Package fiber, layer 10: Run; State, Frames.
-/
import Derived.Test.YtpppkednpamhbaaZ4
import Derived.Deep.Strs
import Derived.Deep.Slices
set_option linter.unusedSimpArgs false
set_option linter.unusedVariables false
namespace Go.Proofs.Ytpppkednpamhbaa
set_option linter.unusedSimpArgs false
set_option linter.unusedVariables false
open Go.Sx
set_option maxHeartbeats 16000000
set_option maxRecDepth 20000
theorem run_ok (b cb : Nat) (p : Pr) (ps : Value) (s o : Fb) (most : Int) (n : Nat) (ow : Lds) (G : Hp) (hm0 : 0 ≤ most) (hm1 : most ≤ 1000000) (hc : At G cb 0 [ps]) (hp : rF.S G p ps) (hfb : fbO G b cb s ow) (h : runP p most.toNat s = some (n, o)) :
    PureT Try.prog 12 [.pointer (some ⟨b, 0, none⟩), .int .i64 most] G ow (fun v G' ow' => v = .tuple #[.int .i64 n, .int .i64 0] ∧ fbO G' b cb o ow') := by
  obtain ⟨vl, fs, b1, b2, b3, rs, Z, hvl, htv, hfs, hl256, hdn, rfl⟩ := hfb
  refine enterT ty tyok Try.func12 rfl Try.ntmps12 [.p 0 b 0, .v (.int .i64 most)] (by simp) (by simp) (plainL (by simp only [enumO]; exact (by repeat (first | exact plain_nil | refine plain_cons (fun _ h => h) ?_)))) ?_
  intro C w0 hP hQ hnt hty hmb hmh hro hG0 hb0; have hQp := qp_body hQ; refine st_ ?_
  generalize hrest : restB w0 _ G = Zr
  simp only [enumO, frO, fzO, fdO, List.cons_append, List.nil_append]
  refine rn_ ?_; intros
  refine go_callW [0] (by rw [hnt]; rfl) (by rw [hP]; kernel_rfl) rfl rfl rfl (.inl (by rw [hmh]; simp)) (by rw [hP]; exact miss_ok b cb s.st s.val.k s.val.n vl fs G) ?_
  rintro v5 G1 ow5 (hle1 : Le G G1) ⟨rfl, rfl⟩
  simp only [setO, stk, fhO]
  refine rn_ ?_; intros
  (refine x_split rfl rfl rfl (fun hc => absurd hc (by first | decide +kernel | (simp; first | done | fail))) (fun _ => ?_); refine st_ ?_; (refine ru_ ?_; intros))
  refine rn_ ?_; intros
  refine go_keep [0, 1, 4, 5, 6] [0, 1, 2, 3, 999] ?_
  refine st_ ?_
  refine x_loop rfl (fun q s' => ∃ (k : Nat) (s1 : Fb) (G1 : Hp) (j : Nat) (vl fs : Value) (b1 b2 b3 : Nat) (rs : List Fw) (Z : Nat → Prop), Le G G1 ∧ k + q = most.toNat ∧ runP p q s1 = some (j, o) ∧ k + j = n ∧ s1.val.rep G1 vl ∧ tsz s1.val ≤ 1000 ∧ fsOk G1 s1.l rs ∧ s1.l.length ≤ 256 ∧ (∀ m x, s1.l.head? = some m → rs.head? = some x → rW.S G1 m.done x.done.v) ∧
    s' = ⟨[(0, .p 0 b 0), (1, .v (.int .i64 most)), (4, .v (.int .i64 0)), (5, .v (.int .i64 0)), (6, .v (.int .i64 k))], [(0, b, .c 80 [.v (.pointer (some ⟨cb, 0, none⟩)), .v (.int .i64 s1.st), .v (.int .i64 s1.val.k), .v (.int .i64 s1.val.n), .v vl, .v fs]), (1, b1, .row fs 77 4 rs.length (encF rs)), (2, b2, .z (ZR ((rs.drop 1).map (·.done))) Z Z), (3, b3, .row rw0.v rw0.e rw0.size rw0.n rw0.xs), (999, 0, .z (ZRest w0) Zr Zr)], G1, []⟩)
    ⟨0, s, G1, n, vl, fs, b1, b2, b3, rs, Z, hle1, by omega, h, by omega, VT.rep_mono hle1 hvl, htv, hfs.mono hle1, hl256, fun m x q q' => Rp.S_mono hle1 (hdn m x q q'), rfl⟩ ?_
  clear hvl htv hfs hl256 hdn hle1 h
  rintro q s' ⟨k, s1, G1, j, vl, fs, b1, b2, b3, rs, Z, hle1, hkq, hrun, hkj, hvl, htv, hfs, hl256, hdn, rfl⟩ ih
  have hc1 := hc.mono hle1
  have hp1 := Rp.S_mono hle1 hp
  refine rn_ ?_; intros
  refine go_gsplit rfl rfl (fun h1 => ?_) (fun h1 => ?_) <;> (refine st_ ?_; (refine rn_ ?_; intros))
  · have hlt : (k : Int) < most := by simpa using h1
    cases q with
    | zero => exfalso; omega
    | succ q =>
    simp only [runP] at hrun
    cases hst : stepP p s1 with
    | none => rw [hst] at hrun; cases hrun
    | some es =>
    obtain ⟨e, s2⟩ := es
    rw [hst] at hrun
    simp only [] at hrun
    refine go_callT [0, 1, 2, 3] (by rw [hnt]; rfl) (by rw [hP]; kernel_rfl) rfl rfl rfl (by rw [hmh]; simp) (by rw [hP]; exact step_ok b cb p ps s1 s2 e _ G1 hc1 hp1 ⟨vl, fs, b1, b2, b3, rs, Z, hvl, htv, hfs, hl256, hdn, rfl⟩ hst) ?_
    rintro v6 G6 ow6 (hle6 : Le _ G6) ⟨rfl, vl6, fs6, c1, c2, c3, rs6, Z6, w1, w2, w3, w4, w5, rfl⟩
    simp only [setO, stk, fhO, frO, fzO, fdO]
    have hleA := hle1.trans hle6
    refine rn_ ?_; intros
    refine x_split rfl rfl rfl (fun h9 => ?_) (fun h9 => ?_) <;> (refine st_ ?_; (refine ru_ ?_; intros))
    · have he : e = 0 := by simpa using h9
      rw [if_pos he] at hrun
      obtain ⟨⟨j2, o2⟩, hj, hq⟩ := Option.map_eq_some_iff.1 hrun
      cases hq
      refine rn_ ?_; intros
      rw [wr (n := (k : Int) + 1) (by omega) (by omega)]
      refine go_keep [0, 1, 4, 5, 6] [0, 1, 2, 3, 999] ?_
      refine st_ ?_
      exact ih q _ (by omega) ⟨k + 1, s2, G6, j2, vl6, fs6, c1, c2, c3, rs6, Z6, hleA, by omega, hj, by omega, w1, w2, w3, w4, w5, rfl⟩
    · have he : ¬ e = 0 := by simpa using h9
      rw [if_neg he] at hrun
      cases hrun
      refine rn_ ?_; intros
      refine x_retT rfl hQ hmh hb0 rfl (by first | (simp; done) | decide) rfl (by rw [hty]; simp only [so, sq, zy, zz, tyE, SO', SQ', opQ, opStore, opAlloc, ev, putS, dOk, cv, SV.cs, SV.one, SV.bool?, eqB, Value.oneCell', ldOwn, binInt, binConst, binBool, binStr, isC, TK.agg, rv, rv1, ldV, resOne, resV, Nat.reduceAdd, Nat.reduceMul, Nat.reduceSub, Nat.reduceLT, Nat.reduceLeDiff, Nat.reduceEqDiff, Nat.reduceBEq, reduceIte, reduceCtorEq, eq_self]; try rfl) rfl (by rw [hrest]; rfl) (by first | exact Le.refl _ | assumption) rfl (by simp only [enumO]; exact (by repeat (first | exact plain_nil | refine plain_cons (fun _ h => h) ?_))) ?_; simp only [SV.den, resV, dens]
      exact ⟨by rw [← hkj]; rfl, vl6, fs6, c1, c2, c3, rs6, Z6, w1, w2, w3, w4, w5, rfl⟩
  · have hge : ¬ (k : Int) < most := by simpa using h1
    cases q with
    | succ q => exfalso; omega
    | zero =>
    simp only [runP, Option.some.injEq, Prod.mk.injEq] at hrun
    obtain ⟨rfl, rfl⟩ := hrun
    refine rn_ ?_; intros
    trace_state
    refine x_retT rfl hQ hmh hb0 rfl (by first | (simp; done) | decide) rfl (by rw [hty]; simp only [so, sq, zy, zz, tyE, SO', SQ', opQ, opStore, opAlloc, ev, putS, dOk, cv, SV.cs, SV.one, SV.bool?, eqB, Value.oneCell', ldOwn, binInt, binConst, binBool, binStr, isC, TK.agg, rv, rv1, ldV, resOne, resV, Nat.reduceAdd, Nat.reduceMul, Nat.reduceSub, Nat.reduceLT, Nat.reduceLeDiff, Nat.reduceEqDiff, Nat.reduceBEq, reduceIte, reduceCtorEq, eq_self]; try rfl) rfl (by rw [hrest]; rfl) (by first | exact Le.refl _ | assumption) rfl (by simp only [enumO]; exact (by repeat (first | exact plain_nil | refine plain_cons (fun _ h => h) ?_))) ?_; simp only [SV.den, resV, dens]
    exact ⟨by rw [← hkj]; rfl, vl, fs, b1, b2, b3, rs, Z, hvl, htv, hfs, hl256, hdn, rfl⟩
theorem state_ok (b cb : Nat) (st k n : Int) (vl fs : Value) (G : Hp) :
    PureW Try.prog 19 [.pointer (some ⟨b, 0, none⟩)] G [fhO b cb st k n vl fs] (fun v _ ow => v = .int .i64 st ∧ ow = [fhO b cb st k n vl fs]) := by
  refine enterW ty tyok Try.func19 rfl Try.ntmps19 [.p 0 b 0] (by simp) (mh := 1) rfl ?_
  intro C hP hQ hnt hty hmb hmh hro hG0 hmub; have hQp := qp_body hQ; refine st_ ?_
  simp only [enumO]
  refine rn_ ?_; intros
  refine go_callW [0] (by rw [hnt]; rfl) (by rw [hP]; kernel_rfl) rfl rfl rfl (.inr (by rw [hmh]; decide)) (by rw [hP]; exact miss_ok b cb st k n vl fs G) ?_
  rintro v5 G1 ow5 (hle1 : Le G G1) ⟨rfl, rfl⟩
  simp only [setO, stk, fhO]
  refine rn_ ?_; intros
  (refine x_split rfl rfl rfl (fun hc => absurd hc (by first | decide +kernel | (simp; first | done | fail))) (fun _ => ?_); refine st_ ?_; (refine ru_ ?_; intros))
  refine rn_ ?_; intros
  refine x_retW rfl hQ hmb hmh hG0 hmub rfl rfl (by rw [hty]; simp only [so, sq, zy, zz, tyE, SO', SQ', opQ, opStore, opAlloc, ev, putS, dOk, cv, SV.cs, SV.one, SV.bool?, eqB, Value.oneCell', ldOwn, binInt, binConst, binBool, binStr, isC, TK.agg, rv, rv1, ldV, resOne, resV, Nat.reduceAdd, Nat.reduceMul, Nat.reduceSub, Nat.reduceLT, Nat.reduceLeDiff, Nat.reduceEqDiff, Nat.reduceBEq, reduceIte, reduceCtorEq, eq_self]; try rfl) rfl rfl (by simp only [enumO]; exact (by repeat (first | exact plain_nil | refine plain_cons (fun _ h => h) ?_))) ?_; simp only [SV.den, resV, dens]
  exact ⟨by first | rfl | trivial, rfl⟩
theorem frames_ok (b cb : Nat) (st k n : Int) (vl : Value) (ad : Option Addr) (m c : Nat) (G : Hp) :
    PureW Try.prog 10 [.pointer (some ⟨b, 0, none⟩)] G [fhO b cb st k n vl (.slice ad m c)] (fun v _ ow => v = .int .i64 m ∧ ow = [fhO b cb st k n vl (.slice ad m c)]) := by
  refine enterW ty tyok Try.func10 rfl Try.ntmps10 [.p 0 b 0] (by simp) (mh := 1) rfl ?_
  intro C hP hQ hnt hty hmb hmh hro hG0 hmub; have hQp := qp_body hQ; refine st_ ?_
  simp only [enumO]
  refine rn_ ?_; intros
  refine go_callW [0] (by rw [hnt]; rfl) (by rw [hP]; kernel_rfl) rfl rfl rfl (.inr (by rw [hmh]; decide)) (by rw [hP]; exact miss_ok b cb st k n vl _ G) ?_
  rintro v5 G1 ow5 (hle1 : Le G G1) ⟨rfl, rfl⟩
  simp only [setO, stk, fhO]
  refine rn_ ?_; intros
  (refine x_split rfl rfl rfl (fun hc => absurd hc (by first | decide +kernel | (simp; first | done | fail))) (fun _ => ?_); refine st_ ?_; (refine ru_ ?_; intros))
  refine rn_ ?_; intros
  refine x_retW rfl hQ hmb hmh hG0 hmub rfl rfl (by rw [hty]; simp only [so, sq, zy, zz, tyE, SO', SQ', opQ, opStore, opAlloc, ev, putS, dOk, cv, SV.cs, SV.one, SV.bool?, eqB, Value.oneCell', ldOwn, binInt, binConst, binBool, binStr, isC, TK.agg, rv, rv1, ldV, resOne, resV, Nat.reduceAdd, Nat.reduceMul, Nat.reduceSub, Nat.reduceLT, Nat.reduceLeDiff, Nat.reduceEqDiff, Nat.reduceBEq, reduceIte, reduceCtorEq, eq_self]; try rfl) rfl rfl (by simp only [enumO]; exact (by repeat (first | exact plain_nil | refine plain_cons (fun _ h => h) ?_))) ?_; simp only [SV.den, resV, dens]
  exact ⟨by first | rfl | trivial, rfl⟩
end Go.Proofs.Ytpppkednpamhbaa
namespace Go.Sx
set_option linter.unusedSimpArgs false
set_option linter.unusedVariables false
open Go.RowKit
section
variable {C : Ctx} {K : List KI} {s : St} {R : Array Oper} {l : List Oper} {d : Option Tmp} {t : TypeId} {pos : String} {aft : Array Edge} {v : Value}
theorem go_torow (k : Nat) {b size : Nat} {e : TypeId} {cells : List SV} (hk : lk k s.own = some (b, .c e cells)) (hc : cells.length = size)
    (h : SGo C K ⟨s.sl, stk k (b, .row (.slice (some ⟨b, 0, none⟩) 1 1) e size 1 (dens cells)) s.own, s.G, s.df⟩) : SGo C K s := by
  intro a w hS
  refine h a w ⟨hS.sl, hS.nt, hS.df, ?_⟩
  obtain ⟨f1, f2⟩ := hS.mem.own _ _ _ hk
  simp only [OO.holds] at f1
  refine hS.mem.put hk rfl rfl rfl (Nat.le_refl _) (fun _ _ _ => rfl) ?_ (fun j => ⟨fun hg => .inl (by simp [OO.blks, Value.ownBlock] at hg ⊢; exact hg.symm), fun hg => .inl (by simp [OO.mut, Value.ownBlock] at hg ⊢; exact hg.symm)⟩)
  have hl : (dens cells).length = 1 * size := by simp [dens_eq, hc]
  refine ⟨hl, .inr ⟨b, 1, (dens cells).toArray, rfl, Nat.zero_le _, f1, Nat.le_refl _, by decide, by simpa using hl, ?_⟩⟩
  rw [← hl]
  simp
theorem go_torowN (k : Nat) {b size n : Nat} {e : TypeId} {cells : List SV} (hk : lk k s.own = some (b, .c e cells)) (hc : cells.length = n * size) (hn : n ≤ 1000)
    (h : SGo C K ⟨s.sl, stk k (b, .row (.slice (some ⟨b, 0, none⟩) n n) e size n (dens cells)) s.own, s.G, s.df⟩) : SGo C K s := by
  intro a w hS
  refine h a w ⟨hS.sl, hS.nt, hS.df, ?_⟩
  obtain ⟨f1, f2⟩ := hS.mem.own _ _ _ hk
  simp only [OO.holds] at f1
  refine hS.mem.put hk rfl rfl rfl (Nat.le_refl _) (fun _ _ _ => rfl) ?_ (fun j => ⟨fun hg => .inl (by simp [OO.blks, Value.ownBlock] at hg ⊢; exact hg.symm), fun hg => .inl (by simp [OO.mut, Value.ownBlock] at hg ⊢; exact hg.symm)⟩)
  have hl : (dens cells).length = n * size := by simp [dens_eq, hc]
  refine ⟨hl, .inr ⟨b, n, (dens cells).toArray, rfl, Nat.zero_le _, f1, Nat.le_refl _, Nat.le_trans hn (by decide), by simpa using hl, ?_⟩⟩
  rw [← hl]
  simp
theorem q_callW (ks : List Nat) {f : FuncId} {args : Array Operand} {tys : Array TypeId} {vs : List SV} {ow : Lds} (hd : dOk C.nt d = true) (hf : canCall C.P f = true) (ha : evs s.sl args.toList = some vs)
    (hk : lkAll s.own ks = some ow) (hn : noDup ks = true) (hc : PureW C.P f (dens vs) s.G ow (fun r _ ow' => r = v ∧ ow' = ow))
    (h : SGo C (.q (Mem C s.own s.G) R l :: K) ⟨putS d (rv v) s.sl, s.own, s.G, s.df⟩) : SGo C (.q (Mem C s.own s.G) R (⟨d, .call ⟨.value (.func f), args, tys⟩, t, pos, aft, none⟩ :: l) :: K) s := by
  intro a w hS
  have hargs : args.map a.eval = (dens vs).toArray := by apply Array.ext'; rw [Array.toList_map]; exact evs_ok hS.sl ha
  have hrun : ∀ w', (execOp a.eval ⟨d, .call ⟨.value (.func f), args, tys⟩, t, pos, aft, none⟩).run C.P w' = .ok (.enter f (dens vs).toArray) w' := by
    intro w'
    simp only [execOp, resolve, hargs, Act.eval, Deferred.ofValue, Sem.run_bind, Sem.run_pure, Result.andThen_ok, invoke]
    simp [callFunc_ok hf]
  simp only [wpK, wpQuiet]
  rw [if_pos (by simp [Region.wanted])]
  refine ⟨v, fun w' hw' => ?_, ?_⟩
  · unfold Oper.quietAt
    rw [hrun w']
    have hS' : ∀ {k b o}, lk k s.own = some (b, o) → o.holds C.w0.heap.size w' b := fun e => (hw'.own _ _ _ e).1
    refine ⟨rfl, (hc w' hw'.has (Lent.of (C := C) hw' hk hn)).mono ?_⟩
    rintro e w'' ⟨u, G', ow', rfl, q1, q2, q3, q4, q5, q6, q7, q8, rfl, rfl⟩
    refine ⟨rfl, ?_⟩
    obtain ⟨k1, k2⟩ := lkAll_get hk
    have hidx : ∀ {i : Nat} {x : Nat × OO}, ow'[i]? = some x → ∃ k, ks[i]? = some k ∧ lk k s.own = some x := fun {i x} e => by
      have hi : i < ks.length := by
        rcases Nat.lt_or_ge i ow'.length with q | q
        · omega
        · rw [List.getElem?_eq_none q] at e; cases e
      obtain ⟨x', e1, e2⟩ := k2 i ks[i] (by rw [List.getElem?_eq_getElem hi])
      rw [e] at e1; cases e1
      exact ⟨ks[i], by rw [List.getElem?_eq_getElem hi], e2⟩
    have hle : Le s.G G' := fun b o e => by rw [q4 b (lt_of_heap (hw'.has b o e))]; exact e
    refine ⟨fun k b o e => ?_, hw'.inj, ?_⟩
    · obtain ⟨g1, g2⟩ := hw'.own _ _ _ e
      refine ⟨?_, g2⟩
      by_cases hkk : k ∈ ks
      · obtain ⟨i, hi, hi2⟩ := List.getElem_of_mem hkk
        obtain ⟨x', e1, e2⟩ := k2 i ks[i] (by rw [List.getElem?_eq_getElem hi])
        rw [hi2, e] at e2
        cases e2
        exact (q5.own _ _ _ e1).1
      · refine OO.holds_same g1 q1 fun g hg => q2 g (hw'.lt e hg) ?_
        rintro ⟨i, b', o', e', hg'⟩
        obtain ⟨k', e1, e2⟩ := hidx e'
        have := hw'.inj _ _ _ _ _ _ g e e2 hg (OO.mut_blks (hw'.own _ _ _ e2).1 hg')
        subst this
        exact hkk (List.mem_of_getElem? e1)
    · have hg := hw'.grow
      refine ⟨q1.os.trans hg.os, q1.tape.trans hg.tape, q1.output.trans hg.output, Nat.le_trans hg.size q1.size, fun j hj hm => ?_, fun b o e => q3 b o (hle b o e), hg.old⟩
      rw [q2 j (by have := hg.size; omega) ?_]
      · exact hg.blk j hj hm
      · rintro ⟨i, b, o, e, hgj⟩
        obtain ⟨k', _, e2⟩ := hidx e
        obtain ⟨_, q⟩ := hw'.own _ _ _ e2
        obtain ⟨_, p1, p2⟩ := q j hgj
        rcases Nat.lt_or_ge k' C.mh with p3 | p3
        · rcases p2 p3 with p4 | p4
          · exact hm p4
          · omega
        · have := p1 p3; omega
  · have hS' := hS.put hd (rv v) hS.mem
    rw [rv_den] at hS'
    have := h _ _ hS'
    simpa only [wpK] using this
end
end Go.Sx
namespace Go.Proofs.Ytpppkednpamhbaa
set_option linter.unusedSimpArgs false
set_option linter.unusedVariables false
open Go.Sx
set_option maxHeartbeats 16000000
set_option maxRecDepth 20000
theorem rowsP_len : ∀ {p : Pr} {vs : Cs}, okC p vs → ∀ (i : Nat) (r : Rw), (rowsP p vs)[i]? = some r → i ≠ (rowsP p vs).length := fun _ i r e => by
  have := (List.getElem?_eq_some_iff.1 e).1; omega
theorem copyr_ok (p : Pr) (ps : Value) (G : Hp) (hps : rF.S G p ps) (hb : bdP p) :
    PureR Try.prog 25 [.agg #[ps]] G (fun v G' r e size n xs => v = .agg #[r] ∧ e = 33 ∧ size = 2 ∧ n = p.length ∧ rF.L G' p xs) := by
  have hok := rF_ok hps
  refine (copyp_ok p ps G hps hb).toR ?_
  rintro v G1 rs hle ⟨ad, cap, vs, hvs, rfl, rfl⟩
  refine ⟨(rowsP p vs).length, _, by simp; rfl, fun G2 hle2 hr => ⟨rfl, rfl, rfl, rfl, encP_L hvs hok hb.2 fun i r e => hr i r (rowsP_len hvs i r e) ?_⟩⟩
  rw [List.getElem?_append_left (List.getElem?_eq_some_iff.1 e).1]; exact e
theorem copys_ok (p : Pr) (ps : Value) (G : Hp) (hps : rF.S G p ps) (hb : bdP p) :
    Pure Try.prog 25 [.agg #[ps]] G (fun v G' => ∃ sl, v = .agg #[sl] ∧ rF.S G' p sl) := by
  have h63 := hb.1
  refine (copyr_ok p ps G hps hb).pure ?_ ?_
  · rintro v G' e size hle ⟨rfl, _, _, hn, hL⟩
    have : p = [] := List.length_eq_zero_iff.1 hn.symm
    subst this
    exact ⟨_, rfl, Rp.S_nil _ _⟩
  · rintro v G1 G2 g cap e size n xs hle hle2 hat ⟨rfl, _, _, rfl, hL⟩
    exact ⟨_, rfl, by omega, _, _, rfl, .inr ⟨_, _, _, rfl, hat, Rp.L_mono hle2 hL⟩⟩
theorem load_ok (p : Pr) (ps : Value) (G : Hp) (hps : rF.S G p ps) (hb : bdP p) (hw : (whP p).2.2 = 0) :
    Pure Try.prog 6 [.agg #[ps]] G (fun v G' => ∃ cb ps', v = .tuple #[.pointer (some ⟨cb, 0, none⟩), .int .i64 0] ∧ At G' cb 0 [ps'] ∧ rF.S G' p ps') := by
  have hck := checkp_ok p ps G hps
  rw [hw] at hck
  obtain ⟨adp, capp, rfl⟩ := Rp.S_slice hps
  refine enterX ty tyok Try.func6 rfl Try.ntmps6 [.a [.v (.slice adp p.length capp)]] (by simp) ?_
  intro C hP hQ hnt hty hmb hmh hro; have hQp := qp_body hQ; refine st_ ?_
  refine rn_ ?_; intros
  refine go_callf (by rw [hnt]; rfl) (by rw [hP]; kernel_rfl) rfl (hP ▸ hck) ?_; refine rn_ ?_; intros
  (refine x_split rfl rfl rfl (fun hc => absurd hc (by first | decide +kernel | (simp; first | done | fail))) (fun _ => ?_); refine st_ ?_; (refine ru_ ?_; intros))
  refine rn_ ?_; intros
  refine go_call (by rw [hnt]; rfl) (by rw [hP]; kernel_rfl) rfl (hP ▸ copys_ok p _ G hps hb) ?_
  rintro v G1 (hle1 : Le G G1) ⟨sl, rfl, hS⟩
  obtain ⟨ad2, cap2, rfl⟩ := Rp.S_slice hS
  refine rn_ ?_; intros
  rename_i b1 b2
  refine go_pub 1 rfl (by omega) ?_
  intro G2 (hle2 : Le G1 G2) hG2
  refine st_ ?_
  refine x_retc rfl hQ hmb rfl (by rw [hty]; simp only [so, sq, zy, zz, tyE, SO', SQ', opQ, opStore, opAlloc, ev, putS, dOk, cv, SV.cs, SV.one, SV.bool?, eqB, Value.oneCell', ldOwn, binInt, binConst, binBool, binStr, isC, TK.agg, rv, rv1, ldV, resOne, resV, Nat.reduceAdd, Nat.reduceMul, Nat.reduceSub, Nat.reduceLT, Nat.reduceLeDiff, Nat.reduceEqDiff, Nat.reduceBEq, reduceIte, reduceCtorEq, eq_self]; try rfl) rfl ?_; simp only [SV.den, resV, dens]
  exact ⟨b2, _, rfl, at_cells hG2, Rp.S_mono hle2 hS⟩
theorem miss2_ok (p : Pr) (ps : Value) (cb : Nat) (G : Hp) (hc : At G cb 0 [ps]) (hps : rF.S G p ps) (h0 : p.length ≠ 0) : Pure Try.prog 26 [.pointer (some ⟨cb, 0, none⟩)] G (fun v _ => v = .bool false) := by
  obtain ⟨adp, capp, rfl⟩ := Rp.S_slice hps
  refine enterX ty tyok Try.func26 rfl Try.ntmps26 [.v (.pointer (some ⟨cb, 0, none⟩))] (by simp) ?_
  intro C hP hQ hnt hty hmb hmh hro; have hQp := qp_body hQ; refine st_ ?_
  refine rn_ ?_; intros
  refine go_q (v := .bool false) (by rw [hnt]; rfl) ((quiet_pnil (by rw [hty]; rfl) rfl rfl).cast (by rfl)) ?_
  refine rn_ ?_; intros
  refine go_slot 5 (.b false) rfl rfl ?_
  refine rn_ ?_; intros
  refine go_q (by rw [hnt]; rfl) (quiet_load (by rw [hty]; rfl) rfl (by simp [TK.agg]) hc rfl) ?_; refine rn_ ?_; intros
  refine x_ret rfl hQ hmb (by rw [hty]; rfl) rfl ?_; simp only [SV.den, resV]
  simp; intro hp0; subst hp0; simp at h0
theorem begin_err (p : Pr) (ps : Value) (cb : Nat) (f : Int) (ad : Option Addr) (n c : Nat) (e : Int) (G : Hp) (hc : At G cb 0 [ps]) (hps : rF.S G p ps) (h0 : p.length ≠ 0)
    (h : ((f < 0 ∨ (p.length : Int) ≤ f) ∧ e = 4) ∨ (0 ≤ f ∧ f < p.length ∧ (n : Int) ≠ (fu p f.toNat).params ∧ e = 2)) :
    Pure Try.prog 7 [.pointer (some ⟨cb, 0, none⟩), .int .i64 f, .slice ad n c] G (fun v _ => v = .tuple #[.pointer none, .int .i64 e]) := by
  have hms := miss2_ok p ps cb G hc hps h0
  have hps0 := hps
  obtain ⟨adp, capp, rfl⟩ := Rp.S_slice hps
  refine enterX ty tyok Try.func7 rfl Try.ntmps7 [.v (.pointer (some ⟨cb, 0, none⟩)), .v (.int .i64 f), .v (.slice ad n c)] (by simp) ?_
  intro C hP hQ hnt hty hmb hmh hro; have hQp := qp_body hQ; refine st_ ?_
  refine rn_ ?_; intros
  refine go_callf (by rw [hnt]; rfl) (by rw [hP]; kernel_rfl) rfl (hP ▸ hms) ?_; refine rn_ ?_; intros
  (refine x_split rfl rfl rfl (fun hc => absurd hc (by first | decide +kernel | (simp; first | done | fail))) (fun _ => ?_); refine st_ ?_; (refine ru_ ?_; intros))
  refine rn_ ?_; intros
  refine go_gsplit rfl rfl (fun h1 => ?_) (fun h1 => ?_) <;> (refine st_ ?_; (refine rn_ ?_; intros))
  · refine rn_ ?_; intros
    refine x_retc rfl hQ hmb rfl (by rw [hty]; simp only [so, sq, zy, zz, tyE, SO', SQ', opQ, opStore, opAlloc, ev, putS, dOk, cv, SV.cs, SV.one, SV.bool?, eqB, Value.oneCell', ldOwn, binInt, binConst, binBool, binStr, isC, TK.agg, rv, rv1, ldV, resOne, resV, Nat.reduceAdd, Nat.reduceMul, Nat.reduceSub, Nat.reduceLT, Nat.reduceLeDiff, Nat.reduceEqDiff, Nat.reduceBEq, reduceIte, reduceCtorEq, eq_self]; try rfl) rfl ?_; simp only [SV.den, resV, dens]
    rcases h with ⟨_, rfl⟩ | ⟨h3, h4, _⟩
    · rfl
    · exfalso; simp at h1; omega
  · refine go_q (by rw [hnt]; rfl) (quiet_load (by rw [hty]; rfl) rfl (by simp [TK.agg]) hc rfl) ?_; refine rn_ ?_; intros
    refine x_split rfl rfl rfl (fun h2 => ?_) (fun h2 => ?_) <;> (refine st_ ?_; (refine ru_ ?_; intros))
    · refine rn_ ?_; intros
      refine x_retc rfl hQ hmb rfl (by rw [hty]; simp only [so, sq, zy, zz, tyE, SO', SQ', opQ, opStore, opAlloc, ev, putS, dOk, cv, SV.cs, SV.one, SV.bool?, eqB, Value.oneCell', ldOwn, binInt, binConst, binBool, binStr, isC, TK.agg, rv, rv1, ldV, resOne, resV, Nat.reduceAdd, Nat.reduceMul, Nat.reduceSub, Nat.reduceLT, Nat.reduceLeDiff, Nat.reduceEqDiff, Nat.reduceBEq, reduceIte, reduceCtorEq, eq_self]; try rfl) rfl ?_; simp only [SV.den, resV, dens]
      rcases h with ⟨_, rfl⟩ | ⟨h3, h4, _⟩
      · rfl
      · exfalso; simp at h2; omega
    · have hf0 : 0 ≤ f := by simpa using h1
      have hf1 : f < p.length := by simp at h2; omega
      obtain ⟨bF, oF, ns, rfl, hat, hp64, _⟩ := rF_at hps0 (i := f.toNat) (by omega)
      have hat0 : At G bF (oF + f.toNat * 2) [.int .i64 (fu p f.toNat).params] := by simpa using hat.sub 0 1 (by simp)
      refine rn_ ?_; intros
      refine go_q (by rw [hnt]; rfl) (quiet_load (by rw [hty]; rfl) rfl (by simp [TK.agg]) hc rfl) ?_; refine rn_ ?_; intros
      refine go_q (v := .pointer (some ⟨bF, oF + f.toNat * 2, none⟩)) (by rw [hnt]; rfl) ((quiet_index (by rw [hty]; rfl) (by rw [hty]; rfl) rfl rfl rfl (by omega) (by omega)).cast (by rfl)) ?_
      refine rn_ ?_; intros
      refine go_q (by rw [hnt]; rfl) (quiet_load (by rw [hty]; rfl) rfl (by simp [TK.agg]) hat0 rfl) ?_; refine rn_ ?_; intros
      refine x_split rfl rfl rfl (fun h3 => ?_) (fun h3 => ?_) <;> (refine st_ ?_; (refine ru_ ?_; intros))
      · refine rn_ ?_; intros
        refine x_retc rfl hQ hmb rfl (by rw [hty]; simp only [so, sq, zy, zz, tyE, SO', SQ', opQ, opStore, opAlloc, ev, putS, dOk, cv, SV.cs, SV.one, SV.bool?, eqB, Value.oneCell', ldOwn, binInt, binConst, binBool, binStr, isC, TK.agg, rv, rv1, ldV, resOne, resV, Nat.reduceAdd, Nat.reduceMul, Nat.reduceSub, Nat.reduceLT, Nat.reduceLeDiff, Nat.reduceEqDiff, Nat.reduceBEq, reduceIte, reduceCtorEq, eq_self]; try rfl) rfl ?_; simp only [SV.den, resV, dens]
        rcases h with ⟨q, _⟩ | ⟨_, _, _, rfl⟩
        · exfalso; omega
        · rfl
      · exfalso
        simp at h3
        rcases h with ⟨q, _⟩ | ⟨_, _, q, _⟩
        · omega
        · exact q h3
def nilO : Lds := [(0, .row rw0.v rw0.e rw0.size rw0.n rw0.xs), (0, .row rw0.v rw0.e rw0.size rw0.n rw0.xs), (0, .row rw0.v rw0.e rw0.size rw0.n rw0.xs), (0, .row rw0.v rw0.e rw0.size rw0.n rw0.xs)]
theorem begin_ok (p : Pr) (ps : Value) (cb : Nat) (f : Int) (av : List VT) (sl : Value) (o : Int × List Fm) (G : Hp) (hc : At G cb 0 [ps]) (hps : rF.S G p ps) (hf0 : 0 ≤ f) (hf1 : f < p.length) (hpl : p.length ≤ 100) (hn : (av.length : Int) = (fu p f.toNat).params) (hal : av.length ≤ 100)
    (hS : rW.S G av sl) (hck : ∀ v ∈ av, vld v = true) (hd : downF p 600 [⟨f, 0, av, []⟩] = some o) :
    PureT Try.prog 7 [.pointer (some ⟨cb, 0, none⟩), .int .i64 f, sl] G nilO (fun v G' ow' => ∃ b, v = .tuple #[.pointer (some ⟨b, 0, none⟩), .int .i64 0] ∧ fbO G' b cb ⟨o.1, vt0, o.2⟩ ow') := by
  have hms := miss2_ok p ps cb G hc hps (by omega)
  have hps0 := hps
  obtain ⟨ad, c, rfl⟩ := Rp.S_slice hS
  obtain ⟨bF, oF, ns, cF, rfl, hat, hp64, _⟩ : ∃ bF oF ns cF, ps = .slice (some ⟨bF, oF, none⟩) p.length cF ∧ At G bF (oF + f.toNat * 2) [.int .i64 (fu p f.toNat).params, ns] ∧ isI64 (fu p f.toNat).params ∧ rN.S G (fu p f.toNat).nodes ns := by
    obtain ⟨adp, capp, rfl⟩ := Rp.S_slice hps
    obtain ⟨bF, oF, ns, rfl, q⟩ := rF_at hps0 (i := f.toNat) (by omega)
    exact ⟨bF, oF, ns, capp, rfl, q⟩
  have hat0 : At G bF (oF + f.toNat * 2) [.int .i64 (fu p f.toNat).params] := by simpa using hat.sub 0 1 (by simp)
  refine enterT ty tyok Try.func7 rfl Try.ntmps7 [.v (.pointer (some ⟨cb, 0, none⟩)), .v (.int .i64 f), .v (.slice ad av.length c)] (by simp) (by simp [nilO]) (plainL (by simp only [enumO, nilO]; exact (by repeat (first | exact plain_nil | refine plain_cons (fun _ h => h) ?_)))) ?_
  intro C w0 hP hQ hnt hty hmb hmh hro hG0 hb0; have hQp := qp_body hQ; refine st_ ?_
  generalize hrest : restB w0 _ G = Zr
  simp only [enumO, nilO, List.cons_append, List.nil_append]
  refine rn_ ?_; intros
  refine go_callf (by rw [hnt]; rfl) (by rw [hP]; kernel_rfl) rfl (hP ▸ hms) ?_; refine rn_ ?_; intros
  (refine x_split rfl rfl rfl (fun hc => absurd hc (by first | decide +kernel | (simp; first | done | fail))) (fun _ => ?_); refine st_ ?_; (refine ru_ ?_; intros))
  refine rn_ ?_; intros
  refine go_gsplit rfl rfl (fun h1 => ?_) (fun h1 => ?_) <;> (refine st_ ?_; (refine rn_ ?_; intros))
  · exfalso; simp at h1; omega
  refine go_q (by rw [hnt]; rfl) (quiet_load (by rw [hty]; rfl) rfl (by simp [TK.agg]) hc rfl) ?_; refine rn_ ?_; intros
  refine x_split rfl rfl rfl (fun h2 => ?_) (fun h2 => ?_) <;> (refine st_ ?_; (refine ru_ ?_; intros))
  · exfalso; simp at h2; omega
  refine rn_ ?_; intros
  refine go_q (by rw [hnt]; rfl) (quiet_load (by rw [hty]; rfl) rfl (by simp [TK.agg]) hc rfl) ?_; refine rn_ ?_; intros
  refine go_q (v := .pointer (some ⟨bF, oF + f.toNat * 2, none⟩)) (by rw [hnt]; rfl) ((quiet_index (by rw [hty]; rfl) (by rw [hty]; rfl) rfl rfl rfl (by omega) (by omega)).cast (by rfl)) ?_
  refine rn_ ?_; intros
  refine go_q (by rw [hnt]; rfl) (quiet_load (by rw [hty]; rfl) rfl (by simp [TK.agg]) hat0 rfl) ?_; refine rn_ ?_; intros
  refine x_split rfl rfl rfl (fun h3 => ?_) (fun h3 => ?_) <;> (refine st_ ?_; (refine ru_ ?_; intros))
  · exfalso; simp at h3; exact h3 hn
  refine rn_ ?_; intros
  refine go_make 10 (by rw [hnt]; rfl) (by rw [hty]; rfl) (by rw [hty]; rfl) rfl rfl (Nat.zero_le _) rfl (by rw [hmh]; omega) (by omega) (by simp only []; omega) (by simp) ?_
  intro g10
  refine rn_ ?_; intros
  refine go_keep [0, 1, 2, 6, 7, 8, 41, 42, 43] [0, 1, 2, 3, 999, 10] ?_
  refine st_ ?_
  refine x_loop rfl (fun q s' => ∃ (k : Nat) (G1 : Hp) (ad3 : Option Addr) (cap3 : Nat) (xs : List Value), k ≤ av.length ∧ q = av.length - k ∧ Le G G1 ∧ rW.L G1 (av.take k) xs ∧
    s' = ⟨[(0, .v (.pointer (some ⟨cb, 0, none⟩))), (1, .v (.int .i64 f)), (2, .v (.slice ad av.length c)), (6, .v (.pointer none)), (7, .v (.int .i64 0)), (8, .v (.slice ad3 k cap3)), (41, .v (.slice ad av.length c)), (42, .v (.int .i64 av.length)), (43, .v (.int .i64 k))],
      [(0, 0, .row rw0.v rw0.e rw0.size rw0.n rw0.xs), (1, 0, .row rw0.v rw0.e rw0.size rw0.n rw0.xs), (2, 0, .row rw0.v rw0.e rw0.size rw0.n rw0.xs), (3, 0, .row rw0.v rw0.e rw0.size rw0.n rw0.xs), (999, 0, .z (ZRest w0) Zr Zr), (10, g10, .row (.slice ad3 k cap3) 43 3 k xs)], G1, []⟩) ⟨0, G, some ⟨g10, 0, none⟩, av.length, [], by omega, rfl, Le.refl _, rfl, rfl⟩ ?_
  rintro q s' ⟨k, G1, ad3, cap3, xs, hk, hq, hle1, hxs, rfl⟩ ih
  refine rn_ ?_; intros
  refine x_if rfl rfl rfl rfl (fun hjl => ?_) (fun hjl => ?_)
  · have hlt : k < av.length := by simp at hjl; omega
    have htk : av.take (k + 1) = av.take k ++ [av[k]] := by rw [List.take_append_getElem]
    have hvv := hck av[k] (List.getElem_mem _)
    obtain ⟨bV, oV, sv, rfl, hatV, hrV, htV⟩ := rW_at (Rp.S_mono hle1 hS) hlt
    obtain ⟨a9, c9, rfl⟩ := VT.rep_slice hrV
    have hchk := check_ok av[k] _ G1 hrV
    rw [show chk av[k] = 0 by simp [chk, hvv]] at hchk
    refine rn_ ?_; intros
    refine go_q (by rw [hnt]; rfl) (quiet_index (by rw [hty]; rfl) (by rw [hty]; rfl) rfl rfl rfl (by omega) (by omega)) ?_
    refine rn_ ?_; intros
    refine go_q (v := .agg #[.int .i64 av[k].k, .int .i64 av[k].n, .slice a9 av[k].l.length c9]) (by rw [hnt]; rfl) ((quiet_load (by rw [hty]; rfl) rfl (by simp [TK.agg]) (by simpa using hatV) rfl).cast (by rfl)) ?_
    refine rn_ ?_; intros
    refine go_callf (by rw [hnt]; rfl) (by rw [hP]; kernel_rfl) rfl (hP ▸ hchk) ?_; refine rn_ ?_; intros
    (refine x_split rfl rfl rfl (fun hc => absurd hc (by first | decide +kernel | (simp; first | done | fail))) (fun _ => ?_); refine st_ ?_; (refine ru_ ?_; intros))
    refine rn_ ?_; intros
    refine go_call (by rw [hnt]; rfl) (by rw [hP]; kernel_rfl) rfl (hP ▸ copy_ok av[k] _ G1 hrV (by omega)) ?_
    rintro v2 G2 (hle2 : Le G1 G2) (⟨_, a8, c8, rfl, hr8⟩ | ⟨hns, _⟩)
    rotate_left
    · simp [vld, hns] at hvv
    refine rn_ ?_; intros
    refine go_append 10 (by rw [hnt]; rfl) (by rw [hty]; rfl) (by rw [hty]; rfl) (by decide) rfl rfl rfl (by rw [hmh]; omega) rfl (src_own 3 rfl rfl) rfl (by simp [dens, SV.den, Value.oneCell']) (by omega) (by simp only []; omega) ?_
    intro v'
    refine go_rowS 10 rfl ?_
    rintro ad4 cap4 rfl
    refine rn_ ?_; intros
    rw [wr (n := (k : Int) + 1) (by omega) (by omega)]
    refine go_keep [0, 1, 2, 6, 7, 8, 41, 42, 43] [0, 1, 2, 3, 999, 10] ?_
    refine st_ ?_
    refine ih (av.length - (k + 1)) _ (by omega) ⟨k + 1, G2, ad4, cap4, _, by omega, rfl, hle1.trans hle2, ?_, rfl⟩
    rw [htk]
    exact Rp.L_append (Rp.L_mono hle2 hxs) (Rp.L_single ⟨_, rfl, hr8, htV⟩)
  have hkl : k = av.length := by simp at hjl; omega
  subst hkl
  rw [List.take_length] at hxs
  refine go_rowC 10 rfl ?_
  intro ad5 cap5 e5 hcap5
  injection e5 with q1 q2 q3
  subst q1 q3
  refine go_pubL rW 10 rfl (by rw [hmh]; omega) rfl (by omega) hxs ?_
  intro G2 ad6 cap6 (hle2 : Le G1 G2) e6 hS6
  injection e6 with q1 q2 q3
  subst q1 q3
  refine st_ ?_
  refine rn_ ?_; intros
  rename_i b8 b9
  refine go_torow 1000 (size := 4) rfl rfl ?_
  refine go_drop 0 ?_
  refine go_drop 1 ?_
  refine go_drop 2 ?_
  refine st_ ?_
  refine go_rekey 1001 0 rfl rfl (by rw [hmh]; omega) (by rw [hmh]; omega) ?_
  refine go_rekey 1000 1 rfl rfl (by rw [hmh]; omega) (by rw [hmh]; omega) ?_
  refine go_znil 2 rfl (by rw [hmh]; omega) ?_
  intro Z2
  refine st_ ?_
  refine go_see 0 [.v (.pointer (some ⟨cb, 0, none⟩)), .v (.int .i64 0), .v (.int .i64 0), .v (.int .i64 0), .v (.slice none 0 0), .v (.slice (some ⟨b8, 0, none⟩) 1 1)] rfl rfl ?_
  refine go_slot 11 (.p 0 b9 0) rfl rfl ?_
  refine go_slot 63 (.p 0 b9 0) rfl rfl ?_
  refine go_keep [6, 7, 11, 63] [0, 1, 2, 3, 999] ?_
  refine st_ ?_
  have hle12 := hle1.trans hle2
  refine go_callT [0, 1, 2, 3] (by rw [hnt]; rfl) (by rw [hP]; kernel_rfl) rfl rfl rfl (by rw [hmh]; simp) (by rw [hP]; exact desc_ok b9 cb p _ ⟨0, vt0, [⟨f, 0, av, []⟩]⟩ 600 o _ G2 (hc.mono hle12) (Rp.S_mono hle12 hps) ⟨.slice none 0 0, (.slice (some ⟨b8, 0, none⟩) 1 1), b8, 0, 0, [⟨f, 0, .slice ad3 av.length cap3, rw0⟩], Z2, ⟨by simp [isI64], by simp [isI64], by simp, none, 0, rfl, .inl rfl⟩, by simp [vt0, tsz, tszL], ⟨_, _, rfl, ⟨rfl, rfl, (⟨by omega, by omega⟩ : isI64 f), (by simp [isI64] : isI64 0), fun _ _ _ q => by injection q with _ q2 q3; omega, hS6, rw0_ok _⟩, rfl⟩, by simp, rfl⟩ hd) ?_
  rintro v6 G6 ow6 (hle6 : Le _ G6) ⟨vl6, fs6, c1, c2, c3, rs6, Z6, w1, w2, w3, w4, w5, rfl⟩
  simp only [setO, stk, fhO, frO, fzO, fdO]
  refine rn_ ?_; intros
  have hleA := hle12.trans hle6
  refine x_retT rfl hQ hmh hb0 rfl (by first | (simp; done) | decide) rfl (by rw [hty]; simp only [so, sq, zy, zz, tyE, SO', SQ', opQ, opStore, opAlloc, ev, putS, dOk, cv, SV.cs, SV.one, SV.bool?, eqB, Value.oneCell', ldOwn, binInt, binConst, binBool, binStr, isC, TK.agg, rv, rv1, ldV, resOne, resV, Nat.reduceAdd, Nat.reduceMul, Nat.reduceSub, Nat.reduceLT, Nat.reduceLeDiff, Nat.reduceEqDiff, Nat.reduceBEq, reduceIte, reduceCtorEq, eq_self]; try rfl) rfl (by rw [hrest]; rfl) (by first | exact Le.refl _ | assumption) rfl (by simp only [enumO]; exact (by repeat (first | exact plain_nil | refine plain_cons (fun _ h => h) ?_))) ?_; simp only [SV.den, resV, dens]
  exact ⟨b9, by first | rfl | trivial, vl6, fs6, c1, c2, c3, rs6, Z6, w1, w2, w3, w4, w5, rfl⟩
end Go.Proofs.Ytpppkednpamhbaa
namespace Go.Proofs.Ytpppkednpamhbaa
set_option linter.unusedSimpArgs false
set_option linter.unusedVariables false
open Go.Sx
set_option maxHeartbeats 16000000
set_option maxRecDepth 20000
theorem value_ok (b cb : Nat) (st : Int) (x : VT) (vl fs : Value) (G : Hp) (hx : x.rep G vl) (ht : tsz x ≤ 1000) (hs : sml x = true) :
    PureW Try.prog 13 [.pointer (some ⟨b, 0, none⟩)] G [fhO b cb st x.k x.n vl fs] (fun v G' ow => ow = [fhO b cb st x.k x.n vl fs] ∧ ((st ≠ 3 ∧ v = .tuple #[zeroV, .bool false]) ∨ (st = 3 ∧ ∃ sl, v = .tuple #[.agg #[.int .i64 x.k, .int .i64 x.n, sl], .bool true] ∧ x.rep G' sl))) := by
  obtain ⟨a9, c9, rfl⟩ := VT.rep_slice hx
  refine enterW ty tyok Try.func13 rfl Try.ntmps13 [.p 0 b 0] (by simp) (mh := 1) rfl ?_
  intro C hP hQ hnt hty hmb hmh hro hG0 hmub; have hQp := qp_body hQ; refine st_ ?_
  simp only [enumO]
  refine rn_ ?_; intros
  refine go_callW [0] (by rw [hnt]; rfl) (by rw [hP]; kernel_rfl) rfl rfl rfl (.inr (by rw [hmh]; decide)) (by rw [hP]; exact state_ok b cb st x.k x.n _ fs G) ?_
  rintro v5 G1 ow5 (hle1 : Le G G1) ⟨rfl, rfl⟩
  simp only [setO, stk, fhO]
  refine rn_ ?_; intros
  refine x_split rfl rfl rfl (fun h1 => ?_) (fun h1 => ?_) <;> (refine st_ ?_; (refine ru_ ?_; intros))
  · refine rn_ ?_; intros
    refine x_retW rfl hQ hmb hmh hG0 hmub rfl rfl (by rw [hty]; simp only [so, sq, zy, zz, tyE, SO', SQ', opQ, opStore, opAlloc, ev, putS, dOk, cv, SV.cs, SV.one, SV.bool?, eqB, Value.oneCell', ldOwn, binInt, binConst, binBool, binStr, isC, TK.agg, rv, rv1, ldV, resOne, resV, Nat.reduceAdd, Nat.reduceMul, Nat.reduceSub, Nat.reduceLT, Nat.reduceLeDiff, Nat.reduceEqDiff, Nat.reduceBEq, reduceIte, reduceCtorEq, eq_self]; try rfl) rfl rfl (by simp only [enumO]; exact (by repeat (first | exact plain_nil | refine plain_cons (fun _ h => h) ?_))) ?_; simp only [SV.den, resV, dens]
    exact ⟨rfl, .inl ⟨by simpa using h1, by first | rfl | trivial⟩⟩
  · refine rn_ ?_; intros
    refine go_call (by rw [hnt]; rfl) (by rw [hP]; kernel_rfl) rfl (hP ▸ copy_ok x _ G1 (VT.rep_mono hle1 hx) (by omega)) ?_
    rintro v2 G2 (hle2 : Le G1 G2) (⟨_, a8, c8, rfl, hr8⟩ | ⟨hns, _⟩)
    rotate_left
    · rw [hs] at hns; cases hns
    refine rn_ ?_; intros
    refine x_retW rfl hQ hmb hmh hG0 hmub rfl rfl (by rw [hty]; simp only [so, sq, zy, zz, tyE, SO', SQ', opQ, opStore, opAlloc, ev, putS, dOk, cv, SV.cs, SV.one, SV.bool?, eqB, Value.oneCell', ldOwn, binInt, binConst, binBool, binStr, isC, TK.agg, rv, rv1, ldV, resOne, resV, Nat.reduceAdd, Nat.reduceMul, Nat.reduceSub, Nat.reduceLT, Nat.reduceLeDiff, Nat.reduceEqDiff, Nat.reduceBEq, reduceIte, reduceCtorEq, eq_self]; try rfl) rfl rfl (by simp only [enumO]; exact (by repeat (first | exact plain_nil | refine plain_cons (fun _ h => h) ?_))) ?_; simp only [SV.den, resV, dens]
    exact ⟨rfl, .inr ⟨by simpa using h1, _, rfl, hr8⟩⟩
theorem want_ok (b cb b1 : Nat) (k n : Int) (vl fs ps : Value) (p : Pr) (m : Fm) (l : List Fm) (rs : List Fw) (nd : Nd) (G : Hp) (hc : At G cb 0 [ps]) (hp : rF.S G p ps) (hfs : fsOk G (m :: l) rs) (hnd : ndAt p m.fn m.nd = some nd) (hlm : l.length ≤ 300) (hop : nd.op = 15) :
    PureW Try.prog 22 [.pointer (some ⟨b, 0, none⟩)] G [fhO b cb 2 k n vl fs, frO b1 fs rs] (fun v _ ow => v = .tuple #[.agg #[.int .i64 1, .int .i64 0, .slice none 0 0], .bool true] ∧ ow = [fhO b cb 2 k n vl fs, frO b1 fs rs]) := by
  refine enterW ty tyok Try.func22 rfl Try.ntmps22 [.p 0 b 0] (by simp) (mh := 2) rfl ?_
  intro C hP hQ hnt hty hmb hmh hro hG0 hmub; have hQp := qp_body hQ; refine st_ ?_
  simp only [enumO]
  refine rn_ ?_; intros
  refine go_callW [0] (by rw [hnt]; rfl) (by rw [hP]; kernel_rfl) rfl rfl rfl (.inr (by rw [hmh]; decide)) (by rw [hP]; exact state_ok b cb 2 k n _ fs G) ?_
  rintro v5 G1 ow5 (hle1 : Le G G1) ⟨rfl, rfl⟩
  simp only [setO, stk]
  refine rn_ ?_; intros
  (refine x_split rfl rfl rfl (fun hc => absurd hc (by first | decide +kernel | (simp; first | done | fail))) (fun _ => ?_); refine st_ ?_; (refine ru_ ?_; intros))
  refine rn_ ?_; intros
  refine go_callW [0, 1] (by rw [hnt]; rfl) (by rw [hP]; kernel_rfl) rfl rfl rfl (.inr (by rw [hmh]; decide)) (by rw [hP]; exact last_ok b cb b1 2 k n vl fs ps p m l rs nd G1 (hc.mono hle1) (Rp.S_mono hle1 hp) (hfs.mono hle1) hnd hlm) ?_
  rintro v G2 ow2 (hle2 : Le G1 G2) ⟨rfl, g, cap, sl, rfl, rfl, hrI⟩
  obtain ⟨asl, csl, rfl⟩ := Rp.S_slice hrI
  simp only [setO, stk, fhO, frO]
  refine rn_ ?_; intros
  simp only [hop]
  refine rn_ ?_; intros
  (refine x_split rfl rfl rfl (fun hc => absurd hc (by first | decide +kernel | (simp; first | done | fail))) (fun _ => ?_); refine st_ ?_; (refine ru_ ?_; intros))
  refine rn_ ?_; intros
  (refine x_split rfl rfl rfl (fun hc => absurd hc (by first | decide +kernel | (simp; first | done | fail))) (fun _ => ?_); refine st_ ?_; (refine ru_ ?_; intros))
  refine rn_ ?_; intros
  refine x_retW rfl hQ hmb hmh hG0 hmub rfl rfl (by rw [hty]; simp only [so, sq, zy, zz, tyE, SO', SQ', opQ, opStore, opAlloc, ev, putS, dOk, cv, SV.cs, SV.one, SV.bool?, eqB, Value.oneCell', ldOwn, binInt, binConst, binBool, binStr, isC, TK.agg, rv, rv1, ldV, resOne, resV, Nat.reduceAdd, Nat.reduceMul, Nat.reduceSub, Nat.reduceLT, Nat.reduceLeDiff, Nat.reduceEqDiff, Nat.reduceBEq, reduceIte, reduceCtorEq, eq_self]; try rfl) rfl rfl (by simp only [enumO]; exact (by repeat (first | exact plain_nil | refine plain_cons (fun _ h => h) ?_))) ?_; simp only [SV.den, resV, dens]
  exact ⟨by first | rfl | trivial, rfl⟩
theorem resume_ok (b cb : Nat) (p : Pr) (ps : Value) (s o : Fb) (v : VT) (slv : Value) (ow : Lds) (G : Hp) (hc : At G cb 0 [ps]) (hp : rF.S G p ps) (hfb : fbO G b cb s ow) (hv : v.rep G slv) (hvv : vld v = true) (htv1 : tsz v ≤ 1000) (hst : s.st = 2) (ho : prodF p s v = some o) :
    PureT Try.prog 23 [.pointer (some ⟨b, 0, none⟩), .agg #[.int .i64 v.k, .int .i64 v.n, slv]] G ow (fun r G' ow' => r = .int .i64 0 ∧ fbO G' b cb o ow') := by
  have hchk := check_ok v slv G hv
  rw [show chk v = 0 by simp [chk, hvv]] at hchk
  obtain ⟨vl, fs, b1, b2, b3, rs, Z, hvl, htv, hfs, hl256, hdn, rfl⟩ := hfb
  obtain ⟨a9, c9, rfl⟩ := VT.rep_slice hv
  refine enterT ty tyok Try.func23 rfl Try.ntmps23 [.p 0 b 0, .a [.v (.int .i64 v.k), .v (.int .i64 v.n), .v (.slice a9 v.l.length c9)]] (by simp) (by simp) (plainL (by simp only [enumO]; exact (by repeat (first | exact plain_nil | refine plain_cons (fun _ h => h) ?_)))) ?_
  intro C w0 hP hQ hnt hty hmb hmh hro hG0 hb0; have hQp := qp_body hQ; refine st_ ?_
  generalize hrest : restB w0 _ G = Zr
  simp only [enumO, frO, fzO, fdO, List.cons_append, List.nil_append]
  refine rn_ ?_; intros
  refine go_callW [0] (by rw [hnt]; rfl) (by rw [hP]; kernel_rfl) rfl rfl rfl (.inl (by rw [hmh]; simp)) (by rw [hP]; exact miss_ok b cb s.st s.val.k s.val.n vl fs G) ?_
  rintro v5 G1 ow5 (hle1 : Le G G1) ⟨rfl, rfl⟩
  simp only [setO, stk, fhO]
  refine rn_ ?_; intros
  (refine x_split rfl rfl rfl (fun hc => absurd hc (by first | decide +kernel | (simp; first | done | fail))) (fun _ => ?_); refine st_ ?_; (refine ru_ ?_; intros))
  refine rn_ ?_; intros
  have hck1 := check_ok v _ G1 (VT.rep_mono hle1 hv)
  rw [show chk v = 0 by simp [chk, hvv]] at hck1
  refine go_callf (by rw [hnt]; rfl) (by rw [hP]; kernel_rfl) rfl (hP ▸ hck1) ?_
  refine rn_ ?_; intros
  (refine x_split rfl rfl rfl (fun hc => absurd hc (by first | decide +kernel | (simp; first | done | fail))) (fun _ => ?_); refine st_ ?_; (refine ru_ ?_; intros))
  refine rn_ ?_; intros
  refine x_split rfl rfl rfl (fun h1 => ?_) (fun h1 => ?_) <;> (refine st_ ?_; (refine ru_ ?_; intros))
  · exact absurd hst (by simpa using h1)
  refine rn_ ?_; intros
  refine go_call (by rw [hnt]; rfl) (by rw [hP]; kernel_rfl) rfl (hP ▸ copy_ok v _ G1 (VT.rep_mono hle1 hv) (by omega)) ?_
  rintro v2 G2 (hle2 : Le G1 G2) (⟨_, a8, c8, rfl, hr8⟩ | ⟨hns, _⟩)
  rotate_left
  · simp [vld, hns] at hvv
  refine rn_ ?_; intros
  have hle12 := hle1.trans hle2
  refine go_callT [0, 1, 2, 3] (by rw [hnt]; rfl) (by rw [hP]; kernel_rfl) rfl rfl rfl (by rw [hmh]; simp) (by rw [hP]; exact prod_ok b cb p ps s o v _ _ G2 (hc.mono hle12) (Rp.S_mono hle12 hp) ⟨vl, _, b1, b2, b3, rs, Z, VT.rep_mono hle12 hvl, htv, hfs.mono hle12, hl256, fun m x q q' => Rp.S_mono hle12 (hdn m x q q'), rfl⟩ hr8 htv1 ho) ?_
  rintro v6 G6 ow6 (hle6 : Le _ G6) ⟨vl6, fs6, c1, c2, c3, rs6, Z6, w1, w2, w3, w4, w5, rfl⟩
  simp only [setO, stk, fhO, frO, fzO, fdO]
  refine rn_ ?_; intros
  have hleA := hle12.trans hle6
  refine x_retT rfl hQ hmh hb0 rfl (by first | (simp; done) | decide) rfl (by rw [hty]; simp only [so, sq, zy, zz, tyE, SO', SQ', opQ, opStore, opAlloc, ev, putS, dOk, cv, SV.cs, SV.one, SV.bool?, eqB, Value.oneCell', ldOwn, binInt, binConst, binBool, binStr, isC, TK.agg, rv, rv1, ldV, resOne, resV, Nat.reduceAdd, Nat.reduceMul, Nat.reduceSub, Nat.reduceLT, Nat.reduceLeDiff, Nat.reduceEqDiff, Nat.reduceBEq, reduceIte, reduceCtorEq, eq_self]; try rfl) rfl (by rw [hrest]; rfl) (by first | exact Le.refl _ | assumption) rfl (by simp only [enumO]; exact (by repeat (first | exact plain_nil | refine plain_cons (fun _ h => h) ?_))) ?_; simp only [SV.den, resV, dens]
  exact ⟨by first | rfl | trivial, vl6, fs6, c1, c2, c3, rs6, Z6, w1, w2, w3, w4, w5, rfl⟩
end Go.Proofs.Ytpppkednpamhbaa
namespace Go.Proofs.Ytpppkednpamhbaa
set_option linter.unusedSimpArgs false
set_option linter.unusedVariables false
open Go.Sx
set_option maxRecDepth 100000
set_option maxHeartbeats 4000000
def iV (k : Int) : VT := .mk 2 k []
def givenP : Pr := [⟨0, [⟨4, 0, [1, 2]⟩, ⟨1, 5, []⟩, ⟨6, 0, [3, 4]⟩, ⟨3, 0, []⟩, ⟨1, 2, []⟩]⟩, ⟨1, [⟨5, 0, [1, 2, 3]⟩, ⟨3, 0, []⟩, ⟨13, 1, [4]⟩, ⟨15, 0, []⟩, ⟨7, 0, [5, 6]⟩, ⟨3, 0, []⟩, ⟨1, 1, []⟩]⟩]
def rS (k : Int) : Fb := ⟨1, vt0, [⟨1, 1, [iV k], []⟩, ⟨1, 0, [iV k], []⟩]⟩
theorem wrap_le {k : Int} (h0 : 0 ≤ k) (h1 : k ≤ 1000000) : IntKind.i64.wrap k = k := wr (by omega) (by omega)
theorem given_wh : (whP givenP).2.2 = 0 := by rfl
theorem given_bd : bdP givenP := by
  refine ⟨by decide, ?_⟩
  intro f hf
  simp only [givenP, List.mem_cons, List.not_mem_nil, or_false] at hf
  rcases hf with rfl | rfl
  all_goals
    refine ⟨by decide, ?_⟩
    intro x hx
    simp only [List.mem_cons, List.not_mem_nil, or_false] at hx
    rcases hx with rfl | rfl | rfl | rfl | rfl | rfl | rfl <;> decide
theorem given_d0 : downF givenP 600 [⟨0, 0, [], []⟩] = some (1, [⟨0, 1, [], []⟩, ⟨0, 0, [], []⟩]) := by rfl
theorem given_r0 : runP givenP 99 ⟨1, vt0, [⟨0, 1, [], []⟩, ⟨0, 0, [], []⟩]⟩ = some (4, ⟨3, iV 7, []⟩) := by rfl
theorem given_d1 : downF givenP 600 [⟨1, 0, [iV 1000], []⟩] = some (1, (rS 1000).l) := by rfl
theorem given_du : downF givenP 600 [⟨1, 0, [.mk 1 0 []], []⟩] = some (1, [⟨1, 1, [.mk 1 0 []], []⟩, ⟨1, 0, [.mk 1 0 []], []⟩]) := by rfl
theorem given_ru : runP givenP 9 ⟨1, vt0, [⟨1, 1, [.mk 1 0 []], []⟩, ⟨1, 0, [.mk 1 0 []], []⟩]⟩ = some (1, ⟨4, vt0, []⟩) := by rfl
def chS : Fb := ⟨2, vt0, [⟨1, 3, [iV 0], []⟩]⟩
theorem given_p : prodF givenP chS (.mk 4 3 []) = some ⟨3, .mk 4 3 [], []⟩ := by rfl
theorem given_z (q : Nat) : runP givenP (q + 2) (rS 0) = some (1, chS) := by rfl
theorem given_5 (j q : Nat) : runP givenP (q + 5) (rS ((j + 1 : Nat) : Int)) = (((((runP givenP q (rS (IntKind.i64.wrap (((j + 1 : Nat) : Int) - 1)))).map fun o => (o.1 + 1, o.2)).map fun o => (o.1 + 1, o.2)).map fun o => (o.1 + 1, o.2)).map fun o => (o.1 + 1, o.2)).map fun o => (o.1 + 1, o.2) := by rfl
theorem given_j : ∀ (j q : Nat), j ≤ 1000 → runP givenP (q + 2 + 5 * j) (rS (j : Int)) = some (5 * j + 1, chS)
  | 0, q, _ => given_z q
  | j + 1, q, h => by
    have ih := given_j j q (by omega)
    rw [show q + 2 + 5 * (j + 1) = (q + 2 + 5 * j) + 5 by omega, given_5, show (((j + 1 : Nat) : Int) - 1) = (j : Int) by omega, wrap_le (by omega) (by omega), ih]
    simp only [Option.map_some, Option.some.injEq, Prod.mk.injEq, and_true]
    omega
theorem given_r1 : runP givenP 9999 (rS 1000) = some (5001, chS) := given_j 1000 4997 (by omega)
end Go.Proofs.Ytpppkednpamhbaa
namespace Go.Proofs.Ytpppkednpamhbaa
set_option linter.unusedSimpArgs false
set_option linter.unusedVariables false
open Go.Sx
set_option maxHeartbeats 16000000
set_option maxRecDepth 20000
theorem rI_Lm {G : Hp} : ∀ {l : List Int}, (∀ n ∈ l, isI64 n) → rI.L G l (l.map (.int .i64 ·))
  | [], _ => rfl
  | x :: l, h => ⟨[.int .i64 x], _, rfl, ⟨rfl, h x (by simp)⟩, rI_Lm fun n hn => h n (by simp [hn])⟩
theorem rI_mk {G : Hp} {b cap : Nat} {l : List Int} {cs : List Value} (h : At G b 0 cs) (hcs : cs = l.map (.int .i64 ·)) (hl : ∀ n ∈ l, isI64 n) (hn : l.length ≤ 1000) : rI.S G l (.slice (some ⟨b, 0, none⟩) l.length cap) := by
  subst hcs
  exact ⟨by omega, _, _, rfl, .inr ⟨b, 0, _, rfl, h, rI_Lm hl⟩⟩
theorem rN_c {G : Hp} {op n : Int} {l : List Int} {sl : Value} {ns : List Nd} {cs : List Value} (h1 : isI64 op) (h2 : isI64 n) (h3 : rI.S G l sl) (h : rN.L G ns cs) : rN.L G (⟨op, n, l⟩ :: ns) (.int .i64 op :: .int .i64 n :: sl :: cs) :=
  ⟨[.int .i64 op, .int .i64 n, sl], cs, rfl, ⟨sl, rfl, h1, h2, h3⟩, h⟩
theorem rN_mk {G : Hp} {b cap : Nat} {l : List Nd} {cs : List Value} (h : At G b 0 cs) (hl : rN.L G l cs) (hn : l.length ≤ 1000) : rN.S G l (.slice (some ⟨b, 0, none⟩) l.length cap) := ⟨by omega, _, _, rfl, .inr ⟨b, 0, _, rfl, h, hl⟩⟩
theorem rF_mk {G : Hp} {b cap : Nat} {l : List Fu} {cs : List Value} (h : At G b 0 cs) (hl : rF.L G l cs) (hn : l.length ≤ 1000) : rF.S G l (.slice (some ⟨b, 0, none⟩) l.length cap) := ⟨by omega, _, _, rfl, .inr ⟨b, 0, _, rfl, h, hl⟩⟩
theorem numL_ok (e : Int) (G : Hp) : Pure Try.prog 9 [.int .i64 e] G (fun v _ => v = .int .i64 e) := by
  refine enterX ty tyok Try.func9 rfl Try.ntmps9 [.v (.int .i64 e)] (by simp) ?_
  intro C hP hQ hnt hty hmb hmh hro; have hQp := qp_body hQ; refine st_ ?_
  refine rn_ ?_; intros
  refine x_ret rfl hQ hmb (by rw [hty]; rfl) rfl ?_; simp only [SV.den, resV]
theorem numb_ok (n : Int) (G : Hp) : Pure Try.prog 8 [.int .i64 n] G (fun v _ => v = .agg #[.int .i64 2, .int .i64 n, .slice none 0 0]) := by
  refine enterX ty tyok Try.func8 rfl Try.ntmps8 [.v (.int .i64 n)] (by simp) ?_
  intro C hP hQ hnt hty hmb hmh hro; have hQp := qp_body hQ; refine st_ ?_
  refine rn_ ?_; intros
  refine x_retc rfl hQ hmb rfl (by rw [hty]; simp only [so, sq, zy, zz, tyE, SO', SQ', opQ, opStore, opAlloc, ev, putS, dOk, cv, SV.cs, SV.one, SV.bool?, eqB, Value.oneCell', ldOwn, binInt, binConst, binBool, binStr, isC, TK.agg, rv, rv1, ldV, resOne, resV, Nat.reduceAdd, Nat.reduceMul, Nat.reduceSub, Nat.reduceLT, Nat.reduceLeDiff, Nat.reduceEqDiff, Nat.reduceBEq, reduceIte, reduceCtorEq, eq_self]; try rfl) rfl ?_; simp only [SV.den, resV, dens]
theorem given_ok (G : Hp) : Pure Try.prog 21 [] G (fun v G' => ∃ ps, v = .agg #[ps] ∧ rF.S G' givenP ps) := by
  refine enterX ty tyok Try.func21 rfl Try.ntmps21 [] (by simp) ?_
  intro C hP hQ hnt hty hmb hmh hro; have hQp := qp_body hQ; refine st_ ?_
  refine rn_ ?_; intros
  rename_i b0 b1 b2 b3 b4 b5 b6 b7 b8
  refine go_pub 1 rfl (by omega) ?_
  intro G1 (hle1 : Le G G1) hG1
  refine go_pub 2 rfl (by omega) ?_
  intro G2 (hle2 : Le G1 G2) hG2
  refine go_pub 3 rfl (by omega) ?_
  intro G3 (hle3 : Le G2 G3) hG3
  refine go_pub 4 rfl (by omega) ?_
  intro G4 (hle4 : Le G3 G4) hG4
  refine go_pub 5 rfl (by omega) ?_
  intro G5 (hle5 : Le G4 G5) hG5
  refine go_pub 6 rfl (by omega) ?_
  intro G6 (hle6 : Le G5 G6) hG6
  refine go_pub 7 rfl (by omega) ?_
  intro G7 (hle7 : Le G6 G7) hG7
  refine go_pub 8 rfl (by omega) ?_
  intro G8 (hle8 : Le G7 G8) hG8
  refine st_ ?_
  refine rn_ ?_; intros
  refine x_retc rfl hQ hmb rfl (by rw [hty]; simp only [so, sq, zy, zz, tyE, SO', SQ', opQ, opStore, opAlloc, ev, putS, dOk, cv, SV.cs, SV.one, SV.bool?, eqB, Value.oneCell', ldOwn, binInt, binConst, binBool, binStr, isC, TK.agg, rv, rv1, ldV, resOne, resV, Nat.reduceAdd, Nat.reduceMul, Nat.reduceSub, Nat.reduceLT, Nat.reduceLeDiff, Nat.reduceEqDiff, Nat.reduceBEq, reduceIte, reduceCtorEq, eq_self]; try rfl) rfl ?_; simp only [SV.den, resV, dens]
  have q1 := (at_cells hG1).mono (((((((hle2).trans hle3).trans hle4).trans hle5).trans hle6).trans hle7).trans hle8)
  have q2 := (at_cells hG2).mono ((((((hle3).trans hle4).trans hle5).trans hle6).trans hle7).trans hle8)
  have q3 := (at_cells hG3).mono (((((hle4).trans hle5).trans hle6).trans hle7).trans hle8)
  have q4 := (at_cells hG4).mono ((((hle5).trans hle6).trans hle7).trans hle8)
  have q5 := (at_cells hG5).mono (((hle6).trans hle7).trans hle8)
  have q6 := (at_cells hG6).mono ((hle7).trans hle8)
  have q7 := (at_cells hG7).mono (hle8)
  have q8 := at_cells hG8
  refine ⟨_, rfl, rF_mk (l := givenP) q8 (rF_cons (by simp [isI64]) (rN_mk q3 (rN_c (by simp [isI64]) (by simp [isI64]) (rI_mk q1 rfl (by simp [isI64]) (by simp)) (rN_c (by simp [isI64]) (by simp [isI64]) (Rp.S_nil _ _) (rN_c (by simp [isI64]) (by simp [isI64]) (rI_mk q2 rfl (by simp [isI64]) (by simp)) (rN_c (by simp [isI64]) (by simp [isI64]) (Rp.S_nil _ _) (rN_c (by simp [isI64]) (by simp [isI64]) (Rp.S_nil _ _) rfl))))) (by simp)) (rF_cons (by simp [isI64]) (rN_mk q7 (rN_c (by simp [isI64]) (by simp [isI64]) (rI_mk q4 rfl (by simp [isI64]) (by simp)) (rN_c (by simp [isI64]) (by simp [isI64]) (Rp.S_nil _ _) (rN_c (by simp [isI64]) (by simp [isI64]) (rI_mk q5 rfl (by simp [isI64]) (by simp)) (rN_c (by simp [isI64]) (by simp [isI64]) (Rp.S_nil _ _) (rN_c (by simp [isI64]) (by simp [isI64]) (rI_mk q6 rfl (by simp [isI64]) (by simp)) (rN_c (by simp [isI64]) (by simp [isI64]) (Rp.S_nil _ _) (rN_c (by simp [isI64]) (by simp [isI64]) (Rp.S_nil _ _) rfl))))))) (by simp)) rfl)) (by decide)⟩
end Go.Proofs.Ytpppkednpamhbaa
namespace Go.Proofs.Ytpppkednpamhbaa.R
set_option linter.unusedSimpArgs false
set_option linter.unusedVariables false
open Go.Sx
set_option maxHeartbeats 16000000
set_option maxRecDepth 20000
def bigO (bb : Nat) (ps : Value) (left : Int) (ou ce : Bool) : Nat × OO := (bb, .c 58 [.v ps, .v (.int .i64 left), .v (.bool ou), .v (.bool ce)])
theorem rep0 {G : Hp} {k n : Int} (hk : isI64 k) (hn : isI64 n) : (VT.mk k n []).rep G (.slice none 0 0) := ⟨hk, hn, by simp, none, 0, rfl, .inl rfl⟩
theorem vld_i (n : Int) : vld (.mk 2 n []) = true := by simp [vld, sml, cnt, cntL, shps, shpsL, shp]
theorem numF_vld {a b y : VT} {g : Int → Int → Int} (h : numF a b g = some y) : vld y = true := by
  unfold numF at h
  split at h
  · injection h with h; subst h; exact vld_i _
  · cases h
theorem eqF_vld {a b y : VT} (h : eqF a b = some y) : vld y = true := by
  unfold eqF at h
  split at h
  · injection h with h; subst h; exact vld_i _
  · cases h
theorem kOf_d {op : Int} (h : 16 ≤ op ∧ op ≤ 23) : kOf op = op - 11 := by
  unfold kOf
  repeat' split
  all_goals omega
theorem sml_iff {x : VT} : sml x = true ↔ tsz x ≤ 256 := by
  simp only [sml, decide_eq_true_eq]
  rw [cnt_eq x 0 (by omega)]
  omega
theorem shpsL_mem : ∀ {l : List VT} {x : VT}, shpsL l = true → x ∈ l → shps x = true
  | y :: l, x, h, hx => by
    simp only [shpsL, Bool.and_eq_true] at h
    rcases List.mem_cons.1 hx with rfl | hx
    · exact h.1
    · exact shpsL_mem h.2 hx
theorem vld_mem {a x : VT} (h : vld a = true) (hx : x ∈ a.l) : vld x = true := by
  simp only [vld, Bool.and_eq_true] at h ⊢
  have h1 := sml_iff.1 h.1
  have h2 := tszL_mem hx
  have h3 := tsz_l a
  refine ⟨sml_iff.2 (by omega), ?_⟩
  obtain ⟨k, n, l⟩ := a
  simp only [shps, Bool.and_eq_true] at h
  exact shpsL_mem h.2.2 hx
theorem vld_half {a : VT} {i : Nat} (h : (vld a && a.k == 3) = true) : vld (a.l.getD i a) = true := by
  simp only [Bool.and_eq_true] at h
  rw [List.getD_eq_getElem?_getD]
  cases hq : a.l[i]? with
  | none => exact h.1
  | some x => exact vld_mem h.1 (List.mem_of_getElem? hq)
def mkPost (o : Option VT) (v : Value) (G : Hp) : Prop := match o with
  | none => ∃ k n sl, v = .tuple #[.agg #[.int .i64 k, .int .i64 n, sl], .bool false] ∧ ∃ ad m c, sl = .slice ad m c
  | some y => ∃ sl, v = .tuple #[.agg #[.int .i64 y.k, .int .i64 y.n, sl], .bool true] ∧ y.rep G sl ∧ vld y = true
theorem makes_ok (bb : Nat) (ps : Value) (left : Int) (ou ce : Bool) (nd : Nd) (snl sl sv : Value) (l vars : List VT) (o : Option VT) (G : Hp) (hnl : rI.S G nd.l snl) (hn64 : isI64 nd.n) (ho64 : isI64 nd.op) (hsl : rW.S G l sl) (hsv : rW.S G vars sv) (hvv : ∀ v ∈ vars, vld v = true) (hll : l.length ≤ 1000)
    (hop1 : nd.op = 1 ∨ nd.op = 2 → l = [] ∧ (nd.op = 2 → nd.n = 0)) (hop10 : nd.op = 10 → nd.n = 0) (hopn : nd.op ≠ 14 ∧ nd.op ≠ 15 ∧ nd.op ≠ 24) (hopd : nd.op = 1 ∨ nd.op = 2 ∨ nd.op = 3 ∨ (6 ≤ nd.op ∧ nd.op ≤ 12) ∨ (16 ≤ nd.op ∧ nd.op ≤ 23)) (ho : resF ⟨0, 0, vars, l⟩ nd = some o) :
    PureW Try.prog 39 [.pointer (some ⟨bb, 0, none⟩), .agg #[.int .i64 nd.op, .int .i64 nd.n, snl], sl, sv] G [bigO bb ps left ou ce] (fun v G' ow => ow = [bigO bb ps left ou ce] ∧ mkPost o v G') := by
  obtain ⟨anl, cnl, rfl⟩ := Rp.S_slice hnl
  obtain ⟨al, cl, rfl⟩ := Rp.S_slice hsl
  obtain ⟨av, cv', rfl⟩ := Rp.S_slice hsv
  unfold resF at ho
  simp only [] at ho
  refine enterW ty tyok Try.func39 rfl Try.ntmps39 [.p 0 bb 0, .a [.v (.int .i64 nd.op), .v (.int .i64 nd.n), .v (.slice anl nd.l.length cnl)], .v (.slice al l.length cl), .v (.slice av vars.length cv')] (by simp) (mh := 1) rfl ?_
  intro C hP hQ hnt hty hmb hmh hro hG0 hmub; have hQp := qp_body hQ; refine st_ ?_
  simp only [enumO, bigO]
  refine rn_ ?_; intros
  rename_i b5 b8 b10
  refine cut_tailK 2 (fun s' => ∃ (G1 : Hp) (y : VT) (slk : Value) (e : Int), Le G G1 ∧ s' = ⟨[(8, .p 2 b8 0), (10, .p 3 b10 0), (11, .v (.int .i64 e))], [(0, bb, .c 58 [.v ps, .v (.int .i64 left), .v (.bool ou), .v (.bool ce)]), (2, b8, .c 43 [.v (.int .i64 0), .v (.int .i64 0), .v (.slice none 0 0)]), (3, b10, .c 43 [.v (.int .i64 y.k), .v (.int .i64 y.n), .v slk])], G1, []⟩ ∧
    ((e = 0 ∧ y.rep G1 slk ∧ tsz y ≤ 2000000 ∧ o = if vld y then some y else none) ∨ (e ≠ 0 ∧ o = none ∧ ∃ ad m c, slk = .slice ad m c))) ?_ ?_
  rotate_left
  · intro Kr hK
    simp only [List.take_succ_cons, List.take_zero, List.cons_append, List.nil_append]
    refine rn_ ?_; intros
    refine x_split rfl rfl rfl (fun h1 => ?_) (fun h1 => ?_) <;> (refine st_ ?_; (refine ru_ ?_; intros))
    · have hop : nd.op = 1 := by simpa using h1
      simp only [hop, Int.reduceEq, if_false, if_true] at ho
      obtain ⟨hl0, _⟩ := hop1 (.inl hop)
      subst hl0
      split at ho
      rotate_left
      · cases ho
      injection ho with ho
      refine rn_ ?_; intros
      refine go_callf (by rw [hnt]; rfl) (by rw [hP]; kernel_rfl) rfl (hP ▸ numb_ok nd.n G) ?_; refine rn_ ?_; intros
      refine go_keep [8, 10, 11] [0, 2, 3] ?_
      refine st_ ?_
      exact hK _ ⟨G, (.mk 2 nd.n []), .slice none 0 0, 0, Le.refl _, rfl, .inl ⟨rfl, rep0 (by simp [isI64]) hn64, by simp [tsz, tszL], ho.symm⟩⟩
    refine rn_ ?_; intros
    refine x_split rfl rfl rfl (fun h2 => ?_) (fun h2 => ?_) <;> (refine st_ ?_; (refine ru_ ?_; intros))
    · have hop : nd.op = 2 := by simpa using h2
      simp only [hop, Int.reduceEq, if_false, if_true] at ho
      obtain ⟨hl0, hn0⟩ := hop1 (.inr hop)
      subst hl0
      rw [hn0 hop] at ho
      split at ho
      rotate_left
      · cases ho
      injection ho with ho
      refine rn_ ?_; intros
      refine go_keep [8, 10, 11] [0, 2, 3] ?_
      refine st_ ?_
      exact hK _ ⟨G, (.mk 1 0 []), .slice none 0 0, 0, Le.refl _, rfl, .inl ⟨rfl, rep0 (by simp [isI64]) (by simp [isI64]), by simp [tsz, tszL], ho.symm⟩⟩
    refine rn_ ?_; intros
    refine x_split rfl rfl rfl (fun h3 => ?_) (fun h3 => ?_) <;> (refine st_ ?_; (refine ru_ ?_; intros))
    · have hop : nd.op = 3 := by simpa using h3
      simp only [hop, Int.reduceEq, if_false, if_true] at ho
      split at ho
      rotate_left
      · cases ho
      rename_i hn0
      cases hv : vars[nd.n.toNat]? with
      | none => rw [hv] at ho; cases ho
      | some y =>
      rw [hv] at ho
      simp only [Option.map_some, Option.some.injEq] at ho
      subst ho
      obtain ⟨hi, hy⟩ := List.getElem?_eq_some_iff.1 hv
      obtain ⟨bV, oV, sv9, rfl, hatV, hrV, htV⟩ := rW_at hsv hi
      rw [hy] at hatV hrV htV
      obtain ⟨a9, c9, rfl⟩ := VT.rep_slice hrV
      refine rn_ ?_; intros
      refine go_q (v := .pointer (some ⟨bV, oV + nd.n.toNat * 3, none⟩)) (by rw [hnt]; rfl) ((quiet_index (by rw [hty]; rfl) (by rw [hty]; rfl) rfl rfl rfl (by omega) (by omega)).cast (by rfl)) ?_
      refine rn_ ?_; intros
      refine go_q (v := .agg #[.int .i64 y.k, .int .i64 y.n, .slice a9 y.l.length c9]) (by rw [hnt]; rfl) ((quiet_load (by rw [hty]; rfl) rfl (by simp [TK.agg]) hatV rfl).cast (by rfl)) ?_
      refine rn_ ?_; intros
      refine go_keep [8, 10, 11] [0, 2, 3] ?_
      refine st_ ?_
      exact hK _ ⟨G, y, _, 0, Le.refl _, rfl, .inl ⟨rfl, hrV, by omega, by rw [if_pos (hvv y (List.mem_of_getElem? hv))]⟩⟩
    refine rn_ ?_; intros
    refine x_split rfl rfl rfl (fun h6 => ?_) (fun h6 => ?_) <;> (refine st_ ?_; (refine ru_ ?_; intros))
    · have hop : nd.op = 6 := by simpa using h6
      simp only [hop, Int.reduceEq, if_false, if_true] at ho
      obtain ⟨a, b', t, hdn, ho⟩ := two_some ho
      have hl2 : 2 ≤ l.length := by rw [hdn]; simp
      obtain ⟨bD, oD, s0, rfl, hat0, hr0, ht0⟩ := rW_at hsl (i := 0) (by omega)
      obtain ⟨bD', oD', s1, e1, hat1, hr1, ht1⟩ := rW_at hsl (i := 1) (by omega)
      cases e1
      have e0 : l[0]'(by omega) = a := by simp [hdn]
      have e1 : l[1]'(by omega) = b' := by simp [hdn]
      rw [e0] at hat0 hr0 ht0
      rw [e1] at hat1 hr1 ht1
      obtain ⟨a8, c8, rfl⟩ := VT.rep_slice hr0
      obtain ⟨a9, c9, rfl⟩ := VT.rep_slice hr1
      refine rn_ ?_; intros
      refine x_heldP [] 10 rfl (by rw [hP]; kernel_rfl) rfl rfl rfl ?_; refine st_ ?_
      refine hu_take0 0 rfl (by kernel_rfl) (by kernel_rfl) (by kernel_rfl) (by decide) (fun c a w v => hQp c a w _ v) (by rw [hnt]; rfl) (allIn (by repeat (first | exact trivial | refine ⟨rfl, ?_⟩))) (by first | exact Le.refl _ | assumption) (quiet_op (by rw [hty]; first | rfl | (refine st_ ?_; rfl))) ?_; refine st_ ?_
      refine hu_takeB 1 [1, 10] rfl (by kernel_rfl) (by kernel_rfl) (by kernel_rfl) (by kernel_rfl) (fun c a w v => hQp c a w _ v) (by rw [hnt]; rfl) (allIn (by repeat (first | exact trivial | refine ⟨rfl, ?_⟩))) (by first | exact Le.refl _ | assumption) (x := .v (.pointer (some ⟨bD, oD + 0 * 3, none⟩))) ((quiet_index (by rw [hty]; rfl) (by rw [hty]; rfl) rfl rfl rfl (by omega) (by omega)).cast (by rfl)) ?_
      refine st_ ?_
      refine hu_takeB 2 [2, 10] rfl (by kernel_rfl) (by kernel_rfl) (by kernel_rfl) (by kernel_rfl) (fun c a w v => hQp c a w _ v) (by rw [hnt]; rfl) (allIn (by repeat (first | exact trivial | refine ⟨rfl, ?_⟩))) (by first | exact Le.refl _ | assumption) (x := .a [.v (.int .i64 a.k), .v (.int .i64 a.n), .v (.slice a8 a.l.length c8)]) ((quiet_load (by rw [hty]; rfl) rfl (by simp [TK.agg]) hat0 rfl).cast (by rfl)) ?_
      refine st_ ?_
      refine hu_take0 3 rfl (by kernel_rfl) (by kernel_rfl) (by kernel_rfl) (by decide) (fun c a w v => hQp c a w _ v) (by rw [hnt]; rfl) (allIn (by repeat (first | exact trivial | refine ⟨rfl, ?_⟩))) (by first | exact Le.refl _ | assumption) (quiet_op (by rw [hty]; first | rfl | (refine st_ ?_; rfl))) ?_; refine st_ ?_
      refine hu_takeB 4 [4, 10] rfl (by kernel_rfl) (by kernel_rfl) (by kernel_rfl) (by kernel_rfl) (fun c a w v => hQp c a w _ v) (by rw [hnt]; rfl) (allIn (by repeat (first | exact trivial | refine ⟨rfl, ?_⟩))) (by first | exact Le.refl _ | assumption) (x := .v (.pointer (some ⟨bD, oD + 1 * 3, none⟩))) ((quiet_index (by rw [hty]; rfl) (by rw [hty]; rfl) rfl rfl rfl (by omega) (by omega)).cast (by rfl)) ?_
      refine st_ ?_
      refine hu_takeB 5 [5, 10] rfl (by kernel_rfl) (by kernel_rfl) (by kernel_rfl) (by kernel_rfl) (fun c a w v => hQp c a w _ v) (by rw [hnt]; rfl) (allIn (by repeat (first | exact trivial | refine ⟨rfl, ?_⟩))) (by first | exact Le.refl _ | assumption) (x := .a [.v (.int .i64 b'.k), .v (.int .i64 b'.n), .v (.slice a9 b'.l.length c9)]) ((quiet_load (by rw [hty]; rfl) rfl (by simp [TK.agg]) hat1 rfl).cast (by rfl)) ?_
      refine st_ ?_
      refine hu_one 6 rfl (by kernel_rfl) ?_
      refine go_call (by rw [hnt]; rfl) (by rw [hP]; kernel_rfl) rfl (hP ▸ radd_ok a b' _ _ G hr0 hr1 (by omega) (by omega)) ?_
      rintro _ G3 (hle3 : Le G G3) rfl
      obtain ⟨kk, nn, ee, hnum, hcs⟩ := numd_cases a b' (fun m n => IntKind.i64.wrap (m + n)) (fun _ _ => wrapI _)
      rw [hnum]
      refine rn_ ?_; intros
      refine h_hs (allIn (by repeat (first | exact trivial | refine ⟨rfl, ?_⟩))) (by first | exact Le.refl _ | assumption) ?_
      refine hu_take0 7 rfl (by kernel_rfl) (by kernel_rfl) (by kernel_rfl) (by decide) (fun c a w v => hQp c a w _ v) (by rw [hnt]; rfl) (allIn (by repeat (first | exact trivial | refine ⟨rfl, ?_⟩))) (by first | exact Le.refl _ | assumption) (quiet_op (by rw [hty]; first | rfl | (refine st_ ?_; rfl))) ?_; refine st_ ?_
      refine hu_take0 8 rfl (by kernel_rfl) (by kernel_rfl) (by kernel_rfl) (by decide) (fun c a w v => hQp c a w _ v) (by rw [hnt]; rfl) (allIn (by repeat (first | exact trivial | refine ⟨rfl, ?_⟩))) (by first | exact Le.refl _ | assumption) (quiet_op (by rw [hty]; first | rfl | (refine st_ ?_; rfl))) ?_; refine st_ ?_
      refine hu_take0 9 rfl (by kernel_rfl) (by kernel_rfl) (by kernel_rfl) (by decide) (fun c a w v => hQp c a w _ v) (by rw [hnt]; rfl) (allIn (by repeat (first | exact trivial | refine ⟨rfl, ?_⟩))) (by first | exact Le.refl _ | assumption) (quiet_op (by rw [hty]; first | rfl | (refine st_ ?_; rfl))) ?_; refine st_ ?_
      refine hu_last 10 [] rfl (by kernel_rfl) rfl ?_
      refine rn_ ?_; intros
      refine h_one 11 rfl (by kernel_rfl) ?_
      refine rn_ ?_; intros
      refine h_hs (allIn (by repeat (first | exact trivial | refine ⟨rfl, ?_⟩))) (by first | exact Le.refl _ | assumption) ?_
      refine h_end (by kernel_rfl) ?_
      refine rn_ ?_; intros
      refine go_keep [8, 10, 11] [0, 2, 3] ?_
      refine st_ ?_
      refine hK _ ⟨G3, .mk kk nn [], .slice none 0 0, ee, hle3, rfl, ?_⟩
      rcases hcs with ⟨hn, he⟩ | ⟨hn, he, hr⟩
      · exact .inr ⟨he, by rw [← ho, hn], _, _, _, rfl⟩
      · exact .inl ⟨he, hr G3, by simp [tsz, tszL], by rw [← ho, hn, if_pos (numF_vld hn)]⟩
    refine rn_ ?_; intros
    refine x_split rfl rfl rfl (fun h7 => ?_) (fun h7 => ?_) <;> (refine st_ ?_; (refine ru_ ?_; intros))
    · have hop : nd.op = 7 := by simpa using h7
      simp only [hop, Int.reduceEq, if_false, if_true] at ho
      obtain ⟨a, b', t, hdn, ho⟩ := two_some ho
      have hl2 : 2 ≤ l.length := by rw [hdn]; simp
      obtain ⟨bD, oD, s0, rfl, hat0, hr0, ht0⟩ := rW_at hsl (i := 0) (by omega)
      obtain ⟨bD', oD', s1, e1, hat1, hr1, ht1⟩ := rW_at hsl (i := 1) (by omega)
      cases e1
      have e0 : l[0]'(by omega) = a := by simp [hdn]
      have e1 : l[1]'(by omega) = b' := by simp [hdn]
      rw [e0] at hat0 hr0 ht0
      rw [e1] at hat1 hr1 ht1
      obtain ⟨a8, c8, rfl⟩ := VT.rep_slice hr0
      obtain ⟨a9, c9, rfl⟩ := VT.rep_slice hr1
      refine rn_ ?_; intros
      refine x_heldP [] 10 rfl (by rw [hP]; kernel_rfl) rfl rfl rfl ?_; refine st_ ?_
      refine hu_take0 0 rfl (by kernel_rfl) (by kernel_rfl) (by kernel_rfl) (by decide) (fun c a w v => hQp c a w _ v) (by rw [hnt]; rfl) (allIn (by repeat (first | exact trivial | refine ⟨rfl, ?_⟩))) (by first | exact Le.refl _ | assumption) (quiet_op (by rw [hty]; first | rfl | (refine st_ ?_; rfl))) ?_; refine st_ ?_
      refine hu_takeB 1 [1, 10] rfl (by kernel_rfl) (by kernel_rfl) (by kernel_rfl) (by kernel_rfl) (fun c a w v => hQp c a w _ v) (by rw [hnt]; rfl) (allIn (by repeat (first | exact trivial | refine ⟨rfl, ?_⟩))) (by first | exact Le.refl _ | assumption) (x := .v (.pointer (some ⟨bD, oD + 0 * 3, none⟩))) ((quiet_index (by rw [hty]; rfl) (by rw [hty]; rfl) rfl rfl rfl (by omega) (by omega)).cast (by rfl)) ?_
      refine st_ ?_
      refine hu_takeB 2 [2, 10] rfl (by kernel_rfl) (by kernel_rfl) (by kernel_rfl) (by kernel_rfl) (fun c a w v => hQp c a w _ v) (by rw [hnt]; rfl) (allIn (by repeat (first | exact trivial | refine ⟨rfl, ?_⟩))) (by first | exact Le.refl _ | assumption) (x := .a [.v (.int .i64 a.k), .v (.int .i64 a.n), .v (.slice a8 a.l.length c8)]) ((quiet_load (by rw [hty]; rfl) rfl (by simp [TK.agg]) hat0 rfl).cast (by rfl)) ?_
      refine st_ ?_
      refine hu_take0 3 rfl (by kernel_rfl) (by kernel_rfl) (by kernel_rfl) (by decide) (fun c a w v => hQp c a w _ v) (by rw [hnt]; rfl) (allIn (by repeat (first | exact trivial | refine ⟨rfl, ?_⟩))) (by first | exact Le.refl _ | assumption) (quiet_op (by rw [hty]; first | rfl | (refine st_ ?_; rfl))) ?_; refine st_ ?_
      refine hu_takeB 4 [4, 10] rfl (by kernel_rfl) (by kernel_rfl) (by kernel_rfl) (by kernel_rfl) (fun c a w v => hQp c a w _ v) (by rw [hnt]; rfl) (allIn (by repeat (first | exact trivial | refine ⟨rfl, ?_⟩))) (by first | exact Le.refl _ | assumption) (x := .v (.pointer (some ⟨bD, oD + 1 * 3, none⟩))) ((quiet_index (by rw [hty]; rfl) (by rw [hty]; rfl) rfl rfl rfl (by omega) (by omega)).cast (by rfl)) ?_
      refine st_ ?_
      refine hu_takeB 5 [5, 10] rfl (by kernel_rfl) (by kernel_rfl) (by kernel_rfl) (by kernel_rfl) (fun c a w v => hQp c a w _ v) (by rw [hnt]; rfl) (allIn (by repeat (first | exact trivial | refine ⟨rfl, ?_⟩))) (by first | exact Le.refl _ | assumption) (x := .a [.v (.int .i64 b'.k), .v (.int .i64 b'.n), .v (.slice a9 b'.l.length c9)]) ((quiet_load (by rw [hty]; rfl) rfl (by simp [TK.agg]) hat1 rfl).cast (by rfl)) ?_
      refine st_ ?_
      refine hu_one 6 rfl (by kernel_rfl) ?_
      refine go_call (by rw [hnt]; rfl) (by rw [hP]; kernel_rfl) rfl (hP ▸ rsub_ok a b' _ _ G hr0 hr1 (by omega) (by omega)) ?_
      rintro _ G3 (hle3 : Le G G3) rfl
      obtain ⟨kk, nn, ee, hnum, hcs⟩ := numd_cases a b' (fun m n => IntKind.i64.wrap (m - n)) (fun _ _ => wrapI _)
      rw [hnum]
      refine rn_ ?_; intros
      refine h_hs (allIn (by repeat (first | exact trivial | refine ⟨rfl, ?_⟩))) (by first | exact Le.refl _ | assumption) ?_
      refine hu_take0 7 rfl (by kernel_rfl) (by kernel_rfl) (by kernel_rfl) (by decide) (fun c a w v => hQp c a w _ v) (by rw [hnt]; rfl) (allIn (by repeat (first | exact trivial | refine ⟨rfl, ?_⟩))) (by first | exact Le.refl _ | assumption) (quiet_op (by rw [hty]; first | rfl | (refine st_ ?_; rfl))) ?_; refine st_ ?_
      refine hu_take0 8 rfl (by kernel_rfl) (by kernel_rfl) (by kernel_rfl) (by decide) (fun c a w v => hQp c a w _ v) (by rw [hnt]; rfl) (allIn (by repeat (first | exact trivial | refine ⟨rfl, ?_⟩))) (by first | exact Le.refl _ | assumption) (quiet_op (by rw [hty]; first | rfl | (refine st_ ?_; rfl))) ?_; refine st_ ?_
      refine hu_take0 9 rfl (by kernel_rfl) (by kernel_rfl) (by kernel_rfl) (by decide) (fun c a w v => hQp c a w _ v) (by rw [hnt]; rfl) (allIn (by repeat (first | exact trivial | refine ⟨rfl, ?_⟩))) (by first | exact Le.refl _ | assumption) (quiet_op (by rw [hty]; first | rfl | (refine st_ ?_; rfl))) ?_; refine st_ ?_
      refine hu_last 10 [] rfl (by kernel_rfl) rfl ?_
      refine rn_ ?_; intros
      refine h_one 11 rfl (by kernel_rfl) ?_
      refine rn_ ?_; intros
      refine h_hs (allIn (by repeat (first | exact trivial | refine ⟨rfl, ?_⟩))) (by first | exact Le.refl _ | assumption) ?_
      refine h_end (by kernel_rfl) ?_
      refine rn_ ?_; intros
      refine go_keep [8, 10, 11] [0, 2, 3] ?_
      refine st_ ?_
      refine hK _ ⟨G3, .mk kk nn [], .slice none 0 0, ee, hle3, rfl, ?_⟩
      rcases hcs with ⟨hn, he⟩ | ⟨hn, he, hr⟩
      · exact .inr ⟨he, by rw [← ho, hn], _, _, _, rfl⟩
      · exact .inl ⟨he, hr G3, by simp [tsz, tszL], by rw [← ho, hn, if_pos (numF_vld hn)]⟩
    refine rn_ ?_; intros
    refine x_split rfl rfl rfl (fun h8 => ?_) (fun h8 => ?_) <;> (refine st_ ?_; (refine ru_ ?_; intros))
    · have hop : nd.op = 8 := by simpa using h8
      simp only [hop, Int.reduceEq, if_false, if_true] at ho
      obtain ⟨a, b', t, hdn, ho⟩ := two_some ho
      have hl2 : 2 ≤ l.length := by rw [hdn]; simp
      obtain ⟨bD, oD, s0, rfl, hat0, hr0, ht0⟩ := rW_at hsl (i := 0) (by omega)
      obtain ⟨bD', oD', s1, e1, hat1, hr1, ht1⟩ := rW_at hsl (i := 1) (by omega)
      cases e1
      have e0 : l[0]'(by omega) = a := by simp [hdn]
      have e1 : l[1]'(by omega) = b' := by simp [hdn]
      rw [e0] at hat0 hr0 ht0
      rw [e1] at hat1 hr1 ht1
      obtain ⟨a8, c8, rfl⟩ := VT.rep_slice hr0
      obtain ⟨a9, c9, rfl⟩ := VT.rep_slice hr1
      refine rn_ ?_; intros
      refine x_heldP [] 10 rfl (by rw [hP]; kernel_rfl) rfl rfl rfl ?_; refine st_ ?_
      refine hu_take0 0 rfl (by kernel_rfl) (by kernel_rfl) (by kernel_rfl) (by decide) (fun c a w v => hQp c a w _ v) (by rw [hnt]; rfl) (allIn (by repeat (first | exact trivial | refine ⟨rfl, ?_⟩))) (by first | exact Le.refl _ | assumption) (quiet_op (by rw [hty]; first | rfl | (refine st_ ?_; rfl))) ?_; refine st_ ?_
      refine hu_takeB 1 [1, 10] rfl (by kernel_rfl) (by kernel_rfl) (by kernel_rfl) (by kernel_rfl) (fun c a w v => hQp c a w _ v) (by rw [hnt]; rfl) (allIn (by repeat (first | exact trivial | refine ⟨rfl, ?_⟩))) (by first | exact Le.refl _ | assumption) (x := .v (.pointer (some ⟨bD, oD + 0 * 3, none⟩))) ((quiet_index (by rw [hty]; rfl) (by rw [hty]; rfl) rfl rfl rfl (by omega) (by omega)).cast (by rfl)) ?_
      refine st_ ?_
      refine hu_takeB 2 [2, 10] rfl (by kernel_rfl) (by kernel_rfl) (by kernel_rfl) (by kernel_rfl) (fun c a w v => hQp c a w _ v) (by rw [hnt]; rfl) (allIn (by repeat (first | exact trivial | refine ⟨rfl, ?_⟩))) (by first | exact Le.refl _ | assumption) (x := .a [.v (.int .i64 a.k), .v (.int .i64 a.n), .v (.slice a8 a.l.length c8)]) ((quiet_load (by rw [hty]; rfl) rfl (by simp [TK.agg]) hat0 rfl).cast (by rfl)) ?_
      refine st_ ?_
      refine hu_take0 3 rfl (by kernel_rfl) (by kernel_rfl) (by kernel_rfl) (by decide) (fun c a w v => hQp c a w _ v) (by rw [hnt]; rfl) (allIn (by repeat (first | exact trivial | refine ⟨rfl, ?_⟩))) (by first | exact Le.refl _ | assumption) (quiet_op (by rw [hty]; first | rfl | (refine st_ ?_; rfl))) ?_; refine st_ ?_
      refine hu_takeB 4 [4, 10] rfl (by kernel_rfl) (by kernel_rfl) (by kernel_rfl) (by kernel_rfl) (fun c a w v => hQp c a w _ v) (by rw [hnt]; rfl) (allIn (by repeat (first | exact trivial | refine ⟨rfl, ?_⟩))) (by first | exact Le.refl _ | assumption) (x := .v (.pointer (some ⟨bD, oD + 1 * 3, none⟩))) ((quiet_index (by rw [hty]; rfl) (by rw [hty]; rfl) rfl rfl rfl (by omega) (by omega)).cast (by rfl)) ?_
      refine st_ ?_
      refine hu_takeB 5 [5, 10] rfl (by kernel_rfl) (by kernel_rfl) (by kernel_rfl) (by kernel_rfl) (fun c a w v => hQp c a w _ v) (by rw [hnt]; rfl) (allIn (by repeat (first | exact trivial | refine ⟨rfl, ?_⟩))) (by first | exact Le.refl _ | assumption) (x := .a [.v (.int .i64 b'.k), .v (.int .i64 b'.n), .v (.slice a9 b'.l.length c9)]) ((quiet_load (by rw [hty]; rfl) rfl (by simp [TK.agg]) hat1 rfl).cast (by rfl)) ?_
      refine st_ ?_
      refine hu_one 6 rfl (by kernel_rfl) ?_
      refine go_call (by rw [hnt]; rfl) (by rw [hP]; kernel_rfl) rfl (hP ▸ req_ok a b' _ _ G hr0 hr1 (by omega) (by omega)) ?_
      rintro _ G3 (hle3 : Le G G3) rfl
      obtain ⟨kk, nn, ee, hnum, hcs⟩ := eqd_cases a b'
      rw [hnum]
      refine rn_ ?_; intros
      refine h_hs (allIn (by repeat (first | exact trivial | refine ⟨rfl, ?_⟩))) (by first | exact Le.refl _ | assumption) ?_
      refine hu_take0 7 rfl (by kernel_rfl) (by kernel_rfl) (by kernel_rfl) (by decide) (fun c a w v => hQp c a w _ v) (by rw [hnt]; rfl) (allIn (by repeat (first | exact trivial | refine ⟨rfl, ?_⟩))) (by first | exact Le.refl _ | assumption) (quiet_op (by rw [hty]; first | rfl | (refine st_ ?_; rfl))) ?_; refine st_ ?_
      refine hu_take0 8 rfl (by kernel_rfl) (by kernel_rfl) (by kernel_rfl) (by decide) (fun c a w v => hQp c a w _ v) (by rw [hnt]; rfl) (allIn (by repeat (first | exact trivial | refine ⟨rfl, ?_⟩))) (by first | exact Le.refl _ | assumption) (quiet_op (by rw [hty]; first | rfl | (refine st_ ?_; rfl))) ?_; refine st_ ?_
      refine hu_take0 9 rfl (by kernel_rfl) (by kernel_rfl) (by kernel_rfl) (by decide) (fun c a w v => hQp c a w _ v) (by rw [hnt]; rfl) (allIn (by repeat (first | exact trivial | refine ⟨rfl, ?_⟩))) (by first | exact Le.refl _ | assumption) (quiet_op (by rw [hty]; first | rfl | (refine st_ ?_; rfl))) ?_; refine st_ ?_
      refine hu_last 10 [] rfl (by kernel_rfl) rfl ?_
      refine rn_ ?_; intros
      refine h_one 11 rfl (by kernel_rfl) ?_
      refine rn_ ?_; intros
      refine h_hs (allIn (by repeat (first | exact trivial | refine ⟨rfl, ?_⟩))) (by first | exact Le.refl _ | assumption) ?_
      refine h_end (by kernel_rfl) ?_
      refine rn_ ?_; intros
      refine go_keep [8, 10, 11] [0, 2, 3] ?_
      refine st_ ?_
      refine hK _ ⟨G3, .mk kk nn [], .slice none 0 0, ee, hle3, rfl, ?_⟩
      rcases hcs with ⟨hn, he⟩ | ⟨hn, he, hr⟩
      · exact .inr ⟨he, by rw [← ho, hn], _, _, _, rfl⟩
      · exact .inl ⟨he, hr G3, by simp [tsz, tszL], by rw [← ho, hn, if_pos (eqF_vld hn)]⟩
    refine rn_ ?_; intros
    refine x_split rfl rfl rfl (fun h9 => ?_) (fun h9 => ?_) <;> (refine st_ ?_; (refine ru_ ?_; intros))
    · have hop : nd.op = 9 := by simpa using h9
      simp only [hop, Int.reduceEq, if_false, if_true] at ho
      obtain ⟨a, b', t, hdn, ho⟩ := two_some ho
      have hl2 : 2 ≤ l.length := by rw [hdn]; simp
      obtain ⟨bD, oD, s0, rfl, hat0, hr0, ht0⟩ := rW_at hsl (i := 0) (by omega)
      obtain ⟨bD', oD', s1, e1, hat1, hr1, ht1⟩ := rW_at hsl (i := 1) (by omega)
      cases e1
      have e0 : l[0]'(by omega) = a := by simp [hdn]
      have e1 : l[1]'(by omega) = b' := by simp [hdn]
      rw [e0] at hat0 hr0 ht0
      rw [e1] at hat1 hr1 ht1
      obtain ⟨a8, c8, rfl⟩ := VT.rep_slice hr0
      obtain ⟨a9, c9, rfl⟩ := VT.rep_slice hr1
      refine rn_ ?_; intros
      refine x_heldP [] 10 rfl (by rw [hP]; kernel_rfl) rfl rfl rfl ?_; refine st_ ?_
      refine hu_take0 0 rfl (by kernel_rfl) (by kernel_rfl) (by kernel_rfl) (by decide) (fun c a w v => hQp c a w _ v) (by rw [hnt]; rfl) (allIn (by repeat (first | exact trivial | refine ⟨rfl, ?_⟩))) (by first | exact Le.refl _ | assumption) (quiet_op (by rw [hty]; first | rfl | (refine st_ ?_; rfl))) ?_; refine st_ ?_
      refine hu_takeB 1 [1, 10] rfl (by kernel_rfl) (by kernel_rfl) (by kernel_rfl) (by kernel_rfl) (fun c a w v => hQp c a w _ v) (by rw [hnt]; rfl) (allIn (by repeat (first | exact trivial | refine ⟨rfl, ?_⟩))) (by first | exact Le.refl _ | assumption) (x := .v (.pointer (some ⟨bD, oD + 0 * 3, none⟩))) ((quiet_index (by rw [hty]; rfl) (by rw [hty]; rfl) rfl rfl rfl (by omega) (by omega)).cast (by rfl)) ?_
      refine st_ ?_
      refine hu_takeB 2 [2, 10] rfl (by kernel_rfl) (by kernel_rfl) (by kernel_rfl) (by kernel_rfl) (fun c a w v => hQp c a w _ v) (by rw [hnt]; rfl) (allIn (by repeat (first | exact trivial | refine ⟨rfl, ?_⟩))) (by first | exact Le.refl _ | assumption) (x := .a [.v (.int .i64 a.k), .v (.int .i64 a.n), .v (.slice a8 a.l.length c8)]) ((quiet_load (by rw [hty]; rfl) rfl (by simp [TK.agg]) hat0 rfl).cast (by rfl)) ?_
      refine st_ ?_
      refine hu_take0 3 rfl (by kernel_rfl) (by kernel_rfl) (by kernel_rfl) (by decide) (fun c a w v => hQp c a w _ v) (by rw [hnt]; rfl) (allIn (by repeat (first | exact trivial | refine ⟨rfl, ?_⟩))) (by first | exact Le.refl _ | assumption) (quiet_op (by rw [hty]; first | rfl | (refine st_ ?_; rfl))) ?_; refine st_ ?_
      refine hu_takeB 4 [4, 10] rfl (by kernel_rfl) (by kernel_rfl) (by kernel_rfl) (by kernel_rfl) (fun c a w v => hQp c a w _ v) (by rw [hnt]; rfl) (allIn (by repeat (first | exact trivial | refine ⟨rfl, ?_⟩))) (by first | exact Le.refl _ | assumption) (x := .v (.pointer (some ⟨bD, oD + 1 * 3, none⟩))) ((quiet_index (by rw [hty]; rfl) (by rw [hty]; rfl) rfl rfl rfl (by omega) (by omega)).cast (by rfl)) ?_
      refine st_ ?_
      refine hu_takeB 5 [5, 10] rfl (by kernel_rfl) (by kernel_rfl) (by kernel_rfl) (by kernel_rfl) (fun c a w v => hQp c a w _ v) (by rw [hnt]; rfl) (allIn (by repeat (first | exact trivial | refine ⟨rfl, ?_⟩))) (by first | exact Le.refl _ | assumption) (x := .a [.v (.int .i64 b'.k), .v (.int .i64 b'.n), .v (.slice a9 b'.l.length c9)]) ((quiet_load (by rw [hty]; rfl) rfl (by simp [TK.agg]) hat1 rfl).cast (by rfl)) ?_
      refine st_ ?_
      refine hu_one 6 rfl (by kernel_rfl) ?_
      refine go_call (by rw [hnt]; rfl) (by rw [hP]; kernel_rfl) rfl (hP ▸ rless_ok a b' _ _ G hr0 hr1 (by omega) (by omega)) ?_
      rintro _ G3 (hle3 : Le G G3) rfl
      obtain ⟨kk, nn, ee, hnum, hcs⟩ := numd_cases a b' (fun m n => if decide (m < n) then 1 else 0) (fun _ _ => by split <;> simp [isI64])
      rw [hnum]
      refine rn_ ?_; intros
      refine h_hs (allIn (by repeat (first | exact trivial | refine ⟨rfl, ?_⟩))) (by first | exact Le.refl _ | assumption) ?_
      refine hu_take0 7 rfl (by kernel_rfl) (by kernel_rfl) (by kernel_rfl) (by decide) (fun c a w v => hQp c a w _ v) (by rw [hnt]; rfl) (allIn (by repeat (first | exact trivial | refine ⟨rfl, ?_⟩))) (by first | exact Le.refl _ | assumption) (quiet_op (by rw [hty]; first | rfl | (refine st_ ?_; rfl))) ?_; refine st_ ?_
      refine hu_take0 8 rfl (by kernel_rfl) (by kernel_rfl) (by kernel_rfl) (by decide) (fun c a w v => hQp c a w _ v) (by rw [hnt]; rfl) (allIn (by repeat (first | exact trivial | refine ⟨rfl, ?_⟩))) (by first | exact Le.refl _ | assumption) (quiet_op (by rw [hty]; first | rfl | (refine st_ ?_; rfl))) ?_; refine st_ ?_
      refine hu_take0 9 rfl (by kernel_rfl) (by kernel_rfl) (by kernel_rfl) (by decide) (fun c a w v => hQp c a w _ v) (by rw [hnt]; rfl) (allIn (by repeat (first | exact trivial | refine ⟨rfl, ?_⟩))) (by first | exact Le.refl _ | assumption) (quiet_op (by rw [hty]; first | rfl | (refine st_ ?_; rfl))) ?_; refine st_ ?_
      refine hu_last 10 [] rfl (by kernel_rfl) rfl ?_
      refine rn_ ?_; intros
      refine h_one 11 rfl (by kernel_rfl) ?_
      refine rn_ ?_; intros
      refine h_hs (allIn (by repeat (first | exact trivial | refine ⟨rfl, ?_⟩))) (by first | exact Le.refl _ | assumption) ?_
      refine h_end (by kernel_rfl) ?_
      refine rn_ ?_; intros
      refine go_keep [8, 10, 11] [0, 2, 3] ?_
      refine st_ ?_
      refine hK _ ⟨G3, .mk kk nn [], .slice none 0 0, ee, hle3, rfl, ?_⟩
      rcases hcs with ⟨hn, he⟩ | ⟨hn, he, hr⟩
      · exact .inr ⟨he, by rw [← ho, hn], _, _, _, rfl⟩
      · exact .inl ⟨he, hr G3, by simp [tsz, tszL], by rw [← ho, hn, if_pos (numF_vld hn)]⟩
    refine rn_ ?_; intros
    refine x_split rfl rfl rfl (fun h11 => ?_) (fun h11 => ?_) <;> (refine st_ ?_; (refine ru_ ?_; intros))
    · have hop : nd.op = 11 := by simpa using h11
      simp only [hop, Int.reduceEq, if_false, if_true] at ho
      obtain ⟨a, t, hdn, ho⟩ := one_some ho
      have hl2 : 1 ≤ l.length := by rw [hdn]; simp
      obtain ⟨bD, oD, s0, rfl, hat0, hr0, ht0⟩ := rW_at hsl (i := 0) (by omega)
      have e0 : l[0]'(by omega) = a := by simp [hdn]
      rw [e0] at hat0 hr0 ht0
      refine rn_ ?_; intros
      refine go_q (v := .pointer (some ⟨bD, oD + 0 * 3, none⟩)) (by rw [hnt]; rfl) ((quiet_index (by rw [hty]; rfl) (by rw [hty]; rfl) rfl rfl rfl (by omega) (by omega)).cast (by rfl)) ?_
      refine rn_ ?_; intros
      refine go_q (v := .agg #[.int .i64 a.k, .int .i64 a.n, s0]) (by rw [hnt]; rfl) ((quiet_load (by rw [hty]; rfl) rfl (by simp [TK.agg]) hat0 rfl).cast (by rfl)) ?_
      refine rn_ ?_; intros
      refine go_call (by rw [hnt]; rfl) (by rw [hP]; kernel_rfl) rfl (hP ▸ rfirst_ok a s0 G hr0 (by omega)) ?_
      rintro _ G3 (hle3 : Le G G3) (⟨hv, a3, c3, rfl, hr⟩ | ⟨hv, rfl⟩)
      · refine rn_ ?_; intros
        refine go_keep [8, 10, 11] [0, 2, 3] ?_
        refine st_ ?_
        exact hK _ ⟨G3, _, _, 0, hle3, rfl, .inl ⟨rfl, hr, by have := half_tsz (i := 0) ht0; omega, by rw [← ho, halfF, if_pos hv, if_pos (vld_half hv)]⟩⟩
      · refine rn_ ?_; intros
        refine go_keep [8, 10, 11] [0, 2, 3] ?_
        refine st_ ?_
        exact hK _ ⟨G3, .mk 0 0 [], .slice none 0 0, _, hle3, rfl, .inr ⟨by split <;> decide, by rw [← ho, halfF, if_neg (by rw [hv]; decide)], _, _, _, rfl⟩⟩
    refine rn_ ?_; intros
    refine x_split rfl rfl rfl (fun h12 => ?_) (fun h12 => ?_) <;> (refine st_ ?_; (refine ru_ ?_; intros))
    · have hop : nd.op = 12 := by simpa using h12
      simp only [hop, Int.reduceEq, if_false, if_true] at ho
      obtain ⟨a, t, hdn, ho⟩ := one_some ho
      have hl2 : 1 ≤ l.length := by rw [hdn]; simp
      obtain ⟨bD, oD, s0, rfl, hat0, hr0, ht0⟩ := rW_at hsl (i := 0) (by omega)
      have e0 : l[0]'(by omega) = a := by simp [hdn]
      rw [e0] at hat0 hr0 ht0
      refine rn_ ?_; intros
      refine go_q (v := .pointer (some ⟨bD, oD + 0 * 3, none⟩)) (by rw [hnt]; rfl) ((quiet_index (by rw [hty]; rfl) (by rw [hty]; rfl) rfl rfl rfl (by omega) (by omega)).cast (by rfl)) ?_
      refine rn_ ?_; intros
      refine go_q (v := .agg #[.int .i64 a.k, .int .i64 a.n, s0]) (by rw [hnt]; rfl) ((quiet_load (by rw [hty]; rfl) rfl (by simp [TK.agg]) hat0 rfl).cast (by rfl)) ?_
      refine rn_ ?_; intros
      refine go_call (by rw [hnt]; rfl) (by rw [hP]; kernel_rfl) rfl (hP ▸ rsecond_ok a s0 G hr0 (by omega)) ?_
      rintro _ G3 (hle3 : Le G G3) (⟨hv, a3, c3, rfl, hr⟩ | ⟨hv, rfl⟩)
      · refine rn_ ?_; intros
        refine go_keep [8, 10, 11] [0, 2, 3] ?_
        refine st_ ?_
        exact hK _ ⟨G3, _, _, 0, hle3, rfl, .inl ⟨rfl, hr, by have := half_tsz (i := 1) ht0; omega, by rw [← ho, halfF, if_pos hv, if_pos (vld_half hv)]⟩⟩
      · refine rn_ ?_; intros
        refine go_keep [8, 10, 11] [0, 2, 3] ?_
        refine st_ ?_
        exact hK _ ⟨G3, .mk 0 0 [], .slice none 0 0, _, hle3, rfl, .inr ⟨by split <;> decide, by rw [← ho, halfF, if_neg (by rw [hv]; decide)], _, _, _, rfl⟩⟩
    refine rn_ ?_; intros
    refine x_split rfl rfl rfl (fun h10 => ?_) (fun h10 => ?_) <;> (refine st_ ?_; (refine ru_ ?_; intros))
    · have hop : nd.op = 10 := by simpa using h10
      simp only [hop, Int.reduceEq, if_false, if_true] at ho
      rw [hop10 hop] at ho
      split at ho
      rotate_left
      · cases ho
      rename_i hts
      injection ho with ho
      refine rn_ ?_; intros
      refine go_keep [8, 10, 11] [0, 2, 3] ?_
      refine st_ ?_
      exact hK _ ⟨G, (.mk 3 0 l), _, 0, Le.refl _, rfl, .inl ⟨rfl, rW_repM (by simp [isI64]) (by simp [isI64]) hsl, Nat.le_trans hts (by omega), ho.symm⟩⟩
    refine rn_ ?_; intros
    refine x_split rfl rfl rfl (fun h15 => ?_) (fun h15 => ?_) <;> (refine st_ ?_; (refine ru_ ?_; intros))
    · exact absurd (by simpa using h15) hopn.2.1
    refine rn_ ?_; intros
    refine x_split rfl rfl rfl (fun h14 => ?_) (fun h14 => ?_) <;> (refine st_ ?_; (refine ru_ ?_; intros))
    · exact absurd (by simpa using h14) hopn.1
    refine rn_ ?_; intros
    refine x_split rfl rfl rfl (fun h24 => ?_) (fun h24 => ?_) <;> (refine st_ ?_; (refine ru_ ?_; intros))
    · exact absurd (by simpa using h24) hopn.2.2
    have hop : 16 ≤ nd.op ∧ nd.op ≤ 23 := by
      have q1 : ¬ nd.op = 1 := by simpa using h1
      have q2 : ¬ nd.op = 2 := by simpa using h2
      have q3 : ¬ nd.op = 3 := by simpa using h3
      have q6 : ¬ nd.op = 6 := by simpa using h6
      have q7 : ¬ nd.op = 7 := by simpa using h7
      have q8 : ¬ nd.op = 8 := by simpa using h8
      have q9 : ¬ nd.op = 9 := by simpa using h9
      have q10 : ¬ nd.op = 10 := by simpa using h10
      have q11 : ¬ nd.op = 11 := by simpa using h11
      have q12 : ¬ nd.op = 12 := by simpa using h12
      omega
    rw [if_neg (show ¬ nd.op = 3 by omega), if_neg (show ¬ nd.op = 6 by omega), if_neg (show ¬ nd.op = 7 by omega), if_neg (show ¬ nd.op = 8 by omega), if_neg (show ¬ nd.op = 9 by omega), if_neg (show ¬ nd.op = 11 by omega), if_neg (show ¬ nd.op = 12 by omega), kOf_d hop] at ho
    split at ho
    rotate_left
    · cases ho
    rename_i hts
    injection ho with ho
    refine rn_ ?_; intros
    rw [wr (n := nd.op - 16) (by omega) (by omega), wr (n := nd.op - 16 + 5) (by omega) (by omega), show nd.op - 16 + 5 = nd.op - 11 by omega]
    refine go_keep [8, 10, 11] [0, 2, 3] ?_
    refine st_ ?_
    exact hK _ ⟨G, (.mk (nd.op - 11) nd.n l), _, 0, Le.refl _, rfl, .inl ⟨rfl, rW_repM ⟨by omega, by omega⟩ hn64 hsl, Nat.le_trans hts (by omega), ho.symm⟩⟩
  · rintro s' ⟨G1, y, slk, e, hle1, rfl, hcs⟩
    simp only [List.drop_succ_cons, List.drop_zero]
    rcases hcs with ⟨rfl, hry, hty9, ho2⟩ | ⟨he, ho2, ay, my, cy, rfl⟩
    · obtain ⟨ay, cy, rfl⟩ := VT.rep_slice hry
      refine rn_ ?_; intros
      refine x_heldP [(3, b10, .c 43 [.v (.int .i64 y.k), .v (.int .i64 y.n), .v (.slice ay y.l.length cy)])] 7 rfl (by rw [hP]; kernel_rfl) rfl rfl rfl ?_; refine st_ ?_
      refine hu_takeB 0 [0, 7] rfl (by kernel_rfl) (by kernel_rfl) (by kernel_rfl) (by kernel_rfl) (fun c a w v => hQp c a w _ v) (by rw [hnt]; rfl) (allIn (by repeat (first | exact trivial | refine ⟨rfl, ?_⟩))) (by first | exact Le.refl _ | assumption) (quiet_op (by rw [hty]; first | rfl | (refine st_ ?_; rfl))) ?_; refine st_ ?_
      refine hu_take0 1 rfl (by kernel_rfl) (by kernel_rfl) (by kernel_rfl) (by decide) (fun c a w v => hQp c a w _ v) (by rw [hnt]; rfl) (allIn (by repeat (first | exact trivial | refine ⟨rfl, ?_⟩))) (by first | exact Le.refl _ | assumption) (quiet_op (by rw [hty]; first | rfl | (refine st_ ?_; rfl))) ?_; refine st_ ?_
      refine hu_take0 2 rfl (by kernel_rfl) (by kernel_rfl) (by kernel_rfl) (by decide) (fun c a w v => hQp c a w _ v) (by rw [hnt]; rfl) (allIn (by repeat (first | exact trivial | refine ⟨rfl, ?_⟩))) (by first | exact Le.refl _ | assumption) (quiet_op (by rw [hty]; first | rfl | (refine st_ ?_; rfl))) ?_; refine st_ ?_
      refine hu_take0 3 rfl (by kernel_rfl) (by kernel_rfl) (by kernel_rfl) (by decide) (fun c a w v => hQp c a w _ v) (by rw [hnt]; rfl) (allIn (by repeat (first | exact trivial | refine ⟨rfl, ?_⟩))) (by first | exact Le.refl _ | assumption) (quiet_op (by rw [hty]; first | rfl | (refine st_ ?_; rfl))) ?_; refine st_ ?_
      refine go_slot 118 (.b true) rfl rfl ?_
      refine hu_one 4 rfl (by kernel_rfl) ?_
      refine rn_ ?_; intros
      refine h_hs (allIn (by repeat (first | exact trivial | refine ⟨rfl, ?_⟩))) (by first | exact Le.refl _ | assumption) ?_
      refine hu_one 5 rfl (by kernel_rfl) ?_
      refine rn_ ?_; intros
      refine go_callf (by rw [hnt]; rfl) (by rw [hP]; kernel_rfl) rfl (hP ▸ refright_ok y _ G1 hry hty9) ?_; refine rn_ ?_; intros
      refine h_hs (allIn (by repeat (first | exact trivial | refine ⟨rfl, ?_⟩))) (by first | exact Le.refl _ | assumption) ?_
      refine hu_take0 6 rfl (by kernel_rfl) (by kernel_rfl) (by kernel_rfl) (by decide) (fun c a w v => hQp c a w _ v) (by rw [hnt]; rfl) (allIn (by repeat (first | exact trivial | refine ⟨rfl, ?_⟩))) (by first | exact Le.refl _ | assumption) (quiet_op (by rw [hty]; first | rfl | (refine st_ ?_; rfl))) ?_; refine st_ ?_
      refine hu_last 7 [] rfl (by kernel_rfl) rfl ?_
      refine rn_ ?_; intros
      refine h_one 8 rfl (by kernel_rfl) ?_
      refine rn_ ?_; intros
      refine h_hs (allIn (by repeat (first | exact trivial | refine ⟨rfl, ?_⟩))) (by first | exact Le.refl _ | assumption) ?_
      refine h_end (by kernel_rfl) ?_
      refine rn_ ?_; intros
      refine x_retW rfl hQ hmb hmh hG0 hmub rfl rfl (by rw [hty]; simp only [so, sq, zy, zz, tyE, SO', SQ', opQ, opStore, opAlloc, ev, putS, dOk, cv, SV.cs, SV.one, SV.bool?, eqB, Value.oneCell', ldOwn, binInt, binConst, binBool, binStr, isC, TK.agg, rv, rv1, ldV, resOne, resV, Nat.reduceAdd, Nat.reduceMul, Nat.reduceSub, Nat.reduceLT, Nat.reduceLeDiff, Nat.reduceEqDiff, Nat.reduceBEq, reduceIte, reduceCtorEq, eq_self]; try rfl) rfl rfl (by simp only [enumO]; exact (by repeat (first | exact plain_nil | refine plain_cons (fun _ h => h) ?_))) ?_; simp only [SV.den, resV, dens]
      refine ⟨rfl, ?_⟩
      cases hvy : vld y with
      | true => rw [ho2, hvy]; exact ⟨_, rfl, hry, hvy⟩
      | false => rw [ho2, hvy]; exact ⟨_, _, _, rfl, _, _, _, rfl⟩
    · refine rn_ ?_; intros
      refine x_heldP [(3, b10, .c 43 [.v (.int .i64 y.k), .v (.int .i64 y.n), .v (.slice ay my cy)])] 7 rfl (by rw [hP]; kernel_rfl) rfl rfl rfl ?_; refine st_ ?_
      refine hu_takeB 0 [0, 7] rfl (by kernel_rfl) (by kernel_rfl) (by kernel_rfl) (by kernel_rfl) (fun c a w v => hQp c a w _ v) (by rw [hnt]; rfl) (allIn (by repeat (first | exact trivial | refine ⟨rfl, ?_⟩))) (by first | exact Le.refl _ | assumption) (quiet_op (by rw [hty]; first | rfl | (refine st_ ?_; rfl))) ?_; refine st_ ?_
      refine hu_take0 1 rfl (by kernel_rfl) (by kernel_rfl) (by kernel_rfl) (by decide) (fun c a w v => hQp c a w _ v) (by rw [hnt]; rfl) (allIn (by repeat (first | exact trivial | refine ⟨rfl, ?_⟩))) (by first | exact Le.refl _ | assumption) (quiet_op (by rw [hty]; first | rfl | (refine st_ ?_; rfl))) ?_; refine st_ ?_
      refine hu_take0 2 rfl (by kernel_rfl) (by kernel_rfl) (by kernel_rfl) (by decide) (fun c a w v => hQp c a w _ v) (by rw [hnt]; rfl) (allIn (by repeat (first | exact trivial | refine ⟨rfl, ?_⟩))) (by first | exact Le.refl _ | assumption) (quiet_op (by rw [hty]; first | rfl | (refine st_ ?_; rfl))) ?_; refine st_ ?_
      refine hu_take0 3 rfl (by kernel_rfl) (by kernel_rfl) (by kernel_rfl) (by decide) (fun c a w v => hQp c a w _ v) (by rw [hnt]; rfl) (allIn (by repeat (first | exact trivial | refine ⟨rfl, ?_⟩))) (by first | exact Le.refl _ | assumption) (quiet_op (by rw [hty]; first | rfl | (refine st_ ?_; rfl))) ?_; refine st_ ?_
      refine go_slot 118 (.b false) rfl (by simp [SV.den]; exact he) ?_
      refine hu_one 4 rfl (by kernel_rfl) ?_
      refine rn_ ?_; intros
      refine h_hs (allIn (by repeat (first | exact trivial | refine ⟨rfl, ?_⟩))) (by first | exact Le.refl _ | assumption) ?_
      refine hu_one 5 rfl (by kernel_rfl) ?_
      refine rn_ ?_; intros
      refine h_hs (allIn (by repeat (first | exact trivial | refine ⟨rfl, ?_⟩))) (by first | exact Le.refl _ | assumption) ?_
      refine hu_take0 6 rfl (by kernel_rfl) (by kernel_rfl) (by kernel_rfl) (by decide) (fun c a w v => hQp c a w _ v) (by rw [hnt]; rfl) (allIn (by repeat (first | exact trivial | refine ⟨rfl, ?_⟩))) (by first | exact Le.refl _ | assumption) (quiet_op (by rw [hty]; first | rfl | (refine st_ ?_; rfl))) ?_; refine st_ ?_
      refine hu_last 7 [] rfl (by kernel_rfl) rfl ?_
      refine rn_ ?_; intros
      refine h_one 8 rfl (by kernel_rfl) ?_
      refine rn_ ?_; intros
      refine h_hs (allIn (by repeat (first | exact trivial | refine ⟨rfl, ?_⟩))) (by first | exact Le.refl _ | assumption) ?_
      refine h_end (by kernel_rfl) ?_
      refine rn_ ?_; intros
      refine x_retW rfl hQ hmb hmh hG0 hmub rfl rfl (by rw [hty]; simp only [so, sq, zy, zz, tyE, SO', SQ', opQ, opStore, opAlloc, ev, putS, dOk, cv, SV.cs, SV.one, SV.bool?, eqB, Value.oneCell', ldOwn, binInt, binConst, binBool, binStr, isC, TK.agg, rv, rv1, ldV, resOne, resV, Nat.reduceAdd, Nat.reduceMul, Nat.reduceSub, Nat.reduceLT, Nat.reduceLeDiff, Nat.reduceEqDiff, Nat.reduceBEq, reduceIte, reduceCtorEq, eq_self]; try rfl) rfl rfl (by simp only [enumO]; exact (by repeat (first | exact plain_nil | refine plain_cons (fun _ h => h) ?_))) ?_; simp only [SV.den, resV, dens]
      exact ⟨rfl, by rw [ho2]; exact ⟨_, _, _, rfl, _, _, _, rfl⟩⟩
end Go.Proofs.Ytpppkednpamhbaa.R
namespace Go.Proofs.Ytpppkednpamhbaa
set_option linter.unusedSimpArgs false
set_option linter.unusedVariables false
open Go.Sx
theorem yrgt {p : Pr} (h : rgtP p = true) : (1 ≤ p.length ∧ p.length ≤ 64) ∧ badF p 0 = none ∧ misF p p 0 = none := by
  simp only [rgtP, whP, beq_iff_eq] at h
  split at h
  · simp at h
  · rename_i hlen
    split at h
    · simp at h
    · rename_i hb
      split at h
      · simp at h
      · split at h
        · simp at h
        · rename_i hm
          exact ⟨by omega, hb, hm⟩
theorem ymisF {p : Pr} : ∀ {l : List Fu} {i : Nat}, misF p l i = none → ∀ f ∈ l, misL p f (calP f) = none
  | [], _, _, f, hf => by simp at hf
  | g :: l, i, h, f, hf => by
    simp only [misF] at h
    split at h
    · cases h
    · rename_i hg
      rcases List.mem_cons.1 hf with rfl | hf
      · exact hg
      · exact ymisF h f hf
theorem ymisL {p : Pr} {f : Fu} : ∀ {L : Pl}, misL p f L = none → ∀ x ∈ L, misB p f x = false
  | [], _, x, hx => by simp at hx
  | y :: L, h, x, hx => by
    simp only [misL] at h
    split at h
    · cases h
    · rename_i hy
      rcases List.mem_cons.1 hx with rfl | hx
      · simpa using hy
      · exact ymisL h x hx
theorem ycals : ∀ {l : List Nd} {i k : Nat} {x : Nd}, l[k]? = some x → nms x.op = true → (((i + k : Nat) : Int), x.n) ∈ cals l i
  | [], i, k, x, h, _ => by simp at h
  | y :: l, i, k, x, h, hn => by
    cases k with
    | zero =>
      simp only [List.getElem?_cons_zero, Option.some.injEq] at h
      subst h
      simp [cals, hn]
    | succ k =>
      have ih := ycals (i := i + 1) (k := k) (x := x) (by simpa using h) hn
      rw [show i + 1 + k = i + (k + 1) by omega] at ih
      simp only [cals]
      split
      · exact List.mem_cons_of_mem _ ih
      · exact ih
def PosOk (p : Pr) (f n : Int) (d : Nat) (x : Nd) : Prop := ∃ A, 0 ≤ f ∧ f < p.length ∧ places (fu p f.toNat) = .inr A ∧ 0 ≤ n ∧ (fu p f.toNat).nodes[n.toNat]? = some x ∧ (d : Int) = de A n.toNat
theorem PosOk.nd {p : Pr} {f n : Int} {d : Nat} {x : Nd} (h : PosOk p f n d x) : ndAt p f n = some x := by
  obtain ⟨A, h1, h2, _, h4, h5, _⟩ := h
  simp only [ndAt]
  rw [if_pos ⟨h1, h4⟩]
  have hi : f.toNat < p.length := by omega
  rw [fu_eq hi] at h5
  rw [List.getElem?_eq_getElem hi]
  exact h5
theorem PosOk.facts {p : Pr} {f n : Int} {d : Nat} {x : Nd} (h : PosOk p f n d x) : d ≤ 64 ∧ ben x.op x.l.length = true ∧ nmb x.op x.n d = true ∧ n.toNat < (fu p f.toNat).nodes.length ∧ (fu p f.toNat).nodes.length ≤ 200 := by
  obtain ⟨A, h1, h2, h3, h4, h5, h6⟩ := h
  have t := tree h3
  obtain ⟨hi, hx⟩ := List.getElem?_eq_some_iff.1 h5
  have := t.ok n.toNat hi
  rw [nd_eq hi, hx, ← h6] at this
  exact ⟨by omega, this.2.1, this.2.2, hi, t.n200⟩
theorem PosOk.kid {p : Pr} {f n : Int} {d m : Nat} {x : Nd} {c : Int} (h : PosOk p f n d x) (hc : x.l[m]? = some c) : n < c ∧ ∃ y, PosOk p f c (if x.op = 4 ∧ m = 1 then d + 1 else d) y := by
  obtain ⟨A, h1, h2, h3, h4, h5, h6⟩ := h
  have t := tree h3
  obtain ⟨hi, hx⟩ := List.getElem?_eq_some_iff.1 h5
  have hk := t.kid n.toNat m c (by simp only [kl, nd_eq hi, hx]; exact hc)
  obtain ⟨k1, k2, k3, k4⟩ := hk
  have hc0 : c.toNat < (fu p f.toNat).nodes.length := by omega
  refine ⟨by omega, _, A, h1, h2, h3, by omega, List.getElem?_eq_getElem hc0, ?_⟩
  rw [k4, nd_eq hi, hx, ← h6]
  simp only [more]
  split <;> simp
theorem PosOk.root {p : Pr} (hp : rgtP p = true) {f : Int} (h0 : 0 ≤ f) (h1 : f < p.length) : ∃ y, PosOk p f 0 (fu p f.toNat).params.toNat y := by
  have hb := badF_ok (yrgt hp).2.1 (fu p f.toNat) (by rw [fu_eq (show f.toNat < p.length by omega)]; exact List.getElem_mem _)
  simp only [whr] at hb
  cases hq : places (fu p f.toNat) with
  | inl a => rw [hq] at hb; simp at hb
  | inr A =>
    have t := tree hq
    have hpos := t.pos
    refine ⟨_, A, h0, h1, hq, Int.le_refl _, List.getElem?_eq_getElem (show (0 : Int).toNat < _ from hpos), ?_⟩
    have := t.root.2
    have hp9 := t.par9
    show _ = de A 0
    omega
theorem PosOk.call {p : Pr} (hp : rgtP p = true) {f n : Int} {d : Nat} {x : Nd} (h : PosOk p f n d x) (hop : x.op = 13) : 0 ≤ x.n ∧ x.n < p.length ∧ ∃ y, PosOk p x.n 0 x.l.length y := by
  obtain ⟨hd, hben, hnm, _, _⟩ := h.facts
  obtain ⟨A, h1, h2, h3, h4, h5, h6⟩ := h
  have hn : nms x.op = true := by rw [hop]; rfl
  have h7 := nmb_nms hn hnm
  have hm : ((n.toNat : Int), x.n) ∈ calP (fu p f.toNat) := by
    have := ycals (i := 0) h5 hn
    simp only [calP, h3]
    simpa using this
  have h8 := ymisL (ymisF (yrgt hp).2.2 (fu p f.toNat) (by rw [fu_eq (show f.toNat < p.length by omega)]; exact List.getElem_mem _)) _ hm
  simp only [misB, Bool.or_eq_false_iff, decide_eq_false_iff_not, Bool.not_eq_false'] at h8
  obtain ⟨h9, h10⟩ := h8
  have hi := (List.getElem?_eq_some_iff.1 h5)
  rw [show ((n.toNat : Int)).toNat = n.toNat by omega, nd_eq hi.1, hi.2] at h10
  simp only [fits, hop] at h10
  rw [if_neg (by decide)] at h10
  have h11 : (fu p x.n.toNat).params = x.l.length := by simpa using h10
  obtain ⟨y, hy⟩ := PosOk.root hp h7.1 (show x.n < p.length by omega)
  rw [h11] at hy
  exact ⟨h7.1, by omega, y, by simpa using hy⟩
inductive ER where
  | out
  | wrong
  | val (v : VT) (left : Nat)
inductive EL where
  | out
  | wrong
  | vals (l : List VT) (left : Nat)
def many (nd : Nd) : Nat := if nd.op = 4 ∨ nd.op = 5 then 1 else nd.l.length
def evL (ev : Nat → Int → ER) : Nat → List Int → EL
  | left, [] => .vals [] left
  | left, k :: ks => match ev left k with
    | .out => .out
    | .wrong => .wrong
    | .val v left' => match evL ev left' ks with
      | .vals l left'' => .vals (v :: l) left''
      | .out => .out
      | .wrong => .wrong
def evE (p : Pr) : Nat → Nat → Int → Int → List VT → Nat → ER
  | 0, _, _, _, _, _ => .out
  | n + 1, left, f, node, vars, deep =>
    if left = 0 ∨ 100 < deep then .out else
    match ndAt p f node with
    | none => .out
    | some nd =>
      match evL (fun lf k => evE p n lf f k vars (deep + 1)) (left - 1) (nd.l.take (many nd)) with
      | .out => .out
      | .wrong => .wrong
      | .vals l left' =>
        if nd.op = 4 then
          match l[0]?, nd.l[1]? with
          | some v, some k => evE p n left' f k (vars ++ [v]) deep
          | _, _ => .out
        else if nd.op = 5 then
          match l[0]? with
          | none => .out
          | some v => match trF v with
            | none => .wrong
            | some b => match nd.l[2]?, nd.l[1]? with
              | some k2, some k1 => evE p n left' f (if b then k1 else k2) vars deep
              | _, _ => .out
        else if nd.op = 13 then evE p n left' nd.n 0 l deep
        else if nd.op = 14 ∨ nd.op = 15 ∨ nd.op = 24 then .out
        else match resF ⟨0, 0, vars, l⟩ nd with
          | some (some v) => .val v left'
          | some none => .wrong
          | none => .out
end Go.Proofs.Ytpppkednpamhbaa
namespace Go.Proofs.Ytpppkednpamhbaa
set_option linter.unusedSimpArgs false
set_option linter.unusedVariables false
open Go.Sx
theorem ben_len {op : Int} {m : Nat} (h : ben op m = true) : (op = 4 → m = 2) ∧ (op = 5 → m = 3) ∧ (op = 24 → m = 1) ∧ (op = 11 ∨ op = 12 → m = 1) ∧ (op = 6 ∨ op = 7 ∨ op = 8 ∨ op = 9 ∨ op = 10 → m = 2) ∧ (op = 1 ∨ op = 2 ∨ op = 3 → m = 0) ∧ m ≤ 16 ∧ 1 ≤ op ∧ op ≤ 24 := by
  simp only [ben, chl, Bool.and_eq_true, decide_eq_true_eq] at h
  split at h
  · simp at h; omega
  · split at h
    · simp at h; omega
    · split at h
      · simp at h; omega
      · split at h
        · simp at h; omega
        · split at h
          · simp at h; omega
          · split at h
            · simp at h; omega
            · split at h
              · simp at h; omega
              · simp at h
def VX (p : Pr) (x : Fm) (nd : Nd) : Prop := PosOk p x.fn x.nd x.vars.length nd ∧ x.done.length ≤ many nd ∧ (∀ v ∈ x.vars, vld v = true) ∧ ∀ v ∈ x.done, vld v = true
def WS (p : Pr) : List Fm → Prop
  | [] => True
  | y :: r => (∃ nd, VX p y nd ∧ y.done.length < many nd) ∧ WS p r
def RX (p : Pr) (st : Int) (x : Fm) (nd : Nd) : Prop := VX p x nd ∧ nd.op ≠ 4 ∧ nd.op ≠ 5 ∧ x.done.length = nd.l.length ∧ (st = 1 ∧ nd.op ≠ 14 ∧ nd.op ≠ 15 ∧ nd.op ≠ 24 ∨ st = 2 ∧ (nd.op = 14 ∨ nd.op = 15 ∨ nd.op = 24))
def VO (p : Pr) (o : Int × List Fm) : Prop := o = (4, []) ∨ ∃ x r nd, o.2 = x :: r ∧ RX p o.1 x nd ∧ WS p r ∧ r.length < 256
theorem down_ok {p : Pr} : ∀ (q : Nat) (x : Fm) (r : List Fm) (nd : Nd), VX p x nd → WS p r → r.length < 256 → 201 ≤ q + x.nd.toNat → ∃ o, downF p q (x :: r) = some o ∧ VO p o
  | 0, x, r, nd, hx, _, _, hq => by
    have := hx.1.facts
    omega
  | q + 1, x, r, nd, hx, hr, hr2, hq => by
    obtain ⟨hpos, hdn, hvv, hvd⟩ := hx
    obtain ⟨hd64, hben, hnm, hi, hi2⟩ := hpos.facts
    obtain ⟨b4, b5, b24, b11, b6, b1, b16, _, _⟩ := ben_len hben
    have hnn : 0 ≤ x.nd := by obtain ⟨_, _, _, _, h, _⟩ := hpos; exact h
    rw [downF]
    simp only [hpos.nd]
    by_cases h4 : nd.op = 4 ∧ x.done.length = 1
    · rw [if_pos h4]
      have hl2 := b4 h4.1
      obtain ⟨k, hk⟩ : ∃ k, nd.l[1]? = some k := ⟨_, List.getElem?_eq_getElem (by omega)⟩
      obtain ⟨v, t, hv⟩ : ∃ v t, x.done = v :: t := by
        cases hq : x.done with
        | nil => rw [hq] at h4; simp at h4
        | cons v t => exact ⟨v, t, rfl⟩
      rw [hk, hv]
      simp only []
      rw [if_pos (by omega)]
      obtain ⟨hlt, y, hy⟩ := hpos.kid hk
      rw [if_pos ⟨h4.1, rfl⟩] at hy
      refine down_ok q ⟨x.fn, k, x.vars ++ [v], []⟩ r y ⟨by simpa using hy, by simp, fun w hw => ?_, by simp⟩ hr hr2 (by simp only []; omega)
      rcases List.mem_append.1 hw with hw | hw
      · exact hvv w hw
      · exact hvd w (by rw [hv]; simp at hw; simp [hw])
    rw [if_neg h4]
    by_cases h5 : nd.op = 5 ∧ x.done.length = 1
    · rw [if_pos h5]
      have hl3 := b5 h5.1
      obtain ⟨k1, hk1⟩ : ∃ k, nd.l[1]? = some k := ⟨_, List.getElem?_eq_getElem (by omega)⟩
      obtain ⟨k2, hk2⟩ : ∃ k, nd.l[2]? = some k := ⟨_, List.getElem?_eq_getElem (by omega)⟩
      obtain ⟨v, t, hv⟩ : ∃ v t, x.done = v :: t := by
        cases hq : x.done with
        | nil => rw [hq] at h5; simp at h5
        | cons v t => exact ⟨v, t, rfl⟩
      rw [hv, hk1, hk2]
      simp only []
      cases htr : trF v with
      | none => exact ⟨_, rfl, .inl rfl⟩
      | some b =>
        simp only []
        obtain ⟨hlt1, y1, hy1⟩ := hpos.kid hk1
        obtain ⟨hlt2, y2, hy2⟩ := hpos.kid hk2
        rw [if_neg (by omega)] at hy1 hy2
        cases b with
        | false => exact down_ok q ⟨x.fn, k2, x.vars, []⟩ r y2 ⟨hy2, by simp, hvv, by simp⟩ hr hr2 (by simp only []; omega)
        | true => exact down_ok q ⟨x.fn, k1, x.vars, []⟩ r y1 ⟨hy1, by simp, hvv, by simp⟩ hr hr2 (by simp only []; omega)
    rw [if_neg h5]
    by_cases hl : x.done.length = nd.l.length
    · rw [if_pos hl]
      have n4 : nd.op ≠ 4 := by
        intro h
        have := b4 h
        simp only [many, h, true_or, if_true] at hdn
        omega
      have n5 : nd.op ≠ 5 := by
        intro h
        have := b5 h
        simp only [many, h, or_true, if_true] at hdn
        omega
      have hVX : VX p x nd := ⟨hpos, hdn, hvv, hvd⟩
      simp only [readyF]
      by_cases h24 : nd.op = 24
      · rw [if_pos h24]
        have := b24 h24
        cases hdd : x.done with
        | nil => rw [hdd] at hl; simp at hl; omega
        | cons v t =>
          simp only []
          split
          · exact ⟨_, rfl, .inr ⟨x, r, nd, rfl, ⟨hVX, n4, n5, hl, .inr ⟨rfl, .inr (.inr h24)⟩⟩, hr, hr2⟩⟩
          · exact ⟨_, rfl, .inl rfl⟩
      · rw [if_neg h24]
        refine ⟨_, rfl, .inr ⟨x, r, nd, rfl, ⟨hVX, n4, n5, hl, ?_⟩, hr, hr2⟩⟩
        by_cases h15 : nd.op = 15 ∨ nd.op = 14
        · rw [if_pos h15]; exact .inr ⟨rfl, by omega⟩
        · rw [if_neg h15]; exact .inl ⟨rfl, by omega, by omega, h24⟩
    rw [if_neg hl]
    by_cases h256 : 256 ≤ r.length + 1
    · rw [if_pos h256]; exact ⟨_, rfl, .inl rfl⟩
    rw [if_neg h256]
    have hlt : x.done.length < many nd := by
      unfold many at hdn ⊢
      split
      · rename_i h45
        rw [if_pos h45] at hdn
        omega
      · rename_i h45
        rw [if_neg h45] at hdn
        omega
    have hlt2 : x.done.length < nd.l.length := by
      unfold many at hlt
      split at hlt
      · rename_i h45
        rcases h45 with h | h
        · have := b4 h; omega
        · have := b5 h; omega
      · exact hlt
    obtain ⟨k, hk⟩ : ∃ k, nd.l[x.done.length]? = some k := ⟨_, List.getElem?_eq_getElem hlt2⟩
    rw [hk]
    simp only []
    obtain ⟨hlt3, y, hy⟩ := hpos.kid hk
    rw [if_neg h4] at hy
    exact down_ok q ⟨x.fn, k, x.vars, []⟩ (x :: r) y ⟨hy, by simp, hvv, by simp⟩ ⟨⟨nd, ⟨hpos, hdn, hvv, hvd⟩, hlt⟩, hr⟩ (by simp; omega) (by simp only []; omega)
theorem down_mono {p : Pr} : ∀ {q : Nat} {l : List Fm} {o : Int × List Fm} (q' : Nat), downF p q l = some o → q ≤ q' → downF p q' l = some o
  | 0, [], o, _, h, _ => by cases h
  | 0, _ :: _, o, _, h, _ => by cases h
  | q + 1, [], o, _, h, _ => by cases h
  | q + 1, x :: r, o, 0, _, hq => by omega
  | q + 1, x :: r, o, q' + 1, h, hq => by
    rw [downF] at h ⊢
    cases hnd : ndAt p x.fn x.nd with
    | none => rw [hnd] at h; cases h
    | some nd =>
    rw [hnd] at h
    simp only [] at h ⊢
    split at h
    · rename_i h4
      rw [if_pos h4]
      split at h
      · split at h
        · rename_i hv
          rw [if_pos hv]
          exact down_mono q' h (by omega)
        · cases h
      · cases h
    rename_i h4
    rw [if_neg h4]
    split at h
    · rename_i h5
      rw [if_pos h5]
      split at h
      · cases h
      · rename_i v t hdd
        split at h
        · exact h
        · split at h
          · exact down_mono q' h (by omega)
          · cases h
    rename_i h5
    rw [if_neg h5]
    split at h
    · rename_i hl
      rw [if_pos hl]
      exact h
    rename_i hl
    rw [if_neg hl]
    split at h
    · rename_i h2
      rw [if_pos h2]
      exact h
    rename_i h2
    rw [if_neg h2]
    split at h
    · cases h
    · exact down_mono q' h (by omega)
end Go.Proofs.Ytpppkednpamhbaa
namespace Go.Proofs.Ytpppkednpamhbaa
set_option linter.unusedSimpArgs false
set_option linter.unusedVariables false
open Go.Sx
theorem xvld_i (n : Int) : vld (.mk 2 n []) = true := by simp [vld, sml, cnt, cntL, shps, shpsL, shp]
theorem xnumF {a b y : VT} {g : Int → Int → Int} (h : numF a b g = some y) : vld y = true := by
  unfold numF at h
  split at h
  · injection h with h; subst h; exact xvld_i _
  · cases h
theorem xeqF {a b y : VT} (h : eqF a b = some y) : vld y = true := by
  unfold eqF at h
  split at h
  · injection h with h; subst h; exact xvld_i _
  · cases h
theorem xsml {x : VT} : sml x = true ↔ tsz x ≤ 256 := by
  simp only [sml, decide_eq_true_eq]
  rw [cnt_eq x 0 (by omega)]
  omega
theorem xshpsL : ∀ {l : List VT} {x : VT}, shpsL l = true → x ∈ l → shps x = true
  | y :: l, x, h, hx => by
    simp only [shpsL, Bool.and_eq_true] at h
    rcases List.mem_cons.1 hx with rfl | hx
    · exact h.1
    · exact xshpsL h.2 hx
theorem xvld_mem {a x : VT} (h : vld a = true) (hx : x ∈ a.l) : vld x = true := by
  simp only [vld, Bool.and_eq_true] at h ⊢
  have h1 := xsml.1 h.1
  have h2 := tszL_mem hx
  have h3 := tsz_l a
  refine ⟨xsml.2 (by omega), ?_⟩
  obtain ⟨k, n, l⟩ := a
  simp only [shps, Bool.and_eq_true] at h
  exact xshpsL h.2.2 hx
theorem xhalf {a y : VT} {i : Nat} (h : halfF i a = some y) : vld y = true := by
  unfold halfF at h
  split at h
  · rename_i hc
    injection h with h
    subst h
    simp only [Bool.and_eq_true] at hc
    rw [List.getD_eq_getElem?_getD]
    cases hq : a.l[i]? with
    | none => exact hc.1
    | some x => exact xvld_mem hc.1 (List.mem_of_getElem? hq)
  · cases h
theorem xvld_sz {v : VT} (h : vld v = true) : tsz v ≤ 256 := by
  simp only [vld, Bool.and_eq_true] at h
  exact xsml.1 h.1
theorem xtszL : ∀ {l : List VT}, (∀ v ∈ l, vld v = true) → tszL l ≤ 256 * l.length
  | [], _ => by simp [tszL]
  | v :: l, h => by
    have h1 := xvld_sz (h v (by simp))
    have h2 := xtszL (l := l) fun w hw => h w (by simp [hw])
    simp only [tszL, List.length_cons]
    omega
theorem res_tot {p : Pr} {x : Fm} {nd : Nd} (h : RX p 1 x nd) (h13 : nd.op ≠ 13) : ∃ ov, resF x nd = some ov ∧ ∀ v, ov = some v → vld v = true := by
  obtain ⟨⟨hpos, hdn, hvv, hvd⟩, n4, n5, hl, hst⟩ := h
  obtain ⟨hd64, hben, hnm, hi, hi2⟩ := hpos.facts
  obtain ⟨b4, b5, b24, b11, b6, b1, b16, _, _⟩ := ben_len hben
  unfold resF
  have two' : ∀ g : VT → VT → Option VT, nd.l.length = 2 → (∀ a b v, g a b = some v → vld v = true) → ∃ ov, two x.done g = some ov ∧ ∀ v, ov = some v → vld v = true := by
    intro g h2 hg
    cases hd1 : x.done with
    | nil => rw [hd1] at hl; simp at hl; omega
    | cons a t =>
      cases t with
      | nil => rw [hd1] at hl; simp at hl; omega
      | cons b t => exact ⟨_, rfl, fun v hv => hg a b v hv⟩
  have one' : ∀ g : VT → Option VT, nd.l.length = 1 → (∀ a v, g a = some v → vld v = true) → ∃ ov, one x.done g = some ov ∧ ∀ v, ov = some v → vld v = true := by
    intro g h2 hg
    cases hd1 : x.done with
    | nil => rw [hd1] at hl; simp at hl; omega
    | cons a t => exact ⟨_, rfl, fun v hv => hg a v hv⟩
  by_cases h3 : nd.op = 3
  · rw [if_pos h3]
    simp only [nmb, h3] at hnm
    rw [if_neg (by decide), if_pos trivial] at hnm
    simp only [Bool.and_eq_true, decide_eq_true_eq] at hnm
    rw [if_pos hnm.1]
    have hlt : nd.n.toNat < x.vars.length := by omega
    rw [List.getElem?_eq_getElem hlt]
    exact ⟨_, rfl, fun v hv => by injection hv with hv; subst hv; exact hvv _ (List.getElem_mem _)⟩
  rw [if_neg h3]
  by_cases h6 : nd.op = 6
  · rw [if_pos h6]; exact two' _ (b6 (.inl h6)) fun a b v => xnumF
  rw [if_neg h6]
  by_cases h7 : nd.op = 7
  · rw [if_pos h7]; exact two' _ (b6 (.inr (.inl h7))) fun a b v => xnumF
  rw [if_neg h7]
  by_cases h8 : nd.op = 8
  · rw [if_pos h8]; exact two' _ (b6 (.inr (.inr (.inl h8)))) fun a b v => xeqF
  rw [if_neg h8]
  by_cases h9 : nd.op = 9
  · rw [if_pos h9]; exact two' _ (b6 (.inr (.inr (.inr (.inl h9))))) fun a b v => xnumF
  rw [if_neg h9]
  by_cases h11 : nd.op = 11
  · rw [if_pos h11]; exact one' _ (b11 (.inl h11)) fun a v => xhalf
  rw [if_neg h11]
  by_cases h12 : nd.op = 12
  · rw [if_pos h12]; exact one' _ (b11 (.inr h12)) fun a v => xhalf
  rw [if_neg h12]
  have hts : tsz (.mk (kOf nd.op) nd.n x.done) ≤ 1000000 := by
    have := xtszL hvd
    simp only [tsz]
    omega
  rw [if_pos hts]
  refine ⟨_, rfl, fun v hv => ?_⟩
  split at hv
  · rename_i hc; injection hv with hv; subst hv; exact hc
  · cases hv
def VF (p : Pr) (s : Fb) : Prop := (VO p (s.st, s.l) ∨ (s.st = 3 ∧ s.l = [])) ∧ (s.st = 3 → vld s.val = true)
theorem go_tot {p : Pr} {s : Fb} {x : Fm} {r : List Fm} {nd : Nd} (h : VX p x nd) (hr : WS p r) (hr2 : r.length < 256) : ∃ o, goF p s (x :: r) = some o ∧ VF p o ∧ o.val = s.val := by
  obtain ⟨o, h1, h2⟩ := down_ok 600 x r nd h hr hr2 (by omega)
  refine ⟨⟨o.1, s.val, o.2⟩, by rw [goF, h1]; rfl, ⟨.inl h2, fun h3 => ?_⟩, rfl⟩
  rcases h2 with rfl | ⟨x', r', nd', h4, h5, _⟩
  · cases h3
  · have := h5.2.2.2.2
    simp only [] at h3
    omega
theorem prod_tot {p : Pr} {s : Fb} {v : VT} {x : Fm} {r : List Fm} (hs : s.l = x :: r) (hv : vld v = true) (hr : WS p r) (hr2 : r.length < 256) : ∃ o, prodF p s v = some o ∧ VF p o := by
  unfold prodF
  rw [hs]
  cases r with
  | nil => exact ⟨_, rfl, .inr ⟨rfl, rfl⟩, fun _ => hv⟩
  | cons y r =>
    obtain ⟨⟨nd, ⟨hpos, hdn, hvv, hvd⟩, hlt⟩, hr⟩ := hr
    have hm : many nd ≤ 16 := by
      have := (ben_len hpos.facts.2.1).2.2.2.2.2.2.1
      unfold many
      split <;> omega
    simp only []
    rw [if_pos (by omega)]
    obtain ⟨o, h1, h2, _⟩ := go_tot (s := s) (x := ⟨y.fn, y.nd, y.vars, y.done ++ [v]⟩) (r := r) (nd := nd) ⟨hpos, by simp; omega, hvv, fun w hw => by
      rcases List.mem_append.1 hw with hw | hw
      · exact hvd w hw
      · simp at hw; subst hw; exact hv⟩ hr (by simp at hr2; omega)
    exact ⟨o, h1, h2⟩
theorem step_tot {p : Pr} (hp : rgtP p = true) {s : Fb} (h : VF p s) : ∃ e o, stepP p s = some (e, o) ∧ VF p o := by
  unfold stepP
  by_cases h1 : s.st ≠ 1
  · rw [if_pos h1]; exact ⟨_, _, rfl, h⟩
  rw [if_neg h1]
  have h1 : s.st = 1 := by omega
  rcases h.1 with (h2 | ⟨x, r, nd, h2, h3, h4, h5⟩) | ⟨h2, _⟩
  · injection h2 with h2 _; omega
  · simp only [] at h2 h3
    rw [h2]
    simp only []
    rw [h3.1.1.nd]
    simp only []
    rw [h1] at h3
    by_cases h13 : nd.op = 13
    · rw [if_pos h13]
      obtain ⟨c1, c2, y, hy⟩ := h3.1.1.call hp h13
      have hl := h3.2.2.2.1
      obtain ⟨o, g1, g2, _⟩ := go_tot (s := s) (x := ⟨nd.n, 0, x.done, []⟩) (r := r) (nd := y) ⟨by rw [hl]; exact hy, by simp, h3.1.2.2.2, by simp⟩ h4 h5
      rw [g1]
      exact ⟨_, _, rfl, g2⟩
    · rw [if_neg h13]
      obtain ⟨ov, g1, g2⟩ := res_tot h3 h13
      rw [g1]
      cases ov with
      | none => exact ⟨_, _, rfl, .inl (.inl rfl), fun q => by cases q⟩
      | some v =>
        obtain ⟨o, k1, k2⟩ := prod_tot h2 (g2 v rfl) h4 h5
        simp only [k1]
        exact ⟨_, _, rfl, k2⟩
  · omega
theorem run_tot {p : Pr} (hp : rgtP p = true) : ∀ (k : Nat) {s : Fb}, VF p s → ∃ n o, runP p k s = some (n, o) ∧ VF p o ∧ n ≤ k
  | 0, s, h => ⟨0, s, rfl, h, Nat.le_refl _⟩
  | k + 1, s, h => by
    obtain ⟨e, o, h1, h2⟩ := step_tot hp h
    simp only [runP, h1]
    by_cases he : e = 0
    · rw [if_pos he]
      obtain ⟨n, o', h3, h4, h5⟩ := run_tot hp k h2
      rw [h3]
      exact ⟨n + 1, o', rfl, h4, by omega⟩
    · rw [if_neg he]
      exact ⟨0, o, rfl, h2, by omega⟩
end Go.Proofs.Ytpppkednpamhbaa
namespace Go.Proofs.Ytpppkednpamhbaa
set_option linter.unusedSimpArgs false
set_option linter.unusedVariables false
open Go.Sx
def Rn (p : Pr) : Nat → Fb → Fb → Prop
  | 0, s, s' => s = s'
  | k + 1, s, s' => ∃ s1, stepP p s = some (0, s1) ∧ Rn p k s1 s'
theorem Rn.trans {p : Pr} : ∀ {a b : Nat} {s s1 s2 : Fb}, Rn p a s s1 → Rn p b s1 s2 → Rn p (a + b) s s2
  | 0, b, s, s1, s2, h, h' => by
    have h : s = s1 := h
    subst h
    rwa [Nat.zero_add]
  | a + 1, b, s, s1, s2, ⟨t, h1, h2⟩, h' => by
    rw [show a + 1 + b = (a + b) + 1 by omega]
    exact ⟨t, h1, h2.trans h'⟩
theorem Rn.run {p : Pr} : ∀ {k q : Nat} {s s' : Fb}, Rn p k s s' → s'.st ≠ 1 → runP p (k + q) s = some (k, s')
  | 0, 0, s, s', h, _ => by
    have h : s = s' := h
    subst h; rfl
  | 0, q + 1, s, s', h, h1 => by
    have h : s = s' := h
    subst h
    rw [Nat.zero_add, runP, stepP, if_pos h1]
    rfl
  | k + 1, q, s, s', ⟨t, h1, h2⟩, h3 => by
    rw [show k + 1 + q = (k + q) + 1 by omega, runP, h1]
    simp only [if_true]
    rw [h2.run h3]
    rfl
theorem dn_eq {p : Pr} {q : Nat} {x : Fm} {r : List Fm} {nd : Nd} (h : VX p x nd) (hr : WS p r) (hr2 : r.length < 256) (hq : 201 ≤ q + x.nd.toNat) (hq2 : q ≤ 600) : downF p q (x :: r) = downF p 600 (x :: r) := by
  obtain ⟨o, h1, _⟩ := down_ok q x r nd h hr hr2 hq
  rw [h1, down_mono 600 h1 hq2]
theorem VX.kid {p : Pr} {x : Fm} {nd : Nd} {m : Nat} {c : Int} (h : VX p x nd) (hc : nd.l[m]? = some c) (h4 : ¬ (nd.op = 4 ∧ m = 1)) : ∃ y, VX p ⟨x.fn, c, x.vars, []⟩ y := by
  obtain ⟨_, y, hy⟩ := h.1.kid hc
  rw [if_neg h4] at hy
  exact ⟨y, hy, by simp, h.2.2.1, by simp⟩
theorem dn_push {p : Pr} {x : Fm} {r : List Fm} {nd : Nd} {k : Int} (h : VX p x nd) (hr : WS p r) (hr2 : r.length + 1 < 256) (hlt : x.done.length < many nd) (hk : nd.l[x.done.length]? = some k) : downF p 600 (x :: r) = downF p 600 (⟨x.fn, k, x.vars, []⟩ :: x :: r) := by
  have hl := (List.getElem?_eq_some_iff.1 hk).1
  have h4 : ¬ (nd.op = 4 ∧ x.done.length = 1) := fun q => by simp only [many, q.1, true_or, if_true] at hlt; omega
  have h5 : ¬ (nd.op = 5 ∧ x.done.length = 1) := fun q => by simp only [many, q.1, or_true, if_true] at hlt; omega
  obtain ⟨y, hy⟩ := h.kid hk h4
  have hW : WS p (x :: r) := ⟨⟨nd, h, hlt⟩, hr⟩
  rw [← dn_eq (q := 599) hy hW (by simp; omega) (by omega) (by omega)]
  show downF p (599 + 1) (x :: r) = _
  rw [downF]
  simp only [h.1.nd]
  rw [if_neg h4, if_neg h5, if_neg (show ¬ x.done.length = nd.l.length by omega), if_neg (show ¬ 256 ≤ r.length + 1 by omega), hk]
theorem dn_let {p : Pr} {f n c : Int} {vars : List VT} {v : VT} {r : List Fm} {nd : Nd} (h : VX p ⟨f, n, vars, [v]⟩ nd) (hr : WS p r) (hr2 : r.length < 256) (h4 : nd.op = 4) (hc : nd.l[1]? = some c) : (∃ y, VX p ⟨f, c, vars ++ [v], []⟩ y) ∧ downF p 600 (⟨f, n, vars, [v]⟩ :: r) = downF p 600 (⟨f, c, vars ++ [v], []⟩ :: r) := by
  obtain ⟨_, y, hy⟩ := h.1.kid hc
  rw [if_pos ⟨h4, rfl⟩] at hy
  have hd := h.1.facts.1
  simp only [] at hd hy
  have hV : VX p ⟨f, c, vars ++ [v], []⟩ y := ⟨by simpa using hy, by simp, fun w hw => by
    rcases List.mem_append.1 hw with hw | hw
    · exact h.2.2.1 w hw
    · exact h.2.2.2 w hw, by simp⟩
  refine ⟨⟨y, hV⟩, ?_⟩
  rw [← dn_eq (q := 599) hV hr hr2 (by omega) (by omega)]
  show downF p (599 + 1) (_ :: r) = _
  rw [downF]
  simp only [h.1.nd]
  rw [if_pos ⟨h4, rfl⟩, hc]
  simp only []
  rw [if_pos (by omega)]
theorem dn_if {p : Pr} {f n c1 c2 : Int} {vars : List VT} {v : VT} {b : Bool} {r : List Fm} {nd : Nd} (h : VX p ⟨f, n, vars, [v]⟩ nd) (hr : WS p r) (hr2 : r.length < 256) (h5 : nd.op = 5) (hc1 : nd.l[1]? = some c1) (hc2 : nd.l[2]? = some c2) (hb : trF v = some b) :
    (∃ y, VX p ⟨f, if b then c1 else c2, vars, []⟩ y) ∧ downF p 600 (⟨f, n, vars, [v]⟩ :: r) = downF p 600 (⟨f, if b then c1 else c2, vars, []⟩ :: r) := by
  have hV : ∃ y, VX p ⟨f, if b then c1 else c2, vars, []⟩ y := by
    cases b with
    | true => exact h.kid hc1 (by omega)
    | false => exact h.kid hc2 (by omega)
  refine ⟨hV, ?_⟩
  obtain ⟨y, hV⟩ := hV
  rw [← dn_eq (q := 599) hV hr hr2 (by omega) (by omega)]
  show downF p (599 + 1) (_ :: r) = _
  rw [downF]
  simp only [h.1.nd]
  rw [if_neg (by omega), if_pos ⟨h5, rfl⟩]
  simp only [hb, hc1, hc2]
theorem dn_if0 {p : Pr} {f n : Int} {vars : List VT} {v : VT} {r : List Fm} {nd : Nd} (h : VX p ⟨f, n, vars, [v]⟩ nd) (h5 : nd.op = 5) (hb : trF v = none) : downF p 600 (⟨f, n, vars, [v]⟩ :: r) = some (4, []) := by
  show downF p (599 + 1) (_ :: r) = _
  rw [downF]
  simp only [h.1.nd]
  rw [if_neg (by omega), if_pos ⟨h5, rfl⟩]
  simp only [hb]
theorem dn_rdy {p : Pr} {x : Fm} {r : List Fm} {nd : Nd} (h : VX p x nd) (hl : x.done.length = nd.l.length) (h4 : nd.op ≠ 4) (h5 : nd.op ≠ 5) (h14 : nd.op ≠ 14) (h15 : nd.op ≠ 15) (h24 : nd.op ≠ 24) : downF p 600 (x :: r) = some (1, x :: r) := by
  show downF p (599 + 1) (x :: r) = _
  rw [downF]
  simp only [h.1.nd]
  rw [if_neg (fun q => h4 q.1), if_neg (fun q => h5 q.1), if_pos hl, readyF, if_neg h24, if_neg (by omega)]
def aft (p : Pr) (sv : VT) (r : List Fm) (v : VT) : Option Fb := prodF p ⟨1, sv, ⟨0, 0, [], []⟩ :: r⟩ v
theorem aft_eq (p : Pr) (st : Int) (sv : VT) (x : Fm) (r : List Fm) (v : VT) : prodF p ⟨st, sv, x :: r⟩ v = aft p sv r v := by
  unfold aft prodF
  cases r <;> rfl
def At' (p : Pr) (sv : VT) (l : List Fm) (s : Fb) : Prop := ∃ o, downF p 600 l = some o ∧ s = ⟨o.1, sv, o.2⟩
theorem aft_cons {p : Pr} {sv : VT} {y : Fm} {r : List Fm} {v : VT} {s : Fb} (hy : y.done.length < 1000) (h : At' p sv (⟨y.fn, y.nd, y.vars, y.done ++ [v]⟩ :: r) s) : aft p sv (y :: r) v = some s := by
  obtain ⟨o, h1, rfl⟩ := h
  unfold aft prodF
  simp only []
  rw [if_pos hy, goF, h1]
  rfl
theorem at_tot {p : Pr} {sv : VT} {x : Fm} {r : List Fm} {nd : Nd} (h : VX p x nd) (hr : WS p r) (hr2 : r.length < 256) : ∃ s, At' p sv (x :: r) s := by
  obtain ⟨o, h1, _⟩ := down_ok 600 x r nd h hr hr2 (by omega)
  exact ⟨_, o, h1, rfl⟩
theorem At'.eq {p : Pr} {sv : VT} {l l' : List Fm} {s : Fb} (h : At' p sv l s) (e : downF p 600 l' = downF p 600 l) : At' p sv l' s := by
  obtain ⟨o, h1, h2⟩ := h
  exact ⟨o, by rw [e, h1], h2⟩
theorem At'.det {p : Pr} {sv : VT} {l : List Fm} {s s' : Fb} (h : At' p sv l s) (h' : At' p sv l s') : s = s' := by
  obtain ⟨o, h1, rfl⟩ := h
  obtain ⟨o', h2, rfl⟩ := h'
  rw [h1] at h2
  cases h2
  rfl
def EV (p : Pr) (sv : VT) (n : Nat) : Prop := ∀ (left : Nat) (f node : Int) (vars : List VT) (r : List Fm) (nd : Nd), VX p ⟨f, node, vars, []⟩ nd → WS p r →
  (∀ v left', evE p n left f node vars r.length = .val v left' → vld v = true ∧ ∃ k s1, 1 ≤ k ∧ k + left' ≤ left ∧ At' p sv (⟨f, node, vars, []⟩ :: r) s1 ∧ ∀ s2, aft p sv r v = some s2 → Rn p k s1 s2) ∧
  (evE p n left f node vars r.length = .wrong → ∃ k s1, k ≤ left ∧ At' p sv (⟨f, node, vars, []⟩ :: r) s1 ∧ Rn p k s1 ⟨4, sv, []⟩)
theorem evl_ok {p : Pr} {sv : VT} {n : Nat} (hE : EV p sv n) {f node : Int} {vars : List VT} {r : List Fm} {nd : Nd} (hr : WS p r) (hr2 : r.length + 1 < 256) : ∀ (ks : List Int) (vs : List VT) (left : Nat), VX p ⟨f, node, vars, vs⟩ nd → ks = (nd.l.take (many nd)).drop vs.length →
    (∀ l left', evL (fun lf k => evE p n lf f k vars (r.length + 1)) left ks = .vals l left' → l.length = ks.length ∧ (∀ v ∈ l, vld v = true) ∧ ∃ k s1, k + left' ≤ left ∧ At' p sv (⟨f, node, vars, vs⟩ :: r) s1 ∧ ∀ s2, At' p sv (⟨f, node, vars, vs ++ l⟩ :: r) s2 → Rn p k s1 s2) ∧
    (evL (fun lf k => evE p n lf f k vars (r.length + 1)) left ks = .wrong → ∃ k s1, k ≤ left ∧ At' p sv (⟨f, node, vars, vs⟩ :: r) s1 ∧ Rn p k s1 ⟨4, sv, []⟩)
  | [], vs, left, hV, hks => by
    refine ⟨fun l left' h => ?_, fun h => by cases h⟩
    simp only [evL, EL.vals.injEq] at h
    obtain ⟨rfl, rfl⟩ := h
    obtain ⟨s, hs⟩ := at_tot (sv := sv) hV hr (by omega)
    exact ⟨rfl, by simp, 0, s, by omega, hs, fun s2 h2 => hs.det (by simpa using h2)⟩
  | c :: ks, vs, left, hV, hks => by
    have hget : (nd.l.take (many nd))[vs.length]? = some c := by
      have := congrArg (fun l => l[0]?) hks
      simp only [List.getElem?_cons_zero, List.getElem?_drop, Nat.add_zero] at this
      exact this.symm
    have hks2 : ks = (nd.l.take (many nd)).drop (vs.length + 1) := by
      have := congrArg (fun l => l.drop 1) hks
      simpa [List.drop_drop] using this
    obtain ⟨hi, hc⟩ := List.getElem?_eq_some_iff.1 hget
    have hlt : vs.length < many nd := by rw [List.length_take] at hi; omega
    have hk : nd.l[vs.length]? = some c := by
      rw [List.getElem?_take, if_pos hlt] at hget
      exact hget
    have hpush := dn_push (k := c) hV hr hr2 hlt hk
    have h4 : ¬ (nd.op = 4 ∧ vs.length = 1) := fun q => by simp only [many, q.1, true_or, if_true] at hlt; omega
    obtain ⟨y, hy⟩ := hV.kid hk h4
    have hW : WS p (⟨f, node, vars, vs⟩ :: r) := ⟨⟨nd, hV, hlt⟩, hr⟩
    obtain ⟨e1, e2⟩ := hE left f c vars (⟨f, node, vars, vs⟩ :: r) y hy hW
    simp only [List.length_cons] at e1 e2
    simp only [evL]
    cases hev : evE p n left f c vars (r.length + 1) with
    | out => exact ⟨fun l left' h => (by cases h), fun h => by cases h⟩
    | wrong =>
      refine ⟨fun l left' h => (by cases h), fun _ => ?_⟩
      obtain ⟨k, s1, g1, g2, g3⟩ := e2 hev
      exact ⟨k, s1, g1, g2.eq hpush, g3⟩
    | val v left1 =>
      obtain ⟨hvv, k1, s1, g1, g2, g3, g4⟩ := e1 v left1 hev
      have hm : many nd ≤ 16 := by
        have := (ben_len hV.1.facts.2.1).2.2.2.2.2.2.1
        unfold many
        split <;> omega
      have hV2 : VX p ⟨f, node, vars, vs ++ [v]⟩ nd := ⟨hV.1, by simp; omega, hV.2.2.1, fun w hw => by
        rcases List.mem_append.1 hw with hw | hw
        · exact hV.2.2.2 w hw
        · simp at hw; subst hw; exact hvv⟩
      obtain ⟨i1, i2⟩ := evl_ok hE hr hr2 ks (vs ++ [v]) left1 hV2 (by rw [hks2]; simp)
      simp only []
      cases hel : evL (fun lf k => evE p n lf f k vars (r.length + 1)) left1 ks with
      | out => exact ⟨fun l left' h => (by cases h), fun h => by cases h⟩
      | wrong =>
        refine ⟨fun l left' h => (by cases h), fun _ => ?_⟩
        obtain ⟨k2, s2, j1, j2, j3⟩ := i2 hel
        exact ⟨k1 + k2, s1, by omega, g3.eq hpush, (g4 s2 (aft_cons (by simp only []; omega) j2)).trans j3⟩
      | vals l left2 =>
        refine ⟨fun l' left' h => ?_, fun h => by cases h⟩
        simp only [EL.vals.injEq] at h
        obtain ⟨rfl, rfl⟩ := h
        obtain ⟨j0, j1, k2, s2, j2, j3, j4⟩ := i1 l left2 hel
        refine ⟨by simp [j0], fun w hw => ?_, k1 + k2, s1, by omega, g3.eq hpush, fun s3 h3 => (g4 s2 (aft_cons (by simp only []; omega) j3)).trans (j4 s3 (by simpa using h3))⟩
        rcases List.mem_cons.1 hw with rfl | hw
        · exact hvv
        · exact j1 w hw
theorem many_le {nd : Nd} (h : ben nd.op nd.l.length = true) : many nd ≤ nd.l.length := by
  obtain ⟨b4, b5, _⟩ := ben_len h
  unfold many
  split
  · rename_i h45
    rcases h45 with q | q
    · have := b4 q; omega
    · have := b5 q; omega
  · exact Nat.le_refl _
theorem st_eq {p : Pr} {sv : VT} {x : Fm} {r : List Fm} {nd : Nd} (h : ndAt p x.fn x.nd = some nd) : stepP p ⟨1, sv, x :: r⟩ = if nd.op = 13 then (goF p ⟨1, sv, x :: r⟩ (⟨nd.n, 0, x.done, []⟩ :: r)).map (fun o => ((0 : Int), o)) else
    match resF x nd with
    | none => none
    | some none => some (0, ⟨4, sv, []⟩)
    | some (some v) => (prodF p ⟨1, sv, x :: r⟩ v).map fun o => ((0 : Int), o) := by
  unfold stepP
  rw [if_neg (by simp)]
  simp only [h]
  rfl
theorem ev_ok {p : Pr} (hp : rgtP p = true) (sv : VT) : ∀ n, EV p sv n
  | 0 => fun left f node vars r nd _ _ => ⟨fun v left' h => by simp [evE] at h, fun h => by simp [evE] at h⟩
  | n + 1 => fun left f node vars r nd hV hr => by
    have hE := ev_ok hp sv n
    have hnd := hV.1.nd
    simp only [] at hnd
    by_cases hlim : left = 0 ∨ 100 < r.length
    · refine ⟨fun v left' h => ?_, fun h => ?_⟩
      · rw [evE, if_pos hlim] at h; cases h
      · rw [evE, if_pos hlim] at h; cases h
    have hr2 : r.length + 1 < 256 := by omega
    have hben := hV.1.facts.2.1
    obtain ⟨b4, b5, b24, b11, b6, b1, b16, _, _⟩ := ben_len hben
    have hml := many_le hben
    obtain ⟨l1, l2⟩ := evl_ok hE hr hr2 (nd.l.take (many nd)) [] (left - 1) hV (by simp)
    rw [evE, if_neg hlim]
    simp only [hnd]
    cases hel : evL (fun lf k => evE p n lf f k vars (r.length + 1)) (left - 1) (nd.l.take (many nd)) with
    | out => exact ⟨fun v left' h => (by cases h), fun h => (by cases h)⟩
    | wrong =>
      refine ⟨fun v left' h => (by cases h), fun _ => ?_⟩
      obtain ⟨k, s1, g1, g2, g3⟩ := l2 hel
      exact ⟨k, s1, by omega, g2, g3⟩
    | vals l left1 =>
    obtain ⟨hll, hlv, k0, s1, g1, g2, g3⟩ := l1 l left1 hel
    simp only [List.nil_append] at g3
    have hlm : l.length = many nd := by rw [hll, List.length_take]; omega
    have hVl : VX p ⟨f, node, vars, l⟩ nd := ⟨hV.1, by simp only []; omega, hV.2.2.1, hlv⟩
    simp only []
    by_cases h4 : nd.op = 4
    · rw [if_pos h4]
      have hm1 : many nd = 1 := by simp [many, h4]
      obtain ⟨c, hc⟩ : ∃ c, nd.l[1]? = some c := ⟨_, List.getElem?_eq_getElem (by have := b4 h4; omega)⟩
      obtain ⟨v, rfl⟩ : ∃ v, l = [v] := List.length_eq_one_iff.1 (by omega)
      obtain ⟨⟨y, hy⟩, hdn⟩ := dn_let hVl hr (by omega) h4 hc
      obtain ⟨e1, e2⟩ := hE left1 f c (vars ++ [v]) r y hy hr
      rw [hc]
      simp only [List.getElem?_cons_zero]
      refine ⟨fun w left' h => ?_, fun h => ?_⟩
      · obtain ⟨hw, k1, t1, j1, j2, j3, j4⟩ := e1 w left' h
        exact ⟨hw, k0 + k1, s1, by omega, by omega, g2, fun s2 hs => (g3 t1 (j3.eq hdn)).trans (j4 s2 hs)⟩
      · obtain ⟨k1, t1, j2, j3, j4⟩ := e2 h
        exact ⟨k0 + k1, s1, by omega, g2, (g3 t1 (j3.eq hdn)).trans j4⟩
    rw [if_neg h4]
    by_cases h5 : nd.op = 5
    · rw [if_pos h5]
      have hm1 : many nd = 1 := by simp [many, h5]
      obtain ⟨c1, hc1⟩ : ∃ c, nd.l[1]? = some c := ⟨_, List.getElem?_eq_getElem (by have := b5 h5; omega)⟩
      obtain ⟨c2, hc2⟩ : ∃ c, nd.l[2]? = some c := ⟨_, List.getElem?_eq_getElem (by have := b5 h5; omega)⟩
      obtain ⟨v, rfl⟩ : ∃ v, l = [v] := List.length_eq_one_iff.1 (by omega)
      rw [hc1, hc2]
      simp only [List.getElem?_cons_zero]
      cases htr : trF v with
      | none =>
        refine ⟨fun w left' h => (by cases h), fun _ => ⟨k0, s1, by omega, g2, g3 _ ⟨_, dn_if0 hVl h5 htr, rfl⟩⟩⟩
      | some b =>
        obtain ⟨⟨y, hy⟩, hdn⟩ := dn_if hVl hr (by omega) h5 hc1 hc2 htr
        obtain ⟨e1, e2⟩ := hE left1 f (if b then c1 else c2) vars r y hy hr
        simp only []
        refine ⟨fun w left' h => ?_, fun h => ?_⟩
        · obtain ⟨hw, k1, t1, j1, j2, j3, j4⟩ := e1 w left' h
          exact ⟨hw, k0 + k1, s1, by omega, by omega, g2, fun s2 hs => (g3 t1 (j3.eq hdn)).trans (j4 s2 hs)⟩
        · obtain ⟨k1, t1, j2, j3, j4⟩ := e2 h
          exact ⟨k0 + k1, s1, by omega, g2, (g3 t1 (j3.eq hdn)).trans j4⟩
    rw [if_neg h5]
    have hm2 : many nd = nd.l.length := by simp [many, h4, h5]
    have hst : ∀ s2, stepP p ⟨1, sv, ⟨f, node, vars, l⟩ :: r⟩ = some (0, s2) → nd.op ≠ 14 → nd.op ≠ 15 → nd.op ≠ 24 → Rn p (k0 + 1) s1 s2 := fun s2 h q1 q2 q3 =>
      (g3 _ ⟨_, dn_rdy hVl (by simp only []; omega) h4 h5 q1 q2 q3, rfl⟩).trans ⟨s2, h, rfl⟩
    have hstep := st_eq (sv := sv) (x := ⟨f, node, vars, l⟩) (r := r) hnd
    by_cases h13 : nd.op = 13
    · rw [if_pos h13]
      obtain ⟨q0, q1, y, hy⟩ := hV.1.call hp h13
      have hVc : VX p ⟨nd.n, 0, l, []⟩ y := ⟨by simp only []; rw [show l.length = nd.l.length by omega]; exact hy, by simp, hlv, by simp⟩
      obtain ⟨e1, e2⟩ := hE left1 nd.n 0 l r y hVc hr
      have hgo : ∀ t, At' p sv (⟨nd.n, 0, l, []⟩ :: r) t → stepP p ⟨1, sv, ⟨f, node, vars, l⟩ :: r⟩ = some (0, t) := by
        rintro t ⟨o, ho, rfl⟩
        rw [hstep, if_pos h13, goF, ho]
        rfl
      refine ⟨fun w left' h => ?_, fun h => ?_⟩
      · obtain ⟨hw, k1, t1, j1, j2, j3, j4⟩ := e1 w left' h
        exact ⟨hw, k0 + 1 + k1, s1, by omega, by omega, g2, fun s2 hs => (hst t1 (hgo t1 j3) (by omega) (by omega) (by omega)).trans (j4 s2 hs)⟩
      · obtain ⟨k1, t1, j2, j3, j4⟩ := e2 h
        exact ⟨k0 + 1 + k1, s1, by omega, g2, (hst t1 (hgo t1 j3) (by omega) (by omega) (by omega)).trans j4⟩
    rw [if_neg h13]
    by_cases ho : nd.op = 14 ∨ nd.op = 15 ∨ nd.op = 24
    · rw [if_pos ho]
      exact ⟨fun w left' h => (by cases h), fun h => (by cases h)⟩
    rw [if_neg ho]
    have hRX : RX p 1 ⟨f, node, vars, l⟩ nd := ⟨hVl, h4, h5, by simp only []; omega, .inl ⟨rfl, by omega, by omega, by omega⟩⟩
    obtain ⟨ov, ho1, ho2⟩ := res_tot hRX h13
    have ho1' : resF ⟨0, 0, vars, l⟩ nd = some ov := ho1
    rw [ho1']
    cases ov with
    | none =>
      refine ⟨fun w left' h => (by cases h), fun _ => ⟨k0 + 1, s1, by omega, g2, hst _ ?_ (by omega) (by omega) (by omega)⟩⟩
      rw [hstep, if_neg h13, ho1]
    | some v =>
      refine ⟨fun w left' h => ?_, fun h => (by cases h)⟩
      simp only [ER.val.injEq] at h
      obtain ⟨rfl, rfl⟩ := h
      refine ⟨ho2 v rfl, k0 + 1, s1, by omega, by omega, g2, fun s2 hs => hst s2 ?_ (by omega) (by omega) (by omega)⟩
      rw [hstep, if_neg h13, ho1]
      simp only []
      rw [aft_eq, hs]
      rfl
end Go.Proofs.Ytpppkednpamhbaa
namespace Go.Sx
set_option linter.unusedSimpArgs false
set_option linter.unusedVariables false
section
variable {α : Type} {r : Rp α} {G : Hp} {l : List α}
theorem Rp.srcS {v : Value} (h : r.S G l v) : ∃ cs, r.L G l cs ∧ ((∃ c, (SV.v v).den = .slice none 0 c ∧ l.length = 0 ∧ cs = []) ∨ ∀ (C : Ctx) (s : St), s.G = G → Src C s (.v v) l.length cs) := by
  obtain ⟨_, ad, cap, rfl, h⟩ := h
  exact Rp.src h
end
end Go.Sx
namespace Go.Proofs.Ytpppkednpamhbaa.R
set_option linter.unusedSimpArgs false
set_option linter.unusedVariables false
open Go.Sx
set_option maxHeartbeats 16000000
set_option maxRecDepth 20000
def evPost (bb : Nat) (ps : Value) (ce : Bool) (r : ER) (v : Value) (G : Hp) (ow : Lds) : Prop := match r with
  | .out => ∃ k n sl left, v = .tuple #[.agg #[.int .i64 k, .int .i64 n, sl], .bool false] ∧ (∃ ad m c, sl = .slice ad m c) ∧ ow = [bigO bb ps left true ce]
  | .wrong => ∃ k n sl left, v = .tuple #[.agg #[.int .i64 k, .int .i64 n, sl], .bool false] ∧ (∃ ad m c, sl = .slice ad m c) ∧ ow = [bigO bb ps left false ce]
  | .val y left => ∃ sl, v = .tuple #[.agg #[.int .i64 y.k, .int .i64 y.n, sl], .bool true] ∧ y.rep G sl ∧ vld y = true ∧ left ≤ 600 ∧ ow = [bigO bb ps left false ce]
def evI (C : Ctx) (p : Pr) (ps : Value) (bb b10 deep q : Nat) (ce : Bool) (G0 : Hp) (R0 : ER) : Prop := ∀ (left : Nat) (f node : Int) (vars : List VT) (av : Option Addr) (cv' : Nat) (nd : Nd) (G1 : Hp), left < q → left ≤ 600 → Le G0 G1 → evE p q left f node vars deep = R0 → PosOk p f node vars.length nd → (∀ v ∈ vars, vld v = true) → rW.S G1 vars (.slice av vars.length cv') →
  SGo C [.loop (Go.Sx.c1 (Go.Sx.c1 (Go.Sx.c2 (Try.f18.body.getD .skip)))), .blk (cid (Go.Sx.c2 (Try.f18.body.getD .skip)))] ⟨[(0, .p 0 bb 0), (1, .v (.int .i64 f)), (2, .v (.int .i64 node)), (3, .v (.slice av vars.length cv')), (4, .v (.int .i64 deep)), (10, .p 1 b10 0), (11, .b false)], [(0, bb, .c 58 [.v ps, .v (.int .i64 left), .v (.bool false), .v (.bool ce)]), (1, b10, .c 43 [.v (.int .i64 0), .v (.int .i64 0), .v (.slice none 0 0)])], G1, []⟩
theorem tr_two (v : VT) : (trF v = none ∧ rtwoF v v ≠ 0) ∨ (trF v = some (v.n != 0) ∧ rtwoF v v = 0) := by
  unfold trF rtwoF
  cases vld v with
  | false => exact .inl ⟨rfl, by simp⟩
  | true =>
    cases v.k == 2 with
    | false => exact .inl ⟨rfl, by simp⟩
    | true => exact .inr ⟨rfl, rfl⟩
theorem makes_out (bb : Nat) (ps : Value) (left : Int) (ou ce : Bool) (nd : Nd) (anl al av : Option Addr) (n1 c1 n2 c2 n3 c3 : Nat) (G : Hp) (hop : nd.op = 14 ∨ nd.op = 15 ∨ nd.op = 24) :
    PureW Try.prog 39 [.pointer (some ⟨bb, 0, none⟩), .agg #[.int .i64 nd.op, .int .i64 nd.n, .slice anl n1 c1], .slice al n2 c2, .slice av n3 c3] G [bigO bb ps left ou ce] (fun v _ ow => ow = [bigO bb ps left true ce] ∧ v = .tuple #[.agg #[.int .i64 0, .int .i64 0, .slice none 0 0], .bool false]) := by
  refine enterW ty tyok Try.func39 rfl Try.ntmps39 [.p 0 bb 0, .a [.v (.int .i64 nd.op), .v (.int .i64 nd.n), .v (.slice anl n1 c1)], .v (.slice al n2 c2), .v (.slice av n3 c3)] (by simp) (mh := 1) rfl ?_
  intro C hP hQ hnt hty hmb hmh hro hG0 hmub; have hQp := qp_body hQ; refine st_ ?_
  simp only [enumO, bigO]
  refine rn_ ?_; intros
  (refine x_split rfl rfl rfl (fun hc => absurd hc (by simpa using (show ¬ nd.op = 1 by omega))) (fun _ => ?_); refine st_ ?_; (refine ru_ ?_; intros))
  refine rn_ ?_; intros
  (refine x_split rfl rfl rfl (fun hc => absurd hc (by simpa using (show ¬ nd.op = 2 by omega))) (fun _ => ?_); refine st_ ?_; (refine ru_ ?_; intros))
  refine rn_ ?_; intros
  (refine x_split rfl rfl rfl (fun hc => absurd hc (by simpa using (show ¬ nd.op = 3 by omega))) (fun _ => ?_); refine st_ ?_; (refine ru_ ?_; intros))
  refine rn_ ?_; intros
  (refine x_split rfl rfl rfl (fun hc => absurd hc (by simpa using (show ¬ nd.op = 6 by omega))) (fun _ => ?_); refine st_ ?_; (refine ru_ ?_; intros))
  refine rn_ ?_; intros
  (refine x_split rfl rfl rfl (fun hc => absurd hc (by simpa using (show ¬ nd.op = 7 by omega))) (fun _ => ?_); refine st_ ?_; (refine ru_ ?_; intros))
  refine rn_ ?_; intros
  (refine x_split rfl rfl rfl (fun hc => absurd hc (by simpa using (show ¬ nd.op = 8 by omega))) (fun _ => ?_); refine st_ ?_; (refine ru_ ?_; intros))
  refine rn_ ?_; intros
  (refine x_split rfl rfl rfl (fun hc => absurd hc (by simpa using (show ¬ nd.op = 9 by omega))) (fun _ => ?_); refine st_ ?_; (refine ru_ ?_; intros))
  refine rn_ ?_; intros
  (refine x_split rfl rfl rfl (fun hc => absurd hc (by simpa using (show ¬ nd.op = 11 by omega))) (fun _ => ?_); refine st_ ?_; (refine ru_ ?_; intros))
  refine rn_ ?_; intros
  (refine x_split rfl rfl rfl (fun hc => absurd hc (by simpa using (show ¬ nd.op = 12 by omega))) (fun _ => ?_); refine st_ ?_; (refine ru_ ?_; intros))
  refine rn_ ?_; intros
  (refine x_split rfl rfl rfl (fun hc => absurd hc (by simpa using (show ¬ nd.op = 10 by omega))) (fun _ => ?_); refine st_ ?_; (refine ru_ ?_; intros))
  refine rn_ ?_; intros
  refine x_split rfl rfl rfl (fun h15 => ?_) (fun h15 => ?_) <;> (refine st_ ?_; (refine ru_ ?_; intros))
  · refine rn_ ?_; intros
    refine go_see 0 [.v ps, .v (.int .i64 left), .v (.bool true), .v (.bool ce)] rfl rfl ?_
    refine st_ ?_
    refine x_retW rfl hQ hmb hmh hG0 hmub rfl rfl (by rw [hty]; simp only [so, sq, zy, zz, tyE, SO', SQ', opQ, opStore, opAlloc, ev, putS, dOk, cv, SV.cs, SV.one, SV.bool?, eqB, Value.oneCell', ldOwn, binInt, binConst, binBool, binStr, isC, TK.agg, rv, rv1, ldV, resOne, resV, Nat.reduceAdd, Nat.reduceMul, Nat.reduceSub, Nat.reduceLT, Nat.reduceLeDiff, Nat.reduceEqDiff, Nat.reduceBEq, reduceIte, reduceCtorEq, eq_self]; try rfl) rfl rfl (by simp only [enumO]; exact (by repeat (first | exact plain_nil | refine plain_cons (fun _ h => h) ?_))) ?_; simp only [SV.den, resV, dens]
    exact ⟨rfl, by first | rfl | trivial⟩
  refine rn_ ?_; intros
  refine x_split rfl rfl rfl (fun h14 => ?_) (fun h14 => ?_) <;> (refine st_ ?_; (refine ru_ ?_; intros))
  · refine rn_ ?_; intros
    refine go_see 0 [.v ps, .v (.int .i64 left), .v (.bool true), .v (.bool ce)] rfl rfl ?_
    refine st_ ?_
    refine x_retW rfl hQ hmb hmh hG0 hmub rfl rfl (by rw [hty]; simp only [so, sq, zy, zz, tyE, SO', SQ', opQ, opStore, opAlloc, ev, putS, dOk, cv, SV.cs, SV.one, SV.bool?, eqB, Value.oneCell', ldOwn, binInt, binConst, binBool, binStr, isC, TK.agg, rv, rv1, ldV, resOne, resV, Nat.reduceAdd, Nat.reduceMul, Nat.reduceSub, Nat.reduceLT, Nat.reduceLeDiff, Nat.reduceEqDiff, Nat.reduceBEq, reduceIte, reduceCtorEq, eq_self]; try rfl) rfl rfl (by simp only [enumO]; exact (by repeat (first | exact plain_nil | refine plain_cons (fun _ h => h) ?_))) ?_; simp only [SV.den, resV, dens]
    exact ⟨rfl, by first | rfl | trivial⟩
  refine rn_ ?_; intros
  refine x_split rfl rfl rfl (fun h24 => ?_) (fun h24 => ?_) <;> (refine st_ ?_; (refine ru_ ?_; intros))
  · refine rn_ ?_; intros
    refine go_see 0 [.v ps, .v (.int .i64 left), .v (.bool true), .v (.bool ce)] rfl rfl ?_
    refine st_ ?_
    refine x_retW rfl hQ hmb hmh hG0 hmub rfl rfl (by rw [hty]; simp only [so, sq, zy, zz, tyE, SO', SQ', opQ, opStore, opAlloc, ev, putS, dOk, cv, SV.cs, SV.one, SV.bool?, eqB, Value.oneCell', ldOwn, binInt, binConst, binBool, binStr, isC, TK.agg, rv, rv1, ldV, resOne, resV, Nat.reduceAdd, Nat.reduceMul, Nat.reduceSub, Nat.reduceLT, Nat.reduceLeDiff, Nat.reduceEqDiff, Nat.reduceBEq, reduceIte, reduceCtorEq, eq_self]; try rfl) rfl rfl (by simp only [enumO]; exact (by repeat (first | exact plain_nil | refine plain_cons (fun _ h => h) ?_))) ?_; simp only [SV.den, resV, dens]
    exact ⟨rfl, by first | rfl | trivial⟩
  · exfalso
    simp at h15 h14 h24
    omega
theorem evB {C : Ctx} {p : Pr} (hp : rgtP p = true) (ps : Value) (bb b10 b12 deep q left0 lf : Nat) (ce : Bool) (G0 G1 : Hp) (R0 : ER) (hP : C.P = Try.prog) (hQ : C.Q = bodyPost C.P Try.f18 (RetW C.w0 G0 [bigO bb ps left0 false ce] (evPost bb ps ce R0))) (hnt : C.nt = 138) (hty : C.ty = ty)
    (hmb : ∀ g, g ∈ C.mb → mutOf [bigO bb ps left0 false ce] g) (hmh : C.mh = 1) (hro : C.ro = none) (hG0 : C.G0 = G0) (hmub : ∀ g, mutOf [bigO bb ps left0 false ce] g → blkOf [bigO bb ps left0 false ce] g)
    (f node : Int) (vars vs : List VT) (av ad3 asl : Option Addr) (cv' cap3 csl : Nat) (nd : Nd) (hlq : lf < q) (hl6 : lf ≤ 600) (hle1 : Le G0 G1) (hps : ∃ ad n c, ps = .slice ad n c) (hpos : PosOk p f node vars.length nd) (hvv : ∀ v ∈ vars, vld v = true) (hvd : ∀ v ∈ vs, vld v = true) (hsv : rW.S G1 vars (.slice av vars.length cv')) (hss : rW.S G1 vs (.slice ad3 vs.length cap3))
    (hrI : rI.S G1 nd.l (.slice asl nd.l.length csl)) (i1 : isI64 nd.op) (i2 : isI64 nd.n) (hvl : vs.length = many nd) (ih : evI C p ps bb b10 deep q ce G0 R0)
    (hR : (if nd.op = 4 then match vs[0]?, nd.l[1]? with
          | some v, some k => evE p q lf f k (vars ++ [v]) deep
          | _, _ => .out
        else if nd.op = 5 then match vs[0]? with
          | none => .out
          | some v => match trF v with
            | none => .wrong
            | some b => match nd.l[2]?, nd.l[1]? with
              | some k2, some k1 => evE p q lf f (if b then k1 else k2) vars deep
              | _, _ => .out
        else if nd.op = 13 then evE p q lf nd.n 0 vs deep
        else if nd.op = 14 ∨ nd.op = 15 ∨ nd.op = 24 then .out
        else match resF ⟨0, 0, vars, vs⟩ nd with
          | some (some v) => ER.val v lf
          | some none => .wrong
          | none => .out) = R0) :
    SGo C [.code (Go.Sx.c2 (Go.Sx.c2 (Go.Sx.c2 (Go.Sx.c2 (Go.Sx.c2 (Go.Sx.c2 (Go.Sx.c2 (Go.Sx.c1 (Go.Sx.c1 (Go.Sx.c1 (Go.Sx.c2 (Try.f18.body.getD .skip)))))))))))), .blk (cid (Go.Sx.c1 (Go.Sx.c1 (Go.Sx.c2 (Try.f18.body.getD .skip))))), .loop (Go.Sx.c1 (Go.Sx.c1 (Go.Sx.c2 (Try.f18.body.getD .skip)))), .blk (cid (Go.Sx.c2 (Try.f18.body.getD .skip)))] ⟨[(0, .p 0 bb 0), (1, .v (.int .i64 f)), (2, .v (.int .i64 node)), (3, .v (.slice av vars.length cv')), (4, .v (.int .i64 deep)), (10, .p 1 b10 0), (11, .b false), (12, .p 2 b12 0), (13, .v (.slice ad3 vs.length cap3))], [(0, bb, .c 58 [.v ps, .v (.int .i64 lf), .v (.bool false), .v (.bool ce)]), (1, b10, .c 43 [.v (.int .i64 0), .v (.int .i64 0), .v (.slice none 0 0)]), (2, b12, .c 26 [.v (.int .i64 nd.op), .v (.int .i64 nd.n), .v (.slice asl nd.l.length csl)])], G1, []⟩ := by
  have hQp := qp_body hQ
  obtain ⟨adp, np, cp, rfl⟩ := hps
  obtain ⟨hd64, hben, hnm, hi, hi2⟩ := hpos.facts
  obtain ⟨b4, b5, b24, b11, b6, b1, b16, bop1, bop2⟩ := ben_len hben
  refine rn_ ?_; intros
  refine x_split rfl rfl rfl (fun h4 => ?_) (fun h4 => ?_) <;> (refine st_ ?_; (refine ru_ ?_; intros))
  · have hop : nd.op = 4 := by simpa using h4
    rw [if_pos hop] at hR
    have hm1 : vs.length = 1 := by rw [hvl]; simp [many, hop]
    obtain ⟨v, rfl⟩ : ∃ v, vs = [v] := List.length_eq_one_iff.1 hm1
    obtain ⟨k, hk⟩ : ∃ k, nd.l[1]? = some k := ⟨_, List.getElem?_eq_getElem (by have := b4 hop; omega)⟩
    rw [hk] at hR
    simp only [List.getElem?_cons_zero] at hR
    obtain ⟨bD, oD, s0, rfl, hat0, hr0, ht0⟩ := rW_at hss (i := 0) (by simp)
    simp only [List.getElem_cons_zero] at hat0 hr0 ht0
    obtain ⟨a8, c8, rfl⟩ := VT.rep_slice hr0
    obtain ⟨hki, hk64, bL, oL, cL, eL, hatL⟩ := rI_get hrI hk
    injection eL with e1 e2 e3
    subst e1 e3
    obtain ⟨_, y, hy⟩ := hpos.kid hk
    rw [if_pos ⟨hop, rfl⟩] at hy
    have hvv' : ∀ w ∈ vars ++ [v], vld w = true := fun w hw => by
      rcases List.mem_append.1 hw with hw | hw
      · exact hvv w hw
      · exact hvd w hw
    obtain ⟨cs, hcs, hsrc⟩ := Rp.srcS hsv
    have hcl := Rp.L_len hcs
    simp only [rW] at hcl
    refine rn_ ?_; intros
    refine x_held [(2, b12, .c 26 [.v (.int .i64 nd.op), .v (.int .i64 nd.n), .v (.slice (some ⟨bL, oL, none⟩) nd.l.length csl)])] rfl (by rw [hP]; kernel_rfl) rfl rfl rfl ?_; refine st_ ?_
    refine h_take 1 rfl (by kernel_rfl) (by kernel_rfl) (by kernel_rfl) hQp (by rw [hnt]; rfl) (allIn (by repeat (first | exact trivial | refine ⟨rfl, ?_⟩))) (by first | exact Le.refl _ | assumption) (quiet_op (by rw [hty]; first | rfl | (refine st_ ?_; rfl))) ?_; refine st_ ?_
    refine h_take 3 rfl (by kernel_rfl) (by kernel_rfl) (by kernel_rfl) hQp (by rw [hnt]; rfl) (allIn (by repeat (first | exact trivial | refine ⟨rfl, ?_⟩))) (by first | exact Le.refl _ | assumption) (quiet_op (by rw [hty]; first | rfl | (refine st_ ?_; rfl))) ?_; refine st_ ?_
    refine h_take 4 rfl (by kernel_rfl) (by kernel_rfl) (by kernel_rfl) hQp (by rw [hnt]; rfl) (allIn (by repeat (first | exact trivial | refine ⟨rfl, ?_⟩))) (by first | exact Le.refl _ | assumption) (x := .v (.pointer (some ⟨bD, oD + 0 * 3, none⟩))) ((quiet_index (by rw [hty]; rfl) (by rw [hty]; rfl) rfl rfl rfl (by omega) (by simp)).cast (by rfl)) ?_
    refine st_ ?_
    refine h_take 5 rfl (by kernel_rfl) (by kernel_rfl) (by kernel_rfl) hQp (by rw [hnt]; rfl) (allIn (by repeat (first | exact trivial | refine ⟨rfl, ?_⟩))) (by first | exact Le.refl _ | assumption) (x := .a [.v (.int .i64 v.k), .v (.int .i64 v.n), .v (.slice a8 v.l.length c8)]) ((quiet_load (by rw [hty]; rfl) rfl (by simp [TK.agg]) hat0 rfl).cast (by rfl)) ?_
    refine st_ ?_
    refine h_take 8 rfl (by kernel_rfl) (by kernel_rfl) (by kernel_rfl) hQp (by rw [hnt]; rfl) (allIn (by repeat (first | exact trivial | refine ⟨rfl, ?_⟩))) (by first | exact Le.refl _ | assumption) (quiet_op (by rw [hty]; first | rfl | (refine st_ ?_; rfl))) ?_; refine st_ ?_
    refine h_take 9 rfl (by kernel_rfl) (by kernel_rfl) (by kernel_rfl) hQp (by rw [hnt]; rfl) (allIn (by repeat (first | exact trivial | refine ⟨rfl, ?_⟩))) (by first | exact Le.refl _ | assumption) (quiet_op (by rw [hty]; first | rfl | (refine st_ ?_; rfl))) ?_; refine st_ ?_
    refine h_take 10 rfl (by kernel_rfl) (by kernel_rfl) (by kernel_rfl) hQp (by rw [hnt]; rfl) (allIn (by repeat (first | exact trivial | refine ⟨rfl, ?_⟩))) (by first | exact Le.refl _ | assumption) (x := .v (.pointer (some ⟨bL, oL + 1 * 1, none⟩))) ((quiet_index (by rw [hty]; rfl) (by rw [hty]; rfl) rfl rfl rfl (by omega) (by omega)).cast (by simp [SV.den])) ?_
    refine st_ ?_
    refine h_take 11 rfl (by kernel_rfl) (by kernel_rfl) (by kernel_rfl) hQp (by rw [hnt]; rfl) (allIn (by repeat (first | exact trivial | refine ⟨rfl, ?_⟩))) (by first | exact Le.refl _ | assumption) (x := .v (.int .i64 k)) ((quiet_load (by rw [hty]; rfl) rfl (by simp [TK.agg]) hatL rfl).cast (by rfl)) ?_
    refine st_ ?_
    refine h_two 0 6 rfl rfl (by kernel_rfl) ?_ ?_
    · refine rn_ ?_; intros
      refine h_hs (allIn (by repeat (first | exact trivial | refine ⟨rfl, ?_⟩))) (by first | exact Le.refl _ | assumption) ?_
      refine h_two 2 6 rfl rfl (by kernel_rfl) ?_ ?_
      · refine go_torowN 3 (n := 0) (size := 3) rfl rfl (by omega) ?_
        refine go_append_any 3 (by rw [hnt]; rfl) (by rw [hty]; rfl) (by rw [hty]; rfl) (by decide) rfl rfl rfl (by rw [hmh]; omega) rfl (hsrc.imp id fun f => f _ _ rfl) (by simp only []; omega) (Rp.L_one hcs) (by omega) (by simp only []; omega) ?_
        intro v6
        refine go_rowS 3 rfl ?_
        rintro ad6 cap6 rfl
        refine rn_ ?_; intros
        refine h_hs (allIn (by repeat (first | exact trivial | refine ⟨rfl, ?_⟩))) (by first | exact Le.refl _ | assumption) ?_
        refine h_one 6 rfl (by kernel_rfl) ?_
        refine rn_ ?_; intros
        refine h_hs (allIn (by repeat (first | exact trivial | refine ⟨rfl, ?_⟩))) (by first | exact Le.refl _ | assumption) ?_
        refine h_one 7 rfl (by kernel_rfl) ?_
        refine go_append 3 (by rw [hnt]; rfl) (by rw [hty]; rfl) (by rw [hty]; rfl) (by decide) rfl rfl rfl (by rw [hmh]; omega) rfl (src_own 3 rfl rfl) rfl (by simp [dens, SV.den, Value.oneCell']) (by omega) (by simp only []; omega) ?_
        intro v7
        refine go_rowS 3 rfl ?_
        rintro ad7 cap7 rfl
        refine rn_ ?_; intros
        refine h_hs (allIn (by repeat (first | exact trivial | refine ⟨rfl, ?_⟩))) (by first | exact Le.refl _ | assumption) ?_
        refine h_one 12 rfl (by kernel_rfl) ?_
        refine rn_ ?_; intros
        refine h_hs (allIn (by repeat (first | exact trivial | refine ⟨rfl, ?_⟩))) (by first | exact Le.refl _ | assumption) ?_
        refine h_one 13 rfl (by kernel_rfl) ?_
        refine rn_ ?_; intros
        refine h_hs (allIn (by repeat (first | exact trivial | refine ⟨rfl, ?_⟩))) (by first | exact Le.refl _ | assumption) ?_
        refine h_end (by kernel_rfl) ?_
        refine rn_ ?_; intros
        refine go_pubL rW 3 rfl (by rw [hmh]; omega) (ts := vars ++ [v]) (by simp) (by omega) (Rp.L_append hcs (Rp.L_single ⟨_, rfl, hr0, ht0⟩)) ?_
        intro G5 ad8 cap8 (hle5 : Le G1 G5) e8 hS8
        injection e8 with q1 q2 q3
        subst q1 q3
        refine go_keep [0, 1, 2, 3, 4, 10, 11] [0, 1] ?_
        refine st_ ?_
        have hfin := ih lf f k (vars ++ [v]) _ _ y G5 hlq hl6 (hle1.trans hle5) hR (by simpa using hy) hvv' hS8
        rw [List.length_append] at hfin
        exact hfin
      · refine rn_ ?_; intros
        refine h_hs (allIn (by repeat (first | exact trivial | refine ⟨rfl, ?_⟩))) (by first | exact Le.refl _ | assumption) ?_
        refine h_one 2 rfl (by kernel_rfl) ?_
        refine go_torowN 3 (n := 0) (size := 3) rfl rfl (by omega) ?_
        refine go_append_any 3 (by rw [hnt]; rfl) (by rw [hty]; rfl) (by rw [hty]; rfl) (by decide) rfl rfl rfl (by rw [hmh]; omega) rfl (hsrc.imp id fun f => f _ _ rfl) (by simp only []; omega) (Rp.L_one hcs) (by omega) (by simp only []; omega) ?_
        intro v6
        refine go_rowS 3 rfl ?_
        rintro ad6 cap6 rfl
        refine rn_ ?_; intros
        refine h_hs (allIn (by repeat (first | exact trivial | refine ⟨rfl, ?_⟩))) (by first | exact Le.refl _ | assumption) ?_
        refine h_one 7 rfl (by kernel_rfl) ?_
        refine go_append 3 (by rw [hnt]; rfl) (by rw [hty]; rfl) (by rw [hty]; rfl) (by decide) rfl rfl rfl (by rw [hmh]; omega) rfl (src_own 3 rfl rfl) rfl (by simp [dens, SV.den, Value.oneCell']) (by omega) (by simp only []; omega) ?_
        intro v7
        refine go_rowS 3 rfl ?_
        rintro ad7 cap7 rfl
        refine rn_ ?_; intros
        refine h_hs (allIn (by repeat (first | exact trivial | refine ⟨rfl, ?_⟩))) (by first | exact Le.refl _ | assumption) ?_
        refine h_one 12 rfl (by kernel_rfl) ?_
        refine rn_ ?_; intros
        refine h_hs (allIn (by repeat (first | exact trivial | refine ⟨rfl, ?_⟩))) (by first | exact Le.refl _ | assumption) ?_
        refine h_one 13 rfl (by kernel_rfl) ?_
        refine rn_ ?_; intros
        refine h_hs (allIn (by repeat (first | exact trivial | refine ⟨rfl, ?_⟩))) (by first | exact Le.refl _ | assumption) ?_
        refine h_end (by kernel_rfl) ?_
        refine rn_ ?_; intros
        refine go_pubL rW 3 rfl (by rw [hmh]; omega) (ts := vars ++ [v]) (by simp) (by omega) (Rp.L_append hcs (Rp.L_single ⟨_, rfl, hr0, ht0⟩)) ?_
        intro G5 ad8 cap8 (hle5 : Le G1 G5) e8 hS8
        injection e8 with q1 q2 q3
        subst q1 q3
        refine go_keep [0, 1, 2, 3, 4, 10, 11] [0, 1] ?_
        refine st_ ?_
        have hfin := ih lf f k (vars ++ [v]) _ _ y G5 hlq hl6 (hle1.trans hle5) hR (by simpa using hy) hvv' hS8
        rw [List.length_append] at hfin
        exact hfin
    · refine rn_ ?_; intros
      refine h_hs (allIn (by repeat (first | exact trivial | refine ⟨rfl, ?_⟩))) (by first | exact Le.refl _ | assumption) ?_
      refine h_one 0 rfl (by kernel_rfl) ?_
      refine rn_ ?_; intros
      refine h_hs (allIn (by repeat (first | exact trivial | refine ⟨rfl, ?_⟩))) (by first | exact Le.refl _ | assumption) ?_
      refine h_one 2 rfl (by kernel_rfl) ?_
      refine go_torowN 4 (n := 0) (size := 3) rfl rfl (by omega) ?_
      refine go_append_any 4 (by rw [hnt]; rfl) (by rw [hty]; rfl) (by rw [hty]; rfl) (by decide) rfl rfl rfl (by rw [hmh]; omega) rfl (hsrc.imp id fun f => f _ _ rfl) (by simp only []; omega) (Rp.L_one hcs) (by omega) (by simp only []; omega) ?_
      intro v6
      refine go_rowS 4 rfl ?_
      rintro ad6 cap6 rfl
      refine rn_ ?_; intros
      refine h_hs (allIn (by repeat (first | exact trivial | refine ⟨rfl, ?_⟩))) (by first | exact Le.refl _ | assumption) ?_
      refine h_one 7 rfl (by kernel_rfl) ?_
      refine go_append 4 (by rw [hnt]; rfl) (by rw [hty]; rfl) (by rw [hty]; rfl) (by decide) rfl rfl rfl (by rw [hmh]; omega) rfl (src_own 3 rfl rfl) rfl (by simp [dens, SV.den, Value.oneCell']) (by omega) (by simp only []; omega) ?_
      intro v7
      refine go_rowS 4 rfl ?_
      rintro ad7 cap7 rfl
      refine rn_ ?_; intros
      refine h_hs (allIn (by repeat (first | exact trivial | refine ⟨rfl, ?_⟩))) (by first | exact Le.refl _ | assumption) ?_
      refine h_one 12 rfl (by kernel_rfl) ?_
      refine rn_ ?_; intros
      refine h_hs (allIn (by repeat (first | exact trivial | refine ⟨rfl, ?_⟩))) (by first | exact Le.refl _ | assumption) ?_
      refine h_one 13 rfl (by kernel_rfl) ?_
      refine rn_ ?_; intros
      refine h_hs (allIn (by repeat (first | exact trivial | refine ⟨rfl, ?_⟩))) (by first | exact Le.refl _ | assumption) ?_
      refine h_end (by kernel_rfl) ?_
      refine rn_ ?_; intros
      refine go_pubL rW 4 rfl (by rw [hmh]; omega) (ts := vars ++ [v]) (by simp) (by omega) (Rp.L_append hcs (Rp.L_single ⟨_, rfl, hr0, ht0⟩)) ?_
      intro G5 ad8 cap8 (hle5 : Le G1 G5) e8 hS8
      injection e8 with q1 q2 q3
      subst q1 q3
      refine go_keep [0, 1, 2, 3, 4, 10, 11] [0, 1] ?_
      refine st_ ?_
      have hfin := ih lf f k (vars ++ [v]) _ _ y G5 hlq hl6 (hle1.trans hle5) hR (by simpa using hy) hvv' hS8
      rw [List.length_append] at hfin
      exact hfin
  have h4 : ¬ nd.op = 4 := by simpa using h4
  rw [if_neg h4] at hR
  refine rn_ ?_; intros
  refine x_split rfl rfl rfl (fun h5 => ?_) (fun h5 => ?_) <;> (refine st_ ?_; (refine ru_ ?_; intros))
  · have hop : nd.op = 5 := by simpa using h5
    rw [if_pos hop] at hR
    have hm1 : vs.length = 1 := by rw [hvl]; simp [many, hop]
    obtain ⟨v, rfl⟩ : ∃ v, vs = [v] := List.length_eq_one_iff.1 hm1
    simp only [List.getElem?_cons_zero] at hR
    obtain ⟨k1, hk1⟩ : ∃ k, nd.l[1]? = some k := ⟨_, List.getElem?_eq_getElem (by have := b5 hop; omega)⟩
    obtain ⟨k2, hk2⟩ : ∃ k, nd.l[2]? = some k := ⟨_, List.getElem?_eq_getElem (by have := b5 hop; omega)⟩
    obtain ⟨bD, oD, s0, rfl, hat0, hr0, ht0⟩ := rW_at hss (i := 0) (by simp)
    simp only [List.getElem_cons_zero] at hat0 hr0 ht0
    obtain ⟨a8, c8, rfl⟩ := VT.rep_slice hr0
    refine rn_ ?_; intros
    refine go_q (v := .pointer (some ⟨bD, oD + 0 * 3, none⟩)) (by rw [hnt]; rfl) ((quiet_index (by rw [hty]; rfl) (by rw [hty]; rfl) rfl rfl rfl (by omega) (by simp)).cast (by rfl)) ?_
    refine rn_ ?_; intros
    refine go_q (v := .agg #[.int .i64 v.k, .int .i64 v.n, .slice a8 v.l.length c8]) (by rw [hnt]; rfl) ((quiet_load (by rw [hty]; rfl) rfl (by simp [TK.agg]) hat0 rfl).cast (by rfl)) ?_
    refine rn_ ?_; intros
    refine go_callf (by rw [hnt]; rfl) (by rw [hP]; kernel_rfl) rfl (hP ▸ rtruth_ok v _ G1 hr0 (by omega)) ?_; refine rn_ ?_; intros
    rcases tr_two v with ⟨q1, q2⟩ | ⟨q1, q2⟩
    · rw [q1] at hR
      simp only [] at hR
      refine x_split rfl rfl rfl (fun h9 => ?_) (fun h9 => ?_) <;> (refine st_ ?_; (refine ru_ ?_; intros))
      rotate_left
      · exact absurd q2 (by simpa using h9)
      refine rn_ ?_; intros
      refine x_retW rfl hQ hmb hmh hG0 hmub rfl rfl (by rw [hty]; simp only [so, sq, zy, zz, tyE, SO', SQ', opQ, opStore, opAlloc, ev, putS, dOk, cv, SV.cs, SV.one, SV.bool?, eqB, Value.oneCell', ldOwn, binInt, binConst, binBool, binStr, isC, TK.agg, rv, rv1, ldV, resOne, resV, Nat.reduceAdd, Nat.reduceMul, Nat.reduceSub, Nat.reduceLT, Nat.reduceLeDiff, Nat.reduceEqDiff, Nat.reduceBEq, reduceIte, reduceCtorEq, eq_self]; try rfl) rfl rfl (by simp only [enumO]; exact (by repeat (first | exact plain_nil | refine plain_cons (fun _ h => h) ?_))) ?_; simp only [SV.den, resV, dens]
      rw [← hR]
      exact ⟨_, _, _, _, rfl, ⟨_, _, _, rfl⟩, rfl⟩
    · rw [q1, hk1, hk2] at hR
      simp only [] at hR
      refine x_split rfl rfl rfl (fun h9 => ?_) (fun h9 => ?_) <;> (refine st_ ?_; (refine ru_ ?_; intros))
      · exact absurd q2 (by simpa using h9)
      obtain ⟨hki1, hk164, bL, oL, cL, eL, hatL1⟩ := rI_get hrI hk1
      obtain ⟨hki2, hk264, bL', oL', cL', eL', hatL2⟩ := rI_get hrI hk2
      injection eL with e1 e2 e3
      subst e1 e3
      cases eL'
      obtain ⟨_, y1, hy1⟩ := hpos.kid hk1
      obtain ⟨_, y2, hy2⟩ := hpos.kid hk2
      rw [if_neg (by omega)] at hy1 hy2
      refine rn_ ?_; intros
      refine go_q (v := .pointer (some ⟨bL, oL + 2 * 1, none⟩)) (by rw [hnt]; rfl) ((quiet_index (by rw [hty]; rfl) (by rw [hty]; rfl) rfl rfl rfl (by omega) (by omega)).cast (by simp)) ?_
      refine rn_ ?_; intros
      refine go_q (v := .int .i64 k2) (by rw [hnt]; rfl) ((quiet_load (by rw [hty]; rfl) rfl (by simp [TK.agg]) hatL2 rfl).cast (by rfl)) ?_
      refine rn_ ?_; intros
      refine x_split rfl rfl rfl (fun h7 => ?_) (fun h7 => ?_) <;> (refine st_ ?_; (refine ru_ ?_; intros))
      · have hb : (v.n != 0) = true := by
          rw [q2] at h7
          simpa using h7
        rw [hb] at hR
        simp only [if_true] at hR
        refine rn_ ?_; intros
        refine go_q (v := .pointer (some ⟨bL, oL + 1 * 1, none⟩)) (by rw [hnt]; rfl) ((quiet_index (by rw [hty]; rfl) (by rw [hty]; rfl) rfl rfl rfl (by omega) (by omega)).cast (by simp)) ?_
        refine rn_ ?_; intros
        refine go_q (v := .int .i64 k1) (by rw [hnt]; rfl) ((quiet_load (by rw [hty]; rfl) rfl (by simp [TK.agg]) hatL1 rfl).cast (by rfl)) ?_
        refine rn_ ?_; intros
        refine go_keep [0, 1, 2, 3, 4, 10, 11] [0, 1] ?_
        refine st_ ?_
        exact ih lf f k1 vars av cv' y1 G1 hlq hl6 hle1 hR hy1 hvv hsv
      · have hb : (v.n != 0) = false := by
          rw [q2] at h7
          simpa using h7
        rw [hb] at hR
        simp only [Bool.false_eq_true, if_false] at hR
        refine rn_ ?_; intros
        refine go_keep [0, 1, 2, 3, 4, 10, 11] [0, 1] ?_
        refine st_ ?_
        exact ih lf f k2 vars av cv' y2 G1 hlq hl6 hle1 hR hy2 hvv hsv
  have h5 : ¬ nd.op = 5 := by simpa using h5
  rw [if_neg h5] at hR
  refine rn_ ?_; intros
  refine x_split rfl rfl rfl (fun h13 => ?_) (fun h13 => ?_) <;> (refine st_ ?_; (refine ru_ ?_; intros))
  · have hop : nd.op = 13 := by simpa using h13
    rw [if_pos hop] at hR
    obtain ⟨q0, q1, y, hy⟩ := hpos.call hp hop
    have hm2 : vs.length = nd.l.length := by rw [hvl]; simp [many, hop]
    refine rn_ ?_; intros
    refine go_keep [0, 1, 2, 3, 4, 10, 11] [0, 1] ?_
    refine st_ ?_
    exact ih lf nd.n 0 vs ad3 cap3 y G1 hlq hl6 hle1 hR (by rw [hm2]; exact hy) hvd hss
  have h13 : ¬ nd.op = 13 := by simpa using h13
  rw [if_neg h13] at hR
  have hm2 : vs.length = nd.l.length := by rw [hvl]; simp [many, h4, h5]
  refine rn_ ?_; intros
  by_cases ho : nd.op = 14 ∨ nd.op = 15 ∨ nd.op = 24
  · rw [if_pos ho] at hR
    refine go_callW [0] (by rw [hnt]; rfl) (by rw [hP]; kernel_rfl) rfl rfl rfl (.inr (by rw [hmh]; decide)) (by rw [hP]; exact makes_out bb (.slice adp np cp) lf false ce nd asl ad3 av _ csl _ cap3 _ cv' G1 ho) ?_
    rintro v3 G3 ow3 (hle3 : Le G1 G3) ⟨rfl, rfl⟩
    simp only [setO, stk, bigO]
    refine rn_ ?_; intros
    refine x_retW rfl hQ hmb hmh hG0 hmub rfl rfl (by rw [hty]; simp only [so, sq, zy, zz, tyE, SO', SQ', opQ, opStore, opAlloc, ev, putS, dOk, cv, SV.cs, SV.one, SV.bool?, eqB, Value.oneCell', ldOwn, binInt, binConst, binBool, binStr, isC, TK.agg, rv, rv1, ldV, resOne, resV, Nat.reduceAdd, Nat.reduceMul, Nat.reduceSub, Nat.reduceLT, Nat.reduceLeDiff, Nat.reduceEqDiff, Nat.reduceBEq, reduceIte, reduceCtorEq, eq_self]; try rfl) rfl rfl (by simp only [enumO]; exact (by repeat (first | exact plain_nil | refine plain_cons (fun _ h => h) ?_))) ?_; simp only [SV.den, resV, dens]
    rw [← hR]
    exact ⟨_, _, _, _, rfl, ⟨_, _, _, rfl⟩, rfl⟩
  rw [if_neg ho] at hR
  have hRX : RX p 1 ⟨f, node, vars, vs⟩ nd := ⟨⟨hpos, by simp only []; omega, hvv, hvd⟩, h4, h5, hm2, .inl ⟨rfl, by omega, by omega, by omega⟩⟩
  obtain ⟨ov, ho1, ho2⟩ := res_tot hRX h13
  have ho1' : resF ⟨0, 0, vars, vs⟩ nd = some ov := ho1
  rw [ho1'] at hR
  have hn0 : nd.op = 2 ∨ nd.op = 10 → nd.n = 0 := by
    intro q
    rcases q with q | q
    · simp [nmb, nms, q] at hnm; exact hnm
    · simp [nmb, nms, q] at hnm; exact hnm
  refine go_callW [0] (by rw [hnt]; rfl) (by rw [hP]; kernel_rfl) rfl rfl rfl (.inr (by rw [hmh]; decide)) (by rw [hP]; exact makes_ok bb (.slice adp np cp) lf false ce nd _ _ _ vs vars ov G1 hrI i2 i1 hss hsv hvv (by omega) (fun q => ⟨List.eq_nil_of_length_eq_zero (by have := b1 (by omega); omega), fun q2 => hn0 (.inl q2)⟩) (fun q => hn0 (.inr q)) (by omega) (by omega) ho1') ?_
  rintro v3 G3 ow3 (hle3 : Le G1 G3) ⟨rfl, hpost⟩
  cases ov with
  | none =>
    simp only [] at hR
    obtain ⟨k9, n9, sl9, rfl, a9, m9, c9, rfl⟩ := hpost
    simp only [setO, stk, bigO]
    refine rn_ ?_; intros
    refine x_retW rfl hQ hmb hmh hG0 hmub rfl rfl (by rw [hty]; simp only [so, sq, zy, zz, tyE, SO', SQ', opQ, opStore, opAlloc, ev, putS, dOk, cv, SV.cs, SV.one, SV.bool?, eqB, Value.oneCell', ldOwn, binInt, binConst, binBool, binStr, isC, TK.agg, rv, rv1, ldV, resOne, resV, Nat.reduceAdd, Nat.reduceMul, Nat.reduceSub, Nat.reduceLT, Nat.reduceLeDiff, Nat.reduceEqDiff, Nat.reduceBEq, reduceIte, reduceCtorEq, eq_self]; try rfl) rfl rfl (by simp only [enumO]; exact (by repeat (first | exact plain_nil | refine plain_cons (fun _ h => h) ?_))) ?_; simp only [SV.den, resV, dens]
    rw [← hR]
    exact ⟨_, _, _, _, rfl, ⟨_, _, _, rfl⟩, rfl⟩
  | some y =>
    simp only [] at hR
    obtain ⟨sl9, rfl, hry, hvy⟩ := hpost
    obtain ⟨a9, c9, rfl⟩ := VT.rep_slice hry
    simp only [setO, stk, bigO]
    refine rn_ ?_; intros
    refine x_retW rfl hQ hmb hmh hG0 hmub rfl rfl (by rw [hty]; simp only [so, sq, zy, zz, tyE, SO', SQ', opQ, opStore, opAlloc, ev, putS, dOk, cv, SV.cs, SV.one, SV.bool?, eqB, Value.oneCell', ldOwn, binInt, binConst, binBool, binStr, isC, TK.agg, rv, rv1, ldV, resOne, resV, Nat.reduceAdd, Nat.reduceMul, Nat.reduceSub, Nat.reduceLT, Nat.reduceLeDiff, Nat.reduceEqDiff, Nat.reduceBEq, reduceIte, reduceCtorEq, eq_self]; try rfl) rfl rfl (by simp only [enumO]; exact (by repeat (first | exact plain_nil | refine plain_cons (fun _ h => h) ?_))) ?_; simp only [SV.den, resV, dens]
    rw [← hR]
    exact ⟨_, rfl, hry, hvy, hl6, rfl⟩
end Go.Proofs.Ytpppkednpamhbaa.R
namespace Go.Proofs.Ytpppkednpamhbaa.R
set_option linter.unusedSimpArgs false
set_option linter.unusedVariables false
open Go.Sx
set_option maxHeartbeats 16000000
set_option maxRecDepth 20000
theorem evL_le {ev : Nat → Int → ER} (h : ∀ lf k v l', ev lf k = .val v l' → l' ≤ lf) : ∀ (ks : List Int) (left : Nat) (l : List VT) (left' : Nat), evL ev left ks = .vals l left' → left' ≤ left
  | [], left, l, left', e => by
    simp only [evL, EL.vals.injEq] at e
    omega
  | k :: ks, left, l, left', e => by
    simp only [evL] at e
    cases h1 : ev left k with
    | out => rw [h1] at e; cases e
    | wrong => rw [h1] at e; cases e
    | val v l1 =>
      rw [h1] at e
      simp only [] at e
      cases h2 : evL ev l1 ks with
      | out => rw [h2] at e; cases e
      | wrong => rw [h2] at e; cases e
      | vals l2 l3 =>
        rw [h2] at e
        simp only [EL.vals.injEq] at e
        have g1 := h _ _ _ _ h1
        have g2 := evL_le h ks l1 l2 l3 h2
        omega
theorem evE_le (p : Pr) : ∀ (n left : Nat) (f node : Int) (vars : List VT) (deep : Nat) (v : VT) (left' : Nat), evE p n left f node vars deep = .val v left' → left' ≤ left
  | 0, _, _, _, _, _, _, _, e => by simp [evE] at e
  | n + 1, left, f, node, vars, deep, v, left', e => by
    rw [evE] at e
    split at e
    · cases e
    split at e
    · cases e
    split at e
    · cases e
    · cases e
    rename_i l left1 hel
    have h1 := evL_le (fun lf k v l' h => evE_le p n lf f k vars (deep + 1) v l' h) _ _ _ _ hel
    split at e
    · split at e
      · have := evE_le p n _ _ _ _ _ _ _ e; omega
      · cases e
    split at e
    · split at e
      · cases e
      · split at e
        · cases e
        · split at e
          · have := evE_le p n _ _ _ _ _ _ _ e; omega
          · cases e
    split at e
    · have := evE_le p n _ _ _ _ _ _ _ e; omega
    split at e
    · cases e
    split at e
    · injection e with _ e; omega
    · cases e
    · cases e
theorem eval_ok {p : Pr} (hp : rgtP p = true) (ps : Value) (bb : Nat) (ce : Bool) : ∀ (n left : Nat) (f node : Int) (vars : List VT) (sv : Value) (deep : Nat) (nd : Nd) (G : Hp), left < n → left ≤ 600 → deep ≤ 101 → rF.S G p ps → PosOk p f node vars.length nd → (∀ v ∈ vars, vld v = true) → rW.S G vars sv →
    PureW Try.prog 18 [.pointer (some ⟨bb, 0, none⟩), .int .i64 f, .int .i64 node, sv, .int .i64 deep] G [bigO bb ps left false ce] (evPost bb ps ce (evE p n left f node vars deep)) := by
  intro n
  induction n using Nat.strongRecOn with
  | ind n IH =>
  intro left f node vars sv deep nd G hln hl6 hdp hps hpos hvv hsv
  obtain ⟨adp, cp, rfl⟩ := Rp.S_slice hps
  obtain ⟨av, cv', rfl⟩ := Rp.S_slice hsv
  refine enterW ty tyok Try.func18 rfl Try.ntmps18 [.p 0 bb 0, .v (.int .i64 f), .v (.int .i64 node), .v (.slice av vars.length cv'), .v (.int .i64 deep)] (by simp) (mh := 1) rfl ?_
  intro C hP hQ hnt hty hmb hmh hro hG0 hmub; have hQp := qp_body hQ; refine st_ ?_
  simp only [enumO, bigO]
  refine rn_ ?_; intros
  rename_i b10
  generalize hR : evE p n left f node vars deep = R0 at hQ
  refine x_loop rfl (fun q s => ∃ (left : Nat) (f node : Int) (vars : List VT) (av : Option Addr) (cv' : Nat) (nd : Nd) (G1 : Hp), q ≤ n ∧ left < q ∧ left ≤ 600 ∧ Le G G1 ∧ evE p q left f node vars deep = R0 ∧ PosOk p f node vars.length nd ∧ (∀ v ∈ vars, vld v = true) ∧ rW.S G1 vars (.slice av vars.length cv') ∧
    s = ⟨[(0, .p 0 bb 0), (1, .v (.int .i64 f)), (2, .v (.int .i64 node)), (3, .v (.slice av vars.length cv')), (4, .v (.int .i64 deep)), (10, .p 1 b10 0), (11, .b false)],
      [(0, bb, .c 58 [.v (.slice adp p.length cp), .v (.int .i64 left), .v (.bool false), .v (.bool ce)]), (1, b10, .c 43 [.v (.int .i64 0), .v (.int .i64 0), .v (.slice none 0 0)])], G1, []⟩) ⟨left, f, node, vars, av, cv', nd, G, Nat.le_refl _, hln, hl6, Le.refl _, hR, hpos, hvv, hsv, rfl⟩ ?_
  clear hR hpos hvv hsv hln hl6
  rintro q s ⟨left, f, node, vars, av, cv', nd, G1, hqn, hlq, hl6, hle1, hR, hpos, hvv, hsv, rfl⟩ ih
  cases q with
  | zero => omega
  | succ q =>
  rw [evE] at hR
  refine rn_ ?_; intros
  rw [wr (n := (left : Int) - 1) (by omega) (by omega)]
  refine go_gsplit rfl rfl (fun h1 => ?_) (fun h1 => ?_) <;> (refine st_ ?_; (refine rn_ ?_; intros))
  · have h0 : left = 0 := by simp at h1; omega
    rw [if_pos (.inl h0)] at hR
    refine rn_ ?_; intros
    refine go_see 0 [.v (.slice adp p.length cp), .v (.int .i64 ((left : Int) - 1)), .v (.bool true), .v (.bool ce)] rfl rfl ?_
    refine st_ ?_
    refine x_retW rfl hQ hmb hmh hG0 hmub rfl rfl (by rw [hty]; simp only [so, sq, zy, zz, tyE, SO', SQ', opQ, opStore, opAlloc, ev, putS, dOk, cv, SV.cs, SV.one, SV.bool?, eqB, Value.oneCell', ldOwn, binInt, binConst, binBool, binStr, isC, TK.agg, rv, rv1, ldV, resOne, resV, Nat.reduceAdd, Nat.reduceMul, Nat.reduceSub, Nat.reduceLT, Nat.reduceLeDiff, Nat.reduceEqDiff, Nat.reduceBEq, reduceIte, reduceCtorEq, eq_self]; try rfl) rfl rfl (by simp only [enumO]; exact (by repeat (first | exact plain_nil | refine plain_cons (fun _ h => h) ?_))) ?_; simp only [SV.den, resV, dens]
    rw [← hR]
    exact ⟨_, _, _, _, rfl, ⟨_, _, _, rfl⟩, rfl⟩
  have h0 : left ≠ 0 := by simp at h1; omega
  refine x_split rfl rfl rfl (fun h2 => ?_) (fun h2 => ?_) <;> (refine st_ ?_; (refine ru_ ?_; intros))
  · have hd : 100 < deep := by simp at h2; omega
    rw [if_pos (.inr hd)] at hR
    refine rn_ ?_; intros
    refine go_see 0 [.v (.slice adp p.length cp), .v (.int .i64 ((left : Int) - 1)), .v (.bool true), .v (.bool ce)] rfl rfl ?_
    refine st_ ?_
    refine x_retW rfl hQ hmb hmh hG0 hmub rfl rfl (by rw [hty]; simp only [so, sq, zy, zz, tyE, SO', SQ', opQ, opStore, opAlloc, ev, putS, dOk, cv, SV.cs, SV.one, SV.bool?, eqB, Value.oneCell', ldOwn, binInt, binConst, binBool, binStr, isC, TK.agg, rv, rv1, ldV, resOne, resV, Nat.reduceAdd, Nat.reduceMul, Nat.reduceSub, Nat.reduceLT, Nat.reduceLeDiff, Nat.reduceEqDiff, Nat.reduceBEq, reduceIte, reduceCtorEq, eq_self]; try rfl) rfl rfl (by simp only [enumO]; exact (by repeat (first | exact plain_nil | refine plain_cons (fun _ h => h) ?_))) ?_; simp only [SV.den, resV, dens]
    rw [← hR]
    exact ⟨_, _, _, _, rfl, ⟨_, _, _, rfl⟩, rfl⟩
  have hd : ¬ 100 < deep := by simp at h2; omega
  rw [if_neg (by omega), hpos.nd] at hR
  simp only [] at hR
  obtain ⟨hd64, hben, hnm, hi, hi2⟩ := hpos.facts
  obtain ⟨b4, b5, b24, b11, b6, b1, b16, bop⟩ := ben_len hben
  have hml := many_le hben
  obtain ⟨lf, rfl⟩ : ∃ lf, left = lf + 1 := ⟨left - 1, by omega⟩
  rw [show lf + 1 - 1 = lf by omega] at hR
  rw [show ((lf + 1 : Nat) : Int) - 1 = (lf : Int) by omega]
  have hps1 := Rp.S_mono hle1 hps
  obtain ⟨bF, oF, cF, mF, bN, oN, cN, kN, sl, ePs, hf0, hf1, ⟨pa, hat⟩, hn0, hn1, han, i1, i2, hrI⟩ := nd_at hps1 hpos.nd
  obtain ⟨asl, csl, rfl⟩ := Rp.S_slice hrI
  injection ePs with e1 e2 e3
  subst e1 e2
  have hat1 : At G1 bF (oF + f.toNat * 2 + 1) [.slice (some ⟨bN, oN, none⟩) kN cN] := by simpa using hat.sub 1 1 (by simp)
  refine rn_ ?_; intros
  refine go_q (v := .pointer (some ⟨bF, oF + f.toNat * 2, none⟩)) (by rw [hnt]; rfl) ((quiet_index (by rw [hty]; rfl) (by rw [hty]; rfl) rfl rfl rfl (by omega) (by omega)).cast (by rfl)) ?_
  refine rn_ ?_; intros
  refine go_q (by rw [hnt]; rfl) (quiet_load (by rw [hty]; rfl) rfl (by simp [TK.agg]) hat1 rfl) ?_; refine rn_ ?_; intros
  refine go_q (v := .pointer (some ⟨bN, oN + node.toNat * 3, none⟩)) (by rw [hnt]; rfl) ((quiet_index (by rw [hty]; rfl) (by rw [hty]; rfl) rfl rfl rfl (by omega) (by omega)).cast (by rfl)) ?_
  refine rn_ ?_; intros
  refine go_q (v := .agg #[.int .i64 nd.op, .int .i64 nd.n, .slice asl nd.l.length csl]) (by rw [hnt]; rfl) ((quiet_load (by rw [hty]; rfl) rfl (by simp [TK.agg]) han rfl).cast (by rfl)) ?_
  refine rn_ ?_; intros
  rename_i b12
  refine cut_tailK 2 (fun s' => s' = ⟨[(0, .p 0 bb 0), (1, .v (.int .i64 f)), (2, .v (.int .i64 node)), (3, .v (.slice av vars.length cv')), (4, .v (.int .i64 deep)), (10, .p 1 b10 0), (11, .b false), (12, .p 2 b12 0), (13, .v (.slice none 0 0)), (14, .v (.int .i64 (many nd : Nat)))], [(0, bb, .c 58 [.v (.slice (some ⟨bF, oF, none⟩) p.length cp), .v (.int .i64 lf), .v (.bool false), .v (.bool ce)]), (1, b10, .c 43 [.v (.int .i64 0), .v (.int .i64 0), .v (.slice none 0 0)]), (2, b12, .c 26 [.v (.int .i64 nd.op), .v (.int .i64 nd.n), .v (.slice asl nd.l.length csl)])], G1, []⟩) ?_ ?_
  rotate_left
  · intro Kr hK
    simp only [List.take_succ_cons, List.take_zero, List.cons_append, List.nil_append]
    refine go_gsplit rfl rfl (fun g1 => ?_) (fun g1 => ?_) <;> (refine st_ ?_; (refine rn_ ?_; intros))
    · refine rn_ ?_; intros
      refine go_keep [0, 1, 2, 3, 4, 10, 11, 12, 13, 14] [0, 1, 2] ?_
      refine st_ ?_
      exact hK _ (by rw [show many nd = 1 by simp [many, show nd.op = 4 by simpa using g1]]; rfl)
    · refine x_split rfl rfl rfl (fun g2 => ?_) (fun g2 => ?_) <;> (refine st_ ?_; (refine ru_ ?_; intros))
      · refine rn_ ?_; intros
        refine go_keep [0, 1, 2, 3, 4, 10, 11, 12, 13, 14] [0, 1, 2] ?_
        refine st_ ?_
        exact hK _ (by rw [show many nd = 1 by simp [many, show nd.op = 5 by simpa using g2]]; rfl)
      · refine rn_ ?_; intros
        refine go_keep [0, 1, 2, 3, 4, 10, 11, 12, 13, 14] [0, 1, 2] ?_
        refine st_ ?_
        exact hK _ (by rw [show many nd = nd.l.length by simp [many, show ¬ nd.op = 4 by simpa using g1, show ¬ nd.op = 5 by simpa using g2]])
  rintro s' rfl
  simp only [List.drop_succ_cons, List.drop_zero]
  refine rn_ ?_; intros
  refine go_nilrow 40 43 3 rfl (by rw [hmh]; omega) ?_
  refine go_keep [0, 1, 2, 3, 4, 10, 11, 12, 13, 14, 15] [0, 1, 2, 40] ?_
  refine st_ ?_
  refine x_loop rfl (fun t s => ∃ (j : Nat) (vs : List VT) (lf' : Nat) (G2 : Hp) (ad3 : Option Addr) (cap3 : Nat) (xs : List Value) (b40 : Nat), j ≤ many nd ∧ t = many nd - j ∧ vs.length = j ∧ (∀ v ∈ vs, vld v = true) ∧ rW.L G2 vs xs ∧ lf' ≤ lf ∧ Le G1 G2 ∧
    evL (fun lf k => evE p q lf f k vars (deep + 1)) lf (nd.l.take (many nd)) = (match evL (fun lf k => evE p q lf f k vars (deep + 1)) lf' ((nd.l.take (many nd)).drop j) with | .vals l left => .vals (vs ++ l) left | .out => .out | .wrong => .wrong) ∧
    s = ⟨[(0, .p 0 bb 0), (1, .v (.int .i64 f)), (2, .v (.int .i64 node)), (3, .v (.slice av vars.length cv')), (4, .v (.int .i64 deep)), (10, .p 1 b10 0), (11, .b false), (12, .p 2 b12 0), (13, .v (.slice ad3 j cap3)), (14, .v (.int .i64 (many nd : Nat))), (15, .v (.int .i64 j))], [(0, bb, .c 58 [.v (.slice (some ⟨bF, oF, none⟩) p.length cp), .v (.int .i64 lf'), .v (.bool false), .v (.bool ce)]), (1, b10, .c 43 [.v (.int .i64 0), .v (.int .i64 0), .v (.slice none 0 0)]), (2, b12, .c 26 [.v (.int .i64 nd.op), .v (.int .i64 nd.n), .v (.slice asl nd.l.length csl)]), (40, b40, .row (.slice ad3 j cap3) 43 3 j xs)], G2, []⟩)
    ⟨0, [], lf, G1, none, 0, [], 0, by omega, rfl, rfl, by simp, rfl, Nat.le_refl _, Le.refl _, by rw [List.drop_zero]; split <;> simp_all, rfl⟩ ?_
  rintro t s ⟨j, vs, lf', G2, ad3, cap3, xs, b40, hj, ht, hvl, hvd, hxs, hlf, hle2, hev, rfl⟩ ih2
  refine rn_ ?_; intros
  refine x_if rfl rfl rfl rfl (fun hjl => ?_) (fun hjl => ?_)
  · have hlt : j < many nd := by simp at hjl; omega
    obtain ⟨c, hc⟩ : ∃ c, nd.l[j]? = some c := ⟨_, List.getElem?_eq_getElem (by omega)⟩
    have hdrop : (nd.l.take (many nd)).drop j = c :: (nd.l.take (many nd)).drop (j + 1) := by
      rw [List.drop_eq_getElem_cons (by rw [List.length_take]; omega)]
      congr 1
      rw [List.getElem_take]
      have := (List.getElem?_eq_some_iff.1 hc).2
      exact this
    rw [hdrop] at hev
    simp only [evL] at hev
    obtain ⟨hki, hk64, bL, oL, cL, eL, hatL⟩ := rI_get hrI hc
    injection eL with e1 e2 e3
    subst e1 e3
    have hps2 := Rp.S_mono hle2 hps1
    obtain ⟨hlt3, y, hy⟩ := hpos.kid hc
    have h41 : ¬ (nd.op = 4 ∧ j = 1) := fun q => by simp only [many, q.1, true_or, if_true] at hlt; omega
    rw [if_neg h41] at hy
    refine rn_ ?_; intros
    refine go_q (v := .pointer (some ⟨bL, oL + j * 1, none⟩)) (by rw [hnt]; rfl) ((quiet_index (by rw [hty]; rfl) (by rw [hty]; rfl) rfl rfl rfl (by omega) (by omega)).cast (by simp)) ?_
    refine rn_ ?_; intros
    refine go_q (v := .int .i64 c) (by rw [hnt]; rfl) ((quiet_load (by rw [hty]; rfl) rfl (by simp [TK.agg]) (hatL.mono hle2) rfl).cast (by rfl)) ?_
    refine rn_ ?_; intros
    rw [wr (n := (deep : Int) + 1) (by omega) (by omega), show (deep : Int) + 1 = ((deep + 1 : Nat) : Int) by omega]
    refine go_callW [0] (by rw [hnt]; rfl) (by rw [hP]; kernel_rfl) rfl rfl rfl (.inr (by rw [hmh]; decide)) (by rw [hP]; exact IH q (by omega) lf' f c vars _ (deep + 1) y G2 (by omega) (by omega) (by omega) hps2 hy hvv (Rp.S_mono hle2 hsv)) ?_
    rintro v3 G3 ow3 (hle3 : Le G2 G3) hpost
    cases hE : evE p q lf' f c vars (deep + 1) with
    | out =>
      rw [hE] at hpost hev
      simp only [] at hev
      rw [hev] at hR
      simp only [] at hR
      obtain ⟨k9, n9, sl9, left9, rfl, ⟨a9, m9, c9, rfl⟩, rfl⟩ := hpost
      simp only [setO, stk, bigO]
      refine rn_ ?_; intros
      (refine x_split rfl rfl rfl (fun _ => ?_) (fun hc => absurd hc (by first | decide +kernel | (simp; first | done | fail))); refine st_ ?_; (refine ru_ ?_; intros))
      refine rn_ ?_; intros
      refine x_retW rfl hQ hmb hmh hG0 hmub rfl rfl (by rw [hty]; simp only [so, sq, zy, zz, tyE, SO', SQ', opQ, opStore, opAlloc, ev, putS, dOk, cv, SV.cs, SV.one, SV.bool?, eqB, Value.oneCell', ldOwn, binInt, binConst, binBool, binStr, isC, TK.agg, rv, rv1, ldV, resOne, resV, Nat.reduceAdd, Nat.reduceMul, Nat.reduceSub, Nat.reduceLT, Nat.reduceLeDiff, Nat.reduceEqDiff, Nat.reduceBEq, reduceIte, reduceCtorEq, eq_self]; try rfl) rfl rfl (by simp only [enumO]; exact (by repeat (first | exact plain_nil | refine plain_cons (fun _ h => h) ?_))) ?_; simp only [SV.den, resV, dens]
      rw [← hR]
      exact ⟨_, _, _, _, rfl, ⟨_, _, _, rfl⟩, rfl⟩
    | wrong =>
      rw [hE] at hpost hev
      simp only [] at hev
      rw [hev] at hR
      simp only [] at hR
      obtain ⟨k9, n9, sl9, left9, rfl, ⟨a9, m9, c9, rfl⟩, rfl⟩ := hpost
      simp only [setO, stk, bigO]
      refine rn_ ?_; intros
      (refine x_split rfl rfl rfl (fun _ => ?_) (fun hc => absurd hc (by first | decide +kernel | (simp; first | done | fail))); refine st_ ?_; (refine ru_ ?_; intros))
      refine rn_ ?_; intros
      refine x_retW rfl hQ hmb hmh hG0 hmub rfl rfl (by rw [hty]; simp only [so, sq, zy, zz, tyE, SO', SQ', opQ, opStore, opAlloc, ev, putS, dOk, cv, SV.cs, SV.one, SV.bool?, eqB, Value.oneCell', ldOwn, binInt, binConst, binBool, binStr, isC, TK.agg, rv, rv1, ldV, resOne, resV, Nat.reduceAdd, Nat.reduceMul, Nat.reduceSub, Nat.reduceLT, Nat.reduceLeDiff, Nat.reduceEqDiff, Nat.reduceBEq, reduceIte, reduceCtorEq, eq_self]; try rfl) rfl rfl (by simp only [enumO]; exact (by repeat (first | exact plain_nil | refine plain_cons (fun _ h => h) ?_))) ?_; simp only [SV.den, resV, dens]
      rw [← hR]
      exact ⟨_, _, _, _, rfl, ⟨_, _, _, rfl⟩, rfl⟩
    | val v9 left9 =>
      rw [hE] at hpost hev
      simp only [] at hev
      obtain ⟨sl9, rfl, hr9, hv9, hl9, rfl⟩ := hpost
      obtain ⟨a9, c9, rfl⟩ := VT.rep_slice hr9
      simp only [setO, stk, bigO]
      refine rn_ ?_; intros
      (refine x_split rfl rfl rfl (fun hc => absurd hc (by first | decide +kernel | (simp; first | done | fail))) (fun _ => ?_); refine st_ ?_; (refine ru_ ?_; intros))
      refine rn_ ?_; intros
      refine go_append 40 (by rw [hnt]; rfl) (by rw [hty]; rfl) (by rw [hty]; rfl) (by decide) rfl rfl rfl (by rw [hmh]; omega) rfl (src_own 3 rfl rfl) rfl (by simp [dens, SV.den, Value.oneCell']) (by omega) (by simp only []; omega) ?_
      intro v'
      refine go_rowS 40 rfl ?_
      rintro ad4 cap4 rfl
      refine rn_ ?_; intros
      rw [wr (n := (j : Int) + 1) (by omega) (by omega)]
      refine go_keep [0, 1, 2, 3, 4, 10, 11, 12, 13, 14, 15] [0, 1, 2, 40] ?_
      refine st_ ?_
      have hle9 := evE_le p q lf' f c vars (deep + 1) v9 left9 hE
      rw [show (j : Int) + 1 = ((j + 1 : Nat) : Int) by omega]
      refine ih2 (many nd - (j + 1)) _ (by omega) ⟨j + 1, vs ++ [v9], left9, G3, ad4, cap4, _, b40, by omega, rfl, by simp [hvl], fun w hw => ?_, Rp.L_append (Rp.L_mono hle3 hxs) (Rp.L_single ⟨_, rfl, hr9, by have := xvld_sz hv9; omega⟩), by omega, hle2.trans hle3, ?_, rfl⟩
      · rcases List.mem_append.1 hw with hw | hw
        · exact hvd w hw
        · simp at hw; subst hw; exact hv9
      · rw [hev]
        cases evL (fun lf k => evE p q lf f k vars (deep + 1)) left9 ((nd.l.take (many nd)).drop (j + 1)) <;> simp
  have hjm : j = many nd := by simp at hjl; omega
  rw [hjm, List.drop_of_length_le (by rw [List.length_take]; omega)] at hev
  simp only [evL, List.append_nil] at hev
  rw [hev] at hR
  simp only [] at hR
  subst hvl
  refine x_exit rfl rfl rfl ?_
  refine go_pubL rW 40 rfl (by rw [hmh]; omega) rfl (by omega) hxs ?_
  intro G3 ad5 cap5 (hle3 : Le G2 G3) e5 hS5
  injection e5 with e1 e2 e3
  subst e1 e3
  refine go_keep [0, 1, 2, 3, 4, 10, 11, 12, 13] [0, 1, 2] ?_
  refine st_ ?_
  have hle13 := hle1.trans (hle2.trans hle3)
  exact evB hp (.slice (some ⟨bF, oF, none⟩) p.length cp) bb b10 b12 deep q _ lf' ce G G3 R0 hP hQ hnt hty hmb hmh hro hG0 hmub f node vars vs av ad3 asl cv' cap3 csl nd (by omega) (by omega) hle13 ⟨_, _, _, rfl⟩ hpos hvv hvd (Rp.S_mono (hle2.trans hle3) hsv) hS5 (Rp.S_mono (hle2.trans hle3) hrI) i1 i2 hjm
    (fun left f node vars av cv' nd G1 g1 g2 g3 g4 g5 g6 g7 => ih q _ (by omega) ⟨left, f, node, vars, av, cv', nd, G1, by omega, g1, g2, g3, g4, g5, g6, g7, rfl⟩) hR
end Go.Proofs.Ytpppkednpamhbaa.R
namespace Go.Proofs.Ytpppkednpamhbaa
set_option linter.unusedSimpArgs false
set_option linter.unusedVariables false
open Go.Sx
set_option maxHeartbeats 40000000
set_option maxRecDepth 20000
theorem rW_one {G : Hp} {b c : Nat} {k n : Int} (h : At G b 0 [.int .i64 k, .int .i64 n, .slice none 0 0]) (hk : isI64 k) (hn : isI64 n) : rW.S G [.mk k n []] (.slice (some ⟨b, 0, none⟩) 1 c) :=
  ⟨by simp, _, _, rfl, .inr ⟨b, 0, _, rfl, h, [_, _, _], [], rfl, ⟨_, rfl, ⟨hk, hn, by simp, none, 0, rfl, .inl rfl⟩, by simp [tsz, tszL]⟩, rfl⟩⟩
theorem rep0 {G : Hp} {k n : Int} (hk : isI64 k) (hn : isI64 n) : (VT.mk k n []).rep G (.slice none 0 0) := ⟨hk, hn, by simp, none, 0, rfl, .inl rfl⟩
theorem wB {C : Ctx} (hP : C.P = Try.prog) (hQ : C.Q = bodyPost C.P Try.f5 (Ret [] C.w0 C.G0 (fun v _ => v = .bool true))) (hnt : C.nt = 201) (hty : C.ty = ty) (hmb : C.mb = []) (hmh : C.mh = 0) (hro : C.ro = none)
    (cb bb c1 c2 c3 : Nat) (vlb fsb ps : Value) (rsd : List Fw) (Zb : Nat → Prop) (G : Hp) (hc : At G cb 0 [ps]) (hp : rF.S G givenP ps) (v1 : vt0.rep G vlb) (v2 : tsz vt0 ≤ 1000) (v3 : fsOk G chS.l rsd) (v4 : chS.l.length ≤ 256) (v5 : ∀ m x, chS.l.head? = some m → rsd.head? = some x → rW.S G m.done x.done.v) :
    SGo C [.code (Go.Sx.c2 (Go.Sx.c1 (Go.Sx.c2 (Go.Sx.c2 (Go.Sx.c2 (Go.Sx.c2 (Go.Sx.c2 (Go.Sx.c2 (Go.Sx.c2 (Go.Sx.c2 (Go.Sx.c2 (Try.f5.body.getD .skip)))))))))))), .code (Go.Sx.c2 (Go.Sx.c2 (Go.Sx.c2 (Go.Sx.c2 (Go.Sx.c2 (Go.Sx.c2 (Go.Sx.c2 (Go.Sx.c2 (Go.Sx.c2 (Go.Sx.c2 (Try.f5.body.getD .skip)))))))))))] ⟨[(0, .b false), (1, .v (.pointer (some ⟨cb, 0, none⟩))), (10, .v (.pointer (some ⟨bb, 0, none⟩))), (127, .b false)],
      [(30, bb, .c 80 [.v (.pointer (some ⟨cb, 0, none⟩)), .v (.int .i64 2), .v (.int .i64 vt0.k), .v (.int .i64 vt0.n), .v vlb, .v fsb]), (31, c1, .row fsb 77 4 rsd.length (encF rsd)), (32, c2, .z (ZR ((rsd.drop 1).map (·.done))) Zb Zb), (33, c3, .row rw0.v rw0.e rw0.size rw0.n rw0.xs)], G, []⟩ := by
  have hQp := qp_body hQ
  refine rn_ ?_; intros
  refine go_callT [30, 31, 32, 33] (by rw [hnt]; rfl) (by rw [hP]; kernel_rfl) rfl rfl rfl (by rw [hmh]; simp) (by rw [hP]; exact resume_ok bb cb givenP ps chS ⟨3, .mk 4 3 [], []⟩ (.mk 4 3 []) (.slice none 0 0) _ G hc hp ⟨vlb, fsb, c1, c2, c3, rsd, Zb, v1, v2, v3, v4, v5, rfl⟩ (rep0 (by simp [isI64]) (by simp [isI64])) rfl (by simp [tsz, tszL]) rfl given_p) ?_
  clear v1 v2 v3 v4 v5
  rintro _ G1 ow1 (hle1 : Le G G1) ⟨rfl, vlb, fsb, c1, c2, c3, rse, Zb, v1, v2, v3, v4, v5, rfl⟩
  simp only [setO, fhO, frO, fzO, fdO]
  refine st_ ?_
  refine rn_ ?_; intros
  refine go_callW [30] (by rw [hnt]; rfl) (by rw [hP]; kernel_rfl) rfl rfl rfl (.inl (by rw [hmh]; simp)) (by rw [hP]; exact value_ok bb cb 3 (.mk 4 3 []) vlb fsb G1 v1 v2 rfl) ?_
  rintro _ G2 ow2 (hle2 : Le G1 G2) ⟨rfl, ⟨q, _⟩ | ⟨_, slx, rfl, hrx⟩⟩
  · exact absurd rfl q
  obtain ⟨y1, y2, rfl⟩ := VT.rep_slice hrx
  simp only [setO, fhO, frO, fzO, fdO]
  refine st_ ?_
  refine rn_ ?_; intros
  rename_i b34 b35 b36
  refine go_pub 36 rfl (by omega) ?_
  intro G3 (hle3 : Le G2 G3) hG3
  refine go_nilrow 40 43 3 rfl (by omega) ?_
  refine go_nilrow 41 43 3 rfl (by omega) ?_
  refine go_nilrow 42 43 3 rfl (by omega) ?_
  refine go_nilrow 43 43 3 rfl (by omega) ?_
  refine st_ ?_
  have hle13 := (hle1.trans hle2).trans hle3
  have hc3 := hc.mono hle13
  have hp3 := Rp.S_mono hle13 hp
  refine go_callT [40, 41, 42, 43] (by rw [hnt]; rfl) (by rw [hP]; kernel_rfl) rfl rfl rfl (by rw [hmh]; simp) (by rw [hP]; exact begin_ok givenP ps cb 1 [.mk 1 0 []] (.slice (some ⟨b36, 0, none⟩) 1 1) _ G3 hc3 hp3 (by omega) (by decide) (by decide) rfl (by simp) (rW_one (at_cells hG3) (by simp [isI64]) (by simp [isI64])) (by simp; rfl) given_du) ?_
  rintro _ G4 ow4 (hle4 : Le G3 G4) ⟨bd, rfl, vld', fsd, d1, d2, d3, rsf, Zd, w1, w2, w3, w4, w5, rfl⟩
  simp only [setO, fhO, frO, fzO, fdO]
  refine st_ ?_
  refine rn_ ?_; intros
  have hc4 := hc3.mono hle4
  have hp4 := Rp.S_mono hle4 hp3
  refine go_keep [0, 1, 10, 16, 17, 18, 19, 20, 21, 145] [30, 31, 32, 33, 34, 35, 40, 41, 42, 43] ?_
  refine st_ ?_
  refine go_callT [40, 41, 42, 43] (by rw [hnt]; rfl) (by rw [hP]; kernel_rfl) rfl rfl rfl (by rw [hmh]; simp) (by rw [hP]; exact run_ok bd cb givenP ps ⟨1, vt0, [⟨1, 1, [.mk 1 0 []], []⟩, ⟨1, 0, [.mk 1 0 []], []⟩]⟩ ⟨4, vt0, []⟩ 9 1 _ G4 (by omega) (by omega) hc4 hp4 ⟨vld', fsd, d1, d2, d3, rsf, Zd, w1, w2, w3, w4, w5, rfl⟩ given_ru) ?_
  clear w1 w2 w3 w4 w5
  rintro _ G5 ow5 (hle5 : Le G4 G5) ⟨rfl, vld', fsd, d1, d2, d3, rsg, Zd, w1, w2, w3, w4, w5, rfl⟩
  simp only [setO, fhO, frO, fzO, fdO]
  refine st_ ?_
  refine rn_ ?_; intros
  have hc5 := hc4.mono hle5
  have hp5 := Rp.S_mono hle5 hp4
  refine go_keep [0, 1, 10, 16, 17, 18, 19, 20, 21, 22, 23, 150] [30, 31, 32, 33, 34, 35, 40, 41, 42, 43] ?_
  refine st_ ?_
  have hle15 := hle4.trans hle5
  have hsame : Pure Try.prog 20 [.agg #[.int .i64 (VT.mk 4 3 []).k, .int .i64 (VT.mk 4 3 []).n, .slice y1 (VT.mk 4 3 []).l.length y2], .agg #[.int .i64 4, .int .i64 3, .slice none 0 0]] G5 (fun r _ => r = .bool true) :=
    (refSame_ok (.mk 4 3 []) (.mk 4 3 []) _ _ G5 (VT.rep_mono (hle3.trans hle15) hrx) (rep0 (by simp [isI64]) (by simp [isI64])) (by decide +kernel) (by decide +kernel)).val (by rfl)
  have hcE := begin_err givenP ps cb 2 none 0 0 4 G5 hc5 hp5 (by decide) (.inl ⟨.inr (by decide), rfl⟩)
  have hcF := begin_err givenP ps cb 1 none 0 0 2 G5 hc5 hp5 (by decide) (.inr ⟨by decide, by decide, by decide, rfl⟩)
  refine go_callf (by rw [hnt]; rfl) (by rw [hP]; kernel_rfl) rfl (hP ▸ hcE) ?_; refine rn_ ?_; intros
  refine go_callf (by rw [hnt]; rfl) (by rw [hP]; kernel_rfl) rfl (hP ▸ hcF) ?_; refine rn_ ?_; intros
  refine go_callf (by rw [hnt]; rfl) (by rw [hP]; kernel_rfl) rfl (hP ▸ numL_ok 0 _) ?_; refine rn_ ?_; intros
  refine go_callf (by rw [hnt]; rfl) (by rw [hP]; kernel_rfl) rfl (hP ▸ numL_ok 0 _) ?_; refine rn_ ?_; intros
  refine go_callf (by rw [hnt]; rfl) (by rw [hP]; kernel_rfl) rfl (hP ▸ numL_ok 0 _) ?_; refine rn_ ?_; intros
  (refine go_gsplit rfl rfl (fun _ => ?_) (fun hc => absurd hc (by first | decide +kernel | (simp; first | done | fail))); refine st_ ?_; (refine rn_ ?_; intros))
  (refine go_gsplit rfl rfl (fun _ => ?_) (fun hc => absurd hc (by first | decide +kernel | (simp; first | done | fail))); refine st_ ?_; (refine rn_ ?_; intros))
  refine go_callf (by rw [hnt]; rfl) (by rw [hP]; kernel_rfl) rfl (hP ▸ hsame) ?_; refine rn_ ?_; intros
  (refine go_gsplit rfl rfl (fun _ => ?_) (fun hc => absurd hc (by first | decide +kernel | (simp; first | done | fail))); refine st_ ?_; (refine rn_ ?_; intros))
  have hst : stepP givenP ⟨3, .mk 4 3 [], []⟩ = some (100, ⟨3, .mk 4 3 [], []⟩) := rfl
  have hle05 := (hle2.trans hle3).trans hle15
  refine go_callT [30, 31, 32, 33] (by rw [hnt]; rfl) (by rw [hP]; kernel_rfl) rfl rfl rfl (by rw [hmh]; simp) (by rw [hP]; exact step_ok bb cb givenP ps ⟨3, .mk 4 3 [], []⟩ ⟨3, .mk 4 3 [], []⟩ 100 _ G5 hc5 hp5 ⟨vlb, fsb, c1, c2, c3, rse, Zb, VT.rep_mono hle05 v1, v2, v3.mono hle05, v4, fun m x q q' => Rp.S_mono hle05 (v5 m x q q'), rfl⟩ hst) ?_
  rintro _ G6 ow6 (hle6 : Le G5 G6) ⟨rfl, vlc, fsc, e1, e2, e3, rsh, Ze, x1, x2, x3, x4, x5, rfl⟩
  simp only [setO, fhO, frO, fzO, fdO]
  refine st_ ?_
  refine rn_ ?_; intros
  refine go_callf (by rw [hnt]; rfl) (by rw [hP]; kernel_rfl) rfl (hP ▸ numL_ok 100 _) ?_; refine rn_ ?_; intros
  (refine go_gsplit rfl rfl (fun _ => ?_) (fun hc => absurd hc (by first | decide +kernel | (simp; first | done | fail))); refine st_ ?_; (refine rn_ ?_; intros))
  (refine go_gsplit rfl rfl (fun _ => ?_) (fun hc => absurd hc (by first | decide +kernel | (simp; first | done | fail))); refine st_ ?_; (refine rn_ ?_; intros))
  refine go_callW [40] (by rw [hnt]; rfl) (by rw [hP]; kernel_rfl) rfl rfl rfl (.inl (by rw [hmh]; simp)) (by rw [hP]; exact state_ok bd cb 4 vt0.k vt0.n vld' fsd G6) ?_
  rintro _ G7 ow7 (hle7 : Le G6 G7) ⟨rfl, rfl⟩
  simp only [setO, fhO, frO, fzO, fdO]
  refine st_ ?_
  refine rn_ ?_; intros
  (refine go_gsplit rfl rfl (fun _ => ?_) (fun hc => absurd hc (by first | decide +kernel | (simp; first | done | fail))); refine st_ ?_; (refine rn_ ?_; intros))
  refine go_callf (by rw [hnt]; rfl) (by rw [hP]; kernel_rfl) rfl (hP ▸ numL_ok 4 _) ?_; refine rn_ ?_; intros
  (refine go_gsplit rfl rfl (fun _ => ?_) (fun hc => absurd hc (by first | decide +kernel | (simp; first | done | fail))); refine st_ ?_; (refine rn_ ?_; intros))
  refine go_callf (by rw [hnt]; rfl) (by rw [hP]; kernel_rfl) rfl (hP ▸ numL_ok 2 _) ?_; refine rn_ ?_; intros
  refine x_retc rfl hQ hmb rfl (by rw [hty]; simp only [so, sq, zy, zz, tyE, SO', SQ', opQ, opStore, opAlloc, ev, putS, dOk, cv, SV.cs, SV.one, SV.bool?, eqB, Value.oneCell', ldOwn, binInt, binConst, binBool, binStr, isC, TK.agg, rv, rv1, ldV, resOne, resV, Nat.reduceAdd, Nat.reduceMul, Nat.reduceSub, Nat.reduceLT, Nat.reduceLeDiff, Nat.reduceEqDiff, Nat.reduceBEq, reduceIte, reduceCtorEq, eq_self]; try rfl) rfl ?_; simp only [SV.den, resV, dens]
end Go.Proofs.Ytpppkednpamhbaa
namespace Go.Proofs.Ytpppkednpamhbaa
set_option linter.unusedSimpArgs false
set_option linter.unusedVariables false
open Go.Sx
set_option maxHeartbeats 40000000
set_option maxRecDepth 20000
theorem works10_ok (G : Hp) : Pure Try.prog 5 [] G (fun v _ => v = .bool true) := by
  refine enterX ty tyok Try.func5 rfl Try.ntmps5 [] (by simp) ?_
  intro C hP hQ hnt hty hmb hmh hro; have hQp := qp_body hQ; refine st_ ?_
  refine rn_ ?_; intros
  refine go_call (by rw [hnt]; rfl) (by rw [hP]; kernel_rfl) rfl (hP ▸ given_ok G) ?_
  rintro _ G1 (hle1 : Le G G1) ⟨ps0, rfl, hps0⟩
  obtain ⟨ap0, cp0, rfl⟩ := Rp.S_slice hps0
  refine rn_ ?_; intros
  refine go_call (by rw [hnt]; rfl) (by rw [hP]; kernel_rfl) rfl (hP ▸ load_ok givenP _ G1 hps0 given_bd given_wh) ?_
  rintro _ G2 (hle2 : Le G1 G2) ⟨cb, ps, rfl, hc, hp⟩
  refine rn_ ?_; intros
  refine go_nilrow 20 43 3 rfl (by omega) ?_
  refine go_nilrow 21 43 3 rfl (by omega) ?_
  refine go_nilrow 22 43 3 rfl (by omega) ?_
  refine go_nilrow 23 43 3 rfl (by omega) ?_
  refine st_ ?_
  refine go_callT [20, 21, 22, 23] (by rw [hnt]; rfl) (by rw [hP]; kernel_rfl) rfl rfl rfl (by rw [hmh]; simp) (by rw [hP]; exact begin_ok givenP ps cb 0 [] _ _ G2 hc hp (by omega) (by decide) (by decide) rfl (by simp) (Rp.S_nil _ _) (by simp) given_d0) ?_
  rintro _ G3 ow3 (hle3 : Le G2 G3) ⟨ba, rfl, vla, fsa, a1, a2, a3, rsa, Za, u1, u2, u3, u4, u5, rfl⟩
  simp only [setO, fhO, frO, fzO, fdO]
  refine st_ ?_
  refine rn_ ?_; intros
  refine go_rowC 21 rfl ?_
  rintro qa1 qa2 rfl hqa
  have hra : rsa.length = 2 := u3.len
  refine go_callW [20] (by rw [hnt]; rfl) (by rw [hP]; kernel_rfl) rfl rfl rfl (.inl (by rw [hmh]; simp)) (by rw [hP]; exact frames_ok ba cb 1 vt0.k vt0.n vla qa1 rsa.length qa2 G3) ?_
  rintro _ G4 ow4 (hle4 : Le G3 G4) ⟨rfl, rfl⟩
  simp only [setO, fhO, frO, fzO, fdO]
  refine st_ ?_
  refine rn_ ?_; intros
  have hc4 := hc.mono (hle3.trans hle4)
  have hp4 := Rp.S_mono (hle3.trans hle4) hp
  refine go_callT [20, 21, 22, 23] (by rw [hnt]; rfl) (by rw [hP]; kernel_rfl) rfl rfl rfl (by rw [hmh]; simp) (by rw [hP]; exact run_ok ba cb givenP ps ⟨1, vt0, [⟨0, 1, [], []⟩, ⟨0, 0, [], []⟩]⟩ ⟨3, iV 7, []⟩ 99 4 _ G4 (by omega) (by omega) hc4 hp4 ⟨vla, _, a1, a2, a3, rsa, Za, VT.rep_mono hle4 u1, u2, u3.mono hle4, u4, fun m x q q' => Rp.S_mono hle4 (u5 m x q q'), rfl⟩ given_r0) ?_
  clear u1 u2 u3 u4 u5 hqa
  rintro _ G5 ow5 (hle5 : Le G4 G5) ⟨rfl, vla, fsa, a1, a2, a3, rsb, Za, u1, u2, u3, u4, u5, rfl⟩
  simp only [setO, fhO, frO, fzO, fdO]
  refine st_ ?_
  refine rn_ ?_; intros
  refine go_callW [20] (by rw [hnt]; rfl) (by rw [hP]; kernel_rfl) rfl rfl rfl (.inl (by rw [hmh]; simp)) (by rw [hP]; exact value_ok ba cb 3 (iV 7) vla fsa G5 u1 u2 rfl) ?_
  rintro _ G6 ow6 (hle6 : Le G5 G6) ⟨rfl, ⟨q, _⟩ | ⟨_, sl7, rfl, hr7⟩⟩
  · exact absurd rfl q
  obtain ⟨y1, y2, rfl⟩ := VT.rep_slice hr7
  simp only [setO, fhO, frO, fzO, fdO]
  refine st_ ?_
  refine rn_ ?_; intros
  refine go_callf (by rw [hnt]; rfl) (by rw [hP]; kernel_rfl) rfl (hP ▸ numb_ok 1000 _) ?_; refine rn_ ?_; intros
  refine go_keep [0, 1, 2, 3, 4, 5, 6, 7, 8, 9, 51, 52, 53] [20, 21, 22, 23, 24, 25] ?_
  refine st_ ?_
  rename_i b24 b25
  refine go_pub 25 rfl (by omega) ?_
  intro G7 (hle7 : Le G6 G7) hG7
  refine go_nilrow 30 43 3 rfl (by omega) ?_
  refine go_nilrow 31 43 3 rfl (by omega) ?_
  refine go_nilrow 32 43 3 rfl (by omega) ?_
  refine go_nilrow 33 43 3 rfl (by omega) ?_
  refine st_ ?_
  have hle47 := (hle5.trans hle6).trans hle7
  have hc7 := hc4.mono hle47
  have hp7 := Rp.S_mono hle47 hp4
  refine go_callT [30, 31, 32, 33] (by rw [hnt]; rfl) (by rw [hP]; kernel_rfl) rfl rfl rfl (by rw [hmh]; simp) (by rw [hP]; exact begin_ok givenP ps cb 1 [iV 1000] (.slice (some ⟨b25, 0, none⟩) 1 1) _ G7 hc7 hp7 (by omega) (by decide) (by decide) rfl (by simp) (rW_one (at_cells hG7) (by simp [isI64]) (by simp [isI64])) (by simp; rfl) given_d1) ?_
  rintro _ G8 ow8 (hle8 : Le G7 G8) ⟨bb, rfl, vlb, fsb, c1, c2, c3, rsc, Zb, v1, v2, v3, v4, v5, rfl⟩
  simp only [setO, fhO, frO, fzO, fdO]
  refine st_ ?_
  refine rn_ ?_; intros
  refine go_keep [0, 1, 2, 3, 4, 5, 6, 7, 8, 9, 10, 11, 58] [20, 21, 22, 23, 24, 30, 31, 32, 33] ?_
  refine st_ ?_
  refine go_callT [30, 31, 32, 33] (by rw [hnt]; rfl) (by rw [hP]; kernel_rfl) rfl rfl rfl (by rw [hmh]; simp) (by rw [hP]; exact run_ok bb cb givenP ps (rS 1000) chS 9999 5001 _ G8 (by omega) (by omega) (hc7.mono hle8) (Rp.S_mono hle8 hp7) ⟨vlb, _, c1, c2, c3, rsc, Zb, v1, v2, v3, v4, v5, rfl⟩ given_r1) ?_
  clear v1 v2 v3 v4 v5
  rintro _ G9 ow9 (hle9 : Le G8 G9) ⟨rfl, vlb, fsb, c1, c2, c3, rsd, Zb, v1, v2, v3, v4, v5, rfl⟩
  simp only [setO, fhO, frO, fzO, fdO]
  refine st_ ?_
  refine rn_ ?_; intros
  have hc9 := hc7.mono (hle8.trans hle9)
  have hp9 := Rp.S_mono (hle8.trans hle9) hp7
  refine go_callW [30, 31] (by rw [hnt]; rfl) (by rw [hP]; kernel_rfl) rfl rfl rfl (.inl (by rw [hmh]; simp)) (by rw [hP]; exact want_ok bb cb c1 vt0.k vt0.n vlb fsb ps givenP ⟨1, 3, [iV 0], []⟩ [] rsd ⟨15, 0, []⟩ G9 hc9 hp9 v3 rfl (by simp) rfl) ?_
  rintro _ G10 ow10 (hle10 : Le G9 G10) ⟨rfl, rfl⟩
  simp only [setO, fhO, frO, fzO, fdO]
  refine st_ ?_
  refine rn_ ?_; intros
  refine go_rowC 31 rfl ?_
  rintro qa1 qb2 rfl hqb
  have hrd : rsd.length = 1 := v3.len
  simp only [hra, hrd]
  refine go_keep [0, 1, 2, 3, 4, 5, 6, 7, 8, 9, 10, 11, 12, 13, 14, 15] [20, 21, 22, 23, 24, 30, 31, 32, 33, 34] ?_
  refine st_ ?_
  have hsame : Pure Try.prog 20 [.agg #[.int .i64 (iV 7).k, .int .i64 (iV 7).n, .slice y1 (iV 7).l.length y2], .agg #[.int .i64 2, .int .i64 7, .slice none 0 0]] G10 (fun r _ => r = .bool true) :=
    (refSame_ok (iV 7) (iV 7) _ _ G10 (VT.rep_mono (((hle7.trans hle8).trans hle9).trans hle10) hr7) ⟨by simp [isI64], by simp [isI64], by simp, none, 0, rfl, .inl rfl⟩ (by decide +kernel) (by decide +kernel)).val (by rfl)
  refine x_draw rfl (by rw [hP]; kernel_rfl) rfl (by kernel_rfl) ?_
  refine runq 400 hty hnt ?_; refine st_ ?_
  refine q_callf (by rw [hnt]; rfl) (by rw [hP]; kernel_rfl) rfl (hP ▸ numL_ok 0 _) ?_; refine runq 400 hty hnt ?_; refine st_ ?_
  refine q_callf (by rw [hnt]; rfl) (by rw [hP]; kernel_rfl) rfl (hP ▸ numL_ok 0 _) ?_; refine runq 400 hty hnt ?_; refine st_ ?_
  refine q_callf (by rw [hnt]; rfl) (by rw [hP]; kernel_rfl) rfl (hP ▸ numL_ok 0 _) ?_; refine runq 400 hty hnt ?_; refine st_ ?_
  refine q_callf (by rw [hnt]; rfl) (by rw [hP]; kernel_rfl) rfl (hP ▸ numL_ok 0 _) ?_; refine runq 400 hty hnt ?_; refine st_ ?_
  refine q_callf (by rw [hnt]; rfl) (by rw [hP]; kernel_rfl) rfl (hP ▸ numL_ok 0 _) ?_; refine runq 400 hty hnt ?_; refine st_ ?_
  (refine go_qsplit rfl rfl (fun hc => absurd hc (by decide +kernel)) (fun _ => ?_); refine st_ ?_; (try (refine runq 400 hty hnt ?_; refine st_ ?_)))
  (refine go_qsplit rfl rfl (fun hc => absurd hc (by decide +kernel)) (fun _ => ?_); refine st_ ?_; (try (refine runq 400 hty hnt ?_; refine st_ ?_)))
  (refine go_qsplit rfl rfl (fun hc => absurd hc (by decide +kernel)) (fun _ => ?_); refine st_ ?_; (try (refine runq 400 hty hnt ?_; refine st_ ?_)))
  refine q_callW [20] (by rw [hnt]; rfl) (by rw [hP]; kernel_rfl) rfl rfl rfl (by rw [hP]; exact state_ok ba cb 3 (iV 7).k (iV 7).n vla fsa G10) ?_
  refine runq 400 hty hnt ?_; refine st_ ?_
  (refine go_qsplit rfl rfl (fun hc => absurd hc (by decide +kernel)) (fun _ => ?_); refine st_ ?_; (try (refine runq 400 hty hnt ?_; refine st_ ?_)))
  (refine go_qsplit rfl rfl (fun hc => absurd hc (by decide +kernel)) (fun _ => ?_); refine st_ ?_; (try (refine runq 400 hty hnt ?_; refine st_ ?_)))
  refine q_callf (by rw [hnt]; rfl) (by rw [hP]; kernel_rfl) rfl (hP ▸ numb_ok 7 _) ?_; refine runq 400 hty hnt ?_; refine st_ ?_
  refine q_callf (by rw [hnt]; rfl) (by rw [hP]; kernel_rfl) rfl (hP ▸ hsame) ?_; refine runq 400 hty hnt ?_; refine st_ ?_
  (refine go_qsplit rfl rfl (fun hc => absurd hc (by decide +kernel)) (fun _ => ?_); refine st_ ?_; (try (refine runq 400 hty hnt ?_; refine st_ ?_)))
  (refine go_qsplit rfl rfl (fun hc => absurd hc (by decide +kernel)) (fun _ => ?_); refine st_ ?_; (try (refine runq 400 hty hnt ?_; refine st_ ?_)))
  refine q_callW [30] (by rw [hnt]; rfl) (by rw [hP]; kernel_rfl) rfl rfl rfl (by rw [hP]; exact state_ok bb cb 2 vt0.k vt0.n vlb _ G10) ?_
  refine runq 400 hty hnt ?_; refine st_ ?_
  (refine go_qsplit rfl rfl (fun hc => absurd hc (by decide +kernel)) (fun _ => ?_); refine st_ ?_; (try (refine runq 400 hty hnt ?_; refine st_ ?_)))
  (refine go_qsplit rfl rfl (fun hc => absurd hc (by decide +kernel)) (fun _ => ?_); refine st_ ?_; (try (refine runq 400 hty hnt ?_; refine st_ ?_)))
  (refine go_qsplit rfl rfl (fun hc => absurd hc (by decide +kernel)) (fun _ => ?_); refine st_ ?_; (try (refine runq 400 hty hnt ?_; refine st_ ?_)))
  refine q_callW [30] (by rw [hnt]; rfl) (by rw [hP]; kernel_rfl) rfl rfl rfl (by rw [hP]; exact frames_ok bb cb 2 vt0.k vt0.n vlb qa1 1 qb2 G10) ?_
  refine runq 400 hty hnt ?_; refine st_ ?_
  refine q_end ?_; refine rn_ ?_; intros
  refine go_slot 127 (.b false) rfl rfl ?_
  refine go_keep [0, 1, 10, 127] [30, 31, 32, 33] ?_
  refine st_ ?_
  have hfin := wB hP hQ hnt hty hmb hmh hro cb bb c1 c2 c3 vlb (.slice qa1 1 qb2) ps rsd Zb G10 (hc9.mono hle10) (Rp.S_mono hle10 hp9) (VT.rep_mono hle10 v1) v2 (v3.mono hle10) v4 (fun m x q q' => Rp.S_mono hle10 (v5 m x q q'))
  rw [hrd] at hfin
  exact hfin
end Go.Proofs.Ytpppkednpamhbaa
namespace Go.Proofs.Ytpppkednpamhbaa.R
set_option linter.unusedSimpArgs false
set_option linter.unusedVariables false
open Go.Sx
set_option maxHeartbeats 8000000
set_option maxRecDepth 20000
theorem rW_of {G : Hp} : ∀ {l : List VT} {cs : List Value}, repV G l cs → (∀ v ∈ l, tsz v ≤ 1000) → rW.L G l cs
  | [], cs, h, _ => by simp only [repV] at h; exact h
  | x :: l, cs, h, hb => by
    simp only [repV] at h
    obtain ⟨sl, r, rfl, h1, h2⟩ := h
    exact ⟨[_, _, _], r, rfl, ⟨sl, rfl, h1, hb x (by simp)⟩, rW_of h2 fun v hv => hb v (by simp [hv])⟩
theorem rW_ofS {G : Hp} {l : List VT} {sl : Value} (h : repS G l sl) (hb : ∀ v ∈ l, tsz v ≤ 1000) : rW.S G l sl := by
  obtain ⟨h1, ad, cap, h2, h3⟩ := h
  refine ⟨h1, ad, cap, h2, h3.imp id ?_⟩
  rintro ⟨b, off, cs, q1, q2, q3⟩
  exact ⟨b, off, cs, q1, q2, rW_of q3 hb⟩
theorem small_ok10 (p : Pr) (ps : Value) (G : Hp) (hps : rF.S G p ps) : Pure Try.prog 14 [.agg #[ps]] G (fun v _ => ∃ b : Bool, v = .bool b ∧ (b = true → p.length ≤ 12 ∧ ∀ f ∈ p, f.nodes.length ≤ 40)) := by
  have hps0 := hps
  have h63 := Rp.S_len hps
  obtain ⟨adp, cp, rfl⟩ := Rp.S_slice hps
  refine enterX ty tyok Try.func14 rfl Try.ntmps14 [.a [.v (.slice adp p.length cp)]] (by simp) ?_
  intro C hP hQ hnt hty hmb hmh hro; have hQp := qp_body hQ; refine st_ ?_
  refine rn_ ?_; intros
  rename_i b1
  refine x_split rfl rfl rfl (fun h1 => ?_) (fun h1 => ?_) <;> (refine st_ ?_; (refine ru_ ?_; intros))
  · refine rn_ ?_; intros
    refine x_retc rfl hQ hmb rfl (by rw [hty]; simp only [so, sq, zy, zz, tyE, SO', SQ', opQ, opStore, opAlloc, ev, putS, dOk, cv, SV.cs, SV.one, SV.bool?, eqB, Value.oneCell', ldOwn, binInt, binConst, binBool, binStr, isC, TK.agg, rv, rv1, ldV, resOne, resV, Nat.reduceAdd, Nat.reduceMul, Nat.reduceSub, Nat.reduceLT, Nat.reduceLeDiff, Nat.reduceEqDiff, Nat.reduceBEq, reduceIte, reduceCtorEq, eq_self]; try rfl) rfl ?_; simp only [SV.den, resV, dens]
    exact ⟨false, rfl, fun q => by cases q⟩
  have h12 : p.length ≤ 12 := by simp at h1; omega
  refine rn_ ?_; intros
  refine go_keep [1, 2, 3] [0] ?_
  refine st_ ?_
  refine x_loop rfl (fun q s => ∃ i : Nat, i ≤ p.length ∧ q = p.length - i ∧ (∀ f ∈ p.take i, f.nodes.length ≤ 40) ∧
    s = ⟨[(1, .p 0 b1 0), (2, .b false), (3, .v (.int .i64 i))], [(0, b1, .c 36 [.v (.slice adp p.length cp)])], G, []⟩) ⟨0, by omega, rfl, by simp, rfl⟩ ?_
  rintro q s ⟨i, hi, hq, hall, rfl⟩ ih
  refine rn_ ?_; intros
  refine x_if rfl rfl rfl rfl (fun hil => ?_) (fun hil => ?_)
  · have hlt : i < p.length := by simp at hil; omega
    obtain ⟨bp, op, nsp, rfl, hatp, hpp, hnp⟩ := rF_at hps0 hlt
    have hn63 := Rp.S_len hnp
    obtain ⟨adn, capn, rfl⟩ := Rp.S_slice hnp
    have hatp1 : At G bp (op + i * 2 + 1) [.slice adn (fu p i).nodes.length capn] := by simpa using hatp.sub 1 1 (by simp)
    refine rn_ ?_; intros
    refine go_q (v := .pointer (some ⟨bp, op + i * 2, none⟩)) (by rw [hnt]; rfl) ((quiet_index (by rw [hty]; rfl) (by rw [hty]; rfl) rfl rfl rfl (by omega) (by omega)).cast (by simp)) ?_
    refine rn_ ?_; intros
    refine go_q (by rw [hnt]; rfl) (quiet_load (by rw [hty]; rfl) rfl (by simp [TK.agg]) hatp1 rfl) ?_; refine rn_ ?_; intros
    refine x_split rfl rfl rfl (fun h2 => ?_) (fun h2 => ?_) <;> (refine st_ ?_; (refine ru_ ?_; intros))
    · refine rn_ ?_; intros
      refine x_retc rfl hQ hmb rfl (by rw [hty]; simp only [so, sq, zy, zz, tyE, SO', SQ', opQ, opStore, opAlloc, ev, putS, dOk, cv, SV.cs, SV.one, SV.bool?, eqB, Value.oneCell', ldOwn, binInt, binConst, binBool, binStr, isC, TK.agg, rv, rv1, ldV, resOne, resV, Nat.reduceAdd, Nat.reduceMul, Nat.reduceSub, Nat.reduceLT, Nat.reduceLeDiff, Nat.reduceEqDiff, Nat.reduceBEq, reduceIte, reduceCtorEq, eq_self]; try rfl) rfl ?_; simp only [SV.den, resV, dens]
      exact ⟨false, rfl, fun q => by cases q⟩
    · refine rn_ ?_; intros
      rw [wr (n := (i : Int) + 1) (by omega) (by omega)]
      refine go_keep [1, 2, 3] [0] ?_
      refine st_ ?_
      refine ih (p.length - (i + 1)) _ (by omega) ⟨i + 1, by omega, rfl, fun f hf => ?_, rfl⟩
      rw [← List.take_append_getElem hlt] at hf
      rcases List.mem_append.1 hf with hf | hf
      · exact hall f hf
      · simp only [List.mem_cons, List.not_mem_nil, or_false] at hf
        subst hf
        rw [fu_eq hlt] at h2
        simp at h2
        omega
  have hie : i = p.length := by simp at hil; omega
  subst hie
  rw [List.take_length] at hall
  refine rn_ ?_; intros
  refine x_retc rfl hQ hmb rfl (by rw [hty]; simp only [so, sq, zy, zz, tyE, SO', SQ', opQ, opStore, opAlloc, ev, putS, dOk, cv, SV.cs, SV.one, SV.bool?, eqB, Value.oneCell', ldOwn, binInt, binConst, binBool, binStr, isC, TK.agg, rv, rv1, ldV, resOne, resV, Nat.reduceAdd, Nat.reduceMul, Nat.reduceSub, Nat.reduceLT, Nat.reduceLeDiff, Nat.reduceEqDiff, Nat.reduceBEq, reduceIte, reduceCtorEq, eq_self]; try rfl) rfl ?_; simp only [SV.den, resV, dens]
  exact ⟨true, rfl, fun _ => ⟨h12, hall⟩⟩
theorem short_ok (l : List VT) (sl : Value) (most : Int) (G : Hp) (hl : repS G l sl) (hb : ∀ v ∈ l, tsz v ≤ 2000000) : Pure Try.prog 15 [sl, .int .i64 most] G (fun v _ => ∃ b : Bool, v = .bool b ∧ (b = true → (l.length : Int) ≤ most ∧ ∀ v ∈ l, tsz v ≤ 20)) := by
  obtain ⟨h63, ad, cap, rfl, hS⟩ := hl
  refine enterX ty tyok Try.func15 rfl Try.ntmps15 [.v (.slice ad l.length cap), .v (.int .i64 most)] (by simp) ?_
  intro C hP hQ hnt hty hmb hmh hro; have hQp := qp_body hQ; refine st_ ?_
  refine rn_ ?_; intros
  refine x_split rfl rfl rfl (fun h1 => ?_) (fun h1 => ?_) <;> (refine st_ ?_; (refine ru_ ?_; intros))
  · refine rn_ ?_; intros
    refine x_retc rfl hQ hmb rfl (by rw [hty]; simp only [so, sq, zy, zz, tyE, SO', SQ', opQ, opStore, opAlloc, ev, putS, dOk, cv, SV.cs, SV.one, SV.bool?, eqB, Value.oneCell', ldOwn, binInt, binConst, binBool, binStr, isC, TK.agg, rv, rv1, ldV, resOne, resV, Nat.reduceAdd, Nat.reduceMul, Nat.reduceSub, Nat.reduceLT, Nat.reduceLeDiff, Nat.reduceEqDiff, Nat.reduceBEq, reduceIte, reduceCtorEq, eq_self]; try rfl) rfl ?_; simp only [SV.den, resV, dens]
    exact ⟨false, rfl, fun q => by cases q⟩
  have h12 : (l.length : Int) ≤ most := by simp at h1; omega
  refine rn_ ?_; intros
  refine go_keep [0, 1, 4, 5] [] ?_
  refine st_ ?_
  refine x_loop rfl (fun q s => ∃ (i : Nat) (G1 : Hp), i ≤ l.length ∧ q = l.length - i ∧ Le G G1 ∧ (∀ v ∈ l.take i, tsz v ≤ 20) ∧
    s = ⟨[(0, .v (.slice ad l.length cap)), (1, .v (.int .i64 most)), (4, .b false), (5, .v (.int .i64 i))], [], G1, []⟩) ⟨0, G, by omega, rfl, Le.refl _, by simp, rfl⟩ ?_
  rintro q s ⟨i, G1, hi, hq, hle1, hall, rfl⟩ ih
  refine rn_ ?_; intros
  refine x_if rfl rfl rfl rfl (fun hil => ?_) (fun hil => ?_)
  · have hlt : i < l.length := by simp at hil; omega
    rcases hS with rfl | ⟨b, off, cs, rfl, ha, hrV⟩
    · simp at hlt
    obtain ⟨adx, capx, hat, hrx⟩ := At_get ha hrV hlt
    have hbx := hb l[i] (List.getElem_mem _)
    refine rn_ ?_; intros
    refine go_q (v := .pointer (some ⟨b, off + i * 3, none⟩)) (by rw [hnt]; rfl) ((quiet_index (by rw [hty]; rfl) (by rw [hty]; rfl) rfl rfl rfl (by omega) (by omega)).cast (by simp)) ?_
    refine rn_ ?_; intros
    refine go_q (v := .agg #[.int .i64 l[i].k, .int .i64 l[i].n, .slice adx l[i].l.length capx]) (by rw [hnt]; rfl) ((quiet_load (by rw [hty]; rfl) rfl (by simp [TK.agg]) (hat.mono hle1) rfl).cast (by rfl)) ?_
    refine rn_ ?_; intros
    refine go_callf (by rw [hnt]; rfl) (by rw [hP]; kernel_rfl) rfl (hP ▸ refsize_ok l[i] _ G1 (VT.rep_mono hle1 hrx) hbx) ?_; refine rn_ ?_; intros
    refine x_split rfl rfl rfl (fun h2 => ?_) (fun h2 => ?_) <;> (refine st_ ?_; (refine ru_ ?_; intros))
    · refine rn_ ?_; intros
      refine x_retc rfl hQ hmb rfl (by rw [hty]; simp only [so, sq, zy, zz, tyE, SO', SQ', opQ, opStore, opAlloc, ev, putS, dOk, cv, SV.cs, SV.one, SV.bool?, eqB, Value.oneCell', ldOwn, binInt, binConst, binBool, binStr, isC, TK.agg, rv, rv1, ldV, resOne, resV, Nat.reduceAdd, Nat.reduceMul, Nat.reduceSub, Nat.reduceLT, Nat.reduceLeDiff, Nat.reduceEqDiff, Nat.reduceBEq, reduceIte, reduceCtorEq, eq_self]; try rfl) rfl ?_; simp only [SV.den, resV, dens]
      exact ⟨false, rfl, fun q => by cases q⟩
    · refine rn_ ?_; intros
      rw [wr (n := (i : Int) + 1) (by omega) (by omega)]
      refine go_keep [0, 1, 4, 5] [] ?_
      refine st_ ?_
      refine ih (l.length - (i + 1)) _ (by omega) ⟨i + 1, G1, by omega, rfl, hle1, fun v hv => ?_, rfl⟩
      rw [← List.take_append_getElem hlt] at hv
      rcases List.mem_append.1 hv with hv | hv
      · exact hall v hv
      · simp only [List.mem_cons, List.not_mem_nil, or_false] at hv
        subst hv
        rw [cnt_eq _ 0 (by omega)] at h2
        simp at h2
        omega
  have hie : i = l.length := by simp at hil; omega
  subst hie
  rw [List.take_length] at hall
  refine rn_ ?_; intros
  refine x_retc rfl hQ hmb rfl (by rw [hty]; simp only [so, sq, zy, zz, tyE, SO', SQ', opQ, opStore, opAlloc, ev, putS, dOk, cv, SV.cs, SV.one, SV.bool?, eqB, Value.oneCell', ldOwn, binInt, binConst, binBool, binStr, isC, TK.agg, rv, rv1, ldV, resOne, resV, Nat.reduceAdd, Nat.reduceMul, Nat.reduceSub, Nat.reduceLT, Nat.reduceLeDiff, Nat.reduceEqDiff, Nat.reduceBEq, reduceIte, reduceCtorEq, eq_self]; try rfl) rfl ?_; simp only [SV.den, resV, dens]
  exact ⟨true, rfl, fun _ => ⟨h12, hall⟩⟩
end Go.Proofs.Ytpppkednpamhbaa.R
namespace Go.Proofs.Ytpppkednpamhbaa.R
set_option linter.unusedSimpArgs false
set_option linter.unusedVariables false
open Go.Sx
set_option maxHeartbeats 16000000
set_option maxRecDepth 20000
theorem bd_of {p : Pr} (hp : rgtP p = true) (h : p.length ≤ 12 ∧ ∀ f ∈ p, f.nodes.length ≤ 40) : bdP p := by
  refine ⟨by omega, fun f hf => ⟨by have := h.2 f hf; omega, fun x hx => ?_⟩⟩
  have hb := badF_ok (yrgt hp).2.1 f hf
  simp only [whr] at hb
  cases hq : places f with
  | inl a => rw [hq] at hb; simp at hb
  | inr A =>
    obtain ⟨j, hj, rfl⟩ := List.getElem_of_mem hx
    have := ((tree hq).ok j hj).2.1
    rw [nd_eq hj] at this
    have := (ben_len this).2.2.2.2.2.2.1
    omega
theorem big_ok {p : Pr} (hp : rgtP p = true) {f : Int} {args : List VT} {nd : Nd} {o : Int × List Fm} {nr : Nat} {o2 : Fb} (hVX : VX p ⟨f, 0, args, []⟩ nd) (hd : downF p 600 [⟨f, 0, args, []⟩] = some o) (hrun : runP p 2000 ⟨o.1, vt0, o.2⟩ = some (nr, o2)) :
    (evE p 601 600 f 0 args 0 = .wrong → o2 = ⟨4, vt0, []⟩) ∧ (∀ y l, evE p 601 600 f 0 args 0 = .val y l → vld y = true ∧ o2 = ⟨3, y, []⟩) := by
  obtain ⟨e1, e2⟩ := ev_ok hp vt0 601 600 f 0 args [] nd hVX trivial
  refine ⟨fun h => ?_, fun y l h => ?_⟩
  · obtain ⟨k, s1, g1, g2, g3⟩ := e2 h
    have hs := g2.det ⟨o, hd, rfl⟩
    subst hs
    have := g3.run (q := 2000 - k) (by decide)
    rw [show k + (2000 - k) = 2000 by omega, hrun] at this
    cases this
    rfl
  · obtain ⟨hv, k, s1, _, g1, g2, g3⟩ := e1 y l h
    have hs := g2.det ⟨o, hd, rfl⟩
    subst hs
    have := (g3 ⟨3, y, []⟩ rfl).run (q := 2000 - k) (by simp)
    rw [show k + (2000 - k) = 2000 by omega, hrun] at this
    cases this
    exact ⟨hv, rfl⟩
mutual
theorem vq_refl : ∀ (x : VT), veq x x = true
  | .mk k n l => by simp [veq, vqL_refl l]
theorem vqL_refl : ∀ (l : List VT), veqL l l = true
  | [] => by simp [veqL]
  | x :: l => by simp [veqL, vq_refl x, vqL_refl l]
end
theorem holds_ok (p : Pr) (ps : Value) (f : Int) (args : List VT) (sl : Value) (G : Hp) (hps : rF.S G p ps) (hf64 : isI64 f) (ha : repS G args sl) (hb : ∀ v ∈ args, tsz v ≤ 2000000) :
    Pure Try.prog 4 [.agg #[ps], .int .i64 f, sl] G (fun v _ => v = .bool true) := by
  have h63 := Rp.S_len hps
  obtain ⟨adp, cp, rfl⟩ := Rp.S_slice hps
  obtain ⟨ha63, ad, cap, rfl, haS⟩ := ha
  refine enterX ty tyok Try.func4 rfl Try.ntmps4 [.a [.v (.slice adp p.length cp)], .v (.int .i64 f), .v (.slice ad args.length cap)] (by simp) ?_
  intro C hP hQ hnt hty hmb hmh hro; have hQp := qp_body hQ; refine st_ ?_
  refine rn_ ?_; intros
  rename_i b3
  refine go_call (by rw [hnt]; rfl) (by rw [hP]; kernel_rfl) rfl (hP ▸ small_ok10 p _ G hps) ?_
  rintro _ G1 (hle1 : Le G G1) ⟨bs, rfl, hbs⟩
  cases bs with
  | false =>
    refine rn_ ?_; intros
    (refine go_gsplit rfl rfl (fun _ => ?_) (fun hc => absurd hc (by first | decide +kernel | (simp; first | done | fail))); refine st_ ?_; (refine rn_ ?_; intros))
    refine rn_ ?_; intros
    refine go_callf (by rw [hnt]; rfl) (by rw [hP]; kernel_rfl) rfl (hP ▸ works10_ok _) ?_; refine rn_ ?_; intros
    refine x_retc rfl hQ hmb rfl (by rw [hty]; simp only [so, sq, zy, zz, tyE, SO', SQ', opQ, opStore, opAlloc, ev, putS, dOk, cv, SV.cs, SV.one, SV.bool?, eqB, Value.oneCell', ldOwn, binInt, binConst, binBool, binStr, isC, TK.agg, rv, rv1, ldV, resOne, resV, Nat.reduceAdd, Nat.reduceMul, Nat.reduceSub, Nat.reduceLT, Nat.reduceLeDiff, Nat.reduceEqDiff, Nat.reduceBEq, reduceIte, reduceCtorEq, eq_self]; try rfl) rfl ?_; simp only [SV.den, resV, dens]
  | true =>
  have hsm := hbs rfl
  refine rn_ ?_; intros
  (refine go_gsplit rfl rfl (fun hc => absurd hc (by first | decide +kernel | (simp; first | done | fail))) (fun _ => ?_); refine st_ ?_; (refine rn_ ?_; intros))
  refine go_call (by rw [hnt]; rfl) (by rw [hP]; kernel_rfl) rfl (hP ▸ short_ok args _ 9 G1 ⟨ha63, ad, cap, rfl, haS.elim .inl fun ⟨b, off, cs, q1, q2, q3⟩ => .inr ⟨b, off, cs, q1, q2.mono hle1, repV_mono hle1 q3⟩⟩ hb) ?_
  rintro _ G2 (hle2 : Le G1 G2) ⟨bt, rfl, hbt⟩
  have hle12 := hle1.trans hle2
  cases bt with
  | false =>
    refine rn_ ?_; intros
    (refine go_gsplit rfl rfl (fun _ => ?_) (fun hc => absurd hc (by first | decide +kernel | (simp; first | done | fail))); refine st_ ?_; (refine rn_ ?_; intros))
    refine rn_ ?_; intros
    refine go_callf (by rw [hnt]; rfl) (by rw [hP]; kernel_rfl) rfl (hP ▸ works10_ok _) ?_; refine rn_ ?_; intros
    refine x_retc rfl hQ hmb rfl (by rw [hty]; simp only [so, sq, zy, zz, tyE, SO', SQ', opQ, opStore, opAlloc, ev, putS, dOk, cv, SV.cs, SV.one, SV.bool?, eqB, Value.oneCell', ldOwn, binInt, binConst, binBool, binStr, isC, TK.agg, rv, rv1, ldV, resOne, resV, Nat.reduceAdd, Nat.reduceMul, Nat.reduceSub, Nat.reduceLT, Nat.reduceLeDiff, Nat.reduceEqDiff, Nat.reduceBEq, reduceIte, reduceCtorEq, eq_self]; try rfl) rfl ?_; simp only [SV.den, resV, dens]
  | true =>
  obtain ⟨hal, has⟩ := hbt rfl
  refine rn_ ?_; intros
  (refine go_gsplit rfl rfl (fun hc => absurd hc (by first | decide +kernel | (simp; first | done | fail))) (fun _ => ?_); refine st_ ?_; (refine rn_ ?_; intros))
  refine go_callf (by rw [hnt]; rfl) (by rw [hP]; kernel_rfl) rfl (hP ▸ rrightp_ok p _ G2 (Rp.S_mono hle12 hps)) ?_; refine rn_ ?_; intros
  refine go_gsplit rfl rfl (fun h3 => ?_) (fun h3 => ?_) <;> (refine st_ ?_; (refine rn_ ?_; intros))
  · refine rn_ ?_; intros
    refine go_callf (by rw [hnt]; rfl) (by rw [hP]; kernel_rfl) rfl (hP ▸ works10_ok _) ?_; refine rn_ ?_; intros
    refine x_retc rfl hQ hmb rfl (by rw [hty]; simp only [so, sq, zy, zz, tyE, SO', SQ', opQ, opStore, opAlloc, ev, putS, dOk, cv, SV.cs, SV.one, SV.bool?, eqB, Value.oneCell', ldOwn, binInt, binConst, binBool, binStr, isC, TK.agg, rv, rv1, ldV, resOne, resV, Nat.reduceAdd, Nat.reduceMul, Nat.reduceSub, Nat.reduceLT, Nat.reduceLeDiff, Nat.reduceEqDiff, Nat.reduceBEq, reduceIte, reduceCtorEq, eq_self]; try rfl) rfl ?_; simp only [SV.den, resV, dens]
  have hp : rgtP p = true := by simpa using h3
  refine go_gsplit rfl rfl (fun h4 => ?_) (fun h4 => ?_) <;> (refine st_ ?_; (refine rn_ ?_; intros))
  · refine rn_ ?_; intros
    refine go_callf (by rw [hnt]; rfl) (by rw [hP]; kernel_rfl) rfl (hP ▸ works10_ok _) ?_; refine rn_ ?_; intros
    refine x_retc rfl hQ hmb rfl (by rw [hty]; simp only [so, sq, zy, zz, tyE, SO', SQ', opQ, opStore, opAlloc, ev, putS, dOk, cv, SV.cs, SV.one, SV.bool?, eqB, Value.oneCell', ldOwn, binInt, binConst, binBool, binStr, isC, TK.agg, rv, rv1, ldV, resOne, resV, Nat.reduceAdd, Nat.reduceMul, Nat.reduceSub, Nat.reduceLT, Nat.reduceLeDiff, Nat.reduceEqDiff, Nat.reduceBEq, reduceIte, reduceCtorEq, eq_self]; try rfl) rfl ?_; simp only [SV.den, resV, dens]
  refine go_gsplit rfl rfl (fun h5 => ?_) (fun h5 => ?_) <;> (refine st_ ?_; (refine rn_ ?_; intros))
  · refine rn_ ?_; intros
    refine go_callf (by rw [hnt]; rfl) (by rw [hP]; kernel_rfl) rfl (hP ▸ works10_ok _) ?_; refine rn_ ?_; intros
    refine x_retc rfl hQ hmb rfl (by rw [hty]; simp only [so, sq, zy, zz, tyE, SO', SQ', opQ, opStore, opAlloc, ev, putS, dOk, cv, SV.cs, SV.one, SV.bool?, eqB, Value.oneCell', ldOwn, binInt, binConst, binBool, binStr, isC, TK.agg, rv, rv1, ldV, resOne, resV, Nat.reduceAdd, Nat.reduceMul, Nat.reduceSub, Nat.reduceLT, Nat.reduceLeDiff, Nat.reduceEqDiff, Nat.reduceBEq, reduceIte, reduceCtorEq, eq_self]; try rfl) rfl ?_; simp only [SV.den, resV, dens]
  have hf0 : 0 ≤ f := by simpa using h4
  have hf1 : f < p.length := by simp at h5; omega
  have hps2 := Rp.S_mono hle12 hps
  obtain ⟨bF, oF, ns, rfl, hat, hp64, _⟩ := rF_at hps2 (i := f.toNat) (by omega)
  have hat0 : At G2 bF (oF + f.toNat * 2) [.int .i64 (fu p f.toNat).params] := by simpa using hat.sub 0 1 (by simp)
  refine go_q (v := .pointer (some ⟨bF, oF + f.toNat * 2, none⟩)) (by rw [hnt]; rfl) ((quiet_index (by rw [hty]; rfl) (by rw [hty]; rfl) rfl rfl rfl (by omega) (by omega)).cast (by rfl)) ?_
  refine rn_ ?_; intros
  refine go_q (by rw [hnt]; rfl) (quiet_load (by rw [hty]; rfl) rfl (by simp [TK.agg]) hat0 rfl) ?_; refine rn_ ?_; intros
  refine x_split rfl rfl rfl (fun h6 => ?_) (fun h6 => ?_) <;> (refine st_ ?_; (refine ru_ ?_; intros))
  · refine rn_ ?_; intros
    refine go_callf (by rw [hnt]; rfl) (by rw [hP]; kernel_rfl) rfl (hP ▸ works10_ok _) ?_; refine rn_ ?_; intros
    refine x_retc rfl hQ hmb rfl (by rw [hty]; simp only [so, sq, zy, zz, tyE, SO', SQ', opQ, opStore, opAlloc, ev, putS, dOk, cv, SV.cs, SV.one, SV.bool?, eqB, Value.oneCell', ldOwn, binInt, binConst, binBool, binStr, isC, TK.agg, rv, rv1, ldV, resOne, resV, Nat.reduceAdd, Nat.reduceMul, Nat.reduceSub, Nat.reduceLT, Nat.reduceLeDiff, Nat.reduceEqDiff, Nat.reduceBEq, reduceIte, reduceCtorEq, eq_self]; try rfl) rfl ?_; simp only [SV.den, resV, dens]
  have hn : (args.length : Int) = (fu p f.toNat).params := by simpa using h6
  refine rn_ ?_; intros
  have hS0 : rW.S G args (.slice ad args.length cap) := rW_ofS ⟨ha63, ad, cap, rfl, haS⟩ fun v hv => by have := has v hv; omega
  refine go_keep [0, 1, 2, 3, 6, 7] [0] ?_
  refine st_ ?_
  refine x_loop rfl (fun q s => ∃ (i : Nat) (G3 : Hp), i ≤ args.length ∧ q = args.length - i ∧ Le G2 G3 ∧ (∀ v ∈ args.take i, vld v = true) ∧
    s = ⟨[(0, .a [.v (.slice (some ⟨bF, oF, none⟩) p.length cp)]), (1, .v (.int .i64 f)), (2, .v (.slice ad args.length cap)), (3, .p 0 b3 0), (6, .b false), (7, .v (.int .i64 i))], [(0, b3, .c 36 [.v (.slice (some ⟨bF, oF, none⟩) p.length cp)])], G3, []⟩) ⟨0, G2, by omega, rfl, Le.refl _, by simp, rfl⟩ ?_
  rintro q s ⟨i, G3, hi, hq, hle3, hall, rfl⟩ ih
  have hle13 := hle12.trans hle3
  refine rn_ ?_; intros
  refine x_if rfl rfl rfl rfl (fun hil => ?_) (fun hil => ?_)
  · have hlt : i < args.length := by simp at hil; omega
    obtain ⟨bV, oV, sv, rfl, hatV, hrV, htV⟩ := rW_at (Rp.S_mono hle13 hS0) hlt
    obtain ⟨a9, c9, rfl⟩ := VT.rep_slice hrV
    refine rn_ ?_; intros
    refine go_q (v := .pointer (some ⟨bV, oV + i * 3, none⟩)) (by rw [hnt]; rfl) ((quiet_index (by rw [hty]; rfl) (by rw [hty]; rfl) rfl rfl rfl (by omega) (by omega)).cast (by simp)) ?_
    refine rn_ ?_; intros
    refine go_q (v := .agg #[.int .i64 args[i].k, .int .i64 args[i].n, .slice a9 args[i].l.length c9]) (by rw [hnt]; rfl) ((quiet_load (by rw [hty]; rfl) rfl (by simp [TK.agg]) hatV rfl).cast (by rfl)) ?_
    refine rn_ ?_; intros
    refine go_callf (by rw [hnt]; rfl) (by rw [hP]; kernel_rfl) rfl (hP ▸ refright_ok args[i] _ G3 hrV (by omega)) ?_; refine rn_ ?_; intros
    refine x_split rfl rfl rfl (fun h2 => ?_) (fun h2 => ?_) <;> (refine st_ ?_; (refine ru_ ?_; intros))
    · refine rn_ ?_; intros
      refine go_callf (by rw [hnt]; rfl) (by rw [hP]; kernel_rfl) rfl (hP ▸ works10_ok _) ?_; refine rn_ ?_; intros
      refine x_retc rfl hQ hmb rfl (by rw [hty]; simp only [so, sq, zy, zz, tyE, SO', SQ', opQ, opStore, opAlloc, ev, putS, dOk, cv, SV.cs, SV.one, SV.bool?, eqB, Value.oneCell', ldOwn, binInt, binConst, binBool, binStr, isC, TK.agg, rv, rv1, ldV, resOne, resV, Nat.reduceAdd, Nat.reduceMul, Nat.reduceSub, Nat.reduceLT, Nat.reduceLeDiff, Nat.reduceEqDiff, Nat.reduceBEq, reduceIte, reduceCtorEq, eq_self]; try rfl) rfl ?_; simp only [SV.den, resV, dens]
    · refine rn_ ?_; intros
      rw [wr (n := (i : Int) + 1) (by omega) (by omega)]
      refine go_keep [0, 1, 2, 3, 6, 7] [0] ?_
      refine st_ ?_
      refine ih (args.length - (i + 1)) _ (by omega) ⟨i + 1, G3, by omega, rfl, hle3, fun v hv => ?_, rfl⟩
      rw [← List.take_append_getElem hlt] at hv
      rcases List.mem_append.1 hv with hv | hv
      · exact hall v hv
      · simp only [List.mem_cons, List.not_mem_nil, or_false] at hv
        subst hv
        simpa using h2
  have hie : i = args.length := by simp at hil; omega
  subst hie
  rw [List.take_length] at hall
  obtain ⟨nd, hroot⟩ := PosOk.root hp hf0 hf1
  have hVX : VX p ⟨f, 0, args, []⟩ nd := ⟨by
    have : (fu p f.toNat).params.toNat = args.length := by omega
    rw [this] at hroot
    exact hroot, by simp, hall, by simp⟩
  obtain ⟨o, hd, hVO⟩ := down_ok 600 ⟨f, 0, args, []⟩ [] nd hVX trivial (by simp) (by omega)
  refine rn_ ?_; intros
  refine go_call (by rw [hnt]; rfl) (by rw [hP]; kernel_rfl) rfl (hP ▸ load_ok p _ G3 (Rp.S_mono hle13 hps) (bd_of hp hsm) (by simpa [rgtP] using hp)) ?_
  rintro _ G4 (hle4 : Le G3 G4) ⟨cb, ps4, rfl, hc, hp4⟩
  refine rn_ ?_; intros
  refine go_nilrow 20 43 3 rfl (by omega) ?_
  refine go_nilrow 21 43 3 rfl (by omega) ?_
  refine go_nilrow 22 43 3 rfl (by omega) ?_
  refine go_nilrow 23 43 3 rfl (by omega) ?_
  refine st_ ?_
  have hle14 := hle13.trans hle4
  refine go_callT [20, 21, 22, 23] (by rw [hnt]; rfl) (by rw [hP]; kernel_rfl) rfl rfl rfl (by rw [hmh]; simp) (by rw [hP]; exact begin_ok p ps4 cb f args _ o G4 hc hp4 hf0 hf1 (by omega) hn (by omega) (Rp.S_mono hle14 hS0) hall hd) ?_
  rintro _ G5 ow5 (hle5 : Le G4 G5) ⟨bf, rfl, vlf, fsf, f1, f2, f3, rsf, Zf, v1, v2, v3, v4, v5, rfl⟩
  simp only [setO, fhO, frO, fzO, fdO]
  refine st_ ?_
  refine rn_ ?_; intros
  have hVF : VF p ⟨o.1, vt0, o.2⟩ := ⟨.inl hVO, fun q => by
    rcases hVO with rfl | ⟨x', r', nd', _, h5, _⟩
    · cases q
    · have := h5.2.2.2.2
      simp only [] at q
      omega⟩
  obtain ⟨nr, o2, hrun, hVF2, hnr⟩ := run_tot hp 2000 hVF
  refine go_callT [20, 21, 22, 23] (by rw [hnt]; rfl) (by rw [hP]; kernel_rfl) rfl rfl rfl (by rw [hmh]; simp) (by rw [hP]; exact run_ok bf cb p ps4 ⟨o.1, vt0, o.2⟩ o2 2000 nr _ G5 (by omega) (by omega) (hc.mono hle5) (Rp.S_mono hle5 hp4) ⟨vlf, fsf, f1, f2, f3, rsf, Zf, v1, v2, v3, v4, v5, rfl⟩ hrun) ?_
  clear v1 v2 v3 v4 v5
  rintro _ G6 ow6 (hle6 : Le G5 G6) ⟨rfl, vlg, fsg, g1, g2, g3, rsg, Zg, v1, v2, v3, v4, v5, rfl⟩
  simp only [setO, fhO, frO, fzO, fdO]
  refine st_ ?_
  refine rn_ ?_; intros
  refine go_callf (by rw [hnt]; rfl) (by rw [hP]; kernel_rfl) rfl (hP ▸ numL_ok 0 _) ?_; refine rn_ ?_; intros
  refine go_callf (by rw [hnt]; rfl) (by rw [hP]; kernel_rfl) rfl (hP ▸ numL_ok 0 _) ?_; refine rn_ ?_; intros
  refine go_callf (by rw [hnt]; rfl) (by rw [hP]; kernel_rfl) rfl (hP ▸ numL_ok 0 _) ?_; refine rn_ ?_; intros
  (refine go_gsplit rfl rfl (fun hc => absurd hc (by first | decide +kernel | (simp; first | done | fail))) (fun _ => ?_); refine st_ ?_; (refine rn_ ?_; intros))
  (refine go_gsplit rfl rfl (fun hc => absurd hc (by simp <;> omega)) (fun _ => ?_); refine st_ ?_; (refine rn_ ?_; intros))
  refine x_split rfl rfl rfl (fun h20 => ?_) (fun h20 => ?_) <;> (refine st_ ?_; (refine ru_ ?_; intros))
  · exact absurd h20 (by simp; omega)
  refine rn_ ?_; intros
  rename_i b24
  refine go_keep [1, 2, 3, 6, 10, 14, 106, 107, 108] [20, 21, 22, 23, 24] ?_
  refine st_ ?_
  refine go_see 24 [.v (.slice (some ⟨bF, oF, none⟩) p.length cp), .v (.int .i64 600), .v (.bool false), .v (.bool false)] rfl rfl ?_
  refine st_ ?_
  have hle16 := (hle14.trans hle5).trans hle6
  obtain ⟨k1, k2⟩ := big_ok hp hVX hd hrun
  refine go_callW [24] (by rw [hnt]; rfl) (by rw [hP]; kernel_rfl) rfl rfl rfl (.inl (by rw [hmh]; simp)) (by rw [hP]; exact eval_ok hp (.slice (some ⟨bF, oF, none⟩) p.length cp) b24 false 601 600 f 0 args _ 0 nd G6 (by omega) (by omega) (by omega) (Rp.S_mono hle16 hps) hVX.1 hall (Rp.S_mono hle16 hS0)) ?_
  rintro v7 G7 ow7 (hle7 : Le G6 G7) hpost
  cases hE : evE p 601 600 f 0 args 0 with
  | out =>
    rw [hE] at hpost
    obtain ⟨k9, n9, sl9, left9, rfl, ⟨a9, m9, c9, rfl⟩, rfl⟩ := hpost
    simp only [setO, bigO]
    refine st_ ?_
    refine rn_ ?_; intros
    (refine x_split rfl rfl rfl (fun _ => ?_) (fun hc => absurd hc (by first | decide +kernel | (simp; first | done | fail))); refine st_ ?_; (refine ru_ ?_; intros))
    refine rn_ ?_; intros
    refine go_callf (by rw [hnt]; rfl) (by rw [hP]; kernel_rfl) rfl (hP ▸ works10_ok _) ?_; refine rn_ ?_; intros
    refine x_retc rfl hQ hmb rfl (by rw [hty]; simp only [so, sq, zy, zz, tyE, SO', SQ', opQ, opStore, opAlloc, ev, putS, dOk, cv, SV.cs, SV.one, SV.bool?, eqB, Value.oneCell', ldOwn, binInt, binConst, binBool, binStr, isC, TK.agg, rv, rv1, ldV, resOne, resV, Nat.reduceAdd, Nat.reduceMul, Nat.reduceSub, Nat.reduceLT, Nat.reduceLeDiff, Nat.reduceEqDiff, Nat.reduceBEq, reduceIte, reduceCtorEq, eq_self]; try rfl) rfl ?_; simp only [SV.den, resV, dens]
  | wrong =>
    rw [hE] at hpost
    have ho2 := k1 hE
    subst ho2
    obtain ⟨k9, n9, sl9, left9, rfl, ⟨a9, m9, c9, rfl⟩, rfl⟩ := hpost
    simp only [setO, bigO]
    refine st_ ?_
    refine rn_ ?_; intros
    (refine x_split rfl rfl rfl (fun hc => absurd hc (by first | decide +kernel | (simp; first | done | fail))) (fun _ => ?_); refine st_ ?_; (refine ru_ ?_; intros))
    refine rn_ ?_; intros
    refine go_callW [20] (by rw [hnt]; rfl) (by rw [hP]; kernel_rfl) rfl rfl rfl (.inl (by rw [hmh]; simp)) (by rw [hP]; exact value_ok bf cb 4 vt0 vlg fsg G7 (VT.rep_mono hle7 v1) v2 rfl) ?_
    rintro _ G8 ow8 (hle8 : Le G7 G8) ⟨rfl, ⟨_, rfl⟩ | ⟨q, _⟩⟩
    rotate_left
    · cases q
    simp only [setO, fhO, frO, fzO, fdO]
    refine st_ ?_
    refine rn_ ?_; intros
    (refine x_split rfl rfl rfl (fun _ => ?_) (fun hc => absurd hc (by first | decide +kernel | (simp; first | done | fail))); refine st_ ?_; (refine ru_ ?_; intros))
    refine rn_ ?_; intros
    refine go_callW [20] (by rw [hnt]; rfl) (by rw [hP]; kernel_rfl) rfl rfl rfl (.inl (by rw [hmh]; simp)) (by rw [hP]; exact state_ok bf cb 4 vt0.k vt0.n vlg fsg G8) ?_
    rintro _ G9 ow9 (hle9 : Le G8 G9) ⟨rfl, rfl⟩
    simp only [setO, fhO, frO, fzO, fdO]
    refine st_ ?_
    refine rn_ ?_; intros
    (refine go_gsplit rfl rfl (fun _ => ?_) (fun hc => absurd hc (by first | decide +kernel | (simp; first | done | fail))); refine st_ ?_; (refine rn_ ?_; intros))
    (refine go_gsplit rfl rfl (fun _ => ?_) (fun hc => absurd hc (by first | decide +kernel | (simp; first | done | fail))); refine st_ ?_; (refine rn_ ?_; intros))
    refine go_callf (by rw [hnt]; rfl) (by rw [hP]; kernel_rfl) rfl (hP ▸ works10_ok _) ?_; refine rn_ ?_; intros
    refine x_retc rfl hQ hmb rfl (by rw [hty]; simp only [so, sq, zy, zz, tyE, SO', SQ', opQ, opStore, opAlloc, ev, putS, dOk, cv, SV.cs, SV.one, SV.bool?, eqB, Value.oneCell', ldOwn, binInt, binConst, binBool, binStr, isC, TK.agg, rv, rv1, ldV, resOne, resV, Nat.reduceAdd, Nat.reduceMul, Nat.reduceSub, Nat.reduceLT, Nat.reduceLeDiff, Nat.reduceEqDiff, Nat.reduceBEq, reduceIte, reduceCtorEq, eq_self]; try rfl) rfl ?_; simp only [SV.den, resV, dens]
  | val y left9 =>
    rw [hE] at hpost
    obtain ⟨hvy, ho2⟩ := k2 y left9 hE
    subst ho2
    obtain ⟨sl9, rfl, hr9, _, _, rfl⟩ := hpost
    obtain ⟨a9, c9, rfl⟩ := VT.rep_slice hr9
    have hsy : sml y = true := by simp only [vld, Bool.and_eq_true] at hvy; exact hvy.1
    have hty9 := xvld_sz hvy
    simp only [setO, bigO]
    refine st_ ?_
    refine rn_ ?_; intros
    (refine x_split rfl rfl rfl (fun hc => absurd hc (by first | decide +kernel | (simp; first | done | fail))) (fun _ => ?_); refine st_ ?_; (refine ru_ ?_; intros))
    refine rn_ ?_; intros
    refine go_callW [20] (by rw [hnt]; rfl) (by rw [hP]; kernel_rfl) rfl rfl rfl (.inl (by rw [hmh]; simp)) (by rw [hP]; exact value_ok bf cb 3 y vlg fsg G7 (VT.rep_mono hle7 v1) v2 hsy) ?_
    rintro _ G8 ow8 (hle8 : Le G7 G8) ⟨rfl, ⟨q, _⟩ | ⟨_, slx, rfl, hrx⟩⟩
    · exact absurd rfl q
    obtain ⟨ax, cx, rfl⟩ := VT.rep_slice hrx
    simp only [setO, fhO, frO, fzO, fdO]
    refine st_ ?_
    refine rn_ ?_; intros
    (refine x_split rfl rfl rfl (fun hc => absurd hc (by first | decide +kernel | (simp; first | done | fail))) (fun _ => ?_); refine st_ ?_; (refine ru_ ?_; intros))
    refine rn_ ?_; intros
    refine go_callW [20] (by rw [hnt]; rfl) (by rw [hP]; kernel_rfl) rfl rfl rfl (.inl (by rw [hmh]; simp)) (by rw [hP]; exact state_ok bf cb 3 y.k y.n vlg fsg G8) ?_
    rintro _ G9 ow9 (hle9 : Le G8 G9) ⟨rfl, rfl⟩
    simp only [setO, fhO, frO, fzO, fdO]
    refine st_ ?_
    refine rn_ ?_; intros
    (refine go_gsplit rfl rfl (fun _ => ?_) (fun hc => absurd hc (by first | decide +kernel | (simp; first | done | fail))); refine st_ ?_; (refine rn_ ?_; intros))
    (refine go_gsplit rfl rfl (fun _ => ?_) (fun hc => absurd hc (by first | decide +kernel | (simp; first | done | fail))); refine st_ ?_; (refine rn_ ?_; intros))
    have hsame : Pure Try.prog 20 [.agg #[.int .i64 y.k, .int .i64 y.n, .slice ax y.l.length cx], .agg #[.int .i64 y.k, .int .i64 y.n, .slice a9 y.l.length c9]] G9 (fun r _ => r = .bool true) :=
      (refSame_ok y y _ _ G9 (VT.rep_mono hle9 hrx) (VT.rep_mono (hle8.trans hle9) hr9) (by omega) (by omega)).val (by rw [hsy, vq_refl]; rfl)
    refine go_callf (by rw [hnt]; rfl) (by rw [hP]; kernel_rfl) rfl (hP ▸ hsame) ?_; refine rn_ ?_; intros
    (refine go_gsplit rfl rfl (fun _ => ?_) (fun hc => absurd hc (by first | decide +kernel | (simp; first | done | fail))); refine st_ ?_; (refine rn_ ?_; intros))
    refine go_callf (by rw [hnt]; rfl) (by rw [hP]; kernel_rfl) rfl (hP ▸ works10_ok _) ?_; refine rn_ ?_; intros
    refine x_retc rfl hQ hmb rfl (by rw [hty]; simp only [so, sq, zy, zz, tyE, SO', SQ', opQ, opStore, opAlloc, ev, putS, dOk, cv, SV.cs, SV.one, SV.bool?, eqB, Value.oneCell', ldOwn, binInt, binConst, binBool, binStr, isC, TK.agg, rv, rv1, ldV, resOne, resV, Nat.reduceAdd, Nat.reduceMul, Nat.reduceSub, Nat.reduceLT, Nat.reduceLeDiff, Nat.reduceEqDiff, Nat.reduceBEq, reduceIte, reduceCtorEq, eq_self]; try rfl) rfl ?_; simp only [SV.den, resV, dens]
end Go.Proofs.Ytpppkednpamhbaa.R
namespace Go.Sx
set_option linter.unusedSimpArgs false
set_option linter.unusedVariables false
open Go.RowKit

def hp (w : World) : Hp := fun b => w.heap[b]?
theorem has_hp (w : World) : Has w (hp w) := fun _ _ h => h
theorem at_of_cells {w : World} {b off : Nat} {cs : List Value} (h0 : 0 < cs.length) (h : ∀ i, i < cs.length → w.cell? ⟨b, off + i, none⟩ = cs[i]?) : At (hp w) b off cs := by
  have h1 := h 0 h0
  rw [List.getElem?_eq_getElem h0] at h1
  unfold World.cell? at h1 h
  cases hb : w.heap[b]? with
  | none => simp [hb] at h1
  | some o =>
    cases o with
    | cells arr e fz =>
      simp only [hb, Option.isSome_none, Bool.false_eq_true, if_false] at h
      refine ⟨arr, e, fz, hb, ?_, fun i hi => h i hi⟩
      have := h (cs.length - 1) (by omega)
      rw [List.getElem?_eq_getElem (show cs.length - 1 < cs.length by omega)] at this
      obtain ⟨hlt, _⟩ := Array.getElem?_eq_some_iff.1 this
      omega
    | _ => simp [hb] at h1
theorem wf_i64 {n : Int} (h : (Lit.int .i64 n).wf = true) : isI64 n := by
  simpa [Lit.wf, IntKind.min, IntKind.max, IntKind.signed, IntKind.bits, isI64] using h
theorem gatherL {α : Type} {r : Rp α} {w : World} {b : Nat} : ∀ (n off : Nat),
    (∀ i, i < n → ∃ x cs', r.e (hp w) x cs' ∧ ∀ j, j < r.size → w.cell? ⟨b, off + i * r.size + j, none⟩ = cs'[j]?) →
    ∃ (l : List α) (cs : List Value), l.length = n ∧ r.L (hp w) l cs ∧ ∀ i, i < cs.length → w.cell? ⟨b, off + i, none⟩ = cs[i]?
  | 0, off, _ => ⟨[], [], rfl, rfl, by simp⟩
  | n + 1, off, h => by
    obtain ⟨x, c0, hx, h0⟩ := h 0 (by omega)
    obtain ⟨l, cs, hl, hL, hcs⟩ := gatherL (r := r) (w := w) (b := b) n (off + r.size) (fun i hi => by
      obtain ⟨x, c, hx, hc⟩ := h (i + 1) (by omega)
      refine ⟨x, c, hx, fun j hj => ?_⟩
      rw [← hc j hj]
      congr 2
      rw [Nat.succ_mul]; omega)
    have hlen := r.len hx
    refine ⟨x :: l, c0 ++ cs, by simp [hl], ⟨c0, cs, rfl, hx, hL⟩, fun i hi => ?_⟩
    rcases Nat.lt_or_ge i r.size with q | q
    · rw [List.getElem?_append_left (by omega)]
      have := h0 i q
      simpa using this
    · rw [List.getElem?_append_right (by omega), ← hcs (i - c0.length) (by simp at hi; omega)]
      congr 2; omega
section
variable {H : Type} {enc : TypeId × Value → H} {P : Program} {w : World}
theorem add_eq (b off j : Nat) : (Addr.mk b off none).add j = ⟨b, off + j, none⟩ := by
  unfold Addr.add
  split
  · subst_vars; rfl
  · rfl
theorem open_list {α : Type} (r : Rp α) {t e : TypeId} (ht : P.underlying t = some (.slice e)) (hsz : P.cellsOf e = r.size) (hpos : 0 < r.size)
    (hel : ∀ n d ps cs, DataW.trod enc P w 0 (fun _ => true) true n e cs = some (d, ps) → cs.length = r.size → ∃ x, r.e (hp w) x cs)
    {n : Nat} {d : DataW H} {ps : List MemPlace} {cs : List Value} (h : DataW.trod enc P w 0 (fun _ => true) true n t cs = some (d, ps)) : ∃ (sl : Value) (l : List α), cs = [sl] ∧ r.S (hp w) l sl := by
  have hs := Deep.open_slice ht h
  rcases hs with ⟨hc, hy⟩ | ⟨a, len, cap, mm, n', D, Pl, hc, _, hle, hcap, hmm, hy, hel2⟩
  · exact ⟨_, [], hc, Rp.S_nil _ _⟩
  · simp only [if_true] at hmm
    subst hmm
    have hml : len ≤ 9223372036854775807 := Nat.le_trans (Nat.le_trans hle hcap) (by decide)
    by_cases hz : len = 0
    · subst hz
      exact ⟨_, [], hc, Rp.S_nil _ _⟩
    · obtain ⟨b, off, spot⟩ := a
      rw [hsz] at hel2
      have hspot : spot = none := by
        obtain ⟨cs', q1, _⟩ := hel2 0 (by omega)
        obtain ⟨_, q2, q3⟩ := World.cells?_some q1
        have q4 := q3 0 (by omega)
        rw [List.getElem?_eq_getElem (by omega)] at q4
        simpa [Addr.add] using World.cell?_spot q4
      subst hspot
      obtain ⟨l, cs2, hl, hL, hcs⟩ := gatherL (r := r) (w := w) (b := b) len off (fun i hi => by
        obtain ⟨cs', q1, q2⟩ := hel2 i (by omega)
        obtain ⟨_, q3, q4⟩ := World.cells?_some q1
        obtain ⟨x, hx⟩ := hel _ _ _ _ q2 (by omega)
        refine ⟨x, cs', hx, fun j hj => ?_⟩
        have := q4 j (by omega)
        rw [Deep.add_add, add_eq] at this
        rw [← this, Nat.add_assoc])
      have hlen := Rp.L_len hL
      have hcl : 0 < cs2.length := by rw [hlen, hl]; exact Nat.mul_pos (by omega) hpos
      exact ⟨_, l, hc, by rw [hl]; exact hml, _, _, by rw [hl], .inr ⟨_, _, _, rfl, at_of_cells hcl hcs, hL⟩⟩
theorem trod_struct2 {t : TypeId} {f0 f1 : Field} {fuel : Nat} {cs : List Value} {x : DataW H × List MemPlace} {base : Nat} {spare : Nat → Bool} {held : Bool} (ht : P.underlying t = some (.struct #[f0, f1])) (h : DataW.trod enc P w base spare held fuel t cs = some x) :
    ∃ y0 y1 n, x = (.agg [y0.1, y1.1], y0.2 ++ y1.2) ∧ cs.length = P.cellsOf t ∧ DataW.trod enc P w base spare held n f0.type ((cs.drop f0.offset).take (P.cellsOf f0.type)) = some y0 ∧
      DataW.trod enc P w base spare held n f1.type ((cs.drop f1.offset).take (P.cellsOf f1.type)) = some y1 := by
  obtain ⟨xs, n, _, rfl, hl, hlen, hf⟩ := DataW.trod_struct ht h
  match xs, hlen with
  | [y0, y1], _ => exact ⟨y0, y1, n, by simp, hl, by simpa using hf 0 f0 rfl, by simpa using hf 1 f1 rfl⟩
theorem open_int1 {T : TypeId} (hT : P.underlying T = some (.int .i64)) (hc : P.cellsOf T = 1) {n : Nat} {x : DataW H × List MemPlace} {cs : List Value} (h : DataW.trod enc P w 0 (fun _ => true) true n T cs = some x) : ∃ k, cs = [.int .i64 k] ∧ isI64 k := by
  obtain ⟨k, hk, _, hw⟩ := DataW.trod_int hT h
  exact ⟨k, hk, wf_i64 hw⟩
theorem open_ints {t e : TypeId} (ht : P.underlying t = some (.slice e)) (he : P.underlying e = some (.int .i64)) (hc : P.cellsOf e = 1) {n : Nat} {d : DataW H} {ps : List MemPlace} {cs : List Value} (h : DataW.trod enc P w 0 (fun _ => true) true n t cs = some (d, ps)) : ∃ (sl : Value) (l : List Int), cs = [sl] ∧ rI.S (hp w) l sl :=
  open_list rI ht hc (by decide) (fun n d ps cs h _ => by
    obtain ⟨k, rfl, hk⟩ := open_int1 he hc h
    exact ⟨k, rfl, hk⟩) h
end
end Go.Sx
