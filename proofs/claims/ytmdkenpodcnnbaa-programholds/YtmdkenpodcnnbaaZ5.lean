/-
  Rows.ProgramHoldsSaid is proved here.
-/
import Derived.Test.YtmdkenpodcnnbaaZ4
set_option linter.unusedSimpArgs false
set_option linter.unusedVariables false
namespace Go.Proofs.Ytmdkenpodcnnbaa
set_option linter.unusedSimpArgs false
set_option linter.unusedVariables false
open Go.Sx
theorem shR_ok0 {l : Pr} {d : Int} (h : (shR l d).2 = 0) : (0 ≤ d ∧ d ≤ 64) ∧ (∀ f ∈ l, (whr f).2 = 0) ∧ (∀ f ∈ l, shOk d f = true) ∧ (shR l d).1 = l.map (shF d) := by
  simp only [shR] at h ⊢
  split at h
  · simp at h
  · rename_i hd
    split at h
    · simp at h
    · rename_i hv
      split at h
      · rename_i hs
        rw [if_neg hd, if_neg hv, if_pos hs]
        refine ⟨by omega, fun f hf => ?_, fun f hf => List.all_eq_true.1 hs f hf, rfl⟩
        have := List.all_eq_true.1 (by simpa using hv : l.all (fun f => (whr f).2 == 0) = true) f hf
        simpa using this
      · simp at h
theorem nms_sh (d : Int) (x : Nd) : nms (shNd d x).op = nms x.op := by unfold shNd; split <;> rfl
theorem cals_sh (d : Int) : ∀ (l : List Nd) (i : Nat), cals (l.map (shNd d)) i = (cals l i).map fun x => (x.1, x.2 + d)
  | [], i => rfl
  | x :: l, i => by
    simp only [List.map_cons, cals, nms_sh, cals_sh d l (i + 1)]
    by_cases h : nms x.op = true
    · simp [h, shNd]
    · simp [h]
theorem calP_sh {d : Int} {f : Fu} (h : (whr f).2 = 0) (h' : (whr (shF d f)).2 = 0) : calP (shF d f) = (calP f).map fun x => (x.1, x.2 + d) := by
  rw [calP_eq h, calP_eq h']; exact cals_sh d f.nodes 0
theorem shF_sh (a b : Int) (f : Fu) : shF b (shF a f) = shF (a + b) f := by
  simp only [shF, List.map_map]
  congr 1
  apply List.map_congr_left
  intro x _
  simp only [Function.comp, shNd]
  by_cases h : nms x.op = true
  · simp [h, Int.add_assoc]
  · simp [h]
theorem shR_sh {l : Pr} {a b : Int} (h1 : (shR l a).2 = 0) (h2 : (shR (shR l a).1 b).2 = 0) (h3 : a + b ≤ 64) : shR l (a + b) = ((shR (shR l a).1 b).1, 0) := by
  obtain ⟨a1, a2, a3, a4⟩ := shR_ok0 h1
  obtain ⟨b1, b2, b3, b4⟩ := shR_ok0 h2
  rw [a4] at b2 b3 b4
  rw [a4, b4, List.map_map]
  have e : l.map (shF b ∘ shF a) = l.map (shF (a + b)) := List.map_congr_left fun f _ => shF_sh a b f
  rw [e, shR, if_neg (by omega), if_neg (by simpa using a2), if_pos]
  refine List.all_eq_true.2 fun f hf => List.all_eq_true.2 fun x hx => ?_
  have h4 := b2 (shF a f) (List.mem_map.2 ⟨f, hf, rfl⟩)
  have h5 := List.all_eq_true.1 (b3 (shF a f) (List.mem_map.2 ⟨f, hf, rfl⟩))
  rw [calP_sh (a2 f hf) h4] at h5
  have := h5 _ (List.mem_map.2 ⟨x, hx, rfl⟩)
  simp only [decide_eq_true_eq] at this ⊢
  omega
theorem joR_nil {p : Pr} (h : rgtP p = true) : joR p [] = (p, 0) := by
  have hl := (rgtP_bd h).2
  have hs : shR [] (p.length : Int) = ([], 0) := by
    rw [shR, if_neg (by omega), if_neg (by simp), if_pos (by simp)]; rfl
  simp [joR, h, hs]
theorem joR_ok {p l : Pr} (h : (joR p l).2 = 0) : rgtP p = true ∧ (shR l p.length).2 = 0 ∧ (joR p l).1 = p ++ l.map (shF p.length) ∧ rgtP (p ++ l.map (shF p.length)) = true ∧ (∀ f ∈ l, (whr f).2 = 0) := by
  simp only [joR] at h ⊢
  split at h
  · simp at h
  · rename_i h1
    split at h
    · rename_i h2; exact absurd h h2
    · rename_i h2
      have h2' : (shR l p.length).2 = 0 := by simpa using h2
      obtain ⟨_, a2, _, a4⟩ := shR_ok0 h2'
      split at h
      · rename_i h3
        rw [if_neg h1, if_neg h2, if_pos h3]
        rw [a4] at h3 ⊢
        exact ⟨by simpa using h1, h2', rfl, h3, a2⟩
      · simp at h
theorem siz_app : ∀ (a b : Pr), siz (a ++ b) = siz a + siz b
  | [], b => by simp [siz]
  | x :: a, b => by simp only [List.cons_append, siz, siz_app a b]; omega
theorem siz_sh (d : Int) : ∀ l : Pr, siz (l.map (shF d)) = siz l
  | [] => rfl
  | x :: l => by simp only [List.map_cons, siz, siz_sh d l]; simp [shF]
theorem fu_app1 {p m : Pr} {i : Nat} (h : i < p.length) : fu (p ++ m) i = fu p i := by
  rw [fu_eq (by simp; omega), fu_eq h, List.getElem_append_left h]
theorem fu_app2 {p l : Pr} {d : Int} {i : Nat} (h : p.length ≤ i) (h' : i - p.length < l.length) : fu (p ++ l.map (shF d)) i = shF d (fu l (i - p.length)) := by
  rw [fu_eq (by simp; omega), fu_eq h', List.getElem_append_right h, List.getElem_map]
theorem join_calls {p l : Pr} (h : (joR p l).2 = 0) {i : Nat} (hi : i < (p ++ l.map (shF p.length)).length) {x : Int × Int} (hx : x ∈ calP (fu (p ++ l.map (shF p.length)) i)) :
    0 ≤ x.2 ∧ x.2 < (p ++ l.map (shF p.length)).length ∧ (x.2 < p.length ↔ i < p.length) := by
  obtain ⟨h1, h2, h3, h4, h5⟩ := joR_ok h
  obtain ⟨g1, g2⟩ := call_lt h4 hi hx
  refine ⟨g1, g2, ?_⟩
  rcases Nat.lt_or_ge i p.length with q | q
  · rw [fu_app1 q] at hx
    have := call_lt h1 q hx
    omega
  · have hq : i - p.length < l.length := by simp at hi; omega
    have hv := badF_ok (rgtP_of h4).2.1 (fu (p ++ l.map (shF p.length)) i) (by rw [fu_eq hi]; exact List.getElem_mem _)
    rw [fu_app2 q hq] at hx hv
    rw [calP_sh (h5 _ (by rw [fu_eq hq]; exact List.getElem_mem _)) hv] at hx
    obtain ⟨y, hy, rfl⟩ := List.mem_map.1 hx
    obtain ⟨k, hk, e⟩ := List.getElem_of_mem hy
    obtain ⟨_, _, rfl, _, h0, _⟩ := calP_get (k := k) (x := y) (by rw [List.getElem?_eq_getElem hk, e])
    simp only
    omega
theorem od_lt {out : List Int} {x d : Nat} (h : od out x = some d) : x < out.length := by
  rcases Nat.lt_or_ge x out.length with q | q
  · exact q
  · have := od_some.1 h
    rw [ov_out q] at this; omega
theorem fmap_congr {α β : Type} {f g : α → Option β} : ∀ {l : List α}, (∀ x ∈ l, f x = g x) → l.filterMap f = l.filterMap g
  | [], _ => rfl
  | x :: l, h => by simp only [List.filterMap_cons, h x (by simp), fmap_congr (l := l) fun y hy => h y (by simp [hy])]
theorem join_reach {p l : Pr} (h : (joR p l).2 = 0) : rL (p ++ l.map (shF p.length)) = rL p := by
  obtain ⟨h1, h2, h3, h4, h5⟩ := joR_ok h
  have hl := (rgtP_of h1).1
  have hp := pcl_lt h1
  generalize hq : p ++ l.map (shF p.length) = q at *
  have hlq : q.length = p.length + l.length := by rw [← hq]; simp
  have hpc : ∀ i, i < p.length → pcl q i = pcl p i := fun i hi => by rw [pcl, ← hq, fu_app1 hi]; rfl
  have gq := rout_good (n := q.length) (by omega) (pcl_lt h4)
  have gp := rout_good (n := p.length) (by omega) hp
  have hlen := rout_len (n := p.length) (by omega) hp
  have gE : Gd (pcl q) (fun x => if x < p.length then od (rout (pcl p) p.length) x else none) := by
    refine ⟨?_, fun x hx => ?_, fun i d j hi hj => ?_, fun j k hj => ?_⟩
    · rw [if_pos (by omega)]; exact gp.z
    · split at hx
      · exact gp.u x hx
      · cases hx
    · split at hi
      · rename_i hin
        rw [hpc i hin] at hj
        obtain ⟨e, e1, e2⟩ := gp.s i d j hi hj
        exact ⟨e, by rw [if_pos (hp i j hj)]; exact e1, e2⟩
      · cases hi
    · split at hj
      · obtain ⟨i, i1, i2⟩ := gp.p j k hj
        have hin : i < p.length := by have := od_lt i1; omega
        exact ⟨i, by rw [if_pos hin]; exact i1, by rw [hpc i hin]; exact i2⟩
      · cases hj
  have hD := gq.same gE
  simp only [rL, h4, h1, if_true, hD, rlist]
  rw [hlq, List.range_add, List.filterMap_append]
  have e2 : (List.filterMap (fun x : Nat => Option.map (fun d : Nat => ((x : Int), (d : Int))) (if x < p.length then od (rout (pcl p) p.length) x else none)) (List.map (fun x : Nat => p.length + x) (List.range l.length))) = [] := by
    rw [List.filterMap_eq_nil_iff]
    intro x hx
    obtain ⟨y, _, rfl⟩ := List.mem_map.1 hx
    rw [if_neg (by omega)]; rfl
  rw [e2, List.append_nil]
  refine fmap_congr fun x hx => ?_
  rw [if_pos (by simpa using hx)]
theorem rL_mem {p : Pr} {x : Int × Int} (h : x ∈ rL p) : ∃ t d : Nat, x = ((t : Int), (d : Int)) ∧ t < p.length ∧ d ≤ 65 := by
  simp only [rL] at h
  split at h
  · rename_i hr
    obtain ⟨k, d, hk, hd, rfl⟩ := rlist_mem.1 h
    have hl := (rgtP_of hr).1
    have hi := (rout_inv (n := p.length) (by omega) (pcl_lt hr) p.length).top k
    have := od_some.1 hd
    unfold rout at this
    exact ⟨k, d, rfl, hk, by omega⟩
  · simp at h
theorem rL_sorted (p : Pr) : ((rL p).map (·.1)).Pairwise (· < ·) := by
  simp only [rL]
  split
  · exact rlist_sorted _ _
  · simp
def fW (M : Pl) (j : Nat) : Int := match M.find? (fun x => x.1 == (j : Int)) with
  | some x => x.2 + 1
  | none => 0
def farW (M : Pl) (m : Nat) : List Int := (List.range m).map (fW M)
theorem farW_len (M : Pl) (m : Nat) : (farW M m).length = m := by simp [farW]
theorem farW_get {M : Pl} {m j : Nat} (h : j < (farW M m).length) : (farW M m)[j] = fW M j := by simp [farW]
theorem farW_set {M N : Pl} {m t : Nat} {v : Int} (ht : fW N t = v) (hj : ∀ j, j ≠ t → fW N j = fW M j) : (farW M m).set t v = farW N m := by
  apply List.ext_getElem (by simp [farW])
  intro j h1 h2
  rw [List.getElem_set]
  split
  · rename_i e; subst e; rw [farW_get]; exact ht.symm
  · rename_i e; rw [farW_get, farW_get, hj j (fun q => e q.symm)]
theorem fW_nil (j : Nat) : fW [] j = 0 := rfl
theorem rep_far : ∀ n : Nat, rep [.int .i64 0] n = (farW [] n).map (Value.int .i64 ·) := by
  have h : ∀ n : Nat, farW [] n = List.replicate n 0 := fun n => by
    apply List.ext_getElem (by simp [farW])
    intro j h1 h2
    rw [farW_get]; simp [fW_nil]
  intro n
  rw [h]
  induction n with
  | zero => rfl
  | succ n ih => rw [rep, ih, List.replicate_succ]; rfl
theorem fW_none {M : Pl} {t : Nat} (h : ∀ x ∈ M, x.1 ≠ (t : Int)) : fW M t = 0 := by
  have : M.find? (fun x => x.1 == (t : Int)) = none := by
    rw [List.find?_eq_none]; intro x hx; simpa using h x hx
  simp [fW, this]
theorem fW_snoc {M : Pl} {t : Nat} {d : Int} (h : ∀ x ∈ M, x.1 ≠ (t : Int)) (j : Nat) : fW (M ++ [((t : Int), d)]) j = if j = t then d + 1 else fW M j := by
  simp only [fW, List.find?_append]
  by_cases hj : j = t
  · subst hj
    have : M.find? (fun x => x.1 == (j : Int)) = none := by
      rw [List.find?_eq_none]; intro x hx; simpa using h x hx
    simp [this]
  · rw [if_neg hj]
    have : ([((t : Int), d)] : Pl).find? (fun x => x.1 == (j : Int)) = none := by
      rw [List.find?_eq_none]; intro x hx; simp at hx; subst hx; simp; omega
    simp [this]
theorem fW_cons {M : Pl} {t : Nat} {d : Int} (j : Nat) : fW (((t : Int), d) :: M) j = if j = t then d + 1 else fW M j := by
  simp only [fW, List.find?_cons]
  by_cases hj : j = t
  · subst hj; simp
  · rw [if_neg hj]
    have : ((t : Int) == (j : Int)) = false := by simp; omega
    simp [this]
theorem far_add {L : Pl} (hs : (L.map (·.1)).Pairwise (· < ·)) {k t m : Nat} {d : Int} (hx : L[k]? = some ((t : Int), d)) : (farW (L.take k) m).set t (d + 1) = farW (L.take (k + 1)) m := by
  have htk : L.take (k + 1) = L.take k ++ [((t : Int), d)] := by
    obtain ⟨hk, e⟩ := List.getElem?_eq_some_iff.1 hx
    rw [← e, List.take_append_getElem]
  have hd : ∀ x ∈ L.take k, x.1 ≠ (t : Int) := by
    intro x hx' e
    have e1 : L = L.take k ++ ((t : Int), d) :: L.drop (k + 1) := by
      obtain ⟨hk, e2⟩ := List.getElem?_eq_some_iff.1 hx
      rw [← e2, ← List.drop_eq_getElem_cons hk, List.take_append_drop]
    rw [e1, List.map_append, List.pairwise_append] at hs
    have := hs.2.2 x.1 (List.mem_map.2 ⟨x, hx', rfl⟩) (t : Int) (by simp)
    omega
  refine farW_set ?_ fun j hj => ?_
  · rw [htk, fW_snoc hd, if_pos rfl]
  · rw [htk, fW_snoc hd, if_neg hj]
theorem far_del {L : Pl} (hs : (L.map (·.1)).Pairwise (· < ·)) {k t m : Nat} {d : Int} (hx : L[k]? = some ((t : Int), d)) : (farW (L.drop k) m).set t 0 = farW (L.drop (k + 1)) m ∧ fW (L.drop k) t = d + 1 := by
  have hdr : L.drop k = ((t : Int), d) :: L.drop (k + 1) := by
    obtain ⟨hk, e⟩ := List.getElem?_eq_some_iff.1 hx
    rw [← e, ← List.drop_eq_getElem_cons hk]
  have hd : ∀ x ∈ L.drop (k + 1), x.1 ≠ (t : Int) := by
    intro x hx' e
    have e1 : L = L.take k ++ ((t : Int), d) :: L.drop (k + 1) := by
      rw [← hdr, List.take_append_drop]
    rw [e1, List.map_append, List.pairwise_append] at hs
    have := (List.pairwise_cons.1 (by simpa using hs.2.1)).1 x.1 (List.mem_map.2 ⟨x, hx', rfl⟩)
    omega
  refine ⟨farW_set ?_ fun j hj => ?_, ?_⟩
  · exact fW_none hd
  · rw [hdr, fW_cons, if_neg hj]
  · rw [hdr, fW_cons, if_pos rfl]
end Go.Proofs.Ytmdkenpodcnnbaa
namespace Go.Proofs.Ytmdkenpodcnnbaa
set_option linter.unusedSimpArgs false
set_option linter.unusedVariables false
open Go.Sx
def fuL : Pr → Pr → Bool
  | [], [] => true
  | a :: p, b :: q => fue a b && fuL p q
  | _, _ => false
theorem fuL_len : ∀ {p q : Pr}, fuL p q = true → p.length = q.length
  | [], [], _ => rfl
  | a :: p, b :: q, h => by simp only [fuL, Bool.and_eq_true] at h; simp [fuL_len h.2]
theorem fuL_refl : ∀ p : Pr, fuL p p = true
  | [] => rfl
  | a :: p => by simp [fuL, fue_refl, fuL_refl p]
theorem fuL_symm : ∀ p q : Pr, fuL p q = fuL q p
  | [], [] => rfl
  | [], _ :: _ => rfl
  | _ :: _, [] => rfl
  | a :: p, b :: q => by simp only [fuL, fue_symm a b, fuL_symm p q]
theorem fuL_drop {p q : Pr} {k : Nat} (h1 : k < p.length) (h2 : k < q.length) : fuL (p.drop k) (q.drop k) = (fue (fu p k) (fu q k) && fuL (p.drop (k + 1)) (q.drop (k + 1))) := by
  rw [fu_drop h1, fu_drop h2]; rfl
theorem fuL_false {p q : Pr} (h : p.length ≠ q.length) : fuL p q = false := by
  cases hq : fuL p q with
  | false => rfl
  | true => exact absurd (fuL_len hq) h
set_option maxHeartbeats 4000000
theorem eqfuns_ok (p q : Pr) (s1 s2 : Value) (G : Hp) (h1 : rF.S G p s1) (h2 : rF.S G q s2) :
    Pure Try.prog 36 [s1, s2, .func (.func 37) #[] #[]] G (fun r _ => r = .bool (fuL p q)) := by
  have h10 := h1
  have h20 := h2
  obtain ⟨ad1, cap1, rfl⟩ := Rp.S_slice h1
  obtain ⟨ad2, cap2, rfl⟩ := Rp.S_slice h2
  have h63 := Rp.S_len h1
  refine enterX ty tyok Try.func36 rfl Try.ntmps36 [.v (.slice ad1 p.length cap1), .v (.slice ad2 q.length cap2), .v (.func (.func 37) #[] #[])] (by simp) ?_
  intro C hP hQ hnt hty hmb hmh hro; have hQp := qp_body hQ; refine st_ ?_
  refine rn_ ?_; intros
  refine x_split rfl rfl rfl (fun hl => ?_) (fun hl => ?_) <;> (refine st_ ?_; (refine ru_ ?_; intros))
  · refine x_retc rfl hQ hmb rfl (by rw [hty]; simp only [so, sq, zy, zz, tyE, SO', SQ', opQ, opStore, opAlloc, ev, putS, dOk, cv, SV.cs, SV.one, SV.bool?, eqB, Value.oneCell', ldOwn, binInt, binConst, binBool, binStr, isC, TK.agg, rv, rv1, ldV, resOne, resV, Nat.reduceAdd, Nat.reduceMul, Nat.reduceSub, Nat.reduceLT, Nat.reduceLeDiff, Nat.reduceEqDiff, Nat.reduceBEq, reduceIte, reduceCtorEq, eq_self]; try rfl) rfl ?_; simp only [SV.den, resV, dens]
    rw [fuL_false (by simp at hl; omega)]
  have hlm : p.length = q.length := by simp at hl; omega
  refine go_keep [0, 1, 2, 15, 16, 17] [] ?_
  refine st_ ?_
  refine x_loop rfl (fun qq s => ∃ (k : Nat) (G' : Hp), k ≤ p.length ∧ qq = p.length - k ∧ Le G G' ∧ fuL p q = fuL (p.drop k) (q.drop k) ∧
    s = ⟨[(0, .v (.slice ad1 p.length cap1)), (1, .v (.slice ad2 q.length cap2)), (2, .v (.func (.func 37) #[] #[])), (15, .v (.slice ad1 p.length cap1)), (16, .v (.int .i64 p.length)), (17, .v (.int .i64 k))], [], G', []⟩) ⟨0, G, by omega, rfl, Le.refl _, by simp, rfl⟩ ?_
  rintro qq s ⟨k, G0, hk, hq, hle, hinv, rfl⟩ ih
  refine rn_ ?_; intros
  refine x_if rfl rfl rfl rfl (fun hjl => ?_) (fun hjl => ?_)
  · have hlt : k < p.length := by simp at hjl; omega
    rw [fuL_drop hlt (by omega)] at hinv
    obtain ⟨b1, o1, n1, rfl, hat1, hp1, hn1⟩ := rF_at h10 hlt
    obtain ⟨b2, o2, n2, rfl, hat2, hp2, hn2⟩ := rF_at h20 (i := k) (by omega)
    have hc := same_ok (fu p k) (fu q k) n1 n2 G0 (Rp.S_mono hle hn1) (Rp.S_mono hle hn2)
    obtain ⟨adn1, capn1, rfl⟩ := Rp.S_slice hn1
    obtain ⟨adn2, capn2, rfl⟩ := Rp.S_slice hn2
    refine rn_ ?_; intros
    refine go_q (by rw [hnt]; rfl) (quiet_index (by rw [hty]; rfl) (by rw [hty]; rfl) rfl rfl rfl (by omega) (by omega)) ?_
    refine rn_ ?_; intros
    refine go_q (by rw [hnt]; rfl) (quiet_load (by rw [hty]; rfl) rfl (by simp [TK.agg]) (hat1.mono hle) rfl) ?_
    refine rn_ ?_; intros
    refine go_q (by rw [hnt]; rfl) (quiet_index (by rw [hty]; rfl) (by rw [hty]; rfl) rfl rfl rfl (by omega) (by omega)) ?_
    refine rn_ ?_; intros
    refine go_q (by rw [hnt]; rfl) (quiet_load (by rw [hty]; rfl) rfl (by simp [TK.agg]) (hat2.mono hle) rfl) ?_
    refine rn_ ?_; intros
    refine go_callw (cap := []) (by rw [hnt]; rfl) (by rw [hP]; kernel_rfl) rfl rfl rfl (by rw [hP]; exact hc) ?_
    rintro v G1 (hle1 : Le G0 G1) rfl
    refine rn_ ?_; intros
    refine x_split rfl rfl rfl (fun hne => ?_) (fun hne => ?_) <;> (refine st_ ?_; (refine ru_ ?_; intros))
    · refine x_retc rfl hQ hmb rfl (by rw [hty]; simp only [so, sq, zy, zz, tyE, SO', SQ', opQ, opStore, opAlloc, ev, putS, dOk, cv, SV.cs, SV.one, SV.bool?, eqB, Value.oneCell', ldOwn, binInt, binConst, binBool, binStr, isC, TK.agg, rv, rv1, ldV, resOne, resV, Nat.reduceAdd, Nat.reduceMul, Nat.reduceSub, Nat.reduceLT, Nat.reduceLeDiff, Nat.reduceEqDiff, Nat.reduceBEq, reduceIte, reduceCtorEq, eq_self]; try rfl) rfl ?_; simp only [SV.den, resV, dens]
      rw [hinv, show fue (fu p k) (fu q k) = false by simpa using hne]; rfl
    · rw [wr (n := (k : Int) + 1) (by omega) (by omega)]
      refine go_keep [0, 1, 2, 15, 16, 17] [] ?_
      refine st_ ?_
      exact ih (p.length - (k + 1)) _ (by omega) ⟨k + 1, G1, by omega, rfl, hle.trans hle1, by rw [hinv, show fue (fu p k) (fu q k) = true by simpa using hne]; rfl, by simp⟩
  · have hge : k = p.length := by simp at hjl; omega
    subst hge
    refine rn_ ?_; intros
    refine x_retc rfl hQ hmb rfl (by rw [hty]; simp only [so, sq, zy, zz, tyE, SO', SQ', opQ, opStore, opAlloc, ev, putS, dOk, cv, SV.cs, SV.one, SV.bool?, eqB, Value.oneCell', ldOwn, binInt, binConst, binBool, binStr, isC, TK.agg, rv, rv1, ldV, resOne, resV, Nat.reduceAdd, Nat.reduceMul, Nat.reduceSub, Nat.reduceLT, Nat.reduceLeDiff, Nat.reduceEqDiff, Nat.reduceBEq, reduceIte, reduceCtorEq, eq_self]; try rfl) rfl ?_; simp only [SV.den, resV, dens]
    rw [hinv, List.drop_length, hlm, List.drop_length]; rfl
theorem samep_ok (p q : Pr) (s1 s2 : Value) (G : Hp) (h1 : rF.S G p s1) (h2 : rF.S G q s2) : Pure Try.prog 19 [.agg #[s1], .agg #[s2]] G (fun r _ => r = .bool (fuL p q)) := by
  have h10 := h1
  have h20 := h2
  obtain ⟨ad1, cap1, rfl⟩ := Rp.S_slice h1
  obtain ⟨ad2, cap2, rfl⟩ := Rp.S_slice h2
  refine enterX ty tyok Try.func19 rfl Try.ntmps19 [.a [.v (.slice ad1 p.length cap1)], .a [.v (.slice ad2 q.length cap2)]] (by simp) ?_
  intro C hP hQ hnt hty hmb hmh hro; have hQp := qp_body hQ; refine st_ ?_
  refine rn_ ?_; intros
  refine go_callf (by rw [hnt]; rfl) (by rw [hP]; kernel_rfl) rfl (hP ▸ eqfuns_ok p q _ _ G h10 h20) ?_; refine rn_ ?_; intros
  refine x_retc rfl hQ hmb rfl (by rw [hty]; simp only [so, sq, zy, zz, tyE, SO', SQ', opQ, opStore, opAlloc, ev, putS, dOk, cv, SV.cs, SV.one, SV.bool?, eqB, Value.oneCell', ldOwn, binInt, binConst, binBool, binStr, isC, TK.agg, rv, rv1, ldV, resOne, resV, Nat.reduceAdd, Nat.reduceMul, Nat.reduceSub, Nat.reduceLT, Nat.reduceLeDiff, Nat.reduceEqDiff, Nat.reduceBEq, reduceIte, reduceCtorEq, eq_self]; try rfl) rfl ?_; simp only [SV.den, resV, dens]
theorem rfuns_ok (p q : Pr) (s1 s2 : Value) (G : Hp) (h1 : rF.S G p s1) (h2 : rF.S G q s2) : Pure Try.prog 35 [s1, s2] G (fun r _ => r = .bool (fuL p q)) := by
  have h10 := h1
  have h20 := h2
  obtain ⟨ad1, cap1, rfl⟩ := Rp.S_slice h1
  obtain ⟨ad2, cap2, rfl⟩ := Rp.S_slice h2
  have h63 := Rp.S_len h1
  refine enterX ty tyok Try.func35 rfl Try.ntmps35 [.v (.slice ad1 p.length cap1), .v (.slice ad2 q.length cap2)] (by simp) ?_
  intro C hP hQ hnt hty hmb hmh hro; have hQp := qp_body hQ; refine st_ ?_
  refine rn_ ?_; intros
  refine x_split rfl rfl rfl (fun hl => ?_) (fun hl => ?_) <;> (refine st_ ?_; (refine ru_ ?_; intros))
  · refine x_retc rfl hQ hmb rfl (by rw [hty]; simp only [so, sq, zy, zz, tyE, SO', SQ', opQ, opStore, opAlloc, ev, putS, dOk, cv, SV.cs, SV.one, SV.bool?, eqB, Value.oneCell', ldOwn, binInt, binConst, binBool, binStr, isC, TK.agg, rv, rv1, ldV, resOne, resV, Nat.reduceAdd, Nat.reduceMul, Nat.reduceSub, Nat.reduceLT, Nat.reduceLeDiff, Nat.reduceEqDiff, Nat.reduceBEq, reduceIte, reduceCtorEq, eq_self]; try rfl) rfl ?_; simp only [SV.den, resV, dens]
    rw [fuL_false (by simp at hl; omega)]
  have hlm : p.length = q.length := by simp at hl; omega
  refine go_keep [0, 1, 5] [] ?_
  refine st_ ?_
  refine x_loop rfl (fun qq s => ∃ (k : Nat), k ≤ p.length ∧ qq = p.length - k ∧ fuL p q = fuL (p.drop k) (q.drop k) ∧
    s = ⟨[(0, .v (.slice ad1 p.length cap1)), (1, .v (.slice ad2 q.length cap2)), (5, .v (.int .i64 k))], [], G, []⟩) ⟨0, by omega, rfl, by simp, rfl⟩ ?_
  rintro qq s ⟨k, hk, hq, hinv, rfl⟩ ih
  refine rn_ ?_; intros
  refine x_if rfl rfl rfl rfl (fun hjl => ?_) (fun hjl => ?_)
  · have hlt : k < p.length := by simp at hjl; omega
    rw [fuL_drop hlt (by omega)] at hinv
    obtain ⟨b1, o1, n1, rfl, hat1, hp1, hn1⟩ := rF_at h10 hlt
    obtain ⟨b2, o2, n2, rfl, hat2, hp2, hn2⟩ := rF_at h20 (i := k) (by omega)
    have hc := refsame_ok (fu p k) (fu q k) n1 n2 G hn1 hn2
    obtain ⟨adn1, capn1, rfl⟩ := Rp.S_slice hn1
    obtain ⟨adn2, capn2, rfl⟩ := Rp.S_slice hn2
    refine rn_ ?_; intros
    refine x_draw rfl (by rw [hP]; kernel_rfl) rfl (by kernel_rfl) ?_
    refine runq 400 hty hnt ?_; refine st_ ?_
    refine q_q (by rw [hnt]; rfl) (quiet_index (by rw [hty]; rfl) (by rw [hty]; rfl) rfl rfl rfl (by omega) (by omega)) ?_; refine runq 400 hty hnt ?_; refine st_ ?_
    refine q_q (by rw [hnt]; rfl) (quiet_load (by rw [hty]; rfl) rfl (by simp [TK.agg]) hat1 rfl) ?_; refine runq 400 hty hnt ?_; refine st_ ?_
    refine q_q (by rw [hnt]; rfl) (quiet_index (by rw [hty]; rfl) (by rw [hty]; rfl) rfl rfl rfl (by omega) (by omega)) ?_; refine runq 400 hty hnt ?_; refine st_ ?_
    refine q_q (by rw [hnt]; rfl) (quiet_load (by rw [hty]; rfl) rfl (by simp [TK.agg]) hat2 rfl) ?_; refine runq 400 hty hnt ?_; refine st_ ?_
    refine q_callf (by rw [hnt]; rfl) (by rw [hP]; kernel_rfl) rfl (hP ▸ hc) ?_; refine runq 400 hty hnt ?_; refine st_ ?_
    refine q_end ?_; refine rn_ ?_; intros
    refine x_split rfl rfl rfl (fun hne => ?_) (fun hne => ?_) <;> (refine st_ ?_; (refine ru_ ?_; intros))
    · refine x_retc rfl hQ hmb rfl (by rw [hty]; simp only [so, sq, zy, zz, tyE, SO', SQ', opQ, opStore, opAlloc, ev, putS, dOk, cv, SV.cs, SV.one, SV.bool?, eqB, Value.oneCell', ldOwn, binInt, binConst, binBool, binStr, isC, TK.agg, rv, rv1, ldV, resOne, resV, Nat.reduceAdd, Nat.reduceMul, Nat.reduceSub, Nat.reduceLT, Nat.reduceLeDiff, Nat.reduceEqDiff, Nat.reduceBEq, reduceIte, reduceCtorEq, eq_self]; try rfl) rfl ?_; simp only [SV.den, resV, dens]
      rw [hinv, show fue (fu p k) (fu q k) = false by simpa using hne]; rfl
    · rw [wr (n := (k : Int) + 1) (by omega) (by omega)]
      refine go_keep [0, 1, 5] [] ?_
      refine st_ ?_
      exact ih (p.length - (k + 1)) _ (by omega) ⟨k + 1, by omega, rfl, by rw [hinv, show fue (fu p k) (fu q k) = true by simpa using hne]; rfl, by simp⟩
  · have hge : k = p.length := by simp at hjl; omega
    subst hge
    refine rn_ ?_; intros
    refine x_retc rfl hQ hmb rfl (by rw [hty]; simp only [so, sq, zy, zz, tyE, SO', SQ', opQ, opStore, opAlloc, ev, putS, dOk, cv, SV.cs, SV.one, SV.bool?, eqB, Value.oneCell', ldOwn, binInt, binConst, binBool, binStr, isC, TK.agg, rv, rv1, ldV, resOne, resV, Nat.reduceAdd, Nat.reduceMul, Nat.reduceSub, Nat.reduceLT, Nat.reduceLeDiff, Nat.reduceEqDiff, Nat.reduceBEq, reduceIte, reduceCtorEq, eq_self]; try rfl) rfl ?_; simp only [SV.den, resV, dens]
    rw [hinv, List.drop_length, hlm, List.drop_length]; rfl
theorem rsamep_ok (p q : Pr) (s1 s2 : Value) (G : Hp) (h1 : rF.S G p s1) (h2 : rF.S G q s2) : Pure Try.prog 18 [.agg #[s1], .agg #[s2]] G (fun r _ => r = .bool (fuL p q)) := by
  have h10 := h1
  have h20 := h2
  obtain ⟨ad1, cap1, rfl⟩ := Rp.S_slice h1
  obtain ⟨ad2, cap2, rfl⟩ := Rp.S_slice h2
  refine enterX ty tyok Try.func18 rfl Try.ntmps18 [.a [.v (.slice ad1 p.length cap1)], .a [.v (.slice ad2 q.length cap2)]] (by simp) ?_
  intro C hP hQ hnt hty hmb hmh hro; have hQp := qp_body hQ; refine st_ ?_
  refine rn_ ?_; intros
  refine go_callf (by rw [hnt]; rfl) (by rw [hP]; kernel_rfl) rfl (hP ▸ rfuns_ok p q _ _ G h10 h20) ?_; refine rn_ ?_; intros
  refine x_retc rfl hQ hmb rfl (by rw [hty]; simp only [so, sq, zy, zz, tyE, SO', SQ', opQ, opStore, opAlloc, ev, putS, dOk, cv, SV.cs, SV.one, SV.bool?, eqB, Value.oneCell', ldOwn, binInt, binConst, binBool, binStr, isC, TK.agg, rv, rv1, ldV, resOne, resV, Nat.reduceAdd, Nat.reduceMul, Nat.reduceSub, Nat.reduceLT, Nat.reduceLeDiff, Nat.reduceEqDiff, Nat.reduceBEq, reduceIte, reduceCtorEq, eq_self]; try rfl) rfl ?_; simp only [SV.den, resV, dens]
end Go.Proofs.Ytmdkenpodcnnbaa
namespace Go.Proofs.Ytmdkenpodcnnbaa
set_option linter.unusedSimpArgs false
set_option linter.unusedVariables false
open Go.Sx
set_option maxHeartbeats 8000000
set_option maxRecDepth 20000
theorem programHolds_ok (p more : Pr) (ps ms : Value) (a b : Int) (G : Hp) (ha : isI64 a) (hb : isI64 b) (hps : rF.S G p ps) (hms : rF.S G more ms) : Pure Try.prog 6 [.agg #[ps], ms, .int .i64 a, .int .i64 b] G (fun r _ => r = .bool true) := by
  have hps0 := hps
  have hms0 := hms
  obtain ⟨adp, capp, rfl⟩ := Rp.S_slice hps
  obtain ⟨adm, capm, rfl⟩ := Rp.S_slice hms
  refine enterM ty tyok Try.func6 rfl Try.ntmps6 [.a [.v (.slice adp p.length capp)], .v (.slice adm more.length capm), .v (.int .i64 a), .v (.int .i64 b)] (by simp) ?_
  intro C hP hQ hnt hty hmb hmh hro; have hQp := qp_bodyM hQ; refine st_ ?_
  refine rn_ ?_; intros
  rename_i b4 b8
  refine go_marks 90 rfl (by omega) ?_
  refine st_ ?_
  refine go_callf (by rw [hnt]; rfl) (by rw [hP]; kernel_rfl) rfl (hP ▸ few_ok p _ G hps0) ?_; refine rn_ ?_; intros
  refine go_gsplit rfl rfl (fun g1 => ?_) (fun g1 => ?_) <;> (refine st_ ?_; (refine rn_ ?_; intros))
  · refine go_callf (by rw [hnt]; rfl) (by rw [hP]; kernel_rfl) rfl (hP ▸ works_ok G) ?_; refine rn_ ?_; intros
    refine x_retM 90 rfl hQ hmb rfl rfl rfl (by rw [hty]; simp only [so, sq, zy, zz, tyE, SO', SQ', opQ, opStore, opAlloc, ev, putS, dOk, cv, SV.cs, SV.one, SV.bool?, eqB, Value.oneCell', ldOwn, binInt, binConst, binBool, binStr, isC, TK.agg, rv, rv1, ldV, resOne, resV, Nat.reduceAdd, Nat.reduceMul, Nat.reduceSub, Nat.reduceLT, Nat.reduceLeDiff, Nat.reduceEqDiff, Nat.reduceBEq, reduceIte, reduceCtorEq, eq_self]; try rfl) ?_; simp only [SV.den, resV, dens]
  have hfp := fewP_of (show fewP p = true by simpa using g1)
  refine go_callf (by rw [hnt]; rfl) (by rw [hP]; kernel_rfl) rfl (hP ▸ few_ok more _ G hms0) ?_; refine rn_ ?_; intros
  refine x_split rfl rfl rfl (fun g2 => ?_) (fun g2 => ?_) <;> (refine st_ ?_; (refine ru_ ?_; intros))
  · refine go_callf (by rw [hnt]; rfl) (by rw [hP]; kernel_rfl) rfl (hP ▸ works_ok G) ?_; refine rn_ ?_; intros
    refine x_retM 90 rfl hQ hmb rfl rfl rfl (by rw [hty]; simp only [so, sq, zy, zz, tyE, SO', SQ', opQ, opStore, opAlloc, ev, putS, dOk, cv, SV.cs, SV.one, SV.bool?, eqB, Value.oneCell', ldOwn, binInt, binConst, binBool, binStr, isC, TK.agg, rv, rv1, ldV, resOne, resV, Nat.reduceAdd, Nat.reduceMul, Nat.reduceSub, Nat.reduceLT, Nat.reduceLeDiff, Nat.reduceEqDiff, Nat.reduceBEq, reduceIte, reduceCtorEq, eq_self]; try rfl) ?_; simp only [SV.den, resV, dens]
  have hfm := fewP_of (show fewP more = true by simpa using g2)
  have hp70 := hfp.1
  have hm70 := hfm.1
  have hzp := siz_bound (k := 220) (p := p) fun f hf => (hfp.2 f hf).1
  have hzm := siz_bound (k := 220) (p := more) fun f hf => (hfm.2 f hf).1
  have hz1 : ((p.length * 220 : Nat) : Int) ≤ 15400 := by omega
  have hz2 : ((more.length * 220 : Nat) : Int) ≤ 15400 := by omega
  refine go_call (by rw [hnt]; rfl) (by rw [hP]; kernel_rfl) rfl (hP ▸ shift_ok more _ a G hms0 ha (by omega)) ?_
  rintro v G1 (hle1 : Le G G1) ⟨sx, rfl, hsx⟩
  have hsx0 := hsx
  have hlx := shR_len more a
  obtain ⟨adx, capx, rfl⟩ := Rp.S_slice hsx
  refine rn_ ?_; intros
  (refine go_callf (by rw [hnt]; rfl) (by rw [hP]; kernel_rfl) rfl (by rw [hP]; exact num_ok _ _) ?_; refine rn_ ?_; intros)
  refine cut_tail 1 (fun s' => ∃ (G' : Hp), Le G1 G' ∧ s' = ⟨[(1, .v (.slice adm more.length capm)), (4, .p 0 b4 0), (8, .p 1 b8 0)], [(0, b4, .c 24 [.v (.slice adp p.length capp)]), (1, b8, .c 4 [.v (.bool false)]), (90, 0, dzO [])], G', []⟩) ?_ (fun key => ?_)
  rotate_left
  · simp only [List.drop_succ_cons, List.drop_zero] at key
    refine x_if rfl rfl rfl rfl (fun he => ?_) (fun he => ?_)
    · have he' : (shR more a).2 = 0 := by simpa using he
      obtain ⟨ha0, _⟩ := shR_ok0 he'
      refine rn_ ?_; intros
      refine go_call (by rw [hnt]; rfl) (by rw [hP]; kernel_rfl) rfl (hP ▸ shift_ok (shR more a).1 _ b G1 hsx0 hb (by omega)) ?_
      rintro v G2 (hle2 : Le G1 G2) ⟨sy, rfl, hsy⟩
      have hsy0 := hsy
      obtain ⟨ady, capy, rfl⟩ := Rp.S_slice hsy
      refine rn_ ?_; intros
      (refine go_callf (by rw [hnt]; rfl) (by rw [hP]; kernel_rfl) rfl (by rw [hP]; exact num_ok _ _) ?_; refine rn_ ?_; intros)
      refine go_gsplit rfl rfl (fun hf => ?_) (fun hf => ?_)
      · have hf' : (shR (shR more a).1 b).2 = 0 := by simpa using hf
        obtain ⟨hb0, _⟩ := shR_ok0 hf'
        refine st_ ?_
        refine runo0 400 hty hnt hmh ?_; refine st_ ?_
        rw [wr (n := a + b) (by omega) (by omega)]
        refine go_ops ?_
        refine x_if rfl rfl rfl rfl (fun h64 => ?_) (fun h64 => ?_)
        · have h64' : a + b ≤ 64 := by simpa using h64
          have hsh := shR_sh he' hf' h64'
          refine rn_ ?_; intros
          rw [wr (n := a + b) (by omega) (by omega)]
          refine go_call (by rw [hnt]; rfl) (by rw [hP]; kernel_rfl) rfl (hP ▸ shift_ok more _ (a + b) G2 (Rp.S_mono (hle1.trans hle2) hms0) (by simp only [isI64]; omega) (by omega)) ?_
          rintro v G3 (hle3 : Le G2 G3) ⟨sz, rfl, hsz⟩
          rw [hsh] at hsz ⊢
          have hsz0 := hsz
          obtain ⟨adz, capz, rfl⟩ := Rp.S_slice hsz
          refine rn_ ?_; intros
          (refine go_callf (by rw [hnt]; rfl) (by rw [hP]; kernel_rfl) rfl (by rw [hP]; exact num_ok _ _) ?_; refine rn_ ?_; intros)
          (refine go_gsplit rfl rfl (fun hc => absurd hc (by simp)) (fun _ => ?_); refine st_ ?_; (refine rn_ ?_; intros))
          (refine go_callf (by rw [hnt]; rfl) (by rw [hP]; kernel_rfl) rfl (by rw [hP]; exact of_ok _ _ _ _) ?_; refine rn_ ?_; intros)
          (refine go_callf (by rw [hnt]; rfl) (by rw [hP]; kernel_rfl) rfl (by rw [hP]; exact of_ok _ _ _ _) ?_; refine rn_ ?_; intros)
          refine go_callf (by rw [hnt]; rfl) (by rw [hP]; kernel_rfl) rfl (hP ▸ (samep_ok _ _ _ _ G3 (Rp.S_mono hle3 hsy0) hsz0).val (v' := .bool true) (by rw [fuL_refl])) ?_; refine rn_ ?_; intros
          refine x_if rfl rfl rfl rfl (fun h84 => ?_) (fun h84 => ?_)
          · simp at h84
          refine x_skip rfl ?_
          refine go_keep [1, 4, 8] [0, 1, 90] ?_
          refine st_ ?_
          exact key _ ⟨G3, hle2.trans hle3, rfl⟩
        · refine x_skip rfl ?_
          refine go_keep [1, 4, 8] [0, 1, 90] ?_
          refine st_ ?_
          exact key _ ⟨G2, hle2, rfl⟩
      · refine st_ ?_
        refine runo0 400 hty hnt hmh ?_; refine st_ ?_
        refine go_ops ?_
        refine x_iff rfl rfl rfl ?_
        refine x_skip rfl ?_
        refine go_keep [1, 4, 8] [0, 1, 90] ?_
        refine st_ ?_
        exact key _ ⟨G2, hle2, rfl⟩
    · refine x_skip rfl ?_
      refine go_keep [1, 4, 8] [0, 1, 90] ?_
      refine st_ ?_
      exact key _ ⟨G1, Le.refl _, rfl⟩
  rintro s' ⟨G2, hle2, rfl⟩
  simp only [List.drop_succ_cons, List.drop_zero]
  have hle02 := hle1.trans hle2
  have hps2 := Rp.S_mono hle02 hps0
  have hms2 := Rp.S_mono hle02 hms0
  clear hsx hsx0 hps hms hps0 hms0
  refine rn_ ?_; intros
  refine go_call (by rw [hnt]; rfl) (by rw [hP]; kernel_rfl) rfl (hP ▸ join_ok p [] _ _ G2 hps2 (Rp.S_nil _ _) (by simp)) ?_
  rintro v G3 (hle3 : Le G2 G3) ⟨sj, rfl, hsj⟩
  have hps3 := Rp.S_mono hle3 hps2
  have hms3 := Rp.S_mono hle3 hms2
  rcases Bool.eq_false_or_eq_true (rgtP p) with hr | hr
  · have hj0 := joR_nil hr
    rw [hj0] at hsj ⊢
    have hsj0 := hsj
    obtain ⟨adj, capj, rfl⟩ := Rp.S_slice hsj
    refine rn_ ?_; intros
    rename_i b15
    refine x_draw rfl (by rw [hP]; kernel_rfl) rfl (by kernel_rfl) ?_
    refine runq 400 hty hnt ?_; refine st_ ?_
    refine q_callf (by rw [hnt]; rfl) (by rw [hP]; kernel_rfl) rfl (hP ▸ num_ok 0 G3) ?_; refine runq 400 hty hnt ?_; refine st_ ?_
    refine q_callf (by rw [hnt]; rfl) (by rw [hP]; kernel_rfl) rfl (hP ▸ (checkp_ok p _ G3 hps3).val (v' := .int .i64 0) (by rw [rgtP_yes hr])) ?_
    refine runq 400 hty hnt ?_; refine st_ ?_
    refine q_callf (by rw [hnt]; rfl) (by rw [hP]; kernel_rfl) rfl (hP ▸ num_ok 0 G3) ?_; refine runq 400 hty hnt ?_; refine st_ ?_
    (refine go_qsplit rfl rfl (fun hc => absurd hc (by simp)) (fun _ => ?_); refine st_ ?_; (try (refine runq 400 hty hnt ?_; refine st_ ?_)))
    refine q_callf (by rw [hnt]; rfl) (by rw [hP]; kernel_rfl) rfl (hP ▸ num_ok 0 G3) ?_; refine runq 400 hty hnt ?_; refine st_ ?_
    (refine go_qsplit rfl rfl (fun _ => ?_) (fun hc => absurd hc (by simp)); refine st_ ?_; (try (refine runq 400 hty hnt ?_; refine st_ ?_)))
    refine q_callf (by rw [hnt]; rfl) (by rw [hP]; kernel_rfl) rfl (hP ▸ (samep_ok p p _ _ G3 hsj0 hps3).val (v' := .bool true) (by rw [fuL_refl])) ?_
    refine runq 400 hty hnt ?_; refine st_ ?_
    refine q_end ?_; refine rn_ ?_; intros
    (refine x_split rfl rfl rfl (fun hc => absurd hc (by first | decide +kernel | simp)) (fun _ => ?_); refine st_ ?_; (refine ru_ ?_; intros))
    refine go_call (by rw [hnt]; rfl) (by rw [hP]; kernel_rfl) rfl (hP ▸ join_ok p more _ _ G3 hps3 hms3 (by omega)) ?_
    rintro v G4 (hle4 : Le G3 G4) ⟨sk, rfl, hsk⟩
    have hsk0 := hsk
    obtain ⟨adk, capk, rfl⟩ := Rp.S_slice hsk
    refine rn_ ?_; intros
    rename_i b17
    (refine go_callf (by rw [hnt]; rfl) (by rw [hP]; kernel_rfl) rfl (by rw [hP]; exact num_ok _ _) ?_; refine rn_ ?_; intros)
    refine x_split rfl rfl rfl (fun hg => ?_) (fun hg => ?_) <;> (refine st_ ?_; (refine ru_ ?_; intros))
    · refine go_callf (by rw [hnt]; rfl) (by rw [hP]; kernel_rfl) rfl (hP ▸ works_ok G4) ?_; refine rn_ ?_; intros
      refine x_retM 90 rfl hQ hmb rfl rfl rfl (by rw [hty]; simp only [so, sq, zy, zz, tyE, SO', SQ', opQ, opStore, opAlloc, ev, putS, dOk, cv, SV.cs, SV.one, SV.bool?, eqB, Value.oneCell', ldOwn, binInt, binConst, binBool, binStr, isC, TK.agg, rv, rv1, ldV, resOne, resV, Nat.reduceAdd, Nat.reduceMul, Nat.reduceSub, Nat.reduceLT, Nat.reduceLeDiff, Nat.reduceEqDiff, Nat.reduceBEq, reduceIte, reduceCtorEq, eq_self]; try rfl) ?_; simp only [SV.den, resV, dens]
    have hg' : (joR p more).2 = 0 := by simpa using hg
    obtain ⟨_, hs2, hq1, hq2, hv⟩ := joR_ok hg'
    have hcalls := fun (i : Nat) (hi : i < (p ++ more.map (shF p.length)).length) (x : Int × Int) (hx : x ∈ calP (fu (p ++ more.map (shF p.length)) i)) => join_calls hg' hi hx
    have hreach := join_reach hg'
    have hsiz : siz (p ++ more.map (shF p.length)) = siz p + siz more := by rw [siz_app, siz_sh]
    rw [hq1] at hsk0 ⊢
    clear hsk
    generalize hq : p ++ more.map (shF p.length) = q at *
    have hqb := rgtP_bd hq2
    have hqn := (rgtP_of hq2).1
    have hps4 := Rp.S_mono hle4 hps3
    have hms4 := Rp.S_mono hle4 hms3
    refine x_draw rfl (by rw [hP]; kernel_rfl) rfl (by kernel_rfl) ?_
    refine runq 400 hty hnt ?_; refine st_ ?_
    refine q_callf (by rw [hnt]; rfl) (by rw [hP]; kernel_rfl) rfl (hP ▸ (checkp_ok q _ G4 hsk0).val (v' := .int .i64 0) (by rw [rgtP_yes hq2])) ?_
    refine runq 400 hty hnt ?_; refine st_ ?_
    refine q_callf (by rw [hnt]; rfl) (by rw [hP]; kernel_rfl) rfl (hP ▸ num_ok 0 G4) ?_; refine runq 400 hty hnt ?_; refine st_ ?_
    (refine go_qsplit rfl rfl (fun hc => absurd hc (by simp)) (fun _ => ?_); refine st_ ?_; (try (refine runq 400 hty hnt ?_; refine st_ ?_)))
    refine q_callf (by rw [hnt]; rfl) (by rw [hP]; kernel_rfl) rfl (hP ▸ sizep_ok q _ G4 hsk0 (by omega)) ?_; refine runq 400 hty hnt ?_; refine st_ ?_
    refine q_callf (by rw [hnt]; rfl) (by rw [hP]; kernel_rfl) rfl (hP ▸ sizep_ok p _ G4 hps4 (by omega)) ?_; refine runq 400 hty hnt ?_; refine st_ ?_
    refine q_callf (by rw [hnt]; rfl) (by rw [hP]; kernel_rfl) rfl (by rw [hP]; exact of_ok _ _ _ _) ?_
    refine runq 400 hty hnt ?_; refine st_ ?_
    refine q_callf (by rw [hnt]; rfl) (by rw [hP]; kernel_rfl) rfl (hP ▸ sizep_ok more _ G4 hms4 (by omega)) ?_; refine runq 400 hty hnt ?_; refine st_ ?_
    refine q_end ?_; refine rn_ ?_; intros
    have hz3 := siz_le p p.length
    have hz4 := siz_le more more.length
    rw [wr (n := siz p + siz more) (by omega) (by omega)]
    (refine x_split rfl rfl rfl (fun hc => absurd hc (by simp [hsiz])) (fun _ => ?_); refine st_ ?_; (refine ru_ ?_; intros))
    rename_i b19 b20
    refine go_keep [4, 8, 17, 19, 20] [0, 1, 90, 92, 93, 94] ?_
    refine st_ ?_
    refine x_loop rfl (fun qq s => ∃ (i : Nat) (b20 : Nat) (ds : List Nat) (G' : Hp), i ≤ q.length ∧ qq = q.length - i ∧ Le G4 G' ∧
      s = ⟨[(4, .p 0 b4 0), (8, .p 1 b8 0), (17, .p 92 b17 0), (19, .p 93 b19 0), (20, .p 94 b20 0)], [(0, b4, .c 24 [.v (.slice adp p.length capp)]), (1, b8, .c 4 [.v (.bool false)]), (90, 0, dzO ds), (92, b17, .c 24 [.v (.slice adk q.length capk)]), (93, b19, .c 3 [.v (.int .i64 p.length)]), (94, b20, .c 3 [.v (.int .i64 i)])], G', ds.map mkD⟩) ⟨0, b20, [], G4, by omega, rfl, Le.refl _, rfl⟩ ?_
    clear b20
    rintro qq s ⟨i, b20, ds, G5, hi, hqq, hle5, rfl⟩ ih
    refine rn_ ?_; intros
    refine x_if rfl rfl rfl rfl (fun hil => ?_) (fun hil => ?_)
    · have hlt : i < q.length := by simp at hil; omega
      obtain ⟨bq, oq, nsq, rfl, hatq, hpq, hnq⟩ := rF_at hsk0 hlt
      have hca := calls_ok (fu q i) nsq G5 hpq (Rp.S_mono hle5 hnq)
      have hcl := hcalls i hlt
      generalize hfi : fu q i = f at *
      obtain ⟨adn, capn, rfl⟩ := Rp.S_slice hnq
      refine rn_ ?_; intros
      refine go_q (by rw [hnt]; rfl) (quiet_index (by rw [hty]; rfl) (by rw [hty]; rfl) rfl rfl rfl (by omega) (by omega)) ?_
      refine rn_ ?_; intros
      refine go_q (by rw [hnt]; rfl) (quiet_load (by rw [hty]; rfl) rfl (by simp [TK.agg]) (hatq.mono hle5) rfl) ?_
      refine rn_ ?_; intros
      refine go_call (by rw [hnt]; rfl) (by rw [hP]; kernel_rfl) rfl (hP ▸ hca) ?_
      rintro v G6 (hle6 : Le G5 G6) ⟨fn, cp, rfl, hfc, hit⟩
      replace hit := hit.mono (diff_le G6 G5)
      refine rn_ ?_; intros
      refine go_q (by rw [hnt]; rfl) (quiet_feq (by rw [hty]; rfl) rfl rfl) ?_
      refine rn_ ?_; intros
      (refine x_split rfl rfl rfl (fun hc => absurd hc (by first | decide +kernel | simp)) (fun _ => ?_); refine st_ ?_; (refine ru_ ?_; intros))
      refine go_keep [4, 8, 17, 19, 20, 150] [0, 1, 90, 92, 93, 94] ?_
      refine st_ ?_
      refine x_range 90 rfl rfl (ps := #[151, 152]) rfl hro hmh rfl rfl hfc (by rw [hnt]; decide) hit (encII_mono _) (fun _ _ _ h => by obtain ⟨_, _, rfl⟩ := h; rfl)
        (fun k own => own = [(0, b4, .c 24 [.v (.slice adp p.length capp)]), (1, b8, .c 4 [.v (.bool false)]), (90, 0, dzO ds), (92, b17, .c 24 [.v (.slice (some ⟨bq, oq, none⟩) q.length capk)]), (93, b19, .c 3 [.v (.int .i64 p.length)]), (94, b20, .c 3 [.v (.int .i64 i)])])
        (fun _ _ => False)
        (fun i own h => by subst h; exact ⟨keys_lt rfl, (by repeat (first | exact plain_nil | refine plain_cons (fun _ h => h) ?_)), rfl⟩) (fun _ _ h => h.elim) rfl ?_ ?_ (fun _ _ _ _ h => h.elim)
      · rintro C' C0 k own vs G7 lp D r hiN rfl (hle7 : Le G6 G7) ⟨x, hLk, rfl⟩ hR
        obtain ⟨c1, c2, c3⟩ := hcl x (List.mem_of_getElem? hLk)
        have hd : decide (x.2 < (p.length : Int)) = decide ((i : Int) < (p.length : Int)) := by
          rw [decide_eq_decide]; omega
        have hnt2 := hR.nt.trans hnt; have hty2 := hR.ty.trans hty; have hP2 := hR.P.trans hP; clear hQ hQp hnt hty hP hmh hmb hro; have hnt := hnt2; have hty := hty2; have hP := hP2; have hmh := hR.mh; have hQp := hR.qp; simp only [putsS, List.toList_toArray]; refine st_ ?_
        refine rn_ ?_; intros
        refine go_br rfl hR.ready ?_
        refine st_ ?_
        refine rn_ ?_; intros
        (refine go_gsplit rfl rfl (fun hc => absurd hc (by rw [hd]; simp)) (fun _ => ?_); refine st_ ?_; (refine rn_ ?_; intros))
        (refine go_gsplit rfl rfl (fun hc => absurd hc (by simp; omega)) (fun _ => ?_); refine st_ ?_; (refine rn_ ?_; intros))
        (refine x_split rfl rfl rfl (fun hc => absurd hc (by simp; omega)) (fun _ => ?_); refine st_ ?_; (refine ru_ ?_; intros))
        refine go_keep [4, 8, 17, 19, 20] [998, 999, 0, 1, 90, 92, 93, 94] ?_
        refine st_ ?_
        exact go_rend hR rfl rfl (by simp only [rmk]; rfl)
      · rintro D own G7 rfl (hle7 : Le G6 G7)
        refine st_ ?_
        refine rn_ ?_; intros
        rename_i b21
        rw [wr (n := (i : Int) + 1) (by omega) (by omega)]
        refine go_keep [4, 8, 17, 19, 20] [0, 1, 90, 92, 93, 95] ?_
        refine st_ ?_
        refine go_rekey 95 94 rfl rfl (by omega) (by omega) ?_
        refine st_ ?_
        refine go_slot 20 (.p 94 b21 0) rfl (by simp [SV.den]) ?_
        refine st_ ?_
        exact ih (q.length - (i + 1)) _ (by omega) ⟨i + 1, b21, D :: ds, G7, by omega, rfl, hle5.trans (hle6.trans hle7), by simp⟩
    clear ih hil
    have hps5 := Rp.S_mono hle5 hps4
    have hsk5 := Rp.S_mono hle5 hsk0
    refine rn_ ?_; intros
    refine go_keep [4, 8, 17, 19] [0, 1, 90, 92, 93] ?_
    refine st_ ?_
    refine cut_tail 1 (fun s' => ∃ (G' : Hp) (f1 : FuncId) (u1 : List Value) (f2 : FuncId) (u2 : List Value), Le G5 G' ∧ canCall C.P f1 = true ∧ canCall C.P f2 = true ∧ Iter C.P f1 u1 G' (encII (rL p)) (rL p).length ∧ Iter C.P f2 u2 G' (encII (rL p)) (rL p).length ∧
      s' = ⟨[(4, .p 0 b4 0), (8, .p 1 b8 0), (17, .p 92 b17 0), (19, .p 93 b19 0), (24, .v (.func (.func f1) #[] u1.toArray)), (25, .v (.func (.func f2) #[] u2.toArray))], [(0, b4, .c 24 [.v (.slice adp p.length capp)]), (1, b8, .c 4 [.v (.bool false)]), (90, 0, dzO ds), (92, b17, .c 24 [.v (.slice adk q.length capk)]), (93, b19, .c 3 [.v (.int .i64 p.length)])], G', ds.map mkD⟩) ?_ (fun key => ?_)
    rotate_left
    · simp only [List.drop_succ_cons, List.drop_zero] at key
      have hle55 := Le.refl G5
      refine x_held [(0, b4, .c 24 [.v (.slice adp p.length capp)]), (92, b17, .c 24 [.v (.slice adk q.length capk)])] rfl (by rw [hP]; kernel_rfl) rfl rfl rfl ?_; refine st_ ?_
      refine h_take 0 rfl (by kernel_rfl) (by kernel_rfl) (by kernel_rfl) hQp (by rw [hnt]; rfl) (allIn (by repeat (first | exact trivial | refine ⟨rfl, ?_⟩))) (by first | exact Le.refl _ | assumption) (quiet_op (by rw [hty]; first | rfl | (refine st_ ?_; rfl))) ?_; refine st_ ?_
      refine h_take 2 rfl (by kernel_rfl) (by kernel_rfl) (by kernel_rfl) hQp (by rw [hnt]; rfl) (allIn (by repeat (first | exact trivial | refine ⟨rfl, ?_⟩))) (by first | exact Le.refl _ | assumption) (quiet_op (by rw [hty]; first | rfl | (refine st_ ?_; rfl))) ?_; refine st_ ?_
      refine h_one 1 rfl (by kernel_rfl) ?_
      refine go_call (by rw [hnt]; rfl) (by rw [hP]; kernel_rfl) rfl (hP ▸ reach_ok p _ G5 hps5) ?_
      rintro v G6 (hle6 : Le G5 G6) ⟨f1, u1, rfl, hf1, hi1⟩
      replace hi1 := hi1.mono (diff_le G6 G5)
      refine rn_ ?_; intros
      refine h_hs (allIn (by repeat (first | exact trivial | refine ⟨rfl, ?_⟩))) (by first | exact Le.refl _ | assumption) ?_
      refine h_one 3 rfl (by kernel_rfl) ?_
      refine go_call (by rw [hnt]; rfl) (by rw [hP]; kernel_rfl) rfl (hP ▸ reach_ok q _ G6 (Rp.S_mono hle6 hsk5)) ?_
      rintro v G7 (hle7 : Le G6 G7) ⟨f2, u2, rfl, hf2, hi2⟩
      replace hi2 := hi2.mono (diff_le G7 G6)
      rw [hreach] at hi2
      have hle57 := hle6.trans hle7
      refine rn_ ?_; intros
      refine h_hs (allIn (by repeat (first | exact trivial | refine ⟨rfl, ?_⟩))) (by first | exact Le.refl _ | assumption) ?_
      refine h_take 4 rfl (by kernel_rfl) (by kernel_rfl) (by kernel_rfl) hQp (by rw [hnt]; rfl) (allIn (by repeat (first | exact trivial | refine ⟨rfl, ?_⟩))) (by first | exact Le.refl _ | assumption) (quiet_op (by rw [hty]; first | rfl | (refine st_ ?_; rfl))) ?_; refine st_ ?_
      refine h_take 5 rfl (by kernel_rfl) (by kernel_rfl) (by kernel_rfl) hQp (by rw [hnt]; rfl) (allIn (by repeat (first | exact trivial | refine ⟨rfl, ?_⟩))) (by first | exact Le.refl _ | assumption) (quiet_op (by rw [hty]; first | rfl | (refine st_ ?_; rfl))) ?_; refine st_ ?_
      refine h_end (by kernel_rfl) ?_
      refine go_keep [4, 8, 17, 19, 24, 25] [0, 1, 90, 92, 93] ?_
      refine st_ ?_
      exact key _ ⟨G7, f1, u1, f2, u2, hle57, hf1, hf2, hi1.mono hle7, hi2, rfl⟩
    rintro s' ⟨G6, f1, u1, f2, u2, hle6, hf1, hf2, hi1, hi2, rfl⟩
    simp only [List.drop_succ_cons, List.drop_zero]
    have hmem := fun (x : Int × Int) (hx : x ∈ rL p) => rL_mem hx
    have hsor := rL_sorted p
    generalize rL p = L at *
    refine rn_ ?_; intros
    refine go_q (by rw [hnt]; rfl) (quiet_feq (by rw [hty]; rfl) rfl rfl) ?_
    refine rn_ ?_; intros
    (refine go_gsplit rfl rfl (fun hc => absurd hc (by first | decide +kernel | simp)) (fun _ => ?_); refine st_ ?_; (refine rn_ ?_; intros))
    refine go_q (by rw [hnt]; rfl) (quiet_feq (by rw [hty]; rfl) rfl rfl) ?_
    refine rn_ ?_; intros
    (refine x_split rfl rfl rfl (fun hc => absurd hc (by first | decide +kernel | simp)) (fun _ => ?_); refine st_ ?_; (refine ru_ ?_; intros))
    refine go_make 70 (by rw [hnt]; rfl) (by rw [hty]; rfl) (by rw [hty]; rfl) rfl rfl (Nat.le_refl _) rfl (by omega) (by omega) (by simp only []; omega) (by simp) ?_
    intro g
    rw [rep_far]
    refine rn_ ?_; intros
    rename_i b26
    refine go_keep [4, 8, 17, 19, 25, 26, 186] [0, 1, 90, 92, 93, 70, 94] ?_
    refine st_ ?_
    refine x_range 90 rfl rfl (ps := #[187, 188]) rfl hro hmh rfl rfl hf1 (by rw [hnt]; decide) hi1 (encII_mono _) (fun _ _ _ h => by obtain ⟨_, _, rfl⟩ := h; rfl)
      (fun k own => own = [(0, b4, .c 24 [.v (.slice adp p.length capp)]), (1, b8, .c 4 [.v (.bool false)]), (90, 0, dzO ds), (92, b17, .c 24 [.v (.slice adk q.length capk)]), (93, b19, .c 3 [.v (.int .i64 p.length)]), (70, g, .row (.slice (some ⟨g, 0, none⟩) q.length q.length) 3 1 q.length ((farW (L.take k) q.length).map (.int .i64 ·))), (94, b26, .c 36 [.v (.slice (some ⟨g, 0, none⟩) q.length q.length)])])
      (fun _ _ => False)
      (fun i own h => by subst h; exact ⟨keys_lt rfl, (by repeat (first | exact plain_nil | refine plain_cons (fun _ h => h) ?_)), rfl⟩) (fun _ _ h => h.elim) rfl ?_ ?_ (fun _ _ _ _ h => h.elim)
    · rintro C' C0 k own vs G7 lp D r hiN rfl (hle7 : Le G6 G7) ⟨x, hLk, rfl⟩ hR
      obtain ⟨t, d, rfl, htn, hd65⟩ := hmem x (List.mem_of_getElem? hLk)
      have hadd := far_add (m := q.length) hsor hLk
      have hfl := farW_len (L.take k) q.length
      have hpq : p.length ≤ q.length := by rw [← hq]; simp
      have hnt2 := hR.nt.trans hnt; have hty2 := hR.ty.trans hty; have hP2 := hR.P.trans hP; clear hQ hQp hnt hty hP hmh hmb hro; have hnt := hnt2; have hty := hty2; have hP := hP2; have hmh := hR.mh; have hQp := hR.qp; simp only [putsS, List.toList_toArray]; refine st_ ?_
      refine rn_ ?_; intros
      refine go_br rfl hR.ready ?_
      refine st_ ?_
      refine rn_ ?_; intros
      (refine go_gsplit rfl rfl (fun hc => absurd hc (by simp; try omega)) (fun _ => ?_); refine st_ ?_; (refine rn_ ?_; intros))
      (refine go_gsplit rfl rfl (fun hc => absurd hc (by simp; try omega)) (fun _ => ?_); refine st_ ?_; (refine rn_ ?_; intros))
      (refine x_split rfl rfl rfl (fun hc => absurd hc (by simp; try omega)) (fun _ => ?_); refine st_ ?_; (refine ru_ ?_; intros))
      refine go_q (by rw [hnt]; rfl) (quiet_index (by rw [hty]; rfl) (by rw [hty]; rfl) rfl rfl rfl (by omega) (by omega)) ?_
      refine rn_ ?_; intros
      rw [wr (n := (d : Int) + 1) (by omega) (by omega)]
      refine go_storeR 70 rfl (by rw [hty]; rfl) rfl rfl rfl rfl rfl rfl (lay1 (i := t) ((d : Int) + 1) (by omega) (by simp) rfl) ?_
      rw [hadd]
      refine rn_ ?_; intros
      refine go_keep [4, 8] [998, 999, 0, 1, 90, 92, 93, 70, 94] ?_
      refine st_ ?_
      exact go_rend hR rfl rfl (by simp only [rmk]; rfl)
    rintro D own G7 rfl (hle7 : Le G6 G7)
    rw [List.take_length]
    refine st_ ?_
    refine rn_ ?_; intros
    refine go_keep [4, 8, 17, 19, 26, 205] [0, 1, 90, 92, 93, 70, 94] ?_
    refine st_ ?_
    refine x_range 90 (ds := D :: ds) rfl rfl (ps := #[206, 207]) rfl hro hmh rfl rfl hf2 (by rw [hnt]; decide) (hi2.mono hle7) (encII_mono _) (fun _ _ _ h => by obtain ⟨_, _, rfl⟩ := h; rfl)
      (fun k own => own = [(0, b4, .c 24 [.v (.slice adp p.length capp)]), (1, b8, .c 4 [.v (.bool false)]), (90, 0, dzO (D :: ds)), (92, b17, .c 24 [.v (.slice adk q.length capk)]), (93, b19, .c 3 [.v (.int .i64 p.length)]), (70, g, .row (.slice (some ⟨g, 0, none⟩) q.length q.length) 3 1 q.length ((farW (L.drop k) q.length).map (.int .i64 ·))), (94, b26, .c 36 [.v (.slice (some ⟨g, 0, none⟩) q.length q.length)])])
      (fun _ _ => False)
      (fun i own h => by subst h; exact ⟨keys_lt rfl, (by repeat (first | exact plain_nil | refine plain_cons (fun _ h => h) ?_)), rfl⟩) (fun _ _ h => h.elim) rfl ?_ ?_ (fun _ _ _ _ h => h.elim)
    · rintro C' C0 k own vs G8 lp D2 r hiN rfl (hle8 : Le G7 G8) ⟨x, hLk, rfl⟩ hR
      obtain ⟨t, d, rfl, htn, hd65⟩ := hmem x (List.mem_of_getElem? hLk)
      obtain ⟨hdel, hval⟩ := far_del (m := q.length) hsor hLk
      have hfl := farW_len (L.drop k) q.length
      have hpq : p.length ≤ q.length := by rw [← hq]; simp
      have hnt2 := hR.nt.trans hnt; have hty2 := hR.ty.trans hty; have hP2 := hR.P.trans hP; clear hQ hQp hnt hty hP hmh hmb hro; have hnt := hnt2; have hty := hty2; have hP := hP2; have hmh := hR.mh; have hQp := hR.qp; simp only [putsS, List.toList_toArray]; refine st_ ?_
      refine rn_ ?_; intros
      refine go_br rfl hR.ready ?_
      refine st_ ?_
      refine rn_ ?_; intros
      (refine go_gsplit rfl rfl (fun hc => absurd hc (by simp; try omega)) (fun _ => ?_); refine st_ ?_; (refine rn_ ?_; intros))
      (refine go_gsplit rfl rfl (fun hc => absurd hc (by simp; try omega)) (fun _ => ?_); refine st_ ?_; (refine rn_ ?_; intros))
      refine go_q (by rw [hnt]; rfl) (quiet_index (by rw [hty]; rfl) (by rw [hty]; rfl) rfl rfl rfl (by omega) (by omega)) ?_
      refine rn_ ?_; intros
      refine go_q (v := .int .i64 ((d : Int) + 1)) (by rw [hnt]; rfl) ((quiet_loadR (k := 70) (by rw [hty]; rfl) rfl (by simp [TK.agg]) rfl (by simp [hfl]; omega)).cast (by exact (ld1 (i := t) (by omega) (by simp)).trans (by rw [farW_get, hval]))) ?_
      refine rn_ ?_; intros
      rw [wr (n := (d : Int) + 1) (by omega) (by omega)]
      (refine x_split rfl rfl rfl (fun hc => absurd hc (by simp)) (fun _ => ?_); refine st_ ?_; (refine ru_ ?_; intros))
      refine go_q (by rw [hnt]; rfl) (quiet_index (by rw [hty]; rfl) (by rw [hty]; rfl) rfl rfl rfl (by omega) (by omega)) ?_
      refine rn_ ?_; intros
      refine go_storeR 70 rfl (by rw [hty]; rfl) rfl rfl rfl rfl rfl rfl (lay1 (i := t) (0 : Int) (by omega) (by simp) rfl) ?_
      rw [hdel]
      refine rn_ ?_; intros
      refine go_keep [4, 8] [998, 999, 0, 1, 90, 92, 93, 70, 94] ?_
      refine st_ ?_
      exact go_rend hR rfl rfl (by simp only [rmk]; rfl)
    rintro D2 own G8 rfl (hle8 : Le G7 G8)
    rw [List.drop_length]
    have hfl := farW_len [] q.length
    refine st_ ?_
    refine rn_ ?_; intros
    refine go_keep [4, 8, 26, 31] [0, 1, 90, 70, 94] ?_
    refine st_ ?_
    refine x_loop rfl (fun qq s => ∃ (i : Nat), i ≤ q.length ∧ qq = q.length - i ∧
      s = ⟨[(4, .p 0 b4 0), (8, .p 1 b8 0), (26, .p 94 b26 0), (31, .v (.int .i64 i))], [(0, b4, .c 24 [.v (.slice adp p.length capp)]), (1, b8, .c 4 [.v (.bool false)]), (90, 0, dzO (D2 :: D :: ds)), (70, g, .row (.slice (some ⟨g, 0, none⟩) q.length q.length) 3 1 q.length ((farW [] q.length).map (.int .i64 ·))), (94, b26, .c 36 [.v (.slice (some ⟨g, 0, none⟩) q.length q.length)])], G8, mkD D2 :: mkD D :: ds.map mkD⟩) ⟨0, by omega, rfl, rfl⟩ ?_
    rintro qq2 s ⟨i2, hi2', hqq2, rfl⟩ ih2
    refine rn_ ?_; intros
    refine x_if rfl rfl rfl rfl (fun hil => ?_) (fun hil => ?_)
    · have hlt : i2 < q.length := by simp at hil; omega
      refine rn_ ?_; intros
      refine go_q (by rw [hnt]; rfl) (quiet_index (by rw [hty]; rfl) (by rw [hty]; rfl) rfl rfl rfl (by omega) (by omega)) ?_
      refine rn_ ?_; intros
      refine go_q (v := .int .i64 0) (by rw [hnt]; rfl) ((quiet_loadR (k := 70) (by rw [hty]; rfl) rfl (by simp [TK.agg]) rfl (by simp [hfl]; omega)).cast (by exact (ld1 (i := i2) (by omega) (by simp)).trans (by rw [farW_get, fW_nil]))) ?_
      refine rn_ ?_; intros
      (refine x_split rfl rfl rfl (fun hc => absurd hc (by simp)) (fun _ => ?_); refine st_ ?_; (refine ru_ ?_; intros))
      rw [wr (n := (i2 : Int) + 1) (by omega) (by omega)]
      refine go_keep [4, 8, 26, 31] [0, 1, 90, 70, 94] ?_
      refine st_ ?_
      exact ih2 (q.length - (i2 + 1)) _ (by omega) ⟨i2 + 1, by omega, rfl, by simp⟩
    clear ih2 hil
    refine rn_ ?_; intros
    refine go_callf (by rw [hnt]; rfl) (by rw [hP]; kernel_rfl) rfl (hP ▸ works_ok G8) ?_; refine rn_ ?_; intros
    refine x_retM 90 rfl hQ hmb rfl rfl rfl (by rw [hty]; simp only [so, sq, zy, zz, tyE, SO', SQ', opQ, opStore, opAlloc, ev, putS, dOk, cv, SV.cs, SV.one, SV.bool?, eqB, Value.oneCell', ldOwn, binInt, binConst, binBool, binStr, isC, TK.agg, rv, rv1, ldV, resOne, resV, Nat.reduceAdd, Nat.reduceMul, Nat.reduceSub, Nat.reduceLT, Nat.reduceLeDiff, Nat.reduceEqDiff, Nat.reduceBEq, reduceIte, reduceCtorEq, eq_self]; try rfl) ?_; simp only [SV.den, resV, dens]
  · have hj0 : joR p [] = ([], 70) := by simp [joR, hr]
    have hj1 : joR p more = ([], 70) := by simp [joR, hr]
    rw [hj0] at hsj ⊢
    obtain ⟨adj, capj, rfl⟩ := Rp.S_slice hsj
    refine rn_ ?_; intros
    rename_i b15
    refine x_draw rfl (by rw [hP]; kernel_rfl) rfl (by kernel_rfl) ?_
    refine runq 400 hty hnt ?_; refine st_ ?_
    refine q_callf (by rw [hnt]; rfl) (by rw [hP]; kernel_rfl) rfl (hP ▸ num_ok 70 G3) ?_; refine runq 400 hty hnt ?_; refine st_ ?_
    refine q_callf (by rw [hnt]; rfl) (by rw [hP]; kernel_rfl) rfl (hP ▸ (checkp_ok p _ G3 hps3).val (v' := .int .i64 70) (by rw [rgtP_no hr])) ?_
    refine runq 400 hty hnt ?_; refine st_ ?_
    refine q_callf (by rw [hnt]; rfl) (by rw [hP]; kernel_rfl) rfl (hP ▸ num_ok 70 G3) ?_; refine runq 400 hty hnt ?_; refine st_ ?_
    (refine go_qsplit rfl rfl (fun hc => absurd hc (by simp)) (fun _ => ?_); refine st_ ?_; (try (refine runq 400 hty hnt ?_; refine st_ ?_)))
    refine q_callf (by rw [hnt]; rfl) (by rw [hP]; kernel_rfl) rfl (hP ▸ num_ok 70 G3) ?_; refine runq 400 hty hnt ?_; refine st_ ?_
    (refine go_qsplit rfl rfl (fun hc => absurd hc (by simp)) (fun _ => ?_); refine st_ ?_; (try (refine runq 400 hty hnt ?_; refine st_ ?_)))
    refine q_end ?_; refine rn_ ?_; intros
    refine go_call (by rw [hnt]; rfl) (by rw [hP]; kernel_rfl) rfl (hP ▸ join_ok p more _ _ G3 hps3 hms3 (by omega)) ?_
    rintro v G4 (hle4 : Le G3 G4) ⟨sk, rfl, hsk⟩
    rw [hj1] at hsk ⊢
    obtain ⟨adk, capk, rfl⟩ := Rp.S_slice hsk
    refine rn_ ?_; intros
    (refine go_callf (by rw [hnt]; rfl) (by rw [hP]; kernel_rfl) rfl (by rw [hP]; exact num_ok _ _) ?_; refine rn_ ?_; intros)
    (refine x_split rfl rfl rfl (fun _ => ?_) (fun hc => absurd hc (by first | decide +kernel | simp)); refine st_ ?_; (refine ru_ ?_; intros))
    refine go_callf (by rw [hnt]; rfl) (by rw [hP]; kernel_rfl) rfl (hP ▸ works_ok G4) ?_; refine rn_ ?_; intros
    refine x_retM 90 rfl hQ hmb rfl rfl rfl (by rw [hty]; simp only [so, sq, zy, zz, tyE, SO', SQ', opQ, opStore, opAlloc, ev, putS, dOk, cv, SV.cs, SV.one, SV.bool?, eqB, Value.oneCell', ldOwn, binInt, binConst, binBool, binStr, isC, TK.agg, rv, rv1, ldV, resOne, resV, Nat.reduceAdd, Nat.reduceMul, Nat.reduceSub, Nat.reduceLT, Nat.reduceLeDiff, Nat.reduceEqDiff, Nat.reduceBEq, reduceIte, reduceCtorEq, eq_self]; try rfl) ?_; simp only [SV.den, resV, dens]
end Go.Proofs.Ytmdkenpodcnnbaa
namespace Go.Proofs.Ytmdkenpodcnnbaa.programHolds
set_option linter.unusedSimpArgs false
set_option linter.unusedVariables false
open Go.ChangeShapes Go.WideShapes Go.ChangeAt Go.RowKit Go.Sx

set_option maxRecDepth 100000
theorem contract (H : Type) (enc : TypeId × Value → H) (W : World) (base : Nat) (args : Array Value) (ds gs : List (DataW H)) (before : List MemPlace)
    (hval : ∀ (j : Nat) t v, Try.f6.params[j]? = some t → args[j]? = some v → Value.okWide Try.prog W .any base t v)
    (hW : DataW.Whole enc Try.prog Try.f6.params.toList Rows.programHoldsSpec.vars false W args.toList ds gs before) :
    Calls Try.prog 6 args W fun e W' => ∃ v, e = .returned v ∧ Rows.programHoldsSpec.post enc Try.prog Try.f6 false true false false W args v W' := by
  have hW' := hW
  obtain ⟨p, q, hA0, hV, rfl, hfz, hnd⟩ := hW
  have hA : DataW.TrodAll enc Try.prog W 0 (fun _ => true) true Try.f6.params.toList args.toList ds p := hA0
  rw [Try.params6] at hA hval
  obtain ⟨v0, vs0, d0, ds0, p0, q0, hargs, rfl, rfl, h0, r0⟩ := trodAll_cons hA
  obtain ⟨v1, vs1, d1, ds1, p1, q1, rfl, rfl, rfl, h1, r1⟩ := trodAll_cons r0
  obtain ⟨v2, vs2, d2, ds2, p2, q2, rfl, rfl, rfl, h2, r2⟩ := trodAll_cons r1
  obtain ⟨v3, vs3, d3, ds3, p3, q3, rfl, rfl, rfl, h3, r3⟩ := trodAll_cons r2
  obtain ⟨rfl, rfl, rfl⟩ := trodAll_nil r3
  obtain rfl : args = #[v0, v1, v2, v3] := by cases args; simp_all
  obtain ⟨rfl, rfl⟩ := trodVars_none hV
  clear hA0
  obtain ⟨a2, rfl, rfl, rfl, w2⟩ := open_int Try.underlying3 (hval 2 3 v2 rfl rfl) h2
  obtain ⟨a3, rfl, rfl, rfl, w3⟩ := open_int Try.underlying3 (hval 3 3 v3 rfl rfl) h3
  simp only [List.append_nil, List.nil_append] at hW'
  have h0k := h0
  obtain ⟨n0, hf0⟩ := h0
  obtain ⟨cs0, rfl, hsz0⟩ := okWide_struct Try.underlying24 (hval 0 24 v0 rfl rfl)
  obtain ⟨f0, ns0, hcs0, hr0⟩ := open_prog (w := W) hf0
  have hcs0' : cs0 = #[ns0] := by
    apply Array.ext'
    simpa [Value.cells] using hcs0
  subst hcs0'
  have h1k := h1
  obtain ⟨n1, hf1⟩ := h1
  obtain ⟨ad1, len1, cap1, rfl⟩ := okWide_slice Try.underlying22 (hval 1 22 v1 rfl rfl)
  obtain ⟨ns1, f1, hcs1, hr1⟩ := open_funs (w := W) hf1
  obtain rfl : (Value.slice ad1 len1 cap1) = ns1 := by simpa [Value.cells] using hcs1
  have hlt0 : ∀ x ∈ p0, x.block < W.heap.size := fun x hx => by simpa using hW'.lt x (by simp [hx])
  have hlt1 : ∀ x ∈ p1, x.block < W.heap.size := fun x hx => by simpa using hW'.lt x (by simp [hx])
  refine (programHolds_ok f0 f1 ns0 _ a2 a3 (hp W) (wf_i64 w2) (wf_i64 w3) hr0 hr1 W (has_hp W)).mono ?_
  rintro e W' ⟨v, G', rfl, hg, rfl⟩
  have hb := hg.below
  exact ⟨_, rfl, post_below rfl rfl hW' (fun _ _ _ => (trodAll_cons_mk (shut_bool Try.underlying4 _) trodAll_mk0))
    (fun sp hsp => by have this := (trodAll_cons_mk (WideElems.Trod_stays laidOut (by kernel_rfl) (of_decide_eq_true (by kernel_rfl)) h0k (fun x hx => hb.same (hlt0 x hx)) (fun x hx => hsp x (by simp [hx]))) (trodAll_cons_mk (WideElems.Trod_stays laidOut (by kernel_rfl) (of_decide_eq_true (by kernel_rfl)) h1k (fun x hx => hb.same (hlt1 x hx)) (fun x hx => hsp x (by simp [hx]))) (trodAll_cons_mk (shut_int Try.underlying3 w2) (trodAll_cons_mk (shut_int Try.underlying3 w3) trodAll_mk0)))); simp only [List.append_nil, List.nil_append] at this; exact this)
    hb (ok_one (by kernel_rfl) rfl (okWide_bool_mk Try.underlying4 _))⟩

set_option maxRecDepth 100000 in
theorem lifted (os : Os) (started : os.Started) (H : Type) (enc : TypeId × Value → H) :
    ReturnsInHanded {} Try.checked os 6 .any (Rows.programHoldsSpec.pre6 enc Try.prog Try.f6 Rows.programHoldsRow.domain false) (Rows.programHoldsSpec.post enc Try.prog Try.f6 false true false false) := by
  refine returnsInHanded_of_change (C := Try.checked) own started (by kernel_rfl) Try.func6
    (ChangeSpec.witness6 (enc := enc) (C := Try.checked) false ⟨#[], #[.agg #[.slice none 0 0], .slice none 0 0, .int .i64 0, .int .i64 0], []⟩ 8 (by kernel_rfl) (by kernel_rfl) (by kernel_rfl) (by kernel_rfl)) ?_
  intro W base args ds gs before hval hW _ _
  exact contract H enc W base args ds gs before hval hW

theorem over : Rows.programHoldsRow.holds Try.pinned (OpenSpec.ofChange Rows.programHoldsSpec) :=
  OpenClaim.holds_of_wide 6 Try.f6 rfl rfl rfl rfl rfl rfl rfl ⟨rfl, rfl, rfl, rfl, rfl⟩ rfl rfl rfl rfl rfl (by kernel_rfl) Try.func6 (by kernel_rfl)
    (of_decide_eq_true (by kernel_rfl)) (by unfold Func.isWrapper; first | (rw [if_pos (by decide +kernel)]; kernel_rfl) | (rw [if_neg (by decide +kernel)]; exact ⟨rfl, rfl⟩))
    (fun os started H enc _ => lifted os started H enc)

theorem proved : Rows.ProgramHoldsSaid := over
end Go.Proofs.Ytmdkenpodcnnbaa.programHolds

