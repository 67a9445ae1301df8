/-
  Rows.ProgramReachesSaid is proved here.
-/
import Derived.Test.YtmdkenpodcnnbaaZ4
set_option linter.unusedSimpArgs false
set_option linter.unusedVariables false
namespace Go.Proofs.Ytmdkenpodcnnbaa
set_option linter.unusedSimpArgs false
set_option linter.unusedVariables false
open Go.Sx
theorem cals_snoc (x : Nd) : ∀ (l : List Nd) (i : Nat), cals (l ++ [x]) i = cals l i ++ (if nms x.op then [(((i + l.length : Nat) : Int), x.n)] else [])
  | [], i => by simp [cals]
  | y :: l, i => by
    simp only [List.cons_append, cals, cals_snoc x l (i + 1), List.length_cons]
    rw [show i + 1 + l.length = i + (l.length + 1) by omega]
    split <;> simp
def pcK (l : List Nd) (k : Nat) : List Nat := (cals (l.take k) 0).map fun x => x.2.toNat
theorem pcK_succ {l : List Nd} {k : Nat} (h : k < l.length) : pcK l (k + 1) = pcK l k ++ (if nms l[k].op then [l[k].n.toNat] else []) := by
  have : l.take (k + 1) = l.take k ++ [l[k]] := by rw [List.take_append_getElem]
  simp only [pcK, this, cals_snoc, List.map_append]
  split <;> simp
theorem pcK_all {f : Fu} (h : (whr f).2 = 0) : pcK f.nodes f.nodes.length = (calP f).map fun x => x.2.toNat := by
  simp only [pcK, List.take_length, calP_eq h]
def iZ (l : List Int) : List Value := l.map (.int .i64 ·)
theorem ldZ {l : List Int} {i off : Nat} (h : i < l.length) (ho : off = i) : ldV false (((iZ l).drop off).take 1) = .int .i64 l[i] := ld1 h ho
theorem layZ {l : List Int} {i off : Nat} (x : Int) {v : Value} (h : i < l.length) (ho : off = i) (hv : v = .int .i64 x) : lay (iZ l) off [v] = some (iZ (l.set i x)) := lay1 x h ho hv
theorem radd_len (far : Nat) (out : List Int) (j : Nat) : (radd far out j).length = out.length := by
  unfold radd; split <;> simp
theorem radds_len (far : Nat) : ∀ (l : List Nat) (out : List Int), (l.foldl (radd far) out).length = out.length
  | [], _ => rfl
  | j :: l, out => by rw [List.foldl_cons, radds_len far l, radd_len]
theorem rep_iZ : ∀ n : Nat, rep [.int .i64 0] n = iZ (List.replicate n 0)
  | 0 => rfl
  | n + 1 => by rw [rep, rep_iZ n, List.replicate_succ]; rfl
theorem rstep_len (cl : Nat → List Nat) (far : Nat) (out : List Int) (i : Nat) : (rstep cl far out i).length = out.length := by
  unfold rstep; split
  · rw [radds_len]
  · rfl
theorem rsteps_len (cl : Nat → List Nat) (far : Nat) : ∀ (l : List Nat) (out : List Int), (l.foldl (rstep cl far) out).length = out.length
  | [], _ => rfl
  | i :: l, out => by rw [List.foldl_cons, rsteps_len cl far l, rstep_len]
theorem rrounds_len (cl : Nat → List Nat) (n : Nat) : ∀ (l : List Nat) (out : List Int), (l.foldl (fun out far => rround cl n far out) out).length = out.length
  | [], _ => rfl
  | i :: l, out => by rw [List.foldl_cons, rrounds_len cl n l, rround, rsteps_len]
theorem cals_mem : ∀ {l : List Nd} {i k : Nat} (h : k < l.length), nms l[k].op = true → (((i + k : Nat) : Int), l[k].n) ∈ cals l i
  | x :: l, i, 0, _, hn => by simp only [List.getElem_cons_zero] at hn; simp [cals, hn]
  | x :: l, i, k + 1, h, hn => by
    have := cals_mem (l := l) (i := i + 1) (k := k) (by simpa using h) (by simpa using hn)
    simp only [cals, List.getElem_cons_succ]
    rw [show i + (k + 1) = i + 1 + k by omega]
    split
    · exact List.mem_cons_of_mem _ this
    · exact this
theorem ov_eq {out : List Int} {j : Nat} (h : j < out.length) : ov out j = out[j] := by simp [ov, h]
def rfar (p : Pr) : List Int := if rgtP p then rout (pcl p) p.length else []
def rR (p : Pr) (far : Nat) : List Int := (List.range far).foldl (fun out far => rround (pcl p) p.length far out) ((List.replicate p.length (-1 : Int)).set 0 0)
def rI' (p : Pr) (far i : Nat) : List Int := (List.range i).foldl (rstep (pcl p) far) (rR p far)
theorem rR_len (p : Pr) (far : Nat) : (rR p far).length = p.length := by rw [rR, rrounds_len]; simp
theorem rI'_len (p : Pr) (far i : Nat) : (rI' p far i).length = p.length := by rw [rI', rsteps_len, rR_len]
theorem rI'_succ (p : Pr) (far i : Nat) : rI' p far (i + 1) = rstep (pcl p) far (rI' p far i) i := by rw [rI', List.range_succ, List.foldl_append]; rfl
theorem rR_succ (p : Pr) (far : Nat) : rR p (far + 1) = rI' p far p.length := by rw [rR, List.range_succ, List.foldl_append]; rfl
set_option maxHeartbeats 4000000
theorem refreach_ok (p : Pr) (ps : Value) (G : Hp) (hps : rF.S G p ps) : Pure Try.prog 15 [.agg #[ps]] G (fun v G' => rI.S G' (rfar p) v) := by
  have hps0 := hps
  obtain ⟨adp, capp, rfl⟩ := Rp.S_slice hps
  refine enterX ty tyok Try.func15 rfl Try.ntmps15 [.a [.v (.slice adp p.length capp)]] (by simp) ?_
  intro C hP hQ hnt hty hmb hmh hro; have hQp := qp_body hQ; refine st_ ?_
  refine rn_ ?_; intros
  rename_i b1
  refine go_callf (by rw [hnt]; rfl) (by rw [hP]; kernel_rfl) rfl (hP ▸ rrightp_ok p _ G hps0) ?_; refine rn_ ?_; intros
  refine x_split rfl rfl rfl (fun hr => ?_) (fun hr => ?_) <;> (refine st_ ?_; (refine ru_ ?_; intros))
  · refine x_retc rfl hQ hmb rfl (by rw [hty]; simp only [so, sq, zy, zz, tyE, SO', SQ', opQ, opStore, opAlloc, ev, putS, dOk, cv, SV.cs, SV.one, SV.bool?, eqB, Value.oneCell', ldOwn, binInt, binConst, binBool, binStr, isC, TK.agg, rv, rv1, ldV, resOne, resV, Nat.reduceAdd, Nat.reduceMul, Nat.reduceSub, Nat.reduceLT, Nat.reduceLeDiff, Nat.reduceEqDiff, Nat.reduceBEq, reduceIte, reduceCtorEq, eq_self]; try rfl) rfl ?_; simp only [SV.den, resV, dens]
    have : rgtP p = false := by simpa using hr
    simp only [rfar, this, Bool.false_eq_true, if_false]
    exact Rp.S_nil _ _
  have hr' : rgtP p = true := by simpa using hr
  obtain ⟨hlen, hbad, _, _⟩ := rgtP_of hr'
  have hlt := pcl_lt hr'
  refine go_make 40 (by rw [hnt]; rfl) (by rw [hty]; rfl) (by rw [hty]; rfl) rfl rfl (Nat.le_refl _) rfl (by omega) (by omega) (by simp only []; omega) (by simp) ?_
  intro g
  rw [rep_iZ]
  refine rn_ ?_; intros
  refine go_keep [1, 3, 4] [0, 40] ?_
  refine st_ ?_
  refine x_loop rfl (fun q s => ∃ (i : Nat) (out : List Int), i ≤ p.length ∧ q = p.length - i ∧ out.length = p.length ∧ (∀ (j : Nat) (h : j < out.length), j < i → out[j] = -1) ∧
    s = ⟨[(1, .p 0 b1 0), (3, .v (.slice (some ⟨g, 0, none⟩) p.length p.length)), (4, .v (.int .i64 i))], [(0, b1, .c 24 [.v (.slice adp p.length capp)]), (40, g, .row (.slice (some ⟨g, 0, none⟩) p.length p.length) 3 1 p.length (iZ out))], G, []⟩) ⟨0, _, by omega, rfl, by simp, by simp, rfl⟩ ?_
  rintro q s ⟨i, out, hi, hq, hol, hov, rfl⟩ ih
  refine rn_ ?_; intros
  refine x_if rfl rfl rfl rfl (fun hil => ?_) (fun hil => ?_)
  · have hil' : i < p.length := by simp at hil; omega
    refine rn_ ?_; intros
    refine go_q (by rw [hnt]; rfl) (quiet_index (by rw [hty]; rfl) (by rw [hty]; rfl) rfl rfl rfl (by omega) (by omega)) ?_
    refine rn_ ?_; intros
    refine go_storeR 40 rfl (by rw [hty]; rfl) rfl rfl rfl rfl rfl rfl (layZ (-1) (i := i) (by omega) (by simp) rfl) ?_
    refine rn_ ?_; intros
    rw [wr (n := (i : Int) + 1) (by omega) (by omega)]
    refine go_keep [1, 3, 4] [0, 40] ?_
    refine st_ ?_
    refine ih (p.length - (i + 1)) _ (by omega) ⟨i + 1, out.set i (-1), by omega, rfl, by simpa using hol, fun j h hj => ?_, by simp⟩
    rw [List.getElem_set]
    split
    · rfl
    · exact hov j (by simpa using h) (by omega)
  have hge : i = p.length := by simp at hil; omega
  subst hge
  clear ih hil
  obtain rfl : out = List.replicate p.length (-1) := by
    apply List.ext_getElem (by simpa using hol)
    intro j h1 h2
    rw [hov j h1 (by omega)]; simp
  refine rn_ ?_; intros
  refine go_q (by rw [hnt]; rfl) (quiet_index (by rw [hty]; rfl) (by rw [hty]; rfl) rfl rfl rfl (by omega) (by omega)) ?_
  refine rn_ ?_; intros
  refine go_storeR 40 rfl (by rw [hty]; rfl) rfl rfl rfl rfl rfl rfl (layZ 0 (i := 0) (by simp; omega) (by simp) rfl) ?_
  refine rn_ ?_; intros
  refine go_keep [1, 3, 5] [0, 40] ?_
  refine st_ ?_
  refine x_loop rfl (fun q s => ∃ (far : Nat), far ≤ p.length ∧ q = p.length - far ∧
    s = ⟨[(1, .p 0 b1 0), (3, .v (.slice (some ⟨g, 0, none⟩) p.length p.length)), (5, .v (.int .i64 far))], [(0, b1, .c 24 [.v (.slice adp p.length capp)]), (40, g, .row (.slice (some ⟨g, 0, none⟩) p.length p.length) 3 1 p.length (iZ (rR p far)))], G, []⟩) ⟨0, by omega, rfl, rfl⟩ ?_
  clear hq hi hov hol q
  rintro q s ⟨far, hfar, hq, rfl⟩ ih
  refine rn_ ?_; intros
  refine x_if rfl rfl rfl rfl (fun hil => ?_) (fun hil => ?_)
  · have hfl : far < p.length := by simp at hil; omega
    refine rn_ ?_; intros
    refine go_keep [1, 3, 5, 6] [0, 40] ?_
    refine st_ ?_
    refine x_loop rfl (fun q s => ∃ (i : Nat), i ≤ p.length ∧ q = p.length - i ∧
      s = ⟨[(1, .p 0 b1 0), (3, .v (.slice (some ⟨g, 0, none⟩) p.length p.length)), (5, .v (.int .i64 far)), (6, .v (.int .i64 i))], [(0, b1, .c 24 [.v (.slice adp p.length capp)]), (40, g, .row (.slice (some ⟨g, 0, none⟩) p.length p.length) 3 1 p.length (iZ (rI' p far i)))], G, []⟩) ⟨0, by omega, rfl, rfl⟩ ?_
    rintro q s ⟨i, hi, hq, rfl⟩ ihi
    refine rn_ ?_; intros
    have hlI := rI'_len p far i
    refine x_if rfl rfl rfl rfl (fun hil2 => ?_) (fun hil2 => ?_)
    · have hil' : i < p.length := by simp at hil2; omega
      refine rn_ ?_; intros
      refine go_q (by rw [hnt]; rfl) (quiet_index (by rw [hty]; rfl) (by rw [hty]; rfl) rfl rfl rfl (by omega) (by omega)) ?_
      refine rn_ ?_; intros
      refine go_q (v := .int .i64 (rI' p far i)[i]) (by rw [hnt]; rfl) ((quiet_loadR (k := 40) (by rw [hty]; rfl) rfl (by simp [TK.agg]) rfl (by simp [iZ]; omega)).cast (by exact ldZ (by omega) (by simp))) ?_
      refine rn_ ?_; intros
      refine x_split rfl rfl rfl (fun hne => ?_) (fun hne => ?_) <;> (refine st_ ?_; (refine ru_ ?_; intros))
      · have hne' : ov (rI' p far i) i ≠ far := by rw [ov_eq (by omega)]; simpa using hne
        rw [wr (n := (i : Int) + 1) (by omega) (by omega)]
        refine go_keep [1, 3, 5, 6] [0, 40] ?_
        refine st_ ?_
        exact ihi (p.length - (i + 1)) _ (by omega) ⟨i + 1, by omega, rfl, by rw [rI'_succ, rstep, if_neg hne']; simp⟩
      have heq : ov (rI' p far i) i = far := by rw [ov_eq (by omega)]; simpa using hne
      obtain ⟨bp, op, nsp, rfl, hatp, hpp, hnp⟩ := rF_at hps0 hil'
      have hmem : fu p i ∈ p := by rw [fu_eq hil']; exact List.getElem_mem _
      have hv := badF_ok hbad _ hmem
      have hn63 := Rp.S_len hnp
      have hnp0 := hnp
      obtain ⟨adn, capn, rfl⟩ := Rp.S_slice hnp
      have hatp1 : At G bp (op + i * 2 + 1) [.slice adn (fu p i).nodes.length capn] := by simpa using hatp.sub 1 1 (by simp)
      refine go_keep [1, 3, 5, 6, 7] [0, 40] ?_
      refine st_ ?_
      clear hne
      generalize hO : rI' p far i = O at *
      refine x_loop rfl (fun q s => ∃ (k : Nat), k ≤ (fu p i).nodes.length ∧ q = (fu p i).nodes.length - k ∧
        s = ⟨[(1, .p 0 b1 0), (3, .v (.slice (some ⟨g, 0, none⟩) p.length p.length)), (5, .v (.int .i64 far)), (6, .v (.int .i64 i)), (7, .v (.int .i64 k))], [(0, b1, .c 24 [.v (.slice (some ⟨bp, op, none⟩) p.length capp)]), (40, g, .row (.slice (some ⟨g, 0, none⟩) p.length p.length) 3 1 p.length (iZ ((pcK (fu p i).nodes k).foldl (radd far) O)))], G, []⟩) ⟨0, by omega, rfl, rfl⟩ ?_
      rintro q s ⟨k, hk, hq, rfl⟩ ihk
      have hlK : ((pcK (fu p i).nodes k).foldl (radd far) O).length = p.length := by rw [radds_len]; exact hlI
      refine rn_ ?_; intros
      refine go_q (by rw [hnt]; rfl) (quiet_index (by rw [hty]; rfl) (by rw [hty]; rfl) rfl rfl rfl (by omega) (by omega)) ?_
      refine rn_ ?_; intros
      refine go_q (by rw [hnt]; rfl) (quiet_load (by rw [hty]; rfl) rfl (by simp [TK.agg]) hatp1 rfl) ?_; refine rn_ ?_; intros
      refine x_if rfl rfl rfl rfl (fun hkl => ?_) (fun hkl => ?_)
      · have hkt : k < (fu p i).nodes.length := by simp at hkl; omega
        obtain ⟨bn, offn, capn', cn, hse, hatn, sl, rfl, hop, hnn, hsl⟩ := Rp.S_get hnp0 hkt
        cases hse
        have hc := rnames_ok (fu p i).nodes[k] sl G hsl
        obtain ⟨ads, caps, rfl⟩ := Rp.S_slice hsl
        have hpk := pcK_succ hkt
        refine rn_ ?_; intros
        refine go_q (by rw [hnt]; rfl) (quiet_index (by rw [hty]; rfl) (by rw [hty]; rfl) rfl rfl rfl (by omega) (by omega)) ?_
        refine rn_ ?_; intros
        refine go_q (by rw [hnt]; rfl) (quiet_load (by rw [hty]; rfl) rfl (by simp [TK.agg]) hatp1 rfl) ?_; refine rn_ ?_; intros
        refine go_q (by rw [hnt]; rfl) (quiet_index (by rw [hty]; rfl) (by rw [hty]; rfl) rfl rfl rfl (by omega) (by omega)) ?_
        refine rn_ ?_; intros
        refine go_q (by rw [hnt]; rfl) (quiet_load (by rw [hty]; rfl) rfl (by simp [TK.agg]) (by simpa [rN] using hatn) rfl) ?_
        refine rn_ ?_; intros
        rename_i b8
        refine go_callf (by rw [hnt]; rfl) (by rw [hP]; kernel_rfl) rfl (hP ▸ hc) ?_; refine rn_ ?_; intros
        refine go_gsplit rfl rfl (fun hn => ?_) (fun hn => ?_) <;> (refine st_ ?_; (refine rn_ ?_; intros))
        · have hrg := nms_range hv hkt hn
          have hcm := cals_mem (i := 0) hkt hn
          rw [← calP_eq hv] at hcm
          have htl := hlt i _ (List.mem_map.2 ⟨_, hcm, rfl⟩)
          simp only at htl
          rw [hn, if_pos rfl] at hpk
          obtain ⟨t, ht⟩ : ∃ t : Nat, (fu p i).nodes[k].n = t := ⟨(fu p i).nodes[k].n.toNat, by omega⟩
          rw [ht, Int.toNat_natCast] at htl hpk
          simp only [ht]
          generalize hO2 : (pcK (fu p i).nodes k).foldl (radd far) O = O2 at *
          have hpk2 : (pcK (fu p i).nodes (k + 1)).foldl (radd far) O = radd far O2 t := by rw [hpk, List.foldl_append, hO2]; rfl
          refine go_q (by rw [hnt]; rfl) (quiet_index (by rw [hty]; rfl) (by rw [hty]; rfl) rfl rfl rfl (by omega) (by omega)) ?_
          refine rn_ ?_; intros
          refine go_q (v := .int .i64 O2[t]) (by rw [hnt]; rfl) ((quiet_loadR (k := 40) (by rw [hty]; rfl) rfl (by simp [TK.agg]) rfl (by simp [iZ]; omega)).cast (by exact ldZ (by omega) (by simp))) ?_
          refine rn_ ?_; intros
          refine x_split rfl rfl rfl (fun hneg => ?_) (fun hneg => ?_) <;> (refine st_ ?_; (refine ru_ ?_; intros))
          · have hneg' : ov O2 t < 0 := by rw [ov_eq (by omega)]; simpa using hneg
            refine go_q (by rw [hnt]; rfl) (quiet_index (by rw [hty]; rfl) (by rw [hty]; rfl) rfl rfl rfl (by omega) (by omega)) ?_
            refine rn_ ?_; intros
            rw [wr (n := (far : Int) + 1) (by omega) (by omega)]
            refine go_storeR 40 rfl (by rw [hty]; rfl) rfl rfl rfl rfl rfl rfl (layZ ((far : Int) + 1) (i := t) (by omega) (by simp) rfl) ?_
            refine rn_ ?_; intros
            rw [wr (n := (k : Int) + 1) (by omega) (by omega)]
            refine go_keep [1, 3, 5, 6, 7] [0, 40] ?_
            refine st_ ?_
            exact ihk ((fu p i).nodes.length - (k + 1)) _ (by omega) ⟨k + 1, by omega, rfl, by rw [hpk2, radd, if_pos hneg']; simp⟩
          · have hneg' : ¬ ov O2 t < 0 := by rw [ov_eq (by omega)]; simpa using hneg
            rw [wr (n := (k : Int) + 1) (by omega) (by omega)]
            refine go_keep [1, 3, 5, 6, 7] [0, 40] ?_
            refine st_ ?_
            exact ihk ((fu p i).nodes.length - (k + 1)) _ (by omega) ⟨k + 1, by omega, rfl, by rw [hpk2, radd, if_neg hneg']; simp⟩
        · rw [hn, if_neg (by simp), List.append_nil] at hpk
          rw [wr (n := (k : Int) + 1) (by omega) (by omega)]
          refine go_keep [1, 3, 5, 6, 7] [0, 40] ?_
          refine st_ ?_
          exact ihk ((fu p i).nodes.length - (k + 1)) _ (by omega) ⟨k + 1, by omega, rfl, by rw [hpk]; simp⟩
      have hge : k = (fu p i).nodes.length := by simp at hkl; omega
      subst hge
      clear ihk hkl
      rw [pcK_all hv]
      refine rn_ ?_; intros
      rw [wr (n := (i : Int) + 1) (by omega) (by omega)]
      refine go_keep [1, 3, 5, 6] [0, 40] ?_
      refine st_ ?_
      exact ihi (p.length - (i + 1)) _ (by omega) ⟨i + 1, by omega, rfl, by rw [rI'_succ, rstep, hO, if_pos heq]; simp [pcl]⟩
    have hge : i = p.length := by simp at hil2; omega
    subst hge
    clear ihi hil2
    refine rn_ ?_; intros
    rw [wr (n := (far : Int) + 1) (by omega) (by omega)]
    refine go_keep [1, 3, 5] [0, 40] ?_
    refine st_ ?_
    exact ih (p.length - (far + 1)) _ (by omega) ⟨far + 1, by omega, rfl, by rw [rR_succ]; simp⟩
  have hge : far = p.length := by simp at hil; omega
  subst hge
  clear ih hil
  have hinv := rout_inv (n := p.length) (by omega) hlt p.length
  have hL : rI.L G (rR p p.length) (iZ (rR p p.length)) := by
    refine rI_L.2 ⟨rfl, fun v hv => ?_⟩
    obtain ⟨j, hj, rfl⟩ := List.getElem_of_mem hv
    have h1 := hinv.low j
    have h2 := hinv.top j
    have h3 : ov (rR p p.length) j = (rR p p.length)[j] := ov_eq hj
    simp only [isI64]
    unfold rR at *
    omega
  refine go_pubL rI 40 rfl (by omega) (by rw [rR_len]) (by omega) hL ?_
  rintro G2 ad2 cap2 (hle2 : Le G G2) hse2 hS2
  refine rn_ ?_; intros
  refine x_retc rfl hQ hmb rfl (by rw [hty]; simp only [so, sq, zy, zz, tyE, SO', SQ', opQ, opStore, opAlloc, ev, putS, dOk, cv, SV.cs, SV.one, SV.bool?, eqB, Value.oneCell', ldOwn, binInt, binConst, binBool, binStr, isC, TK.agg, rv, rv1, ldV, resOne, resV, Nat.reduceAdd, Nat.reduceMul, Nat.reduceSub, Nat.reduceLT, Nat.reduceLeDiff, Nat.reduceEqDiff, Nat.reduceBEq, reduceIte, reduceCtorEq, eq_self]; try rfl) rfl ?_; simp only [SV.den, resV, dens]
  rw [hse2]
  simp only [rfar, hr', if_true]
  exact hS2
end Go.Proofs.Ytmdkenpodcnnbaa
namespace Go.Proofs.Ytmdkenpodcnnbaa
set_option linter.unusedSimpArgs false
set_option linter.unusedVariables false
open Go.Sx
def wl (F : List Int) (i : Nat) : Pl := (List.range i).filterMap fun (x : Nat) => if 0 ≤ ov F x then some ((x : Int), ov F x) else none
theorem wl_succ (F : List Int) (i : Nat) : wl F (i + 1) = wl F i ++ (if 0 ≤ ov F i then [((i : Int), ov F i)] else []) := by
  rw [wl, List.range_succ, List.filterMap_append]
  congr 1
  by_cases h : 0 ≤ ov F i <;> simp [h]
theorem wl_len (F : List Int) (i : Nat) : (wl F i).length ≤ i := by
  have := List.length_filterMap_le (fun (x : Nat) => if 0 ≤ ov F x then some ((x : Int), ov F x) else none) (List.range i)
  simpa [wl] using this
theorem wl_all {p : Pr} : wl (rfar p) (rfar p).length = rL p := by
  by_cases hr : rgtP p = true
  · have h1 := (rgtP_of hr).1
    simp only [rfar, rL, hr, if_true]
    rw [rout_len (by omega) (pcl_lt hr), rlist, wl]
    congr 1
    funext x
    simp only [od]
    split
    · simp; omega
    · rfl
  · simp [rfar, rL, hr, wl]
theorem rfar_len (p : Pr) : (rfar p).length ≤ 64 := by
  by_cases hr : rgtP p = true
  · have h1 := (rgtP_of hr).1
    simp only [rfar, hr, if_true]
    rw [rout_len (by omega) (pcl_lt hr)]; omega
  · simp [rfar, hr]
theorem rP_snoc {G : Hp} {L : Pl} {xs : List Value} {a b : Int} (h : rP.L G L xs) (ha : isI64 a) (hb : isI64 b) : rP.L G (L ++ [(a, b)]) (xs ++ [.int .i64 a, .int .i64 b]) :=
  Rp.L_append h (Rp.L_single ⟨rfl, ha, hb⟩)
set_option maxHeartbeats 8000000
set_option maxRecDepth 20000
theorem programReaches_ok (p : Pr) (ps : Value) (many : Int) (G : Hp) (hm : isI64 many) (hps : rF.S G p ps) : Pure Try.prog 4 [.agg #[ps], .int .i64 many] G (fun r _ => r = .bool true) := by
  have hps0 := hps
  obtain ⟨adp, capp, rfl⟩ := Rp.S_slice hps
  refine enterM ty tyok Try.func4 rfl Try.ntmps4 [.a [.v (.slice adp p.length capp)], .v (.int .i64 many)] (by simp) ?_
  intro C hP hQ hnt hty hmb hmh hro; have hQp := qp_bodyM hQ; refine st_ ?_
  refine rn_ ?_; intros
  rename_i b2 b3 b4
  refine go_marks 5 rfl (by omega) ?_
  refine st_ ?_
  refine go_callf (by rw [hnt]; rfl) (by rw [hP]; kernel_rfl) rfl (hP ▸ few_ok p _ G hps0) ?_; refine rn_ ?_; intros
  refine x_split rfl rfl rfl (fun h1 => ?_) (fun h1 => ?_) <;> (refine st_ ?_; (refine ru_ ?_; intros))
  · refine go_callf (by rw [hnt]; rfl) (by rw [hP]; kernel_rfl) rfl (hP ▸ works_ok G) ?_; refine rn_ ?_; intros
    refine x_retM 5 rfl hQ hmb rfl rfl rfl (by rw [hty]; simp only [so, sq, zy, zz, tyE, SO', SQ', opQ, opStore, opAlloc, ev, putS, dOk, cv, SV.cs, SV.one, SV.bool?, eqB, Value.oneCell', ldOwn, binInt, binConst, binBool, binStr, isC, TK.agg, rv, rv1, ldV, resOne, resV, Nat.reduceAdd, Nat.reduceMul, Nat.reduceSub, Nat.reduceLT, Nat.reduceLeDiff, Nat.reduceEqDiff, Nat.reduceBEq, reduceIte, reduceCtorEq, eq_self]; try rfl) ?_; simp only [SV.den, resV, dens]
  have hfew := fewP_of (show fewP p = true by simpa using h1)
  have hbd : bdP p := ⟨by omega, fun f hf => by
    obtain ⟨q1, q2⟩ := hfew.2 f hf
    exact ⟨by omega, fun x hx => by have := q2 x hx; omega⟩⟩
  refine go_call (by rw [hnt]; rfl) (by rw [hP]; kernel_rfl) rfl (hP ▸ refreach_ok p _ G hps0) ?_
  rintro v G1 (hle1 : Le G G1) hSf
  have hSf0 := hSf
  have hF64 := rfar_len p
  obtain ⟨adf, capf, rfl⟩ := Rp.S_slice hSf
  refine rn_ ?_; intros
  rename_i b6
  refine go_nilrow 41 39 2 rfl (by omega) ?_
  refine go_keep [2, 3, 4, 5, 6, 7] [0, 1, 2, 5, 6, 41] ?_
  refine st_ ?_
  generalize hF : rfar p = F at *
  refine x_loop rfl (fun q s => ∃ (i : Nat) (xs : List Value) (adw : Option Addr) (capw : Nat), i ≤ F.length ∧ q = F.length - i ∧ rP.L G1 (wl F i) xs ∧
    s = ⟨[(2, .p 0 b2 0), (3, .p 1 b3 0), (4, .p 2 b4 0), (5, .v (.slice adf F.length capf)), (6, .p 6 b6 0), (7, .v (.int .i64 i))],
      [(0, b2, .c 24 [.v (.slice adp p.length capp)]), (1, b3, .c 3 [.v (.int .i64 many)]), (2, b4, .c 4 [.v (.bool false)]), (5, 0, dzO []), (6, b6, .c 38 [.v (.slice adw (wl F i).length capw)]), (41, 0, .row (.slice adw (wl F i).length capw) 39 2 (wl F i).length xs)], G1, []⟩) ⟨0, [], none, 0, by omega, rfl, rfl, rfl⟩ ?_
  rintro q s ⟨i, xs, adw, capw, hi, hq, hxs, rfl⟩ ih
  refine rn_ ?_; intros
  refine x_if rfl rfl rfl rfl (fun hil => ?_) (fun hil => ?_)
  · have hil' : i < F.length := by simp at hil; omega
    obtain ⟨bf, of, rfl, haf⟩ := rI_at hSf0 hil'
    have hFi := rI_ok hSf0 _ (List.getElem_mem hil')
    have hov := ov_eq hil'
    have hws := wl_succ F i
    have hwl := wl_len F i
    refine rn_ ?_; intros
    refine go_q (by rw [hnt]; rfl) (quiet_index (by rw [hty]; rfl) (by rw [hty]; rfl) rfl rfl rfl (by omega) (by omega)) ?_
    refine rn_ ?_; intros
    refine go_q (by rw [hnt]; rfl) (quiet_load (vs := [.int .i64 F[i]]) (by rw [hty]; rfl) rfl (by simp [TK.agg]) (by simpa using haf) rfl) ?_
    refine rn_ ?_; intros
    refine x_split rfl rfl rfl (fun hge => ?_) (fun hge => ?_) <;> (refine st_ ?_; (refine ru_ ?_; intros))
    · have hge' : 0 ≤ ov F i := by rw [hov]; simpa using hge
      rw [if_pos hge', hov] at hws
      refine x_held [] rfl (by rw [hP]; kernel_rfl) rfl rfl rfl ?_
      refine st_ ?_
      refine h_take 1 rfl (by kernel_rfl) (by kernel_rfl) (by kernel_rfl) hQp (by rw [hnt]; rfl) (allIn (by repeat (first | exact trivial | refine ⟨rfl, ?_⟩))) (by first | exact Le.refl _ | assumption) (quiet_op (by rw [hty]; first | rfl | (refine st_ ?_; rfl))) ?_; refine st_ ?_
      refine h_take 2 rfl (by kernel_rfl) (by kernel_rfl) (by kernel_rfl) hQp (by rw [hnt]; rfl) (allIn (by repeat (first | exact trivial | refine ⟨rfl, ?_⟩))) (by first | exact Le.refl _ | assumption) (quiet_op (by rw [hty]; first | rfl | (refine st_ ?_; rfl))) ?_; refine st_ ?_
      refine h_take 3 rfl (by kernel_rfl) (by kernel_rfl) (by kernel_rfl) hQp (by rw [hnt]; rfl) (allIn (by repeat (first | exact trivial | refine ⟨rfl, ?_⟩))) (by first | exact Le.refl _ | assumption) (quiet_op (by rw [hty]; first | rfl | (refine st_ ?_; rfl))) ?_; refine st_ ?_
      refine h_take 4 rfl (by kernel_rfl) (by kernel_rfl) (by kernel_rfl) hQp (by rw [hnt]; rfl) (allIn (by repeat (first | exact trivial | refine ⟨rfl, ?_⟩))) (by first | exact Le.refl _ | assumption) (x := .v (.pointer (some ⟨bf, of + i * 1, none⟩))) ((quiet_index (by rw [hty]; rfl) (by rw [hty]; rfl) rfl rfl rfl (by omega) (by omega)).cast (by simp [SV.den])) ?_
      refine st_ ?_
      refine h_take 5 rfl (by kernel_rfl) (by kernel_rfl) (by kernel_rfl) hQp (by rw [hnt]; rfl) (allIn (by repeat (first | exact trivial | refine ⟨rfl, ?_⟩))) (by first | exact Le.refl _ | assumption) (x := .v (.int .i64 F[i])) ((quiet_load (vs := [.int .i64 F[i]]) (by rw [hty]; rfl) rfl (by simp [TK.agg]) (by simpa using haf) rfl).cast rfl) ?_
      refine st_ ?_
      refine h_take 6 rfl (by kernel_rfl) (by kernel_rfl) (by kernel_rfl) hQp (by rw [hnt]; rfl) (allIn (by repeat (first | exact trivial | refine ⟨rfl, ?_⟩))) (by first | exact Le.refl _ | assumption) (quiet_op (by rw [hty]; first | rfl | (refine st_ ?_; rfl))) ?_; refine st_ ?_
      refine h_two 0 7 rfl rfl (by kernel_rfl) ?_ ?_
      · refine rn_ ?_; intros
        refine h_hs (allIn (by repeat (first | exact trivial | refine ⟨rfl, ?_⟩))) (by first | exact Le.refl _ | assumption) ?_
        refine h_one 7 rfl (by kernel_rfl) ?_
        refine rn_ ?_; intros
        refine h_hs (allIn (by repeat (first | exact trivial | refine ⟨rfl, ?_⟩))) (by first | exact Le.refl _ | assumption) ?_
        refine h_one 8 rfl (by kernel_rfl) ?_
        refine go_append 41 (by rw [hnt]; rfl) (by rw [hty]; rfl) (by rw [hty]; rfl) (by decide) rfl rfl rfl (by omega) rfl (src_own 2 rfl rfl) rfl (by simp [dens, SV.den, Value.oneCell']) (by omega) (by simp only []; omega) ?_
        intro v'
        refine go_rowS 41 rfl ?_
        rintro ad4 cap4 rfl
        refine rn_ ?_; intros
        refine h_hs (allIn (by repeat (first | exact trivial | refine ⟨rfl, ?_⟩))) (by first | exact Le.refl _ | assumption) ?_
        refine h_one 9 rfl (by kernel_rfl) ?_
        refine rn_ ?_; intros
        refine h_hs (allIn (by repeat (first | exact trivial | refine ⟨rfl, ?_⟩))) (by first | exact Le.refl _ | assumption) ?_
        refine h_end (by kernel_rfl) ?_
        refine rn_ ?_; intros
        rw [wr (n := (i : Int) + 1) (by omega) (by omega)]
        refine go_keep [2, 3, 4, 5, 6, 7] [0, 1, 2, 5, 6, 41] ?_
        refine st_ ?_
        exact ih (F.length - (i + 1)) _ (by omega) ⟨i + 1, xs ++ [.int .i64 i, .int .i64 F[i]], ad4, cap4, by omega, rfl, by rw [hws]; exact rP_snoc hxs (by simp only [isI64]; omega) hFi, by rw [hws]; simp [dens, SV.den]⟩
      · refine rn_ ?_; intros
        refine h_hs (allIn (by repeat (first | exact trivial | refine ⟨rfl, ?_⟩))) (by first | exact Le.refl _ | assumption) ?_
        refine h_one 0 rfl (by kernel_rfl) ?_
        refine rn_ ?_; intros
        refine h_hs (allIn (by repeat (first | exact trivial | refine ⟨rfl, ?_⟩))) (by first | exact Le.refl _ | assumption) ?_
        refine h_one 8 rfl (by kernel_rfl) ?_
        refine go_append 41 (by rw [hnt]; rfl) (by rw [hty]; rfl) (by rw [hty]; rfl) (by decide) rfl rfl rfl (by omega) rfl (src_own 2 rfl rfl) rfl (by simp [dens, SV.den, Value.oneCell']) (by omega) (by simp only []; omega) ?_
        intro v'
        refine go_rowS 41 rfl ?_
        rintro ad4 cap4 rfl
        refine rn_ ?_; intros
        refine h_hs (allIn (by repeat (first | exact trivial | refine ⟨rfl, ?_⟩))) (by first | exact Le.refl _ | assumption) ?_
        refine h_one 9 rfl (by kernel_rfl) ?_
        refine rn_ ?_; intros
        refine h_hs (allIn (by repeat (first | exact trivial | refine ⟨rfl, ?_⟩))) (by first | exact Le.refl _ | assumption) ?_
        refine h_end (by kernel_rfl) ?_
        refine rn_ ?_; intros
        rw [wr (n := (i : Int) + 1) (by omega) (by omega)]
        refine go_keep [2, 3, 4, 5, 6, 7] [0, 1, 2, 5, 6, 41] ?_
        refine st_ ?_
        exact ih (F.length - (i + 1)) _ (by omega) ⟨i + 1, xs ++ [.int .i64 i, .int .i64 F[i]], ad4, cap4, by omega, rfl, by rw [hws]; exact rP_snoc hxs (by simp only [isI64]; omega) hFi, by rw [hws]; simp [dens, SV.den]⟩
    · have hge' : ¬ 0 ≤ ov F i := by rw [hov]; simpa using hge
      rw [if_neg hge', List.append_nil] at hws
      rw [wr (n := (i : Int) + 1) (by omega) (by omega)]
      refine go_keep [2, 3, 4, 5, 6, 7] [0, 1, 2, 5, 6, 41] ?_
      refine st_ ?_
      exact ih (F.length - (i + 1)) _ (by omega) ⟨i + 1, xs, adw, capw, by omega, rfl, by rw [hws]; exact hxs, by rw [hws]; simp⟩
  have hge : i = F.length := by simp at hil; omega
  subst hge
  clear ih hil hq hi
  have hW : wl F F.length = rL p := by rw [← hF]; exact wl_all
  have hWl := wl_len F F.length
  rw [hW] at hxs hWl ⊢
  generalize hL2 : rL p = L2 at *
  refine go_pubL rP 41 rfl (by omega) rfl (by omega) hxs ?_
  rintro G2 ad2 cap2 (hle2 : Le G1 G2) hse2 hSw
  cases hse2
  refine rn_ ?_; intros
  have hps2 := Rp.S_mono (hle1.trans hle2) hps0
  have hok := rF_ok hps0
  have hp70 := hfew.1
  refine go_callV 50 (by rw [hnt]; rfl) (by rw [hP]; kernel_rfl) rfl rfl (by omega) (hP ▸ copyp_ok p _ G2 hps2 hbd) ?_
  rintro v G3 rs Z (hle3 : Le G2 G3) ⟨adc, capc, vs, hvs, rfl, rfl⟩
  refine rn_ ?_; intros
  rename_i b8
  have hrP : ∀ G', (∀ (i : Nat) (r : Rw), (rowsP p vs ++ [⟨46, 2, .slice adc p.length capc, p.length, encP p vs⟩])[i]? = some r → RowAt G' r) → rF.S G' p (.slice adc p.length capc) := fun G' hr =>
    RowAt.S (hr (rowsP p vs).length ⟨46, 2, .slice adc p.length capc, p.length, encP p vs⟩ (by simp)) rfl (by omega) (encP_L hvs hok hbd.2 fun i r e => hr i r (by rw [List.getElem?_append_left (List.getElem?_eq_some_iff.1 e).1]; exact e))
  refine go_lendZF 50 (ψ := fun v H => ∃ (fn : FuncId) (cap : List Value), v = .func (.func fn) #[] cap.toArray ∧ canCall Try.prog fn = true ∧ Iter Try.prog fn cap H (encII L2) L2.length) (by rw [hnt]; rfl) (by rw [hP]; kernel_rfl) rfl rfl (by omega) (fun G4 hle4 hrows => by rw [hP, ← hL2]; exact reach_ok p _ G4 (hrP G4 hrows)) (fun v H H' hl ⟨f', c', q1, q2, q3⟩ => ⟨f', c', q1, q2, q3.mono hl⟩) ?_
  rintro v G4 (hle4 : Le G3 G4) ⟨fn, cp, rfl, hfc, hit⟩
  refine rn_ ?_; intros
  refine go_q (by rw [hnt]; rfl) (quiet_feq (by rw [hty]; rfl) rfl rfl) ?_
  refine rn_ ?_; intros
  (refine x_split rfl rfl rfl (fun hc => absurd hc (by first | decide +kernel | simp)) (fun _ => ?_); refine st_ ?_; (refine ru_ ?_; intros))
  refine go_ztake 50 60 (rowsP p vs).length (r := ⟨46, 2, .slice adc p.length capc, p.length, encP p vs⟩) rfl (by simp) rfl (by omega) (by omega) ?_
  intro Z3
  refine go_keep [2, 3, 4, 6, 8, 9, 10] [0, 1, 2, 5, 6, 51, 60] ?_
  refine st_ ?_
  have hencl := encP_len (okC_len hvs)
  refine x_loop rfl (fun q s => ∃ (i : Nat) (xs : List Value), i ≤ p.length ∧ q = p.length - i ∧ xs.length = p.length * 2 ∧
    s = ⟨[(2, .p 0 b2 0), (3, .p 1 b3 0), (4, .p 2 b4 0), (6, .p 6 b6 0), (8, .p 51 b8 0), (9, .v (.func (.func fn) #[] cp.toArray)), (10, .v (.int .i64 i))],
      [(0, b2, .c 24 [.v (.slice adp p.length capp)]), (1, b3, .c 3 [.v (.int .i64 many)]), (2, b4, .c 4 [.v (.bool false)]), (5, 0, dzO []), (6, b6, .c 38 [.v (.slice adw L2.length capw)]), (51, b8, .c 24 [.v (.slice adc p.length capc)]), (60, 0, .row (.slice adc p.length capc) 46 2 p.length xs)], G4, []⟩) ⟨0, _, by omega, rfl, hencl, rfl⟩ ?_
  rintro q s ⟨i, xs', hi, hq, hxs', rfl⟩ ih
  refine rn_ ?_; intros
  refine x_if rfl rfl rfl rfl (fun hil => ?_) (fun hil => ?_)
  · have hlt : i < p.length := by simp at hil; omega
    refine rn_ ?_; intros
    refine go_rowcases 60 rfl (fun _ h0 _ => by omega) ?_
    intro g capg hse hcg hxl
    cases hse
    refine go_q (by rw [hnt]; rfl) (quiet_index (by rw [hty]; rfl) (by rw [hty]; rfl) rfl rfl rfl (by omega) (by omega)) ?_
    refine rn_ ?_; intros
    have hlay := lay_put (xs := xs') (c := [.int .i64 0, .slice none 0 0]) (m := i * 2) (by simp; omega)
    refine go_storeR 60 rfl (by rw [hty]; rfl) rfl rfl rfl rfl rfl rfl hlay ?_
    refine rn_ ?_; intros
    rw [wr (n := (i : Int) + 1) (by omega) (by omega)]
    refine go_keep [2, 3, 4, 6, 8, 9, 10] [0, 1, 2, 5, 6, 51, 60] ?_
    refine st_ ?_
    exact ih (p.length - (i + 1)) _ (by omega) ⟨i + 1, _, by omega, rfl, by simp; omega, rfl⟩
  clear ih hil hq hi hxs'
  refine rn_ ?_; intros
  rename_i b11
  refine go_keep [2, 3, 4, 6, 9, 11] [0, 1, 2, 5, 6, 61] ?_
  refine st_ ?_
  have hSw4 := Rp.S_mono (hle3.trans hle4) hSw
  refine x_loop rfl (fun q s => ∃ (turn : Nat) (b11 : Nat) (ds : List Nat) (G' : Hp), turn ≤ 2 ∧ q = 2 - turn ∧ Le G4 G' ∧
    s = ⟨[(2, .p 0 b2 0), (3, .p 1 b3 0), (4, .p 2 b4 0), (6, .p 6 b6 0), (9, .v (.func (.func fn) #[] cp.toArray)), (11, .p 61 b11 0)],
      [(0, b2, .c 24 [.v (.slice adp p.length capp)]), (1, b3, .c 3 [.v (.int .i64 many)]), (2, b4, .c 4 [.v (.bool false)]), (5, 0, dzO ds), (6, b6, .c 38 [.v (.slice adw L2.length capw)]), (61, b11, .c 3 [.v (.int .i64 turn)])], G', ds.map mkD⟩) ⟨0, b11, [], G4, by omega, rfl, Le.refl _, rfl⟩ ?_
  clear b11
  rintro q s ⟨turn, b11, ds, G5, hturn, hq, hle5, rfl⟩ ih
  refine rn_ ?_; intros
  refine x_if rfl rfl rfl rfl (fun ht2 => ?_) (fun ht2 => ?_)
  · have hlt : turn < 2 := by simp at ht2; omega
    refine rn_ ?_; intros
    rename_i b12
    refine go_keep [2, 3, 4, 6, 9, 11, 12, 64] [0, 1, 2, 5, 6, 61, 62] ?_
    refine st_ ?_
    refine cut_tail 2 (fun s' => ∃ (m : Nat) (ds : List Nat) (G' : Hp), m ≤ L2.length ∧ Le G4 G' ∧ (turn = 0 → (m : Int) = min (L2.length : Int) (max 1 many)) ∧ (turn = 1 → m = L2.length) ∧
      s' = ⟨[(2, .p 0 b2 0), (3, .p 1 b3 0), (4, .p 2 b4 0), (6, .p 6 b6 0), (9, .v (.func (.func fn) #[] cp.toArray)), (11, .p 61 b11 0), (12, .p 62 b12 0)],
      [(0, b2, .c 24 [.v (.slice adp p.length capp)]), (1, b3, .c 3 [.v (.int .i64 many)]), (2, b4, .c 4 [.v (.bool false)]), (5, 0, dzO ds), (6, b6, .c 38 [.v (.slice adw L2.length capw)]), (61, b11, .c 3 [.v (.int .i64 turn)]), (62, b12, .c 3 [.v (.int .i64 m)])], G', ds.map mkD⟩) ?_ (fun key => ?_)
    rotate_left
    · simp only [List.drop_succ_cons, List.drop_zero] at key
      refine x_range 5 rfl rfl (ps := #[65, 66]) rfl hro hmh rfl rfl (by rw [hP]; exact hfc) (by rw [hnt]; decide) (by rw [hP]; exact hit.mono hle5) (encII_mono _) (fun _ _ _ h => by obtain ⟨_, _, rfl⟩ := h; rfl)
        (fun i own => (turn = 0 → i = 0 ∨ (i : Int) < many) ∧ own = [(0, b2, .c 24 [.v (.slice adp p.length capp)]), (1, b3, .c 3 [.v (.int .i64 many)]), (2, b4, .c 4 [.v (.bool false)]), (5, 0, dzO ds), (6, b6, .c 38 [.v (.slice adw L2.length capw)]), (61, b11, .c 3 [.v (.int .i64 turn)]), (62, b12, .c 3 [.v (.int .i64 i)])])
        (fun c own => ∃ i : Nat, c = .exit 6 ∧ turn = 0 ∧ i < L2.length ∧ (i = 0 ∨ (i : Int) < many) ∧ many ≤ i + 1 ∧ own = [(0, b2, .c 24 [.v (.slice adp p.length capp)]), (1, b3, .c 3 [.v (.int .i64 many)]), (2, b4, .c 4 [.v (.bool false)]), (5, 0, dzO ds), (6, b6, .c 38 [.v (.slice adw L2.length capw)]), (61, b11, .c 3 [.v (.int .i64 turn)]), (62, b12, .c 3 [.v (.int .i64 ((i : Int) + 1))])])
        (fun i own h => by obtain ⟨_, rfl⟩ := h; exact ⟨keys_lt rfl, (by repeat (first | exact plain_nil | refine plain_cons (fun _ h => h) ?_)), rfl⟩) (fun _ _ h => by obtain ⟨i, _, _, _, _, _, rfl⟩ := h; exact ⟨(by repeat (first | exact plain_nil | refine plain_cons (fun _ h => h) ?_)), rfl⟩) ⟨fun _ => .inl rfl, rfl⟩ ?_ ?_ ?_
      · rintro C' C0 i own vs G7 lp D r hiN ⟨hi0, rfl⟩ (hle7 : Le G5 G7) ⟨x, hLi, rfl⟩ hR
        rw [List.getElem?_eq_getElem hiN] at hLi
        simp only [Option.some.injEq] at hLi
        subst hLi
        have hle57 := hle5.trans hle7
        obtain ⟨c1, o1, rfl, ha1⟩ := rP_at (Rp.S_mono hle57 hSw4) (i := i) hiN
        have hnt2 := hR.nt.trans hnt; have hty2 := hR.ty.trans hty; have hP2 := hR.P.trans hP; clear hQ hQp hnt hty hP hmh hmb hro; have hnt := hnt2; have hty := hty2; have hP := hP2; have hmh := hR.mh; have hQp := hR.qp; simp only [putsS, List.toList_toArray]; refine st_ ?_
        refine rn_ ?_; intros
        refine go_br rfl hR.ready ?_
        refine st_ ?_
        refine rn_ ?_; intros
        (refine go_gsplit rfl rfl (fun hc => absurd hc (by simp; omega)) (fun _ => ?_); refine st_ ?_; (refine rn_ ?_; intros))
        refine go_q (by rw [hnt]; rfl) (quiet_index (by rw [hty]; rfl) (by rw [hty]; rfl) rfl rfl rfl (by omega) (by omega)) ?_
        refine rn_ ?_; intros
        refine go_q (by rw [hnt]; rfl) (quiet_load (vs := [.int .i64 L2[i].1, .int .i64 L2[i].2]) (by rw [hty]; rfl) rfl (by simp [TK.agg]) (by simpa using ha1) rfl) ?_
        refine rn_ ?_; intros
        refine go_q (v := .bool false) (by rw [hnt]; rfl) ((quiet_aneq (by rw [hty]; rfl) (by rw [hty]; rfl) rfl rfl (by rw [hP]; kernel_rfl) rfl rfl rfl rfl).cast (by simp)) ?_
        refine rn_ ?_; intros
        (refine x_split rfl rfl rfl (fun hc => absurd hc (by simp)) (fun _ => ?_); refine st_ ?_; (refine ru_ ?_; intros))
        rw [wr (n := (i : Int) + 1) (by omega) (by omega)]
        refine go_keep [3, 11, 12, 83, 84, 85] [998, 999, 0, 1, 2, 5, 6, 61, 62] ?_
        refine st_ ?_
        refine go_gsplit rfl rfl (fun ht => ?_) (fun ht => ?_) <;> (refine st_ ?_; (refine rn_ ?_; intros))
        · have ht0 : turn = 0 := by simp at ht; exact ht
          refine x_if rfl rfl rfl rfl (fun hmany => ?_) (fun hmany => ?_)
          · simp at hmany
            refine x_rexit rfl rfl rfl hR rfl rfl ?_
            simp only [rmk, reduceIte, Nat.reduceEqDiff]
            exact ⟨i, rfl, ht0, hiN, hi0 ht0, by omega, rfl⟩
          · simp at hmany
            refine x_skip rfl ?_
            refine go_blk ?_
            refine go_rend hR rfl rfl ?_
            simp only [rmk, reduceIte, Nat.reduceEqDiff]
            exact ⟨fun _ => .inr (by omega), rfl⟩
        · have ht0 : turn ≠ 0 := by simp at ht; exact ht
          refine go_rend hR rfl rfl ?_
          simp only [rmk, reduceIte, Nat.reduceEqDiff]
          exact ⟨fun h => absurd h ht0, rfl⟩
      · rintro D own G7 ⟨hi0, rfl⟩ (hle7 : Le G5 G7)
        refine st_ ?_
        refine go_blk ?_
        refine go_keep [2, 3, 4, 6, 9, 11, 12] [0, 1, 2, 5, 6, 61, 62] ?_
        refine st_ ?_
        exact key _ ⟨L2.length, D :: ds, G7, Nat.le_refl _, hle5.trans hle7, fun h => by rcases hi0 h with h | h <;> omega, fun _ => rfl, rfl⟩
      · rintro D c own G7 ⟨i, rfl, ht0, hiN, hi1, hi2, rfl⟩ (hle7 : Le G5 G7)
        refine st_ ?_
        refine x_exit rfl rfl rfl ?_
        refine go_keep [2, 3, 4, 6, 9, 11, 12] [0, 1, 2, 5, 6, 61, 62] ?_
        refine st_ ?_
        exact key _ ⟨i + 1, D :: ds, G7, hiN, hle5.trans hle7, fun h => by omega, fun h => by omega, rfl⟩
    · rintro s' ⟨m2, ds, G6, hm2L, hle6, hn0, hn1, rfl⟩
      simp only [List.drop_succ_cons, List.drop_zero]
      refine rn_ ?_; intros
      have hr0 : turn = 0 → (m2 : Int) = if (if 1 < many then many else 1) < ↑L2.length then if 1 < many then many else 1 else ↑L2.length := fun h => by
        have := hn0 h
        rw [this]; split <;> split <;> omega
      refine go_gsplit rfl rfl (fun ht => ?_) (fun ht => ?_) <;> (refine st_ ?_; (refine rn_ ?_; intros))
      · have ht0 : turn = 0 := by simpa using ht
        (refine go_gsplit rfl rfl (fun hc => absurd hc (by simp [hr0 ht0])) (fun _ => ?_); refine st_ ?_; (refine rn_ ?_; intros))
        (refine go_gsplit rfl rfl (fun hc => absurd hc (by simp [ht0])) (fun _ => ?_); refine st_ ?_; (refine rn_ ?_; intros))
        repeat (refine go_gundef rfl (by rw [hnt]; rfl) rfl ?_; (refine st_ ?_; (refine rn_ ?_; intros)))
        rename_i b16
        rw [wr (n := (turn : Int) + 1) (by omega) (by omega)]
        refine go_keep [2, 3, 4, 6, 9, 11] [0, 1, 2, 5, 6, 63] ?_
        refine st_ ?_
        refine go_rekey 63 61 rfl rfl (by omega) (by omega) ?_
        refine st_ ?_
        refine go_slot 11 (.p 61 b16 0) rfl (by simp [SV.den]) ?_
        refine st_ ?_
        exact ih (2 - (turn + 1)) _ (by omega) ⟨turn + 1, b16, ds, G6, by omega, rfl, hle6, by simp⟩
      · have ht1 : turn = 1 := by
          have : turn ≠ 0 := by simpa using ht
          omega
        repeat (refine go_gundef rfl (by rw [hnt]; rfl) rfl ?_; (refine st_ ?_; (refine rn_ ?_; intros)))
        (refine go_gsplit rfl rfl (fun _ => ?_) (fun hc => absurd hc (by simp [ht1])); refine st_ ?_; (refine rn_ ?_; intros))
        (refine x_split rfl rfl rfl (fun hc => absurd hc (by simp [hn1 ht1])) (fun _ => ?_); refine st_ ?_; (refine ru_ ?_; intros))
        rename_i b16
        rw [wr (n := (turn : Int) + 1) (by omega) (by omega)]
        refine go_keep [2, 3, 4, 6, 9, 11] [0, 1, 2, 5, 6, 63] ?_
        refine st_ ?_
        refine go_rekey 63 61 rfl rfl (by omega) (by omega) ?_
        refine st_ ?_
        refine go_slot 11 (.p 61 b16 0) rfl (by simp [SV.den]) ?_
        refine st_ ?_
        exact ih (2 - (turn + 1)) _ (by omega) ⟨turn + 1, b16, ds, G6, by omega, rfl, hle6, by simp⟩
  · clear ih
    refine rn_ ?_; intros
    refine go_callf (by rw [hnt]; rfl) (by rw [hP]; kernel_rfl) rfl (hP ▸ works_ok G5) ?_; refine rn_ ?_; intros
    refine x_retM 5 rfl hQ hmb rfl rfl rfl (by rw [hty]; simp only [so, sq, zy, zz, tyE, SO', SQ', opQ, opStore, opAlloc, ev, putS, dOk, cv, SV.cs, SV.one, SV.bool?, eqB, Value.oneCell', ldOwn, binInt, binConst, binBool, binStr, isC, TK.agg, rv, rv1, ldV, resOne, resV, Nat.reduceAdd, Nat.reduceMul, Nat.reduceSub, Nat.reduceLT, Nat.reduceLeDiff, Nat.reduceEqDiff, Nat.reduceBEq, reduceIte, reduceCtorEq, eq_self]; try rfl) ?_; simp only [SV.den, resV, dens]
end Go.Proofs.Ytmdkenpodcnnbaa
namespace Go.Proofs.Ytmdkenpodcnnbaa.programReaches
set_option linter.unusedSimpArgs false
set_option linter.unusedVariables false
open Go.ChangeShapes Go.WideShapes Go.ChangeAt Go.RowKit Go.Sx

set_option maxRecDepth 100000
theorem contract (H : Type) (enc : TypeId × Value → H) (W : World) (base : Nat) (args : Array Value) (ds gs : List (DataW H)) (before : List MemPlace)
    (hval : ∀ (j : Nat) t v, Try.f4.params[j]? = some t → args[j]? = some v → Value.okWide Try.prog W .any base t v)
    (hW : DataW.Whole enc Try.prog Try.f4.params.toList Rows.programReachesSpec.vars false W args.toList ds gs before) :
    Calls Try.prog 4 args W fun e W' => ∃ v, e = .returned v ∧ Rows.programReachesSpec.post enc Try.prog Try.f4 false true false false W args v W' := by
  have hW' := hW
  obtain ⟨p, q, hA0, hV, rfl, hfz, hnd⟩ := hW
  have hA : DataW.TrodAll enc Try.prog W 0 (fun _ => true) true Try.f4.params.toList args.toList ds p := hA0
  rw [Try.params4] at hA hval
  obtain ⟨v0, vs0, d0, ds0, p0, q0, hargs, rfl, rfl, h0, r0⟩ := trodAll_cons hA
  obtain ⟨v1, vs1, d1, ds1, p1, q1, rfl, rfl, rfl, h1, r1⟩ := trodAll_cons r0
  obtain ⟨rfl, rfl, rfl⟩ := trodAll_nil r1
  obtain rfl : args = #[v0, v1] := by cases args; simp_all
  obtain ⟨rfl, rfl⟩ := trodVars_none hV
  clear hA0
  obtain ⟨a1, rfl, rfl, rfl, w1⟩ := open_int Try.underlying3 (hval 1 3 v1 rfl rfl) h1
  simp only [List.append_nil, List.nil_append] at hW'
  have h0k := h0
  obtain ⟨n0, hf0⟩ := h0
  obtain ⟨cs0, rfl, hsz0⟩ := okWide_struct Try.underlying24 (hval 0 24 v0 rfl rfl)
  obtain ⟨f0, ns0, hcs0, hr0⟩ := open_prog (w := W) hf0
  have hcs0' : cs0 = #[ns0] := by
    apply Array.ext'
    simpa [Value.cells] using hcs0
  subst hcs0'
  have hlt0 : ∀ x ∈ p0, x.block < W.heap.size := fun x hx => by simpa using hW'.lt x (by simp [hx])
  refine (programReaches_ok f0 ns0 a1 (hp W) (wf_i64 w1) hr0 W (has_hp W)).mono ?_
  rintro e W' ⟨v, G', rfl, hg, rfl⟩
  have hb := hg.below
  exact ⟨_, rfl, post_below rfl rfl hW' (fun _ _ _ => (trodAll_cons_mk (shut_bool Try.underlying4 _) trodAll_mk0))
    (fun sp hsp => by have this := (trodAll_cons_mk (WideElems.Trod_stays laidOut (by kernel_rfl) (of_decide_eq_true (by kernel_rfl)) h0k (fun x hx => hb.same (hlt0 x hx)) (fun x hx => hsp x (by simp [hx]))) (trodAll_cons_mk (shut_int Try.underlying3 w1) trodAll_mk0)); simp only [List.append_nil, List.nil_append] at this; exact this)
    hb (ok_one (by kernel_rfl) rfl (okWide_bool_mk Try.underlying4 _))⟩

set_option maxRecDepth 100000 in
theorem lifted (os : Os) (started : os.Started) (H : Type) (enc : TypeId × Value → H) :
    ReturnsInHanded {} Try.checked os 4 .any (Rows.programReachesSpec.pre6 enc Try.prog Try.f4 Rows.programReachesRow.domain false) (Rows.programReachesSpec.post enc Try.prog Try.f4 false true false false) := by
  refine returnsInHanded_of_change (C := Try.checked) own started (by kernel_rfl) Try.func4
    (ChangeSpec.witness6 (enc := enc) (C := Try.checked) false ⟨#[], #[.agg #[.slice none 0 0], .int .i64 0], []⟩ 8 (by kernel_rfl) (by kernel_rfl) (by kernel_rfl) (by kernel_rfl)) ?_
  intro W base args ds gs before hval hW _ _
  exact contract H enc W base args ds gs before hval hW

theorem over : Rows.programReachesRow.holds Try.pinned (OpenSpec.ofChange Rows.programReachesSpec) :=
  OpenClaim.holds_of_wide 4 Try.f4 rfl rfl rfl rfl rfl rfl rfl ⟨rfl, rfl, rfl, rfl, rfl⟩ rfl rfl rfl rfl rfl (by kernel_rfl) Try.func4 (by kernel_rfl)
    (of_decide_eq_true (by kernel_rfl)) (by unfold Func.isWrapper; first | (rw [if_pos (by decide +kernel)]; kernel_rfl) | (rw [if_neg (by decide +kernel)]; exact ⟨rfl, rfl⟩))
    (fun os started H enc _ => lifted os started H enc)

theorem proved : Rows.ProgramReachesSaid := over
end Go.Proofs.Ytmdkenpodcnnbaa.programReaches

