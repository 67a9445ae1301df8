/-
  The reference of layer 29: line.
-/
import Derived.Test.YtpmmbjcgabnloaaZ5
import Derived.Deep.Strs
import Derived.Deep.Slices
import Derived.WalkKit
import Derived.ProofKit
import Derived.OpenShut
import Derived.JoinedCond
import Derived.Carry
set_option linter.unusedSimpArgs false
set_option linter.unusedVariables false
namespace Go.Proofs.Ytpmmbjcgabnloaa
set_option linter.unusedSimpArgs false
set_option linter.unusedVariables false
open Go.Sx
set_option maxHeartbeats 8000000
set_option maxRecDepth 20000
def rlRet (S : List Nat) (r : Option (List Nat)) (v : Value) (G : Hp) : Prop := match r with
  | none => v = .tuple #[.slice none 0 0, .bool false]
  | some p => ∃ sl, v = .tuple #[sl, .bool true] ∧ rI.S G ((S ++ p).map fun i : Nat => (i : Int)) sl
def endsK (l : List Op) (S : List Nat) (k : Nat) : Bool := (List.range k).all fun i => !dnA l i || S.contains i
theorem endsK_step (l : List Op) (S : List Nat) (k : Nat) : endsK l S (k + 1) = (endsK l S k && (!dnA l k || S.contains k)) := by
  rw [endsK, endsK, List.range_succ, List.all_append]
  simp
def mayK (l : List Op) (S : List Nat) (i k : Nat) : Bool := !S.contains i && (List.range k).all fun k => !ahA l i k || S.contains k
theorem mayK_step (l : List Op) (S : List Nat) (i k : Nat) : mayK l S i (k + 1) = (mayK l S i k && (!ahA l i k || S.contains k)) := by
  rw [mayK, mayK, List.range_succ, List.all_append, Bool.and_assoc]
  simp
theorem mayK_no (l : List Op) (S : List Nat) (i k n : Nat) (h : mayK l S i k = false) (hk : k ≤ n) : mayK l S i n = false := by
  obtain ⟨d, rfl⟩ : ∃ d, n = k + d := ⟨n - k, by omega⟩
  clear hk
  induction d with
  | zero => exact h
  | succ d ih => rw [show k + (d + 1) = (k + d) + 1 by omega, mayK_step, ih]; rfl
theorem rline_ok (md : Int) (l : List Op) (sl : Value) (hn8 : l.length ≤ 8) (hrg : ∀ o ∈ l, rgtO (kns md) o = true) : ∀ (fu : Nat) (s : MS) (S : List Nat) (sv sp so : Value) (G : Hp), rO.S G l sl → rI.S G (S.map fun i : Nat => (i : Int)) so → s.rep G sv sp → CapOk sv → s.inv md → s.vals.length + freeP l.length S ≤ 100 → s.ps.length + freeP l.length S ≤ 100 → freeP l.length S ≤ fu → S.length + fu ≤ 1000 → 
    Pure Try.prog 56 [.int .i64 md, sl, .agg #[sv, sp], so] G (rlRet S (srch md l fu s S)) := by
  intro fu
  induction fu using Nat.strongRecOn with
  | _ fu IH =>
  intro s S sv sp so G hl hS hs hc hinv hb1 hb2 hfu hf2
  obtain ⟨adl, capl, rfl⟩ := Rp.S_slice hl
  obtain ⟨ado, capo, e0⟩ := Rp.S_slice hS
  rw [List.length_map] at e0
  subst e0
  obtain ⟨ad1, cap1, rfl⟩ := Rp.S_slice hs.v
  obtain ⟨ad2, cap2, rfl⟩ := Rp.S_slice hs.p
  have hst := srch_step md l (s := s) hfu
  refine enterX ty tyok Try.func56 rfl Try.ntmps56 [.v (.int .i64 md), .v (.slice adl l.length capl), .a [.v (.slice ad1 s.vals.length cap1), .v (.slice ad2 s.ps.length cap2)], .v (.slice ado S.length capo)] (by simp) ?_
  intro C hP hQ hnt hty hmb hmh hro; have hQp := qp_body hQ; refine st_ ?_
  refine rn_ ?_; intros
  rename_i b0
  refine go_keep [0, 1, 3, 6, 8, 9, 10, 11] [0] ?_
  refine st_ ?_
  refine go_slot 10 (.v (.bool true)) rfl rfl ?_
  refine st_ ?_
  refine x_loop rfl (fun q st => ∃ (k : Nat), k ≤ l.length ∧ q = l.length - k ∧
    st = ⟨[(0, .v (.int .i64 md)), (1, .v (.slice adl l.length capl)), (3, .v (.slice ado S.length capo)), (6, .p 0 b0 0), (8, .v (.slice none 0 0)), (9, .b false), (10, .v (.bool (endsK l S k))), (11, .v (.int .i64 k))],
      [(0, b0, .c 44 [.v (.slice ad1 s.vals.length cap1), .v (.slice ad2 s.ps.length cap2)])], G, []⟩) ⟨0, by omega, rfl, rfl⟩ ?_
  rintro q st ⟨k, hk, hq, rfl⟩ ih
  refine rn_ ?_; intros
  refine x_if rfl rfl rfl rfl (fun hjl => ?_) (fun hjl => ?_)
  · have hlt : k < l.length := by simp at hjl; omega
    have hstep := endsK_step l S k
    obtain ⟨c1, o1, sa, sr, rfl, hat, hor⟩ := rO_at hl hlt
    have hdA : dnA l k = l[k].dn := by rw [dnA, List.getElem?_eq_getElem hlt]
    refine rn_ ?_; intros
    cases hek : endsK l S k
    · repeat (first | (refine go_gsplit rfl rfl (fun hc => absurd hc (by first | decide +kernel | (simp; first | done | fail))) (fun _ => ?_); refine st_ ?_; (refine rn_ ?_; intros)) | (refine go_gsplit rfl rfl (fun _ => ?_) (fun hc => absurd hc (by first | decide +kernel | (simp; first | done | fail))); refine st_ ?_; (refine rn_ ?_; intros)) | (refine x_split rfl rfl rfl (fun hc => absurd hc (by first | decide +kernel | (simp; first | done | fail))) (fun _ => ?_); refine st_ ?_; (refine ru_ ?_; intros)) | (refine x_split rfl rfl rfl (fun _ => ?_) (fun hc => absurd hc (by first | decide +kernel | (simp; first | done | fail))); refine st_ ?_; (refine ru_ ?_; intros)))
      repeat (refine go_gundef rfl (by rw [hnt]; rfl) rfl ?_; (refine st_ ?_; (refine rn_ ?_; intros)))
      refine rn_ ?_; intros
      rw [wr (n := (k : Int) + 1) (by omega) (by omega)]
      refine go_slot 10 (.v (.bool false)) rfl rfl ?_
      refine go_keep [0, 1, 3, 6, 8, 9, 10, 11] [0] ?_
      refine st_ ?_
      exact ih (l.length - (k + 1)) _ (by omega) ⟨k + 1, by omega, rfl, by rw [hstep, hek, Bool.false_and]; rfl⟩
    · repeat (first | (refine go_gsplit rfl rfl (fun hc => absurd hc (by first | decide +kernel | (simp; first | done | fail))) (fun _ => ?_); refine st_ ?_; (refine rn_ ?_; intros)) | (refine go_gsplit rfl rfl (fun _ => ?_) (fun hc => absurd hc (by first | decide +kernel | (simp; first | done | fail))); refine st_ ?_; (refine rn_ ?_; intros)) | (refine x_split rfl rfl rfl (fun hc => absurd hc (by first | decide +kernel | (simp; first | done | fail))) (fun _ => ?_); refine st_ ?_; (refine ru_ ?_; intros)) | (refine x_split rfl rfl rfl (fun _ => ?_) (fun hc => absurd hc (by first | decide +kernel | (simp; first | done | fail))); refine st_ ?_; (refine ru_ ?_; intros)))
      refine go_q (by rw [hnt]; rfl) (quiet_index (by rw [hty]; rfl) (by rw [hty]; rfl) rfl rfl rfl (by omega) (by omega)) ?_
      refine rn_ ?_; intros
      refine go_q (v := .bool l[k].dn) (by rw [hnt]; rfl) ((quiet_load (vs := [.bool l[k].dn]) (by rw [hty]; rfl) rfl (by simp [TK.agg]) (by simpa [opL] using hat.sub 10 1 (by simp [opL])) rfl).cast (by rfl)) ?_
      refine rn_ ?_; intros
      cases hdn : l[k].dn
      · repeat (first | (refine go_gsplit rfl rfl (fun hc => absurd hc (by first | decide +kernel | (simp; first | done | fail))) (fun _ => ?_); refine st_ ?_; (refine rn_ ?_; intros)) | (refine go_gsplit rfl rfl (fun _ => ?_) (fun hc => absurd hc (by first | decide +kernel | (simp; first | done | fail))); refine st_ ?_; (refine rn_ ?_; intros)) | (refine x_split rfl rfl rfl (fun hc => absurd hc (by first | decide +kernel | (simp; first | done | fail))) (fun _ => ?_); refine st_ ?_; (refine ru_ ?_; intros)) | (refine x_split rfl rfl rfl (fun _ => ?_) (fun hc => absurd hc (by first | decide +kernel | (simp; first | done | fail))); refine st_ ?_; (refine ru_ ?_; intros)))
        repeat (refine go_gundef rfl (by rw [hnt]; rfl) rfl ?_; (refine st_ ?_; (refine rn_ ?_; intros)))
        refine rn_ ?_; intros
        rw [wr (n := (k : Int) + 1) (by omega) (by omega)]
        refine go_slot 10 (.v (.bool true)) rfl rfl ?_
        refine go_keep [0, 1, 3, 6, 8, 9, 10, 11] [0] ?_
        refine st_ ?_
        exact ih (l.length - (k + 1)) _ (by omega) ⟨k + 1, by omega, rfl, by rw [hstep, hek, hdA, hdn, Bool.not_false, Bool.true_or, Bool.true_and]; rfl⟩
      · repeat (first | (refine go_gsplit rfl rfl (fun hc => absurd hc (by first | decide +kernel | (simp; first | done | fail))) (fun _ => ?_); refine st_ ?_; (refine rn_ ?_; intros)) | (refine go_gsplit rfl rfl (fun _ => ?_) (fun hc => absurd hc (by first | decide +kernel | (simp; first | done | fail))); refine st_ ?_; (refine rn_ ?_; intros)) | (refine x_split rfl rfl rfl (fun hc => absurd hc (by first | decide +kernel | (simp; first | done | fail))) (fun _ => ?_); refine st_ ?_; (refine ru_ ?_; intros)) | (refine x_split rfl rfl rfl (fun _ => ?_) (fun hc => absurd hc (by first | decide +kernel | (simp; first | done | fail))); refine st_ ?_; (refine ru_ ?_; intros)))
        refine go_callf (by rw [hnt]; rfl) (by rw [hP]; kernel_rfl) rfl (hP ▸ rhas_ok _ _ k G hS) ?_; refine rn_ ?_; intros
        rw [has_nat]
        refine rn_ ?_; intros
        rw [wr (n := (k : Int) + 1) (by omega) (by omega)]
        refine go_slot 10 (.v (.bool (S.contains k))) rfl rfl ?_
        refine go_keep [0, 1, 3, 6, 8, 9, 10, 11] [0] ?_
        refine st_ ?_
        exact ih (l.length - (k + 1)) _ (by omega) ⟨k + 1, by omega, rfl, by rw [hstep, hek, hdA, hdn, Bool.not_true, Bool.false_or, Bool.true_and]; rfl⟩
  · have hge : k = l.length := by simp at hjl; omega
    subst hge
    have hen : endsK l S l.length = endsP l S := rfl
    rw [hen]
    clear ih hjl hq hk
    refine rn_ ?_; intros
    refine x_if rfl rfl rfl rfl (fun hend => ?_) (fun hend => ?_)
    · rw [hend, if_pos rfl] at hst
      rw [hst] at hQ
      refine rn_ ?_; intros
      refine x_retc rfl hQ hmb rfl (by rw [hty]; simp only [so, sq, zy, zz, tyE, SO', SQ', opQ, opStore, opAlloc, ev, putS, dOk, cv, SV.cs, SV.one, SV.bool?, eqB, Value.oneCell', ldOwn, binInt, binConst, binBool, binStr, isC, TK.agg, rv, rv1, ldV, resOne, resV, Nat.reduceAdd, Nat.reduceMul, Nat.reduceSub, Nat.reduceLT, Nat.reduceLeDiff, Nat.reduceEqDiff, Nat.reduceBEq, reduceIte, reduceCtorEq, eq_self]; try rfl) rfl ?_; simp only [SV.den, resV, dens]
      refine ⟨_, rfl, ?_⟩
      rw [List.append_nil]; exact hS
    rw [hend, if_neg (by decide)] at hst
    obtain ⟨g, hg⟩ : ∃ g : Nat → Option (List Nat), g = fun i => match nextP md l s S i with
        | none => none
        | some t => (srch md l (fu - 1) t (S ++ [i])).map (i :: ·) := ⟨_, rfl⟩
    have hst2 : srch md l fu s S = ((List.range l.length).drop 0).findSome? g := by rw [hst, hg, List.drop_zero]; rfl
    clear hst
    refine rn_ ?_; intros
    refine go_keep [0, 1, 3, 6, 12] [0] ?_
    refine st_ ?_
    refine x_loop rfl (fun q st => ∃ (i : Nat) (G' : Hp), i ≤ l.length ∧ q = l.length - i ∧ Le G G' ∧ srch md l fu s S = ((List.range l.length).drop i).findSome? g ∧
      st = ⟨[(0, .v (.int .i64 md)), (1, .v (.slice adl l.length capl)), (3, .v (.slice ado S.length capo)), (6, .p 0 b0 0), (12, .v (.int .i64 i))],
        [(0, b0, .c 44 [.v (.slice ad1 s.vals.length cap1), .v (.slice ad2 s.ps.length cap2)])], G', []⟩) ⟨0, G, by omega, rfl, Le.refl _, hst2, rfl⟩ ?_
    clear hst2
    rintro q st ⟨i, G1, hi, hq, hle1, hsr, rfl⟩ ih
    refine rn_ ?_; intros
    refine x_if rfl rfl rfl rfl (fun hjl => ?_) (fun hjl => ?_)
    · have hlt : i < l.length := by simp at hjl; omega
      have hd : (List.range l.length).drop i = i :: (List.range l.length).drop (i + 1) := by
        rw [List.drop_eq_getElem_cons (by simpa using hlt)]; simp
      rw [hd, List.findSome?_cons] at hsr
      refine rn_ ?_; intros
      refine go_callf (by rw [hnt]; rfl) (by rw [hP]; kernel_rfl) rfl (hP ▸ rhas_ok _ _ i G1 (Rp.S_mono hle1 hS)) ?_; refine rn_ ?_; intros
      rw [has_nat]
      refine go_slot 13 (.v (.bool (mayK l S i 0))) rfl (by simp [SV.den, mayK]) ?_
      refine go_keep [0, 1, 3, 6, 12, 13, 14] [0] ?_
      refine st_ ?_
      obtain ⟨c1, o1, sa, sr, rfl, hat, hor⟩ := rO_at hl hlt
      obtain ⟨asa, csa, rfl⟩ := VT.rep_slice hor.a
      obtain ⟨asr, csr, rfl⟩ := VT.rep_slice hor.r
      refine x_loop rfl (fun q st => ∃ (k : Nat), k ≤ l.length ∧ q = l.length - k ∧
        st = ⟨[(0, .v (.int .i64 md)), (1, .v (.slice (some ⟨c1, o1, none⟩) l.length capl)), (3, .v (.slice ado S.length capo)), (6, .p 0 b0 0), (12, .v (.int .i64 i)), (13, .v (.bool (mayK l S i k))), (14, .v (.int .i64 k))],
          [(0, b0, .c 44 [.v (.slice ad1 s.vals.length cap1), .v (.slice ad2 s.ps.length cap2)])], G1, []⟩) ⟨0, by omega, rfl, rfl⟩ ?_
      rintro q2 st ⟨k, hk, hq2, rfl⟩ ih2
      refine rn_ ?_; intros
      refine go_gsplit rfl rfl (fun hkl => ?_) (fun hkl => ?_) <;> (refine st_ ?_; (refine rn_ ?_; intros))
      · have hltk : k < l.length := by simp at hkl; omega
        cases hmk : mayK l S i k
        · have hmay : mayP l S i = false := mayK_no l S i k l.length hmk hk
          (refine x_split rfl rfl rfl (fun hc => absurd hc (by first | decide +kernel | (simp; first | done | fail))) (fun _ => ?_); refine st_ ?_; (refine ru_ ?_; intros))
          have hgi : g i = none := by rw [hg]; simp only [nextP, hmay]; rfl
          rw [hgi] at hsr
          simp only at hsr
          refine rn_ ?_; intros
          (refine x_split rfl rfl rfl (fun _ => ?_) (fun hc => absurd hc (by first | decide +kernel | (simp; first | done | fail))); refine st_ ?_; (refine ru_ ?_; intros))
          refine rn_ ?_; intros
          rw [wr (n := (i : Int) + 1) (by omega) (by omega)]
          refine go_keep [0, 1, 3, 6, 12] [0] ?_
          refine st_ ?_
          exact ih (l.length - (i + 1)) _ (by omega) ⟨i + 1, G1, by omega, rfl, hle1, hsr, rfl⟩
        (refine x_split rfl rfl rfl (fun _ => ?_) (fun hc => absurd hc (by first | decide +kernel | (simp; first | done | fail))); refine st_ ?_; (refine ru_ ?_; intros))
        have hstep := mayK_step l S i k
        obtain ⟨c2, o2, sa2, sr2, hcc, hat2, hor2⟩ := rO_at hl hltk
        cases hcc
        obtain ⟨asa2, csa2, rfl⟩ := VT.rep_slice hor2.a
        obtain ⟨asr2, csr2, rfl⟩ := VT.rep_slice hor2.r
        have hahA : ahA l i k = ahd l[k] l[i] := by rw [ahA, List.getElem?_eq_getElem hlt, List.getElem?_eq_getElem hltk]
        refine x_draw rfl (by rw [hP]; kernel_rfl) rfl (by kernel_rfl) ?_
        refine runq 400 hty hnt ?_; refine st_ ?_
        refine q_q (by rw [hnt]; rfl) (quiet_index (by rw [hty]; rfl) (by rw [hty]; rfl) rfl rfl rfl (by omega) (by omega)) ?_; refine runq 400 hty hnt ?_; refine st_ ?_
        refine q_q (v := .agg (opL l[k] (.slice asa2 l[k].arg.l.length csa2) (.slice asr2 l[k].res.l.length csr2)).toArray) (by rw [hnt]; rfl) ((quiet_load (by rw [hty]; rfl) rfl (fun q => by cases q) (by simpa only [Int.toNat_natCast] using hat2.mono hle1) rfl).cast (by simp only [ldV]; rfl)) ?_
        simp only [opL]
        refine runq 400 hty hnt ?_; refine st_ ?_
        refine q_q (by rw [hnt]; rfl) (quiet_index (by rw [hty]; rfl) (by rw [hty]; rfl) rfl rfl rfl (by omega) (by omega)) ?_; refine runq 400 hty hnt ?_; refine st_ ?_
        refine q_q (v := .agg (opL l[i] (.slice asa l[i].arg.l.length csa) (.slice asr l[i].res.l.length csr)).toArray) (by rw [hnt]; rfl) ((quiet_load (by rw [hty]; rfl) rfl (fun q => by cases q) (by simpa only [Int.toNat_natCast] using hat.mono hle1) rfl).cast (by simp only [ldV]; rfl)) ?_
        simp only [opL]
        refine runq 400 hty hnt ?_; refine st_ ?_
        refine q_callf (by rw [hnt]; rfl) (by rw [hP]; kernel_rfl) rfl (hP ▸ rahead_ok l[k] l[i] _ _ _ _ G1 (hor2.mono hle1) (hor.mono hle1)) ?_; refine runq 400 hty hnt ?_; refine st_ ?_
        cases hah : ahd l[k] l[i]
        · (refine go_qsplit rfl rfl (fun _ => ?_) (fun hc => absurd hc (by simp)); refine st_ ?_; (try (refine runq 400 hty hnt ?_; refine st_ ?_)))
          repeat (refine q_gundef rfl (by rw [hnt]; rfl) rfl ?_; (refine st_ ?_; (try (refine runq 400 hty hnt ?_; refine st_ ?_))))
          refine q_end ?_; refine rn_ ?_; intros
          refine rn_ ?_; intros
          rw [wr (n := (k : Int) + 1) (by omega) (by omega)]
          refine go_slot 13 (.v (.bool true)) rfl rfl ?_
          refine go_keep [0, 1, 3, 6, 12, 13, 14] [0] ?_
          refine st_ ?_
          exact ih2 (l.length - (k + 1)) _ (by omega) ⟨k + 1, by omega, rfl, by rw [hstep, hmk, hahA, hah, Bool.not_false, Bool.true_or, Bool.true_and]; rfl⟩
        · (refine go_qsplit rfl rfl (fun hc => absurd hc (by simp)) (fun _ => ?_); refine st_ ?_; (try (refine runq 400 hty hnt ?_; refine st_ ?_)))
          refine q_callf (by rw [hnt]; rfl) (by rw [hP]; kernel_rfl) rfl (hP ▸ rhas_ok _ _ k G1 (Rp.S_mono hle1 hS)) ?_; refine runq 400 hty hnt ?_; refine st_ ?_
          rw [has_nat]
          refine q_end ?_; refine rn_ ?_; intros
          refine rn_ ?_; intros
          rw [wr (n := (k : Int) + 1) (by omega) (by omega)]
          refine go_slot 13 (.v (.bool (S.contains k))) rfl rfl ?_
          refine go_keep [0, 1, 3, 6, 12, 13, 14] [0] ?_
          refine st_ ?_
          exact ih2 (l.length - (k + 1)) _ (by omega) ⟨k + 1, by omega, rfl, by rw [hstep, hmk, hahA, hah, Bool.not_true, Bool.false_or, Bool.true_and]; rfl⟩
      · have hge : k = l.length := by simp at hkl; omega
        subst hge
        repeat (refine go_gundef rfl (by rw [hnt]; rfl) rfl ?_; (refine st_ ?_; (refine rn_ ?_; intros)))
        refine rn_ ?_; intros
        have hmm : mayK l S i l.length = mayP l S i := rfl
        rw [hmm]
        cases hmay : mayP l S i
        · have hgi : g i = none := by rw [hg]; simp only [nextP, hmay]; rfl
          rw [hgi] at hsr
          simp only at hsr
          refine rn_ ?_; intros
          (refine x_split rfl rfl rfl (fun _ => ?_) (fun hc => absurd hc (by first | decide +kernel | (simp; first | done | fail))); refine st_ ?_; (refine ru_ ?_; intros))
          refine rn_ ?_; intros
          rw [wr (n := (i : Int) + 1) (by omega) (by omega)]
          refine go_keep [0, 1, 3, 6, 12] [0] ?_
          refine st_ ?_
          exact ih (l.length - (i + 1)) _ (by omega) ⟨i + 1, G1, by omega, rfl, hle1, hsr, rfl⟩
        have hnx : nextP md l s S i = tellP md s l[i] := by rw [nextP, if_pos hmay, List.getElem?_eq_getElem hlt]
        have hrgi := hrg _ (List.getElem_mem hlt)
        clear ih2 hq2
        (refine x_split rfl rfl rfl (fun hc => absurd hc (by first | decide +kernel | (simp; first | done | fail))) (fun _ => ?_); refine st_ ?_; (refine ru_ ?_; intros))
        refine go_keep [0, 1, 3, 6, 12] [0] ?_
        refine st_ ?_
        refine rn_ ?_; intros
        refine x_held [(0, b0, .c 44 [.v (.slice ad1 s.vals.length cap1), .v (.slice ad2 s.ps.length cap2)])] rfl (by rw [hP]; kernel_rfl) rfl rfl rfl ?_; refine st_ ?_
        refine h_take 0 rfl (by kernel_rfl) (by kernel_rfl) (by kernel_rfl) hQp (by rw [hnt]; rfl) (allIn (by repeat (first | exact trivial | refine ⟨rfl, ?_⟩))) (by first | exact Le.refl _ | assumption) (quiet_op (by rw [hty]; first | rfl | (refine st_ ?_; rfl))) ?_; refine st_ ?_
        refine h_take 1 rfl (by kernel_rfl) (by kernel_rfl) (by kernel_rfl) hQp (by rw [hnt]; rfl) (allIn (by repeat (first | exact trivial | refine ⟨rfl, ?_⟩))) (by first | exact Le.refl _ | assumption) (quiet_op (by rw [hty]; first | rfl | (refine st_ ?_; rfl))) ?_; refine st_ ?_
        refine h_take 2 rfl (by kernel_rfl) (by kernel_rfl) (by kernel_rfl) hQp (by rw [hnt]; rfl) (allIn (by repeat (first | exact trivial | refine ⟨rfl, ?_⟩))) (by first | exact Le.refl _ | assumption) (quiet_op (by rw [hty]; first | rfl | (refine st_ ?_; rfl))) ?_; refine st_ ?_
        refine h_take 3 rfl (by kernel_rfl) (by kernel_rfl) (by kernel_rfl) hQp (by rw [hnt]; rfl) (allIn (by repeat (first | exact trivial | refine ⟨rfl, ?_⟩))) (by first | exact Le.refl _ | assumption) (quiet_op (by rw [hty]; first | rfl | (refine st_ ?_; rfl))) ?_; refine st_ ?_
        refine h_take 4 rfl (by kernel_rfl) (by kernel_rfl) (by kernel_rfl) hQp (by rw [hnt]; rfl) (allIn (by repeat (first | exact trivial | refine ⟨rfl, ?_⟩))) (by first | exact Le.refl _ | assumption) (x := .v (.pointer (some ⟨c1, o1 + i * 11, none⟩))) ((quiet_index (by rw [hty]; rfl) (by rw [hty]; rfl) rfl rfl rfl (by omega) (by omega)).cast (by simp [SV.den])) ?_
        refine st_ ?_
        refine h_take 5 rfl (by kernel_rfl) (by kernel_rfl) (by kernel_rfl) hQp (by rw [hnt]; rfl) (allIn (by repeat (first | exact trivial | refine ⟨rfl, ?_⟩))) (by first | exact Le.refl _ | assumption) (x := .a (opC l[i] (.slice asa l[i].arg.l.length csa) (.slice asr l[i].res.l.length csr))) ((quiet_load (by rw [hty]; rfl) rfl (fun q => by cases q) (hat.mono hle1) rfl).cast (by simp only [ldV, SV.den, dens]; rfl)) ?_
        simp only [opC]
        refine st_ ?_
        refine hf_start [⟨11, 15, 70, 44, [.v (.slice none 0 0), .v (.slice none 0 0)]⟩, ⟨12, 16, 71, 28, [.v (.int .i64 0), .v (.int .i64 0), .v (.slice none 0 0)]⟩] (n := 8) (listed' := #[true, true, true, true, true, true, false, false, false, false, false, true, true, false, false, false]) (by kernel_rfl) (by decide) ?_
        refine hf_call 6 rfl rfl (by repeat (first | exact aok_nil | refine aok_cons ⟨_, _, _, _, rfl, (by rw [hty]; rfl), rfl, (by rw [hnt]; decide), by omega⟩ ?_)) (by kernel_rfl) (by repeat (first | exact oA_nil | refine oA_cons rfl ?_)) (by kernel_rfl) (allIn (by repeat (first | exact trivial | refine ⟨rfl, ?_⟩))) (by first | exact Le.refl _ | assumption) (by rw [hnt]; rfl) rfl (by rw [hP]; kernel_rfl) rfl rfl (hP ▸ rdoes_ok md s l[i] _ _ _ _ G1 (hs.mono hle1) (hor.mono hle1) (by omega) (by omega) hc hinv.wf hrgi) ?_
        rintro v G2 (hle2 : Le G1 G2) ⟨v1, v2, slr, rfl, hs1, hr1, hrb1, hc1⟩
        obtain ⟨a3, c3, e3⟩ := Rp.S_slice hs1.v
        subst e3
        obtain ⟨a4, c4, e4⟩ := Rp.S_slice hs1.p
        subst e4
        obtain ⟨a5, c5, rfl⟩ := VT.rep_slice hr1
        refine st_ ?_
        refine hf_take 7 rfl rfl (by repeat (first | exact aok_nil | refine aok_cons ⟨_, _, _, _, rfl, (by rw [hty]; rfl), rfl, (by rw [hnt]; decide), by omega⟩ ?_)) (by repeat (first | exact oA_nil | refine oA_cons rfl ?_)) (by repeat (first | exact nD_nil | refine nD_cons rfl ?_)) (by kernel_rfl) (by kernel_rfl) hQp (allIn (by repeat (first | exact trivial | refine ⟨rfl, ?_⟩))) (by first | exact Le.refl _ | assumption) (by rw [hnt]; rfl) rfl (fun _ => by simp) (quiet_op (by rw [hty]; first | rfl | (refine st_ ?_; rfl))) ?_; refine st_ ?_
        refine hf_take 8 rfl rfl (by repeat (first | exact aok_nil | refine aok_cons ⟨_, _, _, _, rfl, (by rw [hty]; rfl), rfl, (by rw [hnt]; decide), by omega⟩ ?_)) (by repeat (first | exact oA_nil | refine oA_cons rfl ?_)) (by repeat (first | exact nD_nil | refine nD_cons rfl ?_)) (by kernel_rfl) (by kernel_rfl) hQp (allIn (by repeat (first | exact trivial | refine ⟨rfl, ?_⟩))) (by first | exact Le.refl _ | assumption) (by rw [hnt]; rfl) rfl (fun _ => by simp) (quiet_op (by rw [hty]; first | rfl | (refine st_ ?_; rfl))) ?_; refine st_ ?_
        refine hf_take 9 rfl rfl (by repeat (first | exact aok_nil | refine aok_cons ⟨_, _, _, _, rfl, (by rw [hty]; rfl), rfl, (by rw [hnt]; decide), by omega⟩ ?_)) (by repeat (first | exact oA_nil | refine oA_cons rfl ?_)) (by repeat (first | exact nD_nil | refine nD_cons rfl ?_)) (by kernel_rfl) (by kernel_rfl) hQp (allIn (by repeat (first | exact trivial | refine ⟨rfl, ?_⟩))) (by first | exact Le.refl _ | assumption) (by rw [hnt]; rfl) rfl (fun _ => by simp) (quiet_op (by rw [hty]; first | rfl | (refine st_ ?_; rfl))) ?_; refine st_ ?_
        refine hf_take 10 rfl rfl (by repeat (first | exact aok_nil | refine aok_cons ⟨_, _, _, _, rfl, (by rw [hty]; rfl), rfl, (by rw [hnt]; decide), by omega⟩ ?_)) (by repeat (first | exact oA_nil | refine oA_cons rfl ?_)) (by repeat (first | exact nD_nil | refine nD_cons rfl ?_)) (by kernel_rfl) (by kernel_rfl) hQp (allIn (by repeat (first | exact trivial | refine ⟨rfl, ?_⟩))) (by first | exact Le.refl _ | assumption) (by rw [hnt]; rfl) rfl (fun _ => by simp) (quiet_op (by rw [hty]; first | rfl | (refine st_ ?_; rfl))) ?_; refine st_ ?_
        refine hf_flush rfl (by repeat (first | exact aok_nil | refine aok_cons ⟨_, _, _, _, rfl, (by rw [hty]; rfl), rfl, (by rw [hnt]; decide), by omega⟩ ?_)) (by kernel_rfl) (by repeat (first | exact oA_nil | refine oA_cons rfl ?_)) (by kernel_rfl) (allIn (by repeat (first | exact trivial | refine ⟨rfl, ?_⟩))) (by first | exact Le.refl _ | assumption) ?_; intro bs m hm; obtain ⟨m, rfl⟩ : ∃ m', m = m' + 3 := ⟨m - 3, by omega⟩; simp only [addS, addO, List.contains_nil, Bool.false_eq_true, if_false]; refine st_ ?_
        refine h_one 13 rfl (by kernel_rfl) ?_
        refine rn_ ?_; intros
        refine h_hs (allIn (by repeat (first | exact trivial | refine ⟨rfl, ?_⟩))) (by first | exact Le.refl _ | assumption) ?_
        refine h_one 14 rfl (by kernel_rfl) ?_
        refine rn_ ?_; intros
        refine h_hs (allIn (by repeat (first | exact trivial | refine ⟨rfl, ?_⟩))) (by first | exact Le.refl _ | assumption) ?_
        refine h_one 15 rfl (by kernel_rfl) ?_
        refine rn_ ?_; intros
        refine h_hs (allIn (by repeat (first | exact trivial | refine ⟨rfl, ?_⟩))) (by first | exact Le.refl _ | assumption) ?_
        refine h_end (by kernel_rfl) ?_
        refine go_keep [0, 1, 3, 6, 12, 15, 16, 17] [0, 70, 71] ?_
        refine st_ ?_
        have hT : tellP md s l[i] = if (doP md s l[i]).2.2 && (!l[i].dn || vsm (doP md s l[i]).2.1 l[i].res) then some (doP md s l[i]).1 else none := rfl
        have hinv2 := inv_do hinv hrgi
        have hdo := do_vd (m := md) (o := l[i]) hinv.vd (rgt_vld hrgi).1 (rgt_vld hrgi).2
        have hd1 := hdo.lv
        have hd2 := hdo.lp
        generalize doP md s l[i] = r at *
        refine rn_ ?_; intros
        refine x_draw rfl (by rw [hP]; kernel_rfl) rfl (by kernel_rfl) ?_
        refine runq 400 hty hnt ?_; refine st_ ?_
        have hle02 := hle1.trans hle2
        cases hcan : r.2.2
        · rw [hcan] at hT
          have hgi : g i = none := by rw [hg]; simp only [hnx, hT]; rfl
          (refine go_qsplit rfl rfl (fun _ => ?_) (fun hc => absurd hc (by simp)); refine st_ ?_; (try (refine runq 400 hty hnt ?_; refine st_ ?_)))
          repeat (refine q_gundef rfl (by rw [hnt]; rfl) rfl ?_; (refine st_ ?_; (try (refine runq 400 hty hnt ?_; refine st_ ?_))))
          refine q_end ?_; refine rn_ ?_; intros
          rw [hgi] at hsr
          simp only at hsr
          refine rn_ ?_; intros
          (try ((refine x_split rfl rfl rfl (fun _ => ?_) (fun hc => absurd hc (by first | decide +kernel | (simp; first | done | fail))); refine st_ ?_; (refine ru_ ?_; intros)); refine rn_ ?_; intros))
          rw [wr (n := (i : Int) + 1) (by omega) (by omega)]
          refine go_keep [0, 1, 3, 6, 12] [0] ?_
          refine st_ ?_
          exact ih (l.length - (i + 1)) _ (by omega) ⟨i + 1, G2, by omega, rfl, hle02, hsr, rfl⟩
        rw [hcan, Bool.true_and] at hT
        (refine go_qsplit rfl rfl (fun hc => absurd hc (by simp)) (fun _ => ?_); refine st_ ?_; (try (refine runq 400 hty hnt ?_; refine st_ ?_)))
        refine q_q (by rw [hnt]; rfl) (quiet_index (by rw [hty]; rfl) (by rw [hty]; rfl) rfl rfl rfl (by omega) (by omega)) ?_; refine runq 400 hty hnt ?_; refine st_ ?_
        refine q_q (v := .bool l[i].dn) (by rw [hnt]; rfl) ((quiet_load (vs := [.bool l[i].dn]) (by rw [hty]; rfl) rfl (by simp [TK.agg]) (by simpa [opL] using (hat.mono hle02).sub 10 1 (by simp [opL])) rfl).cast (by rfl)) ?_
        refine runq 400 hty hnt ?_; refine st_ ?_
        cases hdn : l[i].dn
        · rw [hdn, Bool.not_false, Bool.true_or, if_pos rfl] at hT
          (refine go_qsplit rfl rfl (fun hc => absurd hc (by simp)) (fun _ => ?_); refine st_ ?_; (try (refine runq 400 hty hnt ?_; refine st_ ?_)))
          repeat (refine q_gundef rfl (by rw [hnt]; rfl) rfl ?_; (refine st_ ?_; (try (refine runq 400 hty hnt ?_; refine st_ ?_))))
          refine q_end ?_; refine rn_ ?_; intros
          obtain ⟨hkl, hnc, _⟩ := next_some (show nextP md l s S i = some r.1 by rw [hnx, hT])
          have hfl := free_lt hkl hnc
          have hgi : g i = (srch md l (fu - 1) r.1 (S ++ [i])).map (i :: ·) := by rw [hg]; simp only [hnx, hT]
          rw [hgi] at hsr
          have hSL2 := Rp.S_mono hle02 hS
          obtain ⟨cs, hcs, hsrc⟩ := Rp.srcS hSL2
          have hcl := Rp.L_len hcs
          have hco := Rp.L_one hcs
          have h1s : rI.size = 1 := rfl
          rw [h1s] at hcl
          simp only [List.length_map] at hcl hsrc
          refine go_keep [0, 1, 3, 6, 12, 15] [0, 70] ?_
          refine st_ ?_
          refine rn_ ?_; intros
          refine x_held [(70, bs 11, .c 44 [.v (.slice a3 r.1.vals.length c3), .v (.slice a4 r.1.ps.length c4)])] rfl (by rw [hP]; kernel_rfl) rfl rfl rfl ?_; refine st_ ?_
          refine h_take 0 rfl (by kernel_rfl) (by kernel_rfl) (by kernel_rfl) hQp (by rw [hnt]; rfl) (allIn (by repeat (first | exact trivial | refine ⟨rfl, ?_⟩))) (by first | exact Le.refl _ | assumption) (quiet_op (by rw [hty]; first | rfl | (refine st_ ?_; rfl))) ?_; refine st_ ?_
          refine h_take 1 rfl (by kernel_rfl) (by kernel_rfl) (by kernel_rfl) hQp (by rw [hnt]; rfl) (allIn (by repeat (first | exact trivial | refine ⟨rfl, ?_⟩))) (by first | exact Le.refl _ | assumption) (quiet_op (by rw [hty]; first | rfl | (refine st_ ?_; rfl))) ?_; refine st_ ?_
          refine h_take 2 rfl (by kernel_rfl) (by kernel_rfl) (by kernel_rfl) hQp (by rw [hnt]; rfl) (allIn (by repeat (first | exact trivial | refine ⟨rfl, ?_⟩))) (by first | exact Le.refl _ | assumption) (quiet_op (by rw [hty]; first | rfl | (refine st_ ?_; rfl))) ?_; refine st_ ?_
          refine h_take 4 rfl (by kernel_rfl) (by kernel_rfl) (by kernel_rfl) hQp (by rw [hnt]; rfl) (allIn (by repeat (first | exact trivial | refine ⟨rfl, ?_⟩))) (by first | exact Le.refl _ | assumption) (quiet_op (by rw [hty]; first | rfl | (refine st_ ?_; rfl))) ?_; refine st_ ?_
          refine h_take 6 rfl (by kernel_rfl) (by kernel_rfl) (by kernel_rfl) hQp (by rw [hnt]; rfl) (allIn (by repeat (first | exact trivial | refine ⟨rfl, ?_⟩))) (by first | exact Le.refl _ | assumption) (quiet_op (by rw [hty]; first | rfl | (refine st_ ?_; rfl))) ?_; refine st_ ?_
          refine h_two 3 7 rfl rfl (by kernel_rfl) ?_ ?_
          · refine rn_ ?_; intros
            refine h_hs (allIn (by repeat (first | exact trivial | refine ⟨rfl, ?_⟩))) (by first | exact Le.refl _ | assumption) ?_
            refine h_two 5 7 rfl rfl (by kernel_rfl) ?_ ?_
            · refine go_litrow 71 (n := 0) (size := 1) rfl (by omega) rfl (by omega) ?_
              refine st_ ?_
              refine go_append_any 71 (by rw [hnt]; rfl) (by rw [hty]; rfl) (by rw [hty]; rfl) (by decide) rfl rfl rfl (by omega) rfl (hsrc.imp id fun f => f _ _ rfl) (by simpa using hcl) hco (by omega) (by simp only []; omega) ?_
              intro v1
              refine go_rowS 71 rfl ?_
              rintro a6 c6 rfl
              refine rn_ ?_; intros
              refine h_hs (allIn (by repeat (first | exact trivial | refine ⟨rfl, ?_⟩))) (by first | exact Le.refl _ | assumption) ?_
              refine h_one 7 rfl (by kernel_rfl) ?_
              refine rn_ ?_; intros
              refine h_hs (allIn (by repeat (first | exact trivial | refine ⟨rfl, ?_⟩))) (by first | exact Le.refl _ | assumption) ?_
              refine h_one 8 rfl (by kernel_rfl) ?_
              refine go_append_any 71 (by rw [hnt]; rfl) (by rw [hty]; rfl) (by rw [hty]; rfl) (by decide) rfl rfl rfl (by omega) rfl (.inr (src_own 1 rfl rfl)) rfl (by simp [dens, SV.den, Value.oneCell']) (by omega) (by simp only []; omega) ?_
              intro v2
              refine go_rowS 71 rfl ?_
              rintro a7 c7 rfl
              refine go_pubL rI 71 rfl (by omega) (ts := (S ++ [i]).map fun i : Nat => (i : Int)) (by simp) (by omega) (by
                rw [List.map_append]
                exact Rp.L_append (by simpa using hcs) (by rw [rI_L]; exact ⟨rfl, fun n hn => by simp at hn; subst hn; simp only [isI64]; omega⟩)) ?_
              intro G3 ad3 cap3 (hle3 : Le G2 G3) he3 hS3
              rw [← he3] at hS3
              refine st_ ?_
              refine rn_ ?_; intros
              refine h_hs (allIn (by repeat (first | exact trivial | refine ⟨rfl, ?_⟩))) (by first | exact Le.refl _ | assumption) ?_
              refine h_one 9 rfl (by kernel_rfl) ?_
              refine go_call (by rw [hnt]; rfl) (by rw [hP]; kernel_rfl) rfl (hP ▸ IH (fu - 1) (by omega) r.1 (S ++ [i]) _ _ _ G3 (Rp.S_mono (hle02.trans hle3) hl) hS3 (hs1.mono hle3) hc1 hinv2 (by omega) (by omega) (by omega) (by simp; omega)) ?_
              rintro v G4 (hle4 : Le G3 G4) hv
              have hle24 : Le G2 G4 := hle3.trans hle4
              rcases hsrk : srch md l (fu - 1) r.1 (S ++ [i]) with _ | p
              · rw [hsrk] at hv hsr
                simp only [Option.map_none] at hsr
                subst hv
                refine rn_ ?_; intros
                refine h_hs (allIn (by repeat (first | exact trivial | refine ⟨rfl, ?_⟩))) (by first | exact Le.refl _ | assumption) ?_
                refine h_take 10 rfl (by kernel_rfl) (by kernel_rfl) (by kernel_rfl) hQp (by rw [hnt]; rfl) (allIn (by repeat (first | exact trivial | refine ⟨rfl, ?_⟩))) (by first | exact Le.refl _ | assumption) (quiet_op (by rw [hty]; first | rfl | (refine st_ ?_; rfl))) ?_; refine st_ ?_
                refine h_take 11 rfl (by kernel_rfl) (by kernel_rfl) (by kernel_rfl) hQp (by rw [hnt]; rfl) (allIn (by repeat (first | exact trivial | refine ⟨rfl, ?_⟩))) (by first | exact Le.refl _ | assumption) (quiet_op (by rw [hty]; first | rfl | (refine st_ ?_; rfl))) ?_; refine st_ ?_
                refine h_take 12 rfl (by kernel_rfl) (by kernel_rfl) (by kernel_rfl) hQp (by rw [hnt]; rfl) (allIn (by repeat (first | exact trivial | refine ⟨rfl, ?_⟩))) (by first | exact Le.refl _ | assumption) (quiet_op (by rw [hty]; first | rfl | (refine st_ ?_; rfl))) ?_; refine st_ ?_
                refine h_one 13 rfl (by kernel_rfl) ?_
                refine rn_ ?_; intros
                refine h_hs (allIn (by repeat (first | exact trivial | refine ⟨rfl, ?_⟩))) (by first | exact Le.refl _ | assumption) ?_
                refine h_one 14 rfl (by kernel_rfl) ?_
                refine rn_ ?_; intros
                refine h_hs (allIn (by repeat (first | exact trivial | refine ⟨rfl, ?_⟩))) (by first | exact Le.refl _ | assumption) ?_
                refine h_end (by kernel_rfl) ?_
                refine rn_ ?_; intros
                (refine x_split rfl rfl rfl (fun hc => absurd hc (by first | decide +kernel | (simp; first | done | fail))) (fun _ => ?_); refine st_ ?_; (refine ru_ ?_; intros))
                refine rn_ ?_; intros
                rw [wr (n := (i : Int) + 1) (by omega) (by omega)]
                refine go_keep [0, 1, 3, 6, 12] [0] ?_
                refine st_ ?_
                exact ih (l.length - (i + 1)) _ (by omega) ⟨i + 1, G4, by omega, rfl, hle02.trans hle24, hsr, rfl⟩
              · rw [hsrk] at hv hsr
                simp only [Option.map_some] at hsr
                obtain ⟨slp, rfl, hpS⟩ := hv
                obtain ⟨ap, cp, e5⟩ := Rp.S_slice hpS
                subst e5
                rw [hsr] at hQ
                refine rn_ ?_; intros
                refine h_hs (allIn (by repeat (first | exact trivial | refine ⟨rfl, ?_⟩))) (by first | exact Le.refl _ | assumption) ?_
                refine h_take 10 rfl (by kernel_rfl) (by kernel_rfl) (by kernel_rfl) hQp (by rw [hnt]; rfl) (allIn (by repeat (first | exact trivial | refine ⟨rfl, ?_⟩))) (by first | exact Le.refl _ | assumption) (quiet_op (by rw [hty]; first | rfl | (refine st_ ?_; rfl))) ?_; refine st_ ?_
                refine h_take 11 rfl (by kernel_rfl) (by kernel_rfl) (by kernel_rfl) hQp (by rw [hnt]; rfl) (allIn (by repeat (first | exact trivial | refine ⟨rfl, ?_⟩))) (by first | exact Le.refl _ | assumption) (quiet_op (by rw [hty]; first | rfl | (refine st_ ?_; rfl))) ?_; refine st_ ?_
                refine h_take 12 rfl (by kernel_rfl) (by kernel_rfl) (by kernel_rfl) hQp (by rw [hnt]; rfl) (allIn (by repeat (first | exact trivial | refine ⟨rfl, ?_⟩))) (by first | exact Le.refl _ | assumption) (quiet_op (by rw [hty]; first | rfl | (refine st_ ?_; rfl))) ?_; refine st_ ?_
                refine h_one 13 rfl (by kernel_rfl) ?_
                refine rn_ ?_; intros
                refine h_hs (allIn (by repeat (first | exact trivial | refine ⟨rfl, ?_⟩))) (by first | exact Le.refl _ | assumption) ?_
                refine h_one 14 rfl (by kernel_rfl) ?_
                refine rn_ ?_; intros
                refine h_hs (allIn (by repeat (first | exact trivial | refine ⟨rfl, ?_⟩))) (by first | exact Le.refl _ | assumption) ?_
                refine h_end (by kernel_rfl) ?_
                refine rn_ ?_; intros
                (refine x_split rfl rfl rfl (fun _ => ?_) (fun hc => absurd hc (by first | decide +kernel | (simp; first | done | fail))); refine st_ ?_; (refine ru_ ?_; intros))
                refine rn_ ?_; intros
                refine x_retc rfl hQ hmb rfl (by rw [hty]; simp only [so, sq, zy, zz, tyE, SO', SQ', opQ, opStore, opAlloc, ev, putS, dOk, cv, SV.cs, SV.one, SV.bool?, eqB, Value.oneCell', ldOwn, binInt, binConst, binBool, binStr, isC, TK.agg, rv, rv1, ldV, resOne, resV, Nat.reduceAdd, Nat.reduceMul, Nat.reduceSub, Nat.reduceLT, Nat.reduceLeDiff, Nat.reduceEqDiff, Nat.reduceBEq, reduceIte, reduceCtorEq, eq_self]; try rfl) rfl ?_; simp only [SV.den, resV, dens]
                refine ⟨_, rfl, ?_⟩
                rw [show S ++ i :: p = S ++ [i] ++ p by simp]
                exact hpS
            · refine rn_ ?_; intros
              refine h_hs (allIn (by repeat (first | exact trivial | refine ⟨rfl, ?_⟩))) (by first | exact Le.refl _ | assumption) ?_
              refine h_one 5 rfl (by kernel_rfl) ?_
              refine go_litrow 71 (n := 0) (size := 1) rfl (by omega) rfl (by omega) ?_
              refine st_ ?_
              refine go_append_any 71 (by rw [hnt]; rfl) (by rw [hty]; rfl) (by rw [hty]; rfl) (by decide) rfl rfl rfl (by omega) rfl (hsrc.imp id fun f => f _ _ rfl) (by simpa using hcl) hco (by omega) (by simp only []; omega) ?_
              intro v1
              refine go_rowS 71 rfl ?_
              rintro a6 c6 rfl
              refine rn_ ?_; intros
              refine h_hs (allIn (by repeat (first | exact trivial | refine ⟨rfl, ?_⟩))) (by first | exact Le.refl _ | assumption) ?_
              refine h_one 8 rfl (by kernel_rfl) ?_
              refine go_append_any 71 (by rw [hnt]; rfl) (by rw [hty]; rfl) (by rw [hty]; rfl) (by decide) rfl rfl rfl (by omega) rfl (.inr (src_own 1 rfl rfl)) rfl (by simp [dens, SV.den, Value.oneCell']) (by omega) (by simp only []; omega) ?_
              intro v2
              refine go_rowS 71 rfl ?_
              rintro a7 c7 rfl
              refine go_pubL rI 71 rfl (by omega) (ts := (S ++ [i]).map fun i : Nat => (i : Int)) (by simp) (by omega) (by
                rw [List.map_append]
                exact Rp.L_append (by simpa using hcs) (by rw [rI_L]; exact ⟨rfl, fun n hn => by simp at hn; subst hn; simp only [isI64]; omega⟩)) ?_
              intro G3 ad3 cap3 (hle3 : Le G2 G3) he3 hS3
              rw [← he3] at hS3
              refine st_ ?_
              refine rn_ ?_; intros
              refine h_hs (allIn (by repeat (first | exact trivial | refine ⟨rfl, ?_⟩))) (by first | exact Le.refl _ | assumption) ?_
              refine h_one 9 rfl (by kernel_rfl) ?_
              refine go_call (by rw [hnt]; rfl) (by rw [hP]; kernel_rfl) rfl (hP ▸ IH (fu - 1) (by omega) r.1 (S ++ [i]) _ _ _ G3 (Rp.S_mono (hle02.trans hle3) hl) hS3 (hs1.mono hle3) hc1 hinv2 (by omega) (by omega) (by omega) (by simp; omega)) ?_
              rintro v G4 (hle4 : Le G3 G4) hv
              have hle24 : Le G2 G4 := hle3.trans hle4
              rcases hsrk : srch md l (fu - 1) r.1 (S ++ [i]) with _ | p
              · rw [hsrk] at hv hsr
                simp only [Option.map_none] at hsr
                subst hv
                refine rn_ ?_; intros
                refine h_hs (allIn (by repeat (first | exact trivial | refine ⟨rfl, ?_⟩))) (by first | exact Le.refl _ | assumption) ?_
                refine h_take 10 rfl (by kernel_rfl) (by kernel_rfl) (by kernel_rfl) hQp (by rw [hnt]; rfl) (allIn (by repeat (first | exact trivial | refine ⟨rfl, ?_⟩))) (by first | exact Le.refl _ | assumption) (quiet_op (by rw [hty]; first | rfl | (refine st_ ?_; rfl))) ?_; refine st_ ?_
                refine h_take 11 rfl (by kernel_rfl) (by kernel_rfl) (by kernel_rfl) hQp (by rw [hnt]; rfl) (allIn (by repeat (first | exact trivial | refine ⟨rfl, ?_⟩))) (by first | exact Le.refl _ | assumption) (quiet_op (by rw [hty]; first | rfl | (refine st_ ?_; rfl))) ?_; refine st_ ?_
                refine h_take 12 rfl (by kernel_rfl) (by kernel_rfl) (by kernel_rfl) hQp (by rw [hnt]; rfl) (allIn (by repeat (first | exact trivial | refine ⟨rfl, ?_⟩))) (by first | exact Le.refl _ | assumption) (quiet_op (by rw [hty]; first | rfl | (refine st_ ?_; rfl))) ?_; refine st_ ?_
                refine h_one 13 rfl (by kernel_rfl) ?_
                refine rn_ ?_; intros
                refine h_hs (allIn (by repeat (first | exact trivial | refine ⟨rfl, ?_⟩))) (by first | exact Le.refl _ | assumption) ?_
                refine h_one 14 rfl (by kernel_rfl) ?_
                refine rn_ ?_; intros
                refine h_hs (allIn (by repeat (first | exact trivial | refine ⟨rfl, ?_⟩))) (by first | exact Le.refl _ | assumption) ?_
                refine h_end (by kernel_rfl) ?_
                refine rn_ ?_; intros
                (refine x_split rfl rfl rfl (fun hc => absurd hc (by first | decide +kernel | (simp; first | done | fail))) (fun _ => ?_); refine st_ ?_; (refine ru_ ?_; intros))
                refine rn_ ?_; intros
                rw [wr (n := (i : Int) + 1) (by omega) (by omega)]
                refine go_keep [0, 1, 3, 6, 12] [0] ?_
                refine st_ ?_
                exact ih (l.length - (i + 1)) _ (by omega) ⟨i + 1, G4, by omega, rfl, hle02.trans hle24, hsr, rfl⟩
              · rw [hsrk] at hv hsr
                simp only [Option.map_some] at hsr
                obtain ⟨slp, rfl, hpS⟩ := hv
                obtain ⟨ap, cp, e5⟩ := Rp.S_slice hpS
                subst e5
                rw [hsr] at hQ
                refine rn_ ?_; intros
                refine h_hs (allIn (by repeat (first | exact trivial | refine ⟨rfl, ?_⟩))) (by first | exact Le.refl _ | assumption) ?_
                refine h_take 10 rfl (by kernel_rfl) (by kernel_rfl) (by kernel_rfl) hQp (by rw [hnt]; rfl) (allIn (by repeat (first | exact trivial | refine ⟨rfl, ?_⟩))) (by first | exact Le.refl _ | assumption) (quiet_op (by rw [hty]; first | rfl | (refine st_ ?_; rfl))) ?_; refine st_ ?_
                refine h_take 11 rfl (by kernel_rfl) (by kernel_rfl) (by kernel_rfl) hQp (by rw [hnt]; rfl) (allIn (by repeat (first | exact trivial | refine ⟨rfl, ?_⟩))) (by first | exact Le.refl _ | assumption) (quiet_op (by rw [hty]; first | rfl | (refine st_ ?_; rfl))) ?_; refine st_ ?_
                refine h_take 12 rfl (by kernel_rfl) (by kernel_rfl) (by kernel_rfl) hQp (by rw [hnt]; rfl) (allIn (by repeat (first | exact trivial | refine ⟨rfl, ?_⟩))) (by first | exact Le.refl _ | assumption) (quiet_op (by rw [hty]; first | rfl | (refine st_ ?_; rfl))) ?_; refine st_ ?_
                refine h_one 13 rfl (by kernel_rfl) ?_
                refine rn_ ?_; intros
                refine h_hs (allIn (by repeat (first | exact trivial | refine ⟨rfl, ?_⟩))) (by first | exact Le.refl _ | assumption) ?_
                refine h_one 14 rfl (by kernel_rfl) ?_
                refine rn_ ?_; intros
                refine h_hs (allIn (by repeat (first | exact trivial | refine ⟨rfl, ?_⟩))) (by first | exact Le.refl _ | assumption) ?_
                refine h_end (by kernel_rfl) ?_
                refine rn_ ?_; intros
                (refine x_split rfl rfl rfl (fun _ => ?_) (fun hc => absurd hc (by first | decide +kernel | (simp; first | done | fail))); refine st_ ?_; (refine ru_ ?_; intros))
                refine rn_ ?_; intros
                refine x_retc rfl hQ hmb rfl (by rw [hty]; simp only [so, sq, zy, zz, tyE, SO', SQ', opQ, opStore, opAlloc, ev, putS, dOk, cv, SV.cs, SV.one, SV.bool?, eqB, Value.oneCell', ldOwn, binInt, binConst, binBool, binStr, isC, TK.agg, rv, rv1, ldV, resOne, resV, Nat.reduceAdd, Nat.reduceMul, Nat.reduceSub, Nat.reduceLT, Nat.reduceLeDiff, Nat.reduceEqDiff, Nat.reduceBEq, reduceIte, reduceCtorEq, eq_self]; try rfl) rfl ?_; simp only [SV.den, resV, dens]
                refine ⟨_, rfl, ?_⟩
                rw [show S ++ i :: p = S ++ [i] ++ p by simp]
                exact hpS
          · refine rn_ ?_; intros
            refine h_hs (allIn (by repeat (first | exact trivial | refine ⟨rfl, ?_⟩))) (by first | exact Le.refl _ | assumption) ?_
            refine h_one 3 rfl (by kernel_rfl) ?_
            refine rn_ ?_; intros
            refine h_hs (allIn (by repeat (first | exact trivial | refine ⟨rfl, ?_⟩))) (by first | exact Le.refl _ | assumption) ?_
            refine h_one 5 rfl (by kernel_rfl) ?_
            refine go_litrow 72 (n := 0) (size := 1) rfl (by omega) rfl (by omega) ?_
            refine st_ ?_
            refine go_append_any 72 (by rw [hnt]; rfl) (by rw [hty]; rfl) (by rw [hty]; rfl) (by decide) rfl rfl rfl (by omega) rfl (hsrc.imp id fun f => f _ _ rfl) (by simpa using hcl) hco (by omega) (by simp only []; omega) ?_
            intro v1
            refine go_rowS 72 rfl ?_
            rintro a6 c6 rfl
            refine rn_ ?_; intros
            refine h_hs (allIn (by repeat (first | exact trivial | refine ⟨rfl, ?_⟩))) (by first | exact Le.refl _ | assumption) ?_
            refine h_one 8 rfl (by kernel_rfl) ?_
            refine go_append_any 72 (by rw [hnt]; rfl) (by rw [hty]; rfl) (by rw [hty]; rfl) (by decide) rfl rfl rfl (by omega) rfl (.inr (src_own 1 rfl rfl)) rfl (by simp [dens, SV.den, Value.oneCell']) (by omega) (by simp only []; omega) ?_
            intro v2
            refine go_rowS 72 rfl ?_
            rintro a7 c7 rfl
            refine go_pubL rI 72 rfl (by omega) (ts := (S ++ [i]).map fun i : Nat => (i : Int)) (by simp) (by omega) (by
              rw [List.map_append]
              exact Rp.L_append (by simpa using hcs) (by rw [rI_L]; exact ⟨rfl, fun n hn => by simp at hn; subst hn; simp only [isI64]; omega⟩)) ?_
            intro G3 ad3 cap3 (hle3 : Le G2 G3) he3 hS3
            rw [← he3] at hS3
            refine st_ ?_
            refine rn_ ?_; intros
            refine h_hs (allIn (by repeat (first | exact trivial | refine ⟨rfl, ?_⟩))) (by first | exact Le.refl _ | assumption) ?_
            refine h_one 9 rfl (by kernel_rfl) ?_
            refine go_call (by rw [hnt]; rfl) (by rw [hP]; kernel_rfl) rfl (hP ▸ IH (fu - 1) (by omega) r.1 (S ++ [i]) _ _ _ G3 (Rp.S_mono (hle02.trans hle3) hl) hS3 (hs1.mono hle3) hc1 hinv2 (by omega) (by omega) (by omega) (by simp; omega)) ?_
            rintro v G4 (hle4 : Le G3 G4) hv
            have hle24 : Le G2 G4 := hle3.trans hle4
            rcases hsrk : srch md l (fu - 1) r.1 (S ++ [i]) with _ | p
            · rw [hsrk] at hv hsr
              simp only [Option.map_none] at hsr
              subst hv
              refine rn_ ?_; intros
              refine h_hs (allIn (by repeat (first | exact trivial | refine ⟨rfl, ?_⟩))) (by first | exact Le.refl _ | assumption) ?_
              refine h_take 10 rfl (by kernel_rfl) (by kernel_rfl) (by kernel_rfl) hQp (by rw [hnt]; rfl) (allIn (by repeat (first | exact trivial | refine ⟨rfl, ?_⟩))) (by first | exact Le.refl _ | assumption) (quiet_op (by rw [hty]; first | rfl | (refine st_ ?_; rfl))) ?_; refine st_ ?_
              refine h_take 11 rfl (by kernel_rfl) (by kernel_rfl) (by kernel_rfl) hQp (by rw [hnt]; rfl) (allIn (by repeat (first | exact trivial | refine ⟨rfl, ?_⟩))) (by first | exact Le.refl _ | assumption) (quiet_op (by rw [hty]; first | rfl | (refine st_ ?_; rfl))) ?_; refine st_ ?_
              refine h_take 12 rfl (by kernel_rfl) (by kernel_rfl) (by kernel_rfl) hQp (by rw [hnt]; rfl) (allIn (by repeat (first | exact trivial | refine ⟨rfl, ?_⟩))) (by first | exact Le.refl _ | assumption) (quiet_op (by rw [hty]; first | rfl | (refine st_ ?_; rfl))) ?_; refine st_ ?_
              refine h_one 13 rfl (by kernel_rfl) ?_
              refine rn_ ?_; intros
              refine h_hs (allIn (by repeat (first | exact trivial | refine ⟨rfl, ?_⟩))) (by first | exact Le.refl _ | assumption) ?_
              refine h_one 14 rfl (by kernel_rfl) ?_
              refine rn_ ?_; intros
              refine h_hs (allIn (by repeat (first | exact trivial | refine ⟨rfl, ?_⟩))) (by first | exact Le.refl _ | assumption) ?_
              refine h_end (by kernel_rfl) ?_
              refine rn_ ?_; intros
              (refine x_split rfl rfl rfl (fun hc => absurd hc (by first | decide +kernel | (simp; first | done | fail))) (fun _ => ?_); refine st_ ?_; (refine ru_ ?_; intros))
              refine rn_ ?_; intros
              rw [wr (n := (i : Int) + 1) (by omega) (by omega)]
              refine go_keep [0, 1, 3, 6, 12] [0] ?_
              refine st_ ?_
              exact ih (l.length - (i + 1)) _ (by omega) ⟨i + 1, G4, by omega, rfl, hle02.trans hle24, hsr, rfl⟩
            · rw [hsrk] at hv hsr
              simp only [Option.map_some] at hsr
              obtain ⟨slp, rfl, hpS⟩ := hv
              obtain ⟨ap, cp, e5⟩ := Rp.S_slice hpS
              subst e5
              rw [hsr] at hQ
              refine rn_ ?_; intros
              refine h_hs (allIn (by repeat (first | exact trivial | refine ⟨rfl, ?_⟩))) (by first | exact Le.refl _ | assumption) ?_
              refine h_take 10 rfl (by kernel_rfl) (by kernel_rfl) (by kernel_rfl) hQp (by rw [hnt]; rfl) (allIn (by repeat (first | exact trivial | refine ⟨rfl, ?_⟩))) (by first | exact Le.refl _ | assumption) (quiet_op (by rw [hty]; first | rfl | (refine st_ ?_; rfl))) ?_; refine st_ ?_
              refine h_take 11 rfl (by kernel_rfl) (by kernel_rfl) (by kernel_rfl) hQp (by rw [hnt]; rfl) (allIn (by repeat (first | exact trivial | refine ⟨rfl, ?_⟩))) (by first | exact Le.refl _ | assumption) (quiet_op (by rw [hty]; first | rfl | (refine st_ ?_; rfl))) ?_; refine st_ ?_
              refine h_take 12 rfl (by kernel_rfl) (by kernel_rfl) (by kernel_rfl) hQp (by rw [hnt]; rfl) (allIn (by repeat (first | exact trivial | refine ⟨rfl, ?_⟩))) (by first | exact Le.refl _ | assumption) (quiet_op (by rw [hty]; first | rfl | (refine st_ ?_; rfl))) ?_; refine st_ ?_
              refine h_one 13 rfl (by kernel_rfl) ?_
              refine rn_ ?_; intros
              refine h_hs (allIn (by repeat (first | exact trivial | refine ⟨rfl, ?_⟩))) (by first | exact Le.refl _ | assumption) ?_
              refine h_one 14 rfl (by kernel_rfl) ?_
              refine rn_ ?_; intros
              refine h_hs (allIn (by repeat (first | exact trivial | refine ⟨rfl, ?_⟩))) (by first | exact Le.refl _ | assumption) ?_
              refine h_end (by kernel_rfl) ?_
              refine rn_ ?_; intros
              (refine x_split rfl rfl rfl (fun _ => ?_) (fun hc => absurd hc (by first | decide +kernel | (simp; first | done | fail))); refine st_ ?_; (refine ru_ ?_; intros))
              refine rn_ ?_; intros
              refine x_retc rfl hQ hmb rfl (by rw [hty]; simp only [so, sq, zy, zz, tyE, SO', SQ', opQ, opStore, opAlloc, ev, putS, dOk, cv, SV.cs, SV.one, SV.bool?, eqB, Value.oneCell', ldOwn, binInt, binConst, binBool, binStr, isC, TK.agg, rv, rv1, ldV, resOne, resV, Nat.reduceAdd, Nat.reduceMul, Nat.reduceSub, Nat.reduceLT, Nat.reduceLeDiff, Nat.reduceEqDiff, Nat.reduceBEq, reduceIte, reduceCtorEq, eq_self]; try rfl) rfl ?_; simp only [SV.den, resV, dens]
              refine ⟨_, rfl, ?_⟩
              rw [show S ++ i :: p = S ++ [i] ++ p by simp]
              exact hpS
        rw [hdn, Bool.not_true, Bool.false_or] at hT
        (refine go_qsplit rfl rfl (fun _ => ?_) (fun hc => absurd hc (by simp)); refine st_ ?_; (try (refine runq 400 hty hnt ?_; refine st_ ?_)))
        refine q_q (by rw [hnt]; rfl) (quiet_index (by rw [hty]; rfl) (by rw [hty]; rfl) rfl rfl rfl (by omega) (by omega)) ?_; refine runq 400 hty hnt ?_; refine st_ ?_
        refine q_q (v := .agg #[.int .i64 l[i].res.k, .int .i64 l[i].res.n, .slice asr l[i].res.l.length csr]) (by rw [hnt]; rfl) ((quiet_load (by rw [hty]; rfl) rfl (fun q => by cases q) (by simpa using opAt5 (hat.mono hle02)) rfl).cast (by simp only [ldV]; rfl)) ?_
        refine runq 400 hty hnt ?_; refine st_ ?_
        refine q_callf (by rw [hnt]; rfl) (by rw [hP]; kernel_rfl) rfl (hP ▸ refSame_ok r.2.1 l[i].res _ _ _ hr1 (VT.rep_mono hle02 hor.r) (by omega) (by have h := hor.ok.br; omega)) ?_; refine runq 400 hty hnt ?_; refine st_ ?_
        refine q_end ?_; refine rn_ ?_; intros
        rw [show (sml r.2.1 && sml l[i].res && veq r.2.1 l[i].res) = vsm r.2.1 l[i].res from rfl]
        cases hsm : vsm r.2.1 l[i].res
        · rw [hsm] at hT
          have hgi : g i = none := by rw [hg]; simp only [hnx, hT]; rfl
          rw [hgi] at hsr
          simp only at hsr
          refine rn_ ?_; intros
          (try ((refine x_split rfl rfl rfl (fun _ => ?_) (fun hc => absurd hc (by first | decide +kernel | (simp; first | done | fail))); refine st_ ?_; (refine ru_ ?_; intros)); refine rn_ ?_; intros))
          rw [wr (n := (i : Int) + 1) (by omega) (by omega)]
          refine go_keep [0, 1, 3, 6, 12] [0] ?_
          refine st_ ?_
          exact ih (l.length - (i + 1)) _ (by omega) ⟨i + 1, G2, by omega, rfl, hle02, hsr, rfl⟩
        rw [hsm, if_pos rfl] at hT
        (refine x_split rfl rfl rfl (fun hc => absurd hc (by first | decide +kernel | (simp; first | done | fail))) (fun _ => ?_); refine st_ ?_; (refine ru_ ?_; intros))
        obtain ⟨hkl, hnc, _⟩ := next_some (show nextP md l s S i = some r.1 by rw [hnx, hT])
        have hfl := free_lt hkl hnc
        have hgi : g i = (srch md l (fu - 1) r.1 (S ++ [i])).map (i :: ·) := by rw [hg]; simp only [hnx, hT]
        rw [hgi] at hsr
        have hSL2 := Rp.S_mono hle02 hS
        obtain ⟨cs, hcs, hsrc⟩ := Rp.srcS hSL2
        have hcl := Rp.L_len hcs
        have hco := Rp.L_one hcs
        have h1s : rI.size = 1 := rfl
        rw [h1s] at hcl
        simp only [List.length_map] at hcl hsrc
        refine go_keep [0, 1, 3, 6, 12, 15] [0, 70] ?_
        refine st_ ?_
        refine rn_ ?_; intros
        refine x_held [(70, bs 11, .c 44 [.v (.slice a3 r.1.vals.length c3), .v (.slice a4 r.1.ps.length c4)])] rfl (by rw [hP]; kernel_rfl) rfl rfl rfl ?_; refine st_ ?_
        refine h_take 0 rfl (by kernel_rfl) (by kernel_rfl) (by kernel_rfl) hQp (by rw [hnt]; rfl) (allIn (by repeat (first | exact trivial | refine ⟨rfl, ?_⟩))) (by first | exact Le.refl _ | assumption) (quiet_op (by rw [hty]; first | rfl | (refine st_ ?_; rfl))) ?_; refine st_ ?_
        refine h_take 1 rfl (by kernel_rfl) (by kernel_rfl) (by kernel_rfl) hQp (by rw [hnt]; rfl) (allIn (by repeat (first | exact trivial | refine ⟨rfl, ?_⟩))) (by first | exact Le.refl _ | assumption) (quiet_op (by rw [hty]; first | rfl | (refine st_ ?_; rfl))) ?_; refine st_ ?_
        refine h_take 2 rfl (by kernel_rfl) (by kernel_rfl) (by kernel_rfl) hQp (by rw [hnt]; rfl) (allIn (by repeat (first | exact trivial | refine ⟨rfl, ?_⟩))) (by first | exact Le.refl _ | assumption) (quiet_op (by rw [hty]; first | rfl | (refine st_ ?_; rfl))) ?_; refine st_ ?_
        refine h_take 4 rfl (by kernel_rfl) (by kernel_rfl) (by kernel_rfl) hQp (by rw [hnt]; rfl) (allIn (by repeat (first | exact trivial | refine ⟨rfl, ?_⟩))) (by first | exact Le.refl _ | assumption) (quiet_op (by rw [hty]; first | rfl | (refine st_ ?_; rfl))) ?_; refine st_ ?_
        refine h_take 6 rfl (by kernel_rfl) (by kernel_rfl) (by kernel_rfl) hQp (by rw [hnt]; rfl) (allIn (by repeat (first | exact trivial | refine ⟨rfl, ?_⟩))) (by first | exact Le.refl _ | assumption) (quiet_op (by rw [hty]; first | rfl | (refine st_ ?_; rfl))) ?_; refine st_ ?_
        refine h_two 3 7 rfl rfl (by kernel_rfl) ?_ ?_
        · refine rn_ ?_; intros
          refine h_hs (allIn (by repeat (first | exact trivial | refine ⟨rfl, ?_⟩))) (by first | exact Le.refl _ | assumption) ?_
          refine h_two 5 7 rfl rfl (by kernel_rfl) ?_ ?_
          · refine go_litrow 71 (n := 0) (size := 1) rfl (by omega) rfl (by omega) ?_
            refine st_ ?_
            refine go_append_any 71 (by rw [hnt]; rfl) (by rw [hty]; rfl) (by rw [hty]; rfl) (by decide) rfl rfl rfl (by omega) rfl (hsrc.imp id fun f => f _ _ rfl) (by simpa using hcl) hco (by omega) (by simp only []; omega) ?_
            intro v1
            refine go_rowS 71 rfl ?_
            rintro a6 c6 rfl
            refine rn_ ?_; intros
            refine h_hs (allIn (by repeat (first | exact trivial | refine ⟨rfl, ?_⟩))) (by first | exact Le.refl _ | assumption) ?_
            refine h_one 7 rfl (by kernel_rfl) ?_
            refine rn_ ?_; intros
            refine h_hs (allIn (by repeat (first | exact trivial | refine ⟨rfl, ?_⟩))) (by first | exact Le.refl _ | assumption) ?_
            refine h_one 8 rfl (by kernel_rfl) ?_
            refine go_append_any 71 (by rw [hnt]; rfl) (by rw [hty]; rfl) (by rw [hty]; rfl) (by decide) rfl rfl rfl (by omega) rfl (.inr (src_own 1 rfl rfl)) rfl (by simp [dens, SV.den, Value.oneCell']) (by omega) (by simp only []; omega) ?_
            intro v2
            refine go_rowS 71 rfl ?_
            rintro a7 c7 rfl
            refine go_pubL rI 71 rfl (by omega) (ts := (S ++ [i]).map fun i : Nat => (i : Int)) (by simp) (by omega) (by
              rw [List.map_append]
              exact Rp.L_append (by simpa using hcs) (by rw [rI_L]; exact ⟨rfl, fun n hn => by simp at hn; subst hn; simp only [isI64]; omega⟩)) ?_
            intro G3 ad3 cap3 (hle3 : Le G2 G3) he3 hS3
            rw [← he3] at hS3
            refine st_ ?_
            refine rn_ ?_; intros
            refine h_hs (allIn (by repeat (first | exact trivial | refine ⟨rfl, ?_⟩))) (by first | exact Le.refl _ | assumption) ?_
            refine h_one 9 rfl (by kernel_rfl) ?_
            refine go_call (by rw [hnt]; rfl) (by rw [hP]; kernel_rfl) rfl (hP ▸ IH (fu - 1) (by omega) r.1 (S ++ [i]) _ _ _ G3 (Rp.S_mono (hle02.trans hle3) hl) hS3 (hs1.mono hle3) hc1 hinv2 (by omega) (by omega) (by omega) (by simp; omega)) ?_
            rintro v G4 (hle4 : Le G3 G4) hv
            have hle24 : Le G2 G4 := hle3.trans hle4
            rcases hsrk : srch md l (fu - 1) r.1 (S ++ [i]) with _ | p
            · rw [hsrk] at hv hsr
              simp only [Option.map_none] at hsr
              subst hv
              refine rn_ ?_; intros
              refine h_hs (allIn (by repeat (first | exact trivial | refine ⟨rfl, ?_⟩))) (by first | exact Le.refl _ | assumption) ?_
              refine h_take 10 rfl (by kernel_rfl) (by kernel_rfl) (by kernel_rfl) hQp (by rw [hnt]; rfl) (allIn (by repeat (first | exact trivial | refine ⟨rfl, ?_⟩))) (by first | exact Le.refl _ | assumption) (quiet_op (by rw [hty]; first | rfl | (refine st_ ?_; rfl))) ?_; refine st_ ?_
              refine h_take 11 rfl (by kernel_rfl) (by kernel_rfl) (by kernel_rfl) hQp (by rw [hnt]; rfl) (allIn (by repeat (first | exact trivial | refine ⟨rfl, ?_⟩))) (by first | exact Le.refl _ | assumption) (quiet_op (by rw [hty]; first | rfl | (refine st_ ?_; rfl))) ?_; refine st_ ?_
              refine h_take 12 rfl (by kernel_rfl) (by kernel_rfl) (by kernel_rfl) hQp (by rw [hnt]; rfl) (allIn (by repeat (first | exact trivial | refine ⟨rfl, ?_⟩))) (by first | exact Le.refl _ | assumption) (quiet_op (by rw [hty]; first | rfl | (refine st_ ?_; rfl))) ?_; refine st_ ?_
              refine h_one 13 rfl (by kernel_rfl) ?_
              refine rn_ ?_; intros
              refine h_hs (allIn (by repeat (first | exact trivial | refine ⟨rfl, ?_⟩))) (by first | exact Le.refl _ | assumption) ?_
              refine h_one 14 rfl (by kernel_rfl) ?_
              refine rn_ ?_; intros
              refine h_hs (allIn (by repeat (first | exact trivial | refine ⟨rfl, ?_⟩))) (by first | exact Le.refl _ | assumption) ?_
              refine h_end (by kernel_rfl) ?_
              refine rn_ ?_; intros
              (refine x_split rfl rfl rfl (fun hc => absurd hc (by first | decide +kernel | (simp; first | done | fail))) (fun _ => ?_); refine st_ ?_; (refine ru_ ?_; intros))
              refine rn_ ?_; intros
              rw [wr (n := (i : Int) + 1) (by omega) (by omega)]
              refine go_keep [0, 1, 3, 6, 12] [0] ?_
              refine st_ ?_
              exact ih (l.length - (i + 1)) _ (by omega) ⟨i + 1, G4, by omega, rfl, hle02.trans hle24, hsr, rfl⟩
            · rw [hsrk] at hv hsr
              simp only [Option.map_some] at hsr
              obtain ⟨slp, rfl, hpS⟩ := hv
              obtain ⟨ap, cp, e5⟩ := Rp.S_slice hpS
              subst e5
              rw [hsr] at hQ
              refine rn_ ?_; intros
              refine h_hs (allIn (by repeat (first | exact trivial | refine ⟨rfl, ?_⟩))) (by first | exact Le.refl _ | assumption) ?_
              refine h_take 10 rfl (by kernel_rfl) (by kernel_rfl) (by kernel_rfl) hQp (by rw [hnt]; rfl) (allIn (by repeat (first | exact trivial | refine ⟨rfl, ?_⟩))) (by first | exact Le.refl _ | assumption) (quiet_op (by rw [hty]; first | rfl | (refine st_ ?_; rfl))) ?_; refine st_ ?_
              refine h_take 11 rfl (by kernel_rfl) (by kernel_rfl) (by kernel_rfl) hQp (by rw [hnt]; rfl) (allIn (by repeat (first | exact trivial | refine ⟨rfl, ?_⟩))) (by first | exact Le.refl _ | assumption) (quiet_op (by rw [hty]; first | rfl | (refine st_ ?_; rfl))) ?_; refine st_ ?_
              refine h_take 12 rfl (by kernel_rfl) (by kernel_rfl) (by kernel_rfl) hQp (by rw [hnt]; rfl) (allIn (by repeat (first | exact trivial | refine ⟨rfl, ?_⟩))) (by first | exact Le.refl _ | assumption) (quiet_op (by rw [hty]; first | rfl | (refine st_ ?_; rfl))) ?_; refine st_ ?_
              refine h_one 13 rfl (by kernel_rfl) ?_
              refine rn_ ?_; intros
              refine h_hs (allIn (by repeat (first | exact trivial | refine ⟨rfl, ?_⟩))) (by first | exact Le.refl _ | assumption) ?_
              refine h_one 14 rfl (by kernel_rfl) ?_
              refine rn_ ?_; intros
              refine h_hs (allIn (by repeat (first | exact trivial | refine ⟨rfl, ?_⟩))) (by first | exact Le.refl _ | assumption) ?_
              refine h_end (by kernel_rfl) ?_
              refine rn_ ?_; intros
              (refine x_split rfl rfl rfl (fun _ => ?_) (fun hc => absurd hc (by first | decide +kernel | (simp; first | done | fail))); refine st_ ?_; (refine ru_ ?_; intros))
              refine rn_ ?_; intros
              refine x_retc rfl hQ hmb rfl (by rw [hty]; simp only [so, sq, zy, zz, tyE, SO', SQ', opQ, opStore, opAlloc, ev, putS, dOk, cv, SV.cs, SV.one, SV.bool?, eqB, Value.oneCell', ldOwn, binInt, binConst, binBool, binStr, isC, TK.agg, rv, rv1, ldV, resOne, resV, Nat.reduceAdd, Nat.reduceMul, Nat.reduceSub, Nat.reduceLT, Nat.reduceLeDiff, Nat.reduceEqDiff, Nat.reduceBEq, reduceIte, reduceCtorEq, eq_self]; try rfl) rfl ?_; simp only [SV.den, resV, dens]
              refine ⟨_, rfl, ?_⟩
              rw [show S ++ i :: p = S ++ [i] ++ p by simp]
              exact hpS
          · refine rn_ ?_; intros
            refine h_hs (allIn (by repeat (first | exact trivial | refine ⟨rfl, ?_⟩))) (by first | exact Le.refl _ | assumption) ?_
            refine h_one 5 rfl (by kernel_rfl) ?_
            refine go_litrow 71 (n := 0) (size := 1) rfl (by omega) rfl (by omega) ?_
            refine st_ ?_
            refine go_append_any 71 (by rw [hnt]; rfl) (by rw [hty]; rfl) (by rw [hty]; rfl) (by decide) rfl rfl rfl (by omega) rfl (hsrc.imp id fun f => f _ _ rfl) (by simpa using hcl) hco (by omega) (by simp only []; omega) ?_
            intro v1
            refine go_rowS 71 rfl ?_
            rintro a6 c6 rfl
            refine rn_ ?_; intros
            refine h_hs (allIn (by repeat (first | exact trivial | refine ⟨rfl, ?_⟩))) (by first | exact Le.refl _ | assumption) ?_
            refine h_one 8 rfl (by kernel_rfl) ?_
            refine go_append_any 71 (by rw [hnt]; rfl) (by rw [hty]; rfl) (by rw [hty]; rfl) (by decide) rfl rfl rfl (by omega) rfl (.inr (src_own 1 rfl rfl)) rfl (by simp [dens, SV.den, Value.oneCell']) (by omega) (by simp only []; omega) ?_
            intro v2
            refine go_rowS 71 rfl ?_
            rintro a7 c7 rfl
            refine go_pubL rI 71 rfl (by omega) (ts := (S ++ [i]).map fun i : Nat => (i : Int)) (by simp) (by omega) (by
              rw [List.map_append]
              exact Rp.L_append (by simpa using hcs) (by rw [rI_L]; exact ⟨rfl, fun n hn => by simp at hn; subst hn; simp only [isI64]; omega⟩)) ?_
            intro G3 ad3 cap3 (hle3 : Le G2 G3) he3 hS3
            rw [← he3] at hS3
            refine st_ ?_
            refine rn_ ?_; intros
            refine h_hs (allIn (by repeat (first | exact trivial | refine ⟨rfl, ?_⟩))) (by first | exact Le.refl _ | assumption) ?_
            refine h_one 9 rfl (by kernel_rfl) ?_
            refine go_call (by rw [hnt]; rfl) (by rw [hP]; kernel_rfl) rfl (hP ▸ IH (fu - 1) (by omega) r.1 (S ++ [i]) _ _ _ G3 (Rp.S_mono (hle02.trans hle3) hl) hS3 (hs1.mono hle3) hc1 hinv2 (by omega) (by omega) (by omega) (by simp; omega)) ?_
            rintro v G4 (hle4 : Le G3 G4) hv
            have hle24 : Le G2 G4 := hle3.trans hle4
            rcases hsrk : srch md l (fu - 1) r.1 (S ++ [i]) with _ | p
            · rw [hsrk] at hv hsr
              simp only [Option.map_none] at hsr
              subst hv
              refine rn_ ?_; intros
              refine h_hs (allIn (by repeat (first | exact trivial | refine ⟨rfl, ?_⟩))) (by first | exact Le.refl _ | assumption) ?_
              refine h_take 10 rfl (by kernel_rfl) (by kernel_rfl) (by kernel_rfl) hQp (by rw [hnt]; rfl) (allIn (by repeat (first | exact trivial | refine ⟨rfl, ?_⟩))) (by first | exact Le.refl _ | assumption) (quiet_op (by rw [hty]; first | rfl | (refine st_ ?_; rfl))) ?_; refine st_ ?_
              refine h_take 11 rfl (by kernel_rfl) (by kernel_rfl) (by kernel_rfl) hQp (by rw [hnt]; rfl) (allIn (by repeat (first | exact trivial | refine ⟨rfl, ?_⟩))) (by first | exact Le.refl _ | assumption) (quiet_op (by rw [hty]; first | rfl | (refine st_ ?_; rfl))) ?_; refine st_ ?_
              refine h_take 12 rfl (by kernel_rfl) (by kernel_rfl) (by kernel_rfl) hQp (by rw [hnt]; rfl) (allIn (by repeat (first | exact trivial | refine ⟨rfl, ?_⟩))) (by first | exact Le.refl _ | assumption) (quiet_op (by rw [hty]; first | rfl | (refine st_ ?_; rfl))) ?_; refine st_ ?_
              refine h_one 13 rfl (by kernel_rfl) ?_
              refine rn_ ?_; intros
              refine h_hs (allIn (by repeat (first | exact trivial | refine ⟨rfl, ?_⟩))) (by first | exact Le.refl _ | assumption) ?_
              refine h_one 14 rfl (by kernel_rfl) ?_
              refine rn_ ?_; intros
              refine h_hs (allIn (by repeat (first | exact trivial | refine ⟨rfl, ?_⟩))) (by first | exact Le.refl _ | assumption) ?_
              refine h_end (by kernel_rfl) ?_
              refine rn_ ?_; intros
              (refine x_split rfl rfl rfl (fun hc => absurd hc (by first | decide +kernel | (simp; first | done | fail))) (fun _ => ?_); refine st_ ?_; (refine ru_ ?_; intros))
              refine rn_ ?_; intros
              rw [wr (n := (i : Int) + 1) (by omega) (by omega)]
              refine go_keep [0, 1, 3, 6, 12] [0] ?_
              refine st_ ?_
              exact ih (l.length - (i + 1)) _ (by omega) ⟨i + 1, G4, by omega, rfl, hle02.trans hle24, hsr, rfl⟩
            · rw [hsrk] at hv hsr
              simp only [Option.map_some] at hsr
              obtain ⟨slp, rfl, hpS⟩ := hv
              obtain ⟨ap, cp, e5⟩ := Rp.S_slice hpS
              subst e5
              rw [hsr] at hQ
              refine rn_ ?_; intros
              refine h_hs (allIn (by repeat (first | exact trivial | refine ⟨rfl, ?_⟩))) (by first | exact Le.refl _ | assumption) ?_
              refine h_take 10 rfl (by kernel_rfl) (by kernel_rfl) (by kernel_rfl) hQp (by rw [hnt]; rfl) (allIn (by repeat (first | exact trivial | refine ⟨rfl, ?_⟩))) (by first | exact Le.refl _ | assumption) (quiet_op (by rw [hty]; first | rfl | (refine st_ ?_; rfl))) ?_; refine st_ ?_
              refine h_take 11 rfl (by kernel_rfl) (by kernel_rfl) (by kernel_rfl) hQp (by rw [hnt]; rfl) (allIn (by repeat (first | exact trivial | refine ⟨rfl, ?_⟩))) (by first | exact Le.refl _ | assumption) (quiet_op (by rw [hty]; first | rfl | (refine st_ ?_; rfl))) ?_; refine st_ ?_
              refine h_take 12 rfl (by kernel_rfl) (by kernel_rfl) (by kernel_rfl) hQp (by rw [hnt]; rfl) (allIn (by repeat (first | exact trivial | refine ⟨rfl, ?_⟩))) (by first | exact Le.refl _ | assumption) (quiet_op (by rw [hty]; first | rfl | (refine st_ ?_; rfl))) ?_; refine st_ ?_
              refine h_one 13 rfl (by kernel_rfl) ?_
              refine rn_ ?_; intros
              refine h_hs (allIn (by repeat (first | exact trivial | refine ⟨rfl, ?_⟩))) (by first | exact Le.refl _ | assumption) ?_
              refine h_one 14 rfl (by kernel_rfl) ?_
              refine rn_ ?_; intros
              refine h_hs (allIn (by repeat (first | exact trivial | refine ⟨rfl, ?_⟩))) (by first | exact Le.refl _ | assumption) ?_
              refine h_end (by kernel_rfl) ?_
              refine rn_ ?_; intros
              (refine x_split rfl rfl rfl (fun _ => ?_) (fun hc => absurd hc (by first | decide +kernel | (simp; first | done | fail))); refine st_ ?_; (refine ru_ ?_; intros))
              refine rn_ ?_; intros
              refine x_retc rfl hQ hmb rfl (by rw [hty]; simp only [so, sq, zy, zz, tyE, SO', SQ', opQ, opStore, opAlloc, ev, putS, dOk, cv, SV.cs, SV.one, SV.bool?, eqB, Value.oneCell', ldOwn, binInt, binConst, binBool, binStr, isC, TK.agg, rv, rv1, ldV, resOne, resV, Nat.reduceAdd, Nat.reduceMul, Nat.reduceSub, Nat.reduceLT, Nat.reduceLeDiff, Nat.reduceEqDiff, Nat.reduceBEq, reduceIte, reduceCtorEq, eq_self]; try rfl) rfl ?_; simp only [SV.den, resV, dens]
              refine ⟨_, rfl, ?_⟩
              rw [show S ++ i :: p = S ++ [i] ++ p by simp]
              exact hpS
        · refine rn_ ?_; intros
          refine h_hs (allIn (by repeat (first | exact trivial | refine ⟨rfl, ?_⟩))) (by first | exact Le.refl _ | assumption) ?_
          refine h_one 3 rfl (by kernel_rfl) ?_
          refine rn_ ?_; intros
          refine h_hs (allIn (by repeat (first | exact trivial | refine ⟨rfl, ?_⟩))) (by first | exact Le.refl _ | assumption) ?_
          refine h_one 5 rfl (by kernel_rfl) ?_
          refine go_litrow 72 (n := 0) (size := 1) rfl (by omega) rfl (by omega) ?_
          refine st_ ?_
          refine go_append_any 72 (by rw [hnt]; rfl) (by rw [hty]; rfl) (by rw [hty]; rfl) (by decide) rfl rfl rfl (by omega) rfl (hsrc.imp id fun f => f _ _ rfl) (by simpa using hcl) hco (by omega) (by simp only []; omega) ?_
          intro v1
          refine go_rowS 72 rfl ?_
          rintro a6 c6 rfl
          refine rn_ ?_; intros
          refine h_hs (allIn (by repeat (first | exact trivial | refine ⟨rfl, ?_⟩))) (by first | exact Le.refl _ | assumption) ?_
          refine h_one 8 rfl (by kernel_rfl) ?_
          refine go_append_any 72 (by rw [hnt]; rfl) (by rw [hty]; rfl) (by rw [hty]; rfl) (by decide) rfl rfl rfl (by omega) rfl (.inr (src_own 1 rfl rfl)) rfl (by simp [dens, SV.den, Value.oneCell']) (by omega) (by simp only []; omega) ?_
          intro v2
          refine go_rowS 72 rfl ?_
          rintro a7 c7 rfl
          refine go_pubL rI 72 rfl (by omega) (ts := (S ++ [i]).map fun i : Nat => (i : Int)) (by simp) (by omega) (by
            rw [List.map_append]
            exact Rp.L_append (by simpa using hcs) (by rw [rI_L]; exact ⟨rfl, fun n hn => by simp at hn; subst hn; simp only [isI64]; omega⟩)) ?_
          intro G3 ad3 cap3 (hle3 : Le G2 G3) he3 hS3
          rw [← he3] at hS3
          refine st_ ?_
          refine rn_ ?_; intros
          refine h_hs (allIn (by repeat (first | exact trivial | refine ⟨rfl, ?_⟩))) (by first | exact Le.refl _ | assumption) ?_
          refine h_one 9 rfl (by kernel_rfl) ?_
          refine go_call (by rw [hnt]; rfl) (by rw [hP]; kernel_rfl) rfl (hP ▸ IH (fu - 1) (by omega) r.1 (S ++ [i]) _ _ _ G3 (Rp.S_mono (hle02.trans hle3) hl) hS3 (hs1.mono hle3) hc1 hinv2 (by omega) (by omega) (by omega) (by simp; omega)) ?_
          rintro v G4 (hle4 : Le G3 G4) hv
          have hle24 : Le G2 G4 := hle3.trans hle4
          rcases hsrk : srch md l (fu - 1) r.1 (S ++ [i]) with _ | p
          · rw [hsrk] at hv hsr
            simp only [Option.map_none] at hsr
            subst hv
            refine rn_ ?_; intros
            refine h_hs (allIn (by repeat (first | exact trivial | refine ⟨rfl, ?_⟩))) (by first | exact Le.refl _ | assumption) ?_
            refine h_take 10 rfl (by kernel_rfl) (by kernel_rfl) (by kernel_rfl) hQp (by rw [hnt]; rfl) (allIn (by repeat (first | exact trivial | refine ⟨rfl, ?_⟩))) (by first | exact Le.refl _ | assumption) (quiet_op (by rw [hty]; first | rfl | (refine st_ ?_; rfl))) ?_; refine st_ ?_
            refine h_take 11 rfl (by kernel_rfl) (by kernel_rfl) (by kernel_rfl) hQp (by rw [hnt]; rfl) (allIn (by repeat (first | exact trivial | refine ⟨rfl, ?_⟩))) (by first | exact Le.refl _ | assumption) (quiet_op (by rw [hty]; first | rfl | (refine st_ ?_; rfl))) ?_; refine st_ ?_
            refine h_take 12 rfl (by kernel_rfl) (by kernel_rfl) (by kernel_rfl) hQp (by rw [hnt]; rfl) (allIn (by repeat (first | exact trivial | refine ⟨rfl, ?_⟩))) (by first | exact Le.refl _ | assumption) (quiet_op (by rw [hty]; first | rfl | (refine st_ ?_; rfl))) ?_; refine st_ ?_
            refine h_one 13 rfl (by kernel_rfl) ?_
            refine rn_ ?_; intros
            refine h_hs (allIn (by repeat (first | exact trivial | refine ⟨rfl, ?_⟩))) (by first | exact Le.refl _ | assumption) ?_
            refine h_one 14 rfl (by kernel_rfl) ?_
            refine rn_ ?_; intros
            refine h_hs (allIn (by repeat (first | exact trivial | refine ⟨rfl, ?_⟩))) (by first | exact Le.refl _ | assumption) ?_
            refine h_end (by kernel_rfl) ?_
            refine rn_ ?_; intros
            (refine x_split rfl rfl rfl (fun hc => absurd hc (by first | decide +kernel | (simp; first | done | fail))) (fun _ => ?_); refine st_ ?_; (refine ru_ ?_; intros))
            refine rn_ ?_; intros
            rw [wr (n := (i : Int) + 1) (by omega) (by omega)]
            refine go_keep [0, 1, 3, 6, 12] [0] ?_
            refine st_ ?_
            exact ih (l.length - (i + 1)) _ (by omega) ⟨i + 1, G4, by omega, rfl, hle02.trans hle24, hsr, rfl⟩
          · rw [hsrk] at hv hsr
            simp only [Option.map_some] at hsr
            obtain ⟨slp, rfl, hpS⟩ := hv
            obtain ⟨ap, cp, e5⟩ := Rp.S_slice hpS
            subst e5
            rw [hsr] at hQ
            refine rn_ ?_; intros
            refine h_hs (allIn (by repeat (first | exact trivial | refine ⟨rfl, ?_⟩))) (by first | exact Le.refl _ | assumption) ?_
            refine h_take 10 rfl (by kernel_rfl) (by kernel_rfl) (by kernel_rfl) hQp (by rw [hnt]; rfl) (allIn (by repeat (first | exact trivial | refine ⟨rfl, ?_⟩))) (by first | exact Le.refl _ | assumption) (quiet_op (by rw [hty]; first | rfl | (refine st_ ?_; rfl))) ?_; refine st_ ?_
            refine h_take 11 rfl (by kernel_rfl) (by kernel_rfl) (by kernel_rfl) hQp (by rw [hnt]; rfl) (allIn (by repeat (first | exact trivial | refine ⟨rfl, ?_⟩))) (by first | exact Le.refl _ | assumption) (quiet_op (by rw [hty]; first | rfl | (refine st_ ?_; rfl))) ?_; refine st_ ?_
            refine h_take 12 rfl (by kernel_rfl) (by kernel_rfl) (by kernel_rfl) hQp (by rw [hnt]; rfl) (allIn (by repeat (first | exact trivial | refine ⟨rfl, ?_⟩))) (by first | exact Le.refl _ | assumption) (quiet_op (by rw [hty]; first | rfl | (refine st_ ?_; rfl))) ?_; refine st_ ?_
            refine h_one 13 rfl (by kernel_rfl) ?_
            refine rn_ ?_; intros
            refine h_hs (allIn (by repeat (first | exact trivial | refine ⟨rfl, ?_⟩))) (by first | exact Le.refl _ | assumption) ?_
            refine h_one 14 rfl (by kernel_rfl) ?_
            refine rn_ ?_; intros
            refine h_hs (allIn (by repeat (first | exact trivial | refine ⟨rfl, ?_⟩))) (by first | exact Le.refl _ | assumption) ?_
            refine h_end (by kernel_rfl) ?_
            refine rn_ ?_; intros
            (refine x_split rfl rfl rfl (fun _ => ?_) (fun hc => absurd hc (by first | decide +kernel | (simp; first | done | fail))); refine st_ ?_; (refine ru_ ?_; intros))
            refine rn_ ?_; intros
            refine x_retc rfl hQ hmb rfl (by rw [hty]; simp only [so, sq, zy, zz, tyE, SO', SQ', opQ, opStore, opAlloc, ev, putS, dOk, cv, SV.cs, SV.one, SV.bool?, eqB, Value.oneCell', ldOwn, binInt, binConst, binBool, binStr, isC, TK.agg, rv, rv1, ldV, resOne, resV, Nat.reduceAdd, Nat.reduceMul, Nat.reduceSub, Nat.reduceLT, Nat.reduceLeDiff, Nat.reduceEqDiff, Nat.reduceBEq, reduceIte, reduceCtorEq, eq_self]; try rfl) rfl ?_; simp only [SV.den, resV, dens]
            refine ⟨_, rfl, ?_⟩
            rw [show S ++ i :: p = S ++ [i] ++ p by simp]
            exact hpS
    · have hge : i = l.length := by simp at hjl; omega
      subst hge
      rw [List.drop_eq_nil_of_le (by simp)] at hsr
      simp only [List.findSome?_nil] at hsr
      rw [hsr] at hQ
      refine rn_ ?_; intros
      refine x_retc rfl hQ hmb rfl (by rw [hty]; simp only [so, sq, zy, zz, tyE, SO', SQ', opQ, opStore, opAlloc, ev, putS, dOk, cv, SV.cs, SV.one, SV.bool?, eqB, Value.oneCell', ldOwn, binInt, binConst, binBool, binStr, isC, TK.agg, rv, rv1, ldV, resOne, resV, Nat.reduceAdd, Nat.reduceMul, Nat.reduceSub, Nat.reduceLT, Nat.reduceLeDiff, Nat.reduceEqDiff, Nat.reduceBEq, reduceIte, reduceCtorEq, eq_self]; try rfl) rfl ?_; simp only [SV.den, resV, dens]
      rfl
end Go.Proofs.Ytpmmbjcgabnloaa
namespace Go.Proofs.Ytpmmbjcgabnloaa
set_option linter.unusedSimpArgs false
set_option linter.unusedVariables false
open Go.Sx
set_option maxHeartbeats 8000000
set_option maxRecDepth 20000
theorem rLine_ok (m : Int) (l : List Op) (sl : Value) (G : Hp) (hl : rO.S G l sl) : Pure Try.prog 22 [.int .i64 m, sl] G (lnRet (lnR m l)) := by
  have hl63 := Rp.S_len hl
  obtain ⟨adl, capl, rfl⟩ := Rp.S_slice hl
  refine enterX ty tyok Try.func22 rfl Try.ntmps22 [.v (.int .i64 m), .v (.slice adl l.length capl)] (by simp) ?_
  intro C hP hQ hnt hty hmb hmh hro; have hQp := qp_body hQ; refine st_ ?_
  refine rn_ ?_; intros
  refine go_keep [0, 1, 4, 5, 6, 7] [] ?_
  refine st_ ?_
  refine x_loop rfl (fun q st => ∃ (k : Nat), k ≤ l.length ∧ q = l.length - k ∧ (∀ o ∈ l.take k, rgtO (kns m) o = true) ∧
    st = ⟨[(0, .v (.int .i64 m)), (1, .v (.slice adl l.length capl)), (4, .v (.slice none 0 0)), (5, .b false), (6, .v (.int .i64 0)), (7, .v (.int .i64 k))], [], G, []⟩) ⟨0, by omega, rfl, fun o ho => by simp at ho, rfl⟩ ?_
  rintro q st ⟨k, hk, hq, hrg, rfl⟩ ih
  refine rn_ ?_; intros
  refine x_if rfl rfl rfl rfl (fun hjl => ?_) (fun hjl => ?_)
  · have hlt : k < l.length := by simp at hjl; omega
    obtain ⟨c1, o1, sa, sr, rfl, hat, hor⟩ := rO_at hl hlt
    obtain ⟨asa, csa, rfl⟩ := VT.rep_slice hor.a
    obtain ⟨asr, csr, rfl⟩ := VT.rep_slice hor.r
    refine rn_ ?_; intros
    refine go_q (by rw [hnt]; rfl) (quiet_index (by rw [hty]; rfl) (by rw [hty]; rfl) rfl rfl rfl (by omega) (by omega)) ?_
    refine rn_ ?_; intros
    refine go_q (v := .agg (opL l[k] (.slice asa l[k].arg.l.length csa) (.slice asr l[k].res.l.length csr)).toArray) (by rw [hnt]; rfl) ((quiet_load (by rw [hty]; rfl) rfl (fun q => by cases q) (by simpa only [Int.toNat_natCast] using hat) rfl).cast (by simp only [ldV]; rfl)) ?_
    simp only [opL]
    refine rn_ ?_; intros
    refine go_callf (by rw [hnt]; rfl) (by rw [hP]; kernel_rfl) rfl (hP ▸ rright_ok2 m l[k] _ _ G hor) ?_; refine rn_ ?_; intros
    cases hv : rgtO (kns m) l[k]
    · (refine x_split rfl rfl rfl (fun _ => ?_) (fun hc => absurd hc (by first | decide +kernel | (simp; first | done | fail))); refine st_ ?_; (refine ru_ ?_; intros))
      refine rn_ ?_; intros
      refine x_retc rfl hQ hmb rfl (by rw [hty]; simp only [so, sq, zy, zz, tyE, SO', SQ', opQ, opStore, opAlloc, ev, putS, dOk, cv, SV.cs, SV.one, SV.bool?, eqB, Value.oneCell', ldOwn, binInt, binConst, binBool, binStr, isC, TK.agg, rv, rv1, ldV, resOne, resV, Nat.reduceAdd, Nat.reduceMul, Nat.reduceSub, Nat.reduceLT, Nat.reduceLeDiff, Nat.reduceEqDiff, Nat.reduceBEq, reduceIte, reduceCtorEq, eq_self]; try rfl) rfl ?_; simp only [SV.den, resV, dens]
      have e : lnR m l = ([], false, 2) := by
        rw [lnR, if_pos]
        right
        rw [List.all_eq_false]
        exact ⟨l[k], List.getElem_mem _, by rw [hv]; decide⟩
      rw [e]
      exact ⟨_, rfl, Rp.S_nil _ _⟩
    · (refine x_split rfl rfl rfl (fun hc => absurd hc (by first | decide +kernel | (simp; first | done | fail))) (fun _ => ?_); refine st_ ?_; (refine ru_ ?_; intros))
      refine rn_ ?_; intros
      rw [wr (n := (k : Int) + 1) (by omega) (by omega)]
      refine go_keep [0, 1, 4, 5, 6, 7] [] ?_
      refine st_ ?_
      refine ih (l.length - (k + 1)) _ (by omega) ⟨k + 1, by omega, rfl, fun o ho => ?_, rfl⟩
      rw [← List.take_append_getElem hlt] at ho
      rcases List.mem_append.1 ho with ho | ho
      · exact hrg o ho
      · simp at ho; subst ho; exact hv
  · have hge : k = l.length := by simp at hjl; omega
    subst hge
    rw [List.take_length] at hrg
    have hall : (l.all fun o => rgtO (kns m) o) = true := by rw [List.all_eq_true]; exact hrg
    clear ih hjl hq hk
    refine rn_ ?_; intros
    refine go_callf (by rw [hnt]; rfl) (by rw [hP]; kernel_rfl) rfl (hP ▸ kinds_ok m G) ?_; refine rn_ ?_; intros
    by_cases hk0 : kns m = 0
    · rw [hk0]
      (refine x_split rfl rfl rfl (fun _ => ?_) (fun hc => absurd hc (by first | decide +kernel | (simp; first | done | fail))); refine st_ ?_; (refine ru_ ?_; intros))
      refine rn_ ?_; intros
      refine x_retc rfl hQ hmb rfl (by rw [hty]; simp only [so, sq, zy, zz, tyE, SO', SQ', opQ, opStore, opAlloc, ev, putS, dOk, cv, SV.cs, SV.one, SV.bool?, eqB, Value.oneCell', ldOwn, binInt, binConst, binBool, binStr, isC, TK.agg, rv, rv1, ldV, resOne, resV, Nat.reduceAdd, Nat.reduceMul, Nat.reduceSub, Nat.reduceLT, Nat.reduceLeDiff, Nat.reduceEqDiff, Nat.reduceBEq, reduceIte, reduceCtorEq, eq_self]; try rfl) rfl ?_; simp only [SV.den, resV, dens]
      have e : lnR m l = ([], false, 2) := by rw [lnR, if_pos (.inl hk0)]
      rw [e]
      exact ⟨_, rfl, Rp.S_nil _ _⟩
    · have hr0 : lnR m l = if 8 < l.length then (([], false, 3) : List Nat × Bool × Int) else match srch m l l.length ⟨[], []⟩ [] with
        | none => ([], false, 0)
        | some p => (p, true, 0) := by rw [lnR, if_neg (by rw [hall]; simp [hk0])]; rfl
      (refine x_split rfl rfl rfl (fun hc => absurd hc (by simpa using hk0)) (fun _ => ?_); refine st_ ?_; (refine ru_ ?_; intros))
      refine rn_ ?_; intros
      by_cases h8 : 8 < l.length
      · rw [if_pos h8] at hr0
        (refine x_split rfl rfl rfl (fun _ => ?_) (fun hc => absurd hc (by simp; omega)); refine st_ ?_; (refine ru_ ?_; intros))
        refine rn_ ?_; intros
        refine x_retc rfl hQ hmb rfl (by rw [hty]; simp only [so, sq, zy, zz, tyE, SO', SQ', opQ, opStore, opAlloc, ev, putS, dOk, cv, SV.cs, SV.one, SV.bool?, eqB, Value.oneCell', ldOwn, binInt, binConst, binBool, binStr, isC, TK.agg, rv, rv1, ldV, resOne, resV, Nat.reduceAdd, Nat.reduceMul, Nat.reduceSub, Nat.reduceLT, Nat.reduceLeDiff, Nat.reduceEqDiff, Nat.reduceBEq, reduceIte, reduceCtorEq, eq_self]; try rfl) rfl ?_; simp only [SV.den, resV, dens]
        rw [hr0]
        exact ⟨_, rfl, Rp.S_nil _ _⟩
      rw [if_neg h8] at hr0
      (refine x_split rfl rfl rfl (fun hc => absurd hc (by simp; omega)) (fun _ => ?_); refine st_ ?_; (refine ru_ ?_; intros))
      refine rn_ ?_; intros
      have hfr : freeP l.length [] ≤ l.length := Nat.le_trans List.countP_le_length (by simp)
      refine go_call (by rw [hnt]; rfl) (by rw [hP]; kernel_rfl) rfl (hP ▸ rline_ok m l _ (by omega) hrg l.length ⟨[], []⟩ [] (.slice none 0 0) (.slice none 0 0) (.slice none 0 0) G hl (Rp.S_nil _ _) ⟨Rp.S_nil _ _, Rp.S_nil _ _⟩ (fun ad n c h => by cases h; omega) ⟨⟨fun x h => (by cases h), fun x h => (by cases h)⟩, fun x h => (by cases h), fun _ => rfl⟩ (by simp only [List.length_nil]; omega) (by simp only [List.length_nil]; omega) hfr (by simp only [List.length_nil]; omega)) ?_
      rintro v G1 (hle1 : Le G G1) hv
      rcases hsrch : srch m l l.length ⟨[], []⟩ [] with _ | p
      · rw [hsrch] at hv hr0
        simp only at hr0
        subst hv
        refine rn_ ?_; intros
        refine x_retc rfl hQ hmb rfl (by rw [hty]; simp only [so, sq, zy, zz, tyE, SO', SQ', opQ, opStore, opAlloc, ev, putS, dOk, cv, SV.cs, SV.one, SV.bool?, eqB, Value.oneCell', ldOwn, binInt, binConst, binBool, binStr, isC, TK.agg, rv, rv1, ldV, resOne, resV, Nat.reduceAdd, Nat.reduceMul, Nat.reduceSub, Nat.reduceLT, Nat.reduceLeDiff, Nat.reduceEqDiff, Nat.reduceBEq, reduceIte, reduceCtorEq, eq_self]; try rfl) rfl ?_; simp only [SV.den, resV, dens]
        rw [hr0]
        exact ⟨_, rfl, Rp.S_nil _ _⟩
      · rw [hsrch] at hv hr0
        simp only at hr0
        obtain ⟨slp, rfl, hSp⟩ := hv
        obtain ⟨ap, cp, e5⟩ := Rp.S_slice hSp
        subst e5
        refine rn_ ?_; intros
        refine x_retc rfl hQ hmb rfl (by rw [hty]; simp only [so, sq, zy, zz, tyE, SO', SQ', opQ, opStore, opAlloc, ev, putS, dOk, cv, SV.cs, SV.one, SV.bool?, eqB, Value.oneCell', ldOwn, binInt, binConst, binBool, binStr, isC, TK.agg, rv, rv1, ldV, resOne, resV, Nat.reduceAdd, Nat.reduceMul, Nat.reduceSub, Nat.reduceLT, Nat.reduceLeDiff, Nat.reduceEqDiff, Nat.reduceBEq, reduceIte, reduceCtorEq, eq_self]; try rfl) rfl ?_; simp only [SV.den, resV, dens]
        rw [hr0]
        exact ⟨_, rfl, hSp⟩
end Go.Proofs.Ytpmmbjcgabnloaa
namespace Go.Proofs.Ytpmmbjcgabnloaa
set_option linter.unusedSimpArgs false
set_option linter.unusedVariables false
open Go.Sx
set_option maxHeartbeats 8000000
set_option maxRecDepth 20000
theorem ints_ok (a b : List Int) (sa sb : Value) (G : Hp) (ha : rI.S G a sa) (hb : rI.S G b sb) : Pure Try.prog 23 [sa, sb] G (fun v _ => v = .bool (a == b)) := by
  have ha63 := Rp.S_len ha
  obtain ⟨ada, capa, rfl⟩ := Rp.S_slice ha
  obtain ⟨adb, capb, rfl⟩ := Rp.S_slice hb
  refine enterX ty tyok Try.func23 rfl Try.ntmps23 [.v (.slice ada a.length capa), .v (.slice adb b.length capb)] (by simp) ?_
  intro C hP hQ hnt hty hmb hmh hro; have hQp := qp_body hQ; refine st_ ?_
  refine rn_ ?_; intros
  refine x_if rfl rfl rfl rfl (fun hne => ?_) (fun hne => ?_)
  · refine rn_ ?_; intros
    refine x_retc rfl hQ hmb rfl (by rw [hty]; simp only [so, sq, zy, zz, tyE, SO', SQ', opQ, opStore, opAlloc, ev, putS, dOk, cv, SV.cs, SV.one, SV.bool?, eqB, Value.oneCell', ldOwn, binInt, binConst, binBool, binStr, isC, TK.agg, rv, rv1, ldV, resOne, resV, Nat.reduceAdd, Nat.reduceMul, Nat.reduceSub, Nat.reduceLT, Nat.reduceLeDiff, Nat.reduceEqDiff, Nat.reduceBEq, reduceIte, reduceCtorEq, eq_self]; try rfl) rfl ?_; simp only [SV.den, resV, dens]
    congr 1
    symm
    rw [beq_eq_false_iff_ne]
    rintro rfl
    simp at hne
  have hln : a.length = b.length := by simp at hne; omega
  refine rn_ ?_; intros
  refine go_keep [0, 1, 4, 5] [] ?_
  refine st_ ?_
  refine x_loop rfl (fun q st => ∃ (k : Nat), k ≤ a.length ∧ q = a.length - k ∧ a.take k = b.take k ∧
    st = ⟨[(0, .v (.slice ada a.length capa)), (1, .v (.slice adb b.length capb)), (4, .b false), (5, .v (.int .i64 k))], [], G, []⟩) ⟨0, by omega, rfl, rfl, rfl⟩ ?_
  rintro q st ⟨k, hk, hq, hno, rfl⟩ ih
  refine rn_ ?_; intros
  refine x_if rfl rfl rfl rfl (fun hjl => ?_) (fun hjl => ?_)
  · have hlt : k < a.length := by simp at hjl; omega
    have hltb : k < b.length := by omega
    obtain ⟨b1, off, cap', c, hv, hat, hc⟩ := Rp.S_get ha hlt
    cases hv
    simp only [rI] at hat hc
    obtain ⟨rfl, _⟩ := hc
    rw [Nat.mul_one] at hat
    obtain ⟨b2, off2, cap2, c2, hv2, hat2, hc2⟩ := Rp.S_get hb hltb
    cases hv2
    simp only [rI] at hat2 hc2
    obtain ⟨rfl, _⟩ := hc2
    rw [Nat.mul_one] at hat2
    refine rn_ ?_; intros
    refine x_draw rfl (by rw [hP]; kernel_rfl) rfl (by kernel_rfl) ?_
    refine runq 400 hty hnt ?_; refine st_ ?_
    refine q_q (by rw [hnt]; rfl) (quiet_index (by rw [hty]; rfl) (by rw [hty]; rfl) rfl rfl rfl (by omega) (by omega)) ?_; refine runq 400 hty hnt ?_; refine st_ ?_
    refine q_q (v := .int .i64 a[k]) (by rw [hnt]; rfl) ((quiet_load (vs := [.int .i64 a[k]]) (by rw [hty]; rfl) rfl (by simp [TK.agg]) (by simpa using hat) rfl).cast (by rfl)) ?_
    refine runq 400 hty hnt ?_; refine st_ ?_
    refine q_q (by rw [hnt]; rfl) (quiet_index (by rw [hty]; rfl) (by rw [hty]; rfl) rfl rfl rfl (by omega) (by omega)) ?_; refine runq 400 hty hnt ?_; refine st_ ?_
    refine q_q (v := .int .i64 b[k]) (by rw [hnt]; rfl) ((quiet_load (vs := [.int .i64 b[k]]) (by rw [hty]; rfl) rfl (by simp [TK.agg]) (by simpa using hat2) rfl).cast (by rfl)) ?_
    refine runq 400 hty hnt ?_; refine st_ ?_
    refine q_end ?_; refine rn_ ?_; intros
    refine x_split rfl rfl rfl (fun he => ?_) (fun he => ?_) <;> (refine st_ ?_; (refine ru_ ?_; intros))
    · have he' : a[k] ≠ b[k] := by simpa using he
      refine rn_ ?_; intros
      refine x_retc rfl hQ hmb rfl (by rw [hty]; simp only [so, sq, zy, zz, tyE, SO', SQ', opQ, opStore, opAlloc, ev, putS, dOk, cv, SV.cs, SV.one, SV.bool?, eqB, Value.oneCell', ldOwn, binInt, binConst, binBool, binStr, isC, TK.agg, rv, rv1, ldV, resOne, resV, Nat.reduceAdd, Nat.reduceMul, Nat.reduceSub, Nat.reduceLT, Nat.reduceLeDiff, Nat.reduceEqDiff, Nat.reduceBEq, reduceIte, reduceCtorEq, eq_self]; try rfl) rfl ?_; simp only [SV.den, resV, dens]
      congr 1
      symm
      rw [beq_eq_false_iff_ne]
      rintro rfl
      exact he' rfl
    · have he' : a[k] = b[k] := by simpa using he
      refine rn_ ?_; intros
      rw [wr (n := (k : Int) + 1) (by omega) (by omega)]
      refine go_keep [0, 1, 4, 5] [] ?_
      refine st_ ?_
      exact ih (a.length - (k + 1)) _ (by omega) ⟨k + 1, by omega, rfl, by rw [← List.take_append_getElem hlt, ← List.take_append_getElem hltb, hno, he'], rfl⟩
  · have hge : k = a.length := by simp at hjl; omega
    subst hge
    rw [List.take_length, hln, List.take_length] at hno
    refine rn_ ?_; intros
    refine x_retc rfl hQ hmb rfl (by rw [hty]; simp only [so, sq, zy, zz, tyE, SO', SQ', opQ, opStore, opAlloc, ev, putS, dOk, cv, SV.cs, SV.one, SV.bool?, eqB, Value.oneCell', ldOwn, binInt, binConst, binBool, binStr, isC, TK.agg, rv, rv1, ldV, resOne, resV, Nat.reduceAdd, Nat.reduceMul, Nat.reduceSub, Nat.reduceLT, Nat.reduceLeDiff, Nat.reduceEqDiff, Nat.reduceBEq, reduceIte, reduceCtorEq, eq_self]; try rfl) rfl ?_; simp only [SV.den, resV, dens]
    rw [hno]
    simp
end Go.Proofs.Ytpmmbjcgabnloaa
namespace Go.Proofs.Ytpmmbjcgabnloaa
set_option linter.unusedSimpArgs false
set_option linter.unusedVariables false
open Go.Sx
set_option maxHeartbeats 8000000
set_option maxRecDepth 20000
def prV (a b : Int) : VT := .mk 3 0 [.mk 2 a [], .mk 2 b []]
def opW (k a r fr to : Int) : Op := ⟨0, k, .mk 2 a [], .mk 2 r [], fr, to, true⟩
def i64B (n : Int) : Bool := decide (-9223372036854775808 ≤ n) && decide (n ≤ 9223372036854775807)
theorem opl_rep (th kd ak an rk rn fr to : Int) (dn : Bool) (G : Hp) (h : (i64B th && i64B kd && i64B ak && i64B an && i64B rk && i64B rn && i64B fr && i64B to) = true) : (⟨th, kd, .mk ak an [], .mk rk rn [], fr, to, dn⟩ : Op).rep G (.slice none 0 0) (.slice none 0 0) := by
  simp only [i64B, Bool.and_eq_true, decide_eq_true_eq] at h
  obtain ⟨⟨⟨⟨⟨⟨⟨h1, h2⟩, h3⟩, h4⟩, h5⟩, h6⟩, h7⟩, h8⟩ := h
  exact ⟨⟨h1, h2, h7, h8, by simp [tsz, tszL], by simp [tsz, tszL]⟩, rep_leaf _ _ _ h3 h4, rep_leaf _ _ _ h5 h6⟩
theorem wdo_ok (G : Hp) : PureV Try.prog 17 [.int .i64 2, .agg #[.slice none 0 0, .slice none 0 0], .agg #[.int .i64 0, .int .i64 1, .int .i64 2, .int .i64 0, .slice none 0 0, .int .i64 2, .int .i64 1, .slice none 0 0, .int .i64 2, .int .i64 3, .bool true]] G (doRet (⟨[], []⟩, noneV, false, 0)) := by
  rw [← show doR 2 ⟨[], []⟩ (opW 1 0 1 2 3) = (⟨[], []⟩, noneV, false, 0) by kernel_rfl]
  exact hDo_ok 2 ⟨[], []⟩ (.slice none 0 0) (.slice none 0 0) (opW 1 0 1 2 3) (.slice none 0 0) (.slice none 0 0) G ⟨Rp.S_nil _ _, Rp.S_nil _ _⟩ (opl_rep _ _ _ _ _ _ _ _ _ _ (by decide)) (by simp) (by simp)
theorem works29_ok (G : Hp) : Pure Try.prog 9 [] G (fun v _ => v = .bool true) := by
  refine enterX ty tyok Try.func9 rfl Try.ntmps9 [] (by simp) ?_
  intro C hP hQ hnt hty hmb hmh hro; have hQp := qp_body hQ; refine st_ ?_
  refine rn_ ?_; intros
  refine go_call (by rw [hnt]; rfl) (by rw [hP]; kernel_rfl) rfl (hP ▸ pair_ok 0 5 _ (by simp [isI64]) (by simp [isI64])) ?_
  rintro v G1 (hle1 : Le G G1) ⟨s1, rfl, hr1⟩
  obtain ⟨s1a, s1c, rfl⟩ := VT.rep_slice hr1
  simp only [lEq, List.length_cons, List.length_nil, Nat.reduceAdd] at hr1 ⊢
  refine rn_ ?_; intros
  refine go_call (by rw [hnt]; rfl) (by rw [hP]; kernel_rfl) rfl (hP ▸ pair_ok 1 1 _ (by simp [isI64]) (by simp [isI64])) ?_
  rintro v G2 (hle2 : Le G1 G2) ⟨s2, rfl, hr2⟩
  obtain ⟨s2a, s2c, rfl⟩ := VT.rep_slice hr2
  simp only [lEq, List.length_cons, List.length_nil, Nat.reduceAdd] at hr2 ⊢
  refine rn_ ?_; intros
  rename_i bx
  refine go_pub 0 rfl (by omega) ?_
  intro G3 (hle3 : Le G2 G3) hG
  have hat := at_block hG
  simp only [dens, SV.den] at hat
  refine go_slot 33 (.v (.slice (some ⟨bx, 0, none⟩) 2 2)) rfl (by simp [SV.den]) ?_
  refine st_ ?_
  have hM1 : rMk.S G3 [⟨1, 0, prV 0 5⟩, ⟨4, 0, prV 1 1⟩] (.slice (some ⟨bx, 0, none⟩) 2 2) := ⟨by simp, _, _, rfl, .inr ⟨_, _, _, rfl, hat, [_, _, _, _, _], [_, _, _, _, _], rfl, ⟨_, rfl, VT.rep_mono (hle2.trans hle3) hr1, by decide, by simp [isI64], by simp [isI64]⟩, [_, _, _, _, _], [], rfl, ⟨_, rfl, VT.rep_mono hle3 hr2, by decide, by simp [isI64], by simp [isI64]⟩, rfl⟩⟩
  refine go_call (by rw [hnt]; rfl) (by rw [hP]; kernel_rfl) rfl (hP ▸ hOf_ok _ _ G3 hM1 (by simp)) ?_
  rintro v G4 (hle4 : Le G3 G4) hv
  rw [show ofP [⟨1, 0, prV 0 5⟩, ⟨4, 0, prV 1 1⟩] 0 [] = some [opW 0 5 1 1 4] by kernel_rfl] at hv
  obtain ⟨slo, rfl, hSo⟩ := hv
  obtain ⟨ao, co, e0⟩ := Rp.S_slice hSo
  subst e0
  clear hM1 hat
  refine rn_ ?_; intros
  refine go_keep [0, 1, 2] [] ?_
  refine st_ ?_
  refine go_call (by rw [hnt]; rfl) (by rw [hP]; kernel_rfl) rfl (hP ▸ pair_ok 1 5 _ (by simp [isI64]) (by simp [isI64])) ?_
  rintro v G5 (hle5 : Le G4 G5) ⟨s3, rfl, hr3⟩
  obtain ⟨s3a, s3c, rfl⟩ := VT.rep_slice hr3
  simp only [lEq, List.length_cons, List.length_nil, Nat.reduceAdd] at hr3 ⊢
  refine rn_ ?_; intros
  rename_i bx
  refine go_pub 0 rfl (by omega) ?_
  intro G6 (hle6 : Le G5 G6) hG
  have hat := at_block hG
  simp only [dens, SV.den] at hat
  refine go_slot 40 (.v (.slice (some ⟨bx, 0, none⟩) 1 1)) rfl (by simp [SV.den]) ?_
  refine st_ ?_
  have hM1 : rMk.S G6 [⟨1, 0, prV 1 5⟩] (.slice (some ⟨bx, 0, none⟩) 1 1) := ⟨by simp, _, _, rfl, .inr ⟨_, _, _, rfl, hat, [_, _, _, _, _], [], rfl, ⟨_, rfl, VT.rep_mono hle6 hr3, by decide, by simp [isI64], by simp [isI64]⟩, rfl⟩⟩
  refine go_call (by rw [hnt]; rfl) (by rw [hP]; kernel_rfl) rfl (hP ▸ hOf_ok _ _ G6 hM1 (by simp)) ?_
  rintro v G7 (hle7 : Le G6 G7) hv
  rw [show ofP [⟨1, 0, prV 1 5⟩] 0 [] = none by kernel_rfl] at hv
  subst hv
  clear hM1 hat
  refine rn_ ?_; intros
  refine go_keep [0, 1, 2, 3, 4] [] ?_
  refine st_ ?_
  refine go_call (by rw [hnt]; rfl) (by rw [hP]; kernel_rfl) rfl (hP ▸ pair_ok 0 5 _ (by simp [isI64]) (by simp [isI64])) ?_
  rintro v G8 (hle8 : Le G7 G8) ⟨s4, rfl, hr4⟩
  obtain ⟨s4a, s4c, rfl⟩ := VT.rep_slice hr4
  simp only [lEq, List.length_cons, List.length_nil, Nat.reduceAdd] at hr4 ⊢
  refine rn_ ?_; intros
  rename_i bx
  refine go_pub 0 rfl (by omega) ?_
  intro G9 (hle9 : Le G8 G9) hG
  have hat := at_block hG
  simp only [dens, SV.den] at hat
  refine go_slot 49 (.v (.slice (some ⟨bx, 0, none⟩) 2 2)) rfl (by simp [SV.den]) ?_
  refine st_ ?_
  have hM1 : rMk.S G9 [⟨1, 0, prV 0 5⟩, ⟨0, 0, unitV⟩] (.slice (some ⟨bx, 0, none⟩) 2 2) := ⟨by simp, _, _, rfl, .inr ⟨_, _, _, rfl, hat, [_, _, _, _, _], [_, _, _, _, _], rfl, ⟨_, rfl, VT.rep_mono hle9 hr4, by decide, by simp [isI64], by simp [isI64]⟩, [_, _, _, _, _], [], rfl, ⟨_, rfl, rep_leaf _ 1 0 (by simp [isI64]) (by simp [isI64]), by decide, by simp [isI64], by simp [isI64]⟩, rfl⟩⟩
  refine go_call (by rw [hnt]; rfl) (by rw [hP]; kernel_rfl) rfl (hP ▸ hOf_ok _ _ G9 hM1 (by simp)) ?_
  rintro v G10 (hle10 : Le G9 G10) hv
  rw [show ofP [⟨1, 0, prV 0 5⟩, ⟨0, 0, unitV⟩] 0 [] = none by kernel_rfl] at hv
  subst hv
  clear hM1 hat
  refine rn_ ?_; intros
  refine go_keep [0, 1, 2, 3, 4, 5, 6] [] ?_
  refine st_ ?_
  have hle410 : Le G4 G10 := hle5.trans (hle6.trans (hle7.trans (hle8.trans (hle9.trans hle10))))
  have hSo2 := Rp.S_mono hle410 hSo
  refine rn_ ?_; intros
  refine x_draw rfl (by rw [hP]; kernel_rfl) rfl (by kernel_rfl) ?_
  refine runq 400 hty hnt ?_; refine st_ ?_
  refine q_callf (by rw [hnt]; rfl) (by rw [hP]; kernel_rfl) rfl (hP ▸ num_ok 0 _) ?_; refine runq 400 hty hnt ?_; refine st_ ?_
  (refine go_qsplit rfl rfl (fun hc => absurd hc (by decide)) (fun _ => ?_); refine st_ ?_; (try (refine runq 400 hty hnt ?_; refine st_ ?_)))
  (refine go_qsplit rfl rfl (fun hc => absurd hc (by decide)) (fun _ => ?_); refine st_ ?_; (try (refine runq 400 hty hnt ?_; refine st_ ?_)))
  obtain ⟨bo, oo, sa, sr, hao, hato, hor⟩ := rO_at hSo2 (i := 0) (by simp)
  subst hao
  obtain ⟨asa, csa, rfl⟩ := VT.rep_slice hor.a
  obtain ⟨asr, csr, rfl⟩ := VT.rep_slice hor.r
  refine q_q (v := .pointer (some ⟨bo, oo, none⟩)) (by rw [hnt]; rfl) ((quiet_index (k := .i64) (n := 0) (by rw [hty]; rfl) (by rw [hty]; rfl) rfl rfl rfl (by omega) (by simp)).cast (by simp)) ?_
  refine runq 400 hty hnt ?_; refine st_ ?_
  refine q_q (v := .agg (opL (opW 0 5 1 1 4) (.slice asa 0 csa) (.slice asr 0 csr)).toArray) (by rw [hnt]; rfl) ((quiet_load (by rw [hty]; rfl) rfl (fun q => by cases q) (by simpa using hato) rfl).cast (by simp only [ldV]; rfl)) ?_
  simp only [opL, opW, kEq, nEq]
  refine runq 400 hty hnt ?_; refine st_ ?_
  refine q_callf (by rw [hnt]; rfl) (by rw [hP]; kernel_rfl) rfl (hP ▸ of_ok 0 5 1 1 4 _) ?_; refine runq 400 hty hnt ?_; refine st_ ?_
  simp only [opL, kEq, nEq]
  refine runq 400 hty hnt ?_; refine st_ ?_
  refine q_callf (by rw [hnt]; rfl) (by rw [hP]; kernel_rfl) rfl (hP ▸ rsame_ok (opW 0 5 1 1 4) (opW 0 5 1 1 4) _ _ _ _ G10 hor (opl_rep _ _ _ _ _ _ _ _ _ _ (by decide))) ?_; refine runq 400 hty hnt ?_; refine st_ ?_
  rw [show opEq (opW 0 5 1 1 4) (opW 0 5 1 1 4) = true by kernel_rfl]
  (refine go_qsplit rfl rfl (fun hc => absurd hc (by decide)) (fun _ => ?_); refine st_ ?_; (try (refine runq 400 hty hnt ?_; refine st_ ?_)))
  refine q_callf (by rw [hnt]; rfl) (by rw [hP]; kernel_rfl) rfl (hP ▸ num_ok 290 _) ?_; refine runq 400 hty hnt ?_; refine st_ ?_
  (refine go_qsplit rfl rfl (fun hc => absurd hc (by decide)) (fun _ => ?_); refine st_ ?_; (try (refine runq 400 hty hnt ?_; refine st_ ?_)))
  refine q_callf (by rw [hnt]; rfl) (by rw [hP]; kernel_rfl) rfl (hP ▸ num_ok 290 _) ?_; refine runq 400 hty hnt ?_; refine st_ ?_
  refine q_end ?_; refine rn_ ?_; intros
  (refine x_split rfl rfl rfl (fun hc => absurd hc (by first | decide +kernel | (simp; first | done | fail))) (fun _ => ?_); refine st_ ?_; (refine ru_ ?_; intros))
  refine rn_ ?_; intros
  refine go_keep [0, 7] [0] ?_
  refine st_ ?_
  rename_i b7
  refine go_callf (by rw [hnt]; rfl) (by rw [hP]; kernel_rfl) rfl (hP ▸ of_ok 0 1 0 1 9 _) ?_
  simp only [opL, kEq, nEq, List.map_cons, List.map_nil]
  refine st_ ?_
  refine rn_ ?_; intros
  refine go_callf (by rw [hnt]; rfl) (by rw [hP]; kernel_rfl) rfl (hP ▸ of_ok 0 2 0 2 3 _) ?_
  simp only [opL, kEq, nEq, List.map_cons, List.map_nil]
  refine st_ ?_
  refine rn_ ?_; intros
  rename_i b8 b9
  refine x_held [(0, b7, .c 28 [.v (.int .i64 1), .v (.int .i64 0), .v (.slice none 0 0)])] rfl (by rw [hP]; kernel_rfl) rfl rfl rfl ?_; refine st_ ?_
  refine h_take 0 rfl (by kernel_rfl) (by kernel_rfl) (by kernel_rfl) hQp (by rw [hnt]; rfl) (allIn (by repeat (first | exact trivial | refine ⟨rfl, ?_⟩))) (by first | exact Le.refl _ | assumption) (quiet_op (by rw [hty]; first | rfl | (refine st_ ?_; rfl))) ?_; refine st_ ?_
  refine h_take 1 rfl (by kernel_rfl) (by kernel_rfl) (by kernel_rfl) hQp (by rw [hnt]; rfl) (allIn (by repeat (first | exact trivial | refine ⟨rfl, ?_⟩))) (by first | exact Le.refl _ | assumption) (quiet_op (by rw [hty]; first | rfl | (refine st_ ?_; rfl))) ?_; refine st_ ?_
  refine h_take 2 rfl (by kernel_rfl) (by kernel_rfl) (by kernel_rfl) hQp (by rw [hnt]; rfl) (allIn (by repeat (first | exact trivial | refine ⟨rfl, ?_⟩))) (by first | exact Le.refl _ | assumption) (quiet_op (by rw [hty]; first | rfl | (refine st_ ?_; rfl))) ?_; refine st_ ?_
  refine h_one 3 rfl (by kernel_rfl) ?_
  refine rn_ ?_; intros
  refine h_hs (allIn (by repeat (first | exact trivial | refine ⟨rfl, ?_⟩))) (by first | exact Le.refl _ | assumption) ?_
  refine h_take 4 rfl (by kernel_rfl) (by kernel_rfl) (by kernel_rfl) hQp (by rw [hnt]; rfl) (allIn (by repeat (first | exact trivial | refine ⟨rfl, ?_⟩))) (by first | exact Le.refl _ | assumption) (quiet_op (by rw [hty]; first | rfl | (refine st_ ?_; rfl))) ?_; refine st_ ?_
  refine h_one 5 rfl (by kernel_rfl) ?_
  refine rn_ ?_; intros
  refine h_hs (allIn (by repeat (first | exact trivial | refine ⟨rfl, ?_⟩))) (by first | exact Le.refl _ | assumption) ?_
  refine h_end (by kernel_rfl) ?_
  refine rn_ ?_; intros
  refine go_callf (by rw [hnt]; rfl) (by rw [hP]; kernel_rfl) rfl (hP ▸ of_ok 1 0 2 4 5 _) ?_
  simp only [opL, kEq, nEq, List.map_cons, List.map_nil]
  refine st_ ?_
  refine rn_ ?_; intros
  refine go_callf (by rw [hnt]; rfl) (by rw [hP]; kernel_rfl) rfl (hP ▸ of_ok 1 0 1 6 7 _) ?_
  simp only [opL, kEq, nEq, List.map_cons, List.map_nil]
  refine st_ ?_
  refine rn_ ?_; intros
  refine go_keep [0, 8, 9, 10, 11] [1, 2, 3, 4] ?_
  refine st_ ?_
  refine go_callf (by rw [hnt]; rfl) (by rw [hP]; kernel_rfl) rfl (hP ▸ of_ok 0 5 1 1 4 _) ?_
  simp only [opL, kEq, nEq, List.map_cons, List.map_nil]
  refine st_ ?_
  refine rn_ ?_; intros
  refine go_callf (by rw [hnt]; rfl) (by rw [hP]; kernel_rfl) rfl (hP ▸ of_ok 1 0 5 2 3 _) ?_
  simp only [opL, kEq, nEq, List.map_cons, List.map_nil]
  refine st_ ?_
  refine rn_ ?_; intros
  rename_i bx
  refine go_pub 5 rfl (by omega) ?_
  intro G11 (hleG11 : Le G10 G11) hG
  have hat := at_block hG
  simp only [dens, SV.den] at hat
  refine go_slot 91 (.v (.slice (some ⟨bx, 0, none⟩) 2 2)) rfl (by simp [SV.den]) ?_
  refine st_ ?_
  have hM1 : rO.S G11 [⟨0, 0, .mk 2 (5) [], .mk 2 (1) [], 1, 4, true⟩, ⟨0, 1, .mk 2 (0) [], .mk 2 (5) [], 2, 3, true⟩] (.slice (some ⟨bx, 0, none⟩) 2 2) := ⟨by simp, _, _, rfl, .inr ⟨_, _, _, rfl, hat, [_, _, _, _, _, _, _, _, _, _, _], _, rfl, ⟨_, _, rfl, opl_rep _ _ _ _ _ _ _ _ _ _ (by decide)⟩, [_, _, _, _, _, _, _, _, _, _, _], [], rfl, ⟨_, _, rfl, opl_rep _ _ _ _ _ _ _ _ _ _ (by decide)⟩, rfl⟩⟩
  refine go_call (by rw [hnt]; rfl) (by rw [hP]; kernel_rfl) rfl (hP ▸ hLine_ok 1 _ _ G11 hM1) ?_
  rintro v G12 (hleG12 : Le G11 G12) hv
  rw [show lnR 1 [⟨0, 0, .mk 2 (5) [], .mk 2 (1) [], 1, 4, true⟩, ⟨0, 1, .mk 2 (0) [], .mk 2 (5) [], 2, 3, true⟩] = ([0, 1], true, 0) by kernel_rfl] at hv
  obtain ⟨slo, rfl, hSo1⟩ := hv
  obtain ⟨ao1, co1, e0⟩ := Rp.S_slice hSo1
  subst e0
  clear hM1 hat
  simp only [List.map_cons, List.map_nil, List.length_cons, List.length_nil, Nat.reduceAdd] at hSo1 ⊢
  refine rn_ ?_; intros
  refine go_keep [0, 8, 9, 10, 11, 12, 13, 14] [1, 2, 3, 4] ?_
  refine st_ ?_
  refine go_callf (by rw [hnt]; rfl) (by rw [hP]; kernel_rfl) rfl (hP ▸ of_ok 0 5 1 3 4 _) ?_
  simp only [opL, kEq, nEq, List.map_cons, List.map_nil]
  refine st_ ?_
  refine rn_ ?_; intros
  refine go_callf (by rw [hnt]; rfl) (by rw [hP]; kernel_rfl) rfl (hP ▸ of_ok 1 0 5 1 2 _) ?_
  simp only [opL, kEq, nEq, List.map_cons, List.map_nil]
  refine st_ ?_
  refine rn_ ?_; intros
  rename_i bx
  refine go_pub 5 rfl (by omega) ?_
  intro G13 (hleG13 : Le G12 G13) hG
  have hat := at_block hG
  simp only [dens, SV.den] at hat
  refine go_slot 99 (.v (.slice (some ⟨bx, 0, none⟩) 2 2)) rfl (by simp [SV.den]) ?_
  refine st_ ?_
  have hM1 : rO.S G13 [⟨0, 0, .mk 2 (5) [], .mk 2 (1) [], 3, 4, true⟩, ⟨0, 1, .mk 2 (0) [], .mk 2 (5) [], 1, 2, true⟩] (.slice (some ⟨bx, 0, none⟩) 2 2) := ⟨by simp, _, _, rfl, .inr ⟨_, _, _, rfl, hat, [_, _, _, _, _, _, _, _, _, _, _], _, rfl, ⟨_, _, rfl, opl_rep _ _ _ _ _ _ _ _ _ _ (by decide)⟩, [_, _, _, _, _, _, _, _, _, _, _], [], rfl, ⟨_, _, rfl, opl_rep _ _ _ _ _ _ _ _ _ _ (by decide)⟩, rfl⟩⟩
  refine go_call (by rw [hnt]; rfl) (by rw [hP]; kernel_rfl) rfl (hP ▸ hLine_ok 1 _ _ G13 hM1) ?_
  rintro v G14 (hleG14 : Le G13 G14) hv
  rw [show lnR 1 [⟨0, 0, .mk 2 (5) [], .mk 2 (1) [], 3, 4, true⟩, ⟨0, 1, .mk 2 (0) [], .mk 2 (5) [], 1, 2, true⟩] = ([], false, 0) by kernel_rfl] at hv
  obtain ⟨slo, rfl, hSo2⟩ := hv
  obtain ⟨ao2, co2, e0⟩ := Rp.S_slice hSo2
  subst e0
  clear hM1 hat
  simp only [List.map_cons, List.map_nil, List.length_cons, List.length_nil, Nat.reduceAdd] at hSo2 ⊢
  refine rn_ ?_; intros
  refine go_keep [0, 12, 13, 14, 16, 17, 109] [5] ?_
  refine st_ ?_
  rename_i bx
  refine go_pub 5 rfl (by omega) ?_
  intro G15 (hleG15 : Le G14 G15) hG
  have hat := at_block hG
  simp only [dens, SV.den] at hat
  refine go_slot 109 (.v (.slice (some ⟨bx, 0, none⟩) 4 4)) rfl (by simp [SV.den]) ?_
  refine st_ ?_
  have hM1 : rO.S G15 [⟨0, 0, .mk 2 1 [], .mk 1 0 [], 1, 9, true⟩, ⟨0, 0, .mk 2 2 [], .mk 1 0 [], 2, 3, true⟩, ⟨0, 1, .mk 2 (0) [], .mk 2 (2) [], 4, 5, true⟩, ⟨0, 1, .mk 2 (0) [], .mk 2 (1) [], 6, 7, true⟩] (.slice (some ⟨bx, 0, none⟩) 4 4) := ⟨by simp, _, _, rfl, .inr ⟨_, _, _, rfl, hat, [_, _, _, _, _, _, _, _, _, _, _], _, rfl, ⟨_, _, rfl, opl_rep _ _ _ _ _ _ _ _ _ _ (by decide)⟩, [_, _, _, _, _, _, _, _, _, _, _], _, rfl, ⟨_, _, rfl, opl_rep _ _ _ _ _ _ _ _ _ _ (by decide)⟩, [_, _, _, _, _, _, _, _, _, _, _], _, rfl, ⟨_, _, rfl, opl_rep _ _ _ _ _ _ _ _ _ _ (by decide)⟩, [_, _, _, _, _, _, _, _, _, _, _], [], rfl, ⟨_, _, rfl, opl_rep _ _ _ _ _ _ _ _ _ _ (by decide)⟩, rfl⟩⟩
  refine go_call (by rw [hnt]; rfl) (by rw [hP]; kernel_rfl) rfl (hP ▸ hLine_ok 3 _ _ G15 hM1) ?_
  rintro v G16 (hleG16 : Le G15 G16) hv
  rw [show lnR 3 [⟨0, 0, .mk 2 1 [], .mk 1 0 [], 1, 9, true⟩, ⟨0, 0, .mk 2 2 [], .mk 1 0 [], 2, 3, true⟩, ⟨0, 1, .mk 2 (0) [], .mk 2 (2) [], 4, 5, true⟩, ⟨0, 1, .mk 2 (0) [], .mk 2 (1) [], 6, 7, true⟩] = ([1, 0, 2, 3], true, 0) by kernel_rfl] at hv
  obtain ⟨slo, rfl, hSo3⟩ := hv
  obtain ⟨ao3, co3, e0⟩ := Rp.S_slice hSo3
  subst e0
  clear hM1 hat
  simp only [List.map_cons, List.map_nil, List.length_cons, List.length_nil, Nat.reduceAdd] at hSo3 ⊢
  refine rn_ ?_; intros
  refine go_keep [0, 12, 13, 14, 16, 17, 18, 19, 20] [] ?_
  refine st_ ?_
  refine go_callf (by rw [hnt]; rfl) (by rw [hP]; kernel_rfl) rfl (hP ▸ refint_ok 1 _) ?_; refine rn_ ?_; intros
  refine go_callf (by rw [hnt]; rfl) (by rw [hP]; kernel_rfl) rfl (hP ▸ of_ok 1 0 1 2 3 _) ?_
  simp only [opL, kEq, nEq, List.map_cons, List.map_nil]
  refine st_ ?_
  refine rn_ ?_; intros
  rename_i bx
  refine go_pub 0 rfl (by omega) ?_
  intro G17 (hleG17 : Le G16 G17) hG
  have hat := at_block hG
  simp only [dens, SV.den] at hat
  refine go_slot 118 (.v (.slice (some ⟨bx, 0, none⟩) 2 2)) rfl (by simp [SV.den]) ?_
  refine st_ ?_
  have hM1 : rO.S G17 [⟨0, 0, .mk 2 1 [], .mk 0 0 [], 1, 0, false⟩, ⟨0, 1, .mk 2 (0) [], .mk 2 (1) [], 2, 3, true⟩] (.slice (some ⟨bx, 0, none⟩) 2 2) := ⟨by simp, _, _, rfl, .inr ⟨_, _, _, rfl, hat, [_, _, _, _, _, _, _, _, _, _, _], _, rfl, ⟨_, _, rfl, opl_rep _ _ _ _ _ _ _ _ _ _ (by decide)⟩, [_, _, _, _, _, _, _, _, _, _, _], [], rfl, ⟨_, _, rfl, opl_rep _ _ _ _ _ _ _ _ _ _ (by decide)⟩, rfl⟩⟩
  refine go_call (by rw [hnt]; rfl) (by rw [hP]; kernel_rfl) rfl (hP ▸ hLine_ok 2 _ _ G17 hM1) ?_
  rintro v G18 (hleG18 : Le G17 G18) hv
  rw [show lnR 2 [⟨0, 0, .mk 2 1 [], .mk 0 0 [], 1, 0, false⟩, ⟨0, 1, .mk 2 (0) [], .mk 2 (1) [], 2, 3, true⟩] = ([0, 1], true, 0) by kernel_rfl] at hv
  obtain ⟨slo, rfl, hSo4⟩ := hv
  obtain ⟨ao4, co4, e0⟩ := Rp.S_slice hSo4
  subst e0
  clear hM1 hat
  simp only [List.map_cons, List.map_nil, List.length_cons, List.length_nil, Nat.reduceAdd] at hSo4 ⊢
  refine rn_ ?_; intros
  refine go_keep [0, 12, 13, 14, 16, 17, 18, 19, 20, 21, 22, 23, 124] [] ?_
  refine st_ ?_
  refine go_callf (by rw [hnt]; rfl) (by rw [hP]; kernel_rfl) rfl (hP ▸ of_ok 1 0 1 2 3 _) ?_
  simp only [opL, kEq, nEq, List.map_cons, List.map_nil]
  refine st_ ?_
  refine rn_ ?_; intros
  refine go_callV 60 (by rw [hnt]; rfl) (by rw [hP]; kernel_rfl) rfl rfl (by omega) (hP ▸ wdo_ok G18) ?_
  rintro v G19 rs Z (hle19 : Le G18 G19) hv
  obtain ⟨v1, v2, slv, xs, ys, rfl, rfl, _, _, hrv, _⟩ := hv
  obtain ⟨av, cvv, rfl⟩ := VT.rep_slice hrv
  refine go_ztake 60 61 0 rfl rfl rfl (by omega) (by omega) ?_
  intro Z1
  refine go_ztake 60 62 1 rfl rfl rfl (by omega) (by omega) ?_
  intro Z2
  refine go_drop 60 ?_
  simp only [stRows]
  refine st_ ?_
  refine go_rowS 61 rfl ?_
  rintro a1 c1 rfl
  refine go_rowS 62 rfl ?_
  rintro a2 c2 rfl
  simp only [noneV, kEq, nEq, lEq]
  refine rn_ ?_; intros
  refine go_keep [0, 12, 13, 14, 16, 17, 18, 19, 20, 21, 22, 23, 26, 27, 131] [] ?_
  refine st_ ?_
  refine go_callf (by rw [hnt]; rfl) (by rw [hP]; kernel_rfl) rfl (hP ▸ num_ok 0 _) ?_; refine rn_ ?_; intros
  refine go_callf (by rw [hnt]; rfl) (by rw [hP]; kernel_rfl) rfl (hP ▸ num_ok 0 _) ?_; refine rn_ ?_; intros
  refine go_callf (by rw [hnt]; rfl) (by rw [hP]; kernel_rfl) rfl (hP ▸ num_ok 0 _) ?_; refine rn_ ?_; intros
  refine go_callf (by rw [hnt]; rfl) (by rw [hP]; kernel_rfl) rfl (hP ▸ num_ok 0 _) ?_; refine rn_ ?_; intros
  refine go_callf (by rw [hnt]; rfl) (by rw [hP]; kernel_rfl) rfl (hP ▸ num_ok 0 _) ?_; refine rn_ ?_; intros
  (refine go_gsplit rfl rfl (fun _ => ?_) (fun hc => absurd hc (by decide)); refine st_ ?_; (refine rn_ ?_; intros))
  (refine go_gsplit rfl rfl (fun _ => ?_) (fun hc => absurd hc (by decide)); refine st_ ?_; (refine rn_ ?_; intros))
  have hs1 := Rp.S_mono (hleG13.trans (hleG14.trans (hleG15.trans (hleG16.trans (hleG17.trans (hleG18.trans hle19)))))) hSo1
  have hs3 := Rp.S_mono (hleG17.trans (hleG18.trans hle19)) hSo3
  have hs4 := Rp.S_mono hle19 hSo4
  rename_i bx
  refine go_pub 0 rfl (by omega) ?_
  intro G20 (hle20 : Le G19 G20) hG
  have hat := at_block hG
  simp only [dens, SV.den] at hat
  refine go_slot 151 (.v (.slice (some ⟨bx, 0, none⟩) 2 2)) rfl (by simp [SV.den]) ?_
  refine st_ ?_
  have hI : rI.S G20 [0, 1] (.slice (some ⟨bx, 0, none⟩) 2 2) := ⟨by simp, _, _, rfl, .inr ⟨_, _, _, rfl, hat, [_], [_], rfl, ⟨rfl, by simp [isI64]⟩, [_], [], rfl, ⟨rfl, by simp [isI64]⟩, rfl⟩⟩
  refine go_callf (by rw [hnt]; rfl) (by rw [hP]; kernel_rfl) rfl (hP ▸ ints_ok [0, 1] [0, 1] _ _ G20 (Rp.S_mono hle20 hs1) hI) ?_; refine rn_ ?_; intros
  clear hI hat
  refine go_slot 152 (.v (.bool true)) rfl rfl ?_
  refine st_ ?_
  refine rn_ ?_; intros
  (refine go_gsplit rfl rfl (fun _ => ?_) (fun hc => absurd hc (by decide)); refine st_ ?_; (refine rn_ ?_; intros))
  (refine go_gsplit rfl rfl (fun _ => ?_) (fun hc => absurd hc (by decide)); refine st_ ?_; (refine rn_ ?_; intros))
  (refine go_gsplit rfl rfl (fun _ => ?_) (fun hc => absurd hc (by decide)); refine st_ ?_; (refine rn_ ?_; intros))
  rename_i bx
  refine go_pub 0 rfl (by omega) ?_
  intro G21 (hle21 : Le G20 G21) hG
  have hat := at_block hG
  simp only [dens, SV.den] at hat
  refine go_slot 163 (.v (.slice (some ⟨bx, 0, none⟩) 4 4)) rfl (by simp [SV.den]) ?_
  refine st_ ?_
  have hI : rI.S G21 [1, 0, 2, 3] (.slice (some ⟨bx, 0, none⟩) 4 4) := ⟨by simp, _, _, rfl, .inr ⟨_, _, _, rfl, hat, [_], [_, _, _], rfl, ⟨rfl, by simp [isI64]⟩, [_], [_, _], rfl, ⟨rfl, by simp [isI64]⟩, [_], [_], rfl, ⟨rfl, by simp [isI64]⟩, [_], [], rfl, ⟨rfl, by simp [isI64]⟩, rfl⟩⟩
  refine go_callf (by rw [hnt]; rfl) (by rw [hP]; kernel_rfl) rfl (hP ▸ ints_ok [1, 0, 2, 3] [1, 0, 2, 3] _ _ G21 (Rp.S_mono (hle20.trans hle21) hs3) hI) ?_; refine rn_ ?_; intros
  clear hI hat
  refine go_slot 164 (.v (.bool true)) rfl rfl ?_
  refine st_ ?_
  refine rn_ ?_; intros
  (refine go_gsplit rfl rfl (fun _ => ?_) (fun hc => absurd hc (by decide)); refine st_ ?_; (refine rn_ ?_; intros))
  (refine go_gsplit rfl rfl (fun _ => ?_) (fun hc => absurd hc (by decide)); refine st_ ?_; (refine rn_ ?_; intros))
  rename_i bx
  refine go_pub 0 rfl (by omega) ?_
  intro G22 (hle22 : Le G21 G22) hG
  have hat := at_block hG
  simp only [dens, SV.den] at hat
  refine go_slot 171 (.v (.slice (some ⟨bx, 0, none⟩) 2 2)) rfl (by simp [SV.den]) ?_
  refine st_ ?_
  have hI : rI.S G22 [0, 1] (.slice (some ⟨bx, 0, none⟩) 2 2) := ⟨by simp, _, _, rfl, .inr ⟨_, _, _, rfl, hat, [_], [_], rfl, ⟨rfl, by simp [isI64]⟩, [_], [], rfl, ⟨rfl, by simp [isI64]⟩, rfl⟩⟩
  refine go_callf (by rw [hnt]; rfl) (by rw [hP]; kernel_rfl) rfl (hP ▸ ints_ok [0, 1] [0, 1] _ _ G22 (Rp.S_mono (hle20.trans (hle21.trans hle22)) hs4) hI) ?_; refine rn_ ?_; intros
  clear hI hat
  refine go_slot 172 (.v (.bool true)) rfl rfl ?_
  refine st_ ?_
  refine rn_ ?_; intros
  (refine go_gsplit rfl rfl (fun _ => ?_) (fun hc => absurd hc (by decide)); refine st_ ?_; (refine rn_ ?_; intros))
  refine x_retc rfl hQ hmb rfl (by rw [hty]; simp only [so, sq, zy, zz, tyE, SO', SQ', opQ, opStore, opAlloc, ev, putS, dOk, cv, SV.cs, SV.one, SV.bool?, eqB, Value.oneCell', ldOwn, binInt, binConst, binBool, binStr, isC, TK.agg, rv, rv1, ldV, resOne, resV, Nat.reduceAdd, Nat.reduceMul, Nat.reduceSub, Nat.reduceLT, Nat.reduceLeDiff, Nat.reduceEqDiff, Nat.reduceBEq, reduceIte, reduceCtorEq, eq_self]; try rfl) rfl ?_; simp only [SV.den, resV, dens]
  rfl
end Go.Proofs.Ytpmmbjcgabnloaa
namespace Go.Proofs.Ytpmmbjcgabnloaa
set_option linter.unusedSimpArgs false
set_option linter.unusedVariables false
open Go.Sx

def hp (w : World) : Hp := fun b => w.heap[b]?
theorem has_hp (w : World) : Has w (hp w) := fun _ _ h => h

section
variable {H : Type}
set_option maxRecDepth 20000
theorem gather {w : World} {b : Nat} : ∀ (ds : List (DataW H)) (off : Nat),
    (∀ i (h : i < ds.length), ∃ t sl, w.cell? ⟨b, off + i * 3, none⟩ = some (.int .i64 (VT.k t)) ∧ w.cell? ⟨b, off + i * 3 + 1, none⟩ = some (.int .i64 t.n) ∧ w.cell? ⟨b, off + i * 3 + 2, none⟩ = some sl ∧ t.rep (hp w) sl ∧ tsz t ≤ Rows.uptoBulk ds[i]) →
    ∃ (l : List VT) (cs : List Value), l.length = ds.length ∧ repV (hp w) l cs ∧ (∀ i, i < cs.length → w.cell? ⟨b, off + i, none⟩ = cs[i]?) ∧ tszL l ≤ Rows.uptoBulkAll ds
  | [], _, _ => ⟨[], [], rfl, by simp [repV], by simp, by simp [tszL, Rows.uptoBulkAll]⟩
  | d :: ds, off, h => by
    obtain ⟨t, sl, h0, h1, h2, hr, hb⟩ := h 0 (by simp)
    obtain ⟨l, cs, hl, hrV, hcs, hbs⟩ := gather ds (off + 3) (fun i hi => by
      obtain ⟨t, sl, h0, h1, h2, hr, hb⟩ := h (i + 1) (by simpa using hi)
      have e : off + (i + 1) * 3 = off + 3 + i * 3 := by omega
      rw [e] at h0 h1 h2
      exact ⟨t, sl, h0, h1, h2, hr, by simpa using hb⟩)
    refine ⟨t :: l, .int .i64 t.k :: .int .i64 t.n :: sl :: cs, by simp [hl], ?_, ?_, ?_⟩
    · simp only [repV]
      exact ⟨sl, cs, rfl, hr, hrV⟩
    · intro i hi
      match i, hi with
      | 0, _ => simpa using h0
      | 1, _ => simpa using h1
      | 2, _ => simpa using h2
      | i + 3, hi =>
        have := hcs i (by simpa using hi)
        rw [show off + (i + 3) = off + 3 + i by omega, this]
        simp
    · simp only [tszL, Rows.uptoBulkAll]
      simp only [List.getElem_cons_zero] at hb
      omega

theorem at_of_cells {w : World} {b off : Nat} {cs : List Value} (h0 : 0 < cs.length) (h : ∀ i, i < cs.length → w.cell? ⟨b, off + i, none⟩ = cs[i]?) : At (hp w) b off cs := by
  have h1 := h 0 h0
  rw [List.getElem?_eq_getElem h0] at h1
  unfold World.cell? at h1 h
  cases hb : w.heap[b]? with
  | none => simp [hb] at h1
  | some o =>
    cases o with
    | cells arr e fz =>
      simp only [hb, Option.isSome_none, Bool.false_eq_true, if_false] at h
      refine ⟨arr, e, fz, hb, ?_, fun i hi => h i hi⟩
      have := h (cs.length - 1) (by omega)
      rw [List.getElem?_eq_getElem (show cs.length - 1 < cs.length by omega)] at this
      obtain ⟨hlt, _⟩ := Array.getElem?_eq_some_iff.1 this
      omega
    | _ => simp [hb] at h1

variable {enc : TypeId × Value → H}
theorem cells3 : Try.prog.cellsOf 28 = 3 := by kernel_rfl
theorem wf_i64 {n : Int} (h : (Lit.int .i64 n).wf = true) : isI64 n := by
  simpa [Lit.wf, IntKind.min, IntKind.max, IntKind.signed, IntKind.bits, isI64] using h

set_option maxHeartbeats 1000000 in
theorem open_val {w : World} : ∀ (N n : Nat) (d : DataW H) (ps : List MemPlace) (cs : List Value), Rows.uptoBulk d ≤ N → DataW.trod enc Try.prog w 0 (fun _ => true) true n 28 cs = some (d, ps) →
    ∃ (t : VT) (sl : Value), cs = [.int .i64 t.k, .int .i64 t.n, sl] ∧ t.rep (hp w) sl ∧ tsz t ≤ Rows.uptoBulk d := by
  intro N
  induction N with
  | zero =>
    intro n d ps cs hb h
    obtain ⟨y0, y1, y2, m, hx, _⟩ := Deep.trod_struct3 Try.underlying28 h
    cases hx
    simp [Rows.uptoBulk] at hb
  | succ N ih =>
    intro n d ps cs hb h
    obtain ⟨y0, y1, y2, m, hx, hlen, h0, h1, h2⟩ := Deep.trod_struct3 Try.underlying28 h
    cases hx
    rw [cells3] at hlen
    match cs, hlen with
    | [c0, c1, c2], _ =>
    have e1 : Try.prog.cellsOf 25 = 1 := by kernel_rfl
    have e2 : Try.prog.cellsOf 2 = 1 := by kernel_rfl
    have e3 : Try.prog.cellsOf 26 = 1 := by kernel_rfl
    simp only [e1, e2, e3, List.drop_zero, List.drop_succ_cons, List.take_succ_cons, List.take_zero] at h0 h1 h2
    obtain ⟨k, hk, hy0, hwk⟩ := DataW.trod_int Try.underlying25 h0
    obtain ⟨nn, hn, hy1, hwn⟩ := DataW.trod_int Try.underlying2 h1
    cases hk
    cases hn
    subst hy0 hy1
    have hs := Deep.open_slice Try.underlying26 h2
    rcases hs with ⟨hc, hy⟩ | ⟨a, len, cap, mm, n', D, Pl, hc, _, hle, hcap, hmm, hy, hel⟩
    · cases hc
      subst hy
      exact ⟨.mk k nn [], _, rfl, rep_leaf _ k nn (wf_i64 hwk) (wf_i64 hwn), by simp [tsz, tszL, Rows.uptoBulk, Rows.uptoBulkAll]⟩
    · cases hc
      subst hy
      simp only [if_true] at hmm
      subst hmm
      simp only [Rows.uptoBulk, Rows.uptoBulkAll] at hb ⊢
      have hml : len ≤ 9223372036854775807 := Nat.le_trans (Nat.le_trans hle hcap) (by decide)
      by_cases hz : len = 0
      · subst hz
        refine ⟨.mk k nn [], _, rfl, ?_, by simp only [tsz, tszL]; omega⟩
        rw [rep_iff]
        exact ⟨wf_i64 hwk, wf_i64 hwn, by simp, _, _, rfl, .inl rfl⟩
      · have hel0 := hel 0 (by omega)
        obtain ⟨b, off, spot⟩ := a
        have hspot : spot = none := by
          obtain ⟨cs', q1, _⟩ := hel0
          rw [cells3] at q1
          obtain ⟨_, q2, q3⟩ := World.cells?_some q1
          have q4 := q3 0 (by omega)
          rw [List.getElem?_eq_getElem (by omega)] at q4
          simpa [Addr.add] using World.cell?_spot q4
        subst hspot
        have key := gather (w := w) (b := b) ((List.range len).map D) off (fun i hi => by
          have hi' : i < len := by simpa using hi
          obtain ⟨cs', q1, q2⟩ := hel i (by omega)
          rw [cells3] at q1
          have hmem : D i ∈ (List.range len).map D := List.mem_map.2 ⟨i, by simpa using hi', rfl⟩
          have hbi : Rows.uptoBulk (D i) ≤ Rows.uptoBulkAll ((List.range len).map D) := by
            clear hb ih hel
            generalize (List.range len).map D = L at hmem
            induction L with
            | nil => simp at hmem
            | cons x r ihr =>
              simp only [Rows.uptoBulkAll]
              rcases List.mem_cons.1 hmem with rfl | hm
              · omega
              · have := ihr hm; omega
          obtain ⟨t, sl, rfl, hr, hbt⟩ := ih n' (D i) (Pl i) cs' (by omega) q2
          obtain ⟨_, _, q3⟩ := World.cells?_some q1
          have a0 := q3 0 (by omega)
          have a1 := q3 1 (by omega)
          have a2 := q3 2 (by omega)
          rw [Deep.add_add] at a0 a1 a2
          have ea : ∀ j, (Addr.mk b off none).add j = ⟨b, off + j, none⟩ := by
            intro j
            unfold Addr.add
            split
            · subst_vars; rfl
            · rfl
          rw [ea] at a0 a1 a2
          refine ⟨t, sl, by simpa using a0, by simpa [Nat.add_assoc] using a1, by simpa [Nat.add_assoc] using a2, hr, by simpa using hbt⟩)
        obtain ⟨l, cs, hl, hrV, hcs, hbs⟩ := key
        have hll : l.length = len := by simpa using hl
        have hcl := repV_len hrV
        refine ⟨.mk k nn l, .slice (some ⟨b, off, none⟩) len _, rfl, ?_, ?_⟩
        · rw [rep_iff]
          exact ⟨wf_i64 hwk, wf_i64 hwn, by omega, _, _, by rw [hll], .inr ⟨_, _, _, rfl, at_of_cells (by omega) hcs, hrV⟩⟩
        · simp only [tsz]
          omega

end
end Go.Proofs.Ytpmmbjcgabnloaa
namespace Go.Sx
set_option linter.unusedSimpArgs false
set_option linter.unusedVariables false
open Go.RowKit

def hp (w : World) : Hp := fun b => w.heap[b]?
theorem has_hp (w : World) : Has w (hp w) := fun _ _ h => h
theorem at_of_cells {w : World} {b off : Nat} {cs : List Value} (h0 : 0 < cs.length) (h : ∀ i, i < cs.length → w.cell? ⟨b, off + i, none⟩ = cs[i]?) : At (hp w) b off cs := by
  have h1 := h 0 h0
  rw [List.getElem?_eq_getElem h0] at h1
  unfold World.cell? at h1 h
  cases hb : w.heap[b]? with
  | none => simp [hb] at h1
  | some o =>
    cases o with
    | cells arr e fz =>
      simp only [hb, Option.isSome_none, Bool.false_eq_true, if_false] at h
      refine ⟨arr, e, fz, hb, ?_, fun i hi => h i hi⟩
      have := h (cs.length - 1) (by omega)
      rw [List.getElem?_eq_getElem (show cs.length - 1 < cs.length by omega)] at this
      obtain ⟨hlt, _⟩ := Array.getElem?_eq_some_iff.1 this
      omega
    | _ => simp [hb] at h1
theorem wf_i64 {n : Int} (h : (Lit.int .i64 n).wf = true) : isI64 n := by
  simpa [Lit.wf, IntKind.min, IntKind.max, IntKind.signed, IntKind.bits, isI64] using h
theorem gatherL {α : Type} {r : Rp α} {w : World} {b : Nat} : ∀ (n off : Nat),
    (∀ i, i < n → ∃ x cs', r.e (hp w) x cs' ∧ ∀ j, j < r.size → w.cell? ⟨b, off + i * r.size + j, none⟩ = cs'[j]?) →
    ∃ (l : List α) (cs : List Value), l.length = n ∧ r.L (hp w) l cs ∧ ∀ i, i < cs.length → w.cell? ⟨b, off + i, none⟩ = cs[i]?
  | 0, off, _ => ⟨[], [], rfl, rfl, by simp⟩
  | n + 1, off, h => by
    obtain ⟨x, c0, hx, h0⟩ := h 0 (by omega)
    obtain ⟨l, cs, hl, hL, hcs⟩ := gatherL (r := r) (w := w) (b := b) n (off + r.size) (fun i hi => by
      obtain ⟨x, c, hx, hc⟩ := h (i + 1) (by omega)
      refine ⟨x, c, hx, fun j hj => ?_⟩
      rw [← hc j hj]
      congr 2
      rw [Nat.succ_mul]; omega)
    have hlen := r.len hx
    refine ⟨x :: l, c0 ++ cs, by simp [hl], ⟨c0, cs, rfl, hx, hL⟩, fun i hi => ?_⟩
    rcases Nat.lt_or_ge i r.size with q | q
    · rw [List.getElem?_append_left (by omega)]
      have := h0 i q
      simpa using this
    · rw [List.getElem?_append_right (by omega), ← hcs (i - c0.length) (by simp at hi; omega)]
      congr 2; omega
section
variable {H : Type} {enc : TypeId × Value → H} {P : Program} {w : World}
theorem add_eq (b off j : Nat) : (Addr.mk b off none).add j = ⟨b, off + j, none⟩ := by
  unfold Addr.add
  split
  · subst_vars; rfl
  · rfl
theorem open_int1 {T : TypeId} (hT : P.underlying T = some (.int .i64)) (hc : P.cellsOf T = 1) {n : Nat} {x : DataW H × List MemPlace} {cs : List Value} (h : DataW.trod enc P w 0 (fun _ => true) true n T cs = some x) : ∃ k, cs = [.int .i64 k] ∧ isI64 k := by
  obtain ⟨k, hk, _, hw⟩ := DataW.trod_int hT h
  exact ⟨k, hk, wf_i64 hw⟩
end
end Go.Sx
namespace Go.Proofs.Ytpmmbjcgabnloaa
set_option linter.unusedSimpArgs false
set_option linter.unusedVariables false
open Go.Sx
set_option maxRecDepth 20000
set_option maxHeartbeats 4000000
section
variable {H : Type} {enc : TypeId × Value → H} {w : World}
theorem bulk_mem {d : DataW H} : ∀ {L : List (DataW H)}, d ∈ L → Rows.uptoBulk d ≤ Rows.uptoBulkAll L
  | x :: r, h => by
    simp only [Rows.uptoBulkAll]
    rcases List.mem_cons.1 h with rfl | h
    · omega
    · have := bulk_mem h; omega
theorem open_listB {α : Type} (r : Rp α) {t e : TypeId} {B : Nat} (ht : Try.prog.underlying t = some (.slice e)) (hsz : Try.prog.cellsOf e = r.size) (hpos : 0 < r.size)
    (hel : ∀ n d ps cs, DataW.trod enc Try.prog w 0 (fun _ => true) true n e cs = some (d, ps) → cs.length = r.size → Rows.uptoBulk d ≤ B → ∃ x, r.e (Go.Sx.hp w) x cs)
    {n : Nat} {d : DataW H} {ps : List MemPlace} {cs : List Value} (hB : Rows.uptoBulk d ≤ B) (h : DataW.trod enc Try.prog w 0 (fun _ => true) true n t cs = some (d, ps)) : ∃ (sl : Value) (l : List α), cs = [sl] ∧ r.S (Go.Sx.hp w) l sl := by
  have hs := Deep.open_slice ht h
  rcases hs with ⟨hc, hy⟩ | ⟨a, len, cap, mm, n', D, Pl, hc, _, hle, hcap, hmm, hy, hel2⟩
  · exact ⟨_, [], hc, Rp.S_nil _ _⟩
  · simp only [if_true] at hmm
    subst hmm
    obtain ⟨rfl, _⟩ := Prod.mk.inj hy
    have hml : len ≤ 9223372036854775807 := Nat.le_trans (Nat.le_trans hle hcap) (by decide)
    by_cases hz : len = 0
    · subst hz
      exact ⟨_, [], hc, Rp.S_nil _ _⟩
    · obtain ⟨b, off, spot⟩ := a
      rw [hsz] at hel2
      have hspot : spot = none := by
        obtain ⟨cs', q1, _⟩ := hel2 0 (by omega)
        obtain ⟨_, q2, q3⟩ := World.cells?_some q1
        have q4 := q3 0 (by omega)
        rw [List.getElem?_eq_getElem (by omega)] at q4
        simpa [Addr.add] using World.cell?_spot q4
      subst hspot
      obtain ⟨l, cs2, hl, hL, hcs⟩ := gatherL (r := r) (w := w) (b := b) len off (fun i hi => by
        obtain ⟨cs', q1, q2⟩ := hel2 i (by omega)
        obtain ⟨_, q3, q4⟩ := World.cells?_some q1
        have hmem : D i ∈ (List.range len).map D := List.mem_map.2 ⟨i, by simpa using hi, rfl⟩
        have hbi := bulk_mem hmem
        simp only [Rows.uptoBulk] at hB
        obtain ⟨x, hx⟩ := hel _ _ _ _ q2 (by omega) (by omega)
        refine ⟨x, cs', hx, fun j hj => ?_⟩
        have := q4 j (by omega)
        rw [Deep.add_add, add_eq] at this
        rw [← this, Nat.add_assoc])
      have hlen := Rp.L_len hL
      have hcl : 0 < cs2.length := by rw [hlen, hl]; exact Nat.mul_pos (by omega) hpos
      exact ⟨_, l, hc, by rw [hl]; exact hml, _, _, by rw [hl], .inr ⟨_, _, _, rfl, Go.Sx.at_of_cells hcl hcs, hL⟩⟩
theorem open_mark {n : Nat} {d : DataW H} {ps : List MemPlace} {cs : List Value} (hB : Rows.uptoBulk d ≤ 1048576) (h : DataW.trod enc Try.prog w 0 (fun _ => true) true n 30 cs = some (d, ps)) : ∃ x : Mk, rMk.e (Go.Sx.hp w) x cs := by
  obtain ⟨y0, y1, y2, m, hx, hlen, h0, h1, h2⟩ := Deep.trod_struct3 Try.underlying30 h
  cases hx
  rw [show Try.prog.cellsOf 30 = 5 by kernel_rfl] at hlen
  match cs, hlen with
  | [c0, c1, c2, c3, c4], _ =>
  have e1 : Try.prog.cellsOf 3 = 1 := by kernel_rfl
  simp only [e1, cells3, List.drop_zero, List.drop_succ_cons, List.take_succ_cons, List.take_zero] at h0 h1 h2
  simp only [Rows.uptoBulk, Rows.uptoBulkAll] at hB
  obtain ⟨k, hk, wk⟩ := open_int1 Try.underlying3 e1 h0
  obtain ⟨m, hm, wm⟩ := open_int1 Try.underlying3 e1 h1
  obtain ⟨t, sl, hs, hr, hb⟩ := open_val _ _ _ _ _ (Nat.le_refl _) h2
  cases hk; cases hm; cases hs
  exact ⟨⟨k, m, t⟩, _, rfl, hr, by show tsz t ≤ _; omega, wk, wm⟩
theorem open_marks {n : Nat} {d : DataW H} {ps : List MemPlace} {cs : List Value} (hB : Rows.uptoBulk d ≤ 1048576) (h : DataW.trod enc Try.prog w 0 (fun _ => true) true n 22 cs = some (d, ps)) : ∃ (sl : Value) (l : List Mk), cs = [sl] ∧ rMk.S (Go.Sx.hp w) l sl :=
  open_listB rMk Try.underlying22 (by kernel_rfl) (by decide) (fun n d ps cs h _ hb => open_mark hb h) hB h
theorem open_op {n : Nat} {d : DataW H} {ps : List MemPlace} {cs : List Value} (hB : Rows.uptoBulk d ≤ 1048576) (h : DataW.trod enc Try.prog w 0 (fun _ => true) true n 40 cs = some (d, ps)) : ∃ (x : Op) (sa sr : Value), cs = opL x sa sr ∧ x.rep (Go.Sx.hp w) sa sr := by
  obtain ⟨xs, n, _, hx, hlen, hl, hf⟩ := DataW.trod_struct Try.underlying40 h
  rw [show Try.prog.cellsOf 40 = 11 by kernel_rfl] at hlen
  match xs, hl with
  | [y0, y1, y2, y3, y4, y5, y6], _ =>
  cases hx
  match cs, hlen with
  | [c0, c1, c2, c3, c4, c5, c6, c7, c8, c9, c10], _ =>
  have h0 := hf 0 _ rfl
  have h1 := hf 1 _ rfl
  have h2 := hf 2 _ rfl
  have h3 := hf 3 _ rfl
  have h4 := hf 4 _ rfl
  have h5 := hf 5 _ rfl
  have h6 := hf 6 _ rfl
  clear hf
  have e1 : Try.prog.cellsOf 3 = 1 := by kernel_rfl
  have e2 : Try.prog.cellsOf 4 = 1 := by kernel_rfl
  simp only [e1, e2, cells3, List.drop_zero, List.drop_succ_cons, List.take_succ_cons, List.take_zero, List.getElem?_cons_zero, List.getElem?_cons_succ] at h0 h1 h2 h3 h4 h5 h6
  simp only [List.map_cons, List.map_nil, Rows.uptoBulk, Rows.uptoBulkAll] at hB
  obtain ⟨th, q0, w0⟩ := open_int1 Try.underlying3 e1 h0
  obtain ⟨kd, q1, w1⟩ := open_int1 Try.underlying3 e1 h1
  obtain ⟨ta, sa, q2, ra, ba⟩ := open_val _ _ _ _ _ (Nat.le_refl _) h2
  obtain ⟨tr, sr, q3, rr, br⟩ := open_val _ _ _ _ _ (Nat.le_refl _) h3
  obtain ⟨fr, q4, w4⟩ := open_int1 Try.underlying3 e1 h4
  obtain ⟨to, q5, w5⟩ := open_int1 Try.underlying3 e1 h5
  obtain ⟨dn, q6, _⟩ := DataW.trod_bool Try.underlying4 h6
  cases q0; cases q1; cases q2; cases q3; cases q4; cases q5; cases q6
  exact ⟨⟨th, kd, ta, tr, fr, to, dn⟩, _, _, rfl, ⟨w0, w1, w4, w5, by show tsz ta ≤ _; omega, by show tsz tr ≤ _; omega⟩, ra, rr⟩
theorem open_ops {n : Nat} {d : DataW H} {ps : List MemPlace} {cs : List Value} (hB : Rows.uptoBulk d ≤ 1048576) (h : DataW.trod enc Try.prog w 0 (fun _ => true) true n 31 cs = some (d, ps)) : ∃ (sl : Value) (l : List Op), cs = [sl] ∧ rO.S (Go.Sx.hp w) l sl :=
  open_listB rO Try.underlying31 (by kernel_rfl) (by decide) (fun n d ps cs h _ hb => open_op hb h) hB h
end
end Go.Proofs.Ytpmmbjcgabnloaa
namespace Go.Proofs.Ytpmmbjcgabnloaa
set_option linter.unusedSimpArgs false
set_option linter.unusedVariables false
open Go.ChangeShapes Go.WideShapes Go.ChangeAt Go.RowKit

theorem own : ownKnob Try.prog.godebug = none := by kernel_rfl
theorem laidOut : laidOutB Try.prog = true := by kernel_rfl

theorem post_below {H : Type} {enc : TypeId × Value → H} {P : Program} {f : Func} {s : ChangeSpec} {fresh handsOn again : Bool} {W W' : World} {args : Array Value} {v : Value} {ds : List (DataW H)} {pa : List MemPlace}
    (hvs : s.vars = []) (hfn : (s.fn H (ds ++ [])).vars = []) (hW : DataW.Whole enc P f.params.toList s.vars false W args.toList ds [] pa)
    (hres : ∀ (b : Nat) (sp : Nat → Bool) (hd : Bool), DataW.TrodAll enc P W' b sp hd f.resultTypes.toList (v.resultList f.resultTypes.size) (s.fn H (ds ++ [])).results [])
    (hargs : ∀ sp : Nat → Bool, (∀ p ∈ pa, sp p.block = true) → DataW.TrodAll enc P W' 0 sp true f.params.toList args.toList (s.fn H (ds ++ [])).args pa)
    (hb : Below W.heap.size W W')
    (hok : ∀ (j : Nat) (t : TypeId) (r : Value), f.resultTypes[j]? = some t → (v.resultList f.resultTypes.size)[j]? = some r → Value.okWide P W' .any 0 t r) :
    s.post enc P f false fresh handsOn again W args v W' := by
  have hlt := hW.lt
  have hvars : ∀ sp : Nat → Bool, DataW.TrodVars enc P W' sp s.vars (s.fn H (ds ++ [])).vars [] := fun sp => by rw [hvs, hfn]; rfl
  have hz := hW
  obtain ⟨_, _, _, _, _, hfrozen, _⟩ := hz
  refine ⟨ds, [], pa, [], pa, [], hW, hres _ _ _, hargs _ (fun p hp => by simpa using hlt p hp), hvars _, World.keptBut_mono (fun p hp => ⟨hp, Or.inr (by simpa using hp)⟩) (hb.frame (· ∈ pa)), fun _ => ?_⟩
  refine ⟨hok, _, _, ([] ++ pa) ++ [], ⟨[] ++ pa, [], trodAll_append (hargs _ (fun _ _ => rfl)) (hres _ _ _), hvars _, rfl, fun b off hp => ?_, by simp⟩, fun p hp _ => by simpa using hp⟩
  · have hp' : MemPlace.cell b off ∈ pa := by simpa using hp
    rw [hb.frozen (hlt _ hp')]
    exact hfrozen b off hp'
end Go.Proofs.Ytpmmbjcgabnloaa
