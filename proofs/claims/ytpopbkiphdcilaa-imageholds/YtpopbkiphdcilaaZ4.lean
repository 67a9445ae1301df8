/-
  The reader of images: read.
-/
import Derived.Test.YtpopbkiphdcilaaZ3
import Derived.Deep.Strs
import Derived.Deep.Slices
import Derived.Test.YtpopbkiphdcilaaRows
import Derived.WalkKit
import Derived.ProofKit
import Derived.OpenShut
import Derived.JoinedCond
import Derived.Carry
set_option linter.unusedSimpArgs false
set_option linter.unusedVariables false
namespace Go.Proofs.Ytpopbkiphdcilaa
set_option linter.unusedSimpArgs false
set_option linter.unusedVariables false
open Go.Sx
def readR (G : Hp) (b0 : List Int) (r : Value) (G' : Hp) : Prop :=
  ∃ (a1 : Option Addr) (n1 c1 : Nat) (a2 : Option Addr) (n2 c2 : Nat) (ok : Bool), r = .tuple #[.agg #[.slice a1 n1 c1], .slice a2 n2 c2, .bool ok] ∧
    (ok = true → ∃ ps, rdS b0 = some ps ∧ rF.S (diff G' G) (ps.map (·.2)) (.slice a1 n1 c1) ∧ rI.S (diff G' G) (ps.map (·.1)) (.slice a2 n2 c2)) ∧ (ok = false → rdS b0 = none)
set_option maxHeartbeats 8000000
theorem res3 {sl : List (Nat × SV)} {own : List (Nat × Nat × OO)} {b2 b3 b4 : Nat} {a1 : Option Addr} {n1 c1 : Nat} {a2 : Option Addr} {n2 c2 : Nat} {ok : Bool} {T : TypeId → Option TI} (hT : T = ty) (h2 : lk 2 sl = some (.p 0 b2 0)) (h3 : lk 3 sl = some (.p 1 b3 0)) (h4 : lk 4 sl = some (.p 2 b4 0))
    (o2 : lk 0 own = some (b2, .c 24 [.v (.slice a1 n1 c1)])) (o3 : lk 1 own = some (b3, .c 49 [.v (.slice a2 n2 c2)])) (o4 : lk 2 own = some (b4, .c 4 [.v (.bool ok)])) :
    resAll sl T own Try.f43.results.toList = some [.a [.v (.slice a1 n1 c1)], .v (.slice a2 n2 c2), .v (.bool ok)] := by
  have e : Try.f43.results.toList = [.cell 2 24, .cell 3 49, .cell 4 4] := rfl
  subst hT
  rw [e]
  simp only [resAll, resOne, h2, h3, h4, o2, o3, o4, if_true]
  refine st_ ?_
  simp only [o2, o3, o4, if_true]
  rfl
theorem wy (y : Nat) (h : y < 256) : IntKind.u32.wrap (y : Int) = (y : Int) := by rw [w32]; omega
theorem sh8 (y : Nat) (h : y < 256) : IntKind.u32.wrap ((y : Int) * 2 ^ min 8 IntKind.u32.bits) = ((y * 256 : Nat) : Int) := by
  show IntKind.u32.wrap ((y : Int) * 2 ^ 8) = _
  rw [w32]; omega
theorem sh16 (y : Nat) (h : y < 256) : IntKind.u32.wrap ((y : Int) * 2 ^ min 16 IntKind.u32.bits) = ((y * 65536 : Nat) : Int) := by
  show IntKind.u32.wrap ((y : Int) * 2 ^ 16) = _
  rw [w32]; omega
theorem sh24 (y : Nat) (h : y < 256) : IntKind.u32.wrap ((y : Int) * 2 ^ min 24 IntKind.u32.bits) = ((y * 16777216 : Nat) : Int) := by
  show IntKind.u32.wrap ((y : Int) * 2 ^ 24) = _
  rw [w32]; omega
theorem or32 (a b k sh : Nat) (hk : k = 2 ^ sh) (ha : a < k) (hb : a + b * k < 4294967296) : IntKind.u32.wrap ((BitVec.ofInt IntKind.u32.bits (a : Int) ||| BitVec.ofInt IntKind.u32.bits ((b * k : Nat) : Int)).toNat : Int) = ((a + b * k : Nat) : Int) := by
  subst hk
  show IntKind.u32.wrap ((BitVec.ofInt 32 (a : Int) ||| BitVec.ofInt 32 ((b * 2 ^ sh : Nat) : Int)).toNat : Int) = _
  have e : (BitVec.ofInt 32 (a : Int) ||| BitVec.ofInt 32 ((b * 2 ^ sh : Nat) : Int)).toNat = a + b * 2 ^ sh := by
    simp only [BitVec.toNat_or, BitVec.ofInt_natCast, BitVec.toNat_ofNat]
    rw [Nat.mod_eq_of_lt (by omega), Nat.mod_eq_of_lt (by omega), Nat.or_comm, Nat.mul_comm b, ← Nat.two_pow_add_eq_or_of_lt ha]
    omega
  rw [e, w32]; omega
theorem rdL_no {l : List Int} {j : Nat} (hj : j < 3) (h : l[j]? ≠ some ([66, 84, 1].getD j 0)) : rdL l = none := by
  rw [rdL, if_neg]
  rintro ⟨q0, q1, q2⟩
  apply h
  rcases (show j = 0 ∨ j = 1 ∨ j = 2 by omega) with rfl | rfl | rfl
  · exact q0
  · exact q1
  · exact q2
theorem res43 (tmps : Array Value) (v : Value) (d : Nat) (h2 : d ≠ 2) (h3 : d ≠ 3) (h4 : d ≠ 4) : results Try.f43 (tmps.setIfInBounds d v) = results Try.f43 tmps := by
  have e : Try.f43.results = #[.cell 2 24, .cell 3 49, .cell 4 4] := rfl
  simp only [results, e]
  simp [Array.getElem?_setIfInBounds, h2, h3, h4]
theorem hd_at (j : Nat) (h : j < 3) : ∃ c : UInt8, ({ data := #[66, 84, 1] } : ByteArray)[j]? = some c ∧ (c.toNat : Int) = [66, 84, 1].getD j 0 := by
  match j, h with
  | 0, _ => exact ⟨66, rfl, rfl⟩
  | 1, _ => exact ⟨84, rfl, rfl⟩
  | 2, _ => exact ⟨1, rfl, rfl⟩
theorem rdread_ok (b0 : List Int) (sl : Value) (G : Hp) (hl : rBS G b0 sl) : Pure Try.prog 43 [sl] G (readR G b0) := by
  obtain ⟨hl0, ad, cap, rfl, hcap⟩ := hl
  have h63 := Rp.S_len hl0
  refine enterDf ty tyok Try.func43 rfl Try.ntmps43 [.v (.slice ad b0.length cap)] (by simp) ?_
  intro C hP hQ hnt hty hmb hmh hro
  refine st_ ?_
  refine rn_ ?_; intros
  rename_i b2 b3 b4
  refine go_defer hro (by rw [hnt]; rfl) rfl rfl ?_
  refine rn_ ?_; intros
  have hQD : ∀ d, d ≠ 2 → d ≠ 3 → d ≠ 4 → QPd C (some d) := fun d h2 h3 h4 => qpd_bodyD hQ fun tmps v => res43 tmps v d h2 h3 h4
  refine x_if rfl rfl rfl rfl (fun h4 => ?_) (fun h4 => ?_)
  · refine rn_ ?_; intros
    have h4' : b0.length < 4 := by have := of_decide_eq_true h4; omega
    refine go_see 2 [.v (.bool false)] rfl rfl ?_
    refine st_ ?_
    refine x_retD rfl hQ hmb rfl (by rw [hP]; kernel_rfl) (ks := [0, 1, 2]) (ow := cells3 b2 b3 b4 (.slice none 0 0) (.slice none 0 0) false) rfl rfl (.inl (by intro k hk; omega)) (hP ▸ clo_idle b2 b3 b4 _ _ false _) ?_
    rintro u' G' ow' _ ⟨hs, rfl⟩
    refine ⟨hs, _, res3 hty rfl rfl rfl rfl rfl rfl, none, 0, 0, none, 0, 0, false, rfl, by simp, fun _ => ?_⟩
    rw [rdS, if_pos h4']
  have h4' : ¬ b0.length < 4 := by have := of_decide_eq_false h4; omega
  refine x_skip rfl ?_
  refine rn_ ?_; intros
  obtain ⟨l, hl⟩ : ∃ l, l = b0.take (b0.length - 4) := ⟨_, rfl⟩
  have hll : l.length = b0.length - 4 := by rw [hl]; simp
  have hS : rB.S G l (.slice ad l.length l.length) := by
    have q := rB_take hl0 (k := b0.length - 4) (by omega) (b0.length - 4)
    rw [ite_self] at q
    rw [hll, hl]; exact q
  have hrd : rdS b0 = match rdL l with
      | none => none
      | some r => if sumE b0 = sumB l then some r else none := by rw [rdS, if_neg h4', ← hl]; try rfl
  rw [wr (n := (b0.length : Int) - 4) (by omega) (by omega), show (b0.length : Int) - 4 = (l.length : Int) by omega]
  refine go_q (v := .slice ad l.length l.length) (by rw [hnt]; rfl) ((quiet_slice3 (by rw [hty]; rfl) (by rw [hty]; rfl) rfl rfl rfl rfl (by omega) (by omega)).cast (by
    have e2 : ad.map (fun x => x.add 0) = ad := by cases ad <;> simp [Addr.add]
    simp only [Sx.sliced, Int.toNat_natCast, Nat.sub_zero, Nat.zero_mul, e2, ite_self])) ?_
  refine rn_ ?_; intros
  rename_i b6
  refine go_keep [0, 2, 3, 4, 5, 6, 24] [0, 1, 2, 3] ?_
  refine st_ ?_
  refine x_loop rfl (fun q st => ∃ (j : Nat) (G' : Hp), q = 3 - j ∧ j ≤ 3 ∧ j ≤ l.length ∧ Le G G' ∧ (∀ k, k < j → l[k]? = some ([66, 84, 1].getD k 0)) ∧
    st = ⟨[(0, .v (.slice ad b0.length cap)), (2, .p 0 b2 0), (3, .p 1 b3 0), (4, .p 2 b4 0), (5, .v (.int .i64 l.length)), (6, .p 3 b6 0), (24, .v (.int .i64 j))],
      [(0, b2, .c 24 [.v (.slice none 0 0)]), (1, b3, .c 49 [.v (.slice none 0 0)]), (2, b4, .c 4 [.v (.bool false)]), (3, b6, .c 108 [.v (.slice ad l.length l.length), .v (.int .i64 j)])], G', [dfn 54 (cap3 b2 b3 b4)]⟩) ⟨0, G, rfl, by omega, by omega, Le.refl _, fun k h => by omega, rfl⟩ ?_
  rintro q st ⟨j, G1, hq, hj3, hjl, hle1, hhd, rfl⟩ ih
  refine rn_ ?_; intros
  refine x_if rfl rfl rfl rfl (fun hj => ?_) (fun hj => ?_)
  · have hjt : j < 3 := by have := of_decide_eq_true hj; omega
    refine rn_ ?_; intros
    refine x_held [] rfl (by rw [hP]; kernel_rfl) rfl rfl rfl ?_
    refine st_ ?_
    refine h_takeD 0 rfl (by kernel_rfl) (by kernel_rfl) (by kernel_rfl) (hQD _ (by decide) (by decide) (by decide)) (by rw [hnt]; rfl) (allIn (by repeat (first | exact trivial | refine ⟨rfl, ?_⟩))) (by first | exact Le.refl _ | assumption) (quiet_op (by rw [hty]; first | rfl | (refine st_ ?_; rfl))) ?_; refine st_ ?_
    refine h_takeD 2 rfl (by kernel_rfl) (by kernel_rfl) (by kernel_rfl) (hQD _ (by decide) (by decide) (by decide)) (by rw [hnt]; rfl) (allIn (by repeat (first | exact trivial | refine ⟨rfl, ?_⟩))) (by first | exact Le.refl _ | assumption) (quiet_op (by rw [hty]; first | rfl | (refine st_ ?_; rfl))) ?_; refine st_ ?_
    obtain ⟨c, hc1, hc2⟩ := hd_at j hjt
    refine h_takeD 3 rfl (by kernel_rfl) (by kernel_rfl) (by kernel_rfl) (hQD _ (by decide) (by decide) (by decide)) (by rw [hnt]; rfl) (allIn (by repeat (first | exact trivial | refine ⟨rfl, ?_⟩))) (by first | exact Le.refl _ | assumption) (x := .v (.int .u8 c.toNat)) (quiet_sidx (by rw [hty]; rfl) rfl rfl rfl (by omega) (by simpa using hc1)) ?_
    refine st_ ?_
    rw [hc2]
    refine h_one 1 rfl (by kernel_rfl) ?_
    refine go_callWP [3] (ow := rdO b6 (.slice ad l.length l.length) j) (by rw [hnt]; rfl) rfl (by rw [hP]; kernel_rfl) rfl rfl rfl (.inl (by intro k hk; omega)) (hP ▸ take_ok l _ j b6 _ (Rp.S_mono hle1 hS) hjl) ?_ ?_
    rotate_left
    · rintro v ⟨rfl, hno⟩
      refine x_panD hQ hmb rfl (by rw [hP]; kernel_rfl) (ks := [0, 1, 2]) (ow := cells3 b2 b3 b4 (.slice none 0 0) (.slice none 0 0) false) rfl rfl (.inl (by intro k hk; omega)) (hP ▸ clo_catch b2 b3 b4 _ _ false _) ?_
      rintro u' G' ow' _ ⟨hs, rfl⟩
      refine ⟨hs, _, res3 hty rfl rfl rfl rfl rfl rfl, none, 0, 0, none, 0, 0, false, rfl, by simp, fun _ => ?_⟩
      rw [hrd, rdL_no hjt (by rw [hno]; simp)]
    rintro v G2 ow' (hle2 : Le G1 G2) ⟨x, hx, hx0, hx1, rfl, rfl⟩
    simp only [setO, rdO]
    refine st_ ?_
    refine rn_ ?_; intros
    refine h_hs (allIn (by repeat (first | exact trivial | refine ⟨rfl, ?_⟩))) (by first | exact Le.refl _ | assumption) ?_
    refine h_takeD 4 rfl (by kernel_rfl) (by kernel_rfl) (by kernel_rfl) (hQD _ (by decide) (by decide) (by decide)) (by rw [hnt]; rfl) (allIn (by repeat (first | exact trivial | refine ⟨rfl, ?_⟩))) (by first | exact Le.refl _ | assumption) (quiet_op (by rw [hty]; first | rfl | (refine st_ ?_; rfl))) ?_; refine st_ ?_
    refine h_end (by kernel_rfl) ?_
    refine rn_ ?_; intros
    refine x_if rfl rfl rfl rfl (fun hne => ?_) (fun hne => ?_)
    · refine rn_ ?_; intros
      refine go_see 2 [.v (.bool false)] rfl rfl ?_
      refine st_ ?_
      refine x_retD rfl hQ hmb rfl (by rw [hP]; kernel_rfl) (ks := [0, 1, 2]) (ow := cells3 b2 b3 b4 (.slice none 0 0) (.slice none 0 0) false) rfl rfl (.inl (by intro k hk; omega)) (hP ▸ clo_idle b2 b3 b4 _ _ false _) ?_
      rintro u' G' ow' _ ⟨hs, rfl⟩
      refine ⟨hs, _, res3 hty rfl rfl rfl rfl rfl rfl, none, 0, 0, none, 0, 0, false, rfl, by simp, fun _ => ?_⟩
      rw [hrd, rdL_no hjt (by rw [hx]; intro q; injection q with q; rw [q] at hne; simp at hne)]
    refine x_skip rfl ?_
    refine rn_ ?_; intros
    rw [wr (n := (j : Int) + 1) (by omega) (by omega)]
    refine go_keep [0, 2, 3, 4, 5, 6, 24] [0, 1, 2, 3] ?_
    refine st_ ?_
    have hxe : x = [66, 84, 1].getD j 0 := by simpa using hne
    exact ih (3 - (j + 1)) _ (by omega) ⟨j + 1, G2, rfl, by omega, by have := (List.getElem?_eq_some_iff.1 hx).1; omega, hle1.trans hle2, fun k hk => by
      rcases Nat.lt_or_ge k j with q | q
      · exact hhd k q
      · have : k = j := by omega
        subst this; rw [hx, hxe], rfl⟩
  have hje : j = 3 := by have := of_decide_eq_false hj; omega
  subst hje
  have h0 := hhd 0 (by omega)
  have h1 := hhd 1 (by omega)
  have h2 := hhd 2 (by omega)
  have hrL : rdL l = match nm l 2147483647 3 with
      | none => none
      | some c => match manyS (funP l) c.1 c.2 with
        | none => none
        | some r => if r.2 < l.length then none else some r.1 := by rw [rdL, if_pos ⟨h0, h1, h2⟩]; try rfl
  refine rn_ ?_; intros
  refine go_callWP [3] (ow := rdO b6 (.slice ad l.length l.length) 3) (by rw [hnt]; rfl) rfl (by rw [hP]; kernel_rfl) rfl rfl rfl (.inl (by intro k hk; omega)) (hP ▸ rdnum_ok l _ 3 b6 2147483647 _ (Rp.S_mono hle1 hS) (by omega) (by omega)) ?_ ?_
  rotate_left
  · rintro v ⟨rfl, hno⟩
    refine x_panD hQ hmb rfl (by rw [hP]; kernel_rfl) (ks := [0, 1, 2]) (ow := cells3 b2 b3 b4 (.slice none 0 0) (.slice none 0 0) false) rfl rfl (.inl (by intro k hk; omega)) (hP ▸ clo_catch b2 b3 b4 _ _ false _) ?_
    rintro u' G' ow' _ ⟨hs, rfl⟩
    refine ⟨hs, _, res3 hty rfl rfl rfl rfl rfl rfl, none, 0, 0, none, 0, 0, false, rfl, by simp, fun _ => ?_⟩
    rw [hrd, hrL, hno]
  rintro v G2 ow' (hle2 : Le G1 G2) ⟨z, hz2, rfl, hzl, rfl⟩
  have hzm := nm_le hz2
  rw [hz2] at hrL
  simp only at hrL
  simp only [setO, rdO]
  refine st_ ?_
  refine rn_ ?_; intros
  rw [wr (n := (z.1 : Int)) (by omega) (by omega)]
  have hle02 : Le G G2 := hle1.trans hle2
  generalize z.1 = c at *
  generalize z.2 = a2 at *
  refine go_nilrow 41 3 1 rfl (by omega) ?_
  refine go_nilrow 42 59 2 rfl (by omega) ?_
  refine go_keep [0, 2, 3, 4, 5, 6, 8] [0, 1, 2, 3, 41, 42] ?_
  refine st_ ?_
  refine x_loop rfl (fun q st => ∃ (j a : Nat) (pre : List (Int × Fu)) (xs : List Value) (v1 v2 : Value) (G' : Hp), q = c - j ∧ a ≤ l.length ∧ MInv (funP l) c a2 j pre a ∧ rF.L (diff G' G) (pre.map (·.2)) xs ∧ (∀ n ∈ pre.map (·.1), isI64 n) ∧ Le G2 G' ∧
    st = ⟨[(0, .v (.slice ad b0.length cap)), (2, .p 0 b2 0), (3, .p 1 b3 0), (4, .p 2 b4 0), (5, .v (.int .i64 l.length)), (6, .p 3 b6 0), (8, .v (.int .i64 (c - j : Nat)))],
      [(0, b2, .c 24 [.v v2]), (1, b3, .c 49 [.v v1]), (2, b4, .c 4 [.v (.bool false)]), (3, b6, .c 108 [.v (.slice ad l.length l.length), .v (.int .i64 a)]), (41, 0, .row v1 3 1 pre.length ((pre.map (·.1)).map (Value.int .i64 ·))), (42, 0, .row v2 59 2 pre.length xs)], G', [dfn 54 (cap3 b2 b3 b4)]⟩) ⟨0, a2, [], [], .slice none 0 0, .slice none 0 0, G2, rfl, hzl, MInv.start _ _ _, rfl, (fun n hn => by simp at hn), Le.refl _, rfl⟩ ?_
  clear h0 h1 h2 ih
  rintro q st ⟨j, a, pre, xs, v1, v2, G4, hq, ha, hM, hxs, hp64, hle4, rfl⟩ ih
  have hjc := hM.1
  have hpl := hM.2.1
  refine go_rowS 41 rfl ?_
  rintro adv capv rfl
  refine go_rowS 42 rfl ?_
  rintro adf capf rfl
  refine rn_ ?_; intros
  refine x_if rfl rfl rfl rfl (fun hjl => ?_) (fun hjl => ?_)
  · have hjt : j < c := by have := of_decide_eq_true hjl; omega
    refine rn_ ?_; intros
    refine cut_tail 1 (fun s' => ∃ (ad7 : Option Addr) (cap7 : Nat), s' = ⟨[(0, .v (.slice ad b0.length cap)), (2, .p 0 b2 0), (3, .p 1 b3 0), (4, .p 2 b4 0), (5, .v (.int .i64 l.length)), (6, .p 3 b6 0), (8, .v (.int .i64 (c - j : Nat)))],
      [(0, b2, .c 24 [.v (.slice adf pre.length capf)]), (1, b3, .c 49 [.v (.slice ad7 (pre.length + 1) cap7)]), (2, b4, .c 4 [.v (.bool false)]), (3, b6, .c 108 [.v (.slice ad l.length l.length), .v (.int .i64 a)]), (41, 0, .row (.slice ad7 (pre.length + 1) cap7) 3 1 (pre.length + 1) ((pre.map (·.1)).map (Value.int .i64 ·) ++ [.int .i64 a])), (42, 0, .row (.slice adf pre.length capf) 59 2 pre.length xs)], G4, [dfn 54 (cap3 b2 b3 b4)]⟩) ?_ (fun key => ?_)
    rotate_left
    · refine x_held [(3, b6, .c 108 [.v (.slice ad l.length l.length), .v (.int .i64 a)])] rfl (by rw [hP]; kernel_rfl) rfl rfl rfl ?_
      refine st_ ?_
      refine h_takeD 1 rfl (by kernel_rfl) (by kernel_rfl) (by kernel_rfl) (hQD _ (by decide) (by decide) (by decide)) (by rw [hnt]; rfl) (allIn (by repeat (first | exact trivial | refine ⟨rfl, ?_⟩))) (by first | exact Le.refl _ | assumption) (quiet_op (by rw [hty]; first | rfl | (refine st_ ?_; rfl))) ?_; refine st_ ?_
      refine h_takeD 2 rfl (by kernel_rfl) (by kernel_rfl) (by kernel_rfl) (hQD _ (by decide) (by decide) (by decide)) (by rw [hnt]; rfl) (allIn (by repeat (first | exact trivial | refine ⟨rfl, ?_⟩))) (by first | exact Le.refl _ | assumption) (quiet_op (by rw [hty]; first | rfl | (refine st_ ?_; rfl))) ?_; refine st_ ?_
      refine h_takeD 3 rfl (by kernel_rfl) (by kernel_rfl) (by kernel_rfl) (hQD _ (by decide) (by decide) (by decide)) (by rw [hnt]; rfl) (allIn (by repeat (first | exact trivial | refine ⟨rfl, ?_⟩))) (by first | exact Le.refl _ | assumption) (quiet_op (by rw [hty]; first | rfl | (refine st_ ?_; rfl))) ?_; refine st_ ?_
      refine h_takeD 4 rfl (by kernel_rfl) (by kernel_rfl) (by kernel_rfl) (hQD _ (by decide) (by decide) (by decide)) (by rw [hnt]; rfl) (allIn (by repeat (first | exact trivial | refine ⟨rfl, ?_⟩))) (by first | exact Le.refl _ | assumption) (quiet_op (by rw [hty]; first | rfl | (refine st_ ?_; rfl))) ?_; refine st_ ?_
      refine h_two 0 5 rfl rfl (by kernel_rfl) ?_ ?_
      · refine rn_ ?_; intros
        refine h_hs (allIn (by repeat (first | exact trivial | refine ⟨rfl, ?_⟩))) (by first | exact Le.refl _ | assumption) ?_
        refine h_one 5 rfl (by kernel_rfl) ?_
        refine rn_ ?_; intros
        refine h_hs (allIn (by repeat (first | exact trivial | refine ⟨rfl, ?_⟩))) (by first | exact Le.refl _ | assumption) ?_
        refine h_one 6 rfl (by kernel_rfl) ?_
        refine go_append 41 (by rw [hnt]; rfl) (by rw [hty]; rfl) (by rw [hty]; rfl) (by decide) rfl rfl rfl (by omega) rfl (src_own 1 rfl rfl) rfl (by simp [dens, SV.den, Value.oneCell']) (by omega) (by simp only []; omega) ?_
        intro v'
        refine go_rowS 41 rfl ?_
        rintro ad7 cap7 rfl
        refine rn_ ?_; intros
        refine h_hs (allIn (by repeat (first | exact trivial | refine ⟨rfl, ?_⟩))) (by first | exact Le.refl _ | assumption) ?_
        refine h_one 7 rfl (by kernel_rfl) ?_
        refine rn_ ?_; intros
        refine h_hs (allIn (by repeat (first | exact trivial | refine ⟨rfl, ?_⟩))) (by first | exact Le.refl _ | assumption) ?_
        refine h_end (by kernel_rfl) ?_
        refine go_keep [0, 2, 3, 4, 5, 6, 8] [0, 1, 2, 3, 41, 42] ?_
        refine st_ ?_
        exact key _ ⟨ad7, cap7, by simp [dens, SV.den]⟩
      · refine rn_ ?_; intros
        refine h_hs (allIn (by repeat (first | exact trivial | refine ⟨rfl, ?_⟩))) (by first | exact Le.refl _ | assumption) ?_
        refine h_one 0 rfl (by kernel_rfl) ?_
        refine rn_ ?_; intros
        refine h_hs (allIn (by repeat (first | exact trivial | refine ⟨rfl, ?_⟩))) (by first | exact Le.refl _ | assumption) ?_
        refine h_one 6 rfl (by kernel_rfl) ?_
        refine go_append 41 (by rw [hnt]; rfl) (by rw [hty]; rfl) (by rw [hty]; rfl) (by decide) rfl rfl rfl (by omega) rfl (src_own 1 rfl rfl) rfl (by simp [dens, SV.den, Value.oneCell']) (by omega) (by simp only []; omega) ?_
        intro v'
        refine go_rowS 41 rfl ?_
        rintro ad7 cap7 rfl
        refine rn_ ?_; intros
        refine h_hs (allIn (by repeat (first | exact trivial | refine ⟨rfl, ?_⟩))) (by first | exact Le.refl _ | assumption) ?_
        refine h_one 7 rfl (by kernel_rfl) ?_
        refine rn_ ?_; intros
        refine h_hs (allIn (by repeat (first | exact trivial | refine ⟨rfl, ?_⟩))) (by first | exact Le.refl _ | assumption) ?_
        refine h_end (by kernel_rfl) ?_
        refine go_keep [0, 2, 3, 4, 5, 6, 8] [0, 1, 2, 3, 41, 42] ?_
        refine st_ ?_
        exact key _ ⟨ad7, cap7, by simp [dens, SV.den]⟩
    clear adv capv
    rintro st ⟨ad7, cap7, rfl⟩
    simp only [List.drop_succ_cons, List.drop_zero]
    refine x_held [] rfl (by rw [hP]; kernel_rfl) rfl rfl rfl ?_
    refine st_ ?_
    refine h_takeD 0 rfl (by kernel_rfl) (by kernel_rfl) (by kernel_rfl) (hQD _ (by decide) (by decide) (by decide)) (by rw [hnt]; rfl) (allIn (by repeat (first | exact trivial | refine ⟨rfl, ?_⟩))) (by first | exact Le.refl _ | assumption) (quiet_op (by rw [hty]; first | rfl | (refine st_ ?_; rfl))) ?_; refine st_ ?_
    refine h_takeD 2 rfl (by kernel_rfl) (by kernel_rfl) (by kernel_rfl) (hQD _ (by decide) (by decide) (by decide)) (by rw [hnt]; rfl) (allIn (by repeat (first | exact trivial | refine ⟨rfl, ?_⟩))) (by first | exact Le.refl _ | assumption) (quiet_op (by rw [hty]; first | rfl | (refine st_ ?_; rfl))) ?_; refine st_ ?_
    refine h_two 1 3 rfl rfl (by kernel_rfl) ?_ ?_
    · refine rn_ ?_; intros
      refine h_hs (allIn (by repeat (first | exact trivial | refine ⟨rfl, ?_⟩))) (by first | exact Le.refl _ | assumption) ?_
      refine h_one 3 rfl (by kernel_rfl) ?_
      refine go_callWP [3] (ow := rdO b6 (.slice ad l.length l.length) a) (by rw [hnt]; rfl) rfl (by rw [hP]; kernel_rfl) rfl rfl rfl (.inl (by intro k hk; omega)) (hP ▸ rdfun_ok l _ a b6 _ (Rp.S_mono (hle02.trans hle4) hS) (by omega)) ?_ ?_
      rotate_left
      · rintro v ⟨rfl, hno⟩
        refine x_panD hQ hmb rfl (by rw [hP]; kernel_rfl) (ks := [0, 1, 2]) (ow := cells3 b2 b3 b4 (.slice adf pre.length capf) (.slice ad7 (pre.length + 1) cap7) false) rfl rfl (.inl (by intro k hk; omega)) (hP ▸ clo_catch b2 b3 b4 _ _ false _) ?_
        rintro u' G' ow' _ ⟨hs, rfl⟩
        refine ⟨hs, _, res3 hty rfl rfl rfl rfl rfl rfl, none, 0, 0, none, 0, 0, false, rfl, by simp, fun _ => ?_⟩
        rw [hrd, hrL, hM.none hjt (by rw [funP, hno]; rfl)]
      rintro v G5 ow' (hle5 : Le G4 G5) ⟨x, sl', hx2, rfl, hxp, hxL, hxl, rfl⟩
      obtain ⟨adx, capx, rfl⟩ := Rp.S_slice hxL
      simp only [setO, rdO]
      refine st_ ?_
      refine rn_ ?_; intros
      refine h_hs (allIn (by repeat (first | exact trivial | refine ⟨rfl, ?_⟩))) (by first | exact Le.refl _ | assumption) ?_
      refine h_one 4 rfl (by kernel_rfl) ?_
      refine rn_ ?_; intros
      refine h_hs (allIn (by repeat (first | exact trivial | refine ⟨rfl, ?_⟩))) (by first | exact Le.refl _ | assumption) ?_
      refine h_one 5 rfl (by kernel_rfl) ?_
      refine go_append 42 (by rw [hnt]; rfl) (by rw [hty]; rfl) (by rw [hty]; rfl) (by decide) rfl rfl rfl (by omega) rfl (src_own 2 rfl rfl) rfl (by simp [dens, SV.den, Value.oneCell']) (by omega) (by simp only []; omega) ?_
      intro v'
      refine go_rowS 42 rfl ?_
      rintro ad4 cap4 rfl
      refine rn_ ?_; intros
      refine h_hs (allIn (by repeat (first | exact trivial | refine ⟨rfl, ?_⟩))) (by first | exact Le.refl _ | assumption) ?_
      refine h_takeD 6 rfl (by kernel_rfl) (by kernel_rfl) (by kernel_rfl) (hQD _ (by decide) (by decide) (by decide)) (by rw [hnt]; rfl) (allIn (by repeat (first | exact trivial | refine ⟨rfl, ?_⟩))) (by first | exact Le.refl _ | assumption) (quiet_op (by rw [hty]; first | rfl | (refine st_ ?_; rfl))) ?_; refine st_ ?_
      refine h_one 7 rfl (by kernel_rfl) ?_
      refine rn_ ?_; intros
      refine h_hs (allIn (by repeat (first | exact trivial | refine ⟨rfl, ?_⟩))) (by first | exact Le.refl _ | assumption) ?_
      refine h_end (by kernel_rfl) ?_
      refine rn_ ?_; intros
      have e : ((c - j : Nat) : Int) - 1 = ((c - (j + 1) : Nat) : Int) := by omega
      rw [wr (n := ((c - j : Nat) : Int) - 1) (by omega) (by omega), e]
      refine go_keep [0, 2, 3, 4, 5, 6, 8] [0, 1, 2, 3, 41, 42] ?_
      refine st_ ?_
      exact ih (c - (j + 1)) _ (by omega) ⟨j + 1, x.2, pre ++ [((a : Int), x.1)], xs ++ [.int .i64 x.1.params, .slice adx x.1.nodes.length capx], .slice ad7 (pre.length + 1) cap7, .slice ad4 (pre.length + 1) cap4, G5, rfl, hxl, hM.step hjt (x := (((a : Int), x.1), x.2)) (by rw [funP, hx2]; rfl), by
        rw [List.map_append]; exact Rp.L_append (Rp.L_mono (diff_mono (Le.refl G) hle5) hxs) (Rp.L_single ⟨_, rfl, hxp, Rp.S_mono (diff_mono (hle02.trans hle4) (Le.refl _)) hxL⟩), fun n hn => by
        rw [List.map_append] at hn
        rcases List.mem_append.1 hn with hn | hn
        · exact hp64 n hn
        · simp at hn; subst hn; constructor <;> omega, hle4.trans hle5, by simp [dens, SV.den]⟩
    · refine go_callWP [3] (ow := rdO b6 (.slice ad l.length l.length) a) (by rw [hnt]; rfl) rfl (by rw [hP]; kernel_rfl) rfl rfl rfl (.inl (by intro k hk; omega)) (hP ▸ rdfun_ok l _ a b6 _ (Rp.S_mono (hle02.trans hle4) hS) (by omega)) ?_ ?_
      rotate_left
      · rintro v ⟨rfl, hno⟩
        refine x_panD hQ hmb rfl (by rw [hP]; kernel_rfl) (ks := [0, 1, 2]) (ow := cells3 b2 b3 b4 (.slice adf pre.length capf) (.slice ad7 (pre.length + 1) cap7) false) rfl rfl (.inl (by intro k hk; omega)) (hP ▸ clo_catch b2 b3 b4 _ _ false _) ?_
        rintro u' G' ow' _ ⟨hs, rfl⟩
        refine ⟨hs, _, res3 hty rfl rfl rfl rfl rfl rfl, none, 0, 0, none, 0, 0, false, rfl, by simp, fun _ => ?_⟩
        rw [hrd, hrL, hM.none hjt (by rw [funP, hno]; rfl)]
      rintro v G5 ow' (hle5 : Le G4 G5) ⟨x, sl', hx2, rfl, hxp, hxL, hxl, rfl⟩
      obtain ⟨adx, capx, rfl⟩ := Rp.S_slice hxL
      simp only [setO, rdO]
      refine st_ ?_
      refine rn_ ?_; intros
      refine h_hs (allIn (by repeat (first | exact trivial | refine ⟨rfl, ?_⟩))) (by first | exact Le.refl _ | assumption) ?_
      refine h_two 1 4 rfl rfl (by kernel_rfl) ?_ ?_
      · refine rn_ ?_; intros
        refine h_hs (allIn (by repeat (first | exact trivial | refine ⟨rfl, ?_⟩))) (by first | exact Le.refl _ | assumption) ?_
        refine h_one 4 rfl (by kernel_rfl) ?_
        refine rn_ ?_; intros
        refine h_hs (allIn (by repeat (first | exact trivial | refine ⟨rfl, ?_⟩))) (by first | exact Le.refl _ | assumption) ?_
        refine h_one 5 rfl (by kernel_rfl) ?_
        refine go_append 42 (by rw [hnt]; rfl) (by rw [hty]; rfl) (by rw [hty]; rfl) (by decide) rfl rfl rfl (by omega) rfl (src_own 2 rfl rfl) rfl (by simp [dens, SV.den, Value.oneCell']) (by omega) (by simp only []; omega) ?_
        intro v'
        refine go_rowS 42 rfl ?_
        rintro ad4 cap4 rfl
        refine rn_ ?_; intros
        refine h_hs (allIn (by repeat (first | exact trivial | refine ⟨rfl, ?_⟩))) (by first | exact Le.refl _ | assumption) ?_
        refine h_takeD 6 rfl (by kernel_rfl) (by kernel_rfl) (by kernel_rfl) (hQD _ (by decide) (by decide) (by decide)) (by rw [hnt]; rfl) (allIn (by repeat (first | exact trivial | refine ⟨rfl, ?_⟩))) (by first | exact Le.refl _ | assumption) (quiet_op (by rw [hty]; first | rfl | (refine st_ ?_; rfl))) ?_; refine st_ ?_
        refine h_one 7 rfl (by kernel_rfl) ?_
        refine rn_ ?_; intros
        refine h_hs (allIn (by repeat (first | exact trivial | refine ⟨rfl, ?_⟩))) (by first | exact Le.refl _ | assumption) ?_
        refine h_end (by kernel_rfl) ?_
        refine rn_ ?_; intros
        have e : ((c - j : Nat) : Int) - 1 = ((c - (j + 1) : Nat) : Int) := by omega
        rw [wr (n := ((c - j : Nat) : Int) - 1) (by omega) (by omega), e]
        refine go_keep [0, 2, 3, 4, 5, 6, 8] [0, 1, 2, 3, 41, 42] ?_
        refine st_ ?_
        exact ih (c - (j + 1)) _ (by omega) ⟨j + 1, x.2, pre ++ [((a : Int), x.1)], xs ++ [.int .i64 x.1.params, .slice adx x.1.nodes.length capx], .slice ad7 (pre.length + 1) cap7, .slice ad4 (pre.length + 1) cap4, G5, rfl, hxl, hM.step hjt (x := (((a : Int), x.1), x.2)) (by rw [funP, hx2]; rfl), by
          rw [List.map_append]; exact Rp.L_append (Rp.L_mono (diff_mono (Le.refl G) hle5) hxs) (Rp.L_single ⟨_, rfl, hxp, Rp.S_mono (diff_mono (hle02.trans hle4) (Le.refl _)) hxL⟩), fun n hn => by
          rw [List.map_append] at hn
          rcases List.mem_append.1 hn with hn | hn
          · exact hp64 n hn
          · simp at hn; subst hn; constructor <;> omega, hle4.trans hle5, by simp [dens, SV.den]⟩
      · refine rn_ ?_; intros
        refine h_hs (allIn (by repeat (first | exact trivial | refine ⟨rfl, ?_⟩))) (by first | exact Le.refl _ | assumption) ?_
        refine h_one 1 rfl (by kernel_rfl) ?_
        refine rn_ ?_; intros
        refine h_hs (allIn (by repeat (first | exact trivial | refine ⟨rfl, ?_⟩))) (by first | exact Le.refl _ | assumption) ?_
        refine h_one 5 rfl (by kernel_rfl) ?_
        refine go_append 42 (by rw [hnt]; rfl) (by rw [hty]; rfl) (by rw [hty]; rfl) (by decide) rfl rfl rfl (by omega) rfl (src_own 2 rfl rfl) rfl (by simp [dens, SV.den, Value.oneCell']) (by omega) (by simp only []; omega) ?_
        intro v'
        refine go_rowS 42 rfl ?_
        rintro ad4 cap4 rfl
        refine rn_ ?_; intros
        refine h_hs (allIn (by repeat (first | exact trivial | refine ⟨rfl, ?_⟩))) (by first | exact Le.refl _ | assumption) ?_
        refine h_takeD 6 rfl (by kernel_rfl) (by kernel_rfl) (by kernel_rfl) (hQD _ (by decide) (by decide) (by decide)) (by rw [hnt]; rfl) (allIn (by repeat (first | exact trivial | refine ⟨rfl, ?_⟩))) (by first | exact Le.refl _ | assumption) (quiet_op (by rw [hty]; first | rfl | (refine st_ ?_; rfl))) ?_; refine st_ ?_
        refine h_one 7 rfl (by kernel_rfl) ?_
        refine rn_ ?_; intros
        refine h_hs (allIn (by repeat (first | exact trivial | refine ⟨rfl, ?_⟩))) (by first | exact Le.refl _ | assumption) ?_
        refine h_end (by kernel_rfl) ?_
        refine rn_ ?_; intros
        have e : ((c - j : Nat) : Int) - 1 = ((c - (j + 1) : Nat) : Int) := by omega
        rw [wr (n := ((c - j : Nat) : Int) - 1) (by omega) (by omega), e]
        refine go_keep [0, 2, 3, 4, 5, 6, 8] [0, 1, 2, 3, 41, 42] ?_
        refine st_ ?_
        exact ih (c - (j + 1)) _ (by omega) ⟨j + 1, x.2, pre ++ [((a : Int), x.1)], xs ++ [.int .i64 x.1.params, .slice adx x.1.nodes.length capx], .slice ad7 (pre.length + 1) cap7, .slice ad4 (pre.length + 1) cap4, G5, rfl, hxl, hM.step hjt (x := (((a : Int), x.1), x.2)) (by rw [funP, hx2]; rfl), by
          rw [List.map_append]; exact Rp.L_append (Rp.L_mono (diff_mono (Le.refl G) hle5) hxs) (Rp.L_single ⟨_, rfl, hxp, Rp.S_mono (diff_mono (hle02.trans hle4) (Le.refl _)) hxL⟩), fun n hn => by
          rw [List.map_append] at hn
          rcases List.mem_append.1 hn with hn | hn
          · exact hp64 n hn
          · simp at hn; subst hn; constructor <;> omega, hle4.trans hle5, by simp [dens, SV.den]⟩
  have hje : j = c := by have := of_decide_eq_false hjl; omega
  subst hje
  refine rn_ ?_; intros
  refine x_if rfl rfl rfl rfl (fun hal => ?_) (fun hal => ?_)
  · refine rn_ ?_; intros
    refine go_see 2 [.v (.bool false)] rfl rfl ?_
    refine st_ ?_
    refine x_retD rfl hQ hmb rfl (by rw [hP]; kernel_rfl) (ks := [0, 1, 2]) (ow := cells3 b2 b3 b4 (.slice none 0 0) (.slice none 0 0) false) rfl rfl (.inl (by intro k hk; omega)) (hP ▸ clo_idle b2 b3 b4 _ _ false _) ?_
    rintro u' G' ow' _ ⟨hs, rfl⟩
    refine ⟨hs, _, res3 hty rfl rfl rfl rfl rfl rfl, none, 0, 0, none, 0, 0, false, rfl, by simp, fun _ => ?_⟩
    rw [hrd, hrL, hM.done]
    simp only
    rw [if_pos (by have := of_decide_eq_true hal; omega)]
  rw [hM.done] at hrL
  simp only at hrL
  rw [if_neg (by have := of_decide_eq_false hal; omega)] at hrL
  rw [hrL] at hrd
  simp only at hrd
  refine x_skip rfl ?_
  refine rn_ ?_; intros
  obtain ⟨bb, off, rfl, hat0, p0, p0'⟩ := rB_at hl0 (i := l.length) (by omega)
  obtain ⟨bb', off', hse, hat1, p1, p1'⟩ := rB_at hl0 (i := l.length + 1) (by omega)
  cases hse
  obtain ⟨bb', off', hse, hat2, p2, p2'⟩ := rB_at hl0 (i := l.length + 2) (by omega)
  cases hse
  obtain ⟨bb', off', hse, hat3, p3, p3'⟩ := rB_at hl0 (i := l.length + 3) (by omega)
  cases hse
  have hsE : sumE b0 = (b0[l.length]'(by omega)).toNat + (b0[l.length + 1]'(by omega)).toNat * 256 + (b0[l.length + 2]'(by omega)).toNat * 65536 + (b0[l.length + 3]'(by omega)).toNat * 16777216 := by
    have g : ∀ k (h : k < b0.length), b0.getD k 0 = b0[k] := fun k h => by simp [List.getD_eq_getElem?_getD, List.getElem?_eq_getElem h]
    rw [sumE, g _ (by omega), g _ (by omega), g _ (by omega), g _ (by omega)]
    simp only [show b0.length - 4 = l.length by omega, show b0.length - 3 = l.length + 1 by omega, show b0.length - 2 = l.length + 2 by omega, show b0.length - 1 = l.length + 3 by omega]
  generalize b0[l.length]'(by omega) = x0 at *
  generalize b0[l.length + 1]'(by omega) = x1 at *
  generalize b0[l.length + 2]'(by omega) = x2 at *
  generalize b0[l.length + 3]'(by omega) = x3 at *
  obtain ⟨y0, rfl⟩ : ∃ y : Nat, x0 = y := ⟨x0.toNat, by omega⟩
  obtain ⟨y1, rfl⟩ : ∃ y : Nat, x1 = y := ⟨x1.toNat, by omega⟩
  obtain ⟨y2, rfl⟩ : ∃ y : Nat, x2 = y := ⟨x2.toNat, by omega⟩
  obtain ⟨y3, rfl⟩ : ∃ y : Nat, x3 = y := ⟨x3.toNat, by omega⟩
  simp only [Int.toNat_natCast] at hsE
  refine x_draw rfl (by rw [hP]; kernel_rfl) rfl (by kernel_rfl) ?_
  refine runq 400 hty hnt ?_; refine st_ ?_
  refine q_q (by rw [hnt]; rfl) (quiet_index (by rw [hty]; rfl) (by rw [hty]; rfl) rfl rfl rfl (by omega) (by omega)) ?_
  refine q_q (v := .int .u8 y0) (by rw [hnt]; rfl) ((quiet_load (vs := [.int .u8 y0]) (by rw [hty]; rfl) rfl (by simp [TK.agg]) (by first | (simpa only [Int.toNat_natCast, Nat.mul_one] using (hat0).mono (hle02.trans hle4)) | (simpa using (hat0).mono (hle02.trans hle4))) rfl).cast (by rfl)) ?_
  refine runq 400 hty hnt ?_; refine st_ ?_
  rw [wy y0 (by omega)]
  rw [wr (n := (l.length : Int) + 1) (by omega) (by omega), show (l.length : Int) + 1 = ((l.length + 1 : Nat) : Int) by omega]
  refine q_q (by rw [hnt]; rfl) (quiet_index (by rw [hty]; rfl) (by rw [hty]; rfl) rfl rfl rfl (by omega) (by omega)) ?_
  refine q_q (v := .int .u8 y1) (by rw [hnt]; rfl) ((quiet_load (vs := [.int .u8 y1]) (by rw [hty]; rfl) rfl (by simp [TK.agg]) (by first | (simpa only [Int.toNat_natCast, Nat.mul_one] using (hat1).mono (hle02.trans hle4)) | (simpa using (hat1).mono (hle02.trans hle4))) rfl).cast (by rfl)) ?_
  refine runq 400 hty hnt ?_; refine st_ ?_
  simp only [Int.reduceLT, Int.reduceLE, Int.reduceEq, Int.reduceNeg, Int.le_refl, Int.reduceToNat, if_false, if_true, and_self]; refine st_ ?_; (try (refine runq 400 hty hnt ?_; refine st_ ?_))
  rw [wy y1 (by omega), sh8 y1 (by omega), or32 y0 y1 256 8 rfl (by omega) (by omega)]
  rw [wr (n := (l.length : Int) + 2) (by omega) (by omega), show (l.length : Int) + 2 = ((l.length + 2 : Nat) : Int) by omega]
  refine q_q (by rw [hnt]; rfl) (quiet_index (by rw [hty]; rfl) (by rw [hty]; rfl) rfl rfl rfl (by omega) (by omega)) ?_
  refine q_q (v := .int .u8 y2) (by rw [hnt]; rfl) ((quiet_load (vs := [.int .u8 y2]) (by rw [hty]; rfl) rfl (by simp [TK.agg]) (by first | (simpa only [Int.toNat_natCast, Nat.mul_one] using (hat2).mono (hle02.trans hle4)) | (simpa using (hat2).mono (hle02.trans hle4))) rfl).cast (by rfl)) ?_
  refine runq 400 hty hnt ?_; refine st_ ?_
  simp only [Int.reduceLT, Int.reduceLE, Int.reduceEq, Int.reduceNeg, Int.le_refl, Int.reduceToNat, if_false, if_true, and_self]; refine st_ ?_; (try (refine runq 400 hty hnt ?_; refine st_ ?_))
  rw [wy y2 (by omega), sh16 y2 (by omega), or32 (y0 + y1 * 256) y2 65536 16 rfl (by omega) (by omega)]
  rw [wr (n := (l.length : Int) + 3) (by omega) (by omega), show (l.length : Int) + 3 = ((l.length + 3 : Nat) : Int) by omega]
  refine q_q (by rw [hnt]; rfl) (quiet_index (by rw [hty]; rfl) (by rw [hty]; rfl) rfl rfl rfl (by omega) (by omega)) ?_
  refine q_q (v := .int .u8 y3) (by rw [hnt]; rfl) ((quiet_load (vs := [.int .u8 y3]) (by rw [hty]; rfl) rfl (by simp [TK.agg]) (by first | (simpa only [Int.toNat_natCast, Nat.mul_one] using (hat3).mono (hle02.trans hle4)) | (simpa using (hat3).mono (hle02.trans hle4))) rfl).cast (by rfl)) ?_
  refine runq 400 hty hnt ?_; refine st_ ?_
  simp only [Int.reduceLT, Int.reduceLE, Int.reduceEq, Int.reduceNeg, Int.le_refl, Int.reduceToNat, if_false, if_true, and_self]; refine st_ ?_; (try (refine runq 400 hty hnt ?_; refine st_ ?_))
  rw [wy y3 (by omega), sh24 y3 (by omega), or32 (y0 + y1 * 256 + y2 * 65536) y3 16777216 24 rfl (by omega) (by omega), ← hsE]
  refine q_end ?_
  refine rn_ ?_; intros
  refine go_keep [0, 2, 3, 4, 6, 9] [0, 1, 2, 3, 41, 42] ?_
  refine st_ ?_
  refine x_held [(0, b2, .c 24 [.v (.slice adf pre.length capf)]), (1, b3, .c 49 [.v (.slice adv pre.length capv)]), (3, b6, .c 108 [.v (.slice (some ⟨bb, off, none⟩) l.length l.length), .v (.int .i64 a)])] rfl (by rw [hP]; kernel_rfl) rfl rfl rfl ?_
  refine st_ ?_
  refine h_takeD 0 rfl (by kernel_rfl) (by kernel_rfl) (by kernel_rfl) (hQD _ (by decide) (by decide) (by decide)) (by rw [hnt]; rfl) (allIn (by repeat (first | exact trivial | refine ⟨rfl, ?_⟩))) (by first | exact Le.refl _ | assumption) (quiet_op (by rw [hty]; first | rfl | (refine st_ ?_; rfl))) ?_; refine st_ ?_
  refine h_takeD 1 rfl (by kernel_rfl) (by kernel_rfl) (by kernel_rfl) (hQD _ (by decide) (by decide) (by decide)) (by rw [hnt]; rfl) (allIn (by repeat (first | exact trivial | refine ⟨rfl, ?_⟩))) (by first | exact Le.refl _ | assumption) (quiet_op (by rw [hty]; first | rfl | (refine st_ ?_; rfl))) ?_; refine st_ ?_
  refine h_takeD 2 rfl (by kernel_rfl) (by kernel_rfl) (by kernel_rfl) (hQD _ (by decide) (by decide) (by decide)) (by rw [hnt]; rfl) (allIn (by repeat (first | exact trivial | refine ⟨rfl, ?_⟩))) (by first | exact Le.refl _ | assumption) (quiet_op (by rw [hty]; first | rfl | (refine st_ ?_; rfl))) ?_; refine st_ ?_
  refine h_takeD 3 rfl (by kernel_rfl) (by kernel_rfl) (by kernel_rfl) (hQD _ (by decide) (by decide) (by decide)) (by rw [hnt]; rfl) (allIn (by repeat (first | exact trivial | refine ⟨rfl, ?_⟩))) (by first | exact Le.refl _ | assumption) (quiet_op (by rw [hty]; first | rfl | (refine st_ ?_; rfl))) ?_; refine st_ ?_
  refine h_takeD 4 rfl (by kernel_rfl) (by kernel_rfl) (by kernel_rfl) (hQD _ (by decide) (by decide) (by decide)) (by rw [hnt]; rfl) (allIn (by repeat (first | exact trivial | refine ⟨rfl, ?_⟩))) (by first | exact Le.refl _ | assumption) (quiet_op (by rw [hty]; first | rfl | (refine st_ ?_; rfl))) ?_; refine st_ ?_
  refine h_takeD 5 rfl (by kernel_rfl) (by kernel_rfl) (by kernel_rfl) (hQD _ (by decide) (by decide) (by decide)) (by rw [hnt]; rfl) (allIn (by repeat (first | exact trivial | refine ⟨rfl, ?_⟩))) (by first | exact Le.refl _ | assumption) (quiet_op (by rw [hty]; first | rfl | (refine st_ ?_; rfl))) ?_; refine st_ ?_
  refine h_takeD 6 rfl (by kernel_rfl) (by kernel_rfl) (by kernel_rfl) (hQD _ (by decide) (by decide) (by decide)) (by rw [hnt]; rfl) (allIn (by repeat (first | exact trivial | refine ⟨rfl, ?_⟩))) (by first | exact Le.refl _ | assumption) (quiet_op (by rw [hty]; first | rfl | (refine st_ ?_; rfl))) ?_; refine st_ ?_
  refine h_one 7 rfl (by kernel_rfl) ?_
  refine rn_ ?_; intros
  refine h_hs (allIn (by repeat (first | exact trivial | refine ⟨rfl, ?_⟩))) (by first | exact Le.refl _ | assumption) ?_
  refine h_one 8 rfl (by kernel_rfl) ?_
  refine go_litrow 43 (n := 1) (size := 1) rfl (by omega) rfl (by omega) ?_
  refine st_ ?_
  refine go_lendL rBB 43 (ts := [l]) (v := .int .u32 (sumB l)) (by rw [hnt]; rfl) (by rw [hP]; kernel_rfl) rfl rfl rfl (by omega) ⟨[_], [], rfl, ⟨_, rfl, Rp.S_mono (hle02.trans hle4) hS⟩, rfl⟩ (fun G9 _ hS9 => by
    have hc := iSum_ok [l] _ G9 hS9
    rw [List.flatten_singleton] at hc
    exact hP ▸ hc) ?_
  refine st_ ?_
  refine rn_ ?_; intros
  refine h_hs (allIn (by repeat (first | exact trivial | refine ⟨rfl, ?_⟩))) (by first | exact Le.refl _ | assumption) ?_
  refine h_takeD 9 rfl (by kernel_rfl) (by kernel_rfl) (by kernel_rfl) (hQD _ (by decide) (by decide) (by decide)) (by rw [hnt]; rfl) (allIn (by repeat (first | exact trivial | refine ⟨rfl, ?_⟩))) (by first | exact Le.refl _ | assumption) (quiet_op (by rw [hty]; first | rfl | (refine st_ ?_; rfl))) ?_; refine st_ ?_
  refine h_one 10 rfl (by kernel_rfl) ?_
  refine rn_ ?_; intros
  refine h_hs (allIn (by repeat (first | exact trivial | refine ⟨rfl, ?_⟩))) (by first | exact Le.refl _ | assumption) ?_
  refine h_one 11 rfl (by kernel_rfl) ?_
  refine rn_ ?_; intros
  refine h_hs (allIn (by repeat (first | exact trivial | refine ⟨rfl, ?_⟩))) (by first | exact Le.refl _ | assumption) ?_
  refine h_one 12 rfl (by kernel_rfl) ?_
  refine rn_ ?_; intros
  refine h_hs (allIn (by repeat (first | exact trivial | refine ⟨rfl, ?_⟩))) (by first | exact Le.refl _ | assumption) ?_
  refine h_end (by kernel_rfl) ?_
  refine go_pubLF rI 41 G (hle02.trans hle4) rfl (by omega) (ts := pre.map (·.1)) (by simp) (by omega) (rI_L.2 ⟨rfl, hp64⟩) ?_
  rintro G5 ad5 cap5 (hle5 : Le G4 G5) hse hS5
  rw [← hse] at hS5
  refine go_pubLF rF 42 G (hle02.trans (hle4.trans hle5)) rfl (by omega) (ts := pre.map (·.2)) (by simp) (by omega) (Rp.L_mono (diff_mono (Le.refl G) hle5) hxs) ?_
  rintro G6 ad6 cap6 (hle6 : Le G5 G6) hse6 hS6
  rw [← hse6] at hS6
  refine st_ ?_
  refine x_retD rfl hQ hmb rfl (by rw [hP]; kernel_rfl) (ks := [0, 1, 2]) (ow := cells3 b2 b3 b4 (.slice adf pre.length capf) (.slice adv pre.length capv) ((sumE b0 : Int) == (sumB l : Int))) rfl rfl (.inl (by intro k hk; omega)) (hP ▸ clo_idle b2 b3 b4 _ _ _ _) ?_
  rintro u' G' ow' hle7 ⟨hs, rfl⟩
  refine ⟨hs, _, res3 hty rfl rfl rfl rfl rfl rfl, _, _, _, _, _, _, _, rfl, fun hok => ?_, fun hok => ?_⟩
  · have he : sumE b0 = sumB l := by have := eq_of_beq hok; omega
    exact ⟨pre, by rw [hrd, if_pos he], Rp.S_mono (diff_mono (Le.refl G) hle7) hS6, Rp.S_mono (diff_mono (Le.refl G) (hle6.trans hle7)) hS5⟩
  · have he : sumE b0 ≠ sumB l := by have := ne_of_beq_false hok; omega
    rw [hrd, if_neg he]
end Go.Proofs.Ytpopbkiphdcilaa
namespace Go.Proofs.Ytpopbkiphdcilaa
set_option linter.unusedSimpArgs false
set_option linter.unusedVariables false
open Go.Sx
def decodeR (G : Hp) (b0 : List Int) (r : Value) (G' : Hp) : Prop :=
  ∃ (a1 : Option Addr) (n1 c1 : Nat) (a2 : Option Addr) (n2 c2 : Nat), r = .tuple #[.agg #[.slice a1 n1 c1], .slice a2 n2 c2, .int .i64 (decR b0).2] ∧
    rF.S (diff G' G) ((decR b0).1.map (·.2)) (.slice a1 n1 c1) ∧ rI.S (diff G' G) ((decR b0).1.map (·.1)) (.slice a2 n2 c2)
set_option maxHeartbeats 4000000
theorem idecode_ok (b0 : List Int) (sl : Value) (G : Hp) (hl : rBS G b0 sl) : Pure Try.prog 35 [sl] G (decodeR G b0) := by
  have hl0 := hl
  obtain ⟨_, ad, cap, rfl, _⟩ := hl
  refine enterX ty tyok Try.func35 rfl Try.ntmps35 [.v (.slice ad b0.length cap)] (by simp) ?_
  intro C hP hQ hnt hty hmb hmh hro; have hQp := qp_body hQ; refine st_ ?_
  refine rn_ ?_; intros
  refine x_split rfl rfl rfl (fun h1 => ?_) (fun h1 => ?_) <;> (refine st_ ?_; (refine ru_ ?_; intros))
  · have h1' : 1048576 < b0.length := by have := of_decide_eq_true h1; omega
    have e : decR b0 = ([], 3) := by rw [decR, if_pos h1']
    refine x_retc rfl hQ hmb rfl (by rw [hty]; simp only [so, sq, zy, zz, tyE, SO', SQ', opQ, opStore, opAlloc, ev, putS, dOk, cv, SV.cs, SV.one, SV.bool?, eqB, Value.oneCell', ldOwn, binInt, binConst, binBool, binStr, isC, TK.agg, rv, rv1, ldV, resOne, resV, Nat.reduceAdd, Nat.reduceMul, Nat.reduceSub, Nat.reduceLT, Nat.reduceLeDiff, Nat.reduceEqDiff, Nat.reduceBEq, reduceIte, reduceCtorEq, eq_self]; try rfl) rfl ?_; simp only [SV.den, resV, dens]
    exact ⟨none, 0, 0, none, 0, 0, by rw [e], by rw [e]; exact Rp.S_nil _ _, by rw [e]; exact Rp.S_nil _ _⟩
  have h1' : ¬ 1048576 < b0.length := by have := of_decide_eq_false h1; omega
  have hd : decR b0 = match rdS b0 with
    | none => ([], 80)
    | some r => if rgtP (r.map (·.2)) then (r, 0) else ([], 70) := by rw [decR, if_neg h1']; try rfl
  refine go_call (by rw [hnt]; rfl) (by rw [hP]; kernel_rfl) rfl (hP ▸ rdread_ok b0 _ G hl0) ?_
  rintro v G1 (hle1 : Le G G1) ⟨a1, n1, c1, a2, n2, c2, ok, rfl, hy, hn⟩
  refine st_ ?_
  refine rn_ ?_; intros
  refine x_split rfl rfl rfl (fun h2 => ?_) (fun h2 => ?_) <;> (refine st_ ?_; (refine ru_ ?_; intros))
  · have e : decR b0 = ([], 80) := by rw [hd, hn (by simpa using h2)]
    refine x_retc rfl hQ hmb rfl (by rw [hty]; simp only [so, sq, zy, zz, tyE, SO', SQ', opQ, opStore, opAlloc, ev, putS, dOk, cv, SV.cs, SV.one, SV.bool?, eqB, Value.oneCell', ldOwn, binInt, binConst, binBool, binStr, isC, TK.agg, rv, rv1, ldV, resOne, resV, Nat.reduceAdd, Nat.reduceMul, Nat.reduceSub, Nat.reduceLT, Nat.reduceLeDiff, Nat.reduceEqDiff, Nat.reduceBEq, reduceIte, reduceCtorEq, eq_self]; try rfl) rfl ?_; simp only [SV.den, resV, dens]
    exact ⟨none, 0, 0, none, 0, 0, by rw [e], by rw [e]; exact Rp.S_nil _ _, by rw [e]; exact Rp.S_nil _ _⟩
  obtain ⟨ps, hps, hF, hI⟩ := hy (by simpa using h2)
  rw [hps] at hd
  simp only at hd
  refine go_callf (by rw [hnt]; rfl) (by rw [hP]; kernel_rfl) rfl (hP ▸ checkp_ok _ _ G1 (Rp.S_mono (diff_le _ _) hF)) ?_; refine rn_ ?_; intros
  rcases Bool.eq_false_or_eq_true (rgtP (ps.map (·.2))) with hr | hr
  · rw [rgtP_yes hr]
    rw [if_pos hr] at hd
    (refine x_split rfl rfl rfl (fun hc => absurd hc (by first | decide +kernel | simp)) (fun _ => ?_); refine st_ ?_; (refine ru_ ?_; intros))
    refine rn_ ?_; intros
    refine x_retc rfl hQ hmb rfl (by rw [hty]; simp only [so, sq, zy, zz, tyE, SO', SQ', opQ, opStore, opAlloc, ev, putS, dOk, cv, SV.cs, SV.one, SV.bool?, eqB, Value.oneCell', ldOwn, binInt, binConst, binBool, binStr, isC, TK.agg, rv, rv1, ldV, resOne, resV, Nat.reduceAdd, Nat.reduceMul, Nat.reduceSub, Nat.reduceLT, Nat.reduceLeDiff, Nat.reduceEqDiff, Nat.reduceBEq, reduceIte, reduceCtorEq, eq_self]; try rfl) rfl ?_; simp only [SV.den, resV, dens]
    exact ⟨a1, n1, c1, a2, n2, c2, by rw [hd], by rw [hd]; exact hF, by rw [hd]; exact hI⟩
  · rw [rgtP_no hr]
    rw [hr] at hd
    have e : decR b0 = ([], 70) := hd
    (refine x_split rfl rfl rfl (fun _ => ?_) (fun hc => absurd hc (by first | decide +kernel | simp)); refine st_ ?_; (refine ru_ ?_; intros))
    refine rn_ ?_; intros
    refine x_retc rfl hQ hmb rfl (by rw [hty]; simp only [so, sq, zy, zz, tyE, SO', SQ', opQ, opStore, opAlloc, ev, putS, dOk, cv, SV.cs, SV.one, SV.bool?, eqB, Value.oneCell', ldOwn, binInt, binConst, binBool, binStr, isC, TK.agg, rv, rv1, ldV, resOne, resV, Nat.reduceAdd, Nat.reduceMul, Nat.reduceSub, Nat.reduceLT, Nat.reduceLeDiff, Nat.reduceEqDiff, Nat.reduceBEq, reduceIte, reduceCtorEq, eq_self]; try rfl) rfl ?_; simp only [SV.den, resV, dens]
    exact ⟨none, 0, 0, none, 0, 0, by rw [e], by rw [e]; exact Rp.S_nil _ _, by rw [e]; exact Rp.S_nil _ _⟩
theorem iDecodeF_ok (b0 : List Int) (sl : Value) (G : Hp) (hl : rBS G b0 sl) : Pure Try.prog 18 [sl] G (fun r G' => ∃ (a1 : Option Addr) (n1 c1 : Nat), r = .tuple #[.agg #[.slice a1 n1 c1], .int .i64 (decR b0).2] ∧ rF.S (diff G' G) ((decR b0).1.map (·.2)) (.slice a1 n1 c1)) := by
  have hl0 := hl
  obtain ⟨_, ad, cap, rfl, _⟩ := hl
  refine enterX ty tyok Try.func18 rfl Try.ntmps18 [.v (.slice ad b0.length cap)] (by simp) ?_
  intro C hP hQ hnt hty hmb hmh hro; have hQp := qp_body hQ; refine st_ ?_
  refine rn_ ?_; intros
  refine go_call (by rw [hnt]; rfl) (by rw [hP]; kernel_rfl) rfl (hP ▸ idecode_ok b0 _ G hl0) ?_
  rintro v G1 (hle1 : Le G G1) ⟨a1, n1, c1, a2, n2, c2, rfl, hF, hI⟩
  refine st_ ?_
  refine rn_ ?_; intros
  refine x_retc rfl hQ hmb rfl (by rw [hty]; simp only [so, sq, zy, zz, tyE, SO', SQ', opQ, opStore, opAlloc, ev, putS, dOk, cv, SV.cs, SV.one, SV.bool?, eqB, Value.oneCell', ldOwn, binInt, binConst, binBool, binStr, isC, TK.agg, rv, rv1, ldV, resOne, resV, Nat.reduceAdd, Nat.reduceMul, Nat.reduceSub, Nat.reduceLT, Nat.reduceLeDiff, Nat.reduceEqDiff, Nat.reduceBEq, reduceIte, reduceCtorEq, eq_self]; try rfl) rfl ?_; simp only [SV.den, resV, dens]
  exact ⟨a1, n1, c1, rfl, hF⟩
theorem iDecode_ok (b0 : List Int) (sl : Value) (G : Hp) (hl : rBS G b0 sl) : Pure Try.prog 18 [sl] G (fun r G' => ∃ (a1 : Option Addr) (n1 c1 : Nat), r = .tuple #[.agg #[.slice a1 n1 c1], .int .i64 (decR b0).2] ∧ rF.S G' ((decR b0).1.map (·.2)) (.slice a1 n1 c1)) :=
  (iDecodeF_ok b0 sl G hl).mono fun v G' _ ⟨a1, n1, c1, h1, h2⟩ => ⟨a1, n1, c1, h1, Rp.S_mono (diff_le _ _) h2⟩
theorem isize_ok (p : Pr) (ps : Value) (G : Hp) (hps : rF.S G p ps) : Pure Try.prog 12 [.agg #[ps]] G (fun r _ => r = .tuple #[.int .i64 (encR p).1.length, .int .i64 (encR p).2]) := by
  have hps0 := hps
  obtain ⟨adp, capp, rfl⟩ := Rp.S_slice hps
  refine enterX ty tyok Try.func12 rfl Try.ntmps12 [.a [.v (.slice adp p.length capp)]] (by simp) ?_
  intro C hP hQ hnt hty hmb hmh hro; have hQp := qp_body hQ; refine st_ ?_
  refine rn_ ?_; intros
  refine go_callr 41 (by rw [hnt]; rfl) (by rw [hP]; kernel_rfl) rfl rfl (by omega) (hP ▸ iencode_ok p _ G hps0) ?_
  rintro v G2 r e size n xs (hle2 : Le G G2) ⟨rfl, rfl, rfl, rfl, rfl⟩
  refine go_rowS 41 rfl ?_
  rintro ad2 cap2 rfl
  refine st_ ?_
  refine rn_ ?_; intros
  refine x_retc rfl hQ hmb rfl (by rw [hty]; simp only [so, sq, zy, zz, tyE, SO', SQ', opQ, opStore, opAlloc, ev, putS, dOk, cv, SV.cs, SV.one, SV.bool?, eqB, Value.oneCell', ldOwn, binInt, binConst, binBool, binStr, isC, TK.agg, rv, rv1, ldV, resOne, resV, Nat.reduceAdd, Nat.reduceMul, Nat.reduceSub, Nat.reduceLT, Nat.reduceLeDiff, Nat.reduceEqDiff, Nat.reduceBEq, reduceIte, reduceCtorEq, eq_self]; try rfl) rfl ?_; simp only [SV.den, resV, dens]
end Go.Proofs.Ytpopbkiphdcilaa
namespace Go.Proofs.Ytpopbkiphdcilaa
set_option linter.unusedSimpArgs false
set_option linter.unusedVariables false
open Go.Sx
set_option maxHeartbeats 8000000
set_option maxRecDepth 20000
theorem rencode_ok (p : Pr) (ps : Value) (G : Hp) (hps : rF.S G p ps) : Pure Try.prog 13 [.agg #[ps]] G (fun v G' => ∃ sl, v = .tuple #[sl, .int .i64 (encR p).2] ∧ rBS G' (encR p).1 sl ∧ (rgtP p = false → sl = .slice none 0 0)) := by
  have hps0 := hps
  have hp63 := Rp.S_len hps
  obtain ⟨adp, capp, rfl⟩ := Rp.S_slice hps
  refine enterX ty tyok Try.func13 rfl Try.ntmps13 [.a [.v (.slice adp p.length capp)]] (by simp) ?_
  intro C hP hQ hnt hty hmb hmh hro; have hQp := qp_body hQ; refine st_ ?_
  refine rn_ ?_; intros
  rename_i b1
  refine go_callf (by rw [hnt]; rfl) (by rw [hP]; kernel_rfl) rfl (hP ▸ rrightp_ok p _ G hps0) ?_; refine rn_ ?_; intros
  rcases Bool.eq_false_or_eq_true (rgtP p) with hr | hr
  · rw [hr]
    have hbd := enc_le hr
    have hl64 := (rgtP_len hr).2
    (refine x_split rfl rfl rfl (fun hc => absurd hc (by first | decide +kernel | simp)) (fun _ => ?_); refine st_ ?_; (refine ru_ ?_; intros))
    refine rn_ ?_; intros
    have hw : IntKind.u64.wrap (p.length : Int) = ((p.length : Nat) : Int) := by rw [w64]; omega
    rw [hw]
    rename_i b2
    refine go_litrow 1 (n := 3) (size := 1) rfl (by omega) rfl (by omega) ?_
    refine st_ ?_
    refine go_call (by rw [hnt]; rfl) (by rw [hP]; kernel_rfl) rfl (hP ▸ rnumber_ok p.length (by first | exact u64_lt _ | exact laid_lt (by assumption) | omega) _) ?_
    rintro v G1 (hle1 : Le G G1) hSn
    have hnl := num_len p.length
    obtain ⟨h63n, adm, capm, rfl, hsrc⟩ := hSn
    obtain ⟨csn, hcL, hsrc'⟩ := Rp.src (r := rB) (cap := capm) hsrc
    obtain ⟨rfl, hokn⟩ := rB_L.1 hcL
    refine st_ ?_
    refine rn_ ?_; intros
    refine go_append_any 1 (by rw [hnt]; rfl) (by rw [hty]; rfl) (by rw [hty]; rfl) (by decide) rfl rfl rfl (by omega) rfl (hsrc'.imp id fun h => h C _ rfl) (by simp [bZ]) (Rp.L_one hcL) (by omega) (by simp only []; omega) ?_
    intro v'
    refine go_rowS 1 rfl ?_
    rintro ad1 cap1 rfl
    refine st_ ?_
    refine rn_ ?_; intros
    obtain ⟨T, hT⟩ : ∃ T, T = encB p := ⟨_, rfl⟩
    have hTl : T.length ≤ 3000000 := by rw [hT]; exact hbd
    have e1 : Value.int IntKind.u8 66 :: Value.int IntKind.u8 84 :: Value.int IntKind.u8 1 :: bZ (num p.length) = bZ ([66, 84, 1] ++ num p.length) := by simp [bZ]
    have e2 : 3 + (num p.length).length = ([66, 84, 1] ++ num p.length).length := by simp; omega
    rw [e1, e2]
    clear e1 e2
    refine go_keep [1, 4, 5] [0, 1] ?_
    refine st_ ?_
    refine x_loop rfl (fun q st => ∃ (i : Nat) (cur : List Int) (ad : Option Addr) (cap : Nat) (G' : Hp), i ≤ p.length ∧ q = p.length - i ∧ Le G1 G' ∧ cur ++ (p.drop i).flatMap encF = T ∧
      st = ⟨[(1, .p 0 b1 0), (4, .v (.slice ad cur.length cap)), (5, .v (.int .i64 i))],
        [(0, b1, .c 24 [.v (.slice adp p.length capp)]), (1, b2, .row (.slice ad cur.length cap) 5 1 cur.length (bZ cur))], G', []⟩) ⟨0, [66, 84, 1] ++ num p.length, ad1, cap1, G1, by omega, rfl, Le.refl _, by rw [hT, encB]; simp, rfl⟩ ?_
    clear ad1 cap1 hnl h63n hsrc hcL hsrc'
    rintro q st ⟨i, cur, ad, cap, G3, hi, hq, hle3, hcur, rfl⟩ ih
    refine rn_ ?_; intros
    refine x_if rfl rfl rfl rfl (fun hil => ?_) (fun hil => ?_)
    · have hlt : i < p.length := by simp at hil; omega
      obtain ⟨bp, op, nsp, rfl, hatp, hpp, hnp⟩ := rF_at hps0 hlt
      have hnp63 := Rp.S_len hnp
      have hnp0 := hnp
      rw [fu_drop hlt, List.flatMap_cons, encF] at hcur
      obtain ⟨rest, hrest⟩ : ∃ rest, rest = (p.drop (i + 1)).flatMap encF := ⟨_, rfl⟩
      rw [← hrest] at hcur
      generalize fu p i = f at *
      obtain ⟨adn, capn, rfl⟩ := Rp.S_slice hnp
      have hcl := len_le hcur
      refine rn_ ?_; intros
      refine go_q (by rw [hnt]; rfl) (quiet_index (by rw [hty]; rfl) (by rw [hty]; rfl) rfl rfl rfl (by omega) (by omega)) ?_
      refine rn_ ?_; intros
      refine go_q (by rw [hnt]; rfl) (quiet_load (by rw [hty]; rfl) rfl (by simp [TK.agg]) (hatp.mono (hle1.trans hle3)) rfl) ?_
      refine rn_ ?_; intros
      rename_i b7
      refine go_keep [1, 4, 5, 6] [0, 1, 2] ?_
      refine st_ ?_
      have hw1 : IntKind.u64.wrap (f.nodes.length : Int) = ((f.nodes.length : Nat) : Int) := by rw [w64]; omega
      refine x_held [(2, b7, .c 59 [.v (.int .i64 f.params), .v (.slice adn f.nodes.length capn)])] rfl (by rw [hP]; kernel_rfl) rfl rfl rfl ?_; refine st_ ?_
      refine h_take 0 rfl (by kernel_rfl) (by kernel_rfl) (by kernel_rfl) hQp (by rw [hnt]; rfl) (allIn (by repeat (first | exact trivial | refine ⟨rfl, ?_⟩))) (by first | exact Le.refl _ | assumption) (quiet_op (by rw [hty]; first | rfl | (refine st_ ?_; rfl))) ?_; refine st_ ?_
      refine h_take 1 rfl (by kernel_rfl) (by kernel_rfl) (by kernel_rfl) hQp (by rw [hnt]; rfl) (allIn (by repeat (first | exact trivial | refine ⟨rfl, ?_⟩))) (by first | exact Le.refl _ | assumption) (quiet_op (by rw [hty]; first | rfl | (refine st_ ?_; rfl))) ?_; refine st_ ?_
      refine h_take 2 rfl (by kernel_rfl) (by kernel_rfl) (by kernel_rfl) hQp (by rw [hnt]; rfl) (allIn (by repeat (first | exact trivial | refine ⟨rfl, ?_⟩))) (by first | exact Le.refl _ | assumption) (quiet_op (by rw [hty]; first | rfl | (refine st_ ?_; rfl))) ?_; refine st_ ?_
      refine h_take 3 rfl (by kernel_rfl) (by kernel_rfl) (by kernel_rfl) hQp (by rw [hnt]; rfl) (allIn (by repeat (first | exact trivial | refine ⟨rfl, ?_⟩))) (by first | exact Le.refl _ | assumption) (quiet_op (by rw [hty]; first | rfl | (refine st_ ?_; rfl))) ?_; refine st_ ?_
      refine h_take 6 rfl (by kernel_rfl) (by kernel_rfl) (by kernel_rfl) hQp (by rw [hnt]; rfl) (allIn (by repeat (first | exact trivial | refine ⟨rfl, ?_⟩))) (by first | exact Le.refl _ | assumption) (quiet_op (by rw [hty]; first | rfl | (refine st_ ?_; rfl))) ?_; refine st_ ?_
      refine h_take 7 rfl (by kernel_rfl) (by kernel_rfl) (by kernel_rfl) hQp (by rw [hnt]; rfl) (allIn (by repeat (first | exact trivial | refine ⟨rfl, ?_⟩))) (by first | exact Le.refl _ | assumption) (quiet_op (by rw [hty]; first | rfl | (refine st_ ?_; rfl))) ?_; refine st_ ?_
      refine h_take 8 rfl (by kernel_rfl) (by kernel_rfl) (by kernel_rfl) hQp (by rw [hnt]; rfl) (allIn (by repeat (first | exact trivial | refine ⟨rfl, ?_⟩))) (by first | exact Le.refl _ | assumption) (quiet_op (by rw [hty]; first | rfl | (refine st_ ?_; rfl))) ?_; refine st_ ?_
      refine h_take 9 rfl (by kernel_rfl) (by kernel_rfl) (by kernel_rfl) hQp (by rw [hnt]; rfl) (allIn (by repeat (first | exact trivial | refine ⟨rfl, ?_⟩))) (by first | exact Le.refl _ | assumption) (quiet_op (by rw [hty]; first | rfl | (refine st_ ?_; rfl))) ?_; refine st_ ?_
      rw [u64_conv f.params, hw1]
      refine h_one 4 rfl (by kernel_rfl) ?_
      refine go_call (by rw [hnt]; rfl) (by rw [hP]; kernel_rfl) rfl (hP ▸ rnumber_ok (u64 f.params) (by first | exact u64_lt _ | exact laid_lt (by assumption) | omega) _) ?_
      rintro v G4 (hle4 : Le G3 G4) hSn
      have hnl := num_len (u64 f.params)
      obtain ⟨h63n, adm, capm, rfl, hsrc⟩ := hSn
      obtain ⟨csn, hcL, hsrc'⟩ := Rp.src (r := rB) (cap := capm) hsrc
      obtain ⟨rfl, hokn⟩ := rB_L.1 hcL
      refine st_ ?_
      refine rn_ ?_; intros
      refine h_hs (allIn (by repeat (first | exact trivial | refine ⟨rfl, ?_⟩))) (by first | exact Le.refl _ | assumption) ?_
      refine h_one 5 rfl (by kernel_rfl) ?_
      refine go_append_any 1 (by rw [hnt]; rfl) (by rw [hty]; rfl) (by rw [hty]; rfl) (by decide) rfl rfl rfl (by omega) rfl (hsrc'.imp id fun h => h C _ rfl) (by simp [bZ]) (Rp.L_one hcL) (by omega) (by simp only []; omega) ?_
      intro v'
      refine go_rowS 1 rfl ?_
      rintro ad4 cap4 rfl
      refine st_ ?_
      refine rn_ ?_; intros
      refine h_hs (allIn (by repeat (first | exact trivial | refine ⟨rfl, ?_⟩))) (by first | exact Le.refl _ | assumption) ?_
      rw [← bZ_app, ← List.length_append]
      have hcur1 : (cur ++ num (u64 f.params)) ++ ((num f.nodes.length ++ f.nodes.flatMap encN) ++ rest) = T := by rw [← hcur]; simp
      have hcl1 := len_le hcur1
      generalize hc1 : cur ++ num (u64 f.params) = cur1 at *
      refine h_one 10 rfl (by kernel_rfl) ?_
      refine go_call (by rw [hnt]; rfl) (by rw [hP]; kernel_rfl) rfl (hP ▸ rnumber_ok f.nodes.length (by first | exact u64_lt _ | exact laid_lt (by assumption) | omega) _) ?_
      rintro v G5 (hle5 : Le G4 G5) hSn
      have hnl := num_len f.nodes.length
      obtain ⟨h63n, adm, capm, rfl, hsrc⟩ := hSn
      obtain ⟨csn, hcL, hsrc'⟩ := Rp.src (r := rB) (cap := capm) hsrc
      obtain ⟨rfl, hokn⟩ := rB_L.1 hcL
      refine st_ ?_
      have hle35 : Le G3 G5 := hle4.trans hle5
      refine rn_ ?_; intros
      refine h_hs (allIn (by repeat (first | exact trivial | refine ⟨rfl, ?_⟩))) (by first | exact Le.refl _ | assumption) ?_
      refine h_one 11 rfl (by kernel_rfl) ?_
      refine go_append_any 1 (by rw [hnt]; rfl) (by rw [hty]; rfl) (by rw [hty]; rfl) (by decide) rfl rfl rfl (by omega) rfl (hsrc'.imp id fun h => h C _ rfl) (by simp [bZ]) (Rp.L_one hcL) (by omega) (by simp only []; omega) ?_
      intro v'
      refine go_rowS 1 rfl ?_
      rintro ad5 cap5 rfl
      refine st_ ?_
      refine rn_ ?_; intros
      refine h_hs (allIn (by repeat (first | exact trivial | refine ⟨rfl, ?_⟩))) (by first | exact Le.refl _ | assumption) ?_
      rw [← bZ_app, ← List.length_append]
      have hcur2 : (cur1 ++ num f.nodes.length) ++ (f.nodes.flatMap encN ++ rest) = T := by rw [← hcur1]; simp
      have hcl2 := len_le hcur2
      generalize hc2 : cur1 ++ num f.nodes.length = cur2 at *
      refine h_take 12 rfl (by kernel_rfl) (by kernel_rfl) (by kernel_rfl) hQp (by rw [hnt]; rfl) (allIn (by repeat (first | exact trivial | refine ⟨rfl, ?_⟩))) (by first | exact Le.refl _ | assumption) (quiet_op (by rw [hty]; first | rfl | (refine st_ ?_; rfl))) ?_; refine st_ ?_
      refine h_end (by kernel_rfl) ?_
      refine rn_ ?_; intros
      refine go_keep [1, 4, 5, 6, 7] [0, 1, 2] ?_
      refine st_ ?_
      have hle05 : Le G G5 := hle1.trans (hle3.trans hle35)
      refine x_loop rfl (fun q st => ∃ (k : Nat) (cur : List Int) (ad : Option Addr) (cap : Nat) (G' : Hp), k ≤ f.nodes.length ∧ q = f.nodes.length - k ∧ Le G5 G' ∧ cur ++ ((f.nodes.drop k).flatMap encN ++ rest) = T ∧
        st = ⟨[(1, .p 0 b1 0), (4, .v (.slice ad cur.length cap)), (5, .v (.int .i64 i)), (6, .p 2 b7 0), (7, .v (.int .i64 k))],
          [(0, b1, .c 24 [.v (.slice (some ⟨bp, op, none⟩) p.length capp)]), (1, b2, .row (.slice ad cur.length cap) 5 1 cur.length (bZ cur)), (2, b7, .c 59 [.v (.int .i64 f.params), .v (.slice adn f.nodes.length capn)])], G', []⟩) ⟨0, cur2, ad5, cap5, G5, by omega, rfl, Le.refl _, by simpa using hcur2, rfl⟩ ?_
      clear hcur hcur1 hcur2 hcl hcl1 hcl2 hc1 hc2 cur1 cur2 ad4 cap4 ad5 cap5 hnl h63n hsrc hcL hsrc' hokn
      rintro q2 st ⟨k, cur, ad, cap, G6, hk, hq2, hle6, hcur, rfl⟩ ihk
      have hcl := len_le hcur
      refine rn_ ?_; intros
      refine x_if rfl rfl rfl rfl (fun hkl => ?_) (fun hkl => ?_)
      · have hkt : k < f.nodes.length := by simp at hkl; omega
        obtain ⟨bn, offn, capn', cn, hse, hatn, sl, rfl, hop, hnn, hsl⟩ := Rp.S_get hnp0 hkt
        cases hse
        rw [List.drop_eq_getElem_cons hkt, List.flatMap_cons, encN] at hcur
        obtain ⟨rest2, hrest2⟩ : ∃ rest2, rest2 = (f.nodes.drop (k + 1)).flatMap encN ++ rest := ⟨_, rfl⟩
        generalize hx : f.nodes[k] = x at *
        have hcur0 : cur ++ ((x.op % 256) :: ((if ownB x.op then num (laid x) else []) ++ ((if manyB x.op then num x.l.length else []) ++ (x.l.flatMap (fun c => num (u64 c)) ++ rest2)))) = T := by rw [← hcur, hrest2]; simp
        clear hcur
        have hsl0 := hsl
        have hl63 := Rp.S_len hsl
        obtain ⟨adl, capl, rfl⟩ := Rp.S_slice hsl
        refine rn_ ?_; intros
        refine go_q (by rw [hnt]; rfl) (quiet_index (by rw [hty]; rfl) (by rw [hty]; rfl) rfl rfl rfl (by omega) (by omega)) ?_
        refine rn_ ?_; intros
        refine go_q (v := .agg #[.int .i64 x.op, .int .i64 x.n, .slice adl x.l.length capl]) (by rw [hnt]; rfl) ((quiet_load (by rw [hty]; rfl) rfl (by simp [TK.agg]) (hatn.mono (hle05.trans hle6)) rfl).cast (by rfl)) ?_
        refine rn_ ?_; intros
        rename_i b9 b10
        rw [w8]
        refine go_append 1 (by rw [hnt]; rfl) (by rw [hty]; rfl) (by rw [hty]; rfl) (by decide) rfl rfl rfl (by omega) rfl (src_own 1 rfl rfl) rfl (by simp [dens, SV.den, Value.oneCell']) (by omega) (by simp only []; omega) ?_
        intro v'
        refine go_rowS 1 rfl ?_
        rintro ad7 cap7 rfl
        refine rn_ ?_; intros
        refine go_callf (by rw [hnt]; rfl) (by rw [hP]; kernel_rfl) rfl (hP ▸ rown_ok x.op _) ?_; refine rn_ ?_; intros
        refine go_keep [1, 4, 5, 6, 7, 8, 9, 65] [0, 1, 2, 3] ?_
        refine st_ ?_
        have hcur1 : (cur ++ [x.op % 256]) ++ ((if ownB x.op then num (laid x) else []) ++ ((if manyB x.op then num x.l.length else []) ++ (x.l.flatMap (fun c => num (u64 c)) ++ rest2))) = T := by rw [← hcur0]; simp
        have hcl1 := len_le hcur1
        have e1 : bZ cur ++ dens [SV.v (Value.int IntKind.u8 (x.op % 256))] = bZ (cur ++ [x.op % 256]) := by simp [bZ, dens, SV.den]
        have e1' : bZ cur ++ [Value.int IntKind.u8 (x.op % 256)] = bZ (cur ++ [x.op % 256]) := by simp [bZ]
        have e2 : cur.length + 1 = (cur ++ [x.op % 256]).length := by simp
        first | rw [e1] | rw [e1']
        rw [e2]
        clear e1 e1' e2
        generalize hc7 : cur ++ [x.op % 256] = cur7 at *
        have hle06 : Le G G6 := hle05.trans hle6
        refine cut_tail 1 (fun s' => ∃ (cur : List Int) (ad : Option Addr) (cap : Nat) (G' : Hp), Le G6 G' ∧ cur ++ ((if manyB x.op then num x.l.length else []) ++ (x.l.flatMap (fun c => num (u64 c)) ++ rest2)) = T ∧
          s' = ⟨[(1, .p 0 b1 0), (4, .v (.slice ad cur.length cap)), (5, .v (.int .i64 i)), (6, .p 2 b7 0), (7, .v (.int .i64 k)), (8, .p 3 b9 0), (9, .v (.int .i64 x.op))],
            [(0, b1, .c 24 [.v (.slice (some ⟨bp, op, none⟩) p.length capp)]), (1, b2, .row (.slice ad cur.length cap) 5 1 cur.length (bZ cur)), (2, b7, .c 59 [.v (.int .i64 f.params), .v (.slice (some ⟨bn, offn, none⟩) f.nodes.length capn)]), (3, b9, .c 62 [.v (.int .i64 x.op), .v (.int .i64 x.n), .v (.slice adl x.l.length capl)])], G', []⟩) ?_ (fun key => ?_)
        rotate_left
        · refine x_if rfl rfl rfl rfl (fun ho => ?_) (fun ho => ?_)
          · refine rn_ ?_; intros
            refine go_callf (by rw [hnt]; rfl) (by rw [hP]; kernel_rfl) rfl (hP ▸ rlaid_ok x _ _ hnn (by rfl)) ?_; refine rn_ ?_; intros
            rw [ho, if_pos rfl] at hcur1
            refine go_call (by rw [hnt]; rfl) (by rw [hP]; kernel_rfl) rfl (hP ▸ rnumber_ok (laid x) (by first | exact u64_lt _ | exact laid_lt (by assumption) | omega) _) ?_
            rintro v G7 (hle7 : Le G6 G7) hSn
            have hnl := num_len (laid x)
            obtain ⟨h63n, adm, capm, rfl, hsrc⟩ := hSn
            obtain ⟨csn, hcL, hsrc'⟩ := Rp.src (r := rB) (cap := capm) hsrc
            obtain ⟨rfl, hokn⟩ := rB_L.1 hcL
            refine st_ ?_
            refine rn_ ?_; intros
            refine go_append_any 1 (by rw [hnt]; rfl) (by rw [hty]; rfl) (by rw [hty]; rfl) (by decide) rfl rfl rfl (by omega) rfl (hsrc'.imp id fun h => h C _ rfl) (by simp [bZ]) (Rp.L_one hcL) (by omega) (by simp only []; omega) ?_
            intro v'
            refine go_rowS 1 rfl ?_
            rintro ad8 cap8 rfl
            refine st_ ?_
            refine runo0 400 hty hnt hmh ?_; refine st_ ?_
            refine go_ops ?_
            rw [← bZ_app, ← List.length_append]
            refine go_keep [1, 4, 5, 6, 7, 8, 9] [0, 1, 2, 3] ?_
            refine st_ ?_
            exact key _ ⟨cur7 ++ num (laid x), ad8, cap8, G7, hle7, by rw [← hcur1]; simp, rfl⟩
          · rw [ho] at hcur1
            refine x_skip rfl ?_
            refine go_keep [1, 4, 5, 6, 7, 8, 9] [0, 1, 2, 3] ?_
            refine st_ ?_
            exact key _ ⟨cur7, ad7, cap7, G6, Le.refl _, by simpa using hcur1, rfl⟩
        clear hcur1 hcl1 hcur0 ad7 cap7 hcl hc7 cur7 cur ad cap
        rintro st ⟨cur, ad, cap, G7, hle7, hcur, rfl⟩
        simp only [List.drop_succ_cons, List.drop_zero]
        have hcl := len_le hcur
        refine rn_ ?_; intros
        refine go_callf (by rw [hnt]; rfl) (by rw [hP]; kernel_rfl) rfl (hP ▸ rbeneath_ok x.op _) ?_; refine rn_ ?_; intros
        have hmb' : decide ((if manyB x.op = true then (-1 : Int) else if okOp x.op = true then (kidN x.op : Int) else 2) < 0) = manyB x.op := by
          cases hq : manyB x.op with
          | true => simp
          | false => by_cases ho : okOp x.op = true <;> simp [ho]
        rw [hmb']
        refine cut_tail 1 (fun s' => ∃ (cur : List Int) (ad : Option Addr) (cap : Nat) (G' : Hp), Le G7 G' ∧ cur ++ (x.l.flatMap (fun c => num (u64 c)) ++ rest2) = T ∧
          s' = ⟨[(1, .p 0 b1 0), (4, .v (.slice ad cur.length cap)), (5, .v (.int .i64 i)), (6, .p 2 b7 0), (7, .v (.int .i64 k)), (8, .p 3 b9 0), (9, .v (.int .i64 x.op))],
            [(0, b1, .c 24 [.v (.slice (some ⟨bp, op, none⟩) p.length capp)]), (1, b2, .row (.slice ad cur.length cap) 5 1 cur.length (bZ cur)), (2, b7, .c 59 [.v (.int .i64 f.params), .v (.slice (some ⟨bn, offn, none⟩) f.nodes.length capn)]), (3, b9, .c 62 [.v (.int .i64 x.op), .v (.int .i64 x.n), .v (.slice adl x.l.length capl)])], G', []⟩) ?_ (fun key => ?_)
        rotate_left
        · refine x_if rfl rfl rfl rfl (fun ho => ?_) (fun ho => ?_)
          · refine rn_ ?_; intros
            rw [ho, if_pos rfl] at hcur
            have hw1 : IntKind.u64.wrap (x.l.length : Int) = ((x.l.length : Nat) : Int) := by rw [w64]; omega
            rw [hw1]
            refine go_call (by rw [hnt]; rfl) (by rw [hP]; kernel_rfl) rfl (hP ▸ rnumber_ok x.l.length (by first | exact u64_lt _ | exact laid_lt (by assumption) | omega) _) ?_
            rintro v G8 (hle8 : Le G7 G8) hSn
            have hnl := num_len x.l.length
            obtain ⟨h63n, adm, capm, rfl, hsrc⟩ := hSn
            obtain ⟨csn, hcL, hsrc'⟩ := Rp.src (r := rB) (cap := capm) hsrc
            obtain ⟨rfl, hokn⟩ := rB_L.1 hcL
            refine st_ ?_
            refine rn_ ?_; intros
            refine go_append_any 1 (by rw [hnt]; rfl) (by rw [hty]; rfl) (by rw [hty]; rfl) (by decide) rfl rfl rfl (by omega) rfl (hsrc'.imp id fun h => h C _ rfl) (by simp [bZ]) (Rp.L_one hcL) (by omega) (by simp only []; omega) ?_
            intro v'
            refine go_rowS 1 rfl ?_
            rintro ad8 cap8 rfl
            refine st_ ?_
            refine runo0 400 hty hnt hmh ?_; refine st_ ?_
            refine go_ops ?_
            rw [← bZ_app, ← List.length_append]
            refine go_keep [1, 4, 5, 6, 7, 8, 9] [0, 1, 2, 3] ?_
            refine st_ ?_
            exact key _ ⟨cur ++ num x.l.length, ad8, cap8, G8, hle8, by rw [← hcur]; simp, rfl⟩
          · rw [ho] at hcur
            refine x_skip rfl ?_
            refine go_keep [1, 4, 5, 6, 7, 8, 9] [0, 1, 2, 3] ?_
            refine st_ ?_
            exact key _ ⟨_, ad, cap, G7, Le.refl _, by simpa using hcur, rfl⟩
        clear hcur hcl cur ad cap
        rintro st ⟨cur, ad, cap, G8, hle8, hcur, rfl⟩
        simp only [List.drop_succ_cons, List.drop_zero]
        have hle08 : Le G G8 := hle06.trans (hle7.trans hle8)
        have hcl := len_le hcur
        refine rn_ ?_; intros
        refine go_keep [1, 4, 5, 6, 7, 8, 9, 10] [0, 1, 2, 3] ?_
        refine st_ ?_
        refine x_loop rfl (fun q st => ∃ (m : Nat) (cur : List Int) (ad : Option Addr) (cap : Nat) (G' : Hp), m ≤ x.l.length ∧ q = x.l.length - m ∧ Le G8 G' ∧ cur ++ ((x.l.drop m).flatMap (fun c => num (u64 c)) ++ rest2) = T ∧
          st = ⟨[(1, .p 0 b1 0), (4, .v (.slice ad cur.length cap)), (5, .v (.int .i64 i)), (6, .p 2 b7 0), (7, .v (.int .i64 k)), (8, .p 3 b9 0), (9, .v (.int .i64 x.op)), (10, .v (.int .i64 m))],
            [(0, b1, .c 24 [.v (.slice (some ⟨bp, op, none⟩) p.length capp)]), (1, b2, .row (.slice ad cur.length cap) 5 1 cur.length (bZ cur)), (2, b7, .c 59 [.v (.int .i64 f.params), .v (.slice (some ⟨bn, offn, none⟩) f.nodes.length capn)]), (3, b9, .c 62 [.v (.int .i64 x.op), .v (.int .i64 x.n), .v (.slice adl x.l.length capl)])], G', []⟩) ⟨0, cur, ad, cap, G8, by omega, rfl, Le.refl _, by simpa using hcur, rfl⟩ ?_
        clear hcur hcl cur ad cap
        rintro q3 st ⟨m, cur, ad, cap, G9, hm, hq3, hle9, hcur, rfl⟩ ihm
        have hcl := len_le hcur
        refine rn_ ?_; intros
        refine x_if rfl rfl rfl rfl (fun hml => ?_) (fun hml => ?_)
        · have hmt : m < x.l.length := by simp at hml; omega
          rw [List.drop_eq_getElem_cons hmt, List.flatMap_cons] at hcur
          have hle09 : Le G G9 := hle08.trans hle9
          obtain ⟨bl, ol, rfl, hatl⟩ := rI_at hsl0 hmt
          refine rn_ ?_; intros
          refine go_q (by rw [hnt]; rfl) (quiet_index (by rw [hty]; rfl) (by rw [hty]; rfl) rfl rfl rfl (by omega) (by omega)) ?_
          refine rn_ ?_; intros
          refine go_q (by rw [hnt]; rfl) (quiet_load (vs := [.int .i64 x.l[m]]) (by rw [hty]; rfl) rfl (by simp [TK.agg]) (by simpa using hatl.mono hle09) rfl) ?_
          refine rn_ ?_; intros
          rw [u64_conv x.l[m]]
          have hcur' : cur ++ (num (u64 x.l[m]) ++ ((x.l.drop (m + 1)).flatMap (fun c => num (u64 c)) ++ rest2)) = T := by rw [← hcur]; simp
          refine go_call (by rw [hnt]; rfl) (by rw [hP]; kernel_rfl) rfl (hP ▸ rnumber_ok (u64 x.l[m]) (by first | exact u64_lt _ | exact laid_lt (by assumption) | omega) _) ?_
          rintro v G10 (hle10 : Le G9 G10) hSn
          have hnl := num_len (u64 x.l[m])
          obtain ⟨h63n, adm, capm, rfl, hsrc⟩ := hSn
          obtain ⟨csn, hcL, hsrc'⟩ := Rp.src (r := rB) (cap := capm) hsrc
          obtain ⟨rfl, hokn⟩ := rB_L.1 hcL
          refine st_ ?_
          refine rn_ ?_; intros
          refine go_append_any 1 (by rw [hnt]; rfl) (by rw [hty]; rfl) (by rw [hty]; rfl) (by decide) rfl rfl rfl (by omega) rfl (hsrc'.imp id fun h => h C _ rfl) (by simp [bZ]) (Rp.L_one hcL) (by omega) (by simp only []; omega) ?_
          intro v'
          refine go_rowS 1 rfl ?_
          rintro ad8 cap8 rfl
          refine st_ ?_
          refine rn_ ?_; intros
          rw [← bZ_app, ← List.length_append]
          rw [wr (n := (m : Int) + 1) (by omega) (by omega)]
          refine go_keep [1, 4, 5, 6, 7, 8, 9, 10] [0, 1, 2, 3] ?_
          refine st_ ?_
          exact ihm (x.l.length - (m + 1)) _ (by omega) ⟨m + 1, cur ++ num (u64 x.l[m]), ad8, cap8, G10, by omega, rfl, hle9.trans hle10, by rw [← hcur']; simp, rfl⟩
        · have hge : m = x.l.length := by simp at hml; omega
          subst hge
          rw [List.drop_length] at hcur
          refine rn_ ?_; intros
          rw [wr (n := (k : Int) + 1) (by omega) (by omega)]
          refine go_keep [1, 4, 5, 6, 7] [0, 1, 2] ?_
          refine st_ ?_
          exact ihk (f.nodes.length - (k + 1)) _ (by omega) ⟨k + 1, cur, ad, cap, G9, by omega, rfl, hle6.trans (hle7.trans (hle8.trans hle9)), by rw [← hcur, hrest2]; simp, rfl⟩
      · have hge : k = f.nodes.length := by simp at hkl; omega
        subst hge
        rw [List.drop_length] at hcur
        refine rn_ ?_; intros
        rw [wr (n := (i : Int) + 1) (by omega) (by omega)]
        refine go_keep [1, 4, 5] [0, 1] ?_
        refine st_ ?_
        exact ih (p.length - (i + 1)) _ (by omega) ⟨i + 1, cur, ad, cap, G6, by omega, rfl, hle3.trans (hle35.trans hle6), by rw [← hcur, hrest]; simp, rfl⟩
    · have hge : i = p.length := by simp at hil; omega
      subst hge
      rw [List.drop_length] at hcur
      simp only [List.flatMap_nil, List.append_nil] at hcur
      subst hcur
      refine rn_ ?_; intros
      have hok : okB cur := hT ▸ encB_ok p
      refine go_pubL rB 1 rfl (by omega) (ts := cur) rfl (by omega) (rB_L.2 ⟨rfl, hok⟩) ?_
      rintro G5 ad5 cap5 (hle5 : Le G3 G5) hse hS5
      injection hse with e1 _ e3
      subst e1 e3
      refine go_call (by rw [hnt]; rfl) (by rw [hP]; kernel_rfl) rfl (hP ▸ sealed_ok cur _ G5 hS5 (by omega)) ?_
      rintro v G6 (hle6 : Le G5 G6) hS6
      obtain ⟨ad6, cap6, hv, hc6⟩ := hS6.2
      rw [hv]
      refine st_ ?_
      refine rn_ ?_; intros
      refine x_retc rfl hQ hmb rfl (by rw [hty]; simp only [so, sq, zy, zz, tyE, SO', SQ', opQ, opStore, opAlloc, ev, putS, dOk, cv, SV.cs, SV.one, SV.bool?, eqB, Value.oneCell', ldOwn, binInt, binConst, binBool, binStr, isC, TK.agg, rv, rv1, ldV, resOne, resV, Nat.reduceAdd, Nat.reduceMul, Nat.reduceSub, Nat.reduceLT, Nat.reduceLeDiff, Nat.reduceEqDiff, Nat.reduceBEq, reduceIte, reduceCtorEq, eq_self]; try rfl) rfl ?_; simp only [SV.den, resV, dens]
      refine ⟨_, by simp only [encR, hr, if_true]; rfl, ?_⟩
      simp only [encR, hr, if_true]
      rw [← hT, ← hv]
      exact ⟨hS6, fun h => by first | (rw [hr] at h; cases h) | cases h⟩
  · rw [hr]
    (refine x_split rfl rfl rfl (fun _ => ?_) (fun hc => absurd hc (by first | decide +kernel | simp)); refine st_ ?_; (refine ru_ ?_; intros))
    refine rn_ ?_; intros
    refine x_retc rfl hQ hmb rfl (by rw [hty]; simp only [so, sq, zy, zz, tyE, SO', SQ', opQ, opStore, opAlloc, ev, putS, dOk, cv, SV.cs, SV.one, SV.bool?, eqB, Value.oneCell', ldOwn, binInt, binConst, binBool, binStr, isC, TK.agg, rv, rv1, ldV, resOne, resV, Nat.reduceAdd, Nat.reduceMul, Nat.reduceSub, Nat.reduceLT, Nat.reduceLeDiff, Nat.reduceEqDiff, Nat.reduceBEq, reduceIte, reduceCtorEq, eq_self]; try rfl) rfl ?_; simp only [SV.den, resV, dens]
    exact ⟨.slice none 0 0, by simp [encR, hr], ⟨by simpa [encR, hr] using Rp.S_nil none 0, none, 0, by simp [encR, hr], by simp [encR, hr]⟩, fun _ => rfl⟩
end Go.Proofs.Ytpopbkiphdcilaa
namespace Go.Proofs.Ytpopbkiphdcilaa
set_option linter.unusedSimpArgs false
set_option linter.unusedVariables false
open Go.Sx
set_option maxHeartbeats 4000000
theorem inum_ok (n : Int) (G : Hp) : Pure Try.prog 14 [.int .i64 n] G (fun r _ => r = .int .i64 n) := by
  refine enterX ty tyok Try.func14 rfl Try.ntmps14 [.v (.int .i64 n)] (by simp) ?_
  intro C hP hQ hnt hty hmb hmh hro; have hQp := qp_body hQ; refine st_ ?_
  refine rn_ ?_; intros
  refine x_retc rfl hQ hmb rfl (by rw [hty]; simp only [so, sq, zy, zz, tyE, SO', SQ', opQ, opStore, opAlloc, ev, putS, dOk, cv, SV.cs, SV.one, SV.bool?, eqB, Value.oneCell', ldOwn, binInt, binConst, binBool, binStr, isC, TK.agg, rv, rv1, ldV, resOne, resV, Nat.reduceAdd, Nat.reduceMul, Nat.reduceSub, Nat.reduceLT, Nat.reduceLeDiff, Nat.reduceEqDiff, Nat.reduceBEq, reduceIte, reduceCtorEq, eq_self]; try rfl) rfl ?_; simp only [SV.den, resV, dens]
def p8 : Pr := [⟨0, [⟨1, -3, []⟩]⟩]
def W8 : List Int := [66, 84, 1, 1, 0, 1, 1, 5, 88, 54, 43, 88]
def W9 : List Int := [66, 84, 1, 1, 0, 1, 1, 5, 88, 54, 43, 89]
theorem enc8 : encR p8 = (W8, 0) := by kernel_rfl
theorem rB_src {G : Hp} {l : List Int} {ad : Option Addr} {n cap : Nat} (h : rB.S G l (.slice ad n cap)) (h0 : l ≠ []) : ∃ b off, ad = some ⟨b, off, none⟩ ∧ At G b off (bZ l) := by
  obtain ⟨_, ad', cap', hse, h | ⟨b, off, cs, hb, hat, hL⟩⟩ := h
  · exact absurd h h0
  · cases hse
    obtain ⟨rfl, _⟩ := rB_L.1 hL
    exact ⟨b, off, hb, hat⟩
theorem works_ok (G : Hp) : Pure Try.prog 10 [] G (fun r _ => r = .bool true) := by
  refine enterX ty tyok Try.func10 rfl Try.ntmps10 [] (by simp) ?_
  intro C hP hQ hnt hty hmb hmh hro; have hQp := qp_body hQ; refine st_ ?_
  refine rn_ ?_; intros
  rename_i m1 m2 m3
  refine go_see 1 [.v (.int .i64 0), .v (.slice (some ⟨m1, 0, none⟩) 1 1)] rfl (by simp [dens, SV.den]) ?_
  refine go_see 2 [.v (.slice (some ⟨m2, 0, none⟩) 1 1)] rfl (by rw [dens_eq, dens_eq]; rfl) ?_
  refine go_slot 19 (.a [.v (.slice (some ⟨m2, 0, none⟩) 1 1)]) rfl (by simp [SV.den, dens]) ?_
  refine st_ ?_
  refine go_keep [0, 1, 19] [0, 1, 2] ?_
  refine st_ ?_
  refine go_pub 0 rfl (by omega) ?_
  rintro G1 (hle1 : Le G G1) hG1
  refine st_ ?_
  refine go_pub 1 rfl (by omega) ?_
  rintro G2 (hle2 : Le G1 G2) hG2
  refine st_ ?_
  have hN : rN.S G2 [⟨1, -3, []⟩] (.slice (some ⟨m1, 0, none⟩) 1 1) := Rp.S_mono hle2 ⟨by simp, _, _, rfl, .inr ⟨m1, 0, _, rfl, at_cells hG1, ⟨[_, _, _], [], rfl, ⟨_, rfl, (by simp [isI64]), (by simp [isI64]), Rp.S_nil none 0⟩, rfl⟩⟩⟩
  have hPS : rF.S G2 p8 (.slice (some ⟨m2, 0, none⟩) 1 1) := ⟨by simp [p8], _, _, rfl, .inr ⟨m2, 0, _, rfl, at_cells hG2, ⟨[_, _], [], rfl, ⟨_, rfl, (by simp [isI64]), hN⟩, rfl⟩⟩⟩
  have hEn := iencode_ok p8 _ G2 hPS
  rw [enc8] at hEn
  refine go_callr 41 (by rw [hnt]; rfl) (by rw [hP]; kernel_rfl) rfl rfl (by omega) (hP ▸ hEn) ?_
  rintro v G3 r e size n xs (hle3 : Le G2 G3) ⟨rfl, rfl, rfl, rfl, rfl⟩
  refine go_rowcases 41 rfl (fun _ h0 _ => by simp [W8] at h0) ?_
  intro g2 cap2 hse2 hcap2 _
  subst hse2
  refine st_ ?_
  refine rn_ ?_; intros
  have hSz := isize_ok p8 _ G3 (Rp.S_mono hle3 hPS)
  rw [enc8] at hSz
  refine go_callf (by rw [hnt]; rfl) (by rw [hP]; kernel_rfl) rfl (hP ▸ hSz) ?_; refine rn_ ?_; intros
  rename_i m4
  refine go_slot 28 (.v (.slice (some ⟨m4, 0, none⟩) 12 12)) rfl (by simp [SV.den]) ?_
  refine st_ ?_
  refine go_pub 42 rfl (by omega) ?_
  rintro G4 (hle4 : Le G3 G4) hG4
  refine st_ ?_
  have hB4 : rBS G4 [66, 84, 1, 1, 0, 1, 1, 5, 0, 0, 0, 0] (.slice (some ⟨m4, 0, none⟩) 12 12) := ⟨⟨by simp, _, _, rfl, .inr ⟨m4, 0, _, rfl, at_cells hG4, rB_L.2 ⟨rfl, by intro x hx; simp at hx; omega⟩⟩⟩, _, _, rfl, by simp⟩
  have hSe := Sealed_ok _ _ G4 hB4 (by simp)
  rw [if_neg (by simp), show sealB (List.take (([66, 84, 1, 1, 0, 1, 1, 5, 0, 0, 0, 0] : List Int).length - 4) [66, 84, 1, 1, 0, 1, 1, 5, 0, 0, 0, 0]) = W8 by kernel_rfl] at hSe
  refine go_call (by rw [hnt]; rfl) (by rw [hP]; kernel_rfl) rfl (hP ▸ hSe) ?_
  rintro v G5 (hle5 : Le G4 G5) ⟨hS5, ad5, cap5, rfl, _⟩
  obtain ⟨b5, off5, rfl, hat5⟩ := rB_src hS5 (by simp [W8])
  refine st_ ?_
  refine rn_ ?_; intros
  refine go_callf (by rw [hnt]; rfl) (by rw [hP]; kernel_rfl) rfl (hP ▸ inum_ok 0 _) ?_; refine rn_ ?_; intros
  refine go_callf (by rw [hnt]; rfl) (by rw [hP]; kernel_rfl) rfl (hP ▸ inum_ok 0 _) ?_; refine rn_ ?_; intros
  repeat ((refine go_gsplit rfl rfl (fun hc => absurd hc (by first | decide +kernel | simp)) (fun _ => ?_); refine st_ ?_; (refine rn_ ?_; intros)))
  refine go_q (v := .string (strOfNums W8)) (by rw [hnt]; rfl) (quiet_strG (by rw [hty]; rfl) (by rw [hty]; rfl) (by rw [hty]; rfl) rfl rfl rfl (.inr ⟨_, _, rfl, .inr ⟨rfl, 41, _, _, _, _, rfl⟩⟩)) ?_
  refine rn_ ?_; intros
  refine go_q (v := .string (strOfNums W8)) (by rw [hnt]; rfl) (quiet_strG (by rw [hty]; rfl) (by rw [hty]; rfl) (by rw [hty]; rfl) rfl rfl rfl (.inr ⟨_, _, rfl, .inl hat5⟩)) ?_
  refine rn_ ?_; intros
  simp only [beq_self_eq_true, Bool.not_true]
  repeat ((refine go_gsplit rfl rfl (fun hc => absurd hc (by first | decide +kernel | simp)) (fun _ => ?_); refine st_ ?_; (refine rn_ ?_; intros)))
  refine go_callf (by rw [hnt]; rfl) (by rw [hP]; kernel_rfl) rfl (hP ▸ iSum_ok [] _ _ (Rp.S_nil none 0)) ?_; refine rn_ ?_; intros
  repeat ((refine go_gsplit rfl rfl (fun hc => absurd hc (by first | decide +kernel | simp)) (fun _ => ?_); refine st_ ?_; (refine rn_ ?_; intros)))
  rename_i i1 o1
  refine go_see 43 [.v (.slice (some ⟨i1, 0, none⟩) 1 1)] rfl (by simp [dens, SV.den]) ?_
  refine go_slot 53 (.v (.slice (some ⟨o1, 0, none⟩) 1 1)) rfl (by simp [SV.den]) ?_
  refine st_ ?_
  refine go_pub 42 rfl (by omega) ?_
  rintro Ga1 (_ : Le _ Ga1) hGa
  refine st_ ?_
  refine go_pub 43 rfl (by omega) ?_
  rintro Gb1 (hab : Le Ga1 Gb1) hGb
  refine st_ ?_
  have hSb : rBB.S Gb1 [[0]] (.slice (some ⟨o1, 0, none⟩) 1 1) := ⟨by simp, _, _, rfl, .inr ⟨o1, 0, _, rfl, at_cells hGb, ⟨[_], [], rfl, ⟨_, rfl, Rp.S_mono hab ⟨by simp, _, _, rfl, .inr ⟨i1, 0, _, rfl, at_cells hGa, rB_L.2 ⟨rfl, by intro x hx; simp at hx; omega⟩⟩⟩⟩, rfl⟩⟩⟩
  refine go_callf (by rw [hnt]; rfl) (by rw [hP]; kernel_rfl) rfl (hP ▸ iSum_ok _ _ _ hSb) ?_; refine rn_ ?_; intros
  repeat ((refine go_gsplit rfl rfl (fun hc => absurd hc (by first | decide +kernel | simp)) (fun _ => ?_); refine st_ ?_; (refine rn_ ?_; intros)))
  rename_i i2 o2
  refine go_see 43 [.v (.slice (some ⟨i2, 0, none⟩) 2 2)] rfl (by simp [dens, SV.den]) ?_
  refine go_slot 59 (.v (.slice (some ⟨o2, 0, none⟩) 1 1)) rfl (by simp [SV.den]) ?_
  refine st_ ?_
  refine go_pub 42 rfl (by omega) ?_
  rintro Ga2 (_ : Le _ Ga2) hGa
  refine st_ ?_
  refine go_pub 43 rfl (by omega) ?_
  rintro Gb2 (hab : Le Ga2 Gb2) hGb
  refine st_ ?_
  have hSb : rBB.S Gb2 [[1, 2]] (.slice (some ⟨o2, 0, none⟩) 1 1) := ⟨by simp, _, _, rfl, .inr ⟨o2, 0, _, rfl, at_cells hGb, ⟨[_], [], rfl, ⟨_, rfl, Rp.S_mono hab ⟨by simp, _, _, rfl, .inr ⟨i2, 0, _, rfl, at_cells hGa, rB_L.2 ⟨rfl, by intro x hx; simp at hx; omega⟩⟩⟩⟩, rfl⟩⟩⟩
  refine go_callf (by rw [hnt]; rfl) (by rw [hP]; kernel_rfl) rfl (hP ▸ iSum_ok _ _ _ hSb) ?_; refine rn_ ?_; intros
  repeat ((refine go_gsplit rfl rfl (fun hc => absurd hc (by first | decide +kernel | simp)) (fun _ => ?_); refine st_ ?_; (refine rn_ ?_; intros)))
  rename_i i3 i4 o3
  refine go_see 44 [.v (.slice (some ⟨i3, 0, none⟩) 1 1), .v (.slice (some ⟨i4, 0, none⟩) 1 1)] rfl (by simp [dens, SV.den]) ?_
  refine go_slot 66 (.v (.slice (some ⟨o3, 0, none⟩) 2 2)) rfl (by simp [SV.den]) ?_
  refine st_ ?_
  refine go_pub 42 rfl (by omega) ?_
  rintro Ga3 (hle6 : Le _ Ga3) hGa
  refine st_ ?_
  refine go_pub 43 rfl (by omega) ?_
  rintro Gb3 (hle7 : Le Ga3 Gb3) hGb
  refine st_ ?_
  refine go_pub 44 rfl (by omega) ?_
  rintro Gc3 (hle8 : Le Gb3 Gc3) hGc
  refine st_ ?_
  have hSc : rBB.S Gc3 [[1], [2]] (.slice (some ⟨o3, 0, none⟩) 2 2) := ⟨by simp, _, _, rfl, .inr ⟨o3, 0, _, rfl, at_cells hGc, ⟨[_], [_], rfl, ⟨_, rfl, Rp.S_mono (hle7.trans hle8) ⟨by simp, _, _, rfl, .inr ⟨i3, 0, _, rfl, at_cells hGa, rB_L.2 ⟨rfl, by intro x hx; simp at hx; omega⟩⟩⟩⟩, ⟨[_], [], rfl, ⟨_, rfl, Rp.S_mono hle8 ⟨by simp, _, _, rfl, .inr ⟨i4, 0, _, rfl, at_cells hGb, rB_L.2 ⟨rfl, by intro x hx; simp at hx; omega⟩⟩⟩⟩, rfl⟩⟩⟩⟩
  refine go_callf (by rw [hnt]; rfl) (by rw [hP]; kernel_rfl) rfl (hP ▸ iSum_ok _ _ _ hSc) ?_; refine rn_ ?_; intros
  repeat ((refine go_gsplit rfl rfl (fun hc => absurd hc (by first | decide +kernel | simp)) (fun _ => ?_); refine st_ ?_; (refine rn_ ?_; intros)))
  (refine x_split rfl rfl rfl (fun hc => absurd hc (by first | decide +kernel | simp)) (fun _ => ?_); refine st_ ?_; (refine ru_ ?_; intros))
  refine rn_ ?_; intros
  refine go_keep [0, 2] [41] ?_
  refine st_ ?_
  have hD0 := iDecode_ok [] (.slice none 0 0) Gc3 ⟨Rp.S_nil none 0, none, 0, rfl, by simp⟩
  rw [show decR [] = ([], 80) by kernel_rfl] at hD0
  refine go_call (by rw [hnt]; rfl) (by rw [hP]; kernel_rfl) rfl (hP ▸ hD0) ?_
  rintro v G7 (hle9 : Le Gc3 G7) ⟨a1, n1, c1, rfl, _⟩
  refine st_ ?_
  refine rn_ ?_; intros
  refine go_keep [0, 2, 8, 74] [41] ?_
  refine st_ ?_
  refine go_q (by rw [hnt]; rfl) (quiet_index (by rw [hty]; rfl) (by rw [hty]; rfl) rfl rfl rfl (by omega) (by simp [W8])) ?_
  refine rn_ ?_; intros
  refine go_q (v := .int .u8 88) (by rw [hnt]; rfl) ((quiet_loadR (k := 41) (by rw [hty]; rfl) rfl (by simp [TK.agg]) rfl (by simp [W8, bZ])).cast (by exact ldU (l := W8) (i := 11) (by simp [W8]) (by simp))) ?_
  refine rn_ ?_; intros
  refine go_q (by rw [hnt]; rfl) (quiet_index (by rw [hty]; rfl) (by rw [hty]; rfl) rfl rfl rfl (by omega) (by simp [W8])) ?_
  refine rn_ ?_; intros
  refine go_storeR 41 rfl (by rw [hty]; rfl) rfl rfl rfl rfl rfl rfl (layU (l := W8) (i := 11) 89 (by simp [W8]) (by simp) rfl) ?_
  refine st_ ?_
  refine rn_ ?_; intros
  have hW9 : W8.set 11 89 = W9 := rfl
  rw [hW9]
  refine go_keep [0, 2, 8, 80] [41] ?_
  refine st_ ?_
  refine go_pubrow 41 rfl (by omega) ?_
  rintro G8 (hle10 : Le G7 G8) hat8
  refine st_ ?_
  have hD1 := iDecode_ok W9 (.slice (some ⟨g2, 0, none⟩) W8.length cap2) G8 ⟨⟨by simp [W9], _, _, rfl, .inr ⟨g2, 0, _, rfl, hat8, rB_L.2 ⟨rfl, by intro x hx; simp [W9] at hx; omega⟩⟩⟩, _, _, rfl, hcap2⟩
  rw [show decR W9 = ([], 80) by kernel_rfl] at hD1
  refine go_call (by rw [hnt]; rfl) (by rw [hP]; kernel_rfl) rfl (hP ▸ hD1) ?_
  rintro v G9 (hle11 : Le G8 G9) ⟨a1, n1, c1, rfl, _⟩
  refine st_ ?_
  refine rn_ ?_; intros
  rename_i m7 m8
  refine go_keep [0, 8, 10, 85] [1] ?_
  refine st_ ?_
  refine go_slot 85 (.v (.slice (some ⟨m8, 0, none⟩) 8 8)) rfl (by simp [SV.den]) ?_
  refine st_ ?_
  refine go_pub 1 rfl (by omega) ?_
  rintro G10 (hle12 : Le G9 G10) hG10
  refine st_ ?_
  have hB10 : rBS G10 [66, 84, 1, 0, 0, 0, 0, 0] (.slice (some ⟨m8, 0, none⟩) 8 8) := ⟨⟨by simp, _, _, rfl, .inr ⟨m8, 0, _, rfl, at_cells hG10, rB_L.2 ⟨rfl, by intro x hx; simp at hx; omega⟩⟩⟩, _, _, rfl, by simp⟩
  have hSf := Sealed_ok _ _ G10 hB10 (by simp)
  rw [if_neg (by simp), show sealB (List.take (([66, 84, 1, 0, 0, 0, 0, 0] : List Int).length - 4) [66, 84, 1, 0, 0, 0, 0, 0]) = [66, 84, 1, 0, 178, 203, 45, 0] by kernel_rfl] at hSf
  refine go_call (by rw [hnt]; rfl) (by rw [hP]; kernel_rfl) rfl (hP ▸ hSf) ?_
  rintro v G11 (hle13 : Le G10 G11) hS11
  have hS11' := hS11
  obtain ⟨_, ad11, cap11, rfl, _⟩ := hS11'
  refine st_ ?_
  refine rn_ ?_; intros
  have hD2 := iDecode_ok [66, 84, 1, 0, 178, 203, 45, 0] _ G11 hS11
  rw [show decR [66, 84, 1, 0, 178, 203, 45, 0] = ([], 70) by kernel_rfl] at hD2
  refine go_call (by rw [hnt]; rfl) (by rw [hP]; kernel_rfl) rfl (hP ▸ hD2) ?_
  rintro v G12 (hle14 : Le G11 G12) ⟨a1, n1, c1, rfl, _⟩
  refine st_ ?_
  refine rn_ ?_; intros
  refine go_callf (by rw [hnt]; rfl) (by rw [hP]; kernel_rfl) rfl (hP ▸ inum_ok 80 _) ?_; refine rn_ ?_; intros
  repeat ((refine go_gsplit rfl rfl (fun _ => ?_) (fun hc => absurd hc (by first | decide +kernel | simp)); refine st_ ?_; (refine rn_ ?_; intros)))
  refine go_callf (by rw [hnt]; rfl) (by rw [hP]; kernel_rfl) rfl (hP ▸ inum_ok 80 _) ?_; refine rn_ ?_; intros
  repeat ((refine go_gsplit rfl rfl (fun _ => ?_) (fun hc => absurd hc (by first | decide +kernel | simp)); refine st_ ?_; (refine rn_ ?_; intros)))
  refine go_callf (by rw [hnt]; rfl) (by rw [hP]; kernel_rfl) rfl (hP ▸ inum_ok 70 _) ?_; refine rn_ ?_; intros
  refine x_retc rfl hQ hmb rfl (by rw [hty]; simp only [so, sq, zy, zz, tyE, SO', SQ', opQ, opStore, opAlloc, ev, putS, dOk, cv, SV.cs, SV.one, SV.bool?, eqB, Value.oneCell', ldOwn, binInt, binConst, binBool, binStr, isC, TK.agg, rv, rv1, ldV, resOne, resV, Nat.reduceAdd, Nat.reduceMul, Nat.reduceSub, Nat.reduceLT, Nat.reduceLeDiff, Nat.reduceEqDiff, Nat.reduceBEq, reduceIte, reduceCtorEq, eq_self]; try rfl) rfl ?_; simp only [SV.den, resV, dens]
end Go.Proofs.Ytpopbkiphdcilaa
namespace Go.Sx
set_option linter.unusedSimpArgs false
set_option linter.unusedVariables false
open Go.RowKit

def hp (w : World) : Hp := fun b => w.heap[b]?
theorem has_hp (w : World) : Has w (hp w) := fun _ _ h => h
theorem at_of_cells {w : World} {b off : Nat} {cs : List Value} (h0 : 0 < cs.length) (h : ∀ i, i < cs.length → w.cell? ⟨b, off + i, none⟩ = cs[i]?) : At (hp w) b off cs := by
  have h1 := h 0 h0
  rw [List.getElem?_eq_getElem h0] at h1
  unfold World.cell? at h1 h
  cases hb : w.heap[b]? with
  | none => simp [hb] at h1
  | some o =>
    cases o with
    | cells arr e fz =>
      simp only [hb, Option.isSome_none, Bool.false_eq_true, if_false] at h
      refine ⟨arr, e, fz, hb, ?_, fun i hi => h i hi⟩
      have := h (cs.length - 1) (by omega)
      rw [List.getElem?_eq_getElem (show cs.length - 1 < cs.length by omega)] at this
      obtain ⟨hlt, _⟩ := Array.getElem?_eq_some_iff.1 this
      omega
    | _ => simp [hb] at h1
theorem wf_i64 {n : Int} (h : (Lit.int .i64 n).wf = true) : isI64 n := by
  simpa [Lit.wf, IntKind.min, IntKind.max, IntKind.signed, IntKind.bits, isI64] using h
theorem gatherL {α : Type} {r : Rp α} {w : World} {b : Nat} : ∀ (n off : Nat),
    (∀ i, i < n → ∃ x cs', r.e (hp w) x cs' ∧ ∀ j, j < r.size → w.cell? ⟨b, off + i * r.size + j, none⟩ = cs'[j]?) →
    ∃ (l : List α) (cs : List Value), l.length = n ∧ r.L (hp w) l cs ∧ ∀ i, i < cs.length → w.cell? ⟨b, off + i, none⟩ = cs[i]?
  | 0, off, _ => ⟨[], [], rfl, rfl, by simp⟩
  | n + 1, off, h => by
    obtain ⟨x, c0, hx, h0⟩ := h 0 (by omega)
    obtain ⟨l, cs, hl, hL, hcs⟩ := gatherL (r := r) (w := w) (b := b) n (off + r.size) (fun i hi => by
      obtain ⟨x, c, hx, hc⟩ := h (i + 1) (by omega)
      refine ⟨x, c, hx, fun j hj => ?_⟩
      rw [← hc j hj]
      congr 2
      rw [Nat.succ_mul]; omega)
    have hlen := r.len hx
    refine ⟨x :: l, c0 ++ cs, by simp [hl], ⟨c0, cs, rfl, hx, hL⟩, fun i hi => ?_⟩
    rcases Nat.lt_or_ge i r.size with q | q
    · rw [List.getElem?_append_left (by omega)]
      have := h0 i q
      simpa using this
    · rw [List.getElem?_append_right (by omega), ← hcs (i - c0.length) (by simp at hi; omega)]
      congr 2; omega
section
variable {H : Type} {enc : TypeId × Value → H} {P : Program} {w : World}
theorem add_eq (b off j : Nat) : (Addr.mk b off none).add j = ⟨b, off + j, none⟩ := by
  unfold Addr.add
  split
  · subst_vars; rfl
  · rfl
theorem open_list {α : Type} (r : Rp α) {t e : TypeId} (ht : P.underlying t = some (.slice e)) (hsz : P.cellsOf e = r.size) (hpos : 0 < r.size)
    (hel : ∀ n d ps cs, DataW.trod enc P w 0 (fun _ => true) true n e cs = some (d, ps) → cs.length = r.size → ∃ x, r.e (hp w) x cs)
    {n : Nat} {d : DataW H} {ps : List MemPlace} {cs : List Value} (h : DataW.trod enc P w 0 (fun _ => true) true n t cs = some (d, ps)) : ∃ (sl : Value) (l : List α), cs = [sl] ∧ r.S (hp w) l sl := by
  have hs := Deep.open_slice ht h
  rcases hs with ⟨hc, hy⟩ | ⟨a, len, cap, mm, n', D, Pl, hc, _, hle, hcap, hmm, hy, hel2⟩
  · exact ⟨_, [], hc, Rp.S_nil _ _⟩
  · simp only [if_true] at hmm
    subst hmm
    have hml : len ≤ 9223372036854775807 := Nat.le_trans (Nat.le_trans hle hcap) (by decide)
    by_cases hz : len = 0
    · subst hz
      exact ⟨_, [], hc, Rp.S_nil _ _⟩
    · obtain ⟨b, off, spot⟩ := a
      rw [hsz] at hel2
      have hspot : spot = none := by
        obtain ⟨cs', q1, _⟩ := hel2 0 (by omega)
        obtain ⟨_, q2, q3⟩ := World.cells?_some q1
        have q4 := q3 0 (by omega)
        rw [List.getElem?_eq_getElem (by omega)] at q4
        simpa [Addr.add] using World.cell?_spot q4
      subst hspot
      obtain ⟨l, cs2, hl, hL, hcs⟩ := gatherL (r := r) (w := w) (b := b) len off (fun i hi => by
        obtain ⟨cs', q1, q2⟩ := hel2 i (by omega)
        obtain ⟨_, q3, q4⟩ := World.cells?_some q1
        obtain ⟨x, hx⟩ := hel _ _ _ _ q2 (by omega)
        refine ⟨x, cs', hx, fun j hj => ?_⟩
        have := q4 j (by omega)
        rw [Deep.add_add, add_eq] at this
        rw [← this, Nat.add_assoc])
      have hlen := Rp.L_len hL
      have hcl : 0 < cs2.length := by rw [hlen, hl]; exact Nat.mul_pos (by omega) hpos
      exact ⟨_, l, hc, by rw [hl]; exact hml, _, _, by rw [hl], .inr ⟨_, _, _, rfl, at_of_cells hcl hcs, hL⟩⟩
theorem trod_struct2 {t : TypeId} {f0 f1 : Field} {fuel : Nat} {cs : List Value} {x : DataW H × List MemPlace} {base : Nat} {spare : Nat → Bool} {held : Bool} (ht : P.underlying t = some (.struct #[f0, f1])) (h : DataW.trod enc P w base spare held fuel t cs = some x) :
    ∃ y0 y1 n, x = (.agg [y0.1, y1.1], y0.2 ++ y1.2) ∧ cs.length = P.cellsOf t ∧ DataW.trod enc P w base spare held n f0.type ((cs.drop f0.offset).take (P.cellsOf f0.type)) = some y0 ∧
      DataW.trod enc P w base spare held n f1.type ((cs.drop f1.offset).take (P.cellsOf f1.type)) = some y1 := by
  obtain ⟨xs, n, _, rfl, hl, hlen, hf⟩ := DataW.trod_struct ht h
  match xs, hlen with
  | [y0, y1], _ => exact ⟨y0, y1, n, by simp, hl, by simpa using hf 0 f0 rfl, by simpa using hf 1 f1 rfl⟩
theorem open_int1 {T : TypeId} (hT : P.underlying T = some (.int .i64)) (hc : P.cellsOf T = 1) {n : Nat} {x : DataW H × List MemPlace} {cs : List Value} (h : DataW.trod enc P w 0 (fun _ => true) true n T cs = some x) : ∃ k, cs = [.int .i64 k] ∧ isI64 k := by
  obtain ⟨k, hk, _, hw⟩ := DataW.trod_int hT h
  exact ⟨k, hk, wf_i64 hw⟩
theorem open_ints {t e : TypeId} (ht : P.underlying t = some (.slice e)) (he : P.underlying e = some (.int .i64)) (hc : P.cellsOf e = 1) {n : Nat} {d : DataW H} {ps : List MemPlace} {cs : List Value} (h : DataW.trod enc P w 0 (fun _ => true) true n t cs = some (d, ps)) : ∃ (sl : Value) (l : List Int), cs = [sl] ∧ rI.S (hp w) l sl :=
  open_list rI ht hc (by decide) (fun n d ps cs h _ => by
    obtain ⟨k, rfl, hk⟩ := open_int1 he hc h
    exact ⟨k, rfl, hk⟩) h
end
end Go.Sx
namespace Go.Proofs.Ytpopbkiphdcilaa
set_option linter.unusedSimpArgs false
set_option linter.unusedVariables false
open Go.Sx
set_option maxRecDepth 20000
section
variable {H : Type} {enc : TypeId × Value → H} {w : World}
theorem open_node {n : Nat} {d : DataW H} {ps : List MemPlace} {cs : List Value} (h : DataW.trod enc Try.prog w 0 (fun _ => true) true n 62 cs = some (d, ps)) : ∃ x : Nd, rN.e (hp w) x cs := by
  obtain ⟨y0, y1, y2, m, _, hlen, h0, h1, h2⟩ := Deep.trod_struct3 Try.underlying62 h
  rw [show Try.prog.cellsOf 62 = 3 by kernel_rfl] at hlen
  match cs, hlen with
  | [c0, c1, c2], _ =>
  have e1 : Try.prog.cellsOf 60 = 1 := by kernel_rfl
  have e2 : Try.prog.cellsOf 2 = 1 := by kernel_rfl
  have e3 : Try.prog.cellsOf 49 = 1 := by kernel_rfl
  simp only [e1, e2, e3, List.drop_zero, List.drop_succ_cons, List.take_succ_cons, List.take_zero] at h0 h1 h2
  obtain ⟨k, hk, wk⟩ := open_int1 Try.underlying60 e1 h0
  obtain ⟨m, hm, wm⟩ := open_int1 Try.underlying2 e2 h1
  obtain ⟨sl, l, hs, hS⟩ := open_ints Try.underlying49 Try.underlying3 (by kernel_rfl) h2
  cases hk; cases hm; cases hs
  exact ⟨⟨k, m, l⟩, _, rfl, wk, wm, hS⟩
theorem open_fun {n : Nat} {d : DataW H} {ps : List MemPlace} {cs : List Value} (h : DataW.trod enc Try.prog w 0 (fun _ => true) true n 59 cs = some (d, ps)) : ∃ (f : Fu) (ns : Value), cs = [.int .i64 f.params, ns] ∧ isI64 f.params ∧ rN.S (hp w) f.nodes ns := by
  obtain ⟨y0, y1, m, _, hlen, h0, h1⟩ := trod_struct2 Try.underlying59 h
  rw [show Try.prog.cellsOf 59 = 2 by kernel_rfl] at hlen
  match cs, hlen with
  | [c0, c1], _ =>
  have e1 : Try.prog.cellsOf 3 = 1 := by kernel_rfl
  have e2 : Try.prog.cellsOf 57 = 1 := by kernel_rfl
  simp only [e1, e2, List.drop_zero, List.drop_succ_cons, List.take_succ_cons, List.take_zero] at h0 h1
  obtain ⟨k, hk, wk⟩ := open_int1 Try.underlying3 e1 h0
  obtain ⟨sl, l, hs, hS⟩ := open_list rN Try.underlying57 (by kernel_rfl) (by decide) (fun n d ps cs h _ => open_node h) h1
  cases hk; cases hs
  exact ⟨⟨k, l⟩, _, rfl, wk, hS⟩
end
end Go.Proofs.Ytpopbkiphdcilaa
namespace Go.Proofs.Ytpopbkiphdcilaa
set_option linter.unusedSimpArgs false
set_option linter.unusedVariables false
open Go.Sx
set_option maxRecDepth 20000
section
variable {H : Type} {enc : TypeId × Value → H} {w : World}
theorem trod_struct1 {P : Program} {t : TypeId} {f0 : Field} {fuel : Nat} {cs : List Value} {x : DataW H × List MemPlace} {base : Nat} {spare : Nat → Bool} {held : Bool} (ht : P.underlying t = some (.struct #[f0])) (h : DataW.trod enc P w base spare held fuel t cs = some x) :
    ∃ y0 n, x = (.agg [y0.1], y0.2) ∧ cs.length = P.cellsOf t ∧ DataW.trod enc P w base spare held n f0.type ((cs.drop f0.offset).take (P.cellsOf f0.type)) = some y0 := by
  obtain ⟨xs, n, _, rfl, hl, hlen, hf⟩ := DataW.trod_struct ht h
  match xs, hlen with
  | [y0], _ => exact ⟨y0, n, by simp, hl, by simpa using hf 0 f0 rfl⟩
theorem open_funs {n : Nat} {d : DataW H} {ps : List MemPlace} {cs : List Value} (h : DataW.trod enc Try.prog w 0 (fun _ => true) true n 22 cs = some (d, ps)) : ∃ (sl : Value) (l : Pr), cs = [sl] ∧ rF.S (hp w) l sl :=
  open_list rF Try.underlying22 (by kernel_rfl) (by decide) (fun n d ps cs h _ => by
    obtain ⟨f, ns, rfl, h1, h2⟩ := open_fun h
    exact ⟨f, ns, rfl, h1, h2⟩) h
theorem open_prog {n : Nat} {d : DataW H} {ps : List MemPlace} {cs : List Value} (h : DataW.trod enc Try.prog w 0 (fun _ => true) true n 24 cs = some (d, ps)) : ∃ (p : Pr) (sl : Value), cs = [sl] ∧ rF.S (hp w) p sl := by
  obtain ⟨y0, m, _, hlen, h0⟩ := trod_struct1 Try.underlying24 h
  rw [show Try.prog.cellsOf 24 = 1 by kernel_rfl] at hlen
  match cs, hlen with
  | [c0], _ =>
  have e1 : Try.prog.cellsOf 22 = 1 := by kernel_rfl
  simp only [e1, List.drop_zero, List.take_succ_cons, List.take_zero] at h0
  obtain ⟨sl, l, hs, hS⟩ := open_funs h0
  exact ⟨l, sl, hs, hS⟩
end
end Go.Proofs.Ytpopbkiphdcilaa
namespace Go.Proofs.Ytpopbkiphdcilaa
set_option linter.unusedSimpArgs false
set_option linter.unusedVariables false
open Go.Sx
set_option maxRecDepth 20000
section
variable {H : Type} {enc : TypeId × Value → H} {w : World}
theorem wf_u8 {n : Int} (h : (Lit.int .u8 n).wf = true) : 0 ≤ n ∧ n < 256 := by
  have : 0 ≤ n ∧ n ≤ 255 := by simpa [Lit.wf, IntKind.min, IntKind.max, IntKind.signed, IntKind.bits] using h
  omega
theorem open_bytes {n : Nat} {d : DataW H} {ps : List MemPlace} {cs : List Value} (h : DataW.trod enc Try.prog w 0 (fun _ => true) true n 27 cs = some (d, ps)) : ∃ (sl : Value) (l : List Int), cs = [sl] ∧ rBS (hp w) l sl := by
  obtain ⟨sl, l, hs, hS⟩ := open_list rB Try.underlying27 (by kernel_rfl) (by decide) (fun n d ps cs h _ => by
    obtain ⟨k, hk, _, hw⟩ := DataW.trod_int Try.underlying5 h
    have := wf_u8 hw
    exact ⟨k, hk, this⟩) h
  refine ⟨sl, l, hs, hS, ?_⟩
  obtain ⟨ad, cap, rfl⟩ := Rp.S_slice hS
  refine ⟨ad, cap, rfl, ?_⟩
  rcases Deep.open_slice Try.underlying27 h with ⟨hc, hy⟩ | ⟨a, len, cap', mm, n', D, Pl, hc, _, hle, hcap, hmm, hy, hel2⟩
  · rw [hs] at hc
    injection hc with h1
    injection h1 with e1 e2 e3
    omega
  · rw [hs] at hc
    injection hc with h1
    injection h1 with e1 e2 e3
    omega
end
end Go.Proofs.Ytpopbkiphdcilaa
namespace Go.Proofs.Ytpopbkiphdcilaa
set_option linter.unusedSimpArgs false
set_option linter.unusedVariables false
open Go.ChangeShapes Go.WideShapes Go.ChangeAt Go.RowKit

theorem own : ownKnob Try.prog.godebug = none := by kernel_rfl
theorem laidOut : laidOutB Try.prog = true := by kernel_rfl

theorem post_below {H : Type} {enc : TypeId × Value → H} {P : Program} {f : Func} {s : ChangeSpec} {fresh handsOn again : Bool} {W W' : World} {args : Array Value} {v : Value} {ds : List (DataW H)} {pa : List MemPlace}
    (hvs : s.vars = []) (hfn : (s.fn H (ds ++ [])).vars = []) (hW : DataW.Whole enc P f.params.toList s.vars false W args.toList ds [] pa)
    (hres : ∀ (b : Nat) (sp : Nat → Bool) (hd : Bool), DataW.TrodAll enc P W' b sp hd f.resultTypes.toList (v.resultList f.resultTypes.size) (s.fn H (ds ++ [])).results [])
    (hargs : ∀ sp : Nat → Bool, (∀ p ∈ pa, sp p.block = true) → DataW.TrodAll enc P W' 0 sp true f.params.toList args.toList (s.fn H (ds ++ [])).args pa)
    (hb : Below W.heap.size W W')
    (hok : ∀ (j : Nat) (t : TypeId) (r : Value), f.resultTypes[j]? = some t → (v.resultList f.resultTypes.size)[j]? = some r → Value.okWide P W' .any 0 t r) :
    s.post enc P f false fresh handsOn again W args v W' := by
  have hlt := hW.lt
  have hvars : ∀ sp : Nat → Bool, DataW.TrodVars enc P W' sp s.vars (s.fn H (ds ++ [])).vars [] := fun sp => by rw [hvs, hfn]; rfl
  have hz := hW
  obtain ⟨_, _, _, _, _, hfrozen, _⟩ := hz
  refine ⟨ds, [], pa, [], pa, [], hW, hres _ _ _, hargs _ (fun p hp => by simpa using hlt p hp), hvars _, World.keptBut_mono (fun p hp => ⟨hp, Or.inr (by simpa using hp)⟩) (hb.frame (· ∈ pa)), fun _ => ?_⟩
  refine ⟨hok, _, _, ([] ++ pa) ++ [], ⟨[] ++ pa, [], trodAll_append (hargs _ (fun _ _ => rfl)) (hres _ _ _), hvars _, rfl, fun b off hp => ?_, by simp⟩, fun p hp _ => by simpa using hp⟩
  · have hp' : MemPlace.cell b off ∈ pa := by simpa using hp
    rw [hb.frozen (hlt _ hp')]
    exact hfrozen b off hp'
end Go.Proofs.Ytpopbkiphdcilaa
namespace Go.Proofs.Ytpopbkiphdcilaa
set_option linter.unusedSimpArgs false
set_option linter.unusedVariables false
open Go.Sx
def vl (l : List Int) : Nat → Nat → Nat
  | _, 0 => 0
  | i, m + 1 => (l.getD i 0).toNat % 128 + 128 * vl l (i + 1) m
theorem vl_ge (l : List Int) : ∀ (m m' i : Nat), vl l (i + m) m' ≤ vl l i (m + m')
  | 0, m', i => by simp
  | m + 1, m', i => by
    have := vl_ge l m m' (i + 1)
    rw [show m + 1 + m' = (m + m') + 1 by omega, vl, show i + (m + 1) = i + 1 + m by omega]
    omega
structure Nums (l : List Int) (i c : Nat) : Prop where
  on : ∀ m, m < c → ∃ x, l[i + m]? = some x ∧ 128 ≤ x
  fin : ∃ x, l[i + c]? = some x ∧ x < 128
theorem Nums.tail {l : List Int} {i c : Nat} (h : Nums l i (c + 1)) : Nums l (i + 1) c := ⟨fun m hm => by
  obtain ⟨x, h1, h2⟩ := h.on (m + 1) (by omega)
  exact ⟨x, by rw [show i + 1 + m = i + (m + 1) by omega]; exact h1, h2⟩, by
  obtain ⟨x, h1, h2⟩ := h.fin
  exact ⟨x, by rw [show i + 1 + c = i + (c + 1) by omega]; exact h1, h2⟩⟩
theorem ge64 {n p s : Nat} (hs : 7 * s ≤ 63) (hn : n < 2 ^ (7 * s)) : (18446744073709551615 / 2 ^ (7 * s) < p) ↔ ¬ (n + p * 2 ^ (7 * s) < 18446744073709551616) := by
  obtain ⟨q, hq⟩ : ∃ q, 2 ^ (7 * s) * q = 18446744073709551616 := ⟨2 ^ (64 - 7 * s), by rw [← Nat.pow_add, show 7 * s + (64 - 7 * s) = 64 by omega]⟩
  have hpos : 0 < 2 ^ (7 * s) := Nat.two_pow_pos _
  rw [Nat.div_lt_iff_lt_mul hpos]
  generalize 2 ^ (7 * s) = k at *
  constructor
  · intro h; omega
  · intro h
    rcases Nat.lt_or_ge p q with h1 | h1
    · exfalso
      apply h
      have : (p + 1) * k ≤ k * q := by rw [Nat.mul_comm k q]; exact Nat.mul_le_mul_right _ h1
      rw [Nat.add_mul] at this
      omega
    · have : q * k ≤ p * k := Nat.mul_le_mul_right _ h1
      rw [Nat.mul_comm q k] at this
      omega
theorem nmG_eq {l : List Int} (hl : okB l) (most : Nat) : ∀ (c k s n i : Nat), s + k = 11 → n < 2 ^ (7 * s) → Nums l i c →
    nmG l most k (7 * s) n i = if s + c ≤ 9 ∧ n + vl l i (c + 1) * 2 ^ (7 * s) < 18446744073709551616 ∧ ¬ (l.getD (i + c) 0 = 0 ∧ 0 < s + c) ∧ n + vl l i (c + 1) * 2 ^ (7 * s) ≤ most
      then some (n + vl l i (c + 1) * 2 ^ (7 * s), i + c + 1) else none
  | 0, 0, s, n, i, hk, hn, h => by rw [nmG, if_neg (by omega)]
  | c + 1, 0, s, n, i, hk, hn, h => by rw [nmG, if_neg (by omega)]
  | 0, k + 1, s, n, i, hk, hn, h => by
    obtain ⟨x, hx, hx2⟩ := h.fin
    rw [Nat.add_zero] at hx
    have hD : l.getD i 0 = x := by rw [List.getD_eq_getElem?_getD, hx]; rfl
    have hx0 := (hl x (List.mem_of_getElem? hx)).1
    have hv : vl l i (0 + 1) = x.toNat % 128 := by simp only [vl, hD]; omega
    simp only [nmG, hx, hv, Nat.add_zero, hD]
    by_cases h63 : 63 < 7 * s
    · rw [if_pos (.inl h63), if_neg (by omega)]
    have hg := ge64 (n := n) (p := x.toNat % 128) (s := s) (by omega) hn
    by_cases hp : 18446744073709551615 / 2 ^ (7 * s) < x.toNat % 128
    · rw [if_pos (.inr hp), if_neg (fun q => hg.1 hp q.2.1)]
    rw [if_neg (by omega), if_neg (by omega)]
    have hp' : n + x.toNat % 128 * 2 ^ (7 * s) < 18446744073709551616 := by
      rcases Nat.lt_or_ge (n + x.toNat % 128 * 2 ^ (7 * s)) 18446744073709551616 with q | q
      · exact q
      · exact absurd (hg.2 (by omega)) hp
    by_cases hz : (x = 0 ∧ 0 < 7 * s) ∨ most < n + x.toNat % 128 * 2 ^ (7 * s)
    · rw [if_pos hz, if_neg (fun q => by rcases hz with ⟨z1, z2⟩ | z; exact q.2.2.1 ⟨z1, by omega⟩; omega)]
    · rw [if_neg hz, if_pos ⟨by omega, hp', fun q => hz (.inl ⟨q.1, by omega⟩), by omega⟩]
  | c + 1, k + 1, s, n, i, hk, hn, h => by
    obtain ⟨x, hx, hx2⟩ := h.on 0 (by omega)
    rw [Nat.add_zero] at hx
    have hD : l.getD i 0 = x := by rw [List.getD_eq_getElem?_getD, hx]; rfl
    have hv : vl l i (c + 1 + 1) = x.toNat % 128 + 128 * vl l (i + 1) (c + 1) := by rw [vl, hD]
    have hpos : 0 < 2 ^ (7 * s) := Nat.two_pow_pos _
    have hpw : 2 ^ (7 * (s + 1)) = 128 * 2 ^ (7 * s) := by rw [show 7 * (s + 1) = 7 + 7 * s by omega, Nat.pow_add]
    have hn' : n + x.toNat % 128 * 2 ^ (7 * s) < 2 ^ (7 * (s + 1)) := by
      rw [hpw]
      have : x.toNat % 128 * 2 ^ (7 * s) ≤ 127 * 2 ^ (7 * s) := Nat.mul_le_mul_right _ (by omega)
      omega
    have ih := nmG_eq hl most c k (s + 1) (n + x.toNat % 128 * 2 ^ (7 * s)) (i + 1) (by omega) hn' h.tail
    have e1 : n + x.toNat % 128 * 2 ^ (7 * s) + vl l (i + 1) (c + 1) * 2 ^ (7 * (s + 1)) = n + vl l i (c + 1 + 1) * 2 ^ (7 * s) := by
      rw [hv, hpw, Nat.add_mul, Nat.add_assoc, ← Nat.mul_assoc, Nat.mul_comm (vl l (i + 1) (c + 1)) 128]
    rw [e1, show s + 1 + c = s + (c + 1) by omega, show i + 1 + c + 1 = i + (c + 1) + 1 by omega, show i + 1 + c = i + (c + 1) by omega] at ih
    simp only [nmG, hx]
    rw [show 7 * s + 7 = 7 * (s + 1) by omega, ih]
    by_cases hf : 63 < 7 * s ∨ 18446744073709551615 / 2 ^ (7 * s) < x.toNat % 128
    · rw [if_pos hf]
      have h9 : ¬ s ≤ 8 := by
        intro h8
        rcases hf with hf | hf
        · omega
        · have h1 : 2 ^ (7 * s) ≤ 2 ^ 56 := Nat.pow_le_pow_right (by omega) (by omega)
          have h2 : 18446744073709551615 / 2 ^ 56 ≤ 18446744073709551615 / 2 ^ (7 * s) := Nat.div_le_div_left h1 hpos
          have h3 : 18446744073709551615 / 2 ^ 56 = 255 := by decide
          omega
      rw [if_neg (by omega)]
    · rw [if_neg hf, if_pos hx2]
theorem nm_eq {l : List Int} (hl : okB l) (most i c : Nat) (h : Nums l i c) :
    nm l most i = if c ≤ 9 ∧ vl l i (c + 1) < 18446744073709551616 ∧ ¬ (l.getD (i + c) 0 = 0 ∧ 0 < c) ∧ vl l i (c + 1) ≤ most then some (vl l i (c + 1), i + c + 1) else none := by
  have := nmG_eq hl most c 11 0 0 i rfl (by decide) h
  simp only [Nat.mul_zero, Nat.pow_zero, Nat.mul_one, Nat.zero_add] at this
  exact this
theorem nmG_no {l : List Int} (most : Nat) : ∀ (k sh n i : Nat), (∀ m x, l[i + m]? = some x → 128 ≤ x) → nmG l most k sh n i = none
  | 0, sh, n, i, h => rfl
  | k + 1, sh, n, i, h => by
    rw [nmG]
    cases hx : l[i]? with
    | none => rfl
    | some x =>
      simp only
      split
      · rfl
      · rw [if_pos (h 0 x (by simpa using hx))]
        exact nmG_no most k _ _ (i + 1) fun m y hy => h (m + 1) y (by rw [← hy]; congr 1; omega)
theorem nm_no {l : List Int} (most i : Nat) (h : ∀ m x, l[i + m]? = some x → 128 ≤ x) : nm l most i = none := nmG_no most 11 0 0 i h
theorem numF_few {l : List Int} (hl : okB l) : ∀ (c k i : Nat), c ≤ k → Nums l i c → ((numF k (vl l i (c + 1))).length = c + 1 ↔ ¬ (l.getD (i + c) 0 = 0 ∧ 0 < c))
  | 0, k, i, hk, h => by
    have hv : vl l i (0 + 1) < 128 := by simp only [vl]; omega
    rw [numF_small hv]
    simp
  | c + 1, 0, i, hk, h => by omega
  | c + 1, k + 1, i, hk, h => by
    have ih := numF_few hl c k (i + 1) (by omega) h.tail
    rw [show i + 1 + c = i + (c + 1) by omega] at ih
    have hv : vl l i (c + 1 + 1) = (l.getD i 0).toNat % 128 + 128 * vl l (i + 1) (c + 1) := by rw [vl]
    rw [hv]
    generalize hw : vl l (i + 1) (c + 1) = w at *
    rcases Nat.eq_zero_or_pos w with h0 | h0
    · subst h0
      rw [numF_small (by omega)]
      have hz : l.getD (i + (c + 1)) 0 = 0 := by
        have h1 := vl_ge l c 1 (i + 1)
        rw [hw, show i + 1 + c = i + (c + 1) by omega] at h1
        simp only [vl] at h1
        obtain ⟨x, hx, hx2⟩ := h.fin
        have hD : l.getD (i + (c + 1)) 0 = x := by rw [List.getD_eq_getElem?_getD, hx]; rfl
        have hx0 := (hl x (List.mem_of_getElem? hx)).1
        rw [hD] at h1 ⊢
        omega
      simp only [List.length_cons, List.length_nil]
      exact ⟨fun q => by omega, fun q => absurd ⟨hz, by omega⟩ q⟩
    · rw [numF_big (by omega)]
      rw [show ((l.getD i 0).toNat % 128 + 128 * w) / 128 = w by omega]
      simp only [List.length_cons]
      have hz : (c + 1 = 0 + 1 ∨ 0 < c) := by omega
      constructor
      · intro q
        have q' := ih.1 (by omega)
        rintro ⟨z1, _⟩
        rcases Nat.eq_zero_or_pos c with hc | hc
        · subst hc
          have e : w = (l.getD (i + 1) 0).toNat % 128 := by rw [← hw]; simp [vl]
          rw [z1] at e
          simp at e
          omega
        · exact q' ⟨z1, hc⟩
      · intro q
        have := ih.2 (fun z => q ⟨z.1, by omega⟩)
        omega
end Go.Proofs.Ytpopbkiphdcilaa
namespace Go.Proofs.Ytpopbkiphdcilaa
set_option linter.unusedSimpArgs false
set_option linter.unusedVariables false
open Go.Sx
set_option maxHeartbeats 4000000
theorem rbyte_bad (l : List Int) (ad : Option Addr) (cap i : Nat) (bad : Bool) (G : Hp) (h63 : l.length ≤ 9223372036854775807) (h : bad = true ∨ i = l.length) :
    Pure Try.prog 59 [(.agg #[.slice ad l.length cap, .int .i64 ((i : Nat) : Int), .bool bad])] G (fun r _ => r = .tuple #[(.agg #[.slice ad l.length cap, .int .i64 ((i : Nat) : Int), .bool true]), .int .i64 0]) := by
  refine enterX ty tyok Try.func59 rfl Try.ntmps59 [.a [.v (.slice ad l.length cap), .v (.int .i64 i), .v (.bool bad)]] (by simp) ?_
  intro C hP hQ hnt hty hmb hmh hro; have hQp := qp_body hQ; refine st_ ?_
  refine rn_ ?_; intros
  refine go_gsplit rfl rfl (fun h1 => ?_) (fun h1 => ?_) <;> (refine st_ ?_; (refine rn_ ?_; intros))
  · refine x_retc rfl hQ hmb rfl (by rw [hty]; simp only [so, sq, zy, zz, tyE, SO', SQ', opQ, opStore, opAlloc, ev, putS, dOk, cv, SV.cs, SV.one, SV.bool?, eqB, Value.oneCell', ldOwn, binInt, binConst, binBool, binStr, isC, TK.agg, rv, rv1, ldV, resOne, resV, Nat.reduceAdd, Nat.reduceMul, Nat.reduceSub, Nat.reduceLT, Nat.reduceLeDiff, Nat.reduceEqDiff, Nat.reduceBEq, reduceIte, reduceCtorEq, eq_self]; try rfl) rfl ?_; simp only [SV.den, resV, dens]
  refine x_split rfl rfl rfl (fun h2 => ?_) (fun h2 => ?_) <;> (refine st_ ?_; (refine ru_ ?_; intros))
  · refine rn_ ?_; intros
    refine x_retc rfl hQ hmb rfl (by rw [hty]; simp only [so, sq, zy, zz, tyE, SO', SQ', opQ, opStore, opAlloc, ev, putS, dOk, cv, SV.cs, SV.one, SV.bool?, eqB, Value.oneCell', ldOwn, binInt, binConst, binBool, binStr, isC, TK.agg, rv, rv1, ldV, resOne, resV, Nat.reduceAdd, Nat.reduceMul, Nat.reduceSub, Nat.reduceLT, Nat.reduceLeDiff, Nat.reduceEqDiff, Nat.reduceBEq, reduceIte, reduceCtorEq, eq_self]; try rfl) rfl ?_; simp only [SV.den, resV, dens]
  exfalso
  have := of_decide_eq_false h2
  rcases h with h | h
  · rw [h] at h1; cases h1
  · omega
theorem rbyte_get (l : List Int) (ad : Option Addr) (cap i : Nat) (G : Hp) (hl : rB.S G l (.slice ad l.length cap)) (hi : i < l.length) :
    Pure Try.prog 59 [(.agg #[.slice ad l.length cap, .int .i64 ((i : Nat) : Int), .bool false])] G (fun r _ => r = .tuple #[(.agg #[.slice ad l.length cap, .int .i64 ((i + 1 : Nat) : Int), .bool false]), .int .i64 l[i]]) := by
  have h63 := Rp.S_len hl
  obtain ⟨b, off, rfl, hat, hx0, hx1⟩ := rB_at hl hi
  refine enterX ty tyok Try.func59 rfl Try.ntmps59 [.a [.v (.slice (some ⟨b, off, none⟩) l.length cap), .v (.int .i64 i), .v (.bool false)]] (by simp) ?_
  intro C hP hQ hnt hty hmb hmh hro; have hQp := qp_body hQ; refine st_ ?_
  refine rn_ ?_; intros
  rename_i b1 b2
  (refine go_gsplit rfl rfl (fun hc => absurd hc (by first | decide +kernel | simp)) (fun _ => ?_); refine st_ ?_; (refine rn_ ?_; intros))
  refine x_split rfl rfl rfl (fun h2 => ?_) (fun h2 => ?_) <;> (refine st_ ?_; (refine ru_ ?_; intros))
  · exfalso
    have := of_decide_eq_true h2
    omega
  refine rn_ ?_; intros
  have hw1 := wr (n := (i : Int) + 1) (by omega) (by omega)
  have hw2 := wr (n := (i : Int) + 1 - 1) (by omega) (by omega)
  rw [hw1]
  refine x_held [(0, b1, .c 89 [.v (.slice (some ⟨b, off, none⟩) l.length cap), .v (.int .i64 (i + 1)), .v (.bool false)])] rfl (by rw [hP]; kernel_rfl) rfl rfl rfl ?_; refine st_ ?_
  refine h_take 0 rfl (by kernel_rfl) (by kernel_rfl) (by kernel_rfl) hQp (by rw [hnt]; rfl) (allIn (by repeat (first | exact trivial | refine ⟨rfl, ?_⟩))) (by first | exact Le.refl _ | assumption) (quiet_op (by rw [hty]; first | rfl | (refine st_ ?_; rfl))) ?_; refine st_ ?_
  refine h_take 1 rfl (by kernel_rfl) (by kernel_rfl) (by kernel_rfl) hQp (by rw [hnt]; rfl) (allIn (by repeat (first | exact trivial | refine ⟨rfl, ?_⟩))) (by first | exact Le.refl _ | assumption) (quiet_op (by rw [hty]; first | rfl | (refine st_ ?_; rfl))) ?_; refine st_ ?_
  refine h_take 2 rfl (by kernel_rfl) (by kernel_rfl) (by kernel_rfl) hQp (by rw [hnt]; rfl) (allIn (by repeat (first | exact trivial | refine ⟨rfl, ?_⟩))) (by first | exact Le.refl _ | assumption) (quiet_op (by rw [hty]; first | rfl | (refine st_ ?_; rfl))) ?_; refine st_ ?_
  refine h_take 3 rfl (by kernel_rfl) (by kernel_rfl) (by kernel_rfl) hQp (by rw [hnt]; rfl) (allIn (by repeat (first | exact trivial | refine ⟨rfl, ?_⟩))) (by first | exact Le.refl _ | assumption) (quiet_op (by rw [hty]; first | rfl | (refine st_ ?_; rfl))) ?_; refine st_ ?_
  refine h_take 4 rfl (by kernel_rfl) (by kernel_rfl) (by kernel_rfl) hQp (by rw [hnt]; rfl) (allIn (by repeat (first | exact trivial | refine ⟨rfl, ?_⟩))) (by first | exact Le.refl _ | assumption) (quiet_op (by rw [hty]; first | rfl | (refine st_ ?_; rfl))) ?_; refine st_ ?_
  refine h_take 5 rfl (by kernel_rfl) (by kernel_rfl) (by kernel_rfl) hQp (by rw [hnt]; rfl) (allIn (by repeat (first | exact trivial | refine ⟨rfl, ?_⟩))) (by first | exact Le.refl _ | assumption) (quiet_op (by rw [hty]; first | rfl | (refine st_ ?_; rfl))) ?_; refine st_ ?_
  rw [hw2]
  refine h_take 6 rfl (by kernel_rfl) (by kernel_rfl) (by kernel_rfl) hQp (by rw [hnt]; rfl) (allIn (by repeat (first | exact trivial | refine ⟨rfl, ?_⟩))) (by first | exact Le.refl _ | assumption) (x := .v (.pointer (some ⟨b, off + i, none⟩))) ((quiet_index (by rw [hty]; rfl) (by rw [hty]; rfl) rfl rfl rfl (by omega) (by omega)).cast (by simp [SV.den])) ?_; refine st_ ?_
  refine h_take 7 rfl (by kernel_rfl) (by kernel_rfl) (by kernel_rfl) hQp (by rw [hnt]; rfl) (allIn (by repeat (first | exact trivial | refine ⟨rfl, ?_⟩))) (by first | exact Le.refl _ | assumption) (x := .v (.int .u8 l[i])) ((quiet_load (by rw [hty]; rfl) rfl (by simp [TK.agg]) hat rfl).cast rfl) ?_; refine st_ ?_
  refine h_take 8 rfl (by kernel_rfl) (by kernel_rfl) (by kernel_rfl) hQp (by rw [hnt]; rfl) (allIn (by repeat (first | exact trivial | refine ⟨rfl, ?_⟩))) (by first | exact Le.refl _ | assumption) (quiet_op (by rw [hty]; first | rfl | (refine st_ ?_; rfl))) ?_; refine st_ ?_
  rw [wr (n := l[i]) (by omega) (by omega)]
  refine h_one 9 rfl (by kernel_rfl) ?_
  refine rn_ ?_; intros
  refine h_hs (allIn (by repeat (first | exact trivial | refine ⟨rfl, ?_⟩))) (by first | exact Le.refl _ | assumption) ?_
  refine h_take 10 rfl (by kernel_rfl) (by kernel_rfl) (by kernel_rfl) hQp (by rw [hnt]; rfl) (allIn (by repeat (first | exact trivial | refine ⟨rfl, ?_⟩))) (by first | exact Le.refl _ | assumption) (quiet_op (by rw [hty]; first | rfl | (refine st_ ?_; rfl))) ?_; refine st_ ?_
  refine h_end (by kernel_rfl) ?_
  refine rn_ ?_; intros
  refine x_retc rfl hQ hmb rfl (by rw [hty]; simp only [so, sq, zy, zz, tyE, SO', SQ', opQ, opStore, opAlloc, ev, putS, dOk, cv, SV.cs, SV.one, SV.bool?, eqB, Value.oneCell', ldOwn, binInt, binConst, binBool, binStr, isC, TK.agg, rv, rv1, ldV, resOne, resV, Nat.reduceAdd, Nat.reduceMul, Nat.reduceSub, Nat.reduceLT, Nat.reduceLeDiff, Nat.reduceEqDiff, Nat.reduceBEq, reduceIte, reduceCtorEq, eq_self]; try rfl) rfl ?_; simp only [SV.den, resV, dens]
  rw [show ((i + 1 : Nat) : Int) = (i : Int) + 1 by omega]
theorem Nums.lt {l : List Int} {i d : Nat} (h : Nums l i d) : i + d < l.length := by
  obtain ⟨x, hx, _⟩ := h.fin
  exact (List.getElem?_eq_some_iff.1 hx).1
end Go.Proofs.Ytpopbkiphdcilaa
namespace Go.Proofs.Ytpopbkiphdcilaa
set_option linter.unusedSimpArgs false
set_option linter.unusedVariables false
open Go.Sx
set_option maxHeartbeats 4000000
def numR (l : List Int) (ad : Option Addr) (cap : Nat) (o : Option (Nat × Nat)) (k : IntKind) (r : Value) : Prop := match o with
  | some x => r = .tuple #[(.agg #[.slice ad l.length cap, .int .i64 ((x.2 : Nat) : Int), .bool false]), .int k x.1]
  | none => ∃ j : Nat, r = .tuple #[(.agg #[.slice ad l.length cap, .int .i64 ((j : Nat) : Int), .bool true]), .int k 0]
theorem rnum_bad (l : List Int) (ad : Option Addr) (cap i most : Nat) (G : Hp) (h63 : l.length ≤ 9223372036854775807) :
    Pure Try.prog 58 [(.agg #[.slice ad l.length cap, .int .i64 ((i : Nat) : Int), .bool true]), .int .u64 most] G (fun r _ => r = .tuple #[(.agg #[.slice ad l.length cap, .int .i64 ((i : Nat) : Int), .bool true]), .int .u64 0]) := by
  refine enterX ty tyok Try.func58 rfl Try.ntmps58 [.a [.v (.slice ad l.length cap), .v (.int .i64 i), .v (.bool true)], .v (.int .u64 most)] (by simp) ?_
  intro C hP hQ hnt hty hmb hmh hro; have hQp := qp_body hQ; refine st_ ?_
  refine rn_ ?_; intros
  rename_i b1 b2
  refine go_keep [2, 4, 5, 6, 7] [0, 1] ?_
  refine st_ ?_
  refine x_loop rfl (fun q s => q = 0 ∧ s = ⟨[(2, .p 0 b1 0), (4, .p 1 b2 0), (5, .v (.int .u64 0)), (6, .v (.int .i64 i)), (7, .v (.int .i64 128))], [(0, b1, .c 89 [.v (.slice ad l.length cap), .v (.int .i64 i), .v (.bool true)]), (1, b2, .c 89 [.v (.slice none 0 0), .v (.int .i64 0), .v (.bool false)])], G, []⟩) ⟨rfl, rfl⟩ ?_
  rintro q s ⟨_, rfl⟩ ih
  refine rn_ ?_; intros
  (refine go_gsplit rfl rfl (fun _ => ?_) (fun hc => absurd hc (by first | decide +kernel | simp)); refine st_ ?_; (refine rn_ ?_; intros))
  (refine x_split rfl rfl rfl (fun hc => absurd hc (by first | decide +kernel | simp)) (fun _ => ?_); refine st_ ?_; (refine ru_ ?_; intros))
  refine rn_ ?_; intros
  (refine go_gsplit rfl rfl (fun _ => ?_) (fun hc => absurd hc (by first | decide +kernel | simp)); refine st_ ?_; (refine rn_ ?_; intros))
  repeat (refine go_gundef rfl (by rw [hnt]; rfl) rfl ?_; (refine st_ ?_; (refine rn_ ?_; intros)))
  refine rn_ ?_; intros
  refine x_retc rfl hQ hmb rfl (by rw [hty]; simp only [so, sq, zy, zz, tyE, SO', SQ', opQ, opStore, opAlloc, ev, putS, dOk, cv, SV.cs, SV.one, SV.bool?, eqB, Value.oneCell', ldOwn, binInt, binConst, binBool, binStr, isC, TK.agg, rv, rv1, ldV, resOne, resV, Nat.reduceAdd, Nat.reduceMul, Nat.reduceSub, Nat.reduceLT, Nat.reduceLeDiff, Nat.reduceEqDiff, Nat.reduceBEq, reduceIte, reduceCtorEq, eq_self]; try rfl) rfl ?_; simp only [SV.den, resV, dens]
theorem rnum_ok (l : List Int) (ad : Option Addr) (cap i most : Nat) (G : Hp) (hl : rB.S G l (.slice ad l.length cap)) (hi : i ≤ l.length) (hm : most < 18446744073709551616) :
    Pure Try.prog 58 [(.agg #[.slice ad l.length cap, .int .i64 ((i : Nat) : Int), .bool false]), .int .u64 most] G (fun r _ => numR l ad cap (nm l most i) .u64 r) := by
  have h63 := Rp.S_len hl
  have hl0 := hl
  have hb := rB_ok hl
  refine enterX ty tyok Try.func58 rfl Try.ntmps58 [.a [.v (.slice ad l.length cap), .v (.int .i64 i), .v (.bool false)], .v (.int .u64 most)] (by simp) ?_
  intro C hP hQ hnt hty hmb hmh hro; have hQp := qp_body hQ; refine st_ ?_
  refine rn_ ?_; intros
  rename_i b1 b2
  refine go_keep [1, 2, 4, 5, 6, 7] [0, 1] ?_
  refine st_ ?_
  refine x_loop rfl (fun q s => ∃ (m : Nat) (c : Int) (bad : Bool), i + m ≤ l.length ∧
    ((bad = false ∧ 128 ≤ c ∧ q = l.length - (i + m) + 1 ∧ ∀ k, k < m → ∃ x, l[i + k]? = some x ∧ 128 ≤ x) ∨ (bad = false ∧ c < 128 ∧ q = 0 ∧ ∃ d, m = d + 1 ∧ Nums l i d) ∨ (bad = true ∧ q = 0 ∧ nm l most i = none)) ∧
    s = ⟨[(1, .v (.int .u64 most)), (2, .p 0 b1 0), (4, .p 1 b2 0), (5, .v (.int .u64 0)), (6, .v (.int .i64 i)), (7, .v (.int .i64 c))], [(0, b1, .c 89 [.v (.slice ad l.length cap), .v (.int .i64 ((i + m : Nat) : Int)), .v (.bool bad)]), (1, b2, .c 89 [.v (.slice none 0 0), .v (.int .i64 0), .v (.bool false)])], G, []⟩) ⟨0, 128, false, by omega, .inl ⟨rfl, by omega, rfl, fun k hk => by omega⟩, rfl⟩ ?_
  rintro q s ⟨m, c, bad, him, hst, rfl⟩ ih
  rcases hst with ⟨rfl, hc, hq, hon⟩ | ⟨rfl, hc, hq, d, rfl, hN⟩ | ⟨rfl, hq, hno⟩
  · refine rn_ ?_; intros
    (refine go_gsplit rfl rfl (fun _ => ?_) (fun hc => absurd hc (by (have h1 := of_decide_eq_false hc; omega))); refine st_ ?_; (refine rn_ ?_; intros))
    (refine x_split rfl rfl rfl (fun _ => ?_) (fun hc => absurd hc (by first | decide +kernel | simp)); refine st_ ?_; (refine ru_ ?_; intros))
    refine rn_ ?_; intros
    rcases Nat.lt_or_ge (i + m) l.length with hlt | hge
    · refine go_callf (by rw [hnt]; rfl) (by rw [hP]; kernel_rfl) rfl (hP ▸ rbyte_get l ad cap (i + m) G hl0 hlt) ?_; refine rn_ ?_; intros
      refine go_keep [1, 2, 4, 5, 6, 7] [0, 1] ?_
      refine st_ ?_
      rcases Int.lt_or_le l[i + m] 128 with hx | hx
      · exact ih 0 _ (by omega) ⟨m + 1, l[i + m], false, by omega, .inr (.inl ⟨rfl, hx, rfl, m, rfl, hon, _, List.getElem?_eq_getElem hlt, hx⟩), by simp only [Nat.add_assoc]⟩
      · refine ih (l.length - (i + (m + 1)) + 1) _ (by omega) ⟨m + 1, l[i + m], false, by omega, .inl ⟨rfl, hx, rfl, fun k hk => ?_⟩, by simp only [Nat.add_assoc]⟩
        rcases Nat.lt_or_ge k m with hkm | hkm
        · exact hon k hkm
        · obtain rfl : k = m := by omega
          exact ⟨_, List.getElem?_eq_getElem hlt, hx⟩
    · refine go_callf (by rw [hnt]; rfl) (by rw [hP]; kernel_rfl) rfl (hP ▸ rbyte_bad l ad cap (i + m) false _ h63 (.inr (by omega))) ?_; refine rn_ ?_; intros
      refine go_keep [1, 2, 4, 5, 6, 7] [0, 1] ?_
      refine st_ ?_
      refine ih 0 _ (by omega) ⟨m, 0, true, him, .inr (.inr ⟨rfl, rfl, nm_no most i fun k x hx => ?_⟩), rfl⟩
      rcases Nat.lt_or_ge k m with hkm | hkm
      · obtain ⟨y, hy, hy2⟩ := hon k hkm
        rw [hy] at hx; cases hx; exact hy2
      · have := (List.getElem?_eq_some_iff.1 hx).1; omega
  · refine rn_ ?_; intros
    (refine go_gsplit rfl rfl (fun hc => absurd hc (by (have h1 := of_decide_eq_true hc; omega))) (fun _ => ?_); refine st_ ?_; (refine rn_ ?_; intros))
    repeat (refine go_gundef rfl (by rw [hnt]; rfl) rfl ?_; (refine st_ ?_; (refine rn_ ?_; intros)))
    refine rn_ ?_; intros
    have hnm0 := nm_eq hb most i d hN
    have hd := Nums.lt hN
    have hw3 : IntKind.i64.wrap (((i + (d + 1) : Nat) : Int) - (i : Int)) = ((d + 1 : Nat) : Int) := by rw [wr (by omega) (by omega)]; omega
    (refine go_gsplit rfl rfl (fun hc => absurd hc (by first | decide +kernel | simp)) (fun _ => ?_); refine st_ ?_; (refine rn_ ?_; intros))
    rw [hw3]
    refine x_split rfl rfl rfl (fun h10 => ?_) (fun h10 => ?_) <;> (refine st_ ?_; (refine ru_ ?_; intros))
    · refine rn_ ?_; intros
      refine x_retc rfl hQ hmb rfl (by rw [hty]; simp only [so, sq, zy, zz, tyE, SO', SQ', opQ, opStore, opAlloc, ev, putS, dOk, cv, SV.cs, SV.one, SV.bool?, eqB, Value.oneCell', ldOwn, binInt, binConst, binBool, binStr, isC, TK.agg, rv, rv1, ldV, resOne, resV, Nat.reduceAdd, Nat.reduceMul, Nat.reduceSub, Nat.reduceLT, Nat.reduceLeDiff, Nat.reduceEqDiff, Nat.reduceBEq, reduceIte, reduceCtorEq, eq_self]; try rfl) rfl ?_; simp only [SV.den, resV, dens]
      rw [hnm0, if_neg (by have := of_decide_eq_true h10; omega)]
      exact ⟨_, rfl⟩
    have hd9 : d ≤ 9 := by have := of_decide_eq_false h10; omega
    refine rn_ ?_; intros
    have hw4 : IntKind.i64.wrap (((i + (d + 1) : Nat) : Int) - 1) = ((i : Int) + ((d + 1 : Nat) : Int) - 1) := by rw [wr (by omega) (by omega)]; omega
    rw [hw4]
    refine go_keep [1, 2, 4, 5, 6, 8, 9] [0, 1] ?_
    refine st_ ?_
    obtain ⟨T, hT, hT2⟩ : ∃ T, T = d + 1 ∧ d + 2 = T + 1 := ⟨_, rfl, rfl⟩
    have hnm := hnm0
    rw [← hT] at hnm ⊢
    clear hnm0
    refine x_loop rfl (fun q s => ∃ (k : Nat), k ≤ T ∧ q = k ∧ vl l (i + k) (T - k) < 18446744073709551616 ∧
      s = ⟨[(1, .v (.int .u64 most)), (2, .p 0 b1 0), (4, .p 1 b2 0), (5, .v (.int .u64 0)), (6, .v (.int .i64 i)), (8, .v (.int .u64 (vl l (i + k) (T - k)))), (9, .v (.int .i64 ((i : Int) + (k : Int) - 1)))], [(0, b1, .c 89 [.v (.slice ad l.length cap), .v (.int .i64 ((i + T : Nat) : Int)), .v (.bool false)]), (1, b2, .c 89 [.v (.slice none 0 0), .v (.int .i64 0), .v (.bool false)])], G, []⟩) ⟨T, Nat.le_refl _, rfl, by simp [vl], by simp [vl]⟩ ?_
    rintro q s ⟨k, hk, hq, hv, rfl⟩ ih2
    clear ih
    refine rn_ ?_; intros
    refine x_if rfl rfl rfl rfl (fun hge => ?_) (fun hge => ?_)
    · have hk0 : 0 < k := by have := of_decide_eq_true hge; omega
      obtain ⟨k, rfl⟩ : ∃ k', k = k' + 1 := ⟨k - 1, by omega⟩
      refine rn_ ?_; intros
      have hk1 : ((i : Int) + ((k + 1 : Nat) : Int) - 1) = ((i + k : Nat) : Int) := by omega
      rw [hk1]
      have hlt : i + k < l.length := by omega
      obtain ⟨bb, off, rfl, hat, hx0, hx1⟩ := rB_at hl0 hlt
      refine go_q (by rw [hnt]; rfl) (quiet_index (by rw [hty]; rfl) (by rw [hty]; rfl) rfl rfl rfl (by omega) (by omega)) ?_
      refine rn_ ?_; intros
      refine go_q (by rw [hnt]; rfl) (quiet_load (by rw [hty]; rfl) rfl (by simp [TK.agg]) (by simpa using hat) rfl) ?_; refine rn_ ?_; intros
      repeat (simp only [Int.reduceLT, Int.reduceLE, Int.reduceEq, Int.reduceNeg, Int.le_refl, Int.reduceToNat, if_false, if_true, and_self]; refine st_ ?_; refine rn_ ?_; intros)
      have hw5 : (IntKind.u64.wrap l[i + k]).tmod 128 = ((l[i + k].toNat % 128 : Nat) : Int) := by rw [w64, Int.tmod_eq_emod_of_nonneg (by omega)]; omega
      rw [hw5]
      generalize hp : l[i + k].toNat % 128 = p at *
      have hp128 : p < 128 := by omega
      have hw6 : IntKind.u64.wrap ((18446744073709551615 : Int) - (p : Int)) = ((18446744073709551615 - p : Nat) : Int) := by rw [w64]; omega
      try rw [hw6]
      have hw7 : IntKind.u64.wrap (((18446744073709551615 - p : Nat) : Int).tdiv 128) = (((18446744073709551615 - p) / 128 : Nat) : Int) := by rw [Int.tdiv_eq_ediv_of_nonneg (by omega), w64]; omega
      rw [hw7]
      have hvv : vl l (i + k) (T - k) = p + 128 * vl l (i + (k + 1)) (T - (k + 1)) := by
        rw [show T - k = (T - (k + 1)) + 1 by omega, vl, List.getD_eq_getElem?_getD, List.getElem?_eq_getElem hlt, Option.getD_some, hp]; rfl
      have hge2 := vl_ge l k (T - k) i
      rw [show k + (T - k) = T by omega] at hge2
      refine x_split rfl rfl rfl (fun h11 => ?_) (fun h11 => ?_) <;> (refine st_ ?_; (refine ru_ ?_; intros))
      · refine rn_ ?_; intros
        refine x_retc rfl hQ hmb rfl (by rw [hty]; simp only [so, sq, zy, zz, tyE, SO', SQ', opQ, opStore, opAlloc, ev, putS, dOk, cv, SV.cs, SV.one, SV.bool?, eqB, Value.oneCell', ldOwn, binInt, binConst, binBool, binStr, isC, TK.agg, rv, rv1, ldV, resOne, resV, Nat.reduceAdd, Nat.reduceMul, Nat.reduceSub, Nat.reduceLT, Nat.reduceLeDiff, Nat.reduceEqDiff, Nat.reduceBEq, reduceIte, reduceCtorEq, eq_self]; try rfl) rfl ?_; simp only [SV.den, resV, dens]
        rw [hnm, if_neg (by have := of_decide_eq_true h11; omega)]
        exact ⟨_, rfl⟩
      have h11' := of_decide_eq_false h11
      refine rn_ ?_; intros
      have hw8 : IntKind.u64.wrap (IntKind.u64.wrap (128 * ((vl l (i + (k + 1)) (T - (k + 1)) : Nat) : Int)) + (p : Int)) = ((vl l (i + k) (T - k) : Nat) : Int) := by rw [w64, w64]; omega
      have hw9 : IntKind.i64.wrap (((i + k : Nat) : Int) - 1) = (i : Int) + (k : Int) - 1 := by rw [wr (by omega) (by omega)]; omega
      rw [hw8, hw9]
      refine go_keep [1, 2, 4, 5, 6, 8, 9] [0, 1] ?_
      refine st_ ?_
      exact ih2 k _ (by omega) ⟨k, by omega, rfl, by omega, rfl⟩
    have hk0 : k = 0 := by have := of_decide_eq_false hge; omega
    subst hk0
    simp only [Nat.add_zero, Nat.sub_zero] at hv ⊢
    clear ih2
    refine rn_ ?_; intros
    rcases Nat.lt_or_ge most (vl l i T) with hmo | hmo
    · refine x_draw rfl (by rw [hP]; kernel_rfl) rfl (by kernel_rfl) ?_
      refine runq 400 hty hnt ?_; refine st_ ?_
      (refine go_qsplit rfl rfl (fun _ => ?_) (fun hc => absurd hc (by (have h1 := of_decide_eq_false hc; omega))); refine st_ ?_; (try (refine runq 400 hty hnt ?_; refine st_ ?_)))
      refine q_end ?_; refine rn_ ?_; intros
      refine x_retc rfl hQ hmb rfl (by rw [hty]; simp only [so, sq, zy, zz, tyE, SO', SQ', opQ, opStore, opAlloc, ev, putS, dOk, cv, SV.cs, SV.one, SV.bool?, eqB, Value.oneCell', ldOwn, binInt, binConst, binBool, binStr, isC, TK.agg, rv, rv1, ldV, resOne, resV, Nat.reduceAdd, Nat.reduceMul, Nat.reduceSub, Nat.reduceLT, Nat.reduceLeDiff, Nat.reduceEqDiff, Nat.reduceBEq, reduceIte, reduceCtorEq, eq_self]; try rfl) rfl ?_; simp only [SV.den, resV, dens]
      rw [hnm, if_neg (by omega)]
      exact ⟨_, rfl⟩
    · have hmo' : decide ((most : Int) < ((vl l i T : Nat) : Int)) = false := decide_eq_false (by omega)
      refine x_held [(0, b1, .c 89 [.v (.slice ad l.length cap), .v (.int .i64 ((i + T : Nat) : Int)), .v (.bool false)])] rfl (by rw [hP]; kernel_rfl) rfl rfl rfl ?_; refine st_ ?_
      refine h_take 0 rfl (by kernel_rfl) (by kernel_rfl) (by kernel_rfl) hQp (by rw [hnt]; rfl) (allIn (by repeat (first | exact trivial | refine ⟨rfl, ?_⟩))) (by first | exact Le.refl _ | assumption) (quiet_op (by rw [hty]; first | rfl | (refine st_ ?_; rfl))) ?_; refine st_ ?_
      refine h_take 1 rfl (by kernel_rfl) (by kernel_rfl) (by kernel_rfl) hQp (by rw [hnt]; rfl) (allIn (by repeat (first | exact trivial | refine ⟨rfl, ?_⟩))) (by first | exact Le.refl _ | assumption) (quiet_op (by rw [hty]; first | rfl | (refine st_ ?_; rfl))) ?_; refine st_ ?_
      refine h_take 2 rfl (by kernel_rfl) (by kernel_rfl) (by kernel_rfl) hQp (by rw [hnt]; rfl) (allIn (by repeat (first | exact trivial | refine ⟨rfl, ?_⟩))) (by first | exact Le.refl _ | assumption) (quiet_op (by rw [hty]; first | rfl | (refine st_ ?_; rfl))) ?_; refine st_ ?_
      rw [hmo']
      refine h_take 3 rfl (by kernel_rfl) (by kernel_rfl) (by kernel_rfl) hQp (by rw [hnt]; rfl) (allIn (by repeat (first | exact trivial | refine ⟨rfl, ?_⟩))) (by first | exact Le.refl _ | assumption) (quiet_op (by rw [hty]; first | rfl | (refine st_ ?_; rfl))) ?_; refine st_ ?_
      refine go_slot 65 (.b false) rfl (by simp [SV.den]) ?_
      refine st_ ?_
      refine h_takeG 4 rfl rfl rfl (by kernel_rfl) (by kernel_rfl) (by kernel_rfl) hQp (by rw [hnt]; rfl) (allIn (by repeat (first | exact trivial | refine ⟨rfl, ?_⟩))) (by first | exact Le.refl _ | assumption) (quiet_op (by rw [hty]; first | rfl | (refine st_ ?_; rfl))) ?_; refine st_ ?_
      refine h_takeG 7 rfl rfl rfl (by kernel_rfl) (by kernel_rfl) (by kernel_rfl) hQp (by rw [hnt]; rfl) (allIn (by repeat (first | exact trivial | refine ⟨rfl, ?_⟩))) (by first | exact Le.refl _ | assumption) (quiet_op (by rw [hty]; first | rfl | (refine st_ ?_; rfl))) ?_; refine st_ ?_
      refine h_takeG 8 rfl rfl rfl (by kernel_rfl) (by kernel_rfl) (by kernel_rfl) hQp (by rw [hnt]; rfl) (allIn (by repeat (first | exact trivial | refine ⟨rfl, ?_⟩))) (by first | exact Le.refl _ | assumption) (quiet_op (by rw [hty]; first | rfl | (refine st_ ?_; rfl))) ?_; refine st_ ?_
      refine h_takeG 9 rfl rfl rfl (by kernel_rfl) (by kernel_rfl) (by kernel_rfl) hQp (by rw [hnt]; rfl) (allIn (by repeat (first | exact trivial | refine ⟨rfl, ?_⟩))) (by first | exact Le.refl _ | assumption) (quiet_op (by rw [hty]; first | rfl | (refine st_ ?_; rfl))) ?_; refine st_ ?_
      refine h_takeG 10 rfl rfl rfl (by kernel_rfl) (by kernel_rfl) (by kernel_rfl) hQp (by rw [hnt]; rfl) (allIn (by repeat (first | exact trivial | refine ⟨rfl, ?_⟩))) (by first | exact Le.refl _ | assumption) (quiet_op (by rw [hty]; first | rfl | (refine st_ ?_; rfl))) ?_; refine st_ ?_
      have hw10 : IntKind.i64.wrap (((i + T : Nat) : Int) - (i : Int)) = ((T : Nat) : Int) := by rw [wr (by omega) (by omega)]; omega
      rw [hw10]
      refine h_one 5 rfl (by kernel_rfl) ?_
      refine rn_ ?_; intros
      refine go_call (by rw [hnt]; rfl) (by rw [hP]; kernel_rfl) rfl (hP ▸ rnumber_ok (vl l i T) hv _) ?_
      rintro v G1 (hle1 : Le G G1) hSn
      obtain ⟨adn, capn, rfl⟩ := Rp.S_slice hSn
      refine st_ ?_
      refine rn_ ?_; intros
      refine h_hs (allIn (by repeat (first | exact trivial | refine ⟨rfl, ?_⟩))) (by first | exact Le.refl _ | assumption) ?_
      refine h_takeG 6 rfl rfl rfl (by kernel_rfl) (by kernel_rfl) (by kernel_rfl) hQp (by rw [hnt]; rfl) (allIn (by repeat (first | exact trivial | refine ⟨rfl, ?_⟩))) (by first | exact Le.refl _ | assumption) (quiet_op (by rw [hty]; first | rfl | (refine st_ ?_; rfl))) ?_; refine st_ ?_
      refine h_takeG 11 rfl rfl rfl (by kernel_rfl) (by kernel_rfl) (by kernel_rfl) hQp (by rw [hnt]; rfl) (allIn (by repeat (first | exact trivial | refine ⟨rfl, ?_⟩))) (by first | exact Le.refl _ | assumption) (quiet_op (by rw [hty]; first | rfl | (refine st_ ?_; rfl))) ?_; refine st_ ?_
      refine h_take 12 rfl (by kernel_rfl) (by kernel_rfl) (by kernel_rfl) hQp (by rw [hnt]; rfl) (allIn (by repeat (first | exact trivial | refine ⟨rfl, ?_⟩))) (by first | exact Le.refl _ | assumption) (quiet_op (by rw [hty]; first | rfl | (refine st_ ?_; rfl))) ?_; refine st_ ?_
      refine h_end (by kernel_rfl) ?_
      refine rn_ ?_; intros
      have hfew := numF_few hb d 9 i hd9 hN
      rw [← hT] at hfew
      change (num (vl l i T)).length = T ↔ _ at hfew
      refine x_split rfl rfl rfl (fun h12 => ?_) (fun h12 => ?_) <;> (refine st_ ?_; (refine ru_ ?_; intros))
      · refine rn_ ?_; intros
        refine x_retc rfl hQ hmb rfl (by rw [hty]; simp only [so, sq, zy, zz, tyE, SO', SQ', opQ, opStore, opAlloc, ev, putS, dOk, cv, SV.cs, SV.one, SV.bool?, eqB, Value.oneCell', ldOwn, binInt, binConst, binBool, binStr, isC, TK.agg, rv, rv1, ldV, resOne, resV, Nat.reduceAdd, Nat.reduceMul, Nat.reduceSub, Nat.reduceLT, Nat.reduceLeDiff, Nat.reduceEqDiff, Nat.reduceBEq, reduceIte, reduceCtorEq, eq_self]; try rfl) rfl ?_; simp only [SV.den, resV, dens]
        rw [hnm, if_neg (fun q => by have := hfew.2 q.2.2.1; rw [this] at h12; simp at h12)]
        exact ⟨_, rfl⟩
      · refine rn_ ?_; intros
        refine x_retc rfl hQ hmb rfl (by rw [hty]; simp only [so, sq, zy, zz, tyE, SO', SQ', opQ, opStore, opAlloc, ev, putS, dOk, cv, SV.cs, SV.one, SV.bool?, eqB, Value.oneCell', ldOwn, binInt, binConst, binBool, binStr, isC, TK.agg, rv, rv1, ldV, resOne, resV, Nat.reduceAdd, Nat.reduceMul, Nat.reduceSub, Nat.reduceLT, Nat.reduceLeDiff, Nat.reduceEqDiff, Nat.reduceBEq, reduceIte, reduceCtorEq, eq_self]; try rfl) rfl ?_; simp only [SV.den, resV, dens]
        rw [hnm, if_pos ⟨hd9, hv, hfew.1 (by have := h12; simp at this; omega), hmo⟩]
        simp only [numR]
        rw [show i + d + 1 = i + T by omega]
  · refine rn_ ?_; intros
    rcases Int.lt_or_le c 128 with hx | hx
    · (refine go_gsplit rfl rfl (fun hc => absurd hc (by (have h1 := of_decide_eq_true hc; omega))) (fun _ => ?_); refine st_ ?_; (refine rn_ ?_; intros))
      (refine go_gsplit rfl rfl (fun _ => ?_) (fun hc => absurd hc (by first | decide +kernel | simp)); refine st_ ?_; (refine rn_ ?_; intros))
      repeat (refine go_gundef rfl (by rw [hnt]; rfl) rfl ?_; (refine st_ ?_; (refine rn_ ?_; intros)))
      refine rn_ ?_; intros
      refine x_retc rfl hQ hmb rfl (by rw [hty]; simp only [so, sq, zy, zz, tyE, SO', SQ', opQ, opStore, opAlloc, ev, putS, dOk, cv, SV.cs, SV.one, SV.bool?, eqB, Value.oneCell', ldOwn, binInt, binConst, binBool, binStr, isC, TK.agg, rv, rv1, ldV, resOne, resV, Nat.reduceAdd, Nat.reduceMul, Nat.reduceSub, Nat.reduceLT, Nat.reduceLeDiff, Nat.reduceEqDiff, Nat.reduceBEq, reduceIte, reduceCtorEq, eq_self]; try rfl) rfl ?_; simp only [SV.den, resV, dens]
      rw [hno]
      exact ⟨_, rfl⟩
    · (refine go_gsplit rfl rfl (fun _ => ?_) (fun hc => absurd hc (by (have h1 := of_decide_eq_false hc; omega))); refine st_ ?_; (refine rn_ ?_; intros))
      (refine x_split rfl rfl rfl (fun hc => absurd hc (by first | decide +kernel | simp)) (fun _ => ?_); refine st_ ?_; (refine ru_ ?_; intros))
      refine rn_ ?_; intros
      (refine go_gsplit rfl rfl (fun _ => ?_) (fun hc => absurd hc (by first | decide +kernel | simp)); refine st_ ?_; (refine rn_ ?_; intros))
      repeat (refine go_gundef rfl (by rw [hnt]; rfl) rfl ?_; (refine st_ ?_; (refine rn_ ?_; intros)))
      refine rn_ ?_; intros
      refine x_retc rfl hQ hmb rfl (by rw [hty]; simp only [so, sq, zy, zz, tyE, SO', SQ', opQ, opStore, opAlloc, ev, putS, dOk, cv, SV.cs, SV.one, SV.bool?, eqB, Value.oneCell', ldOwn, binInt, binConst, binBool, binStr, isC, TK.agg, rv, rv1, ldV, resOne, resV, Nat.reduceAdd, Nat.reduceMul, Nat.reduceSub, Nat.reduceLT, Nat.reduceLeDiff, Nat.reduceEqDiff, Nat.reduceBEq, reduceIte, reduceCtorEq, eq_self]; try rfl) rfl ?_; simp only [SV.den, resV, dens]
      rw [hno]
      exact ⟨_, rfl⟩
end Go.Proofs.Ytpopbkiphdcilaa
namespace Go.Proofs.Ytpopbkiphdcilaa
set_option linter.unusedSimpArgs false
set_option linter.unusedVariables false
open Go.Sx
def seg (l : List Int) (i j : Nat) : List Int := (l.drop i).take (j - i)
theorem seg_app (l : List Int) {i j k : Nat} (h1 : i ≤ j) (h2 : j ≤ k) : seg l i j ++ seg l j k = seg l i k := by
  have e : l.drop j = (l.drop i).drop (j - i) := by rw [List.drop_drop]; congr 1; omega
  unfold seg
  rw [e, ← List.take_add]
  congr 1; omega
theorem seg_self (l : List Int) (i : Nat) : seg l i i = [] := by simp [seg]
theorem seg_one {l : List Int} {i : Nat} {x : Int} (h : l[i]? = some x) : seg l i (i + 1) = [x] := by
  obtain ⟨hi, rfl⟩ := List.getElem?_eq_some_iff.1 h
  unfold seg
  rw [List.drop_eq_getElem_cons hi, show i + 1 - i = 1 by omega]; rfl
def Sta (l : List Int) (i : Nat) (m : List Int) : Prop := ∀ (k : Nat) x, m[k]? = some x → l[i + k]? = some x
theorem Sta.left {l : List Int} {i : Nat} {a b : List Int} (h : Sta l i (a ++ b)) : Sta l i a := fun k x hx => h k x (by
  obtain ⟨hk, rfl⟩ := List.getElem?_eq_some_iff.1 hx
  rw [List.getElem?_append_left hk]; exact hx)
theorem Sta.right {l : List Int} {i : Nat} {a b : List Int} (h : Sta l i (a ++ b)) : Sta l (i + a.length) b := fun k x hx => by
  have := h (a.length + k) x (by rw [List.getElem?_append_right (by omega)]; rw [show a.length + k - a.length = k by omega]; exact hx)
  rw [← this]; congr 1; omega
theorem Sta.head {l : List Int} {i : Nat} {x : Int} {b : List Int} (h : Sta l i (x :: b)) : l[i]? = some x := h 0 x rfl
theorem Sta.tail {l : List Int} {i : Nat} {x : Int} {b : List Int} (h : Sta l i (x :: b)) : Sta l (i + 1) b := fun k y hy => by
  have := h (k + 1) y (by simpa using hy)
  rw [← this]; congr 1; omega
theorem sta_self (l : List Int) : Sta l 0 l := fun k x h => by simpa using h
theorem getD_of {l : List Int} {i : Nat} {x : Int} (h : l[i]? = some x) : l.getD i 0 = x := by rw [List.getD_eq_getElem?_getD, h]; rfl
theorem numF_vl {l : List Int} (hl : okB l) : ∀ (c k i : Nat), c ≤ k → Nums l i c → ¬ (l.getD (i + c) 0 = 0 ∧ 0 < c) → numF k (vl l i (c + 1)) = seg l i (i + c + 1)
  | 0, k, i, hk, h, hz => by
    obtain ⟨x, hx, hx2⟩ := h.fin
    rw [Nat.add_zero] at hx
    have hx0 := (hl x (List.mem_of_getElem? hx)).1
    have hv : vl l i (0 + 1) = x.toNat := by simp only [vl, getD_of hx]; omega
    rw [numF_small (by omega), Nat.add_zero, seg_one hx, hv]
    congr 1; omega
  | c + 1, 0, i, hk, h, hz => by omega
  | c + 1, k + 1, i, hk, h, hz => by
    obtain ⟨x, hx, hx2⟩ := h.on 0 (by omega)
    rw [Nat.add_zero] at hx
    have hx0 := hl x (List.mem_of_getElem? hx)
    have hv : vl l i (c + 1 + 1) = x.toNat % 128 + 128 * vl l (i + 1) (c + 1) := by rw [vl, getD_of hx]
    have hw : 1 ≤ vl l (i + 1) (c + 1) := by
      have h1 := vl_ge l c 1 (i + 1)
      obtain ⟨y, hy, hy2⟩ := h.fin
      have hy0 := (hl y (List.mem_of_getElem? hy)).1
      rw [getD_of hy] at hz
      rw [show i + 1 + c = i + (c + 1) by omega] at h1
      generalize vl l (i + 1) (c + 1) = w at h1 ⊢
      simp only [vl, getD_of hy] at h1
      omega
    have ih := numF_vl hl c k (i + 1) (by omega) h.tail (fun q => hz ⟨by rw [show i + (c + 1) = i + 1 + c by omega]; exact q.1, by omega⟩)
    rw [hv, numF_big (by omega), show (x.toNat % 128 + 128 * vl l (i + 1) (c + 1)) / 128 = vl l (i + 1) (c + 1) by omega, ih,
      ← seg_app l (show i ≤ i + 1 by omega) (show i + 1 ≤ i + (c + 1) + 1 by omega), seg_one hx]
    simp only [List.singleton_append]
    rw [show i + 1 + c + 1 = i + (c + 1) + 1 by omega]
    congr 1
    omega
theorem nums_or (l : List Int) : ∀ (n i : Nat), l.length - i ≤ n → (∃ c, Nums l i c) ∨ ∀ m x, l[i + m]? = some x → 128 ≤ x
  | 0, i, hn => .inr fun m x hx => by
    have := (List.getElem?_eq_some_iff.1 hx).1; omega
  | n + 1, i, hn => by
    cases hx : l[i]? with
    | none =>
      exact .inr fun m x hx' => by
        have h1 := (List.getElem?_eq_some_iff.1 hx').1
        rw [List.getElem?_eq_none_iff] at hx
        omega
    | some x =>
      by_cases h128 : 128 ≤ x
      · rcases nums_or l n (i + 1) (by omega) with ⟨c, hc⟩ | h
        · refine .inl ⟨c + 1, fun m hm => ?_, ?_⟩
          · cases m with
            | zero => exact ⟨x, by simpa using hx, h128⟩
            | succ m =>
              obtain ⟨y, h1, h2⟩ := hc.on m (by omega)
              exact ⟨y, by rw [← h1]; congr 1; omega, h2⟩
          · obtain ⟨y, h1, h2⟩ := hc.fin
            exact ⟨y, by rw [← h1]; congr 1; omega, h2⟩
        · refine .inr fun m y hy => ?_
          cases m with
          | zero => rw [Nat.add_zero, hx] at hy; cases hy; exact h128
          | succ m => exact h m y (by rw [← hy]; congr 1; omega)
      · exact .inl ⟨0, fun m hm => by omega, x, by simpa using hx, by omega⟩
theorem nm_seg {l : List Int} (hl : okB l) {most i n j : Nat} (h : nm l most i = some (n, j)) : i ≤ j ∧ n < 18446744073709551616 ∧ seg l i j = num n := by
  rcases nums_or l _ i (Nat.le_refl _) with ⟨c, hc⟩ | hn
  · rw [nm_eq hl most i c hc] at h
    split at h
    · rename_i q
      injection h with h
      injection h with h1 h2
      subst h1 h2
      exact ⟨by omega, q.2.1, (numF_vl hl c 9 i q.1 hc q.2.2.1).symm⟩
    · cases h
  · rw [nm_no most i hn] at h; cases h
theorem numF_nums : ∀ (k n i : Nat) (l : List Int), n < 2 * 128 ^ k → Sta l i (numF k n) → ∃ c, c ≤ k ∧ (numF k n).length = c + 1 ∧ Nums l i c ∧ vl l i (c + 1) = n ∧ ¬ (l.getD (i + c) 0 = 0 ∧ 0 < c)
  | k, n, i, l, hn, h => by
    by_cases h128 : n < 128
    · rw [numF_small h128] at h ⊢
      have hx := h.head
      exact ⟨0, by omega, rfl, ⟨fun m hm => by omega, (n : Int), by simpa using hx, by omega⟩, by simp only [vl, getD_of hx]; omega, by omega⟩
    · cases k with
      | zero => simp at hn; omega
      | succ k =>
        rw [numF_big h128] at h ⊢
        have hx := h.head
        have hk : n / 128 < 2 * 128 ^ k := by rw [Nat.pow_succ] at hn; omega
        obtain ⟨c, h0, h1, h2, h3, h4⟩ := numF_nums k (n / 128) (i + 1) l hk h.tail
        refine ⟨c + 1, by omega, by simp [h1], ⟨fun m hm => ?_, ?_⟩, ?_, fun q => ?_⟩
        · cases m with
          | zero => exact ⟨_, by simpa using hx, by omega⟩
          | succ m =>
            obtain ⟨y, q1, q2⟩ := h2.on m (by omega)
            exact ⟨y, by rw [← q1]; congr 1; omega, q2⟩
        · obtain ⟨y, q1, q2⟩ := h2.fin
          exact ⟨y, by rw [← q1]; congr 1; omega, q2⟩
        · rw [vl, getD_of hx, h3]; omega
        · rcases Nat.eq_zero_or_pos c with hc | hc
          · subst hc
            obtain ⟨q1, _⟩ := q
            simp only [vl] at h3
            rw [show i + (0 + 1) = i + 1 by omega] at q1
            rw [q1] at h3
            simp at h3
            omega
          · exact h4 ⟨by rw [show i + 1 + c = i + (c + 1) by omega]; exact q.1, hc⟩
theorem nm_num {l : List Int} (hl : okB l) {most i n : Nat} (hn : n < 18446744073709551616) (hm : n ≤ most) (h : Sta l i (num n)) : nm l most i = some (n, i + (num n).length) := by
  obtain ⟨c, h0, h1, h2, h3, h4⟩ := numF_nums 9 n i l (by rw [show 2 * 128 ^ 9 = 18446744073709551616 by decide]; exact hn) h
  rw [nm_eq hl most i c h2, h3, if_pos ⟨h0, hn, h4, hm⟩, num, h1]
  rfl
def Rd {α : Type} (l : List Int) (f : Nat → Option (α × Nat)) (enc : α → List Int) : Prop := ∀ i x j, f i = some (x, j) → i ≤ j ∧ seg l i j = enc x
theorem Rd.many {α : Type} {l : List Int} {f : Nat → Option (α × Nat)} {enc : α → List Int} (h : Rd l f enc) : ∀ (c i : Nat) (xs : List α) (j : Nat), manyS f c i = some (xs, j) → xs.length = c ∧ i ≤ j ∧ seg l i j = xs.flatMap enc
  | 0, i, xs, j, e => by
    simp only [manyS] at e
    injection e with e; injection e with e1 e2
    subst e1 e2
    exact ⟨rfl, Nat.le_refl _, seg_self l i⟩
  | c + 1, i, xs, j, e => by
    simp only [manyS] at e
    cases hf : f i with
    | none => rw [hf] at e; cases e
    | some x =>
      rw [hf] at e
      simp only at e
      cases hr : manyS f c x.2 with
      | none => rw [hr] at e; cases e
      | some r =>
        rw [hr] at e
        simp only [Option.map_some] at e
        injection e with e; injection e with e1 e2
        subst e1 e2
        obtain ⟨q1, q2, q3⟩ := Rd.many h c x.2 r.1 r.2 hr
        obtain ⟨p1, p2⟩ := h i x.1 x.2 hf
        exact ⟨by simp [q1], by omega, by rw [← seg_app l p1 q2, p2, q3, List.flatMap_cons]⟩
theorem kidS_rd {l : List Int} (hl : okB l) : Rd l (kidS l) (fun c => num (u64 c)) := fun i x j e => by
  simp only [kidS] at e
  cases hn : nm l 2147483647 i with
  | none => rw [hn] at e; cases e
  | some r =>
    rw [hn] at e
    simp only [Option.map_some] at e
    injection e with e; injection e with e1 e2
    subst e1 e2
    obtain ⟨h1, h2, h3⟩ := nm_seg hl (n := r.1) (j := r.2) hn
    exact ⟨h1, by show seg l i r.2 = num (u64 ((r.1 : Nat) : Int)); rw [h3, u64_nat h2]⟩
theorem toZ_laid {op : Int} {n : Nat} {k : List Int} (hop : op = 1) : laid ⟨op, toZ n, k⟩ = n := by
  simp only [laid, if_pos hop, toZ]
  split <;> split <;> omega
theorem ownS_rd {l : List Int} (hl : okB l) {op : Int} {i j : Nat} {n : Int} (e : ownS l op i = some (n, j)) (k : List Int) : i ≤ j ∧ seg l i j = if ownB op then num (laid ⟨op, n, k⟩) else [] := by
  simp only [ownS] at e
  split at e
  · rename_i hop
    cases hn : nm l 18446744073709551615 i with
    | none => rw [hn] at e; cases e
    | some r =>
      rw [hn] at e
      simp only [Option.map_some] at e
      injection e with e; injection e with e1 e2
      subst e1 e2
      obtain ⟨h1, h2, h3⟩ := nm_seg hl (n := r.1) (j := r.2) hn
      exact ⟨h1, by rw [h3, toZ_laid hop, if_pos (by simp [ownB, hop])]⟩
  · rename_i hop
    split at e
    · rename_i ho
      cases hn : nm l 9223372036854775807 i with
      | none => rw [hn] at e; cases e
      | some r =>
        rw [hn] at e
        simp only [Option.map_some] at e
        injection e with e; injection e with e1 e2
        subst e1 e2
        obtain ⟨h1, h2, h3⟩ := nm_seg hl (n := r.1) (j := r.2) hn
        exact ⟨h1, by rw [h3, if_pos ho, laid, if_neg hop, u64_nat h2]⟩
    · rename_i ho
      injection e with e; injection e with e1 e2
      subst e1 e2
      exact ⟨Nat.le_refl _, by rw [seg_self, if_neg ho]⟩
theorem cntS_rd {l : List Int} (hl : okB l) {op : Int} {i j c : Nat} (e : cntS l op i = some (c, j)) : i ≤ j ∧ seg l i j = if manyB op then num c else [] := by
  simp only [cntS] at e
  split at e
  · rename_i hm
    obtain ⟨h1, h2, h3⟩ := nm_seg hl (n := c) (j := j) e
    exact ⟨h1, by rw [h3, if_pos hm]⟩
  · rename_i hm
    injection e with e; injection e with e1 e2
    subst e2
    exact ⟨Nat.le_refl _, by rw [seg_self, if_neg hm]⟩
theorem nodeS_rd {l : List Int} (hl : okB l) : Rd l (nodeS l) encN := fun i x j e => by
  simp only [nodeS] at e
  cases hx : l[i]? with
  | none => rw [hx] at e; cases e
  | some op =>
    rw [hx] at e
    simp only at e
    split at e
    · rename_i hok
      cases ho : ownS l op (i + 1) with
      | none => rw [ho] at e; cases e
      | some a =>
        rw [ho] at e
        simp only at e
        cases hc : cntS l op a.2 with
        | none => rw [hc] at e; cases e
        | some c =>
          rw [hc] at e
          simp only at e
          cases hr : manyS (kidS l) c.1 c.2 with
          | none => rw [hr] at e; cases e
          | some r =>
            rw [hr] at e
            simp only [Option.map_some] at e
            injection e with e; injection e with e1 e2
            subst e1 e2
            obtain ⟨p1, p2⟩ := ownS_rd hl (n := a.1) (j := a.2) ho r.1
            obtain ⟨q1, q2⟩ := cntS_rd hl (c := c.1) (j := c.2) hc
            obtain ⟨r1, r2, r3⟩ := (kidS_rd hl).many c.1 c.2 r.1 r.2 hr
            simp only [okOp, Bool.and_eq_true, decide_eq_true_eq] at hok
            refine ⟨by omega, ?_⟩
            rw [← seg_app l (show i ≤ i + 1 by omega) (show i + 1 ≤ r.2 by omega), ← seg_app l p1 (show a.2 ≤ r.2 by omega), ← seg_app l q1 r2, seg_one hx, p2, q2, r3, ← r1]
            simp only [encN, List.singleton_append]
            rw [show op % 256 = op by omega]
    · cases e
theorem funS_rd {l : List Int} (hl : okB l) : Rd l (funS l) encF := fun i x j e => by
  simp only [funS] at e
  cases ha : nm l 2147483647 i with
  | none => rw [ha] at e; cases e
  | some a =>
    rw [ha] at e
    simp only at e
    cases hc : nm l 2147483647 a.2 with
    | none => rw [hc] at e; cases e
    | some c =>
      rw [hc] at e
      simp only at e
      cases hr : manyS (nodeS l) c.1 c.2 with
      | none => rw [hr] at e; cases e
      | some r =>
        rw [hr] at e
        simp only [Option.map_some] at e
        injection e with e; injection e with e1 e2
        subst e1 e2
        obtain ⟨p1, p2, p3⟩ := nm_seg hl (n := a.1) (j := a.2) ha
        obtain ⟨q1, q2, q3⟩ := nm_seg hl (n := c.1) (j := c.2) hc
        obtain ⟨r1, r2, r3⟩ := (nodeS_rd hl).many c.1 c.2 r.1 r.2 hr
        refine ⟨by omega, ?_⟩
        rw [← seg_app l p1 (show a.2 ≤ r.2 by omega), ← seg_app l q1 r2, p3, q3, r3]
        simp only [encF]
        rw [u64_nat p2, r1]
theorem funP_rd {l : List Int} (hl : okB l) : Rd l (funP l) (fun x => encF x.2) := fun i x j e => by
  simp only [funP] at e
  cases hr : funS l i with
  | none => rw [hr] at e; cases e
  | some r =>
    rw [hr] at e
    simp only [Option.map_some] at e
    injection e with e; injection e with e1 e2
    subst e1 e2
    exact funS_rd hl i r.1 r.2 hr
theorem rdL_enc {l : List Int} (hl : okB l) {r : List (Int × Fu)} (h : rdL l = some r) : encB (r.map (·.2)) = l := by
  simp only [rdL] at h
  split at h
  · rename_i hd
    cases hc : nm l 2147483647 3 with
    | none => rw [hc] at h; cases h
    | some c =>
      rw [hc] at h
      simp only at h
      cases hr : manyS (funP l) c.1 c.2 with
      | none => rw [hr] at h; cases h
      | some s =>
        rw [hr] at h
        simp only at h
        split at h
        · cases h
        · rename_i hlen
          injection h with h
          subst h
          obtain ⟨p1, p2, p3⟩ := nm_seg hl (n := c.1) (j := c.2) hc
          obtain ⟨r1, r2, r3⟩ := (funP_rd hl).many c.1 c.2 s.1 s.2 hr
          have e3 : seg l 0 3 = [66, 84, 1] := by
            rw [← seg_app l (show 0 ≤ 1 by omega) (show 1 ≤ 3 by omega), ← seg_app l (show 1 ≤ 2 by omega) (show 2 ≤ 3 by omega), seg_one hd.1, seg_one hd.2.1, seg_one hd.2.2]; rfl
          have e : seg l 0 s.2 = l := by simp only [seg, List.drop_zero, Nat.sub_zero]; exact List.take_of_length_le (by omega)
          rw [← seg_app l (show 0 ≤ 3 by omega) (show 3 ≤ s.2 by omega), ← seg_app l p1 r2, e3, p3, r3] at e
          rw [encB, List.length_map, r1, ← e, List.flatMap_map]
  · cases h
def Wr {α : Type} (l : List Int) (f : Nat → Option (α × Nat)) (enc : α → List Int) (x : α) : Prop := ∀ i, Sta l i (enc x) → f i = some (x, i + (enc x).length)
theorem Wr.many {α : Type} {l : List Int} {f : Nat → Option (α × Nat)} {enc : α → List Int} : ∀ (xs : List α) (i : Nat), (∀ x ∈ xs, Wr l f enc x) → Sta l i (xs.flatMap enc) → manyS f xs.length i = some (xs, i + (xs.flatMap enc).length)
  | [], i, _, _ => rfl
  | x :: xs, i, h, hs => by
    rw [List.flatMap_cons] at hs ⊢
    have h1 := h x (by simp) i hs.left
    have h2 := Wr.many xs (i + (enc x).length) (fun y hy => h y (by simp [hy])) hs.right
    simp only [List.length_cons, manyS, h1, h2, Option.map_some, List.length_append]
    rw [Nat.add_assoc]
structure Okn (x : Nd) : Prop where
  op : okOp x.op = true
  i64 : isI64 x.n
  own : ownB x.op = true → x.op = 1 ∨ 0 ≤ x.n
  no : ownB x.op = false → x.n = 0
  few : x.l.length ≤ 2147483647
  cnt : manyB x.op = false → x.l.length = kidN x.op
  kid : ∀ c ∈ x.l, 0 ≤ c ∧ c ≤ 2147483647
theorem nodeS_wr {l : List Int} (hl : okB l) {x : Nd} (h : Okn x) : Wr l (nodeS l) encN x := fun i hs => by
  obtain ⟨hop, ⟨hn1, hn2⟩, hown, hno, hfew, hcnt, hkid⟩ := h
  have hop' := hop
  simp only [okOp, Bool.and_eq_true, decide_eq_true_eq] at hop'
  have ho256 : x.op % 256 = x.op := by omega
  rw [encN, ho256] at hs ⊢
  have h0 := hs.head
  have h1 := hs.tail
  have hA : ownS l x.op (i + 1) = some (x.n, i + 1 + (if ownB x.op then num (laid x) else []).length) := by
    by_cases ho : ownB x.op = true
    · rw [if_pos ho] at h1 ⊢
      by_cases hp : x.op = 1
      · have hlt : laid x < 18446744073709551616 := laid_lt ⟨hn1, hn2⟩
        rw [ownS, if_pos hp, nm_num hl hlt (by omega) h1.left]
        simp only [Option.map_some]
        congr 2
        simp only [laid, if_pos hp, toZ]
        split <;> split <;> omega
      · have hlaid : laid x = x.n.toNat := by rw [laid, if_neg hp, u64]; have := (hown ho).resolve_left hp; omega
        have h0n := (hown ho).resolve_left hp
        have h1l := h1.left
        rw [hlaid] at h1l ⊢
        rw [ownS, if_neg hp, if_pos ho, nm_num hl (by omega) (by omega) h1l]
        simp only [Option.map_some]
        congr 2
        omega
    · have ho' : ownB x.op = false := by simpa using ho
      have hp : x.op ≠ 1 := fun q => by simp [ownB, q] at ho'
      rw [ownS, if_neg hp, if_neg ho, if_neg ho, hno ho']; rfl
  have hC : cntS l x.op (i + 1 + (if ownB x.op then num (laid x) else []).length) = some (x.l.length, i + 1 + (if ownB x.op then num (laid x) else []).length + (if manyB x.op then num x.l.length else []).length) := by
    have h2 := h1.right
    by_cases hm : manyB x.op = true
    · rw [if_pos hm] at h2 ⊢
      rw [cntS, if_pos hm, nm_num hl (by omega) hfew h2.left]
    · have hm' : manyB x.op = false := by simpa using hm
      rw [cntS, if_neg hm, if_neg hm, hcnt hm']; rfl
  have hK := Wr.many (f := kidS l) (enc := fun c => num (u64 c)) x.l _ (fun c hc k hk => by
    obtain ⟨c1, c2⟩ := hkid c hc
    have hu : u64 c = c.toNat := by unfold u64; omega
    have hk' : Sta l k (num (u64 c)) := hk
    show kidS l k = some (c, k + (num (u64 c)).length)
    rw [hu] at hk' ⊢
    rw [kidS, nm_num hl (by omega) (by omega) hk']
    simp only [Option.map_some]
    congr 2; omega) h1.right.right
  simp only [nodeS, h0, if_pos hop, hA, hC, hK, Option.map_some, List.length_cons, List.length_append]
  congr 2
  omega
structure Okf (f : Fu) : Prop where
  par : 0 ≤ f.params ∧ f.params ≤ 2147483647
  few : f.nodes.length ≤ 2147483647
  nodes : ∀ x ∈ f.nodes, Okn x
theorem funS_wr {l : List Int} (hl : okB l) {f : Fu} (h : Okf f) : Wr l (funS l) encF f := fun i hs => by
  obtain ⟨⟨h1, h2⟩, h3, h4⟩ := h
  have hu : u64 f.params = f.params.toNat := by unfold u64; omega
  rw [encF, hu] at hs ⊢
  have hN := Wr.many f.nodes _ (fun x hx => nodeS_wr hl (h4 x hx)) hs.right.right
  simp only [funS, nm_num hl (show f.params.toNat < 18446744073709551616 by omega) (show f.params.toNat ≤ 2147483647 by omega) hs.left, nm_num hl (show f.nodes.length < 18446744073709551616 by omega) h3 hs.right.left, hN, Option.map_some, List.length_append]
  congr 2
  · congr 1; omega
  · omega
theorem funP_many (l : List Int) : ∀ (c i : Nat), (manyS (funP l) c i).map (fun r => (r.1.map (·.2), r.2)) = manyS (funS l) c i
  | 0, i => rfl
  | c + 1, i => by
    simp only [manyS, funP]
    cases hf : funS l i with
    | none => rfl
    | some x =>
      simp only [Option.map_some]
      rw [← funP_many l c x.2]
      cases manyS (funP l) c x.2 <;> rfl
theorem rdL_wr {p : Pr} (h : ∀ f ∈ p, Okf f) (hp : p.length ≤ 2147483647) : ∃ r, rdL (encB p) = some r ∧ r.map (·.2) = p := by
  have hl := encB_ok p
  have hs := sta_self (encB p)
  obtain ⟨l, hll⟩ : ∃ l, l = encB p := ⟨_, rfl⟩
  have hs' : Sta l 0 ([66, 84, 1] ++ (num p.length ++ p.flatMap encF)) := by rw [hll]; exact hs
  rw [← hll] at hl ⊢
  have h3 := hs'.right
  have hN := nm_num hl (show p.length < 18446744073709551616 by omega) hp h3.left
  have hF := Wr.many p _ (fun f hf => funS_wr hl (h f hf)) h3.right
  simp only [List.length_cons, List.length_nil, Nat.zero_add] at hN hF
  rw [← funP_many] at hF
  cases hP : manyS (funP l) p.length (3 + (num p.length).length) with
  | none => rw [hP] at hF; cases hF
  | some r =>
    rw [hP] at hF
    simp only [Option.map_some] at hF
    injection hF with hF; injection hF with e1 e2
    have hlen : l.length = 3 + (num p.length).length + (p.flatMap encF).length := by rw [hll, encB]; simp; omega
    refine ⟨r.1, ?_, e1⟩
    have g0 := hs'.left.head
    have g1 := hs'.left.tail.head
    have g2 := hs'.left.tail.tail.head
    simp only [rdL, g0, g1, g2, and_self, if_true, hN, hP]
    rw [if_neg (by omega)]
theorem okf_of {f : Fu} (h : (whr f).2 = 0) (hi : ∀ x ∈ f.nodes, isI64 x.n) : Okf f := by
  have hv := valid_bd h
  simp only [whr] at h
  cases hp : places f with
  | inl a => rw [hp] at h; simp at h
  | inr A =>
    have ht := tree hp
    refine ⟨by omega, by omega, fun x hx => ?_⟩
    obtain ⟨j, hj, rfl⟩ := List.getElem_of_mem hx
    obtain ⟨d64, hb, hn⟩ := ht.ok j hj
    have hk : ∀ c ∈ f.nodes[j].l, 0 ≤ c ∧ c ≤ 2147483647 := fun c hc => by
      have := mem_kl ht (i := j) (c := c) (by rw [kl, nd_eq hj]; exact hc)
      have := ht.n200
      omega
    have hln := hv.2.2.2 _ hx
    rw [nd_eq hj] at hb hn
    generalize f.nodes[j] = x at *
    have hops : 1 ≤ x.op ∧ x.op ≤ 24 := by
      simp only [ben, chl, Bool.and_eq_true] at hb
      have := hb.1.1
      repeat' split at this
      all_goals first | omega | simp at this
    have hops' : x.op = 1 ∨ x.op = 2 ∨ x.op = 3 ∨ x.op = 4 ∨ x.op = 5 ∨ x.op = 6 ∨ x.op = 7 ∨ x.op = 8 ∨ x.op = 9 ∨ x.op = 10 ∨ x.op = 11 ∨ x.op = 12 ∨ x.op = 13 ∨ x.op = 14 ∨ x.op = 15 ∨ x.op = 16 ∨ x.op = 17 ∨ x.op = 18 ∨ x.op = 19 ∨ x.op = 20 ∨ x.op = 21 ∨ x.op = 22 ∨ x.op = 23 ∨ x.op = 24 := by omega
    have hI : (ownB x.op = true → x.op = 1 ∨ 0 ≤ x.n) ∧ (ownB x.op = false → x.n = 0) ∧ (manyB x.op = false → x.l.length = kidN x.op) := by
      clear hx hk hln hops ht hp hv
      generalize x.op = op at *
      generalize x.n = n at *
      generalize x.l.length = m at *
      rcases hops' with rfl | rfl | rfl | rfl | rfl | rfl | rfl | rfl | rfl | rfl | rfl | rfl | rfl | rfl | rfl | rfl | rfl | rfl | rfl | rfl | rfl | rfl | rfl | rfl <;>
        simp [ownB, manyB, kidN, nmb, nms, ben, chl] at hb hn ⊢ <;> omega
    exact ⟨by simp [okOp]; omega, hi _ hx, hI.1, hI.2.1, by omega, hI.2.2, hk⟩
end Go.Proofs.Ytpopbkiphdcilaa
namespace Go.Proofs.Ytpopbkiphdcilaa
set_option linter.unusedSimpArgs false
set_option linter.unusedVariables false
open Go.Sx
set_option maxHeartbeats 4000000
theorem hw00 : IntKind.i64.wrap 0 = 0 := by decide
theorem nm_in {l : List Int} (hl : okB l) {most i : Nat} {r : Nat × Nat} (h : nm l most i = some r) : r.2 ≤ l.length := by
  rcases nums_or l _ i (Nat.le_refl _) with ⟨c, hc⟩ | hn
  · rw [nm_eq hl most i c hc] at h
    split at h
    · injection h with h
      subst h
      have := hc.lt
      show i + c + 1 ≤ l.length
      omega
    · cases h
  · rw [nm_no most i hn] at h; cases h
theorem rsmall_bad (l : List Int) (ad : Option Addr) (cap i : Nat) (G : Hp) (h63 : l.length ≤ 9223372036854775807) :
    Pure Try.prog 44 [(.agg #[.slice ad l.length cap, .int .i64 ((i : Nat) : Int), .bool true])] G (fun r _ => r = .tuple #[(.agg #[.slice ad l.length cap, .int .i64 ((i : Nat) : Int), .bool true]), .int .i64 0]) := by
  refine enterX ty tyok Try.func44 rfl Try.ntmps44 [.a [.v (.slice ad l.length cap), .v (.int .i64 i), .v (.bool true)]] (by simp) ?_
  intro C hP hQ hnt hty hmb hmh hro; have hQp := qp_body hQ; refine st_ ?_
  refine rn_ ?_; intros
  refine go_callf (by rw [hnt]; rfl) (by rw [hP]; kernel_rfl) rfl (hP ▸ rnum_bad l ad cap i 2147483647 _ h63) ?_; refine rn_ ?_; intros
  rw [hw00]
  refine x_retc rfl hQ hmb rfl (by rw [hty]; simp only [so, sq, zy, zz, tyE, SO', SQ', opQ, opStore, opAlloc, ev, putS, dOk, cv, SV.cs, SV.one, SV.bool?, eqB, Value.oneCell', ldOwn, binInt, binConst, binBool, binStr, isC, TK.agg, rv, rv1, ldV, resOne, resV, Nat.reduceAdd, Nat.reduceMul, Nat.reduceSub, Nat.reduceLT, Nat.reduceLeDiff, Nat.reduceEqDiff, Nat.reduceBEq, reduceIte, reduceCtorEq, eq_self]; try rfl) rfl ?_; simp only [SV.den, resV, dens]
theorem rsmall_ok (l : List Int) (ad : Option Addr) (cap i : Nat) (G : Hp) (hl : rB.S G l (.slice ad l.length cap)) (hi : i ≤ l.length) :
    Pure Try.prog 44 [(.agg #[.slice ad l.length cap, .int .i64 ((i : Nat) : Int), .bool false])] G (fun r _ => numR l ad cap (nm l 2147483647 i) .i64 r) := by
  have h63 := Rp.S_len hl
  refine enterX ty tyok Try.func44 rfl Try.ntmps44 [.a [.v (.slice ad l.length cap), .v (.int .i64 i), .v (.bool false)]] (by simp) ?_
  intro C hP hQ hnt hty hmb hmh hro; have hQp := qp_body hQ; refine st_ ?_
  refine rn_ ?_; intros
  refine go_call (by rw [hnt]; rfl) (by rw [hP]; kernel_rfl) rfl (hP ▸ rnum_ok l ad cap i 2147483647 _ hl hi (by omega)) ?_
  rintro v G1 (hle1 : Le G G1) hv
  cases hn : nm l 2147483647 i with
  | none =>
    rw [hn] at hv
    obtain ⟨j, rfl⟩ := hv
    refine st_ ?_
    refine rn_ ?_; intros
    rw [hw00]
    refine x_retc rfl hQ hmb rfl (by rw [hty]; simp only [so, sq, zy, zz, tyE, SO', SQ', opQ, opStore, opAlloc, ev, putS, dOk, cv, SV.cs, SV.one, SV.bool?, eqB, Value.oneCell', ldOwn, binInt, binConst, binBool, binStr, isC, TK.agg, rv, rv1, ldV, resOne, resV, Nat.reduceAdd, Nat.reduceMul, Nat.reduceSub, Nat.reduceLT, Nat.reduceLeDiff, Nat.reduceEqDiff, Nat.reduceBEq, reduceIte, reduceCtorEq, eq_self]; try rfl) rfl ?_; simp only [SV.den, resV, dens]
    rw [hn]
    exact ⟨j, rfl⟩
  | some x =>
    rw [hn] at hv
    simp only [numR] at hv
    subst hv
    refine st_ ?_
    refine rn_ ?_; intros
    have := nm_le hn
    rw [wr (n := (x.1 : Int)) (by omega) (by omega)]
    refine x_retc rfl hQ hmb rfl (by rw [hty]; simp only [so, sq, zy, zz, tyE, SO', SQ', opQ, opStore, opAlloc, ev, putS, dOk, cv, SV.cs, SV.one, SV.bool?, eqB, Value.oneCell', ldOwn, binInt, binConst, binBool, binStr, isC, TK.agg, rv, rv1, ldV, resOne, resV, Nat.reduceAdd, Nat.reduceMul, Nat.reduceSub, Nat.reduceLT, Nat.reduceLeDiff, Nat.reduceEqDiff, Nat.reduceBEq, reduceIte, reduceCtorEq, eq_self]; try rfl) rfl ?_; simp only [SV.den, resV, dens]
    rw [hn]
    rfl

def rnodeR (l : List Int) (ad : Option Addr) (cap i : Nat) (r : Value) (G' : Hp) : Prop :=
  ∃ (x : Nd) (j : Nat) (bad : Bool) (sl : Value), r = .tuple #[.agg #[.slice ad l.length cap, .int .i64 ((j : Nat) : Int), .bool bad], .agg #[.int .i64 x.op, .int .i64 x.n, sl]] ∧ isI64 x.op ∧ isI64 x.n ∧ rI.S G' x.l sl ∧
    (match nodeS l i with | some y => bad = false ∧ y = (x, j) ∧ j ≤ l.length | none => bad = true)
theorem rnode_ok (l : List Int) (ad : Option Addr) (cap i : Nat) (G : Hp) (hl : rB.S G l (.slice ad l.length cap)) (hi : i ≤ l.length) :
    Pure Try.prog 45 [(.agg #[.slice ad l.length cap, .int .i64 ((i : Nat) : Int), .bool false])] G (rnodeR l ad cap i) := by
  have h63 := Rp.S_len hl
  have hb := rB_ok hl
  refine enterX ty tyok Try.func45 rfl Try.ntmps45 [.a [.v (.slice ad l.length cap), .v (.int .i64 i), .v (.bool false)]] (by simp) ?_
  intro C hP hQ hnt hty hmb hmh hro; have hQp := qp_body hQ; refine st_ ?_
  refine rn_ ?_; intros
  rename_i b1 b2 b3
  rcases Nat.lt_or_ge i l.length with hlt | hge
  rotate_left
  · have hno : nodeS l i = none := by rw [nodeS, List.getElem?_eq_none (by omega)]
    refine go_callf (by rw [hnt]; rfl) (by rw [hP]; kernel_rfl) rfl (hP ▸ rbyte_bad l ad cap i false _ h63 (.inr (by omega))) ?_; refine rn_ ?_; intros
    rename_i b4
    (refine go_gsplit rfl rfl (fun _ => ?_) (fun hc => absurd hc (by first | decide +kernel | simp)); refine st_ ?_; (refine rn_ ?_; intros))
    repeat (refine go_gundef rfl (by rw [hnt]; rfl) rfl ?_; (refine st_ ?_; (refine rn_ ?_; intros)))
    refine rn_ ?_; intros
    refine x_held [(0, b1, .c 89 [.v (.slice ad l.length cap), .v (.int .i64 ((i : Nat) : Int)), .b true]), (3, b4, .c 62 [.v (.int .i64 (0)), .v (.int .i64 (0)), .v (.slice none 0 0)])] rfl (by rw [hP]; kernel_rfl) rfl rfl rfl ?_; refine st_ ?_
    refine h_take 0 rfl (by kernel_rfl) (by kernel_rfl) (by kernel_rfl) hQp (by rw [hnt]; rfl) (allIn (by repeat (first | exact trivial | refine ⟨rfl, ?_⟩))) (by first | exact Le.refl _ | assumption) (quiet_op (by rw [hty]; first | rfl | (refine st_ ?_; rfl))) ?_; refine st_ ?_
    refine h_take 1 rfl (by kernel_rfl) (by kernel_rfl) (by kernel_rfl) hQp (by rw [hnt]; rfl) (allIn (by repeat (first | exact trivial | refine ⟨rfl, ?_⟩))) (by first | exact Le.refl _ | assumption) (quiet_op (by rw [hty]; first | rfl | (refine st_ ?_; rfl))) ?_; refine st_ ?_
    refine h_one 2 rfl (by kernel_rfl) ?_
    refine rn_ ?_; intros
    refine h_hs (allIn (by repeat (first | exact trivial | refine ⟨rfl, ?_⟩))) (by first | exact Le.refl _ | assumption) ?_
    refine h_one 3 rfl (by kernel_rfl) ?_
    refine rn_ ?_; intros
    refine h_hs (allIn (by repeat (first | exact trivial | refine ⟨rfl, ?_⟩))) (by first | exact Le.refl _ | assumption) ?_
    refine h_end (by kernel_rfl) ?_
    refine rn_ ?_; intros
    refine x_retc rfl hQ hmb rfl (by rw [hty]; simp only [so, sq, zy, zz, tyE, SO', SQ', opQ, opStore, opAlloc, ev, putS, dOk, cv, SV.cs, SV.one, SV.bool?, eqB, Value.oneCell', ldOwn, binInt, binConst, binBool, binStr, isC, TK.agg, rv, rv1, ldV, resOne, resV, Nat.reduceAdd, Nat.reduceMul, Nat.reduceSub, Nat.reduceLT, Nat.reduceLeDiff, Nat.reduceEqDiff, Nat.reduceBEq, reduceIte, reduceCtorEq, eq_self]; try rfl) rfl ?_; simp only [SV.den, resV, dens]
    exact ⟨⟨0, 0, []⟩, i, true, .slice none 0 0, rfl, by constructor <;> (try simp only []) <;> first | decide | omega, by constructor <;> (try simp only []) <;> decide, Rp.S_nil none 0, by rw [hno]⟩
  · refine go_callf (by rw [hnt]; rfl) (by rw [hP]; kernel_rfl) rfl (hP ▸ rbyte_get l ad cap i _ hl hlt) ?_; refine rn_ ?_; intros
    rename_i b4
    have hop0 := hb l[i] (List.getElem_mem hlt)
    have hget : l[i]? = some l[i] := List.getElem?_eq_getElem hlt
    generalize l[i] = op at *
    rcases Int.lt_or_le op 1 with hlo | hlo
    · have hno : nodeS l i = none := by rw [nodeS, hget]; simp only []; rw [if_neg (by simp [okOp]; omega)]
      (refine go_gsplit rfl rfl (fun _ => ?_) (fun hc => absurd hc (by (have h1 := of_decide_eq_false hc; omega))); refine st_ ?_; (refine rn_ ?_; intros))
      repeat (refine go_gundef rfl (by rw [hnt]; rfl) rfl ?_; (refine st_ ?_; (refine rn_ ?_; intros)))
      refine rn_ ?_; intros
      refine x_held [(0, b1, .c 89 [.v (.slice ad l.length cap), .v (.int .i64 (((i + 1) : Nat) : Int)), .b true]), (3, b4, .c 62 [.v (.int .i64 (op)), .v (.int .i64 (0)), .v (.slice none 0 0)])] rfl (by rw [hP]; kernel_rfl) rfl rfl rfl ?_; refine st_ ?_
      refine h_take 0 rfl (by kernel_rfl) (by kernel_rfl) (by kernel_rfl) hQp (by rw [hnt]; rfl) (allIn (by repeat (first | exact trivial | refine ⟨rfl, ?_⟩))) (by first | exact Le.refl _ | assumption) (quiet_op (by rw [hty]; first | rfl | (refine st_ ?_; rfl))) ?_; refine st_ ?_
      refine h_take 1 rfl (by kernel_rfl) (by kernel_rfl) (by kernel_rfl) hQp (by rw [hnt]; rfl) (allIn (by repeat (first | exact trivial | refine ⟨rfl, ?_⟩))) (by first | exact Le.refl _ | assumption) (quiet_op (by rw [hty]; first | rfl | (refine st_ ?_; rfl))) ?_; refine st_ ?_
      refine h_one 2 rfl (by kernel_rfl) ?_
      refine rn_ ?_; intros
      refine h_hs (allIn (by repeat (first | exact trivial | refine ⟨rfl, ?_⟩))) (by first | exact Le.refl _ | assumption) ?_
      refine h_one 3 rfl (by kernel_rfl) ?_
      refine rn_ ?_; intros
      refine h_hs (allIn (by repeat (first | exact trivial | refine ⟨rfl, ?_⟩))) (by first | exact Le.refl _ | assumption) ?_
      refine h_end (by kernel_rfl) ?_
      refine rn_ ?_; intros
      refine x_retc rfl hQ hmb rfl (by rw [hty]; simp only [so, sq, zy, zz, tyE, SO', SQ', opQ, opStore, opAlloc, ev, putS, dOk, cv, SV.cs, SV.one, SV.bool?, eqB, Value.oneCell', ldOwn, binInt, binConst, binBool, binStr, isC, TK.agg, rv, rv1, ldV, resOne, resV, Nat.reduceAdd, Nat.reduceMul, Nat.reduceSub, Nat.reduceLT, Nat.reduceLeDiff, Nat.reduceEqDiff, Nat.reduceBEq, reduceIte, reduceCtorEq, eq_self]; try rfl) rfl ?_; simp only [SV.den, resV, dens]
      exact ⟨⟨op, 0, []⟩, (i + 1), true, .slice none 0 0, rfl, by constructor <;> (try simp only []) <;> first | decide | omega, by constructor <;> (try simp only []) <;> decide, Rp.S_nil none 0, by rw [hno]⟩
    (refine go_gsplit rfl rfl (fun hc => absurd hc (by (have h1 := of_decide_eq_true hc; omega))) (fun _ => ?_); refine st_ ?_; (refine rn_ ?_; intros))
    refine x_split rfl rfl rfl (fun hhi => ?_) (fun hhi => ?_) <;> (refine st_ ?_; (refine ru_ ?_; intros))
    · have hhi' := of_decide_eq_true hhi
      have hno : nodeS l i = none := by rw [nodeS, hget]; simp only []; rw [if_neg (by simp [okOp]; omega)]
      refine rn_ ?_; intros
      refine x_held [(0, b1, .c 89 [.v (.slice ad l.length cap), .v (.int .i64 (((i + 1) : Nat) : Int)), .b true]), (3, b4, .c 62 [.v (.int .i64 (op)), .v (.int .i64 (0)), .v (.slice none 0 0)])] rfl (by rw [hP]; kernel_rfl) rfl rfl rfl ?_; refine st_ ?_
      refine h_take 0 rfl (by kernel_rfl) (by kernel_rfl) (by kernel_rfl) hQp (by rw [hnt]; rfl) (allIn (by repeat (first | exact trivial | refine ⟨rfl, ?_⟩))) (by first | exact Le.refl _ | assumption) (quiet_op (by rw [hty]; first | rfl | (refine st_ ?_; rfl))) ?_; refine st_ ?_
      refine h_take 1 rfl (by kernel_rfl) (by kernel_rfl) (by kernel_rfl) hQp (by rw [hnt]; rfl) (allIn (by repeat (first | exact trivial | refine ⟨rfl, ?_⟩))) (by first | exact Le.refl _ | assumption) (quiet_op (by rw [hty]; first | rfl | (refine st_ ?_; rfl))) ?_; refine st_ ?_
      refine h_one 2 rfl (by kernel_rfl) ?_
      refine rn_ ?_; intros
      refine h_hs (allIn (by repeat (first | exact trivial | refine ⟨rfl, ?_⟩))) (by first | exact Le.refl _ | assumption) ?_
      refine h_one 3 rfl (by kernel_rfl) ?_
      refine rn_ ?_; intros
      refine h_hs (allIn (by repeat (first | exact trivial | refine ⟨rfl, ?_⟩))) (by first | exact Le.refl _ | assumption) ?_
      refine h_end (by kernel_rfl) ?_
      refine rn_ ?_; intros
      refine x_retc rfl hQ hmb rfl (by rw [hty]; simp only [so, sq, zy, zz, tyE, SO', SQ', opQ, opStore, opAlloc, ev, putS, dOk, cv, SV.cs, SV.one, SV.bool?, eqB, Value.oneCell', ldOwn, binInt, binConst, binBool, binStr, isC, TK.agg, rv, rv1, ldV, resOne, resV, Nat.reduceAdd, Nat.reduceMul, Nat.reduceSub, Nat.reduceLT, Nat.reduceLeDiff, Nat.reduceEqDiff, Nat.reduceBEq, reduceIte, reduceCtorEq, eq_self]; try rfl) rfl ?_; simp only [SV.den, resV, dens]
      exact ⟨⟨op, 0, []⟩, (i + 1), true, .slice none 0 0, rfl, by constructor <;> (try simp only []) <;> first | decide | omega, by constructor <;> (try simp only []) <;> decide, Rp.S_nil none 0, by rw [hno]⟩
    have hhi' : op ≤ 24 := by have := of_decide_eq_false hhi; omega
    have hok : okOp op = true := by simp [okOp]; omega
    have hnS : nodeS l i = match ownS l op (i + 1) with
        | none => none
        | some a => match cntS l op a.2 with
          | none => none
          | some c => (manyS (kidS l) c.1 c.2).map fun r => (⟨op, a.1, r.1⟩, r.2) := by rw [nodeS, hget]; simp only []; rw [if_pos hok]; try rfl
    refine rn_ ?_; intros
    refine go_callf (by rw [hnt]; rfl) (by rw [hP]; kernel_rfl) rfl (hP ▸ rown_ok op _) ?_; refine rn_ ?_; intros
    refine go_keep [1, 2, 3, 4, 5, 30] [0, 1, 2, 3] ?_
    refine st_ ?_
    refine cut_tail 1 (fun s' => ∃ (n : Int) (a : Nat) (bad : Bool) (G' : Hp), Le G G' ∧ isI64 n ∧ (match ownS l op (i + 1) with | some r => bad = false ∧ r = (n, a) ∧ a ≤ l.length | none => bad = true) ∧
      s' = ⟨[(1, .p 0 b1 0), (2, .p 1 b2 0), (3, .p 2 b3 0), (4, .v (.int .i64 op)), (5, .p 3 b4 0)], [(0, b1, .c 89 [.v (.slice ad l.length cap), .v (.int .i64 ((a : Nat) : Int)), .v (.bool bad)]),
        (1, b2, .c 89 [.v (.slice none 0 0), .v (.int .i64 0), .v (.bool false)]), (2, b3, .c 62 [.v (.int .i64 0), .v (.int .i64 0), .v (.slice none 0 0)]), (3, b4, .c 62 [.v (.int .i64 op), .v (.int .i64 n), .v (.slice none 0 0)])], G', []⟩) ?_ (fun key => ?_)
    rotate_left
    · refine x_if rfl rfl rfl rfl (fun ho => ?_) (fun ho => ?_)
      · rcases Int.lt_trichotomy op 1 with q | q | q
        · omega
        · subst q
          refine rn_ ?_; intros
          repeat (simp only [Int.reduceLT, Int.reduceLE, Int.reduceEq, Int.reduceNeg, Int.le_refl, Int.reduceToNat, if_false, if_true, and_self]; refine st_ ?_; refine rn_ ?_; intros)
          (refine x_split rfl rfl rfl (fun _ => ?_) (fun hc => absurd hc (by first | decide +kernel | simp)); refine st_ ?_; (refine ru_ ?_; intros))
          refine rn_ ?_; intros
          refine go_call (by rw [hnt]; rfl) (by rw [hP]; kernel_rfl) rfl (hP ▸ rnum_ok l ad cap (i + 1) 18446744073709551615 _ hl (by omega) (by omega)) ?_
          rintro v G1 (hle1 : Le G G1) hv
          cases hn : nm l 18446744073709551615 (i + 1) with
          | none =>
            have hown : ownS l 1 (i + 1) = none := by rw [ownS, if_pos rfl, hn]; rfl
            rw [hn] at hv
            obtain ⟨j, rfl⟩ := hv
            refine st_ ?_
            refine rn_ ?_; intros
            repeat (simp only [Int.reduceLT, Int.reduceLE, Int.reduceEq, Int.reduceNeg, Int.le_refl, Int.reduceToNat, if_false, if_true, and_self]; refine st_ ?_; refine rn_ ?_; intros)
            refine x_if rfl rfl rfl rfl (fun _ => ?_) (fun hc => absurd hc (by decide))
            refine rn_ ?_; intros
            repeat (simp only [Int.reduceLT, Int.reduceLE, Int.reduceEq, Int.reduceNeg, Int.le_refl, Int.reduceToNat, if_false, if_true, and_self]; refine st_ ?_; refine rn_ ?_; intros)
            rw [show IntKind.i64.wrap (IntKind.u64.wrap (Int.tdiv 0 2)) = 0 by decide]
            refine x_if rfl rfl rfl rfl (fun hc => absurd hc (by decide)) (fun _ => ?_)
            refine x_skip rfl ?_
            refine go_keep [1, 2, 3, 4, 5] [0, 1, 2, 3] ?_
            refine st_ ?_
            exact key _ ⟨0, j, true, G1, hle1, (by simp [isI64]), by rw [hown], rfl⟩
          | some x =>
            have hown : ownS l 1 (i + 1) = some (toZ x.1, x.2) := by rw [ownS, if_pos rfl, hn]; rfl
            have hxm := nm_le hn
            have hin := nm_in hb hn
            rw [hn] at hv
            simp only [numR] at hv
            subst hv
            refine st_ ?_
            refine rn_ ?_; intros
            repeat (simp only [Int.reduceLT, Int.reduceLE, Int.reduceEq, Int.reduceNeg, Int.le_refl, Int.reduceToNat, if_false, if_true, and_self]; refine st_ ?_; refine rn_ ?_; intros)
            refine x_if rfl rfl rfl rfl (fun _ => ?_) (fun hc => absurd hc (by decide))
            refine rn_ ?_; intros
            repeat (simp only [Int.reduceLT, Int.reduceLE, Int.reduceEq, Int.reduceNeg, Int.le_refl, Int.reduceToNat, if_false, if_true, and_self]; refine st_ ?_; refine rn_ ?_; intros)
            have hdv : IntKind.u64.wrap (((x.1 : Nat) : Int).tdiv 2) = ((x.1 / 2 : Nat) : Int) := by rw [Int.tdiv_eq_ediv_of_nonneg (by omega), w64]; omega
            have hmd : ((x.1 : Nat) : Int).tmod 2 = ((x.1 % 2 : Nat) : Int) := by rw [Int.tmod_eq_emod_of_nonneg (by omega)]; omega
            rw [hdv, hmd, wr (n := ((x.1 / 2 : Nat) : Int)) (by omega) (by omega)]
            refine x_if rfl rfl rfl rfl (fun h3 => ?_) (fun h3 => ?_)
            · have h3' : x.1 % 2 = 1 := by have := eq_of_beq h3; omega
              refine x_reg rfl rfl ?_
              refine runo0 400 hty hnt hmh ?_; refine st_ ?_
              refine go_ops ?_
              rw [wr (n := 0 - ((x.1 / 2 : Nat) : Int)) (by omega) (by omega), wr (n := 0 - ((x.1 / 2 : Nat) : Int) - 1) (by omega) (by omega)]
              have e : toZ x.1 = 0 - ((x.1 / 2 : Nat) : Int) - 1 := by rw [toZ, if_pos h3']; omega
              rw [← e]
              refine go_keep [1, 2, 3, 4, 5] [0, 1, 2, 3] ?_
              refine st_ ?_
              exact key _ ⟨toZ x.1, x.2, false, G1, hle1, by constructor <;> omega, by rw [hown]; exact ⟨rfl, rfl, hin⟩, rfl⟩
            · have h3' : ¬ x.1 % 2 = 1 := by have := ne_of_beq_false h3; omega
              refine x_skip rfl ?_
              have e : toZ x.1 = ((x.1 / 2 : Nat) : Int) := by rw [toZ, if_neg h3']
              rw [← e]
              refine go_keep [1, 2, 3, 4, 5] [0, 1, 2, 3] ?_
              refine st_ ?_
              exact key _ ⟨toZ x.1, x.2, false, G1, hle1, by constructor <;> omega, by rw [hown]; exact ⟨rfl, rfl, hin⟩, rfl⟩
        · have h1' : op ≠ 1 := by omega
          refine rn_ ?_; intros
          (refine x_split rfl rfl rfl (fun hc => absurd hc (by simp; omega)) (fun _ => ?_); refine st_ ?_; (refine ru_ ?_; intros))
          refine rn_ ?_; intros
          refine go_call (by rw [hnt]; rfl) (by rw [hP]; kernel_rfl) rfl (hP ▸ rnum_ok l ad cap (i + 1) 9223372036854775807 _ hl (by omega) (by omega)) ?_
          rintro v G1 (hle1 : Le G G1) hv
          cases hn : nm l 9223372036854775807 (i + 1) with
          | none =>
            have hown : ownS l op (i + 1) = none := by rw [ownS, if_neg h1', if_pos ho, hn]; rfl
            rw [hn] at hv
            obtain ⟨j, rfl⟩ := hv
            refine st_ ?_
            refine rn_ ?_; intros
            refine x_if rfl rfl rfl rfl (fun hc => absurd hc (by simp; omega)) (fun _ => ?_)
            refine x_skip rfl ?_
            rw [hw00]
            refine go_keep [1, 2, 3, 4, 5] [0, 1, 2, 3] ?_
            refine st_ ?_
            exact key _ ⟨0, j, true, G1, hle1, (by simp [isI64]), by rw [hown], rfl⟩
          | some x =>
            have hown : ownS l op (i + 1) = some ((x.1 : Int), x.2) := by rw [ownS, if_neg h1', if_pos ho, hn]; rfl
            have hxm := nm_le hn
            have hin := nm_in hb hn
            rw [hn] at hv
            simp only [numR] at hv
            subst hv
            refine st_ ?_
            refine rn_ ?_; intros
            refine x_if rfl rfl rfl rfl (fun hc => absurd hc (by simp; omega)) (fun _ => ?_)
            refine x_skip rfl ?_
            rw [wr (n := (x.1 : Int)) (by omega) (by omega)]
            refine go_keep [1, 2, 3, 4, 5] [0, 1, 2, 3] ?_
            refine st_ ?_
            exact key _ ⟨x.1, x.2, false, G1, hle1, by constructor <;> omega, by rw [hown]; exact ⟨rfl, rfl, hin⟩, rfl⟩
      · refine x_skip rfl ?_
        have hown : ownS l op (i + 1) = some (0, i + 1) := by rw [ownS, if_neg (fun q => by simp [ownB, q] at ho), ho]; rfl
        refine go_keep [1, 2, 3, 4, 5] [0, 1, 2, 3] ?_
        refine st_ ?_
        exact key _ ⟨0, i + 1, false, G, Le.refl _, (by simp [isI64]), by rw [hown]; exact ⟨rfl, rfl, by omega⟩, rfl⟩
    rintro st ⟨n, a, bad, G2, hle2, hn64, hm, rfl⟩
    have hm2 : (bad = true ∧ nodeS l i = none) ∨ (bad = false ∧ a ≤ l.length ∧ nodeS l i = match cntS l op a with
          | none => none
          | some c => (manyS (kidS l) c.1 c.2).map fun r => (⟨op, n, r.1⟩, r.2)) := by
      rw [hnS]
      cases ho : ownS l op (i + 1) with
      | none => rw [ho] at hm; exact .inl ⟨hm, rfl⟩
      | some r => rw [ho] at hm; obtain ⟨h1, rfl, h2⟩ := hm; exact .inr ⟨h1, h2, rfl⟩
    clear hm hnS
    simp only [List.drop_succ_cons, List.drop_zero]
    refine rn_ ?_; intros
    refine go_callf (by rw [hnt]; rfl) (by rw [hP]; kernel_rfl) rfl (hP ▸ rbeneath_ok op _) ?_; refine rn_ ?_; intros
    have hmb' : decide ((if manyB op = true then (-1 : Int) else if okOp op = true then (kidN op : Int) else 2) < 0) = manyB op := by
      cases hq : manyB op with
      | true => simp
      | false => by_cases ho : okOp op = true <;> simp [ho]
    rw [hmb']
    refine cut_tail 1 (fun s' => ∃ (c a : Nat) (bad : Bool) (G' : Hp), Le G2 G' ∧ ((bad = true ∧ nodeS l i = none) ∨ (bad = false ∧ a ≤ l.length ∧ nodeS l i = (manyS (kidS l) c a).map fun r => (⟨op, n, r.1⟩, r.2))) ∧ c ≤ 2147483647 ∧
      s' = ⟨[(1, .p 0 b1 0), (2, .p 1 b2 0), (3, .p 2 b3 0), (5, .p 3 b4 0), (9, .v (.int .i64 c))], [(0, b1, .c 89 [.v (.slice ad l.length cap), .v (.int .i64 ((a : Nat) : Int)), .v (.bool bad)]),
        (1, b2, .c 89 [.v (.slice none 0 0), .v (.int .i64 0), .v (.bool false)]), (2, b3, .c 62 [.v (.int .i64 0), .v (.int .i64 0), .v (.slice none 0 0)]), (3, b4, .c 62 [.v (.int .i64 op), .v (.int .i64 n), .v (.slice none 0 0)])], G', []⟩) ?_ (fun key => ?_)
    rotate_left
    · rcases hm2 with ⟨rfl, hno⟩ | ⟨rfl, ha, hnS⟩
      · refine x_if rfl rfl rfl rfl (fun hmy => ?_) (fun hmy => ?_)
        · refine x_reg rfl rfl ?_
          refine runo0 400 hty hnt hmh ?_; refine st_ ?_
          refine go_callf (by rw [hnt]; rfl) (by rw [hP]; kernel_rfl) rfl (hP ▸ rsmall_bad l ad cap a _ h63) ?_
          refine st_ ?_
          refine runo0 400 hty hnt hmh ?_; refine st_ ?_
          refine go_ops ?_
          refine go_keep [1, 2, 3, 5, 9] [0, 1, 2, 3] ?_
          refine st_ ?_
          exact key _ ⟨0, a, true, G2, Le.refl _, .inl ⟨rfl, hno⟩, by omega, rfl⟩
        · refine x_skip rfl ?_
          rw [hmy]
          simp only [Bool.false_eq_true, if_false]
          rw [if_pos hok]
          refine go_keep [1, 2, 3, 5, 9] [0, 1, 2, 3] ?_
          refine st_ ?_
          exact key _ ⟨kidN op, a, true, G2, Le.refl _, .inl ⟨rfl, hno⟩, kid_le op, rfl⟩
      · refine x_if rfl rfl rfl rfl (fun hmy => ?_) (fun hmy => ?_)
        · refine x_reg rfl rfl ?_
          refine runo0 400 hty hnt hmh ?_; refine st_ ?_
          refine go_call (by rw [hnt]; rfl) (by rw [hP]; kernel_rfl) rfl (hP ▸ rsmall_ok l ad cap a _ (Rp.S_mono hle2 hl) ha) ?_
          rintro v G3 (hle3 : Le G2 G3) hv
          cases hn : nm l 2147483647 a with
          | none =>
            have hcS : cntS l op a = none := by rw [cntS, if_pos hmy, hn]
            rw [hcS] at hnS
            rw [hn] at hv
            obtain ⟨j, rfl⟩ := hv
            refine st_ ?_
            refine runo0 400 hty hnt hmh ?_; refine st_ ?_
            refine go_ops ?_
            refine go_keep [1, 2, 3, 5, 9] [0, 1, 2, 3] ?_
            refine st_ ?_
            exact key _ ⟨0, j, true, G3, hle3, .inl ⟨rfl, hnS⟩, by omega, rfl⟩
          | some x =>
            have hcS : cntS l op a = some x := by rw [cntS, if_pos hmy, hn]
            rw [hcS] at hnS
            have hxm := nm_le hn
            have hin := nm_in hb hn
            rw [hn] at hv
            simp only [numR] at hv
            subst hv
            refine st_ ?_
            refine runo0 400 hty hnt hmh ?_; refine st_ ?_
            refine go_ops ?_
            refine go_keep [1, 2, 3, 5, 9] [0, 1, 2, 3] ?_
            refine st_ ?_
            exact key _ ⟨x.1, x.2, false, G3, hle3, .inr ⟨rfl, hin, hnS⟩, hxm, rfl⟩
        · refine x_skip rfl ?_
          have hcS : cntS l op a = some (kidN op, a) := by rw [cntS, hmy]; rfl
          rw [hcS] at hnS
          rw [hmy]
          simp only [Bool.false_eq_true, if_false]
          rw [if_pos hok]
          refine go_keep [1, 2, 3, 5, 9] [0, 1, 2, 3] ?_
          refine st_ ?_
          exact key _ ⟨kidN op, a, false, G2, Le.refl _, .inr ⟨rfl, ha, hnS⟩, kid_le op, rfl⟩
    clear hm2 a bad
    rintro st ⟨c, a0, bad, G3, hle3, hm2, hc32, rfl⟩
    simp only [List.drop_succ_cons, List.drop_zero]
    refine rn_ ?_; intros
    refine go_nilrow 41 3 1 rfl (by omega) ?_
    refine go_keep [1, 2, 3, 5, 9, 10] [0, 1, 2, 3, 41] ?_
    refine st_ ?_
    have hle03 : Le G G3 := hle2.trans hle3
    refine x_loop rfl (fun q st => ∃ (j a : Nat) (bad : Bool) (pre : List Int) (v : Value) (G' : Hp), q = (c - j) + (if bad then 0 else 1) ∧ j ≤ c ∧ pre.length = j ∧ (∀ n ∈ pre, isI64 n) ∧ Le G3 G' ∧
      ((bad = true ∧ nodeS l i = none) ∨ (bad = false ∧ a ≤ l.length ∧ MInv (kidS l) c a0 j pre a ∧ nodeS l i = (manyS (kidS l) c a0).map fun r => (⟨op, n, r.1⟩, r.2))) ∧
      st = ⟨[(1, .p 0 b1 0), (2, .p 1 b2 0), (3, .p 2 b3 0), (5, .p 3 b4 0), (9, .v (.int .i64 c)), (10, .v (.int .i64 j))], [(0, b1, .c 89 [.v (.slice ad l.length cap), .v (.int .i64 ((a : Nat) : Int)), .v (.bool bad)]),
        (1, b2, .c 89 [.v (.slice none 0 0), .v (.int .i64 0), .v (.bool false)]), (2, b3, .c 62 [.v (.int .i64 0), .v (.int .i64 0), .v (.slice none 0 0)]), (3, b4, .c 62 [.v (.int .i64 op), .v (.int .i64 n), .v v]), (41, 0, .row v 3 1 pre.length (pre.map (Value.int .i64 ·)))], G', []⟩)
      ⟨0, a0, bad, [], .slice none 0 0, G3, rfl, by omega, rfl, (fun n hn => by simp at hn), Le.refl _, hm2.imp id fun h => ⟨h.1, h.2.1, MInv.start _ _ _, h.2.2⟩, rfl⟩ ?_
    clear hm2 bad
    rintro q st ⟨j, a, bad, pre, v, G4, hq, hjc, hpl, hp64, hle4, hm2, rfl⟩ ih
    refine go_rowS 41 rfl ?_
    rintro adv capv rfl
    refine rn_ ?_; intros
    refine go_gsplit rfl rfl (fun hjl => ?_) (fun hjl => ?_) <;> (refine st_ ?_; (refine rn_ ?_; intros))
    · have hjc' : j < c := by have := of_decide_eq_true hjl; omega
      rcases hm2 with ⟨rfl, hno⟩ | ⟨rfl, ha, hM, hnS⟩
      · refine x_if rfl rfl rfl rfl (fun hc => absurd hc (by decide)) (fun _ => ?_)
        obtain ⟨bad, hbad⟩ : ∃ bad, bad = true := ⟨_, rfl⟩
        rw [← hbad]
        refine rn_ ?_; intros
        refine go_pubL rI 41 rfl (by omega) (ts := pre) rfl (by omega) (rI_L.2 ⟨rfl, hp64⟩) ?_
        rintro G5 ad5 cap5 (hle5 : Le G4 G5) hse hS5
        injection hse with e1 _ e3
        subst e1 e3
        refine x_held [(0, b1, .c 89 [.v (.slice ad l.length cap), .v (.int .i64 ((a : Nat) : Int)), .v (.bool bad)]), (3, b4, .c 62 [.v (.int .i64 (op)), .v (.int .i64 (n)), .v (.slice adv pre.length capv)])] rfl (by rw [hP]; kernel_rfl) rfl rfl rfl ?_; refine st_ ?_
        refine h_take 0 rfl (by kernel_rfl) (by kernel_rfl) (by kernel_rfl) hQp (by rw [hnt]; rfl) (allIn (by repeat (first | exact trivial | refine ⟨rfl, ?_⟩))) (by first | exact Le.refl _ | assumption) (quiet_op (by rw [hty]; first | rfl | (refine st_ ?_; rfl))) ?_; refine st_ ?_
        refine h_take 1 rfl (by kernel_rfl) (by kernel_rfl) (by kernel_rfl) hQp (by rw [hnt]; rfl) (allIn (by repeat (first | exact trivial | refine ⟨rfl, ?_⟩))) (by first | exact Le.refl _ | assumption) (quiet_op (by rw [hty]; first | rfl | (refine st_ ?_; rfl))) ?_; refine st_ ?_
        refine h_one 2 rfl (by kernel_rfl) ?_
        refine rn_ ?_; intros
        refine h_hs (allIn (by repeat (first | exact trivial | refine ⟨rfl, ?_⟩))) (by first | exact Le.refl _ | assumption) ?_
        refine h_one 3 rfl (by kernel_rfl) ?_
        refine rn_ ?_; intros
        refine h_hs (allIn (by repeat (first | exact trivial | refine ⟨rfl, ?_⟩))) (by first | exact Le.refl _ | assumption) ?_
        refine h_end (by kernel_rfl) ?_
        refine rn_ ?_; intros
        refine x_retc rfl hQ hmb rfl (by rw [hty]; simp only [so, sq, zy, zz, tyE, SO', SQ', opQ, opStore, opAlloc, ev, putS, dOk, cv, SV.cs, SV.one, SV.bool?, eqB, Value.oneCell', ldOwn, binInt, binConst, binBool, binStr, isC, TK.agg, rv, rv1, ldV, resOne, resV, Nat.reduceAdd, Nat.reduceMul, Nat.reduceSub, Nat.reduceLT, Nat.reduceLeDiff, Nat.reduceEqDiff, Nat.reduceBEq, reduceIte, reduceCtorEq, eq_self]; try rfl) rfl ?_; simp only [SV.den, resV, dens]
        refine ⟨⟨op, n, pre⟩, a, bad, _, rfl, by constructor <;> (try simp only []) <;> omega, hn64, hS5, ?_⟩
        rw [hno]; exact hbad
      · refine x_if rfl rfl rfl rfl (fun _ => ?_) (fun hc => absurd hc (by decide))
        refine rn_ ?_; intros
        refine go_call (by rw [hnt]; rfl) (by rw [hP]; kernel_rfl) rfl (hP ▸ rsmall_ok l ad cap a _ (Rp.S_mono (hle03.trans hle4) hl) ha) ?_
        rintro v G5 (hle5 : Le G4 G5) hv
        cases hn : nm l 2147483647 a with
        | none =>
          have hno : nodeS l i = none := by rw [hnS, hM.none hjc' (by rw [kidS, hn]; rfl)]; rfl
          rw [hn] at hv
          obtain ⟨aj, rfl⟩ := hv
          refine st_ ?_
          refine rn_ ?_; intros
          refine go_append 41 (by rw [hnt]; rfl) (by rw [hty]; rfl) (by rw [hty]; rfl) (by decide) rfl rfl rfl (by omega) rfl (src_own 1 rfl rfl) rfl (by simp [dens, SV.den, Value.oneCell']) (by omega) (by simp only []; omega) ?_
          intro v'
          refine go_rowS 41 rfl ?_
          rintro ad4 cap4 rfl
          refine rn_ ?_; intros
          rw [wr (n := (j : Int) + 1) (by omega) (by omega)]
          refine go_keep [1, 2, 3, 5, 9, 10] [0, 1, 2, 3, 41] ?_
          refine st_ ?_
          exact ih (c - (j + 1)) _ (by simp at hq; omega) ⟨j + 1, aj, true, pre ++ [0], .slice ad4 (pre.length + 1) cap4, G5, rfl, by omega, by simp [hpl], fun n hn => by
            rcases List.mem_append.1 hn with hn | hn
            · exact hp64 n hn
            · simp at hn; subst hn; exact (by simp [isI64]), hle4.trans hle5, .inl ⟨rfl, hno⟩, by simp [dens, SV.den]⟩
        | some x =>
          have hxm := nm_le hn
          have hin := nm_in hb hn
          rw [hn] at hv
          simp only [numR] at hv
          subst hv
          refine st_ ?_
          refine rn_ ?_; intros
          refine go_append 41 (by rw [hnt]; rfl) (by rw [hty]; rfl) (by rw [hty]; rfl) (by decide) rfl rfl rfl (by omega) rfl (src_own 1 rfl rfl) rfl (by simp [dens, SV.den, Value.oneCell']) (by omega) (by simp only []; omega) ?_
          intro v'
          refine go_rowS 41 rfl ?_
          rintro ad4 cap4 rfl
          refine rn_ ?_; intros
          rw [wr (n := (j : Int) + 1) (by omega) (by omega)]
          refine go_keep [1, 2, 3, 5, 9, 10] [0, 1, 2, 3, 41] ?_
          refine st_ ?_
          exact ih (c - (j + 1) + 1) _ (by simp at hq; omega) ⟨j + 1, x.2, false, pre ++ [(x.1 : Int)], .slice ad4 (pre.length + 1) cap4, G5, rfl, by omega, by simp [hpl], fun n hn => by
            rcases List.mem_append.1 hn with hn | hn
            · exact hp64 n hn
            · simp at hn; subst hn; constructor <;> omega, hle4.trans hle5, .inr ⟨rfl, hin, hM.step hjc' (x := ((x.1 : Int), x.2)) (by rw [kidS, hn]; rfl), hnS⟩, by simp [dens, SV.den]⟩
    · have hje : j = c := by have := of_decide_eq_false hjl; omega
      refine rn_ ?_; intros
      refine go_pubL rI 41 rfl (by omega) (ts := pre) rfl (by omega) (rI_L.2 ⟨rfl, hp64⟩) ?_
      rintro G5 ad5 cap5 (hle5 : Le G4 G5) hse hS5
      injection hse with e1 _ e3
      subst e1 e3
      refine x_held [(0, b1, .c 89 [.v (.slice ad l.length cap), .v (.int .i64 ((a : Nat) : Int)), .v (.bool bad)]), (3, b4, .c 62 [.v (.int .i64 (op)), .v (.int .i64 (n)), .v (.slice adv pre.length capv)])] rfl (by rw [hP]; kernel_rfl) rfl rfl rfl ?_; refine st_ ?_
      refine h_take 0 rfl (by kernel_rfl) (by kernel_rfl) (by kernel_rfl) hQp (by rw [hnt]; rfl) (allIn (by repeat (first | exact trivial | refine ⟨rfl, ?_⟩))) (by first | exact Le.refl _ | assumption) (quiet_op (by rw [hty]; first | rfl | (refine st_ ?_; rfl))) ?_; refine st_ ?_
      refine h_take 1 rfl (by kernel_rfl) (by kernel_rfl) (by kernel_rfl) hQp (by rw [hnt]; rfl) (allIn (by repeat (first | exact trivial | refine ⟨rfl, ?_⟩))) (by first | exact Le.refl _ | assumption) (quiet_op (by rw [hty]; first | rfl | (refine st_ ?_; rfl))) ?_; refine st_ ?_
      refine h_one 2 rfl (by kernel_rfl) ?_
      refine rn_ ?_; intros
      refine h_hs (allIn (by repeat (first | exact trivial | refine ⟨rfl, ?_⟩))) (by first | exact Le.refl _ | assumption) ?_
      refine h_one 3 rfl (by kernel_rfl) ?_
      refine rn_ ?_; intros
      refine h_hs (allIn (by repeat (first | exact trivial | refine ⟨rfl, ?_⟩))) (by first | exact Le.refl _ | assumption) ?_
      refine h_end (by kernel_rfl) ?_
      refine rn_ ?_; intros
      refine x_retc rfl hQ hmb rfl (by rw [hty]; simp only [so, sq, zy, zz, tyE, SO', SQ', opQ, opStore, opAlloc, ev, putS, dOk, cv, SV.cs, SV.one, SV.bool?, eqB, Value.oneCell', ldOwn, binInt, binConst, binBool, binStr, isC, TK.agg, rv, rv1, ldV, resOne, resV, Nat.reduceAdd, Nat.reduceMul, Nat.reduceSub, Nat.reduceLT, Nat.reduceLeDiff, Nat.reduceEqDiff, Nat.reduceBEq, reduceIte, reduceCtorEq, eq_self]; try rfl) rfl ?_; simp only [SV.den, resV, dens]
      refine ⟨⟨op, n, pre⟩, a, bad, _, rfl, by constructor <;> (try simp only []) <;> omega, hn64, hS5, ?_⟩
      rcases hm2 with ⟨rfl, hno⟩ | ⟨rfl, ha, hM, hnS⟩
      · rw [hno]
      · subst hje
        rw [hnS, hM.done]
        exact ⟨rfl, rfl, ha⟩
end Go.Proofs.Ytpopbkiphdcilaa
namespace Go.Proofs.Ytpopbkiphdcilaa
set_option linter.unusedSimpArgs false
set_option linter.unusedVariables false
open Go.Sx
set_option maxHeartbeats 8000000
def readQ (G : Hp) (b0 : List Int) (r : Value) (G' : Hp) : Prop :=
  ∃ (a1 : Option Addr) (n1 c1 : Nat) (a2 : Option Addr) (n2 c2 : Nat) (no : Int), r = .tuple #[.agg #[.slice a1 n1 c1], .slice a2 n2 c2, .int .i64 no] ∧ (1048576 < b0.length → no = 3) ∧
    (¬ 1048576 < b0.length → match rdS b0 with | none => no = 80 | some ps => no = 0 ∧ rF.S G' (ps.map (·.2)) (.slice a1 n1 c1) ∧ rI.S (diff G' G) (ps.map (·.1)) (.slice a2 n2 c2))
theorem rread_tail (b0 : List Int) (ad : Option Addr) (cap b1 b2 : Nat) (G B : Hp) (hB : Le B G) (C : Ctx) (hP : C.P = Try.prog) (hQ : C.Q = bodyPost C.P Try.f36 (Ret [] C.w0 C.G0 (readQ B b0))) (hnt : C.nt = 130) (hty : C.ty = ty) (hmb : C.mb = []) (hmh : C.mh = 0) (hro : C.ro = none)
    (hl : rB.S G b0 (.slice ad b0.length cap)) (hcap : b0.length ≤ cap) (hlong : ¬ 1048576 < b0.length) (h7 : 7 ≤ b0.length) (g0 : (b0.take (b0.length - 4))[0]? = some 66) (g1 : (b0.take (b0.length - 4))[1]? = some 84) (g2 : (b0.take (b0.length - 4))[2]? = some 1)
    (hrd : rdS b0 = rdL (b0.take (b0.length - 4))) :
    SGo C [.code (c2 (c2 (c2 (c2 (c2 (Try.f36.body.getD Code.skip))))))]
      ⟨[(0, .v (.slice ad b0.length cap)), (2, .p 0 b1 0), (3, .v (.slice none 0 0)), (4, .v (.int .i64 0)), (5, .p 1 b2 0), (6, .v (.slice none 0 0))],
        [(0, b1, .c 24 [.v (.slice none 0 0)]), (1, b2, .c 24 [.v (.slice none 0 0)])], G, []⟩ := by
  have hQp := qp_body hQ
  have h63 := Rp.S_len hl
  obtain ⟨l, hll⟩ : ∃ l, l = b0.take (b0.length - 4) := ⟨_, rfl⟩
  rw [← hll] at g0 g1 g2 hrd
  have hlen : l.length = b0.length - 4 := by rw [hll, List.length_take]; omega
  have hrL : rdL l = match nm l 2147483647 3 with
      | none => none
      | some c => match manyS (funP l) c.1 c.2 with
        | none => none
        | some r => if r.2 < l.length then none else some r.1 := by rw [rdL, if_pos ⟨g0, g1, g2⟩]; try rfl
  have hS : rB.S G l (.slice ad l.length cap) := by
    have := rB_take hl (k := b0.length - 4) (by omega) cap
    rw [← hll] at this
    rw [hlen]
    simpa using this
  refine rn_ ?_; intros
  rw [wr (n := (b0.length : Int) - 4) (by omega) (by omega)]
  refine go_q (v := .slice ad l.length cap) (by rw [hnt]; rfl) ((quiet_sliceHi (by rw [hty]; rfl) (by rw [hty]; rfl) rfl rfl rfl (by omega) (by omega)).cast (by
    have e : ((b0.length : Int) - 4).toNat = l.length := by omega
    have e2 : ad.map (fun x => x.add 0) = ad := by cases ad <;> simp [Addr.add]
    simp only [Sx.sliced, e, Nat.sub_zero, Nat.zero_mul, e2, ite_self])) ?_
  refine rn_ ?_; intros
  refine go_call (by rw [hnt]; rfl) (by rw [hP]; kernel_rfl) rfl (hP ▸ rsmall_ok l ad cap 3 _ hS (by omega)) ?_
  rintro v G1 (hle1 : Le G G1) hv
  -- the count
  refine cut_tail 1 (fun s' => ∃ (b7 c a : Nat) (bad : Bool), c ≤ 2147483647 ∧ ((bad = true ∧ rdL l = none) ∨ (bad = false ∧ a ≤ l.length ∧ rdL l = match manyS (funP l) c a with | none => none | some r => if r.2 < l.length then none else some r.1)) ∧
    s' = ⟨[(2, .p 0 b1 0), (3, .v (.slice none 0 0)), (4, .v (.int .i64 0)), (5, .p 1 b2 0), (6, .v (.slice none 0 0)), (7, .p 2 b7 0), (8, .v (.int .i64 c))],
      [(0, b1, .c 24 [.v (.slice none 0 0)]), (1, b2, .c 24 [.v (.slice none 0 0)]), (2, b7, .c 89 [.v (.slice ad l.length cap), .v (.int .i64 ((a : Nat) : Int)), .v (.bool bad)])], G1, []⟩) ?_ (fun key => ?_)
  rotate_left
  · cases hn : nm l 2147483647 3 with
    | none =>
      rw [hn] at hv hrL
      obtain ⟨j, rfl⟩ := hv
      refine st_ ?_
      refine runo0 400 hty hnt hmh ?_; refine st_ ?_
      refine go_newx hty hnt hmh rfl rfl ?_; intro b7
      refine runo0 400 hty hnt hmh ?_; refine st_ ?_
      refine go_ops ?_
      refine go_keep [2, 3, 4, 5, 6, 7, 8] [0, 1, 2] ?_
      refine st_ ?_
      exact key _ ⟨_, 0, j, true, by omega, .inl ⟨rfl, hrL⟩, rfl⟩
    | some x =>
      have hin := nm_in (rB_ok hS) hn
      rw [hn] at hv hrL
      simp only [numR] at hv
      subst hv
      refine st_ ?_
      refine runo0 400 hty hnt hmh ?_; refine st_ ?_
      refine go_newx hty hnt hmh rfl rfl ?_; intro b7
      refine runo0 400 hty hnt hmh ?_; refine st_ ?_
      refine go_ops ?_
      refine go_keep [2, 3, 4, 5, 6, 7, 8] [0, 1, 2] ?_
      refine st_ ?_
      exact key _ ⟨_, x.1, x.2, false, nm_le hn, .inr ⟨rfl, hin, hrL⟩, rfl⟩
  clear hv hrL
  rintro st ⟨b7, c, a0, bad, hc32, hst, rfl⟩
  simp only [List.drop_succ_cons, List.drop_zero]
  refine rn_ ?_; intros
  refine go_nilrow 42 3 1 rfl (by omega) ?_
  refine go_nilrow 43 59 2 rfl (by omega) ?_
  refine go_keep [2, 3, 4, 5, 6, 7, 8, 9] [0, 1, 2, 42, 43] ?_
  refine st_ ?_
  refine x_loop rfl (fun q st => ∃ (j a : Nat) (bad : Bool) (pre : List (Int × Fu)) (xs : List Value) (vp vf : Value) (G' : Hp), q = (c - j) + (if bad then 0 else 1) ∧ j ≤ c ∧ pre.length = j ∧ (∀ n ∈ pre.map (·.1), isI64 n) ∧ Le G1 G' ∧ rF.L G' (pre.map (·.2)) xs ∧
    ((bad = true ∧ rdL l = none) ∨ (bad = false ∧ a ≤ l.length ∧ MInv (funP l) c a0 j pre a ∧ rdL l = match manyS (funP l) c a0 with | none => none | some r => if r.2 < l.length then none else some r.1)) ∧
    st = ⟨[(2, .p 0 b1 0), (3, .v (.slice none 0 0)), (4, .v (.int .i64 0)), (5, .p 1 b2 0), (6, .v vp), (7, .p 2 b7 0), (8, .v (.int .i64 c)), (9, .v (.int .i64 j))],
      [(0, b1, .c 24 [.v (.slice none 0 0)]), (1, b2, .c 24 [.v vf]), (2, b7, .c 89 [.v (.slice ad l.length cap), .v (.int .i64 ((a : Nat) : Int)), .v (.bool bad)]),
        (42, 0, .row vp 3 1 pre.length ((pre.map (·.1)).map (Value.int .i64 ·))), (43, 0, .row vf 59 2 pre.length xs)], G', []⟩)
    ⟨0, a0, bad, [], [], .slice none 0 0, .slice none 0 0, G1, rfl, by omega, rfl, (fun n hn => by simp at hn), Le.refl _, rfl, hst.imp id fun h => ⟨h.1, h.2.1, MInv.start _ _ _, h.2.2⟩, rfl⟩ ?_
  clear hst bad
  rintro q st ⟨j, a, bad, pre, xs, vp, vf, G2, hq, hjc, hpl, hp64, hle2, hxs, hst, rfl⟩ ih
  refine go_rowS 42 rfl ?_
  rintro adp capp rfl
  refine go_rowS 43 rfl ?_
  rintro adf capf rfl
  refine rn_ ?_; intros
  refine go_gsplit rfl rfl (fun hjl => ?_) (fun hjl => ?_) <;> (refine st_ ?_; (refine rn_ ?_; intros))
  · have hjc' : j < c := by have := of_decide_eq_true hjl; omega
    rcases hst with ⟨rfl, hno⟩ | ⟨rfl, ha, hM, hrL⟩
    · refine x_if rfl rfl rfl rfl (fun hc => absurd hc (by decide)) (fun _ => ?_)
      refine rn_ ?_; intros
      (refine go_gsplit rfl rfl (fun _ => ?_) (fun hc => absurd hc (by first | decide +kernel | simp)); refine st_ ?_; (refine rn_ ?_; intros))
      repeat (refine go_gundef rfl (by rw [hnt]; rfl) rfl ?_; (refine st_ ?_; (refine rn_ ?_; intros)))
      refine rn_ ?_; intros
      refine x_retc rfl hQ hmb rfl (by rw [hty]; simp only [so, sq, zy, zz, tyE, SO', SQ', opQ, opStore, opAlloc, ev, putS, dOk, cv, SV.cs, SV.one, SV.bool?, eqB, Value.oneCell', ldOwn, binInt, binConst, binBool, binStr, isC, TK.agg, rv, rv1, ldV, resOne, resV, Nat.reduceAdd, Nat.reduceMul, Nat.reduceSub, Nat.reduceLT, Nat.reduceLeDiff, Nat.reduceEqDiff, Nat.reduceBEq, reduceIte, reduceCtorEq, eq_self]; try rfl) rfl ?_; simp only [SV.den, resV, dens]
      exact ⟨none, 0, 0, none, 0, 0, 80, rfl, fun h => absurd h hlong, fun _ => by rw [hrd, hno]⟩
    · refine x_if rfl rfl rfl rfl (fun _ => ?_) (fun hc => absurd hc (by decide))
      refine rn_ ?_; intros
      refine go_append 42 (by rw [hnt]; rfl) (by rw [hty]; rfl) (by rw [hty]; rfl) (by decide) rfl rfl rfl (by omega) rfl (src_own 1 rfl rfl) rfl (by simp [dens, SV.den, Value.oneCell']) (by omega) (by simp only []; omega) ?_
      intro v'
      refine go_rowS 42 rfl ?_
      rintro ad4 cap4 rfl
      refine rn_ ?_; intros
      refine go_keep [2, 3, 4, 5, 6, 7, 8, 9, 77] [0, 1, 2, 42, 43] ?_
      refine st_ ?_
      have hle02 := hle1.trans hle2
      refine go_call (by rw [hnt]; rfl) (by rw [hP]; kernel_rfl) rfl (hP ▸ rsmall_ok l ad cap a _ (Rp.S_mono hle02 hS) ha) ?_
      rintro v G3 (hle3 : Le G2 G3) hv
      refine cut_tail 1 (fun s' => ∃ (b10 pm a1 : Nat) (bad1 : Bool), pm ≤ 2147483647 ∧ ((bad1 = true ∧ rdL l = none) ∨ (bad1 = false ∧ a1 ≤ l.length ∧ nm l 2147483647 a = some (pm, a1))) ∧
        s' = ⟨[(2, .p 0 b1 0), (3, .v (.slice none 0 0)), (4, .v (.int .i64 0)), (5, .p 1 b2 0), (6, .v (.slice ad4 (pre.length + 1) cap4)), (7, .p 2 b7 0), (8, .v (.int .i64 c)), (9, .v (.int .i64 j)), (10, .p 44 b10 0), (11, .v (.int .i64 pm))], [(0, b1, .c 24 [.v (.slice none 0 0)]), (1, b2, .c 24 [.v (.slice adf pre.length capf)]), (2, b7, .c 89 [.v (.slice ad l.length cap), .v (.int .i64 ((a : Nat) : Int)), .v (.bool false)]), (42, 0, .row (.slice ad4 (pre.length + 1) cap4) 3 1 (pre.length + 1) ((pre.map (·.1)).map (Value.int .i64 ·) ++ [.int .i64 a])), (43, 0, .row (.slice adf pre.length capf) 59 2 pre.length xs), (44, b10, .c 89 [.v (.slice ad l.length cap), .v (.int .i64 ((a1 : Nat) : Int)), .v (.bool bad1)])], G3, []⟩) ?_ (fun key => ?_)
      rotate_left
      · cases hn : nm l 2147483647 a with
        | none =>
          have hno : rdL l = none := by rw [hrL, hM.none hjc' (by rw [funP, funS, hn]; rfl)]
          rw [hn] at hv
          obtain ⟨aj, rfl⟩ := hv
          refine st_ ?_
          refine runo0 400 hty hnt hmh ?_; refine st_ ?_
          refine go_newx hty hnt hmh rfl rfl ?_; intro b10
          refine runo0 400 hty hnt hmh ?_; refine st_ ?_
          refine go_ops ?_
          refine go_keep [2, 3, 4, 5, 6, 7, 8, 9, 10, 11] [0, 1, 2, 42, 43, 44] ?_
          refine st_ ?_
          exact key _ ⟨_, 0, aj, true, by omega, .inl ⟨rfl, hno⟩, rfl⟩
        | some x =>
          have hin := nm_in (rB_ok hS) hn
          rw [hn] at hv
          simp only [numR] at hv
          subst hv
          refine st_ ?_
          refine runo0 400 hty hnt hmh ?_; refine st_ ?_
          refine go_newx hty hnt hmh rfl rfl ?_; intro b10
          refine runo0 400 hty hnt hmh ?_; refine st_ ?_
          refine go_ops ?_
          refine go_keep [2, 3, 4, 5, 6, 7, 8, 9, 10, 11] [0, 1, 2, 42, 43, 44] ?_
          refine st_ ?_
          exact key _ ⟨_, x.1, x.2, false, nm_le hn, .inr ⟨rfl, hin, hn⟩, rfl⟩
      clear hv
      rintro st ⟨b10, pm, a1, bad1, hpm, hst, rfl⟩
      simp only [List.drop_succ_cons, List.drop_zero]
      refine rn_ ?_; intros
      refine cut_tail 1 (fun s' => ∃ (mn a2 : Nat) (bad2 : Bool) (G4 : Hp), Le G3 G4 ∧ mn ≤ 2147483647 ∧ ((bad2 = true ∧ rdL l = none) ∨ (bad2 = false ∧ a2 ≤ l.length ∧ nm l 2147483647 a = some (pm, a1) ∧ nm l 2147483647 a1 = some (mn, a2))) ∧
        s' = ⟨[(2, .p 0 b1 0), (3, .v (.slice none 0 0)), (4, .v (.int .i64 0)), (5, .p 1 b2 0), (6, .v (.slice ad4 (pre.length + 1) cap4)), (7, .p 2 b7 0), (8, .v (.int .i64 c)), (9, .v (.int .i64 j)), (10, .p 44 b10 0), (11, .v (.int .i64 pm)), (12, .v (.int .i64 mn))], [(0, b1, .c 24 [.v (.slice none 0 0)]), (1, b2, .c 24 [.v (.slice adf pre.length capf)]), (2, b7, .c 89 [.v (.slice ad l.length cap), .v (.int .i64 ((a : Nat) : Int)), .v (.bool false)]), (42, 0, .row (.slice ad4 (pre.length + 1) cap4) 3 1 (pre.length + 1) ((pre.map (·.1)).map (Value.int .i64 ·) ++ [.int .i64 a])), (43, 0, .row (.slice adf pre.length capf) 59 2 pre.length xs), (44, b10, .c 89 [.v (.slice ad l.length cap), .v (.int .i64 ((a2 : Nat) : Int)), .v (.bool bad2)])], G4, []⟩) ?_ (fun key => ?_)
      rotate_left
      · rcases hst with ⟨rfl, hno⟩ | ⟨rfl, ha1, hn1⟩
        · refine go_callf (by rw [hnt]; rfl) (by rw [hP]; kernel_rfl) rfl (hP ▸ rsmall_bad l ad cap a1 _ (by omega)) ?_
          refine st_ ?_
          refine runo0 400 hty hnt hmh ?_; refine st_ ?_
          refine go_ops ?_
          refine go_keep [2, 3, 4, 5, 6, 7, 8, 9, 10, 11, 12] [0, 1, 2, 42, 43, 44] ?_
          refine st_ ?_
          exact key _ ⟨0, a1, true, G3, Le.refl _, by omega, .inl ⟨rfl, hno⟩, rfl⟩
        · refine go_call (by rw [hnt]; rfl) (by rw [hP]; kernel_rfl) rfl (hP ▸ rsmall_ok l ad cap a1 _ (Rp.S_mono (hle02.trans hle3) hS) ha1) ?_
          rintro v G4 (hle4 : Le G3 G4) hv
          cases hn : nm l 2147483647 a1 with
          | none =>
            have hno : rdL l = none := by rw [hrL, hM.none hjc' (by rw [funP, funS, hn1]; simp only [hn]; rfl)]
            rw [hn] at hv
            obtain ⟨aj, rfl⟩ := hv
            refine st_ ?_
            refine runo0 400 hty hnt hmh ?_; refine st_ ?_
            refine go_ops ?_
            refine go_keep [2, 3, 4, 5, 6, 7, 8, 9, 10, 11, 12] [0, 1, 2, 42, 43, 44] ?_
            refine st_ ?_
            exact key _ ⟨0, aj, true, G4, hle4, by omega, .inl ⟨rfl, hno⟩, rfl⟩
          | some x =>
            have hin := nm_in (rB_ok hS) hn
            rw [hn] at hv
            simp only [numR] at hv
            subst hv
            refine st_ ?_
            refine runo0 400 hty hnt hmh ?_; refine st_ ?_
            refine go_ops ?_
            refine go_keep [2, 3, 4, 5, 6, 7, 8, 9, 10, 11, 12] [0, 1, 2, 42, 43, 44] ?_
            refine st_ ?_
            exact key _ ⟨x.1, x.2, false, G4, hle4, nm_le hn, .inr ⟨rfl, hin, hn1, hn⟩, rfl⟩
      clear hst
      rintro st ⟨mn, a2, bad2, G4, hle4, hmn, hst, rfl⟩
      simp only [List.drop_succ_cons, List.drop_zero]
      refine rn_ ?_; intros
      rename_i b13
      refine go_nilrow 41 62 3 rfl (by omega) ?_
      refine go_keep [2, 3, 4, 5, 6, 7, 8, 9, 11, 12, 13, 14] [0, 1, 2, 42, 43, 45, 41] ?_
      refine st_ ?_
      refine x_loop rfl (fun q st => ∃ (k ak : Nat) (bad : Bool) (nds : List Nd) (ys : List Value) (vn : Value) (G' : Hp), q = (mn - k) + (if bad then 0 else 1) ∧ k ≤ mn ∧ nds.length = k ∧ Le G4 G' ∧ rN.L G' nds ys ∧
        ((bad = true ∧ rdL l = none) ∨ (bad = false ∧ ak ≤ l.length ∧ MInv (nodeS l) mn a2 k nds ak ∧ nm l 2147483647 a = some (pm, a1) ∧ nm l 2147483647 a1 = some (mn, a2))) ∧
        st = ⟨[(2, .p 0 b1 0), (3, .v (.slice none 0 0)), (4, .v (.int .i64 0)), (5, .p 1 b2 0), (6, .v (.slice ad4 (pre.length + 1) cap4)), (7, .p 2 b7 0), (8, .v (.int .i64 c)), (9, .v (.int .i64 j)), (11, .v (.int .i64 pm)), (12, .v (.int .i64 mn)), (13, .p 45 b13 0), (14, .v (.int .i64 k))],
          [(0, b1, .c 24 [.v (.slice none 0 0)]), (1, b2, .c 24 [.v (.slice adf pre.length capf)]), (2, b7, .c 89 [.v (.slice ad l.length cap), .v (.int .i64 ((ak : Nat) : Int)), .v (.bool bad)]), (42, 0, .row (.slice ad4 (pre.length + 1) cap4) 3 1 (pre.length + 1) ((pre.map (·.1)).map (Value.int .i64 ·) ++ [.int .i64 a])), (43, 0, .row (.slice adf pre.length capf) 59 2 pre.length xs), (45, b13, .c 59 [.v (.int .i64 pm), .v vn]), (41, 0, .row vn 62 3 nds.length ys)], G', []⟩)
        ⟨0, a2, bad2, [], [], .slice none 0 0, G4, rfl, by omega, rfl, Le.refl _, rfl, hst.imp id fun h => ⟨h.1, h.2.1, MInv.start _ _ _, h.2.2.1, h.2.2.2⟩, rfl⟩ ?_
      clear hst bad2
      rintro q2 st ⟨k, ak, bad, nds, ys, vn, G5, hq2, hkm, hnl, hle5, hys, hst, rfl⟩ ihk
      refine go_rowS 41 rfl ?_
      rintro adn capn rfl
      refine rn_ ?_; intros
      refine go_gsplit rfl rfl (fun hkl => ?_) (fun hkl => ?_) <;> (refine st_ ?_; (refine rn_ ?_; intros))
      · have hkm' : k < mn := by have := of_decide_eq_true hkl; omega
        rcases hst with ⟨rfl, hno⟩ | ⟨rfl, hak, hMk, hn1, hn2⟩
        · refine x_if rfl rfl rfl rfl (fun hc => absurd hc (by decide)) (fun _ => ?_)
          refine rn_ ?_; intros
          refine go_pubL rN 41 rfl (by omega) (ts := nds) rfl (by omega) hys ?_
          rintro G7 adm capm (hle7 : Le G5 G7) hse hS7
          injection hse with e1 _ e3
          subst e1 e3
          refine go_append 43 (by rw [hnt]; rfl) (by rw [hty]; rfl) (by rw [hty]; rfl) (by decide) rfl rfl rfl (by omega) rfl (src_own 2 rfl rfl) rfl (by simp [dens, SV.den, Value.oneCell']) (by omega) (by simp only []; omega) ?_
          intro v'
          refine go_rowS 43 rfl ?_
          rintro ad8 cap8 rfl
          refine rn_ ?_; intros
          rw [wr (n := (j : Int) + 1) (by omega) (by omega)]
          refine go_keep [2, 3, 4, 5, 6, 7, 8, 9] [0, 1, 2, 42, 43] ?_
          refine st_ ?_
          refine ih (c - (j + 1) + (if true then 0 else 1)) _ (by simp at hq; first | omega | (split <;> omega)) ⟨j + 1, ak, true, pre ++ [((a : Int), ⟨pm, nds⟩)], xs ++ [.int .i64 pm, .slice adn nds.length capn], .slice ad4 (pre.length + 1) cap4, .slice ad8 (pre.length + 1) cap8, G7, rfl, by omega, by simp [hpl], fun n hn => by
            rw [List.map_append] at hn
            rcases List.mem_append.1 hn with hn | hn
            · exact hp64 n hn
            · simp at hn; subst hn; constructor <;> omega, hle2.trans (hle3.trans (hle4.trans (hle5.trans hle7))), by
            rw [List.map_append]; exact Rp.L_append (Rp.L_mono (hle3.trans (hle4.trans (hle5.trans hle7))) hxs) (Rp.L_single ⟨_, rfl, by constructor <;> (try simp only []) <;> omega, hS7⟩), ?_, by simp [dens, SV.den]⟩
          exact .inl ⟨rfl, hno⟩
        · refine x_if rfl rfl rfl rfl (fun _ => ?_) (fun hc => absurd hc (by decide))
          refine rn_ ?_; intros
          refine go_call (by rw [hnt]; rfl) (by rw [hP]; kernel_rfl) rfl (hP ▸ rnode_ok l ad cap ak _ (Rp.S_mono (hle02.trans (hle3.trans (hle4.trans hle5))) hS) hak) ?_
          rintro v G6 (hle6 : Le G5 G6) ⟨x, aj, badn, sl, rfl, hxo, hxn, hxL, hm⟩
          obtain ⟨adx, capx, rfl⟩ := Rp.S_slice hxL
          refine st_ ?_
          refine rn_ ?_; intros
          refine go_append 41 (by rw [hnt]; rfl) (by rw [hty]; rfl) (by rw [hty]; rfl) (by decide) rfl rfl rfl (by omega) rfl (src_own 3 rfl rfl) rfl (by simp [dens, SV.den, Value.oneCell']) (by omega) (by simp only []; omega) ?_
          intro v'
          refine go_rowS 41 rfl ?_
          rintro ad9 cap9 rfl
          refine rn_ ?_; intros
          rw [wr (n := (k : Int) + 1) (by omega) (by omega)]
          refine go_keep [2, 3, 4, 5, 6, 7, 8, 9, 11, 12, 13, 14] [0, 1, 2, 42, 43, 45, 41] ?_
          refine st_ ?_
          refine ihk (mn - (k + 1) + (if badn then 0 else 1)) _ (by simp at hq2; split <;> omega) ⟨k + 1, aj, badn, nds ++ [x], ys ++ [.int .i64 x.op, .int .i64 x.n, .slice adx x.l.length capx], .slice ad9 (nds.length + 1) cap9, G6, rfl, by omega, by simp [hnl], hle5.trans hle6,
            Rp.L_append (Rp.L_mono hle6 hys) (Rp.L_single ⟨_, rfl, hxo, hxn, hxL⟩), ?_, by simp [dens, SV.den]⟩
          cases hno : nodeS l ak with
          | none =>
            rw [hno] at hm
            exact .inl ⟨hm, by rw [hrL, hM.none hjc' (by rw [funP, funS, hn1]; simp only [hn2]; rw [hMk.none hkm' hno]; rfl)]⟩
          | some y =>
            rw [hno] at hm
            obtain ⟨h1, rfl, h3⟩ := hm
            exact .inr ⟨h1, h3, hMk.step hkm' hno, hn1, hn2⟩
      · have hke : k = mn := by have := of_decide_eq_false hkl; omega
        refine go_pubL rN 41 rfl (by omega) (ts := nds) rfl (by omega) hys ?_
        rintro G7 adm capm (hle7 : Le G5 G7) hse hS7
        injection hse with e1 _ e3
        subst e1 e3
        refine go_append 43 (by rw [hnt]; rfl) (by rw [hty]; rfl) (by rw [hty]; rfl) (by decide) rfl rfl rfl (by omega) rfl (src_own 2 rfl rfl) rfl (by simp [dens, SV.den, Value.oneCell']) (by omega) (by simp only []; omega) ?_
        intro v'
        refine go_rowS 43 rfl ?_
        rintro ad8 cap8 rfl
        refine rn_ ?_; intros
        rw [wr (n := (j : Int) + 1) (by omega) (by omega)]
        refine go_keep [2, 3, 4, 5, 6, 7, 8, 9] [0, 1, 2, 42, 43] ?_
        refine st_ ?_
        refine ih (c - (j + 1) + (if bad then 0 else 1)) _ (by simp at hq; first | omega | (split <;> omega)) ⟨j + 1, ak, bad, pre ++ [((a : Int), ⟨pm, nds⟩)], xs ++ [.int .i64 pm, .slice adn nds.length capn], .slice ad4 (pre.length + 1) cap4, .slice ad8 (pre.length + 1) cap8, G7, rfl, by omega, by simp [hpl], fun n hn => by
          rw [List.map_append] at hn
          rcases List.mem_append.1 hn with hn | hn
          · exact hp64 n hn
          · simp at hn; subst hn; constructor <;> omega, hle2.trans (hle3.trans (hle4.trans (hle5.trans hle7))), by
          rw [List.map_append]; exact Rp.L_append (Rp.L_mono (hle3.trans (hle4.trans (hle5.trans hle7))) hxs) (Rp.L_single ⟨_, rfl, by constructor <;> (try simp only []) <;> omega, hS7⟩), ?_, by simp [dens, SV.den]⟩
        subst hke
        refine hst.imp id fun ⟨h1, h2, hMk, hn1, hn2⟩ => ⟨h1, h2, hM.step hjc' (x := (((a : Int), (⟨(pm : Int), nds⟩ : Fu)), ak)) ?_, hrL⟩
        rw [funP, funS, hn1]
        simp only [hn2]
        rw [hMk.done]; rfl
  · have hje : j = c := by have := of_decide_eq_false hjl; omega
    rcases hst with ⟨rfl, hno⟩ | ⟨rfl, ha, hM, hrL⟩
    · (refine go_gsplit rfl rfl (fun _ => ?_) (fun hc => absurd hc (by first | decide +kernel | simp)); refine st_ ?_; (refine rn_ ?_; intros))
      repeat (refine go_gundef rfl (by rw [hnt]; rfl) rfl ?_; (refine st_ ?_; (refine rn_ ?_; intros)))
      refine rn_ ?_; intros
      refine x_retc rfl hQ hmb rfl (by rw [hty]; simp only [so, sq, zy, zz, tyE, SO', SQ', opQ, opStore, opAlloc, ev, putS, dOk, cv, SV.cs, SV.one, SV.bool?, eqB, Value.oneCell', ldOwn, binInt, binConst, binBool, binStr, isC, TK.agg, rv, rv1, ldV, resOne, resV, Nat.reduceAdd, Nat.reduceMul, Nat.reduceSub, Nat.reduceLT, Nat.reduceLeDiff, Nat.reduceEqDiff, Nat.reduceBEq, reduceIte, reduceCtorEq, eq_self]; try rfl) rfl ?_; simp only [SV.den, resV, dens]
      exact ⟨none, 0, 0, none, 0, 0, 80, rfl, fun h => absurd h hlong, fun _ => by rw [hrd, hno]⟩
    · subst hje
      rw [hM.done] at hrL
      simp only at hrL
      (refine go_gsplit rfl rfl (fun hc => absurd hc (by first | decide +kernel | simp)) (fun _ => ?_); refine st_ ?_; (refine rn_ ?_; intros))
      refine x_split rfl rfl rfl (fun hend => ?_) (fun hend => ?_) <;> (refine st_ ?_; (refine ru_ ?_; intros))
      · have hno : rdL l = none := by
          rw [hrL, if_pos (by have h1 : ((a : Int) != (l.length : Int)) = true := hend; simp at h1; omega)]
        refine rn_ ?_; intros
        refine x_retc rfl hQ hmb rfl (by rw [hty]; simp only [so, sq, zy, zz, tyE, SO', SQ', opQ, opStore, opAlloc, ev, putS, dOk, cv, SV.cs, SV.one, SV.bool?, eqB, Value.oneCell', ldOwn, binInt, binConst, binBool, binStr, isC, TK.agg, rv, rv1, ldV, resOne, resV, Nat.reduceAdd, Nat.reduceMul, Nat.reduceSub, Nat.reduceLT, Nat.reduceLeDiff, Nat.reduceEqDiff, Nat.reduceBEq, reduceIte, reduceCtorEq, eq_self]; try rfl) rfl ?_; simp only [SV.den, resV, dens]
        exact ⟨none, 0, 0, none, 0, 0, 80, rfl, fun h => absurd h hlong, fun _ => by rw [hrd, hno]⟩
      have hend' : ¬ a < l.length := by have h1 : ((a : Int) != (l.length : Int)) = false := hend; simp at h1; omega
      rw [if_neg hend'] at hrL
      refine go_pubLF rI 42 B (hB.trans (hle1.trans hle2)) rfl (by omega) (ts := pre.map (·.1)) (by simp) (by omega) (rI_L.2 ⟨rfl, hp64⟩) ?_
      rintro G3 adq capq (hle3 : Le G2 G3) hse hS3
      refine go_pubL rF 43 rfl (by omega) (ts := pre.map (·.2)) (by simp) (by omega) (Rp.L_mono hle3 hxs) ?_
      rintro G4 adr capr (hle4 : Le G3 G4) hse4 hS4
      refine rn_ ?_; intros
      refine x_retc rfl hQ hmb rfl (by rw [hty]; simp only [so, sq, zy, zz, tyE, SO', SQ', opQ, opStore, opAlloc, ev, putS, dOk, cv, SV.cs, SV.one, SV.bool?, eqB, Value.oneCell', ldOwn, binInt, binConst, binBool, binStr, isC, TK.agg, rv, rv1, ldV, resOne, resV, Nat.reduceAdd, Nat.reduceMul, Nat.reduceSub, Nat.reduceLT, Nat.reduceLeDiff, Nat.reduceEqDiff, Nat.reduceBEq, reduceIte, reduceCtorEq, eq_self]; try rfl) rfl ?_; simp only [SV.den, resV, dens]
      refine ⟨_, _, _, _, _, _, 0, rfl, fun h => absurd h hlong, fun _ => ?_⟩
      rw [hrd, hrL]
      exact ⟨rfl, hse4 ▸ hS4, hse ▸ Rp.S_mono (diff_mono (Le.refl B) hle4) hS3⟩
end Go.Proofs.Ytpopbkiphdcilaa
namespace Go.Sx
set_option linter.unusedSimpArgs false
set_option linter.unusedVariables false
open Go.RowKit
section
variable {C : Ctx} {K : List KI} {s : St} {R : Array Oper} {l : List Oper} {d : Option Tmp} {t : TypeId} {pos : String} {aft : Array Edge}
theorem h_takeU (i : Nat) {own0 : List (Nat × Nat × OO)} {G0 : Hp} {n j g : Nat} {want u : Bool} {listed : Array Bool} {op : Op} (hi : R[i]? = some ⟨d, op, t, pos, aft, some (j, want)⟩) (hj : (R[j]?).bind (·.dst) = some g) (hg : lk g s.sl = some (.b u)) (hu : eqB u want = false) (hs : Region.noSelect R = true) (hf : Region.free .any R listed i = true)
    (hr : (Region.ready .any R listed).contains i = true) (hQ : QP C) (hd : dOk C.nt d = true) (ho : ∀ j y, lk j own0 = some y → lk j s.own = some y) (hG : Le G0 s.G)
    (h : SGo C (.h (Hold C own0 G0) R n (listed.setIfInBounds i true) :: K) ⟨putS d (.v undef) s.sl, s.own, s.G, s.df⟩) :
    SGo C (.h (Hold C own0 G0) R (n + 1) listed :: K) s := by
  intro a w hS
  have hhold : Hold C own0 G0 w := ⟨fun k b o e => (hS.mem.own k b o (ho _ _ e)).1, fun b o e => hS.mem.has b o (hG b o e)⟩
  have := h _ _ (hS.put hd (.v undef) hS.mem)
  have hy : yielded R a.tmps j = some u := yielded_ok hS hj ⟨_, hg, rfl⟩
  have hne : u ≠ want := fun e => by rw [e, eqB_self] at hu; cases hu
  simp only [wpK] at this ⊢
  refine wpAnyHI_take (i := i) (v := undef) hi hs hf hr ?_ (.inr ⟨by simp [Region.wanted, hy, hne], rfl⟩) hhold this
  intro c a' w' hp
  exact wpK_panic c d undef (fun a w => hQ c a w d undef) K a' w' hp
end
end Go.Sx
