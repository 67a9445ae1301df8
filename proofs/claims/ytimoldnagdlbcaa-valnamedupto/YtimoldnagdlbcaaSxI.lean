/-
  A symbolic walk over the model's code: slices that grow (append, make); regions that draw their order and hold one call or store that matters. Generic: names no program.
-/
import Derived.Test.YtimoldnagdlbcaaSxH
namespace Go.Sx
set_option linter.unusedSimpArgs false
set_option linter.unusedVariables false
open Go.RowKit

section
variable {P : Program} {w : World}

/-- append onto a slice of the call's own: the slice that results lies where it lay, or in a new block. -/
theorem append_row (base : Nat) (t ty' e : TypeId) {te : TI} (ht : P.underlying t = some (.slice e)) (he : te.ok P e) (hsz : 0 < te.size)
    (v : Value) (n : Nat) (xs : List Value) (hown : w.ownsRow base e te.size v n xs)
    (a : Addr) (m c : Nat) (news : List Value) (hl : news.length = m * te.size) (hnews : ∀ j u, news[j]? = some u → w.cell? (a.add j) = some u) (h1 : ∀ u ∈ news, u.oneCell' = true)
    (h63 : n + m ≤ 9223372036854775807) (hbytes : (n + m) * te.bytes ≤ 140737488355328) (hbase : base ≤ w.heap.size) :
    ∃ v' w', (Builtin.append_ #[t, t] ty' #[v, .slice (some a) m c]).run P w = .ok v' w' ∧ w'.ownsRow base e te.size v' (n + m) (xs ++ news) ∧ w.grownBy w' v.ownBlock ∧
      (∀ g, v'.ownBlock = some g → v.ownBlock = some g ∨ w.heap.size ≤ g) := by
  obtain ⟨i, z, hi, hs, hb, hz, hc⟩ := he.info
  have hzs : z.cells.size = te.size := by rw [hc]; simpa using he.len
  have h63' : n + m ≤ maxLen := by simp only [maxLen]; omega
  obtain ⟨v', w', hr, g1, g2, g3⟩ := run_append_own (P := P) w base t ty' e i z te.size te.bytes ht hi hz hs hb hzs hsz v n xs hown a m c news hl hnews h1 h63' hbytes hbase
  refine ⟨v', w', hr, g1, g2, ?_⟩
  intro g hg
  rcases hown.2 with ⟨rfl, rfl⟩ | ⟨g0, cap, cur, rfl, hbg, hgg, hnc, hcm, hcs, htake⟩
  · right
    have hx : xs = [] := List.eq_nil_of_length_eq_zero (by simpa using hown.1)
    subst hx
    obtain ⟨v2, w2, hr2, k1, k2, k3⟩ := run_append_own (P := P) w w.heap.size t ty' e i z te.size te.bytes ht hi hz hs hb hzs hsz (.slice none 0 0) 0 [] (World.ownsRow_nil w _ e te.size) a m c news hl hnews h1 h63' hbytes (Nat.le_refl _)
    rw [hr] at hr2
    cases hr2
    exact (k1.lt g hg).1
  · by_cases hroom : n + m ≤ cap
    · left
      have hfit : n * te.size + news.length ≤ cur.size := by rw [hl, hcs, ← Nat.add_mul]; exact Nat.mul_le_mul_right _ hroom
      have hr2 := run_append_room (P := P) w t ty' e i ht hi g0 n cap cur hgg a m c news (by rw [hs]; exact hl) hnews h1 hroom (by rw [hs]; exact hfit)
      rw [hr] at hr2
      cases hr2
      exact hg
    · right
      have holds : ∀ j u, xs[j]? = some u → w.cell? ((⟨g0, 0, none⟩ : Addr).add j) = some u := hown.cells (g := g0) rfl
      have hr2 := run_append_grow (P := P) w t ty' e i z ht hi hz ⟨g0, 0, none⟩ n cap xs (by rw [hs]; exact hown.1) holds a m c news (by rw [hs]; exact hl) hnews (by omega) (by omega) (growslice_fits (by omega) (by rw [hb]; exact hbytes))
      rw [hr] at hr2
      cases hr2
      simp only [Value.ownBlock, Option.some.injEq] at hg
      omega
end

section
variable {C : Ctx} {K : List KI} {s : St} {R : Array Oper} {l : List Oper} {d : Option Tmp} {t : TypeId} {pos : String} {aft : Array Edge}

/-- What can be appended: the cells of a slice that can be read. -/
def Src (C : Ctx) (s : St) (y : SV) (m : Nat) (news : List Value) : Prop :=
  ∀ w, Mem C s.own s.G w → ∃ a c, y.den = .slice (some a) m c ∧ ∀ j u, news[j]? = some u → w.cell? (a.add j) = some u

theorem src_at {b off m c : Nat} {news : List Value} (h : At s.G b off news) : Src C s (.v (.slice (some ⟨b, off, none⟩) m c)) m news := by
  intro w hm
  obtain ⟨arr, e, fz, h1, h2, h3⟩ := h
  refine ⟨_, _, rfl, fun j u hu => ?_⟩
  have hj : j < news.length := by
    rcases Nat.lt_or_ge j news.length with q | q
    · exact q
    · rw [List.getElem?_eq_none q] at hu; cases hu
  rw [add_none, cell_at (hm.has _ _ h1), h3 j hj]; exact hu
theorem src_empty {a : Addr} {c : Nat} {y : SV} (hy : y.den = .slice (some a) 0 c) : Src C s y 0 [] := fun _ _ => ⟨a, c, hy, by simp⟩
theorem src_own {k b off m c : Nat} {e : TypeId} {cells r : List SV} (n : Nat) (hk : lk k s.own = some (b, .c e cells)) (hs : sub cells off n = some r) : Src C s (.s k b off m c) m (dens r) := by
  intro w hm
  obtain ⟨h1, h2⟩ := sub_ok _ _ _ _ hs
  have hh : w.heap[b]? = some (.cells (dens cells).toArray e) := (hm.own _ _ _ hk).1
  refine ⟨_, _, rfl, fun j u hu => ?_⟩
  rw [add_none, cell_at hh]
  rw [h2, dens_eq, List.map_take, List.map_drop, List.getElem?_take] at hu
  split at hu
  · rw [dens_eq]; simpa using hu
  · cases hu

theorem go_append (k : Nat) {x y : Operand} {T e : TypeId} {te : TI} {sz by' : Nat} {ze : List Value} {fl : List (Nat × Nat × Bool)} {b n m : Nat} {v : Value} {xs news : List Value} {z : SV} {vx : SV}
    (hd : dOk C.nt d = true) (hT : C.ty T = some ⟨.slice e, sz, by', ze, fl⟩) (he : C.ty e = some te) (hsz : 0 < te.size) (hx : ev s.sl x = some vx) (hvx : vx.den = v) (hk : lk k s.own = some (b, .row v e te.size n xs)) (hmh : C.mh ≤ k)
    (hy : ev s.sl y = some z) (hsrc : Src C s z m news) (hl : news.length = m * te.size) (h1 : ∀ u ∈ news, u.oneCell' = true) (h63 : n + m ≤ 9223372036854775807) (hbytes : (n + m) * te.bytes ≤ 140737488355328)
    (h : ∀ v', SGo C (.ops R l :: K) ⟨putS d (.v v') s.sl, stk k (b, .row v' e te.size (n + m) (xs ++ news)) s.own, s.G, s.df⟩) :
    SGo C (.ops R (⟨d, .call ⟨.builtin .append, #[x, y], #[T, T]⟩, t, pos, aft, none⟩ :: l) :: K) s := by
  intro a w hS
  have hxv := ev_ok hS.sl hx
  have hyv := ev_ok hS.sl hy
  rw [hvx] at hxv
  obtain ⟨ad, c, hz, hnews⟩ := hsrc w hS.mem
  rw [hz] at hyv
  have g1 := (C.tyok _ _ hT).k
  simp only [TK.fits] at g1
  obtain ⟨f1, f2⟩ := hS.mem.own _ _ _ hk
  simp only [OO.holds] at f1
  obtain ⟨v', w', hr, k1, k2, k3⟩ := append_row (P := C.P) (w := w) 0 T t e g1 (C.tyok _ _ he) hsz v n xs f1 ad m c news hl hnews h1 h63 hbytes (Nat.zero_le _)
  have hrun : (execOp a.eval ⟨d, .call ⟨.builtin .append, #[x, y], #[T, T]⟩, t, pos, aft, none⟩).run C.P w = .ok (.value v') w' := by
    simp only [execOp, resolve, invoke, builtin, Sem.run_bind, Sem.run_pure, Result.andThen_ok, List.map_toArray, List.map_cons, List.map_nil, hxv, hyv, hr]
  have hm' : Mem C (stk k (b, .row v' e te.size (n + m) (xs ++ news)) s.own) s.G w' :=
    hS.mem.put hk k2.os k2.tape k2.output k2.size (fun j hj hne => k2.block j hj (fun q => hne q.symm)) k1 (fun g => ⟨fun hg => k3 g hg, fun hg => k3 g hg⟩)
  refine K_value rfl hrun ?_
  have := h v' _ _ (hS.put hd (.v v') hm')
  simpa only [SV.den] using this

/-- append of nothing: a nil slice. -/
theorem go_append_nil (k : Nat) {x y : Operand} {T e : TypeId} {te : TI} {sz by' : Nat} {ze : List Value} {fl : List (Nat × Nat × Bool)} {b n c : Nat} {v : Value} {xs : List Value} {z : SV} {vx : SV}
    (hd : dOk C.nt d = true) (hT : C.ty T = some ⟨.slice e, sz, by', ze, fl⟩) (he : C.ty e = some te) (hx : ev s.sl x = some vx) (hvx : vx.den = v) (hk : lk k s.own = some (b, .row v e te.size n xs))
    (hy : ev s.sl y = some z) (hz : z.den = .slice none 0 c)
    (h : SGo C (.ops R l :: K) ⟨putS d (.v v) s.sl, s.own, s.G, s.df⟩) :
    SGo C (.ops R (⟨d, .call ⟨.builtin .append, #[x, y], #[T, T]⟩, t, pos, aft, none⟩ :: l) :: K) s := by
  intro a w hS
  have hxv := ev_ok hS.sl hx
  have hyv := ev_ok hS.sl hy
  rw [hvx] at hxv
  rw [hz] at hyv
  have g1 := (C.tyok _ _ hT).k
  simp only [TK.fits] at g1
  obtain ⟨f1, f2⟩ := hS.mem.own _ _ _ hk
  simp only [OO.holds] at f1
  have hr : (Builtin.append_ #[T, T] t #[v, .slice none 0 c]).run C.P w = .ok v w := by
    rcases f1.2 with ⟨rfl, rfl⟩ | ⟨g0, cap, cur, rfl, hbg, hgg, hnc, hcm, hcs, htake⟩
    · simp [Builtin.append_, run_und w g1, run_size w (C.tyok _ _ he), Builtin.lenOf, Builtin.firstCells]
    · simp [Builtin.append_, run_und w g1, run_size w (C.tyok _ _ he), Builtin.lenOf, Builtin.firstCells, hnc, storeCells]
  have hrun : (execOp a.eval ⟨d, .call ⟨.builtin .append, #[x, y], #[T, T]⟩, t, pos, aft, none⟩).run C.P w = .ok (.value v) w := by
    simp only [execOp, resolve, invoke, builtin, Sem.run_bind, Sem.run_pure, Result.andThen_ok, List.map_toArray, List.map_cons, List.map_nil, hxv, hyv, hr]
  refine K_value rfl hrun ?_
  have := h _ _ (hS.put hd (.v v) hS.mem)
  simpa only [SV.den] using this

/-- append of whatever can be appended, a nil slice too. -/
theorem go_append_any (k : Nat) {x y : Operand} {T e : TypeId} {te : TI} {sz by' : Nat} {ze : List Value} {fl : List (Nat × Nat × Bool)} {b n m : Nat} {v : Value} {xs news : List Value} {z : SV} {vx : SV}
    (hd : dOk C.nt d = true) (hT : C.ty T = some ⟨.slice e, sz, by', ze, fl⟩) (he : C.ty e = some te) (hsz : 0 < te.size) (hx : ev s.sl x = some vx) (hvx : vx.den = v) (hk : lk k s.own = some (b, .row v e te.size n xs)) (hmh : C.mh ≤ k)
    (hy : ev s.sl y = some z) (hsrc : (∃ c, z.den = .slice none 0 c ∧ m = 0 ∧ news = []) ∨ Src C s z m news) (hl : news.length = m * te.size) (h1 : ∀ u ∈ news, u.oneCell' = true) (h63 : n + m ≤ 9223372036854775807) (hbytes : (n + m) * te.bytes ≤ 140737488355328)
    (h : ∀ v', SGo C (.ops R l :: K) ⟨putS d (.v v') s.sl, stk k (b, .row v' e te.size (n + m) (xs ++ news)) s.own, s.G, s.df⟩) :
    SGo C (.ops R (⟨d, .call ⟨.builtin .append, #[x, y], #[T, T]⟩, t, pos, aft, none⟩ :: l) :: K) s := by
  rcases hsrc with ⟨c, hz, rfl, rfl⟩ | hsrc
  · refine go_append_nil k hd hT he hx hvx hk hy hz ?_
    have := h v
    simp only [Nat.add_zero, List.append_nil] at this
    refine SGo.weaken (s' := ⟨putS d (.v v) s.sl, stk k (b, .row v e te.size n xs) s.own, s.G, s.df⟩) rfl rfl (fun _ _ e => .inl e) (fun i q e => ?_) this
    simp only [lk_stk] at e
    split at e
    · rename_i e'; subst e'; cases e; exact hk
    · exact e
  · exact go_append k hd hT he hsz hx hvx hk hmh hy hsrc hl h1 h63 hbytes h

/-- A nil slice is one that can grow. -/
theorem go_nilrow (k : Nat) (e : TypeId) (size : Nat) (hk : lk k s.own = none) (hmh : C.mh ≤ k) (h : SGo C K ⟨s.sl, stk k (0, .row (.slice none 0 0) e size 0 []) s.own, s.G, s.df⟩) : SGo C K s := by
  intro a w hS
  refine h a w ⟨hS.sl, hS.nt, hS.df, ?_⟩
  exact hS.mem.new hk hmh rfl rfl rfl (Nat.le_refl _) (fun _ _ => rfl) (World.ownsRow_nil w _ e size) (fun g hg => by simp [OO.blks, Value.ownBlock] at hg)

/-- A slice literal, seen as one that can grow. -/
theorem go_litrow (k : Nat) {b n size : Nat} {e : TypeId} {cells : List SV} (hk : lk k s.own = some (b, .c e cells)) (hmh : C.mh ≤ k) (hn : cells.length = n * size) (hn63 : n ≤ 9223372036854775807)
    (h : SGo C K ⟨s.sl, stk k (b, .row (.slice (some ⟨b, 0, none⟩) n n) e size n (dens cells)) s.own, s.G, s.df⟩) : SGo C K s := by
  intro a w hS
  refine h a w ⟨hS.sl, hS.nt, hS.df, ?_⟩
  obtain ⟨f1, f2⟩ := hS.mem.own _ _ _ hk
  simp only [OO.holds] at f1
  have hb := f2 b rfl
  refine hS.mem.put hk rfl rfl rfl (Nat.le_refl _) (fun _ _ _ => rfl) ?_ (fun g => ⟨fun hg => .inl (by simp [OO.blks, Value.ownBlock] at hg ⊢; exact hg.symm), fun hg => .inl (by simp [OO.mut, Value.ownBlock] at hg ⊢; exact hg.symm)⟩)
  refine ⟨by rw [dens_eq]; simpa using hn, .inr ⟨b, n, _, rfl, Nat.zero_le _, f1, Nat.le_refl _, by simp only [maxLen]; omega, by rw [dens_eq]; simpa using hn, ?_⟩⟩
  rw [dens_eq]
  simp only [List.take_of_length_le (show (List.map SV.den cells).length ≤ n * size by simp; omega)]

/-- The two forms of a slice that can grow. -/
theorem go_rowcases (k : Nat) {b n size : Nat} {e : TypeId} {v : Value} {xs : List Value} (hk : lk k s.own = some (b, .row v e size n xs))
    (h1 : v = .slice none 0 0 → n = 0 → xs = [] → SGo C K s) (h2 : ∀ g cap, v = .slice (some ⟨g, 0, none⟩) n cap → n ≤ cap → xs.length = n * size → SGo C K s) : SGo C K s := by
  intro a w hS
  obtain ⟨f1, f2⟩ := hS.mem.own _ _ _ hk
  simp only [OO.holds] at f1
  rcases f1.2 with ⟨q1, q2⟩ | ⟨g0, cap, cur, q1, hbg, hgg, hnc, hcm, hcs, htake⟩
  · exact h1 q1 q2 (List.eq_nil_of_length_eq_zero (by have := f1.1; rw [q2] at this; simpa using this)) a w hS
  · exact h2 g0 cap q1 hnc f1.1 a w hS

/-- A slice that grew goes to what is known for good. -/
theorem go_pubrow (k : Nat) {b n size g cap : Nat} {e : TypeId} {xs : List Value} (hk : lk k s.own = some (b, .row (.slice (some ⟨g, 0, none⟩) n cap) e size n xs)) (hmh : C.mh ≤ k)
    (h : ∀ G', Le s.G G' → At G' g 0 xs → SGo C K ⟨s.sl, rmk k s.own, G', s.df⟩) : SGo C K s := by
  intro a w hS
  obtain ⟨f1, f2⟩ := hS.mem.own _ _ _ hk
  simp only [OO.holds] at f1
  have hat := row_load (P := C.P) f1
  obtain ⟨arr, e', fz, q1, q2, q3⟩ := hat
  -- the same state, the row seen as one block as a whole
  have hblk : (OO.row (.slice (some ⟨g, 0, none⟩) n cap) e size n xs).blks b g := rfl
  have hg := f2 g hblk
  have hm' : Mem C (stk k (g, .o (.cells arr e' fz)) s.own) s.G w :=
    hS.mem.put hk rfl rfl rfl (Nat.le_refl _) (fun _ _ _ => rfl) q1 (fun j => ⟨fun hj => .inl (by simp [OO.blks, Value.ownBlock] at hj ⊢; exact hj.symm), fun hj => .inl (by simp [OO.mut, Value.ownBlock] at hj ⊢; exact hj.symm)⟩)
  have key : SGo C K ⟨s.sl, stk k (g, .o (.cells arr e' fz)) s.own, s.G, s.df⟩ := by
    refine go_pubx k (o := .o (.cells arr e' fz)) (b := g) (g := g) (x := .cells arr e' fz) (by simp [lk_stk]) hmh rfl (fun _ hw => hw) ?_
    intro G' hle hG
    have := h G' hle ⟨arr, e', fz, hG, q2, q3⟩
    refine SGo.weaken (s' := ⟨s.sl, rmk k s.own, G', s.df⟩) rfl rfl (fun _ _ e => .inl e) (fun i x e => ?_) this
    simp only [lk_rmk, lk_stk] at e ⊢
    split at e
    · cases e
    · rename_i hne; rw [if_neg hne, if_neg hne]; exact e
  exact key a w ⟨hS.sl, hS.nt, hS.df, hm'⟩

/-- make([]T, n). -/
theorem go_make (k : Nat) {x y : Operand} {T e : TypeId} {te : TI} {sz by' : Nat} {ze : List Value} {fl : List (Nat × Nat × Bool)} {n c : Nat} {k1 k2 : IntKind}
    (hd : dOk C.nt d = true) (hT : C.ty T = some ⟨.slice e, sz, by', ze, fl⟩) (he : C.ty e = some te) (hx : ev s.sl x = some (.v (.int k1 n))) (hy : ev s.sl y = some (.v (.int k2 c))) (hnc : n ≤ c)
    (hk : lk k s.own = none) (hmh : C.mh ≤ k) (h63 : c ≤ 9223372036854775807) (hbytes : te.bytes * c ≤ 281474976710656) (hz : te.zero ≠ [])
    (h : ∀ g, SGo C (.ops R l :: K) ⟨putS d (.v (.slice (some ⟨g, 0, none⟩) n c)) s.sl, stk k (g, .row (.slice (some ⟨g, 0, none⟩) n c) e te.size n (rep te.zero n)) s.own, s.G, s.df⟩) :
    SGo C (.ops R (⟨d, .makeSlice T x y, t, pos, aft, none⟩ :: l) :: K) s := by
  intro a w hS
  have hxv := ev_ok hS.sl hx
  have hyv := ev_ok hS.sl hy
  simp only [SV.den] at hxv hyv
  have g1 := (C.tyok _ _ hT).k
  simp only [TK.fits] at g1
  obtain ⟨i, z, hi, hs, hb, hzz, hc⟩ := (C.tyok _ _ he).info
  have hlen := (C.tyok _ _ he).len
  have hb' : (i.bytes : Int) * (c : Int) ≤ 281474976710656 := by
    have q : ((i.bytes * c : Nat) : Int) ≤ 281474976710656 := by rw [hb]; omega
    rwa [Int.natCast_mul] at q
  have hr := run_make (P := C.P) w T e i z g1 hi hzz k1 k2 n c (by omega) (by omega) hb' (by omega)
  simp only [Int.toNat_natCast] at hr
  have hrun : (execOp a.eval ⟨d, .makeSlice T x y, t, pos, aft, none⟩).run C.P w = .ok (.value (.slice (some ⟨w.heap.size, 0, none⟩) n c)) (w.alloc (.cells (madeCells z.cells (c * i.size)) e)) := by
    simp only [execOp, hxv, hyv, Sem.run_bind, hr, Result.andThen_ok, Sem.run_pure]
  have hmade : (madeCells z.cells (c * i.size)).toList = rep te.zero c := by
    rw [hc, hs, ← hlen]
    exact rep_ok te.zero hz c
  have hrl : ∀ q, (rep te.zero q).length = q * te.size := by
    intro q
    induction q with
    | zero => simp [rep]
    | succ q ih => simp only [rep, List.length_append, ih, hlen, Nat.succ_mul]; omega
  have hrt : ∀ q p, q ≤ p → (rep te.zero p).take (q * te.size) = rep te.zero q := by
    intro q
    induction q with
    | zero => intro p _; simp [rep]
    | succ q ih =>
      intro p hp
      obtain ⟨p', rfl⟩ : ∃ p', p = p' + 1 := ⟨p - 1, by omega⟩
      simp only [rep, Nat.succ_mul]
      rw [Nat.add_comm, List.take_append, hlen, show te.size + q * te.size - te.size = q * te.size by omega, ih p' (by omega), List.take_of_length_le (by omega)]
  have hm' : Mem C (stk k (w.heap.size, .row (.slice (some ⟨w.heap.size, 0, none⟩) n c) e te.size n (rep te.zero n)) s.own) s.G (w.alloc (.cells (madeCells z.cells (c * i.size)) e)) := by
    refine hS.mem.new hk hmh rfl rfl rfl (by simp) (fun j hj => alloc_old w _ hj) ?_ (fun g hg => by simp only [OO.blks, Value.ownBlock, Option.some.injEq] at hg; omega)
    refine ⟨hrl n, .inr ⟨_, c, _, rfl, Nat.zero_le _, alloc_new w _, hnc, by simp only [maxLen]; omega, ?_, ?_⟩⟩
    · rw [← Array.length_toList, hmade, hrl]
    · rw [hmade, hrt n c hnc]
  refine K_value rfl hrun ?_
  have := h _ _ _ (hS.put hd (.v (.slice (some ⟨w.heap.size, 0, none⟩) n c)) hm')
  simpa only [SV.den] using this

/-- A store into a slice of the call's own. -/
theorem go_storeR (k : Nat) {T e : TypeId} {x y : Operand} {ti : TI} {b b' off n cap size : Nat} {xs xs' : List Value} {z : SV} {vs : List SV}
    (hd : dOk C.nt d = true) (hT : C.ty T = some ti) (hx : ev s.sl x = some (.v (.pointer (some ⟨b, off, none⟩)))) (hy : ev s.sl y = some z) (hcs : z.cs = some vs) (hlen : vs.length = ti.size) (hone : vs.all SV.one = true)
    (hk : lk k s.own = some (b', .row (.slice (some ⟨b, 0, none⟩) n cap) e size n xs)) (hlay : lay xs off (dens vs) = some xs')
    (h : SGo C (.ops R l :: K) ⟨putS d (.v undef) s.sl, stk k (b', .row (.slice (some ⟨b, 0, none⟩) n cap) e size n xs') s.own, s.G, s.df⟩) : SGo C (.ops R (⟨d, .store T x y, t, pos, aft, none⟩ :: l) :: K) s := by
  intro a w hS
  have hxv := ev_ok hS.sl hx
  have hyv := ev_ok hS.sl hy
  simp only [SV.den] at hxv
  have hc := SV.cs_ok hcs
  have hsz : (dens vs).toArray.size = ti.size := by simp [dens_eq, hlen]
  obtain ⟨f1, f2⟩ := hS.mem.own _ _ _ hk
  simp only [OO.holds] at f1
  rcases f1.2 with ⟨q1, q2⟩ | ⟨g0, cap', cur, q1, hbg, hgg, hnc, hcm, hcss, htake⟩
  · cases q1
  cases q1
  -- the cells beyond the slice's length stay
  have hlay2 : ∀ (l1 l2 : List Value) (o : Nat) (us l' : List Value), lay l1 o us = some l' → lay (l1 ++ l2) o us = some (l' ++ l2) := by
    intro l1
    induction l1 with
    | nil => intro l2 o us l' hl; cases us with
      | nil => simp [lay] at hl; subst hl; cases l2 <;> cases o <;> simp [lay]
      | cons u us => cases o <;> simp [lay] at hl
    | cons q l1 ih =>
      intro l2 o us l' hl
      cases us with
      | nil => cases o <;> simp [lay] at hl <;> subst hl <;> simp [lay]
      | cons u us =>
        cases o with
        | zero =>
          simp only [lay, Option.map_eq_some_iff] at hl
          obtain ⟨r, h1, rfl⟩ := hl
          simp [lay, ih l2 0 us r h1]
        | succ o =>
          simp only [lay, Option.map_eq_some_iff] at hl
          obtain ⟨r, h1, rfl⟩ := hl
          simp [lay, ih l2 o (u :: us) r h1]
  have hlaylen : ∀ (l1 : List Value) (o : Nat) (us l' : List Value), lay l1 o us = some l' → l'.length = l1.length := by
    intro l1 o us
    induction us generalizing l1 o with
    | nil => intro l' hl; cases l1 <;> cases o <;> simp [lay] at hl <;> subst hl <;> rfl
    | cons u us ih =>
      intro l' hl
      obtain ⟨_, h2⟩ := lay_step _ _ _ _ _ hl
      rw [ih _ _ _ h2]; simp
  have hcur : cur.toList = xs ++ cur.toList.drop (n * size) := by rw [← htake]; simp
  have hl2 := hlay2 xs (cur.toList.drop (n * size)) off (dens vs) xs' hlay
  rw [← hcur] at hl2
  have hgg' : w.heap[b]? = some (.cells cur.toList.toArray e) := by simpa using hgg
  have hst := run_storeCells (P := C.P) (off := off) (dens vs) 0 w cur.toList (xs' ++ cur.toList.drop (n * size)) hgg' (fun u hu => by
    rw [dens_eq, List.mem_map] at hu
    obtain ⟨q, hq, rfl⟩ := hu
    exact SV.one_ok (List.all_eq_true.1 hone q hq)) (by simpa using hl2)
  have hrun : (execOp a.eval ⟨d, .store T x y, t, pos, aft, none⟩).run C.P w = .ok .skip (setBlk w b (.cells (xs' ++ cur.toList.drop (n * size)).toArray e)) := by
    simp only [execOp, hxv, hyv, Instr.storeAt, Instr.sureAddr, storeVar, Sem.run_bind, Sem.run_pure, Result.andThen_ok, run_size w (C.tyok _ _ hT), hc, hsz]
    simp only [ne_eq, not_true_eq_false, if_false, Sem.run_pure, Result.andThen_ok]
    rw [hst]; simp
  have hlt := lt_of_heap hgg
  have hxl := hlaylen _ _ _ _ hlay
  have hm' : Mem C (stk k (b', .row (.slice (some ⟨b, 0, none⟩) n cap) e size n xs') s.own) s.G (setBlk w b (.cells (xs' ++ cur.toList.drop (n * size)).toArray e)) := by
    refine hS.mem.put hk rfl rfl rfl (by rw [setBlk_size]; exact Nat.le_refl _) (fun j _ hj => setBlk_ne (fun q => hj (by rw [q]; rfl)) _) ?_ (fun g => ⟨.inl, .inl⟩)
    refine ⟨by rw [hxl]; exact f1.1, .inr ⟨b, cap, _, rfl, hbg, setBlk_same hlt _, hnc, hcm, ?_, ?_⟩⟩
    · have h3 : n * size ≤ cap * size := Nat.mul_le_mul_right _ hnc
      have h4 := f1.1
      simp only [List.size_toArray, List.length_append, List.length_drop, Array.length_toList, hxl, hcss]; omega
    · rw [List.take_append_of_le_length (by rw [hxl, f1.1]; exact Nat.le_refl _), List.take_of_length_le (by rw [hxl, f1.1]; exact Nat.le_refl _)]
  refine K_skip rfl hrun ?_
  have := h _ _ (hS.put hd (.v undef) hm')
  simpa only [SV.den] using this

/-! ### A region that draws its order, some of its operations not quiet -/

/-- All that the first list says the second says too. -/
def AllIn (own0 own : List (Nat × Nat × OO)) : Prop :=
  match own0 with
  | [] => True
  | x :: r => lk x.1 own = some x.2 ∧ AllIn r own
theorem allIn {own0 own : List (Nat × Nat × OO)} (h : AllIn own0 own) : ∀ j y, lk j own0 = some y → lk j own = some y := by
  induction own0 with
  | nil => intro j y e; simp [lk] at e
  | cons x r ih =>
    intro j y e
    simp only [lk] at e
    split at e
    · rename_i q; cases e; rw [q]; exact h.1
    · exact ih h.2 j y e

theorem go_held {id : Nat} (own0 : List (Nat × Nat × OO)) (hm : C.P.follows .mixedOrders = true) (h : SGo C (.h (Hold C own0 s.G) R R.size (Array.replicate R.size false) :: K) s) : SGo C (.code (.region id R true) :: K) s := by
  intro a w hS
  have := h a _ (⟨hS.sl, hS.nt, hS.df, hS.mem.drew⟩ : Sat C s a w.drew)
  simp only [wpK] at this ⊢
  exact wpIn_region_held (S := Hold C own0 s.G) hm this

/-- What is asked of a panic does not look at the slots. -/
def QP (C : Ctx) : Prop := ∀ c (a : Act) w d v, C.Q (.panic c) (a.put d v) w → C.Q (.panic c) a w
theorem qp_body {fn : Func} {Rr : Ending → World → Prop} (hQ : C.Q = bodyPost C.P fn Rr) : QP C := by
  intro c a w d v hp
  rw [hQ] at hp ⊢
  refine ⟨?_, hp.2⟩
  have := hp.1
  cases d <;> exact this

theorem h_take (i : Nat) {own0 : List (Nat × Nat × OO)} {G0 : Hp} {n : Nat} {listed : Array Bool} {op : Op} {x : SV} (hi : R[i]? = some ⟨d, op, t, pos, aft, none⟩) (hs : Region.noSelect R = true) (hf : Region.free .any R listed i = true)
    (hr : (Region.ready .any R listed).contains i = true) (hQ : QP C) (hd : dOk C.nt d = true) (ho : ∀ j y, lk j own0 = some y → lk j s.own = some y) (hG : Le G0 s.G)
    (hq : Quiet C s.sl own0 G0 op x.den) (h : SGo C (.h (Hold C own0 G0) R n (listed.setIfInBounds i true) :: K) ⟨putS d x s.sl, s.own, s.G, s.df⟩) :
    SGo C (.h (Hold C own0 G0) R (n + 1) listed :: K) s := by
  intro a w hS
  have hhold : Hold C own0 G0 w := ⟨fun k b o e => (hS.mem.own k b o (ho _ _ e)).1, fun b o e => hS.mem.has b o (hG b o e)⟩
  have := h _ _ (hS.put hd x hS.mem)
  simp only [wpK] at this ⊢
  refine wpAnyHI_take (i := i) (v := x.den) hi hs hf hr ?_ (.inl ⟨by simp [Region.wanted], fun w' hw' => hq a w' d t pos aft none hS.sl hw'⟩) hhold this
  intro c a' w' hp
  exact wpK_panic c d x.den (fun a w => hQ c a w d x.den) K a' w' hp

theorem h_step {own0 : List (Nat × Nat × OO)} {G0 : Hp} {n : Nat} {listed : Array Bool} {i : Nat} {o : Oper} {a : Act} {w : World} (hi : R[i]? = some o)
    (this : wpK C.P C.ro C.Q (.ops R [o] :: .hs (Hold C own0 G0) :: .h (Hold C own0 G0) R n (listed.setIfInBounds i true) :: K) .normal a w) :
    wpOpIn (FR C.ro) 0 C.P R (wpK C.P C.ro C.Q K) i (fun a' w' => Hold C own0 G0 w' ∧ wpAnyHI C.P C.ro .any R (wpK C.P C.ro C.Q K) (Hold C own0 G0) n (listed.setIfInBounds i true) a' w') a w := by
  simp only [wpK] at this
  unfold wpOpIn
  simp only [hi]
  simp only [wpListIn] at this
  split
  · rename_i hw
    rw [if_pos hw] at this
    refine ⟨this.1, ?_⟩
    have q := this.2
    generalize (o.semAt (FR C.ro).round a.eval).run C.P w = r at q ⊢
    cases r with
    | ok nx w' =>
      cases nx <;> simp only [Oper.uponIn] at q ⊢
      case value u => simpa only [wpK] using q
      case skip => simpa only [wpK] using q
      case defer u => simpa only [wpK] using q
      case enter f args =>
        refine ⟨q.1, q.2.mono fun e w'' he => ?_⟩
        cases e with
        | returned u => simpa only [wpK] using he
        | panicked c => exact he
        | outgrown => simpa only [LetsOut, wpK] using he
      case row row args => exact ⟨q.1, q.2.mono fun u w'' he => by simpa only [wpK] using he⟩
      case round l f tmps assign body =>
        refine ⟨q.1, q.2.mono fun e w'' he => ?_⟩
        cases e with
        | returned u => simpa only [wpK] using he
        | panicked c => exact he
        | outgrown => simpa only [LetsOut, wpK] using he
    | halt x w' =>
      cases x <;> simp only [Oper.uponIn] at q ⊢
      case panic u => exact q
  · rename_i hw
    rw [if_neg hw] at this
    refine ⟨this.1, ?_⟩
    have := this.2
    simpa only [wpK] using this

/-- The one operation that may come up now. -/
theorem h_one (i : Nat) {own0 : List (Nat × Nat × OO)} {G0 : Hp} {n : Nat} {listed : Array Bool} {op : Op} {g : Option (Nat × Bool)} (hi : R[i]? = some ⟨d, op, t, pos, aft, g⟩) (hr : Region.ready .any R listed = [i])
    (h : SGo C (.ops R [⟨d, op, t, pos, aft, g⟩] :: .hs (Hold C own0 G0) :: .h (Hold C own0 G0) R n (listed.setIfInBounds i true) :: K) s) : SGo C (.h (Hold C own0 G0) R (n + 1) listed :: K) s := by
  intro a w hS
  have := h a w hS
  show wpAnyHI _ _ _ _ _ _ _ _ _ _
  refine wpAnyHI_all hr (by simp) ?_
  intro j hj
  simp only [List.mem_singleton] at hj
  subst hj
  exact h_step hi this

/-- Two operations may come up now. -/
theorem h_two (i j : Nat) {own0 : List (Nat × Nat × OO)} {G0 : Hp} {n : Nat} {listed : Array Bool} {op op' : Op} {g g' : Option (Nat × Bool)} {d' : Option Tmp} {t' : TypeId} {pos' : String} {aft' : Array Edge} (hi : R[i]? = some ⟨d, op, t, pos, aft, g⟩) (hj : R[j]? = some ⟨d', op', t', pos', aft', g'⟩) (hr : Region.ready .any R listed = [i, j])
    (h : SGo C (.ops R [⟨d, op, t, pos, aft, g⟩] :: .hs (Hold C own0 G0) :: .h (Hold C own0 G0) R n (listed.setIfInBounds i true) :: K) s)
    (h' : SGo C (.ops R [⟨d', op', t', pos', aft', g'⟩] :: .hs (Hold C own0 G0) :: .h (Hold C own0 G0) R n (listed.setIfInBounds j true) :: K) s) : SGo C (.h (Hold C own0 G0) R (n + 1) listed :: K) s := by
  intro a w hS
  have h1 := h a w hS
  have h2 := h' a w hS
  show wpAnyHI _ _ _ _ _ _ _ _ _ _
  refine wpAnyHI_all hr (by simp) ?_
  intro q hq
  simp only [List.mem_cons, List.not_mem_nil, or_false] at hq
  rcases hq with rfl | rfl
  · exact h_step hi h1
  · exact h_step hj h2

theorem h_hs {own0 : List (Nat × Nat × OO)} {G0 : Hp} (ho : ∀ j y, lk j own0 = some y → lk j s.own = some y) (hG : Le G0 s.G) (h : SGo C K s) : SGo C (.hs (Hold C own0 G0) :: K) s := by
  intro a w hS
  exact ⟨⟨fun k b o e => (hS.mem.own k b o (ho _ _ e)).1, fun b o e => hS.mem.has b o (hG b o e)⟩, h a w hS⟩

theorem h_end {own0 : List (Nat × Nat × OO)} {G0 : Hp} {n : Nat} {listed : Array Bool} (hr : Region.ready .any R listed = []) (h : SGo C K s) : SGo C (.h (Hold C own0 G0) R n listed :: K) s := by
  intro a w hS
  exact wpAnyHI_done hr (h a w hS) n
end
end Go.Sx
