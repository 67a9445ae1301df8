/-
  A symbolic walk over the model's code: lists in memory, generic; calls that write into memory that was lent to them. Names no program.
-/
import Derived.Test.YtimoldnagdlbcaaSxQ
namespace Go.Sx
set_option linter.unusedSimpArgs false
set_option linter.unusedVariables false
open Go.RowKit

/-! ### Lists of elements in memory -/

/-- How an element lies in its cells. -/
structure Rp (α : Type) where
  size : Nat
  e : Hp → α → List Value → Prop
  mono : ∀ {G G' x cs}, Le G G' → e G x cs → e G' x cs
  len : ∀ {G x cs}, e G x cs → cs.length = size
  one : ∀ {G x cs}, e G x cs → ∀ u ∈ cs, u.oneCell' = true

section
variable {α : Type} (r : Rp α)

/-- These cells hold these elements. -/
def Rp.L (G : Hp) : List α → List Value → Prop
  | [], cs => cs = []
  | x :: l, cs => ∃ c d, cs = c ++ d ∧ r.e G x c ∧ Rp.L G l d
/-- This slice value holds these elements. -/
def Rp.S (G : Hp) (l : List α) (v : Value) : Prop :=
  l.length ≤ 9223372036854775807 ∧ ∃ ad cap, v = .slice ad l.length cap ∧ (l = [] ∨ ∃ b off cs, ad = some ⟨b, off, none⟩ ∧ At G b off cs ∧ r.L G l cs)
variable {r} {G G' : Hp}
theorem Rp.L_mono (hl : Le G G') : ∀ {l : List α} {cs : List Value}, r.L G l cs → r.L G' l cs
  | [], _, h => h
  | x :: l, cs, h => by
    obtain ⟨c, d, h1, h2, h3⟩ := h
    exact ⟨c, d, h1, r.mono hl h2, Rp.L_mono hl h3⟩
theorem Rp.S_mono (hl : Le G G') {l : List α} {v : Value} (h : r.S G l v) : r.S G' l v := by
  obtain ⟨h3, ad, cap, h4, h5⟩ := h
  refine ⟨h3, ad, cap, h4, ?_⟩
  rcases h5 with h5 | ⟨b, off, cs, h5, h6, h7⟩
  · exact .inl h5
  · exact .inr ⟨b, off, cs, h5, h6.mono hl, Rp.L_mono hl h7⟩
theorem Rp.S_slice {l : List α} {v : Value} (h : r.S G l v) : ∃ ad cap, v = .slice ad l.length cap := by
  obtain ⟨_, ad, cap, h, _⟩ := h; exact ⟨ad, cap, h⟩
theorem Rp.S_len {l : List α} {v : Value} (h : r.S G l v) : l.length ≤ 9223372036854775807 := h.1
theorem Rp.S_nil (ad : Option Addr) (cap : Nat) : r.S G [] (.slice ad 0 cap) := ⟨by simp, ad, cap, rfl, .inl rfl⟩
theorem Rp.L_len : ∀ {l : List α} {cs : List Value}, r.L G l cs → cs.length = l.length * r.size
  | [], cs, h => by have h : cs = [] := h; simp [h]
  | x :: l, cs, h => by
    obtain ⟨c, d, rfl, h2, h3⟩ := h
    have := Rp.L_len h3
    have := r.len h2
    simp only [List.length_cons, List.length_append, Nat.succ_mul]; omega
theorem Rp.L_one : ∀ {l : List α} {cs : List Value}, r.L G l cs → ∀ u ∈ cs, u.oneCell' = true
  | [], cs, h => by have h : cs = [] := h; simp [h]
  | x :: l, cs, h => by
    obtain ⟨c, d, rfl, h2, h3⟩ := h
    intro u hu
    rcases List.mem_append.1 hu with hu | hu
    · exact r.one h2 u hu
    · exact Rp.L_one h3 u hu
theorem Rp.L_append : ∀ {l l' : List α} {cs cs' : List Value}, r.L G l cs → r.L G l' cs' → r.L G (l ++ l') (cs ++ cs')
  | [], l', cs, cs', h, h' => by have h : cs = [] := h; subst h; simpa using h'
  | x :: l, l', cs, cs', h, h' => by
    obtain ⟨c, d, rfl, h2, h3⟩ := h
    exact ⟨c, d ++ cs', by simp, h2, Rp.L_append h3 h'⟩
theorem Rp.L_single {x : α} {cs : List Value} (h : r.e G x cs) : r.L G [x] cs := ⟨cs, [], by simp, h, rfl⟩
theorem Rp.L_drop : ∀ {l : List α} {cs : List Value} (i : Nat), r.L G l cs → r.L G (l.drop i) (cs.drop (i * r.size))
  | l, cs, 0, h => by simpa using h
  | [], cs, i + 1, h => by have h : cs = [] := h; subst h; simp [Rp.L]
  | x :: l, cs, i + 1, h => by
    obtain ⟨c, d, rfl, h2, h3⟩ := h
    have := Rp.L_drop i h3
    have hc := r.len h2
    have e : (c ++ d).drop ((i + 1) * r.size) = d.drop (i * r.size) := by rw [Nat.succ_mul, Nat.add_comm, ← hc, List.drop_length_add_append]
    rw [e]
    simpa using this
theorem Rp.L_take : ∀ {l : List α} {cs : List Value} (i : Nat), r.L G l cs → r.L G (l.take i) (cs.take (i * r.size))
  | l, cs, 0, h => by simp [Rp.L]
  | [], cs, i + 1, h => by have h : cs = [] := h; subst h; simp [Rp.L]
  | x :: l, cs, i + 1, h => by
    obtain ⟨c, d, rfl, h2, h3⟩ := h
    have := Rp.L_take i h3
    have hc := r.len h2
    refine ⟨c, d.take (i * r.size), ?_, h2, this⟩
    rw [Nat.succ_mul, Nat.add_comm, ← hc, List.take_length_add_append]
theorem Rp.L_get {l : List α} {cs : List Value} (h : r.L G l cs) {i : Nat} (hi : i < l.length) : ∃ c, (cs.drop (i * r.size)).take r.size = c ∧ r.e G l[i] c := by
  have h1 := Rp.L_drop i h
  rw [List.drop_eq_getElem_cons hi] at h1
  obtain ⟨c, d, h2, h3, _⟩ := h1
  refine ⟨c, ?_, h3⟩
  rw [h2, ← r.len h3, List.take_left]
/-- One element, where it lies. -/
theorem Rp.at_get {l : List α} {cs : List Value} {b off : Nat} (ha : At G b off cs) (h : r.L G l cs) {i : Nat} (hi : i < l.length) : ∃ c, At G b (off + i * r.size) c ∧ r.e G l[i] c := by
  obtain ⟨c, h1, h2⟩ := Rp.L_get h hi
  have hlen := Rp.L_len h
  have h3 := ha.sub (i * r.size) r.size (by rw [hlen]; have := Nat.mul_le_mul_right r.size (show i + 1 ≤ l.length from hi); rw [Nat.succ_mul] at this; omega)
  rw [h1] at h3
  exact ⟨c, h3, h2⟩
theorem Rp.S_get {l : List α} {v : Value} (h : r.S G l v) {i : Nat} (hi : i < l.length) : ∃ b off cap c, v = .slice (some ⟨b, off, none⟩) l.length cap ∧ At G b (off + i * r.size) c ∧ r.e G l[i] c := by
  obtain ⟨_, ad, cap, rfl, h | ⟨b, off, cs, rfl, ha, hL⟩⟩ := h
  · subst h; simp at hi
  · obtain ⟨c, h1, h2⟩ := Rp.at_get ha hL hi
    exact ⟨b, off, cap, c, rfl, h1, h2⟩
theorem Rp.L_set : ∀ {l : List α} {cs : List Value} {i : Nat} {x : α} {c : List Value}, r.L G l cs → r.e G x c → i < l.length → r.L G (l.set i x) (cs.take (i * r.size) ++ c ++ cs.drop (i * r.size + r.size))
  | [], _, _, _, _, _, _, hi => by simp at hi
  | y :: l, cs, 0, x, c, h, hx, _ => by
    obtain ⟨c', d, rfl, h2, h3⟩ := h
    have hc := r.len h2
    refine ⟨c, d, ?_, hx, h3⟩
    rw [Nat.zero_mul, List.take_zero, List.nil_append, Nat.zero_add, ← hc, List.drop_left]
  | y :: l, cs, i + 1, x, c, h, hx, hi => by
    obtain ⟨c', d, rfl, h2, h3⟩ := h
    have hc := r.len h2
    have ih := Rp.L_set (i := i) h3 hx (by simpa using hi)
    refine ⟨c', _, ?_, h2, ih⟩
    rw [Nat.succ_mul, Nat.add_comm (i * r.size), ← hc, List.take_length_add_append, Nat.add_assoc, List.drop_append, List.drop_eq_nil_of_le (by omega : c'.length ≤ c'.length + (i * c'.length + c'.length))]
    simp only [List.append_assoc, List.nil_append]
    congr 4
    omega
theorem lay_0 : ∀ (vs z x : List Value), z.length = vs.length → lay (z ++ x) 0 vs = some (vs ++ x)
  | [], z, x, h => by have := List.length_eq_zero_iff.1 h; subst this; simp [lay]
  | v :: vs, [], x, h => by simp at h
  | v :: vs, y :: z, x, h => by
    simp only [List.cons_append, lay]
    rw [lay_0 vs z x (by simpa using h)]
    rfl
theorem lay_m : ∀ (y vs z x : List Value), z.length = vs.length → lay (y ++ (z ++ x)) y.length vs = some (y ++ (vs ++ x))
  | [], vs, z, x, h => by simpa using lay_0 vs z x h
  | u :: y, vs, z, x, h => by
    have := lay_m y vs z x h
    cases vs with
    | nil => have := List.length_eq_zero_iff.1 h; subst this; simp [lay]
    | cons v vs =>
      simp only [List.cons_append, List.length_cons, lay]
      rw [this]
      rfl
theorem lay_put {xs c : List Value} {m : Nat} (h : m + c.length ≤ xs.length) : lay xs m c = some (xs.take m ++ c ++ xs.drop (m + c.length)) := by
  have h0 : xs = xs.take m ++ ((xs.drop m).take c.length ++ xs.drop (m + c.length)) := by
    rw [← List.drop_drop, List.take_append_drop, List.take_append_drop]
  have h1 : m = (xs.take m).length := by rw [List.length_take]; omega
  have h2 := lay_m (xs.take m) c ((xs.drop m).take c.length) (xs.drop (m + c.length)) (by simp; omega)
  rw [← h1, ← h0] at h2
  rw [h2, List.append_assoc]
theorem Rp.src {l : List α} {ad : Option Addr} {cap : Nat} (h : l = [] ∨ ∃ b off cs, ad = some ⟨b, off, none⟩ ∧ At G b off cs ∧ r.L G l cs) :
    ∃ cs, r.L G l cs ∧ ((∃ c, (SV.v (.slice ad l.length cap)).den = .slice none 0 c ∧ l.length = 0 ∧ cs = []) ∨ ∀ (C : Ctx) (s : St), s.G = G → Src C s (.v (.slice ad l.length cap)) l.length cs) := by
  rcases h with rfl | ⟨b, off, cs, rfl, ha, hr⟩
  · refine ⟨[], by simp [Rp.L], ?_⟩
    cases ad with
    | none => exact .inl ⟨cap, rfl, rfl, rfl⟩
    | some a => exact .inr fun _ _ _ => src_empty rfl
  · exact ⟨cs, hr, .inr fun _ s hs => src_at (by rw [hs]; exact ha)⟩

variable {C : Ctx} {K : List KI} {s : St} {R : Array Oper} {l : List Oper} {d : Option Tmp} {t : TypeId} {pos : String} {aft : Array Edge} {v : Value}

theorem go_pubL (r : Rp α) (k : Nat) {b n : Nat} {e : TypeId} {v : Value} {xs : List Value} {ts : List α} (hk : lk k s.own = some (b, .row v e r.size n xs)) (hmh : C.mh ≤ k) (hn : n = ts.length) (h63 : n ≤ 9223372036854775807) (hr : r.L s.G ts xs)
    (h : ∀ G' ad cap, Le s.G G' → v = .slice ad ts.length cap → r.S G' ts (.slice ad ts.length cap) → SGo C K ⟨s.sl, rmk k s.own, G', s.df⟩) : SGo C K s := by
  subst hn
  refine go_rowcases k hk (fun hv hn0 hx => ?_) (fun g cap hv hc hl => ?_)
  · have h0 : ts = [] := List.length_eq_zero_iff.1 hn0
    refine go_drop k (h s.G none 0 (Le.refl _) (by rw [hv, h0]; rfl) ⟨h63, none, 0, rfl, .inl h0⟩)
  · subst hv
    refine go_pubrow k hk hmh ?_
    intro G' hle hat
    exact h G' _ _ hle rfl ⟨h63, _, _, rfl, .inr ⟨g, 0, xs, rfl, hat, Rp.L_mono hle hr⟩⟩
theorem go_lendL (r : Rp α) (k : Nat) {f : FuncId} {args : Array Operand} {tys : Array TypeId} {vs : List SV} {b n : Nat} {e : TypeId} {u : Value} {xs : List Value} {ts : List α} (hd : dOk C.nt d = true) (hf : canCall C.P f = true) (ha : evs s.sl args.toList = some vs)
    (hk : lk k s.own = some (b, .row u e r.size n xs)) (hn : n = ts.length) (h63 : n ≤ 9223372036854775807) (hr : r.L s.G ts xs) (hc : ∀ G1, Le s.G G1 → r.S G1 ts u → Pure C.P f (dens vs) G1 (fun r _ => r = v))
    (h : SGo C (.ops R l :: K) ⟨putS d (rv v) s.sl, s.own, s.G, s.df⟩) : SGo C (.ops R (⟨d, .call ⟨.value (.func f), args, tys⟩, t, pos, aft, none⟩ :: l) :: K) s := by
  subst hn
  refine go_rowcases k hk (fun hv hn0 hx => ?_) (fun g cap hv hc' hl => ?_)
  · have h0 : ts = [] := List.length_eq_zero_iff.1 hn0
    exact go_callf hd hf ha (hc s.G (Le.refl _) ⟨h63, none, 0, by rw [hv, h0]; rfl, .inl h0⟩) h
  · subst hv
    exact go_lendR k hd hf ha hk (fun G1 hle hat => hc G1 hle ⟨h63, _, _, rfl, .inr ⟨g, 0, xs, rfl, hat, Rp.L_mono hle hr⟩⟩) h
theorem q_lendL (r : Rp α) (k : Nat) {f : FuncId} {args : Array Operand} {tys : Array TypeId} {vs : List SV} {b n : Nat} {e : TypeId} {u : Value} {xs : List Value} {ts : List α} (hd : dOk C.nt d = true) (hf : canCall C.P f = true) (ha : evs s.sl args.toList = some vs)
    (hk : lk k s.own = some (b, .row u e r.size n xs)) (hn : n = ts.length) (h63 : n ≤ 9223372036854775807) (hr : r.L s.G ts xs) (hc : ∀ G1, Le s.G G1 → r.S G1 ts u → Pure C.P f (dens vs) G1 (fun r _ => r = v))
    (h : SGo C (.q (Mem C s.own s.G) R l :: K) ⟨putS d (rv v) s.sl, s.own, s.G, s.df⟩) : SGo C (.q (Mem C s.own s.G) R (⟨d, .call ⟨.value (.func f), args, tys⟩, t, pos, aft, none⟩ :: l) :: K) s := by
  subst hn
  refine go_rowcases k hk (fun hv hn0 hx => ?_) (fun g cap hv hc' hl => ?_)
  · have h0 : ts = [] := List.length_eq_zero_iff.1 hn0
    exact q_callf hd hf ha (hc s.G (Le.refl _) ⟨h63, none, 0, by rw [hv, h0]; rfl, .inl h0⟩) h
  · subst hv
    exact q_lendR k hd hf ha hk (fun G1 hle hat => hc G1 hle ⟨h63, _, _, rfl, .inr ⟨g, 0, xs, rfl, hat, Rp.L_mono hle hr⟩⟩) h
end

/-- Whole numbers. -/
def rI : Rp Int where
  size := 1
  e _ n cs := cs = [.int .i64 n] ∧ isI64 n
  mono _ h := h
  len h := by rw [h.1]; rfl
  one h u hu := by rw [h.1] at hu; simp at hu; subst hu; rfl
theorem rI_L {G : Hp} : ∀ {l : List Int} {cs : List Value}, rI.L G l cs ↔ cs = l.map (.int .i64 ·) ∧ ∀ n ∈ l, isI64 n
  | [], cs => by simp [Rp.L]
  | x :: l, cs => by
    constructor
    · rintro ⟨c, d, rfl, ⟨rfl, h1⟩, h2⟩
      obtain ⟨rfl, h3⟩ := rI_L.1 h2
      exact ⟨by simp, by simpa using ⟨h1, h3⟩⟩
    · rintro ⟨rfl, h⟩
      exact ⟨[.int .i64 x], _, by simp, ⟨rfl, h x (by simp)⟩, rI_L.2 ⟨rfl, fun n hn => h n (by simp [hn])⟩⟩

/-! ### Calls that write into lent memory -/

abbrev Lds := List (Nat × OO)
/-- These things are there, apart, and G knows nothing of what may be written. -/
structure Lent (ow : Lds) (G : Hp) (w : World) : Prop where
  own : ∀ (i b : Nat) (o : OO), ow[i]? = some (b, o) → o.holds 0 w b ∧ ∀ g, o.mut b g → G g = none
  inj : ∀ (i j b b' : Nat) (o o' : OO) (g : Nat), ow[i]? = some (b, o) → ow[j]? = some (b', o') → o.blks b g → o'.blks b' g → i = j
def mutOf (ow : Lds) (g : Nat) : Prop := ∃ (i b : Nat) (o : OO), ow[i]? = some (b, o) ∧ o.mut b g
def blkOf (ow : Lds) (g : Nat) : Prop := ∃ (i b : Nat) (o : OO), ow[i]? = some (b, o) ∧ o.blks b g
/-- How a call ends to which things were lent. -/
def RetW (w : World) (G : Hp) (ow : Lds) (φ : Value → Hp → Lds → Prop) : Ending → World → Prop := fun e w' =>
  ∃ v G' ow', e = .returned v ∧ Fr w w' ∧ (∀ g, g < w.heap.size → ¬ mutOf ow g → w'.heap[g]? = w.heap[g]?) ∧ Has w' G' ∧ (∀ b, b < w.heap.size → G' b = G b) ∧ Lent ow' G' w' ∧ ow'.length = ow.length ∧
    (∀ g, blkOf ow' g → blkOf ow g ∨ w.heap.size ≤ g) ∧ (∀ g, mutOf ow' g → mutOf ow g ∨ w.heap.size ≤ g) ∧ φ v G' ow'
def PureW (P : Program) (f : FuncId) (args : List Value) (G : Hp) (ow : Lds) (φ : Value → Hp → Lds → Prop) : Prop :=
  ∀ w, Has w G → Lent ow G w → Calls P f args.toArray w (RetW w G ow φ)

def enumO : Nat → Lds → Owns
  | _, [] => []
  | i, x :: l => (i, x.1, x.2) :: enumO (i + 1) l
theorem lk_enumO : ∀ (ow : Lds) (i k : Nat), lk k (enumO i ow) = if k < i then none else ow[k - i]?
  | [], i, k => by simp [enumO, lk]
  | x :: l, i, k => by
    simp only [enumO, lk]
    split
    · rename_i h; subst h; simp
    · rename_i h
      rw [lk_enumO l (i + 1) k]
      by_cases hk : k < i
      · rw [if_pos hk, if_pos (by omega)]
      · rw [if_neg hk, if_neg (by omega)]
        rw [show k - i = (k - (i + 1)) + 1 by omega, List.getElem?_cons_succ]

/-- The things at the keys from i on. -/
def pickO (own : Owns) : Nat → Nat → Option Lds
  | _, 0 => some []
  | i, n + 1 => match lk i own with
    | some x => match pickO own (i + 1) n with
      | some l => some (x :: l)
      | none => none
    | none => none
theorem pickO_get {own : Owns} : ∀ {n i : Nat} {l : Lds}, pickO own i n = some l → l.length = n ∧ ∀ j x, l[j]? = some x → lk (i + j) own = some x
  | 0, i, l, h => by simp only [pickO, Option.some.injEq] at h; subst h; simp
  | n + 1, i, l, h => by
    simp only [pickO] at h
    cases h1 : lk i own with
    | none => rw [h1] at h; cases h
    | some x =>
      rw [h1] at h
      cases h2 : pickO own (i + 1) n with
      | none => rw [h2] at h; cases h
      | some l' =>
        rw [h2] at h
        simp only [Option.some.injEq] at h
        subst h
        obtain ⟨q1, q2⟩ := pickO_get h2
        refine ⟨by simp [q1], fun j y hj => ?_⟩
        cases j with
        | zero => simp at hj; subst hj; simpa using h1
        | succ j => simp only [List.getElem?_cons_succ] at hj; have := q2 j y hj; rwa [Nat.add_assoc, Nat.add_comm 1 j] at this

section
variable {C : Ctx} {K : List KI} {s : St} {R : Array Oper} {l : List Oper} {d : Option Tmp} {t : TypeId} {pos : String} {aft : Array Edge} {v : Value}

theorem enterW {P : Program} {f : FuncId} {fn : Func} {G : Hp} {ow : Lds} {φ : Value → Hp → Lds → Prop} (ty : TypeId → Option TI) (tyok : ∀ T i, ty T = some i → i.ok P T) {nt : Nat}
    (hf : P.funcs[f]? = some fn) (hb : fn.body.isSome = true) (hn : fn.ntmps = nt) (svs : List SV) (hargs : svs.length ≤ nt) {mh : Nat} (hmh : ow.length = mh)
    (h : ∀ C : Ctx, C.P = P → C.Q = bodyPost C.P fn (RetW C.w0 G ow φ) → C.nt = nt → C.ty = ty → (∀ g, g ∈ C.mb → mutOf ow g) → C.mh = mh → C.ro = none → C.G0 = G → (∀ g, mutOf ow g → blkOf ow g) → SGo C [.code (fn.body.getD .skip)] ⟨enumS 0 svs, enumO 0 ow, G, []⟩) : PureW P f (dens svs) G ow φ := by
  intro w hw hL
  classical
  refine calls_of_wp hf (body_eq hb) ((wpIn_wide (n := 0)).1 ?_)
  have hlt : ∀ g, blkOf ow g → g < w.heap.size := fun g ⟨i, b, o, e, hg⟩ => OO.holds_lt (hL.own i b o e).1 hg
  have hml : ∀ g, mutOf ow g → g < w.heap.size := fun g ⟨i, b, o, e, hg⟩ => hlt g ⟨i, b, o, e, OO.mut_blks (hL.own i b o e).1 hg⟩
  have hmem : ∀ g, g ∈ (List.range w.heap.size).filter (fun g => decide (mutOf ow g)) ↔ mutOf ow g := fun g => by
    simp only [List.mem_filter, List.mem_range, decide_eq_true_eq]
    exact ⟨fun q => q.2, fun q => ⟨hml g q, q⟩⟩
  have hlk : ∀ k b o, lk k (enumO 0 ow) = some (b, o) → ow[k]? = some (b, o) := fun k b o e => by
    rw [lk_enumO] at e; simpa using e
  have := h ⟨P, bodyPost P fn (RetW w G ow φ), nt, ty, tyok, w, G, (List.range w.heap.size).filter (fun g => decide (mutOf ow g)), mh, none⟩ rfl rfl rfl rfl (fun g hg => (hmem g).1 hg) rfl rfl rfl (fun g ⟨i, b, o, e, hg⟩ => ⟨i, b, o, e, OO.mut_blks (hL.own i b o e).1 hg⟩) { tmps := (dens svs).toArray ++ Array.replicate (fn.ntmps - (dens svs).toArray.size) undef, defers := [] } w
    ⟨slots_args _ _ _ (fun i x e => by have := (lk_enumS svs 0 i x e).2; simpa using this), by simp [hn, dens_eq]; omega, rfl, ⟨fun k b o e => ?_, fun k k' b b' o o' g e e' f f' => ?_, Grow.refl hw⟩⟩
  · simp only [wpK] at this
    exact this
  · have e' := hlk _ _ _ e
    obtain ⟨h1, h2⟩ := hL.own _ _ _ e'
    refine ⟨h1, fun g hg => ⟨h2 g hg, fun q => ?_, fun _ => .inl ((hmem g).2 ⟨_, _, _, e', hg⟩)⟩⟩
    have hk : k < ow.length := by
      rcases Nat.lt_or_ge k ow.length with q | q
      · exact q
      · rw [List.getElem?_eq_none q] at e'; cases e'
    have q : mh ≤ k := q
    omega
  · exact hL.inj _ _ _ _ _ _ g (hlk _ _ _ e) (hlk _ _ _ e') f f'

theorem x_retW {k : Code} (ht : tag k = 7) {fn : Func} {G : Hp} {ow : Lds} {φ : Value → Hp → Lds → Prop} (hQ : C.Q = bodyPost C.P fn (RetW C.w0 G ow φ)) (hmb : ∀ g, g ∈ C.mb → mutOf ow g) {mh : Nat} (hmh : C.mh = mh) (hG : C.G0 = G) (hmub : ∀ g, mutOf ow g → blkOf ow g) (hml : ow.length = mh)
    {r : ResultVar} {rs : List ResultVar} (hrs : fn.results.toList = r :: rs) {xs : List SV} (hr : resAll s.sl C.ty s.own (r :: rs) = some xs) (hdf : s.df = []) {ow' : Lds} (hp : pickO s.own 0 mh = some ow')
    (hpl : Plain (enumO 0 ow')) (h : φ (resV xs).den s.G ow') (hnb : noBr K = true := by rfl) : SGo C (.code k :: K) s := by
  intro a w hS
  cases k <;> simp [tag] at ht
  · rename_i a b c; cases c <;> simp at ht
  refine wpIn_ret ?_
  rw [wpK_ret _ _ _ hnb, hQ]
  have hg := hS.mem.grow
  obtain ⟨p1, p2⟩ := pickO_get hp
  have p3 : ∀ {i b o}, ow'[i]? = some (b, o) → lk i s.own = some (b, o) := fun {i b o} e => by simpa using p2 i _ e
  have p4 : ∀ {i b o}, ow'[i]? = some (b, o) → i < mh := fun {i b o} e => by
    rcases Nat.lt_or_ge i ow'.length with q | q
    · omega
    · rw [List.getElem?_eq_none q] at e; cases e
  have p5 : ∀ g, blkOf ow' g → mutOf ow' g := fun g ⟨i, b, o, e, hb⟩ => ⟨i, b, o, e, hpl i b o (by rw [lk_enumO]; simpa using e) g hb⟩
  have p6 : ∀ g, mutOf ow' g → mutOf ow g ∨ C.w0.heap.size ≤ g := fun g ⟨i, b, o, e, hb⟩ => by
    obtain ⟨_, q⟩ := hS.mem.own _ _ _ (p3 e)
    rcases (q g hb).2.2 (by rw [hmh]; exact p4 e) with q | q
    · exact .inl (hmb g q)
    · exact .inr q
  refine ⟨by rw [hS.df, hdf], _, results_ok hS (by rw [hrs]; exact hr), _, _, ow', rfl, hg.fr, fun g hg1 hg2 => ?_, hg.has, fun b hb => by rw [hg.old b hb, hG], ⟨fun i b o e => ?_, fun i j b b' o o' g e e' f f' => ?_⟩, by omega, fun g q => ?_, p6, h⟩
  · exact hg.blk g hg1 fun q => hg2 (hmb g q)
  · obtain ⟨q1, q2⟩ := hS.mem.own _ _ _ (p3 e)
    exact ⟨q1, fun g q => (q2 g q).1⟩
  · exact hS.mem.inj _ _ _ _ _ _ g (p3 e) (p3 e') f f'
  · exact (p6 g (p5 g q)).imp (hmub g) id

/-- Set the things at these keys. -/
def setO : List Nat → Lds → Owns → Owns
  | k :: ks, x :: l, own => setO ks l (stk k x own)
  | _, _, own => own
def lkAll (own : Owns) : List Nat → Option Lds
  | [] => some []
  | k :: ks => match lk k own with
    | some x => match lkAll own ks with
      | some l => some (x :: l)
      | none => none
    | none => none
def noDup : List Nat → Bool
  | [] => true
  | k :: ks => !ks.contains k && noDup ks
theorem lkAll_get {own : Owns} : ∀ {ks : List Nat} {l : Lds}, lkAll own ks = some l → l.length = ks.length ∧ ∀ (i k : Nat), ks[i]? = some k → ∃ x, l[i]? = some x ∧ lk k own = some x
  | [], l, h => by simp only [lkAll, Option.some.injEq] at h; subst h; simp
  | k :: ks, l, h => by
    simp only [lkAll] at h
    cases h1 : lk k own with
    | none => rw [h1] at h; cases h
    | some x =>
      rw [h1] at h
      cases h2 : lkAll own ks with
      | none => rw [h2] at h; cases h
      | some l' =>
        rw [h2] at h
        simp only [Option.some.injEq] at h
        subst h
        obtain ⟨q1, q2⟩ := lkAll_get h2
        refine ⟨by simp [q1], fun i k' hi => ?_⟩
        cases i with
        | zero => simp at hi; subst hi; exact ⟨x, by simp, h1⟩
        | succ i => simp only [List.getElem?_cons_succ] at hi ⊢; exact q2 i k' hi
theorem lk_setO : ∀ {ks : List Nat} {l : Lds} {own : Owns} {k : Nat}, noDup ks = true → l.length = ks.length → (∃ (i : Nat) (x : Nat × OO), ks[i]? = some k ∧ l[i]? = some x ∧ lk k (setO ks l own) = some x) ∨ (k ∉ ks ∧ lk k (setO ks l own) = lk k own)
  | [], l, own, k, _, _ => .inr ⟨by simp, by cases l <;> rfl⟩
  | j :: ks, [], own, k, _, h => by simp at h
  | j :: ks, x :: l, own, k, hn, h => by
    simp only [noDup, Bool.and_eq_true, Bool.not_eq_true', List.contains_eq_mem, decide_eq_false_iff_not] at hn
    simp only [setO]
    rcases lk_setO (ks := ks) (l := l) (own := stk j x own) (k := k) hn.2 (by simpa using h) with ⟨i, y, h1, h2, h3⟩ | ⟨h1, h2⟩
    · exact .inl ⟨i + 1, y, by simpa using h1, by simpa using h2, h3⟩
    · by_cases hk : k = j
      · subst hk
        exact .inl ⟨0, x, by simp, by simp, by rw [h2, lk_stk]; simp⟩
      · exact .inr ⟨by simp [hk, h1], by rw [h2, lk_stk, if_neg hk]⟩

theorem Mem.lentM {own : Owns} {G G' : Hp} {w w' : World} (h : Mem C own G w) {ks : List Nat} {ow ow' : Lds} (hk : lkAll own ks = some ow) (hn : noDup ks = true) (hks : (∀ k ∈ ks, C.mh ≤ k) ∨ (∀ k ∈ ks, k < C.mh))
    (hf : Fr w w') (hs : ∀ g, g < w.heap.size → ¬ mutOf ow g → w'.heap[g]? = w.heap[g]?) (hG : Has w' G') (hold : ∀ b, b < w.heap.size → G' b = G b) (hL : Lent ow' G' w') (hlen : ow'.length = ow.length)
    (hb : ∀ g, blkOf ow' g → blkOf ow g ∨ w.heap.size ≤ g) (hm : ∀ g, mutOf ow' g → mutOf ow g ∨ w.heap.size ≤ g) : Mem C (setO ks ow' own) G' w' := by
  obtain ⟨k1, k2⟩ := lkAll_get hk
  have hidx : ∀ {i : Nat} {x : Nat × OO}, ow[i]? = some x → ∃ k, ks[i]? = some k ∧ lk k own = some x := fun {i x} e => by
    have hi : i < ks.length := by
      rcases Nat.lt_or_ge i ow.length with q | q
      · omega
      · rw [List.getElem?_eq_none q] at e; cases e
    obtain ⟨x', e1, e2⟩ := k2 i ks[i] (by rw [List.getElem?_eq_getElem hi])
    rw [e] at e1; cases e1
    exact ⟨ks[i], by rw [List.getElem?_eq_getElem hi], e2⟩
  have hout : ∀ {k b : Nat} {o : OO} {g : Nat}, k ∉ ks → lk k own = some (b, o) → o.blks b g → ¬ blkOf ow g := fun {k b o g} hk' e hg ⟨i, b', o', e', hg'⟩ => by
    obtain ⟨k', e1, e2⟩ := hidx e'
    have := h.inj _ _ _ _ _ _ g e e2 hg hg'
    subst this
    exact hk' (List.mem_of_getElem? e1)
  have hmutb : ∀ g, mutOf ow g → blkOf ow g := fun g ⟨i, b, o, e, hg⟩ => by
    obtain ⟨k', _, e2⟩ := hidx e
    exact ⟨i, b, o, e, OO.mut_blks (h.own _ _ _ e2).1 hg⟩
  have hlt' : ow'.length = ks.length := by omega
  refine ⟨fun k b o e => ?_, fun k k' b b' o o' g e e' f f' => ?_, ?_⟩
  · rcases lk_setO (own := own) (k := k) hn hlt' with ⟨i, x, h1, h2, h3⟩ | ⟨h1, h2⟩
    · rw [e] at h3; cases h3
      obtain ⟨q1, q2⟩ := hL.own i b o h2
      refine ⟨q1, fun g hg => ?_⟩
      have key : (C.mh ≤ k → C.w0.heap.size ≤ g) ∧ (k < C.mh → g ∈ C.mb ∨ C.w0.heap.size ≤ g) := by
        rcases hm g ⟨i, b, o, h2, hg⟩ with ⟨j, b2, o2, e2, hg2⟩ | q
        · obtain ⟨k', e3, e4⟩ := hidx e2
          obtain ⟨_, q5⟩ := h.own _ _ _ e4
          obtain ⟨_, q6, q7⟩ := q5 g hg2
          have m1 := List.mem_of_getElem? h1
          have m2 := List.mem_of_getElem? e3
          rcases hks with hks | hks
          · exact ⟨fun _ => q6 (hks _ m2), fun q => by have := hks _ m1; omega⟩
          · exact ⟨fun q => by have := hks _ m1; omega, fun _ => q7 (hks _ m2)⟩
        · have := h.grow.size
          exact ⟨fun _ => by omega, fun _ => .inr (by omega)⟩
      exact ⟨q2 g hg, key⟩
    · rw [h2] at e
      obtain ⟨q1, q2⟩ := h.own _ _ _ e
      refine ⟨OO.holds_same q1 hf fun g hg => hs g (h.lt e hg) fun q => hout h1 e hg (hmutb g q), fun g hg => ?_⟩
      obtain ⟨q3, q4, q5⟩ := q2 g hg
      exact ⟨by rw [hold g (h.ltm e hg)]; exact q3, q4, q5⟩
  · rcases lk_setO (own := own) (k := k) hn hlt' with ⟨i, x, h1, h2, h3⟩ | ⟨h1, h2⟩
    · rw [e] at h3; cases h3
      rcases lk_setO (own := own) (k := k') hn hlt' with ⟨i', x', h1', h2', h3'⟩ | ⟨h1', h2'⟩
      · rw [e'] at h3'; cases h3'
        have := hL.inj _ _ _ _ _ _ g h2 h2' f f'
        subst this
        rw [h1] at h1'; cases h1'; rfl
      · rw [h2'] at e'
        exfalso
        rcases hb g ⟨_, _, _, h2, f⟩ with q | q
        · exact hout h1' e' f' q
        · have := h.lt e' f'; omega
    · rw [h2] at e
      rcases lk_setO (own := own) (k := k') hn hlt' with ⟨i', x', h1', h2', h3'⟩ | ⟨h1', h2'⟩
      · rw [e'] at h3'; cases h3'
        exfalso
        rcases hb g ⟨_, _, _, h2', f'⟩ with q | q
        · exact hout h1 e f q
        · have := h.lt e f; omega
      · rw [h2'] at e'
        exact h.inj _ _ _ _ _ _ g e e' f f'
  · have hg := h.grow
    refine ⟨hf.os.trans hg.os, hf.tape.trans hg.tape, hf.output.trans hg.output, Nat.le_trans hg.size hf.size, fun j hj hm' => ?_, hG, fun b hb' => ?_⟩
    · rw [hs j (by have := hg.size; omega) ?_]
      · exact hg.blk j hj hm'
      · rintro ⟨i, b, o, e, hgj⟩
        obtain ⟨k', _, e2⟩ := hidx e
        obtain ⟨_, q⟩ := h.own _ _ _ e2
        obtain ⟨_, q1, q2⟩ := q j hgj
        rcases Nat.lt_or_ge k' C.mh with q3 | q3
        · rcases q2 q3 with q4 | q4
          · exact hm' q4
          · omega
        · have := q1 q3; omega
    · rw [hold b (by have := hg.size; omega)]; exact hg.old b hb'

/-- A call that writes into things of the call's own. -/
theorem go_callW (ks : List Nat) {f : FuncId} {args : Array Operand} {tys : Array TypeId} {vs : List SV} {ow : Lds} {φ : Value → Hp → Lds → Prop} (hd : dOk C.nt d = true) (hf : canCall C.P f = true) (ha : evs s.sl args.toList = some vs)
    (hk : lkAll s.own ks = some ow) (hn : noDup ks = true) (hks : (∀ k ∈ ks, C.mh ≤ k) ∨ (∀ k ∈ ks, k < C.mh)) (hc : PureW C.P f (dens vs) s.G ow φ)
    (h : ∀ v G' ow', Le s.G G' → φ v G' ow' → SGo C (.ops R l :: K) ⟨putS d (rv v) s.sl, setO ks ow' s.own, G', s.df⟩) : SGo C (.ops R (⟨d, .call ⟨.value (.func f), args, tys⟩, t, pos, aft, none⟩ :: l) :: K) s := by
  intro a w hS
  have hargs : args.map a.eval = (dens vs).toArray := by apply Array.ext'; rw [Array.toList_map]; exact evs_ok hS.sl ha
  have hrun : (execOp a.eval ⟨d, .call ⟨.value (.func f), args, tys⟩, t, pos, aft, none⟩).run C.P w = .ok (.enter f (dens vs).toArray) w := by
    simp only [execOp, resolve, hargs, Act.eval, Deferred.ofValue, Sem.run_bind, Sem.run_pure, Result.andThen_ok, invoke]
    simp [callFunc_ok hf]
  obtain ⟨k1, k2⟩ := lkAll_get hk
  have hidx : ∀ {i : Nat} {x : Nat × OO}, ow[i]? = some x → ∃ k, ks[i]? = some k ∧ lk k s.own = some x := fun {i x} e => by
    have hi : i < ks.length := by
      rcases Nat.lt_or_ge i ow.length with q | q
      · omega
      · rw [List.getElem?_eq_none q] at e; cases e
    obtain ⟨x', e1, e2⟩ := k2 i ks[i] (by rw [List.getElem?_eq_getElem hi])
    rw [e] at e1; cases e1
    exact ⟨ks[i], by rw [List.getElem?_eq_getElem hi], e2⟩
  have hnd : ∀ (ks : List Nat), noDup ks = true → ∀ (i j k : Nat), ks[i]? = some k → ks[j]? = some k → i = j := by
    intro ks
    induction ks with
    | nil => intro _ i j k h; simp at h
    | cons x ks ih =>
      intro h i j k hi hj
      simp only [noDup, Bool.and_eq_true, Bool.not_eq_true', List.contains_eq_mem, decide_eq_false_iff_not] at h
      cases i <;> cases j
      · rfl
      · simp at hi hj; subst hi; exact absurd (List.mem_of_getElem? hj) h.1
      · simp at hi hj; subst hj; exact absurd (List.mem_of_getElem? hi) h.1
      · simp at hi hj; rw [ih h.2 _ _ k hi hj]
  refine K_enter rfl hrun ((hc w hS.mem.has ⟨fun i b o e => ?_, fun i j b b' o o' g e e' q q' => ?_⟩).mono ?_)
  · obtain ⟨k, _, e2⟩ := hidx e
    obtain ⟨q1, q2⟩ := hS.mem.own _ _ _ e2
    exact ⟨q1, fun g hg => (q2 g hg).1⟩
  · obtain ⟨k, e1, e2⟩ := hidx e
    obtain ⟨k', e1', e2'⟩ := hidx e'
    have := hS.mem.inj _ _ _ _ _ _ g e2 e2' q q'
    subst this
    exact hnd ks hn i j k e1 e1'
  · rintro e w' ⟨v, G', ow', rfl, q1, q2, q3, q4, q5, q6, q7, q8, hφ⟩
    have hm := hS.mem.lentM hk hn hks q1 q2 q3 q4 q5 q6 q7 q8
    have hle : Le s.G G' := fun b o e => by rw [q4 b (lt_of_heap (hS.mem.has b o e))]; exact e
    refine ⟨v, rfl, ?_⟩
    have := hS.put hd (rv v) hm
    rw [rv_den] at this
    exact h v G' ow' hle hφ _ _ this
end
/-! ### A guard that was itself skipped -/
section
variable {C : Ctx} {K : List KI} {s : St} {R : Array Oper} {l : List Oper} {d : Option Tmp} {t : TypeId} {pos : String} {aft : Array Edge}
theorem go_gundef {op : Op} {j g : Nat} {want : Bool} (hj : (R[j]?).bind (·.dst) = some g) (hd : dOk C.nt d = true) (hu : lk g s.sl = some (.v undef))
    (h2 : SGo C (.ops R l :: K) ⟨putS d (.v undef) s.sl, s.own, s.G, s.df⟩) : SGo C (.ops R (⟨d, op, t, pos, aft, some (j, want)⟩ :: l) :: K) s := by
  intro a w hS
  have hy : yielded R a.tmps j = none := by
    have := hS.sl g _ hu
    simp [yielded, hj, this, SV.den, undef]
  simp only [wpK, wpListIn, Region.wanted, hy]
  have := h2 _ _ (hS.put hd (.v undef) hS.mem)
  simp only [wpK] at this
  rw [if_neg (by simp)]
  exact ⟨fun _ _ => trivial, this⟩
end
end Go.Sx
