/-
  A symbolic walk over the model's code: definitions and the rules of control.
  Generic: names no program. The state of a walk: what is known of the slots, of the blocks of the call's own, and a heap of blocks that no longer change.
-/
import Derived.WalkKit
import Derived.Deep.Quiet
import Derived.OrdersHeld
import Derived.OrdersIn
import Derived.TacticsIn
import Derived.RangeFuncIn
import Derived.RangeFuncRecord
import Derived.RangeFuncLeaves
set_option linter.unusedSimpArgs false
set_option linter.unusedVariables false
namespace Go.Sx
set_option linter.unusedSimpArgs false
set_option linter.unusedVariables false
open Go.RowKit

abbrev Hp := Nat → Option Obj

inductive SV where
  | v (x : Value)
  | b (t : Bool)
  | p (h b off : Nat)
  | a (l : List SV)
  | t (l : List SV)
  | s (h b off len cap : Nat)
  | f (fn : Fn) (first cap : List SV)
  | i (t : TypeId) (x : SV)

mutual
def SV.den : SV → Value
  | .v x => x
  | .b u => .bool u
  | .p _ bl off => .pointer (some ⟨bl, off, none⟩)
  | .a l => .agg (dens l).toArray
  | .t l => .tuple (dens l).toArray
  | .s _ bl off len cap => .slice (some ⟨bl, off, none⟩) len cap
  | .f fn first cap => .func fn (dens first).toArray (dens cap).toArray
  | .i ty x => .iface ty x.den
def dens : List SV → List Value
  | [] => []
  | x :: l => x.den :: dens l
end

theorem dens_eq (l : List SV) : dens l = l.map SV.den := by
  induction l with
  | nil => simp [dens]
  | cons x l ih => simp [dens, ih]

def lk {α : Type} (i : Nat) : List (Nat × α) → Option α
  | [] => none
  | x :: l => if i = x.1 then some x.2 else lk i l
def stk {α : Type} (i : Nat) (x : α) : List (Nat × α) → List (Nat × α)
  | [] => [(i, x)]
  | y :: l => if i = y.1 then (i, x) :: l else y :: stk i x l
def rmk {α : Type} (i : Nat) : List (Nat × α) → List (Nat × α)
  | [] => []
  | y :: l => if i = y.1 then rmk i l else y :: rmk i l

theorem lk_stk {α : Type} (i j : Nat) (x : α) (l : List (Nat × α)) : lk j (stk i x l) = if j = i then some x else lk j l := by
  induction l with
  | nil => simp [stk, lk]
  | cons y l ih =>
    simp only [stk]
    split
    · rename_i h
      simp only [lk]
      by_cases hj : j = i
      · simp [hj]
      · simp [hj, h ▸ hj]
    · rename_i h
      simp only [lk, ih]
      by_cases hj : j = i
      · subst hj; simp [h]
      · simp [hj]

theorem lk_rmk {α : Type} (i j : Nat) (l : List (Nat × α)) : lk j (rmk i l) = if j = i then none else lk j l := by
  induction l with
  | nil => simp [rmk, lk]
  | cons y l ih =>
    simp only [rmk]
    split
    · rename_i h
      rw [ih]
      by_cases hj : j = i
      · simp [hj]
      · simp only [if_neg hj, lk]; rw [if_neg (by omega)]
    · rename_i h
      simp only [lk, ih]
      by_cases hj : j = i
      · subst hj; simp [h]
      · simp [hj]

def fk {α : Type} (m : Nat) : List (Nat × α) → Nat
  | [] => m
  | y :: l => fk (if m ≤ y.1 then y.1 + 1 else m) l
theorem fk_ge {α : Type} (l : List (Nat × α)) : ∀ m, m ≤ fk m l := by
  induction l with
  | nil => intro m; exact Nat.le_refl _
  | cons y l ih => intro m; simp only [fk]; refine Nat.le_trans ?_ (ih _); split <;> omega
theorem lk_fk {α : Type} (l : List (Nat × α)) : ∀ m k, fk m l ≤ k → lk k l = none := by
  induction l with
  | nil => intros; rfl
  | cons y l ih =>
    intro m k h
    simp only [fk] at h
    have h1 := fk_ge l (if m ≤ y.1 then y.1 + 1 else m)
    simp only [lk]
    rw [if_neg]
    · exact ih _ k h
    · intro e
      by_cases hm : m ≤ y.1
      · rw [if_pos hm] at h1 h; omega
      · rw [if_neg hm] at h1 h; omega

structure Fr (w w' : World) : Prop where
  os : w'.os = w.os
  tape : w'.tape = w.tape
  output : w'.output = w.output
  size : w.heap.size ≤ w'.heap.size

structure Zn where
  A : (Nat → Prop) → (Nat → Prop) → World → Prop
  lt : ∀ Z M w, A Z M w → ∀ g, Z g → g < w.heap.size
  sub : ∀ Z M w, A Z M w → ∀ g, M g → Z g
  st : ∀ Z M w w', A Z M w → Fr w w' → (∀ g, Z g → w'.heap[g]? = w.heap[g]?) → A Z M w'

inductive OO where
  | c (ty : TypeId) (cells : List SV)
  | o (x : Obj)
  | row (v : Value) (e : TypeId) (size n : Nat) (xs : List Value)
  | z (Y : Zn) (Z M : Nat → Prop)
def OO.holds (base : Nat) (w : World) (b : Nat) : OO → Prop
  | .c ty cells => w.heap[b]? = some (.cells (dens cells).toArray ty)
  | .o x => w.heap[b]? = some x
  | .row v e size n xs => w.ownsRow 0 e size v n xs
  | .z Y Z M => Y.A Z M w
def OO.blks (b : Nat) : OO → Nat → Prop
  | .row v _ _ _ _ => fun g => v.ownBlock = some g
  | .z _ Z _ => Z
  | _ => fun g => g = b
def OO.mut (b : Nat) : OO → Nat → Prop
  | .row v _ _ _ _ => fun g => v.ownBlock = some g
  | .z _ _ M => M
  | _ => fun g => g = b

theorem OO.holds_same {base : Nat} {w w' : World} {b : Nat} {o : OO} (h : o.holds base w b) (hf : Fr w w') (hs : ∀ g, o.blks b g → w'.heap[g]? = w.heap[g]?) : o.holds base w' b := by
  cases o with
  | c ty cells => simp only [OO.holds, OO.blks] at *; rw [hs b rfl]; exact h
  | o x => simp only [OO.holds, OO.blks] at *; rw [hs b rfl]; exact h
  | row v e size n xs =>
    simp only [OO.holds, OO.blks] at *
    refine ⟨h.1, ?_⟩
    rcases h.2 with h2 | ⟨g, cap, cur, rfl, hb, hg, rest⟩
    · exact .inl h2
    · exact .inr ⟨g, cap, cur, rfl, hb, by rw [hs g rfl]; exact hg, rest⟩
  | z Y Z M => exact Y.st Z M w w' h hf hs
theorem OO.holds_lt {base : Nat} {w : World} {b : Nat} {o : OO} (h : o.holds base w b) {g : Nat} (hg : o.blks b g) : g < w.heap.size := by
  have aux : ∀ {x : Obj}, w.heap[g]? = some x → g < w.heap.size := fun {x} e => by
    rcases Nat.lt_or_ge g w.heap.size with h' | h'
    · exact h'
    · simp [Array.getElem?_eq_none h'] at e
  cases o with
  | c ty cells => simp only [OO.holds, OO.blks] at *; subst hg; exact aux h
  | o x => simp only [OO.holds, OO.blks] at *; subst hg; exact aux h
  | row v e size n xs => simp only [OO.holds, OO.blks] at *; exact (h.lt g hg).2
  | z Y Z M => exact Y.lt Z M w h g hg
theorem OO.mut_blks {base : Nat} {w : World} {b : Nat} {o : OO} (h : o.holds base w b) {g : Nat} (hg : o.mut b g) : o.blks b g := by
  cases o with
  | c ty cells => exact hg
  | o x => exact hg
  | row v e size n xs => exact hg
  | z Y Z M => exact Y.sub Z M w h g hg

structure St where
  sl : List (Nat × SV)
  own : List (Nat × Nat × OO)
  G : Hp
  df : List Deferred

structure Grow (mb : List Nat) (w0 : World) (G0 : Hp) (w : World) (G : Hp) : Prop where
  os : w.os = w0.os
  tape : w.tape = w0.tape
  output : w.output = w0.output
  size : w0.heap.size ≤ w.heap.size
  blk : ∀ k, k < w0.heap.size → k ∉ mb → w.heap[k]? = w0.heap[k]?
  has : ∀ b o, G b = some o → w.heap[b]? = some o
  old : ∀ b, b < w0.heap.size → G b = G0 b

def Has (w : World) (G : Hp) : Prop := ∀ b o, G b = some o → w.heap[b]? = some o

theorem lt_of_heap {w : World} {b : Nat} {o : Obj} (h : w.heap[b]? = some o) : b < w.heap.size := by
  rcases Nat.lt_or_ge b w.heap.size with h' | h'
  · exact h'
  · simp [Array.getElem?_eq_none h'] at h

theorem Grow.refl {mb : List Nat} {w : World} {G : Hp} (h : Has w G) : Grow mb w G w G :=
  ⟨rfl, rfl, rfl, Nat.le_refl _, fun _ _ _ => rfl, h, fun _ _ => rfl⟩

theorem Grow.trans {mb : List Nat} {a b c : World} {A B C : Hp} (h : Grow mb a A b B) (k : Grow mb b B c C) : Grow mb a A c C where
  os := k.os.trans h.os
  tape := k.tape.trans h.tape
  output := k.output.trans h.output
  size := Nat.le_trans h.size k.size
  blk i hi hm := (k.blk i (Nat.lt_of_lt_of_le hi h.size) hm).trans (h.blk i hi hm)
  has := k.has
  old i hi := (k.old i (Nat.lt_of_lt_of_le hi h.size)).trans (h.old i hi)

theorem Grow.keep {mb : List Nat} {w0 w : World} {G0 G : Hp} (h : Grow mb w0 G0 w G) (h0 : Has w0 G0) {b : Nat} {o : Obj} (hb : G0 b = some o) : G b = some o := by
  rw [h.old b (lt_of_heap (h0 b o hb))]; exact hb

theorem Grow.fr {mb : List Nat} {w0 w : World} {G0 G : Hp} (h : Grow mb w0 G0 w G) : Fr w0 w := ⟨h.os, h.tape, h.output, h.size⟩
theorem Grow.below {w0 w : World} {G0 G : Hp} (h : Grow [] w0 G0 w G) : Below w0.heap.size w0 w :=
  ⟨h.os, h.tape, h.output, h.size, fun k hk => h.blk k hk (by simp)⟩


inductive KI where
  | code (c : Code)
  | blk (id : Nat)
  | loop (c : Code)
  | ops (R : Array Oper) (l : List Oper)
  | q (M : World → Prop) (R : Array Oper) (l : List Oper)
  | h (S : World → Prop) (R : Array Oper) (n : Nat) (listed : Array Bool)
  | hs (S : World → Prop)
  | hu (S : World → Prop) (p : Nat) (R : Array Oper) (n : Nat) (listed : Array Bool)
  | br (l : Nat)

def FR (ro : Option Nat) : Fence := { Fence.wide with round := ro }
theorem FR_fn (ro : Option Nat) (f : FuncId) : (FR ro).fn f := trivial
theorem FR_room (ro : Option Nat) (n : Nat) : (FR ro).room n := fun _ h => by cases h
theorem FR_depth (ro : Option Nat) (n : Nat) : (FR ro).depth.isSome = true → 1 ≤ n := fun h => by cases h
theorem callsFR {ro : Option Nat} {n : Nat} {P : Program} {f : FuncId} {args : Array Value} {w : World} {R : Ending → World → Prop} : CallsIn (FR ro) n P f args w R ↔ Calls P f args w R :=
  (show CallsIn (FR ro) n P f args w R ↔ CallsIn Fence.wide n P f args w R from Iff.rfl).trans callsIn_wide

def wpLoop (P : Program) (ro : Option Nat) (c : Code) (Q : Exit → Act → World → Prop) (a : Act) (w : World) : Prop :=
  ∀ (b : Frame) (k : List Item) (cs : List Frame), b.roundOf = ro →
    ∃ e a' w', Q e a' w' ∧ ArrivesIn (Machine.fenced P (FR ro)) P (lone (b.atR a (.inLoop c :: k)) cs w) b k cs e a' w'

theorem wp_loop_in {P : Program} {ro : Option Nat} {Q : Exit → Act → World → Prop} {a : Act} {w : World} {c : Code} (h : c.wpIn (FR ro) 0 P (Exit.then (wpLoop P ro c Q) Q) a w) :
    ∀ (b : Frame) (k : List Item) (cs : List Frame), b.roundOf = ro → ∃ e a' w', Q e a' w' ∧ ArrivesIn (Machine.fenced P (FR ro)) P (lone (b.atR a (.code c :: .inLoop c :: k)) cs w) b k cs e a' w' := by
  intro b k cs hro
  obtain ⟨e, a₁, w₁, hq, harr⟩ := h b (.inLoop c :: k) cs hro (FR_fn _ _) (FR_room _ _)
  cases e with
  | normal =>
    obtain ⟨e₂, a₂, w₂, hq₂, harr₂⟩ := hq b k cs hro
    exact ⟨e₂, a₂, w₂, hq₂, .of_steps harr harr₂⟩
  | exit id => exact ⟨_, a₁, w₁, hq, .pass (x := .inLoop c) rfl (fun _ _ => .inl (by simp)) harr⟩
  | goto l => exact ⟨_, a₁, w₁, hq, .pass (x := .inLoop c) rfl (fun _ _ => .inl (by simp)) harr⟩
  | ret => exact ⟨_, a₁, w₁, hq, .pass (x := .inLoop c) rfl (fun _ _ => .inl (by simp)) harr⟩
  | panic ch => exact ⟨_, a₁, w₁, hq, .pass (x := .inLoop c) rfl (fun _ _ => .inl (by simp)) harr⟩
  | outgrown => exact ⟨_, a₁, w₁, hq, .pass (x := .inLoop c) rfl (fun _ _ => .inl (by simp)) harr⟩

theorem wp_loop_first {P : Program} {ro : Option Nat} {Q : Exit → Act → World → Prop} {a : Act} {w : World} {c : Code} (h : c.wpIn (FR ro) 0 P (Exit.then (wpLoop P ro c Q) Q) a w) : (Code.loop c).wpIn (FR ro) 0 P Q a w := by
  intro b k cs hro hb hr
  obtain ⟨e, a', w', hq, harr⟩ := wp_loop_in h b k cs hro
  exact ⟨e, a', w', hq, .of_steps (.one (fenced_calm hb hr rfl) stepR_loop) harr⟩

theorem wp_loop_again {P : Program} {ro : Option Nat} {Q : Exit → Act → World → Prop} {a : Act} {w : World} {c : Code} (h : c.wpIn (FR ro) 0 P (Exit.then (wpLoop P ro c Q) Q) a w) : wpLoop P ro c Q a w := by
  intro b k cs hro
  obtain ⟨e, a', w', hq, harr⟩ := wp_loop_in h b k cs hro
  exact ⟨e, a', w', hq, .of_steps (.one (fenced_calm (FR_fn _ _) (FR_room ro (cs.length + 1 + 0)) rfl) stepR_inLoop) harr⟩

def wpAnyHI (P : Program) (ro : Option Nat) (md : Region.Mode) (ops : Array Oper) (Q : Exit → Act → World → Prop) (S : World → Prop) : Nat → Array Bool → Act → World → Prop
  | 0, listed, a, w => Region.ready md ops listed = [] ∧ Q .normal a w
  | fuel + 1, listed, a, w =>
    (Region.ready md ops listed = [] → Q .normal a w) ∧
    ∀ i ∈ Region.ready md ops listed, wpOpIn (FR ro) 0 P ops Q i (fun a' w' => S w' ∧ wpAnyHI P ro md ops Q S fuel (listed.setIfInBounds i true) a' w') a w

def wpAnyHU (P : Program) (ro : Option Nat) (md : Region.Mode) (ops : Array Oper) (Q : Exit → Act → World → Prop) (S : World → Prop) (p : Nat) : Nat → Array Bool → Act → World → Prop
  | 0, listed, a, w => Region.ready md ops listed = [] ∧ Q .normal a w
  | fuel + 1, listed, a, w =>
    (Region.ready md ops listed = [] → Q .normal a w) ∧
    ∀ i ∈ Region.ready md ops listed, wpOpIn (FR ro) 0 P ops Q i (fun a' w' => ((listed.setIfInBounds i true).getD p true = false → S w') ∧ wpAnyHU P ro md ops Q S p fuel (listed.setIfInBounds i true) a' w') a w

def wpK (P : Program) (ro : Option Nat) (Q : Exit → Act → World → Prop) : List KI → Exit → Act → World → Prop
  | [], e, a, w => Q e a w
  | .code c :: K, .normal, a, w => c.wpIn (FR ro) 0 P (wpK P ro Q K) a w
  | .loop c :: K, .normal, a, w => wpLoop P ro c (wpK P ro Q K) a w
  | .ops R l :: K, .normal, a, w => wpListIn (FR ro) 0 P R (wpK P ro Q K) l a w
  | .q M R l :: K, .normal, a, _ => wpQuiet P R M (fun a' => ∀ w', M w' → wpK P ro Q K .normal a' w') l a
  | .h S R n listed :: K, .normal, a, w => wpAnyHI P ro .any R (wpK P ro Q K) S n listed a w
  | .hs S :: K, .normal, a, w => S w ∧ wpK P ro Q K .normal a w
  | .hu S p R n listed :: K, .normal, a, w => wpAnyHU P ro .any R (wpK P ro Q K) S p n listed a w
  | .br l :: K, .normal, a, w => ∃ w₂, (Instr.beginRound l).run P w = .ok () w₂ ∧ wpK P ro Q K .normal a w₂
  | .br _ :: _, _, _, _ => False
  | .blk id :: K, .exit id', a, w => if id' = id then wpK P ro Q K .normal a w else wpK P ro Q K (.exit id') a w
  | _ :: K, e, a, w => wpK P ro Q K e a w

section
variable {P : Program} {ro : Option Nat} {Q : Exit → Act → World → Prop} {K : List KI} {a : Act} {w : World}

theorem wpK_code_eq (c : Code) : wpK P ro Q (.code c :: K) = Exit.then (c.wpIn (FR ro) 0 P (wpK P ro Q K)) (wpK P ro Q K) := by
  funext e a w; cases e <;> rfl
theorem wpK_loop_eq (c : Code) : wpK P ro Q (.loop c :: K) = Exit.then (wpLoop P ro c (wpK P ro Q K)) (wpK P ro Q K) := by
  funext e a w; cases e <;> rfl
theorem wpK_blk_eq (id : Nat) : wpK P ro Q (.blk id :: K) = Exit.inBlock id (wpK P ro Q K) := by
  funext e a w; cases e <;> rfl

def noBr : List KI → Bool
  | [] => true
  | .br _ :: _ => false
  | .code _ :: K => noBr K
  | .loop _ :: K => noBr K
  | .ops _ _ :: K => noBr K
  | .q _ _ _ :: K => noBr K
  | .h _ _ _ _ :: K => noBr K
  | .hs _ :: K => noBr K
  | .hu _ _ _ _ _ :: K => noBr K
  | .blk _ :: K => noBr K
theorem wpK_ret : ∀ (K : List KI) (a : Act) (w : World), noBr K = true → wpK P ro Q K .ret a w = Q .ret a w
  | [], _, _, _ => rfl
  | .code _ :: K, a, w, h => wpK_ret K a w h
  | .loop _ :: K, a, w, h => wpK_ret K a w h
  | .ops _ _ :: K, a, w, h => wpK_ret K a w h
  | .q _ _ _ :: K, a, w, h => wpK_ret K a w h
  | .h _ _ _ _ :: K, a, w, h => wpK_ret K a w h
  | .hs _ :: K, a, w, h => wpK_ret K a w h
  | .hu _ _ _ _ _ :: K, a, w, h => wpK_ret K a w h
  | .blk _ :: K, a, w, h => wpK_ret K a w h
  | .br _ :: _, _, _, h => by cases h
theorem wpK_panic (ch : List PanicEntry) (d : Option Tmp) (v : Value) (hQ : ∀ (a : Act) w, Q (.panic ch) (a.put d v) w → Q (.panic ch) a w) : ∀ (K : List KI) (a : Act) (w : World), wpK P ro Q K (.panic ch) (a.put d v) w → wpK P ro Q K (.panic ch) a w
  | [], a, w, h => hQ a w h
  | .code _ :: K, a, w, h => wpK_panic ch d v hQ K a w h
  | .loop _ :: K, a, w, h => wpK_panic ch d v hQ K a w h
  | .ops _ _ :: K, a, w, h => wpK_panic ch d v hQ K a w h
  | .q _ _ _ :: K, a, w, h => wpK_panic ch d v hQ K a w h
  | .h _ _ _ _ :: K, a, w, h => wpK_panic ch d v hQ K a w h
  | .hs _ :: K, a, w, h => wpK_panic ch d v hQ K a w h
  | .hu _ _ _ _ _ :: K, a, w, h => wpK_panic ch d v hQ K a w h
  | .blk _ :: K, a, w, h => wpK_panic ch d v hQ K a w h
  | .br _ :: _, _, _, h => h.elim
end

def popTo (id : Nat) : List KI → Option (List KI)
  | [] => none
  | .blk id' :: K => if id = id' then some K else popTo id K
  | .code _ :: K => popTo id K
  | .loop _ :: K => popTo id K
  | .ops _ _ :: K => popTo id K
  | .q _ _ _ :: K => popTo id K
  | .h _ _ _ _ :: K => popTo id K
  | .hs _ :: K => popTo id K
  | .hu _ _ _ _ _ :: K => popTo id K
  | .br _ :: _ => none

theorem wpK_exit {P : Program} {ro : Option Nat} {Q : Exit → Act → World → Prop} (id : Nat) : ∀ (K K' : List KI) (a : Act) (w : World), popTo id K = some K' → wpK P ro Q K' .normal a w → wpK P ro Q K (.exit id) a w
  | [], _, _, _, h, _ => by simp [popTo] at h
  | .code _ :: K, K', a, w, h, g => wpK_exit id K K' a w h g
  | .loop _ :: K, K', a, w, h, g => wpK_exit id K K' a w h g
  | .ops _ _ :: K, K', a, w, h, g => wpK_exit id K K' a w h g
  | .q _ _ _ :: K, K', a, w, h, g => wpK_exit id K K' a w h g
  | .h _ _ _ _ :: K, K', a, w, h, g => wpK_exit id K K' a w h g
  | .hs _ :: K, K', a, w, h, g => wpK_exit id K K' a w h g
  | .hu _ _ _ _ _ :: K, K', a, w, h, g => wpK_exit id K K' a w h g
  | .br _ :: K, K', a, w, h, g => by simp [popTo] at h
  | .blk id' :: K, K', a, w, h, g => by
    simp only [popTo] at h
    simp only [wpK]
    split at h
    · rename_i e; cases h; rw [if_pos e]; exact g
    · rename_i e; rw [if_neg e]; exact wpK_exit id K K' a w h g


inductive TK where
  | bool | int (k : IntKind) | str | slice (e : TypeId) | ptr (e : TypeId) | strct | arr (n : Nat) (e : TypeId) | iface | func | map (k e : TypeId) | other
structure TI where
  k : TK
  size : Nat
  bytes : Nat
  zero : List Value
  flds : List (Nat × Nat × Bool)

def TK.agg : TK → Bool
  | .strct | .arr _ _ => true
  | _ => false

def descAgg : TypeDesc → Bool
  | .struct _ | .array _ _ => true
  | _ => false

def TK.fits (P : Program) (T : TypeId) (flds : List (Nat × Nat × Bool)) : TK → Prop
  | .bool => P.underlying T = some .bool
  | .int k => P.underlying T = some (.int k)
  | .str => P.underlying T = some .string
  | .slice e => P.underlying T = some (.slice e)
  | .ptr e => P.underlying T = some (.pointer e)
  | .strct => ∃ fs, P.underlying T = some (.struct fs) ∧ fs.toList.map (fun f => (P.info? f.type).bind fun i => (P.underlying f.type).map fun d => (f.offset, i.size, descAgg d)) = flds.map some
  | .arr n e => P.underlying T = some (.array n e)
  | .iface => ∃ m, P.underlying T = some (.interface m)
  | .func => ∃ x y z, P.underlying T = some (.func x y z)
  | .map k e => P.underlying T = some (.map k e)
  | .other => ∃ d, P.underlying T = some d ∧ descAgg d = false

theorem fits_strct {P : Program} {T : TypeId} {flds : List (Nat × Nat × Bool)} (h : TK.fits P T flds .strct) :
    ∃ fs, P.underlying T = some (.struct fs) ∧ (∀ j : Nat, (fs[j]?).bind (fun f => (P.info? f.type).bind fun i => (P.underlying f.type).map fun d => (f.offset, i.size, descAgg d)) = flds[j]?) ∧ fs.size = flds.length := by
  obtain ⟨fs, h1, h2⟩ := h
  refine ⟨fs, h1, fun j => ?_, ?_⟩
  · have := congrArg (fun l => l[j]?) h2
    simp only [List.getElem?_map, Array.getElem?_toList] at this
    cases hf : fs[j]? with
    | none => rw [hf] at this; cases hg : flds[j]? with
      | none => rfl
      | some q => rw [hg] at this; simp at this
    | some f => rw [hf] at this; cases hg : flds[j]? with
      | none => rw [hg] at this; simp at this
      | some q => rw [hg] at this; simpa using this
  · have := congrArg List.length h2
    simpa using this

structure TI.ok (P : Program) (T : TypeId) (i : TI) : Prop where
  info : ∃ x z, P.info? T = some x ∧ x.size = i.size ∧ x.bytes = i.bytes ∧ x.zero = some z ∧ z.cells = i.zero.toArray
  len : i.zero.length = i.size
  k : i.k.fits P T i.flds

theorem TI.ok.agg {P : Program} {T : TypeId} {i : TI} (h : i.ok P T) : ∃ d, P.underlying T = some d ∧ descAgg d = i.k.agg := by
  have := h.k
  cases hk : i.k <;> simp only [hk, TK.fits] at this
  all_goals first
    | exact ⟨_, this, rfl⟩
    | (obtain ⟨d, h1, h2⟩ := this; exact ⟨d, h1, h2⟩)
    | (obtain ⟨d, h1, h2⟩ := this; exact ⟨_, h1, rfl⟩)
    | (obtain ⟨d, h1⟩ := this; exact ⟨_, h1, rfl⟩)
    | (obtain ⟨x, y, z, h1⟩ := this; exact ⟨_, h1, rfl⟩)


structure Ctx where
  P : Program
  Q : Exit → Act → World → Prop
  nt : Nat
  ty : TypeId → Option TI
  tyok : ∀ T i, ty T = some i → i.ok P T
  w0 : World
  G0 : Hp
  mb : List Nat
  mh : Nat
  ro : Option Nat

structure Mem (C : Ctx) (ow : List (Nat × Nat × OO)) (G : Hp) (w : World) : Prop where
  own : ∀ h b o, lk h ow = some (b, o) → o.holds C.w0.heap.size w b ∧ ∀ g, o.mut b g → G g = none ∧ (C.mh ≤ h → C.w0.heap.size ≤ g) ∧ (h < C.mh → g ∈ C.mb ∨ C.w0.heap.size ≤ g)
  inj : ∀ h h' b b' o o' g, lk h ow = some (b, o) → lk h' ow = some (b', o') → o.blks b g → o'.blks b' g → h = h'
  grow : Grow C.mb C.w0 C.G0 w G

structure Sat (C : Ctx) (s : St) (a : Act) (w : World) : Prop where
  sl : ∀ i x, lk i s.sl = some x → a.tmps[i]? = some x.den
  nt : a.tmps.size = C.nt
  df : a.defers = s.df
  mem : Mem C s.own s.G w

def SGo (C : Ctx) (K : List KI) (s : St) : Prop := ∀ a w, Sat C s a w → wpK C.P C.ro C.Q K .normal a w

theorem SGo.weaken {C : Ctx} {K : List KI} {s s' : St} (hG : s'.G = s.G) (hd : s'.df = s.df) (hs : ∀ i x, lk i s'.sl = some x → lk i s.sl = some x ∨ ∃ y, lk i s.sl = some y ∧ y.den = x.den)
    (ho : ∀ i x, lk i s'.own = some x → lk i s.own = some x) (h : SGo C K s') : SGo C K s := by
  intro a w hS
  refine h a w ⟨fun i x hx => ?_, hS.nt, by rw [hd]; exact hS.df, ?_⟩
  · rcases hs i x hx with h1 | ⟨y, h1, h2⟩
    · exact hS.sl i x h1
    · rw [← h2]; exact hS.sl i y h1
  · exact ⟨fun h b o e => by rw [hG]; exact hS.mem.own h b o (ho _ _ e), fun h h' b b' o o' g e e' => hS.mem.inj h h' b b' o o' g (ho _ _ e) (ho _ _ e'), by rw [hG]; exact hS.mem.grow⟩

section
variable {C : Ctx} {K : List KI} {s : St}
theorem go_skip (h : SGo C K s) : SGo C (.code .skip :: K) s := fun a w hS => wpIn_skip (h a w hS)
theorem go_label {l : Nat} (h : SGo C K s) : SGo C (.code (.label l) :: K) s := fun a w hS => wpIn_label (h a w hS)
theorem go_seq {x y : Code} (h : SGo C (.code x :: .code y :: K) s) : SGo C (.code (.seq x y) :: K) s := fun a w hS => by
  have := h a w hS
  simp only [wpK] at this ⊢
  exact wpIn_seq (by rw [← wpK_code_eq]; exact this)
theorem go_block {id : Nat} {x : Code} (h : SGo C (.code x :: .blk id :: K) s) : SGo C (.code (.block id x) :: K) s := fun a w hS => by
  have := h a w hS
  simp only [wpK] at this ⊢
  exact wpIn_block (by rw [← wpK_blk_eq]; exact this)
theorem go_blk {id : Nat} (h : SGo C K s) : SGo C (.blk id :: K) s := fun a w hS => h a w hS
theorem go_exit {id : Nat} {K' : List KI} (hp : popTo id K = some K') (h : SGo C K' s) : SGo C (.code (.exit id) :: K) s := fun a w hS =>
  wpIn_exit (wpK_exit id K K' a w hp (h a w hS))
theorem go_region {id : Nat} {ops : Array Oper} (h : SGo C (.ops ops ops.toList :: K) s) : SGo C (.code (.region id ops false) :: K) s := fun a w hS =>
  wpIn_region_list (h a w hS)
theorem go_ops {R : Array Oper} (h : SGo C K s) : SGo C (.ops R [] :: K) s := fun a w hS => wpListIn_nil (h a w hS)
theorem go_first {x : Code} (h : SGo C (.code x :: .loop x :: K) s) : SGo C (.code (.loop x) :: K) s := fun a w hS => by
  have := h a w hS
  simp only [wpK] at this ⊢
  exact wp_loop_first (by rw [← wpK_loop_eq]; exact this)
theorem go_again {x : Code} (h : SGo C (.code x :: .loop x :: K) s) : SGo C (.loop x :: K) s := fun a w hS => by
  have := h a w hS
  simp only [wpK] at this ⊢
  exact wp_loop_again (by rw [← wpK_loop_eq]; exact this)
end

end Go.Sx
namespace Go.Sx
set_option linter.unusedSimpArgs false
set_option linter.unusedVariables false
open Go.RowKit


theorem add_none (b off n : Nat) : Addr.add ⟨b, off, none⟩ n = ⟨b, off + n, none⟩ := by
  unfold Addr.add
  split
  · rename_i h; subst h; rfl
  · rfl

section
variable {P : Program} {T : TypeId} {i : TI} (w : World)
theorem run_und {d : TypeDesc} (h : P.underlying T = some d) : (underlying T).run P w = .ok d w := by
  simp [underlying, h]
theorem run_size (h : i.ok P T) : (sizeOf T).run P w = .ok i.size w := by
  obtain ⟨x, z, h1, h2, -⟩ := h.info
  simp [sizeOf, typeInfo, h1, h2]
theorem run_isAgg (h : i.ok P T) : (isAgg T).run P w = .ok i.k.agg w := by
  obtain ⟨d, h1, h2⟩ := h.agg
  rw [← h2]
  simp only [isAgg, Sem.run_bind, run_und w h1, Result.andThen_ok]
  cases d <;> simp [descAgg]
theorem run_zero (h : i.ok P T) : ∃ z, (zeroValue T).run P w = .ok z w ∧ z.cells = i.zero.toArray := by
  obtain ⟨x, z, h1, h2, h3, h4, h5⟩ := h.info
  exact ⟨z, by simp [zeroValue, typeInfo, h1, h4], h5⟩
end

theorem cell_at {w : World} {b : Nat} {arr : Array Value} {e : TypeId} {fz : Nat × Nat} (h : w.heap[b]? = some (.cells arr e fz)) (off : Nat) :
    w.cell? ⟨b, off, none⟩ = arr[off]? := by
  simp [World.cell?, h]

theorem run_loadCells {P : Program} {w : World} {b : Nat} {arr : Array Value} {e : TypeId} {fz : Nat × Nat} (h : w.heap[b]? = some (.cells arr e fz)) (off : Nat) :
    ∀ (n i : Nat) (acc : Array Value), off + i + n ≤ arr.size → (loadCellsFrom ⟨b, off, none⟩ i n acc).run P w = .ok (acc ++ arr.extract (off + i) (off + i + n)) w
  | 0, i, acc, _ => by simp [loadCellsFrom]; omega
  | n + 1, i, acc, hn => by
    have hc : w.cell? ⟨b, off + i, none⟩ = some arr[off + i] := by rw [cell_at h]; simp
    simp only [loadCellsFrom, Sem.run_bind, run_load, add_none, hc, Result.andThen_ok]
    rw [run_loadCells h off n (i + 1) _ (by omega)]
    congr 1
    apply Array.ext'
    simp only [Array.toList_append, Array.toList_push, Array.toList_extract, List.append_assoc]
    congr 1
    rw [List.extract_eq_take_drop, List.extract_eq_take_drop, show off + i + (n + 1) - (off + i) = n + 1 by omega, show off + (i + 1) + n - (off + (i + 1)) = n by omega]
    rw [List.drop_eq_getElem_cons (i := off + i) (by simp; omega), List.take_succ_cons]
    simp [Nat.add_assoc]

def setBlk (w : World) (b : Nat) (o : Obj) : World := { w with heap := w.heap.setIfInBounds b o }
theorem setBlk_same {w : World} {b : Nat} (h : b < w.heap.size) (o : Obj) : (setBlk w b o).heap[b]? = some o := by
  simp [setBlk, h]
theorem setBlk_ne {w : World} {b k : Nat} (h : k ≠ b) (o : Obj) : (setBlk w b o).heap[k]? = w.heap[k]? := by
  simp [setBlk, Array.getElem?_setIfInBounds_ne (Ne.symm h)]
theorem setBlk_size (w : World) (b : Nat) (o : Obj) : (setBlk w b o).heap.size = w.heap.size := by simp [setBlk]
theorem setBlk_setBlk (w : World) (b : Nat) (o o' : Obj) : setBlk (setBlk w b o) b o' = setBlk w b o' := by
  simp [setBlk]
theorem setBlk_self {w : World} {b : Nat} {o : Obj} (h : w.heap[b]? = some o) : setBlk w b o = w := by
  have : w.heap.setIfInBounds b o = w.heap := by
    apply Array.ext_getElem?
    intro i
    by_cases hi : i = b
    · subst hi; rw [Array.getElem?_setIfInBounds_self_of_lt (lt_of_heap h), h]
    · rw [Array.getElem?_setIfInBounds_ne (Ne.symm hi)]
  simp [setBlk, this]

theorem setCell_eq {w : World} {b : Nat} {arr : Array Value} {e : TypeId} {fz : Nat × Nat} (h : w.heap[b]? = some (.cells arr e fz)) (off : Nat) (v : Value) :
    w.setCell ⟨b, off, none⟩ v = setBlk w b (.cells (arr.setIfInBounds off v) e fz) := by
  have : (w.setCell ⟨b, off, none⟩ v).heap = (setBlk w b (.cells (arr.setIfInBounds off v) e fz)).heap := by
    apply Array.ext_getElem?
    intro i
    simp only [World.setCell, setBlk]
    rw [Array.getElem?_modify]
    by_cases hi : i = b
    · subst hi; rw [if_pos rfl, h, Array.getElem?_setIfInBounds_self_of_lt (lt_of_heap h)]; simp
    · rw [if_neg (Ne.symm hi), Array.getElem?_setIfInBounds_ne (Ne.symm hi)]
  have e1 : w.setCell ⟨b, off, none⟩ v = { w with heap := (w.setCell ⟨b, off, none⟩ v).heap } := rfl
  rw [e1, this]
  rfl

def lay {α : Type} : List α → Nat → List α → Option (List α)
  | l, _, [] => some l
  | [], _, _ :: _ => none
  | _ :: l, 0, v :: vs => (lay l 0 vs).map (v :: ·)
  | x :: l, n + 1, v :: vs => (lay l n (v :: vs)).map (x :: ·)

theorem lay_map {α β : Type} (g : α → β) : ∀ (l : List α) (n : Nat) (vs l' : List α), lay l n vs = some l' → lay (l.map g) n (vs.map g) = some (l'.map g)
  | l, n, [], l', h => by
    cases l <;> cases n <;> simp [lay] at h <;> subst h <;> simp [lay]
  | [], n, v :: vs, l', h => by cases n <;> simp [lay] at h
  | x :: l, 0, v :: vs, l', h => by
    simp only [lay, Option.map_eq_some_iff] at h
    obtain ⟨r, h1, rfl⟩ := h
    simp [lay, lay_map g l 0 vs r h1]
  | x :: l, n + 1, v :: vs, l', h => by
    simp only [lay, Option.map_eq_some_iff] at h
    obtain ⟨r, h1, rfl⟩ := h
    have := lay_map g l n (v :: vs) r h1
    simp only [List.map_cons] at this
    simp [lay, this]

theorem lay_step {α : Type} : ∀ (l : List α) (n : Nat) (v : α) (vs l' : List α), lay l n (v :: vs) = some l' → n < l.length ∧ lay (l.set n v) (n + 1) vs = some l'
  | [], n, v, vs, l', h => by cases n <;> simp [lay] at h
  | x :: l, 0, v, vs, l', h => by
    simp only [lay, Option.map_eq_some_iff] at h
    obtain ⟨r, h1, rfl⟩ := h
    refine ⟨by simp, ?_⟩
    cases vs with
    | nil => cases l <;> simp [lay] at h1 ⊢ <;> exact h1
    | cons u us => simp [lay, h1]
  | x :: l, n + 1, v, vs, l', h => by
    simp only [lay, Option.map_eq_some_iff] at h
    obtain ⟨r, h1, rfl⟩ := h
    obtain ⟨h2, h3⟩ := lay_step l n v vs r h1
    refine ⟨by simp; omega, ?_⟩
    cases vs with
    | nil =>
      have : l.set n v = r := by
        cases hl : l.set n v <;> rw [hl] at h3 <;> simp [lay] at h3 <;> simp [h3]
      simp [lay, this]
    | cons u us => simp [lay, h3]

theorem run_storeCells {P : Program} {b off : Nat} {e : TypeId} : ∀ (vs : List Value) (i : Nat) (w : World) (l l' : List Value),
    w.heap[b]? = some (.cells l.toArray e) → (∀ v ∈ vs, v.oneCell' = true) → lay l (off + i) vs = some l' →
    (storeCells ⟨b, off, none⟩ vs i).run P w = .ok () (setBlk w b (.cells l'.toArray e))
  | [], i, w, l, l', h, _, hl => by
    have : l = l' := by cases l <;> cases hoi : off + i <;> rw [hoi] at hl <;> simp [lay] at hl <;> simp [hl]
    subst this
    simp [storeCells, setBlk_self h]
  | v :: vs, i, w, l, l', h, hv, hl => by
    obtain ⟨h1, h2⟩ := lay_step l (off + i) v vs l' hl
    have hc : w.cell? ⟨b, off + i, none⟩ = some l[off + i] := by rw [cell_at h]; simp [h1]
    have hf : w.frozen? ⟨b, off + i, none⟩ = false := by simp [World.frozen?, h]
    have hset := setCell_eq h (off + i) v
    simp only [List.setIfInBounds_toArray] at hset
    simp only [storeCells, Sem.run_bind, run_store P w _ v _ (hv v (by simp)), add_none, hc, hf, Bool.false_eq_true, if_false, Result.andThen_ok, hset]
    rw [run_storeCells vs (i + 1) _ (l.set (off + i) v) l' (setBlk_same (lt_of_heap h) _) (fun u hu => hv u (by simp [hu])) (by rw [← Nat.add_assoc]; exact h2)]
    rw [setBlk_setBlk]


theorem Mem.ltm {C : Ctx} {own : List (Nat × Nat × OO)} {G : Hp} {w : World} (h : Mem C own G w) {k b g : Nat} {o : OO} (hk : lk k own = some (b, o)) (hg : o.mut b g) : g < w.heap.size :=
  OO.holds_lt (h.own _ _ _ hk).1 (OO.mut_blks (h.own _ _ _ hk).1 hg)
theorem Mem.lt {C : Ctx} {own : List (Nat × Nat × OO)} {G : Hp} {w : World} (h : Mem C own G w) {k b g : Nat} {o : OO} (hk : lk k own = some (b, o)) (hg : o.blks b g) : g < w.heap.size :=
  OO.holds_lt (h.own _ _ _ hk).1 hg

theorem Mem.put {C : Ctx} {own : List (Nat × Nat × OO)} {G : Hp} {w w' : World} (h : Mem C own G w) {k b : Nat} {o : OO} (hk : lk k own = some (b, o)) {b' : Nat} {o' : OO}
    (hos : w'.os = w.os) (htape : w'.tape = w.tape) (hout : w'.output = w.output) (hsize : w.heap.size ≤ w'.heap.size)
    (hsame : ∀ j, j < w.heap.size → ¬ o.mut b j → w'.heap[j]? = w.heap[j]?)
    (hh : o'.holds C.w0.heap.size w' b') (hb : ∀ g, (o'.blks b' g → o.blks b g ∨ w.heap.size ≤ g) ∧ (o'.mut b' g → o.mut b g ∨ w.heap.size ≤ g)) :
    Mem C (stk k (b', o') own) G w' := by
  obtain ⟨g1, g2⟩ := h.own _ _ _ hk
  have hGn : ∀ g, o'.mut b' g → G g = none ∧ (C.mh ≤ k → C.w0.heap.size ≤ g) ∧ (k < C.mh → g ∈ C.mb ∨ C.w0.heap.size ≤ g) := by
    intro g hg
    rcases (hb g).2 hg with q | q
    · exact g2 g q
    · refine ⟨?_, fun _ => Nat.le_trans h.grow.size q, fun q2 => .inr (Nat.le_trans h.grow.size q)⟩
      cases hG : G g with
      | none => rfl
      | some x => have := lt_of_heap (h.grow.has _ _ hG); omega
  refine ⟨fun j c x e => ?_, fun j j' c c' x x' g e e' f f' => ?_, ?_⟩
  · rw [lk_stk] at e
    split at e
    · rename_i hj; subst hj; cases e; exact ⟨hh, hGn⟩
    · rename_i hj
      obtain ⟨f1, f2⟩ := h.own _ _ _ e
      refine ⟨OO.holds_same f1 ⟨hos, htape, hout, hsize⟩ fun g hg => ?_, f2⟩
      refine hsame g (h.lt e hg) fun q => hj (h.inj _ _ _ _ _ _ g e hk hg (OO.mut_blks g1 q))
  · have key : ∀ {j c x}, lk j own = some (c, x) → x.blks c g → o'.blks b' g → j = k := by
      intro j c x e f f'
      rcases (hb g).1 f' with q | q
      · exact h.inj _ _ _ _ _ _ g e hk f q
      · have := h.lt e f; omega
    rw [lk_stk] at e e'
    split at e <;> split at e'
    · omega
    · rename_i h1 h2; cases e; exact absurd (key e' f' f) h2
    · rename_i h1 h2; cases e'; exact absurd (key e f f') h1
    · exact h.inj _ _ _ _ _ _ _ e e' f f'
  · have hg := h.grow
    refine ⟨hos.trans hg.os, htape.trans hg.tape, hout.trans hg.output, Nat.le_trans hg.size hsize, fun j hj hm => ?_, fun j x e => ?_, hg.old⟩
    · rw [hsame j (by have := hg.size; omega) ?_]; exact hg.blk j hj hm
      intro q
      obtain ⟨_, q3, q4⟩ := g2 j q
      rcases Nat.lt_or_ge k C.mh with r | r
      · exact (q4 r).elim hm (fun q5 => by omega)
      · have := q3 r; omega
    · have hlt := lt_of_heap (hg.has j x e)
      rw [hsame j hlt ?_]; exact hg.has j x e
      intro q
      rw [(g2 j q).1] at e; cases e

theorem Mem.set {C : Ctx} {own : List (Nat × Nat × OO)} {G : Hp} {w : World} (h : Mem C own G w) {k b : Nat} {e e' : TypeId} {cells cells' : List SV} (hk : lk k own = some (b, .c e cells)) :
    Mem C (stk k (b, .c e' cells') own) G (setBlk w b (.cells (dens cells').toArray e')) := by
  have hlt := h.lt hk (g := b) rfl
  exact h.put hk rfl rfl rfl (by rw [setBlk_size]; exact Nat.le_refl _) (fun j _ hj => setBlk_ne (fun q => hj q) _) (setBlk_same hlt _) (fun g => ⟨.inl, .inl⟩)

theorem alloc_new (w : World) (o : Obj) : (w.alloc o).heap[w.heap.size]? = some o := by show (w.heap.push o)[w.heap.size]? = _; simp
theorem alloc_old (w : World) (o : Obj) {k : Nat} (h : k < w.heap.size) : (w.alloc o).heap[k]? = w.heap[k]? := Below.heap_alloc w o k h

theorem Grow.alloc {mb : List Nat} {w0 w : World} {G0 G : Hp} (h : Grow mb w0 G0 w G) (o : Obj) : Grow mb w0 G0 (w.alloc o) G :=
  ⟨h.os, h.tape, h.output, by have := h.size; simp; omega, fun k hk hm => by rw [alloc_old w o (by have := h.size; omega)]; exact h.blk k hk hm,
    fun b x e => by have := h.has b x e; rw [alloc_old w o (lt_of_heap this)]; exact this, h.old⟩

theorem Grow.drew {mb : List Nat} {w0 w : World} {G0 G : Hp} (h : Grow mb w0 G0 w G) : Grow mb w0 G0 w.drew G :=
  ⟨h.os, h.tape, h.output, h.size, h.blk, h.has, h.old⟩

theorem Mem.new {C : Ctx} {own : List (Nat × Nat × OO)} {G : Hp} {w w' : World} (h : Mem C own G w) {k b : Nat} {o : OO} (hk : lk k own = none) (hmh : C.mh ≤ k)
    (hos : w'.os = w.os) (htape : w'.tape = w.tape) (hout : w'.output = w.output) (hsize : w.heap.size ≤ w'.heap.size)
    (hsame : ∀ j, j < w.heap.size → w'.heap[j]? = w.heap[j]?)
    (hh : o.holds C.w0.heap.size w' b) (hb : ∀ g, o.blks b g → w.heap.size ≤ g) :
    Mem C (stk k (b, o) own) G w' := by
  refine ⟨fun j c x e => ?_, fun j j' c c' x x' g e e' f f' => ?_, ?_⟩
  · rw [lk_stk] at e
    split at e
    · rename_i hj; subst hj; cases e
      refine ⟨hh, fun g hg0 => ?_⟩
      have hg := OO.mut_blks hh hg0
      refine ⟨?_, fun _ => Nat.le_trans h.grow.size (hb g hg), fun q2 => by omega⟩
      cases hG : G g with
      | none => rfl
      | some x => have := lt_of_heap (h.grow.has _ _ hG); have := hb g hg; omega
    · obtain ⟨f1, f2⟩ := h.own _ _ _ e
      exact ⟨OO.holds_same f1 ⟨hos, htape, hout, hsize⟩ fun g hg => hsame g (h.lt e hg), f2⟩
  · rw [lk_stk] at e e'
    split at e <;> split at e'
    · omega
    · cases e; have := h.lt e' f'; have := hb g f; omega
    · cases e'; have := h.lt e f; have := hb g f'; omega
    · exact h.inj _ _ _ _ _ _ _ e e' f f'
  · have hg := h.grow
    refine ⟨hos.trans hg.os, htape.trans hg.tape, hout.trans hg.output, Nat.le_trans hg.size hsize, fun j hj hm => ?_, fun j x e => ?_, hg.old⟩
    · rw [hsame j (by have := hg.size; omega)]; exact hg.blk j hj hm
    · rw [hsame j (lt_of_heap (hg.has j x e))]; exact hg.has j x e

theorem Mem.alloc {C : Ctx} {own : List (Nat × Nat × OO)} {G : Hp} {w : World} (h : Mem C own G w) (e : TypeId) (cells : List SV) :
    Mem C (stk (fk C.mh own) (w.heap.size, .c e cells) own) G (w.alloc (.cells (dens cells).toArray e)) :=
  h.new (lk_fk own C.mh _ (Nat.le_refl _)) (fk_ge own C.mh) rfl rfl rfl (by simp) (fun j hj => alloc_old w _ hj) (alloc_new w _) (fun g hg => by simp only [OO.blks] at hg; omega)

theorem Mem.drew {C : Ctx} {own : List (Nat × Nat × OO)} {G : Hp} {w : World} (h : Mem C own G w) : Mem C own G w.drew :=
  ⟨fun k b o e => ⟨OO.holds_same (h.own k b o e).1 ⟨rfl, rfl, rfl, Nat.le_refl _⟩ (fun _ _ => rfl), (h.own k b o e).2⟩, h.inj, h.grow.drew⟩


def cv : Value → SV
  | .agg cs => .a (cs.toList.map .v)
  | .bool t => .b t
  | x => .v x
theorem cv_den (x : Value) : (cv x).den = x := by
  cases x <;> simp [cv, SV.den, dens_eq]
  rename_i cs
  have : (SV.den ∘ SV.v) = id := by funext y; simp [SV.den]
  rw [this]; simp

def ev (sl : List (Nat × SV)) : Operand → Option SV
  | .tmp t => lk t sl
  | .const x => some (cv x)
  | .global g => some (.v (.pointer (some ⟨g, 0, none⟩)))
  | .func f => some (.v (.func (.func f) #[] #[]))
def evs (sl : List (Nat × SV)) : List Operand → Option (List SV)
  | [] => some []
  | x :: l => match ev sl x with
    | some y => (evs sl l).map (y :: ·)
    | none => none

def Slots (sl : List (Nat × SV)) (a : Act) : Prop := ∀ i x, lk i sl = some x → a.tmps[i]? = some x.den
theorem ev_ok {sl : List (Nat × SV)} {a : Act} (hS : Slots sl a) {x : Operand} {y : SV} (h : ev sl x = some y) : a.eval x = y.den := by
  cases x with
  | tmp t => have := hS t y h; simp [Act.eval, Array.getD_eq_getD_getElem?, this]
  | const v => simp only [ev, Option.some.injEq] at h; subst h; simp [Act.eval, cv_den]
  | global g => simp only [ev, Option.some.injEq] at h; subst h; simp [Act.eval, SV.den]
  | func f => simp only [ev, Option.some.injEq] at h; subst h; simp [Act.eval, SV.den]

theorem evs_ok {sl : List (Nat × SV)} {a : Act} (hS : Slots sl a) : ∀ {xs : List Operand} {ys : List SV}, evs sl xs = some ys → xs.map a.eval = dens ys
  | [], ys, h => by simp only [evs, Option.some.injEq] at h; subst h; simp [dens]
  | x :: xs, ys, h => by
    simp only [evs] at h
    split at h
    · rename_i y hy
      simp only [Option.map_eq_some_iff] at h
      obtain ⟨r, h1, rfl⟩ := h
      simp [dens, ev_ok hS hy, evs_ok hS h1]
    · cases h

def SV.one : SV → Bool
  | .v x => x.oneCell'
  | .a _ | .t _ => false
  | _ => true
def SV.cs : SV → Option (List SV)
  | .a l => some l
  | .t _ => none
  | .v x => if x.oneCell' = true then some [.v x] else none
  | .b u => some [.b u]
  | .p q1 q2 q3 => some [.p q1 q2 q3]
  | .s q1 q2 q3 q4 q5 => some [.s q1 q2 q3 q4 q5]
  | .f q1 q2 q3 => some [.f q1 q2 q3]
  | .i q1 q2 => some [.i q1 q2]
theorem SV.one_ok {x : SV} (h : x.one = true) : x.den.oneCell' = true := by
  cases x <;> simp_all [SV.one, SV.den, Value.oneCell']
theorem SV.cs_ok {x : SV} {l : List SV} (h : x.cs = some l) : x.den.cells = (dens l).toArray := by
  cases x <;> simp only [SV.cs] at h
  case v x =>
    split at h
    · rename_i hx; cases h; cases x <;> simp_all [SV.den, Value.cells, dens, Value.oneCell']
    · cases h
  all_goals (cases h)
  all_goals simp [SV.den, Value.cells, dens]

end Go.Sx
namespace Go.Sx
set_option linter.unusedSimpArgs false
set_option linter.unusedVariables false
open Go.RowKit

def eqB : Bool → Bool → Bool
  | true, true => true
  | false, false => true
  | true, false => false
  | false, true => false
theorem eqB_self (b : Bool) : eqB b b = true := by cases b <;> rfl
theorem eqB_ne {a b : Bool} (h : a ≠ b) : eqB a b = false := by cases a <;> cases b <;> simp_all [eqB]

def SV.bool? : SV → Option Bool
  | .v (.bool u) => some u
  | .b u => some u
  | _ => none
theorem SV.bool?_ok {x : SV} {t : Bool} (h : x.bool? = some t) : x.den = .bool t := by
  cases x <;> simp only [SV.bool?] at h
  case v x => cases x <;> simp_all [SV.den]
  case b u => simp_all [SV.den]
  all_goals cases h

def sub {α : Type} : List α → Nat → Nat → Option (List α)
  | _, 0, 0 => some []
  | x :: l, 0, n + 1 => (sub l 0 n).map (x :: ·)
  | _ :: l, m + 1, n => sub l m n
  | [], _, _ => none
theorem sub_ok {α : Type} : ∀ (l : List α) (m n : Nat) (r : List α), sub l m n = some r → m + n ≤ l.length ∧ r = (l.drop m).take n
  | l, 0, 0, r, h => by simp [sub] at h; subst h; simp
  | [], 0, n + 1, r, h => by simp [sub] at h
  | [], m + 1, n, r, h => by simp [sub] at h
  | x :: l, 0, n + 1, r, h => by
    simp only [sub, Option.map_eq_some_iff] at h
    obtain ⟨q, h1, rfl⟩ := h
    obtain ⟨h2, h3⟩ := sub_ok l 0 n q h1
    simp only [List.drop_zero] at h3 ⊢
    simp [h3]; omega
  | x :: l, m + 1, n, r, h => by
    simp only [sub] at h
    obtain ⟨h2, h3⟩ := sub_ok l m n r h
    simp [h3]; omega

def nth {α : Type} : List α → Nat → Option α
  | [], _ => none
  | x :: _, 0 => some x
  | _ :: l, n + 1 => nth l n
theorem nth_eq {α : Type} : ∀ (l : List α) (n : Nat), nth l n = l[n]?
  | [], n => by simp [nth]
  | x :: l, 0 => by simp [nth]
  | x :: l, n + 1 => by simp [nth, nth_eq l n]

def binInt (op : BinOp) (k k' : IntKind) (m n : Int) : Option Value :=
  if k = k' then
    match op with
    | .add => some (.int k (k.wrap (m + n)))
    | .sub => some (.int k (k.wrap (m - n)))
    | .mul => some (.int k (k.wrap (m * n)))
    | .eql => some (.bool (m == n))
    | .neq => some (.bool (m != n))
    | .lss => some (.bool (decide (m < n)))
    | .leq => some (.bool (decide (m ≤ n)))
    | .gtr => some (.bool (decide (n < m)))
    | .geq => some (.bool (decide (n ≤ m)))
    | .and => some (.int k (k.wrap (BitVec.ofInt k.bits m &&& BitVec.ofInt k.bits n).toNat))
    | .or => some (.int k (k.wrap (BitVec.ofInt k.bits m ||| BitVec.ofInt k.bits n).toNat))
    | .xor => some (.int k (k.wrap (BitVec.ofInt k.bits m ^^^ BitVec.ofInt k.bits n).toNat))
    | _ => none
  else none
theorem binInt_ok {op : BinOp} {k k' : IntKind} {m n : Int} {r : Value} (h : binInt op k k' m n = some r) (P : Program) (T : TypeId) (x y : Operand) (w : World) :
    (do eqGuard op T x y (.int k m) (.int k' n); binOp op T (.int k m) (.int k' n) : Sem Value).run P w = .ok r w := by
  unfold binInt at h
  split at h
  · rename_i hk; subst hk
    cases op <;> simp at h <;> subst h <;> simp [eqGuard, binOp, Op.intArith, Op.intCmp, Op.intBits]
  · cases h

def binConst (op : BinOp) (k k' : IntKind) (m n : Int) : Option Value :=
  match op with
  | .quo => if k = k' then if n = 0 then none else some (.int k (k.wrap (m.tdiv n))) else none
  | .rem => if k = k' then if n = 0 then none else some (.int k (m.tmod n)) else none
  | .shl => if n < 0 then none else some (.int k (k.wrap (m * 2 ^ (min n.toNat k.bits))))
  | .shr => if n < 0 then none else some (.int k (m.fdiv (2 ^ (min n.toNat k.bits))))
  | _ => binInt op k k' m n
theorem binConst_ok {op : BinOp} {k k' : IntKind} {m n : Int} {r : Value} (h : binConst op k k' m n = some r) (P : Program) (T : TypeId) (x y : Operand) (w : World) :
    (do eqGuard op T x y (.int k m) (.int k' n); binOp op T (.int k m) (.int k' n) : Sem Value).run P w = .ok r w := by
  unfold binConst at h
  split at h
  · split at h
    · rename_i hk; subst hk
      split at h
      · cases h
      · rename_i hn; cases h; simp [eqGuard, binOp, Op.intDiv, hn]
    · cases h
  · split at h
    · rename_i hk; subst hk
      split at h
      · cases h
      · rename_i hn; cases h; simp [eqGuard, binOp, Op.intDiv, hn]
    · cases h
  · split at h
    · cases h
    · rename_i hn; cases h; simp [eqGuard, binOp, Op.shift, hn]
  · split at h
    · cases h
    · rename_i hn; cases h; simp [eqGuard, binOp, Op.shift, hn]
  · exact binInt_ok h P T x y w

def binBool (op : BinOp) (m n : Bool) : Option Value :=
  match op with
  | .eql => some (.bool (m == n))
  | .neq => some (.bool (m != n))
  | _ => none
def binStr (op : BinOp) (m n : ByteArray) : Option Value :=
  match op with
  | .eql => some (.bool (m.toList == n.toList))
  | .neq => some (.bool (!(m.toList == n.toList)))
  | _ => none

theorem equalIn_bool {P : Program} {T : TypeId} (hT : P.underlying T = some .bool) (d : Nat) (m n : Bool) (w : World) : (Op.equalIn (d + 1) T (.bool m) (.bool n)).run P w = .ok (m == n) w := by
  simp only [Op.equalIn, Sem.run_bind, run_und w hT, Result.andThen_ok, Sem.run_pure]
theorem equal_bool {P : Program} {T : TypeId} (hT : P.underlying T = some .bool) (m n : Bool) (w : World) : (Op.equal T (.bool m) (.bool n)).run P w = .ok (m == n) w :=
  equalIn_bool hT 9999 m n w
theorem binBool_ok {op : BinOp} {m n : Bool} {r : Value} (h : binBool op m n = some r) {P : Program} {T : TypeId} (hT : P.underlying T = some .bool) (x y : Operand) (w : World) :
    (do eqGuard op T x y (.bool m) (.bool n); binOp op T (.bool m) (.bool n) : Sem Value).run P w = .ok r w := by
  unfold binBool at h
  split at h
  · cases h; simp [eqGuard, binOp, equal_bool hT]
  · cases h; simp [eqGuard, binOp, equal_bool hT, bne]
  · cases h
theorem binStr_ok {op : BinOp} {m n : ByteArray} {r : Value} (h : binStr op m n = some r) (P : Program) (T : TypeId) (x y : Operand) (w : World) :
    (do eqGuard op T x y (.string m) (.string n); binOp op T (.string m) (.string n) : Sem Value).run P w = .ok r w := by
  unfold binStr at h
  split at h
  · cases h; simp [eqGuard, binOp, Op.stringOp]
  · cases h; simp [eqGuard, binOp, Op.stringOp]
  · cases h

def isC : Operand → Bool
  | .const _ => true
  | _ => false

def fillS (place : Nat → Option (Nat × Nat)) : List (Nat × SV) → List SV → Option (List SV)
  | [], cells => some cells
  | x :: rest, cells => match place x.1, x.2.cs with
    | some q, some vs => if vs.length = q.2 ∧ q.1 + q.2 ≤ cells.length then (lay cells q.1 vs).bind (fillS place rest) else none
    | _, _ => none

def evParts (sl : List (Nat × SV)) : List (Nat × Operand) → Option (List (Nat × SV))
  | [] => some []
  | x :: l => match ev sl x.2 with
    | some y => (evParts sl l).map ((x.1, y) :: ·)
    | none => none

def rep {α : Type} (l : List α) : Nat → List α
  | 0 => []
  | n + 1 => l ++ rep l n

def ldOwn (agg : Bool) (size : Nat) (cells : List SV) (off : Nat) : Option SV :=
  match agg with
  | true => (sub cells off size).map .a
  | false => nth cells off

def opQ (ty : TypeId → Option TI) (sl : List (Nat × SV)) (own : List (Nat × Nat × OO)) : Op → Option SV
  | .move x => ev sl x
  | .assign x => ev sl x
  | .pick c x y => match ev sl c with
    | some (.b true) => ev sl x
    | some (.b false) => ev sl y
    | _ => none
  | .binOp op T x y _ => match ev sl x, ev sl y with
    | some (.v (.int k m)), some (.v (.int k' n)) => (match isC y with | true => binConst op k k' m n | false => binInt op k k' m n).map .v
    | some (.v (.string m)), some (.v (.string n)) => (binStr op m n).map .v
    | some p, some q => match ty T, p.bool?, q.bool? with
      | some ⟨.bool, _, _, _, _⟩, some m, some n => (binBool op m n).map .v
      | _, _, _ => none
    | _, _ => none
  | .unOp op _ x => match ev sl x with
    | some (.v (.int k n)) => match op with
      | .neg => some (.v (.int k (k.wrap (0 - n))))
      | _ => none
    | some (.v (.bool t)) => match op with
      | .not => some (.v (.bool !t))
      | _ => none
    | some (.b t) => match op with
      | .not => some (.b !t)
      | _ => none
    | _ => none
  | .convert src dst x => match ty src, ty dst, ev sl x with
    | some _, some ⟨.int k, _, _, _, _⟩, some (.v (.int _ n)) => some (.v (.int k (k.wrap n)))
    | some _, some ⟨.str, _, _, _, _⟩, some (.v (.string n)) => some (.v (.string n))
    | _, _, _ => none
  | .fieldAddr T x f => match ty T, ev sl x with
    | some ⟨.strct, _, _, _, flds⟩, some (.p h b off) => match nth flds f with
      | some (_, 0, _) => none
      | some (o, _, _) => some (.p h b (off + o))
      | none => none
    | some ⟨.strct, _, _, _, flds⟩, some (.v (.pointer (some ⟨b, off, none⟩))) => match nth flds f with
      | some (_, 0, _) => none
      | some (o, _, _) => some (.v (.pointer (some ⟨b, off + o, none⟩)))
      | none => none
    | _, _ => none
  | .field T x f => match ty T, ev sl x with
    | some ⟨.strct, _, _, _, flds⟩, some (.a l) => match nth flds f with
      | some (o, sz, agg) => ldOwn agg sz l o
      | none => none
    | _, _ => none
  | .load T x => match ty T, ev sl x with
    | some ti, some (.p h b off) => match lk h own with
      | some (b', .c _ cells) => if b' = b then ldOwn ti.k.agg ti.size cells off else none
      | _ => none
    | _, _ => none
  | .nilCheck x => match ev sl x with
    | some (.p h b off) => some (.p h b off)
    | some (.v (.pointer (some ad))) => some (.v (.pointer (some ad)))
    | _ => none
  | .makeInterface T x => match ty T, ev sl x with
    | some ⟨.iface, _, _, _, _⟩, _ => none
    | some ⟨.other, _, _, _, _⟩, _ => none
    | some _, some y => some (.i T y)
    | _, _ => none
  | .makeFunc fn first cap => match evs sl first.toList, evs sl cap.toList with
    | some x, some y => some (.f fn x y)
    | _, _ => none
  | .extract x n => match ev sl x with
    | some (.t l) => nth l n
    | _ => none
  | .build T parts => match ty T, evParts sl parts.toList with
    | some ⟨.strct, _, _, zero, flds⟩, some ps => (fillS (fun j => (nth flds j).map fun q => (q.1, q.2.1)) ps (zero.map .v)).map .a
    | some ⟨.arr _ e, _, _, zero, _⟩, some ps => match ty e with
      | some te => (fillS (fun j => some (j * te.size, te.size)) ps (zero.map .v)).map .a
      | none => none
    | _, _ => none
  | .indexAddr T x (.const (.int _ n)) => match ty T, ev sl x with
    | some ⟨.slice e, _, _, _, _⟩, some (.s h b off len _) => match ty e with
      | some te => if 0 ≤ n ∧ n < (len : Int) then some (.p h b (off + n.toNat * te.size)) else none
      | none => none
    | some ⟨.arr len e, _, _, _, _⟩, some (.p h b off) => match ty e with
      | some te => if 0 ≤ n ∧ n < (len : Int) then some (.p h b (off + n.toNat * te.size)) else none
      | none => none
    | _, _ => none
  | .call ⟨.builtin .len, args, tys⟩ => match args.toList, tys.toList with
    | [x], [T] => match ty T, ev sl x with
      | some ⟨.slice _, _, _, _, _⟩, some (.v (.slice _ n _)) => some (.v (.int .i64 n))
      | some ⟨.slice _, _, _, _, _⟩, some (.s _ _ _ n _) => some (.v (.int .i64 n))
      | some ⟨.str, _, _, _, _⟩, some (.v (.string m)) => some (.v (.int .i64 m.size))
      | _, _ => none
    | _, _ => none
  | .call ⟨.builtin .min, args, _⟩ => match args.toList with
    | [x, y] => match ev sl x, ev sl y with
      | some (.v (.int k m)), some (.v (.int _ n)) => some (.v (.int k (if n < m then n else m)))
      | _, _ => none
    | _ => none
  | .call ⟨.builtin .max, args, _⟩ => match args.toList with
    | [x, y] => match ev sl x, ev sl y with
      | some (.v (.int k m)), some (.v (.int _ n)) => some (.v (.int k (if m < n then n else m)))
      | _, _ => none
    | _ => none
  | _ => none

def opStore (ty : TypeId → Option TI) (sl : List (Nat × SV)) (own : List (Nat × Nat × OO)) : Op → Option (List (Nat × Nat × OO))
  | .store T x y => match ty T, ev sl x, ev sl y with
    | some ti, some (.p h b off), some z => match z.cs with
      | some vs => match lk h own with
        | some (b', .c e cells) => if b' = b ∧ vs.length = ti.size ∧ vs.all SV.one = true then (lay cells off vs).map fun cells' => stk h (b, .c e cells') own else none
        | _ => none
      | none => none
    | _, _, _ => none
  | _ => none

def opAlloc (ty : TypeId → Option TI) (sl : List (Nat × SV)) : Op → Option (TypeId × List SV × (Nat → Nat → SV))
  | .alloc T => (ty T).map fun ti => (T, ti.zero.map .v, fun h b => .p h b 0)
  | .box T x => match ev sl x with
    | some y => y.cs.map fun l => (T, l, fun h b => .p h b 0)
    | none => none
  | .buildSlice T len parts => match ty T, evParts sl parts.toList with
    | some ⟨.slice e, _, _, _, _⟩, some ps => match ty e with
      | some te => if len * te.size ≤ 16777216 then (fillS (fun j => some (j * te.size, te.size)) ps (rep (te.zero.map .v) len)).map fun l => (e, l, fun h b => .s h b 0 len len) else none
      | none => none
    | _, _ => none
  | _ => none

end Go.Sx
namespace Go.Sx
set_option linter.unusedSimpArgs false
set_option linter.unusedVariables false
open Go.RowKit

section
variable {sl : List (Nat × SV)} {a : Act}

theorem ld_ok {P : Program} {w : World} {b : Nat} {e T : TypeId} {fz : Nat × Nat} {cells : List SV} {ti : TI} (hT : ti.ok P T)
    (h : w.heap[b]? = some (.cells (dens cells).toArray e fz)) {off : Nat} {y : SV} (hl : ldOwn ti.k.agg ti.size cells off = some y) :
    (loadVar T ⟨b, off, none⟩).run P w = .ok y.den w := by
  simp only [loadVar, Sem.run_bind, run_isAgg w hT, Result.andThen_ok]
  cases hk : ti.k.agg with
  | true =>
    simp only [hk, ldOwn, Option.map_eq_some_iff] at hl
    obtain ⟨l, h1, rfl⟩ := hl
    obtain ⟨h2, h3⟩ := sub_ok _ _ _ _ h1
    have hlen : (dens cells).toArray.size = cells.length := by simp [dens_eq]
    simp only [if_true, Sem.run_bind, run_size w hT, Result.andThen_ok, loadCells]
    rw [run_loadCells h off ti.size 0 #[] (by rw [hlen]; omega)]
    simp only [Result.andThen_ok, Sem.run_pure, SV.den]
    congr 2
    apply Array.ext'
    simp [h3, dens_eq, List.extract_eq_take_drop, List.map_drop, List.map_take]
  | false =>
    simp only [hk, ldOwn, nth_eq] at hl
    have hc : w.cell? ⟨b, off, none⟩ = some y.den := by rw [cell_at h]; simp [dens_eq, hl]
    simp [run_load, hc]

theorem part_ok {P : Program} {w : World} {T : TypeId} {d : TypeDesc} {x : TypeInfo} (h1 : P.underlying T = some d) (h2 : P.info? T = some x) {l : List SV} {off : Nat} {y : SV}
    (hl : ldOwn (descAgg d) x.size l off = some y) : (part T (dens l).toArray off).run P w = .ok y.den w := by
  have hagg : (isAgg T).run P w = .ok (descAgg d) w := by
    simp only [isAgg, Sem.run_bind, run_und w h1, Result.andThen_ok]
    cases d <;> simp [descAgg]
  simp only [part, Sem.run_bind, hagg, Result.andThen_ok]
  cases hk : descAgg d with
  | true =>
    simp only [hk, ldOwn, Option.map_eq_some_iff] at hl
    obtain ⟨r, h3, rfl⟩ := hl
    obtain ⟨h4, h5⟩ := sub_ok _ _ _ _ h3
    simp only [if_true, Sem.run_bind, sizeOf, typeInfo, run_program, Result.andThen_ok, h2, Sem.run_pure, SV.den]
    congr 2
    apply Array.ext'
    simp [h5, dens_eq, List.extract_eq_take_drop, List.map_drop, List.map_take]
  | false =>
    simp only [hk, ldOwn, nth_eq] at hl
    simp [dens_eq, hl]

theorem fold_lay (vs : List Value) : ∀ (off k : Nat) (l l' : List Value), lay l (off + k) vs = some l' →
    ((vs.zipIdx k).foldl (fun cs (x : Value × Nat) => cs.setIfInBounds (off + x.2) x.1) l.toArray) = l'.toArray := by
  induction vs with
  | nil =>
    intro off k l l' h
    have : l = l' := by cases l <;> cases hk : off + k <;> rw [hk] at h <;> simp [lay] at h <;> simp [h]
    simp [this]
  | cons v vs ih =>
    intro off k l l' h
    obtain ⟨h1, h2⟩ := lay_step _ _ _ _ _ h
    simp only [List.zipIdx_cons, List.foldl_cons, List.setIfInBounds_toArray]
    exact ih off (k + 1) _ _ (by rw [← Nat.add_assoc]; exact h2)

theorem fill_ok {place : Nat → Option (Nat × Nat)} : ∀ (ps : List (Nat × SV)) (cells l : List SV), fillS place ps cells = some l →
    Instr.fill place (dens cells).toArray (ps.map fun x => (x.1, x.2.den)) = some (dens l).toArray
  | [], cells, l, h => by simp only [fillS, Option.some.injEq] at h; subst h; simp [Instr.fill]
  | x :: rest, cells, l, h => by
    simp only [fillS] at h
    split at h
    · rename_i q vs h1 h2
      split at h
      · rename_i hlen
        simp only [Option.bind_eq_some_iff] at h
        obtain ⟨c', h3, h4⟩ := h
        have hcs := SV.cs_ok h2
        have hl := lay_map SV.den _ _ _ _ h3
        rw [← dens_eq, ← dens_eq, ← dens_eq] at hl
        have hsz : x.2.den.cells.size = q.2 := by rw [hcs]; simp [dens_eq, hlen.1]
        have hsc : (dens cells).toArray.size = cells.length := by simp [dens_eq]
        simp only [List.map_cons, Instr.fill, h1]
        rw [if_neg (by rw [hsz, hsc]; simp; omega)]
        have hf := fold_lay (dens vs) q.1 0 (dens cells) (dens c') (by simpa using hl)
        have hf' : (x.2.den.cells.zipIdx.foldl (fun cs (y : Value × Nat) => cs.setIfInBounds (q.1 + y.2) y.1) (dens cells).toArray) = (dens c').toArray := by
          rw [hcs, ← Array.foldl_toList, Array.toList_zipIdx]
          exact hf
        have := fill_ok rest c' l h4
        rw [← hf'] at this
        exact this
      · cases h
    · cases h

theorem evParts_ok (hS : Slots sl a) : ∀ {xs : List (Nat × Operand)} {ys : List (Nat × SV)}, evParts sl xs = some ys →
    xs.map (fun x => (x.1, a.eval x.2)) = ys.map (fun x => (x.1, x.2.den))
  | [], ys, h => by simp only [evParts, Option.some.injEq] at h; subst h; simp
  | x :: xs, ys, h => by
    simp only [evParts] at h
    split at h
    · rename_i y hy
      simp only [Option.map_eq_some_iff] at h
      obtain ⟨r, h1, rfl⟩ := h
      simp [ev_ok hS hy, evParts_ok hS h1]
    · cases h

theorem mapM_ok {P : Program} {w : World} {α β : Type} (g : α → Sem β) (k : α → β) : ∀ (l : List α), (∀ x ∈ l, (g x).run P w = .ok (k x) w) →
    (l.mapM g).run P w = .ok (l.map k) w
  | [], _ => by simp
  | x :: l, h => by
    simp only [List.mapM_cons, Sem.run_bind, h x (by simp), Result.andThen_ok, mapM_ok g k l (fun y hy => h y (by simp [hy])), Sem.run_pure, List.map_cons]

def Own (own : List (Nat × Nat × OO)) (w : World) : Prop := ∀ h b e cells, lk h own = some (b, .c e cells) → w.heap[b]? = some (.cells (dens cells).toArray e)

end
end Go.Sx
namespace Go.Sx
set_option linter.unusedSimpArgs false
set_option linter.unusedVariables false
open Go.RowKit

theorem dens_map_v (l : List Value) : dens (l.map .v) = l := by
  rw [dens_eq, List.map_map]
  have : (SV.den ∘ SV.v) = id := by funext y; simp [SV.den]
  simp [this]
theorem fieldAt_ok {P : Program} {w : World} {T : TypeId} {f b off o sz : Nat} {ag : Bool} {flds : List (Nat × Nat × Bool)} (hT : TK.fits P T flds .strct) (hf : nth flds f = some (o, sz, ag)) (hz : sz ≠ 0) :
    (Instr.fieldAt T (.pointer (some ⟨b, off, none⟩)) f).run P w = .ok (.pointer (some ⟨b, off + o, none⟩)) w := by
  obtain ⟨fs, h1, h2, h3⟩ := fits_strct hT
  have h4 := h2 f
  rw [← nth_eq, hf] at h4
  simp only [Option.bind_eq_some_iff, Option.map_eq_some_iff] at h4
  obtain ⟨g, h5, i, h6, d, h7, h8⟩ := h4
  simp only [Prod.mk.injEq] at h8
  obtain ⟨e1, e2, e3⟩ := h8
  simp only [Instr.fieldAt, Sem.run_bind, run_und w h1, Result.andThen_ok, h5, Instr.sureAddr, Sem.run_pure, fieldPlace, sizeOf, typeInfo, run_program, h6, e2]
  simp [hz, add_none, e1]
theorem indexAt_slice {P : Program} {w : World} {T e : TypeId} {te : TI} (hT : P.underlying T = some (.slice e)) (he : te.ok P e) {k : IntKind} {n : Int} {b off len cap : Nat} (h0 : 0 ≤ n) (h1 : n < (len : Int)) :
    (Instr.indexAt T (.slice (some ⟨b, off, none⟩) len cap) (.int k n)).run P w = .ok (.pointer (some ⟨b, off + n.toNat * te.size, none⟩)) w := by
  simp only [Instr.indexAt, asIntOf, Sem.run_bind, Sem.run_pure, Result.andThen_ok, run_und w hT]
  rw [if_pos ⟨h0, h1⟩]
  simp only [Sem.run_bind, run_size w he, Result.andThen_ok, Sem.run_pure, add_none]
theorem indexAt_array {P : Program} {w : World} {T e : TypeId} {te : TI} {len : Nat} (hT : P.underlying T = some (.array len e)) (he : te.ok P e) {k : IntKind} {n : Int} {b off : Nat} (h0 : 0 ≤ n) (h1 : n < (len : Int)) :
    (Instr.indexAt T (.pointer (some ⟨b, off, none⟩)) (.int k n)).run P w = .ok (.pointer (some ⟨b, off + n.toNat * te.size, none⟩)) w := by
  simp only [Instr.indexAt, asIntOf, Sem.run_bind, Sem.run_pure, Result.andThen_ok, run_und w hT, Instr.sureAddr]
  rw [if_pos ⟨h0, h1⟩]
  simp only [Sem.run_bind, run_size w he, Result.andThen_ok, Sem.run_pure, add_none]

section
variable {P : Program} {ty : TypeId → Option TI} {sl : List (Nat × SV)} {own : List (Nat × Nat × OO)} {a : Act} {w : World} {dst : Option Tmp} {type : TypeId} {pos : String} {after : Array Edge} {guard : Option (Nat × Bool)} {v : SV}

theorem q_move (hS : Slots sl a) {x : Operand} (h : opQ ty sl own (.move x) = some v) : (execOp a.eval ⟨dst, .move x, type, pos, after, guard⟩).run P w = .ok (.value v.den) w := by
  simp only [opQ] at h
  simp [execOp, ev_ok hS h]
theorem q_assign (hS : Slots sl a) {x : Operand} (h : opQ ty sl own (.assign x) = some v) : (execOp a.eval ⟨dst, .assign x, type, pos, after, guard⟩).run P w = .ok (.value v.den) w := by
  simp only [opQ] at h
  simp [execOp, ev_ok hS h]
theorem q_pick (hS : Slots sl a) {c x y : Operand} (h : opQ ty sl own (.pick c x y) = some v) : (execOp a.eval ⟨dst, .pick c x y, type, pos, after, guard⟩).run P w = .ok (.value v.den) w := by
  simp only [opQ] at h
  split at h
  · rename_i hc; simp [execOp, ev_ok hS h, ev_ok hS hc, SV.den, asBool]
  · rename_i hc; simp [execOp, ev_ok hS h, ev_ok hS hc, SV.den, asBool]
  · cases h
theorem q_binOp (tyok : ∀ T i, ty T = some i → i.ok P T) (hS : Slots sl a) {op : BinOp} {T T' : TypeId} {x y : Operand} (h : opQ ty sl own (.binOp op T x y T') = some v) : (execOp a.eval ⟨dst, .binOp op T x y T', type, pos, after, guard⟩).run P w = .ok (.value v.den) w := by
  simp only [opQ] at h
  split at h
  · rename_i k m k' n hx hy
    simp only [Option.map_eq_some_iff] at h
    obtain ⟨z, hz, h⟩ := h; subst h
    have e1 := ev_ok hS hx
    have e2 := ev_ok hS hy
    simp only [SV.den] at e1 e2
    have key : (do eqGuard op T x y (.int k m) (.int k' n); binOp op T (.int k m) (.int k' n) : Sem Value).run P w = .ok z w := by
      split at hz
      · exact binConst_ok hz P T x y w
      · exact binInt_ok hz P T x y w
    simp only [execOp, e1, e2]
    rw [Sem.run_bind, key]
    simp [SV.den]
  · rename_i m n hx hy
    simp only [Option.map_eq_some_iff] at h
    obtain ⟨z, hz, h⟩ := h; subst h
    have e1 := ev_ok hS hx
    have e2 := ev_ok hS hy
    simp only [SV.den] at e1 e2
    simp only [execOp, e1, e2]
    rw [Sem.run_bind, binStr_ok hz P T x y w]
    simp [SV.den]
  · rename_i p q _ _ hx hy
    split at h
    · rename_i sz by' ze fl m n hT hp hq
      simp only [Option.map_eq_some_iff] at h
      obtain ⟨z, hz, h⟩ := h; subst h
      have e1 := ev_ok hS hx
      have e2 := ev_ok hS hy
      rw [SV.bool?_ok hp] at e1
      rw [SV.bool?_ok hq] at e2
      have hb := (tyok _ _ hT).k
      simp only [TK.fits] at hb
      simp only [execOp, e1, e2]
      rw [Sem.run_bind, binBool_ok hz hb x y w]
      simp [SV.den]
    · cases h
  · cases h
theorem q_unOp (hS : Slots sl a) {op : UnOp} {T : TypeId} {x : Operand} (h : opQ ty sl own (.unOp op T x) = some v) : (execOp a.eval ⟨dst, .unOp op T x, type, pos, after, guard⟩).run P w = .ok (.value v.den) w := by
  simp only [opQ] at h
  split at h
  · rename_i hx
    split at h
    · cases h; simp [execOp, ev_ok hS hx, SV.den, Op.unary, Op.intArith]
    · cases h
  · rename_i hx
    split at h
    · cases h; simp [execOp, ev_ok hS hx, SV.den, Op.unary]
    · cases h
  · rename_i hx
    split at h
    · cases h; simp [execOp, ev_ok hS hx, SV.den, Op.unary]
    · cases h
  · cases h
theorem q_convert (tyok : ∀ T i, ty T = some i → i.ok P T) (hS : Slots sl a) {T U : TypeId} {x : Operand} (h : opQ ty sl own (.convert T U x) = some v) : (execOp a.eval ⟨dst, .convert T U x, type, pos, after, guard⟩).run P w = .ok (.value v.den) w := by
  simp only [opQ] at h
  split at h
  · rename_i ti k sz by' ze fl k' n h1 h2 hx
    cases h
    obtain ⟨d, hd, -⟩ := (tyok _ _ h1).agg
    have hu := (tyok _ _ h2).k
    simp only [TK.fits] at hu
    simp only [execOp, ev_ok hS hx, SV.den, convert, Sem.run_bind, run_und w hd, run_und w hu, Result.andThen_ok]
    cases d <;> simp [Conv.intToInt]
  · rename_i ti sz by' ze fl n h1 h2 hx
    cases h
    obtain ⟨d, hd, -⟩ := (tyok _ _ h1).agg
    have hu := (tyok _ _ h2).k
    simp only [TK.fits] at hu
    simp only [execOp, ev_ok hS hx, SV.den, convert, Sem.run_bind, run_und w hd, run_und w hu, Result.andThen_ok]
    cases d <;> simp
  · cases h
theorem q_fieldAddr (tyok : ∀ T i, ty T = some i → i.ok P T) (hS : Slots sl a) {T : TypeId} {x : Operand} {f : Nat} (h : opQ ty sl own (.fieldAddr T x f) = some v) : (execOp a.eval ⟨dst, .fieldAddr T x f, type, pos, after, guard⟩).run P w = .ok (.value v.den) w := by
  simp only [opQ] at h
  split at h
  · rename_i h1 hx
    split at h
    · cases h
    · rename_i o sz ag hn hf
      cases h
      have hT := (tyok _ _ h1).k
      simp only [execOp, ev_ok hS hx, SV.den]
      rw [Sem.run_bind, fieldAt_ok hT hf hn]
      simp
    · cases h
  · rename_i h1 hx
    split at h
    · cases h
    · rename_i o sz ag hn hf
      cases h
      have hT := (tyok _ _ h1).k
      simp only [execOp, ev_ok hS hx, SV.den]
      rw [Sem.run_bind, fieldAt_ok hT hf hn]
      simp
    · cases h
  · cases h
theorem q_field (tyok : ∀ T i, ty T = some i → i.ok P T) (hS : Slots sl a) {T : TypeId} {x : Operand} {f : Nat} (h : opQ ty sl own (.field T x f) = some v) : (execOp a.eval ⟨dst, .field T x f, type, pos, after, guard⟩).run P w = .ok (.value v.den) w := by
  simp only [opQ] at h
  split at h
  · rename_i h1 hx
    split at h
    · rename_i o sz ag hf
      obtain ⟨fs, g1, g2, g3⟩ := fits_strct (tyok _ _ h1).k
      have h4 := g2 f
      simp only at h4
      rw [← nth_eq, hf] at h4
      simp only [Option.bind_eq_some_iff, Option.map_eq_some_iff] at h4
      obtain ⟨g, h5, i, h6, d, h7, h8⟩ := h4
      simp only [Prod.mk.injEq] at h8
      obtain ⟨e1, e2, e3⟩ := h8
      subst e1 e2 e3
      simp only [execOp, ev_ok hS hx, SV.den, Instr.field, Sem.run_bind, run_und w g1, Result.andThen_ok, h5, asAgg, Sem.run_pure, part_ok h7 h6 h]
    · cases h
  · cases h
theorem q_load (tyok : ∀ T i, ty T = some i → i.ok P T) (hS : Slots sl a) (hO : Own own w) {T : TypeId} {x : Operand} (h : opQ ty sl own (.load T x) = some v) : (execOp a.eval ⟨dst, .load T x, type, pos, after, guard⟩).run P w = .ok (.value v.den) w := by
  simp only [opQ] at h
  split at h
  · rename_i ti k b off h1 hx
    split at h
    · rename_i b' e cells hk
      split at h
      · rename_i hb; subst hb
        have hm := hO _ _ _ _ hk
        simp only [execOp, ev_ok hS hx, SV.den, Instr.loadAt, Instr.sureAddr, Sem.run_bind, Sem.run_pure, Result.andThen_ok, ld_ok (tyok _ _ h1) hm h]
      · cases h
    · cases h
  · cases h
theorem q_nilCheck (hS : Slots sl a) {x : Operand} (h : opQ ty sl own (.nilCheck x) = some v) : (execOp a.eval ⟨dst, .nilCheck x, type, pos, after, guard⟩).run P w = .ok (.value v.den) w := by
  simp only [opQ] at h
  split at h
  · rename_i hx; cases h; simp [execOp, ev_ok hS hx, SV.den]
  · rename_i hx; cases h; simp [execOp, ev_ok hS hx, SV.den]
  · cases h
theorem q_makeInterface (tyok : ∀ T i, ty T = some i → i.ok P T) (hS : Slots sl a) {T : TypeId} {x : Operand} (h : opQ ty sl own (.makeInterface T x) = some v) : (execOp a.eval ⟨dst, .makeInterface T x, type, pos, after, guard⟩).run P w = .ok (.value v.den) w := by
  simp only [opQ] at h
  split at h
  · cases h
  · cases h
  · rename_i ti y h1 hx n1 n2
    cases h
    have hT := (tyok _ _ n1).k
    simp only [execOp, ev_ok hS n2, SV.den, Instr.makeInterface]
    have : ∃ d, P.underlying T = some d ∧ ∀ m, d ≠ .interface m := by
      obtain ⟨k, sz, by', ze, fl⟩ := ti
      cases k <;> simp only [TK.fits] at hT
      all_goals first
        | exact absurd rfl (h1 _ _ _ _)
        | exact absurd rfl (hx _ _ _ _)
        | exact ⟨_, hT, by simp⟩
        | (obtain ⟨_, hT, _⟩ := hT; exact ⟨_, hT, by simp⟩)
        | (obtain ⟨_, _, _, hT⟩ := hT; exact ⟨_, hT, by simp⟩)
    obtain ⟨d, hd, hn⟩ := this
    simp only [Sem.run_bind, run_und w hd, Result.andThen_ok]
    cases d <;> simp_all
  · cases h
theorem q_makeFunc (hS : Slots sl a) {fn : Fn} {x y : Array Operand} (h : opQ ty sl own (.makeFunc fn x y) = some v) : (execOp a.eval ⟨dst, .makeFunc fn x y, type, pos, after, guard⟩).run P w = .ok (.value v.den) w := by
  simp only [opQ] at h
  split at h
  · rename_i p q hp hq
    cases h
    have e1 : x.map a.eval = (dens p).toArray := by apply Array.ext'; rw [Array.toList_map]; exact evs_ok hS hp
    have e2 : y.map a.eval = (dens q).toArray := by apply Array.ext'; rw [Array.toList_map]; exact evs_ok hS hq
    simp [execOp, Instr.makeFunc, SV.den, e1, e2]
  · cases h
theorem q_extract (hS : Slots sl a) {x : Operand} {n : Nat} (h : opQ ty sl own (.extract x n) = some v) : (execOp a.eval ⟨dst, .extract x n, type, pos, after, guard⟩).run P w = .ok (.value v.den) w := by
  simp only [opQ] at h
  split at h
  · rename_i l hx
    rw [nth_eq] at h
    simp only [execOp, ev_ok hS hx, SV.den, Instr.extract]
    simp [dens_eq, h]
  · cases h
theorem q_build (tyok : ∀ T i, ty T = some i → i.ok P T) (hS : Slots sl a) {T : TypeId} {ps : Array (Nat × Operand)} (h : opQ ty sl own (.build T ps) = some v) : (execOp a.eval ⟨dst, .build T ps, type, pos, after, guard⟩).run P w = .ok (.value v.den) w := by
  simp only [opQ] at h
  split at h
  · rename_i sz by' zero flds qs h1 hq
    simp only [Option.map_eq_some_iff] at h
    obtain ⟨l, hl, h⟩ := h; subst h
    obtain ⟨fs, g1, g2, g3⟩ := fits_strct (tyok _ _ h1).k
    obtain ⟨z, hz, hzc⟩ := run_zero w (tyok _ _ h1)
    simp only at hzc g2 g3
    have hp := evParts_ok hS hq
    have hfill := fill_ok _ _ _ hl
    rw [dens_map_v] at hfill
    have hmap : (fs.mapM fun (f : Field) => (do pure (f.offset, ← sizeOf f.type) : Sem (Nat × Nat))).run P w = .ok (fs.map fun f => (f.offset, ((P.info? f.type).map (·.size)).getD 0)) w := by
      rw [Array.mapM_eq_mapM_toList]
      have hall : ∀ f ∈ fs.toList, (do pure (f.offset, ← sizeOf f.type) : Sem (Nat × Nat)).run P w = .ok (f.offset, ((P.info? f.type).map (·.size)).getD 0) w := by
        intro f hf
        obtain ⟨j, hj, rfl⟩ := List.getElem_of_mem hf
        have := g2 j
        have hlt : j < fs.size := by simpa using hj
        rw [Array.getElem?_eq_getElem hlt, List.getElem?_eq_getElem (by omega)] at this
        simp only [Option.bind_some, Option.bind_eq_some_iff, Option.map_eq_some_iff] at this
        obtain ⟨i, h6, _⟩ := this
        simp only [Array.getElem_toList] 
        simp [sizeOf, typeInfo, h6]
      simp only [Sem.run_map, mapM_ok _ _ fs.toList hall, Result.andThen_ok]
      congr 1
      apply Array.ext'
      simp
    have hplaces : ∀ j, (fs.map fun f => (f.offset, ((P.info? f.type).map (·.size)).getD 0))[j]? = (nth flds j).map fun q => (q.1, q.2.1) := by
      intro j
      rw [nth_eq, ← g2 j, Array.getElem?_map]
      rcases Nat.lt_or_ge j fs.size with hj | hj
      · have := g2 j
        rw [Array.getElem?_eq_getElem hj, List.getElem?_eq_getElem (by omega)] at this
        simp only [Option.bind_some, Option.bind_eq_some_iff, Option.map_eq_some_iff] at this
        obtain ⟨i, h6, d, h7, _⟩ := this
        rw [Array.getElem?_eq_getElem hj]
        simp [h6, h7]
      · simp [Array.getElem?_eq_none hj]
    simp only [execOp, Instr.build, Sem.run_bind, hz, run_und w g1, Result.andThen_ok, hmap, hzc]
    have e : (ps.map fun x => (x.1, a.eval x.2)).toList = qs.map fun x => (x.1, x.2.den) := by rw [Array.toList_map]; exact hp
    have hfun : (fun j => (fs.map fun f => (f.offset, ((P.info? f.type).map (·.size)).getD 0))[j]?) = fun j => (nth flds j).map fun q => (q.1, q.2.1) := funext hplaces
    have e' : (ps.map fun (x : Nat × Operand) => match x with | (i, x) => (i, a.eval x)).toList = qs.map fun x => (x.1, x.2.den) := e
    rw [e', hfun, hfill]
    simp [SV.den]
  · rename_i n e sz by' zero flds qs h1 hq
    split at h
    · rename_i te h2
      simp only [Option.map_eq_some_iff] at h
      obtain ⟨l, hl, h⟩ := h; subst h
      have g1 := (tyok _ _ h1).k
      simp only [TK.fits] at g1
      obtain ⟨z, hz, hzc⟩ := run_zero w (tyok _ _ h1)
      simp only at hzc
      have hp := evParts_ok hS hq
      have hfill := fill_ok _ _ _ hl
      rw [dens_map_v] at hfill
      simp only [execOp, Instr.build, Sem.run_bind, hz, run_und w g1, Result.andThen_ok, hzc, run_size w (tyok _ _ h2)]
      have e' : (ps.map fun (x : Nat × Operand) => match x with | (i, x) => (i, a.eval x)).toList = qs.map fun x => (x.1, x.2.den) := by rw [Array.toList_map]; exact hp
      rw [e', hfill]
      simp [SV.den]
    · cases h
  · cases h

theorem q_indexAddr (tyok : ∀ T i, ty T = some i → i.ok P T) (hS : Slots sl a) {T : TypeId} {x ix : Operand} (h : opQ ty sl own (.indexAddr T x ix) = some v) : (execOp a.eval ⟨dst, .indexAddr T x ix, type, pos, after, guard⟩).run P w = .ok (.value v.den) w := by
  unfold opQ at h
  split at h <;> try (cases h; done)
  all_goals (rename_i hop; first | (cases hop; done) | skip)
  cases hop
  split at h
  · rename_i h1 hx
    split at h
    · rename_i te h2
      split at h
      · rename_i hb
        cases h
        have g1 := (tyok _ _ h1).k
        simp only [TK.fits] at g1
        have e1 := ev_ok hS hx
        simp only [SV.den] at e1
        simp only [execOp, e1, SV.den]
        rw [Sem.run_bind]
        rw [show a.eval (.const (.int _ _)) = .int _ _ from rfl, indexAt_slice g1 (tyok _ _ h2) hb.1 hb.2]
        simp
      · cases h
    · cases h
  · rename_i h1 hx
    split at h
    · rename_i te h2
      split at h
      · rename_i hb
        cases h
        have g1 := (tyok _ _ h1).k
        simp only [TK.fits] at g1
        have e1 := ev_ok hS hx
        simp only [SV.den] at e1
        simp only [execOp, e1, SV.den]
        rw [Sem.run_bind]
        rw [show a.eval (.const (.int _ _)) = .int _ _ from rfl, indexAt_array g1 (tyok _ _ h2) hb.1 hb.2]
        simp
      · cases h
    · cases h
  · cases h
theorem q_call (tyok : ∀ T i, ty T = some i → i.ok P T) (hS : Slots sl a) {c : Call} (h : opQ ty sl own (.call c) = some v) : (execOp a.eval ⟨dst, .call c, type, pos, after, guard⟩).run P w = .ok (.value v.den) w := by
  unfold opQ at h
  split at h <;> try (cases h; done)
  all_goals (rename_i hop; first | (cases hop; done) | skip)
  · rename_i args tys
    cases hop
    split at h
    · rename_i x T hargs htys
      have ea : args = #[x] := by apply Array.ext'; simpa using hargs
      have et : tys = #[T] := by apply Array.ext'; simpa using htys
      subst ea et
      split at h
      · rename_i h1 hx
        cases h
        have g1 := (tyok _ _ h1).k
        simp only [TK.fits] at g1
        simp [execOp, resolve, invoke, builtin, Builtin.len_, ev_ok hS hx, SV.den, run_und w g1, goInt]
      · rename_i h1 hx
        cases h
        have g1 := (tyok _ _ h1).k
        simp only [TK.fits] at g1
        simp [execOp, resolve, invoke, builtin, Builtin.len_, ev_ok hS hx, SV.den, run_und w g1, goInt]
      · rename_i h1 hx
        cases h
        have g1 := (tyok _ _ h1).k
        simp only [TK.fits] at g1
        simp [execOp, resolve, invoke, builtin, Builtin.len_, ev_ok hS hx, SV.den, run_und w g1, goInt]
      · cases h
    · cases h
  · rename_i args tys
    cases hop
    split at h
    · rename_i x y hargs
      have ea : args = #[x, y] := by apply Array.ext'; simpa using hargs
      subst ea
      split at h
      · rename_i hx hy
        cases h
        simp [execOp, resolve, invoke, builtin, Builtin.min_, Builtin.min2, ev_ok hS hx, ev_ok hS hy, SV.den]
      · cases h
    · cases h
  · rename_i args tys
    cases hop
    split at h
    · rename_i x y hargs
      have ea : args = #[x, y] := by apply Array.ext'; simpa using hargs
      subst ea
      split at h
      · rename_i hx hy
        cases h
        simp [execOp, resolve, invoke, builtin, Builtin.max_, Builtin.max2, ev_ok hS hx, ev_ok hS hy, SV.den]
      · cases h
    · cases h

theorem q_all (tyok : ∀ T i, ty T = some i → i.ok P T) (hS : Slots sl a) (hO : Own own w) {o : Oper} (h : opQ ty sl own o.op = some v) : (execOp a.eval o).run P w = .ok (.value v.den) w := by
  obtain ⟨dst, op, type, pos, after, guard⟩ := o
  cases op
  case move => exact q_move hS h
  case assign => exact q_assign hS h
  case pick => exact q_pick hS h
  case binOp => exact q_binOp tyok hS h
  case unOp => exact q_unOp hS h
  case convert => exact q_convert tyok hS h
  case fieldAddr => exact q_fieldAddr tyok hS h
  case field => exact q_field tyok hS h
  case load => exact q_load tyok hS hO h
  case nilCheck => exact q_nilCheck hS h
  case makeInterface => exact q_makeInterface tyok hS h
  case makeFunc => exact q_makeFunc hS h
  case extract => exact q_extract hS h
  case build => exact q_build tyok hS h
  case indexAddr => exact q_indexAddr tyok hS h
  case call => exact q_call tyok hS h
  all_goals (simp [opQ] at h)
end
end Go.Sx
namespace Go.Sx
set_option linter.unusedSimpArgs false
set_option linter.unusedVariables false
open Go.RowKit

theorem rep_ok (z : List Value) (hz : z ≠ []) : ∀ n, ((Array.range (n * z.length)).map (fun i => z.toArray[i % z.toArray.size]!)).toList = rep z n := by
  intro n
  have hl : 0 < z.length := List.length_pos_iff.2 hz
  induction n with
  | zero => simp [rep]
  | succ n ih =>
    simp only [Array.toList_map, Array.toList_range] at ih ⊢
    rw [show (n + 1) * z.length = z.length + n * z.length by rw [Nat.add_mul]; omega, List.range_add, List.map_append, List.map_map, rep, ← ih]
    congr 1
    · apply List.ext_getElem
      · simp
      · intro i h1 h2
        simp only [List.getElem_map, List.getElem_range, List.size_toArray]
        rw [Nat.mod_eq_of_lt h2]
        simp [h2]
    · apply List.map_congr_left
      intro i _
      simp [Nat.add_mod_left]


theorem semAt_run {P : Program} {ro : Option Nat} {ρ : Operand → Value} {o : Oper} {w w' : World} {nx : Next} (hrun : (execOp ρ o).run P w = .ok nx w') (hn : ∀ d, nx ≠ .defer d) : (o.semAt ro ρ).run P w = .ok nx w' := by
  rw [Oper.semAt_eq]
  · exact hrun
  · intro c hc
    obtain ⟨dst, op, type, pos, after, guard⟩ := o
    simp only at hc
    subst hc
    simp only [execOp, Sem.run_bind] at hrun
    cases hr : (resolve ρ c type).run P w with
    | ok d w1 => rw [hr] at hrun; simp at hrun; exact hn _ hrun.1.symm
    | halt x w1 => rw [hr] at hrun; simp [Result.andThen] at hrun

section
variable {P : Program} {ro : Option Nat} {C : Ctx} {K : List KI} {R : Array Oper} {l : List Oper} {o : Oper} {a : Act} {w w' : World}
theorem op_value {v : Value} (hrun : (execOp a.eval o).run P w = .ok (.value v) w') {Q : Exit → Act → World → Prop} {next : Act → World → Prop} (h : next (a.put o.dst v) w') : o.wpIn (FR ro) 0 P a w next Q := by
  refine ⟨fun _ _ => trivial, ?_⟩
  have := semAt_run (ro := ro) hrun (by simp)
  show o.uponIn _ _ _ _ _ _ ((o.semAt ro a.eval).run P w)
  rw [this]; exact h
theorem op_skip (hrun : (execOp a.eval o).run P w = .ok .skip w') {Q : Exit → Act → World → Prop} {next : Act → World → Prop} (h : next (a.put o.dst undef) w') : o.wpIn (FR ro) 0 P a w next Q := by
  refine ⟨fun _ _ => trivial, ?_⟩
  have := semAt_run (ro := ro) hrun (by simp)
  show o.uponIn _ _ _ _ _ _ ((o.semAt ro a.eval).run P w)
  rw [this]; exact h
theorem op_enter {f : FuncId} {args : Array Value} (hrun : (execOp a.eval o).run P w = .ok (.enter f args) w') {Q : Exit → Act → World → Prop} {next : Act → World → Prop}
    (h : Calls P f args w' fun e w'' => ∃ v, e = .returned v ∧ next (a.put o.dst v) w'') : o.wpIn (FR ro) 0 P a w next Q := by
  refine ⟨fun _ _ => trivial, ?_⟩
  have := semAt_run (ro := ro) hrun (by simp)
  show o.uponIn _ _ _ _ _ _ ((o.semAt ro a.eval).run P w)
  rw [this]
  refine ⟨FR_depth _ _, callsFR.2 (h.mono ?_)⟩
  rintro e w'' ⟨v, rfl, hv⟩
  exact hv

theorem K_op (hg : o.guard = none) (h : o.wpIn (FR C.ro) 0 C.P a w (fun a' w' => wpK C.P C.ro C.Q (.ops R l :: K) .normal a' w') (wpK C.P C.ro C.Q K)) : wpK C.P C.ro C.Q (.ops R (o :: l) :: K) .normal a w := by
  simp only [wpK, wpListIn] at h ⊢
  rw [if_pos (by simp [Region.wanted, hg])]
  exact h
theorem K_value (hg : o.guard = none) {v : Value} (hrun : (execOp a.eval o).run C.P w = .ok (.value v) w') (h : wpK C.P C.ro C.Q (.ops R l :: K) .normal (a.put o.dst v) w') : wpK C.P C.ro C.Q (.ops R (o :: l) :: K) .normal a w :=
  K_op hg (op_value hrun h)
theorem K_skip (hg : o.guard = none) (hrun : (execOp a.eval o).run C.P w = .ok .skip w') (h : wpK C.P C.ro C.Q (.ops R l :: K) .normal (a.put o.dst undef) w') : wpK C.P C.ro C.Q (.ops R (o :: l) :: K) .normal a w :=
  K_op hg (op_skip hrun h)
theorem K_enter (hg : o.guard = none) {f : FuncId} {args : Array Value} (hrun : (execOp a.eval o).run C.P w = .ok (.enter f args) w') (h : Calls C.P f args w' fun e w'' => ∃ v, e = .returned v ∧ wpK C.P C.ro C.Q (.ops R l :: K) .normal (a.put o.dst v) w'') : wpK C.P C.ro C.Q (.ops R (o :: l) :: K) .normal a w :=
  K_op hg (op_enter hrun h)
end

section
variable {C : Ctx} {s : St} {a : Act} {w : World}

theorem Mem.owns {C : Ctx} {own : List (Nat × Nat × OO)} {G : Hp} {w : World} (h : Mem C own G w) : Own own w := fun k b e cells q => (h.own k b _ q).1

theorem store_ok (hS : Sat C s a w) {o : Oper} {own' : List (Nat × Nat × OO)} (h : opStore C.ty s.sl s.own o.op = some own') : ∃ w', (execOp a.eval o).run C.P w = .ok .skip w' ∧ Mem C own' s.G w' := by
  obtain ⟨dst, op, type, pos, after, guard⟩ := o
  cases op
  case store T x y =>
    simp only [opStore] at h
    split at h
    · rename_i ti k b off z h1 hx hy
      split at h
      · rename_i vs hcs
        split at h
        · rename_i b' e cells hk
          split at h
          · rename_i hb
            obtain ⟨hb, hlen, hone⟩ := hb
            subst hb
            simp only [Option.map_eq_some_iff] at h
            obtain ⟨cells', hl, h⟩ := h; subst h
            have hm : w.heap[b']? = some (.cells (dens cells).toArray e) := (hS.mem.own _ _ _ hk).1
            have hc := SV.cs_ok hcs
            have hl' := lay_map SV.den _ _ _ _ hl
            rw [← dens_eq, ← dens_eq, ← dens_eq] at hl'
            have hsz : (dens vs).toArray.size = ti.size := by simp [dens_eq, hlen]
            refine ⟨setBlk w b' (.cells (dens cells').toArray e), ?_, hS.mem.set hk⟩
            simp only [execOp, ev_ok hS.sl hx, ev_ok hS.sl hy, SV.den, Instr.storeAt, Instr.sureAddr, storeVar, Sem.run_bind, Sem.run_pure, Result.andThen_ok, run_size w (C.tyok _ _ h1), hc, hsz]
            simp only [ne_eq, not_true_eq_false, if_false, Sem.run_pure, Result.andThen_ok]
            rw [run_storeCells (dens vs) 0 w (dens cells) (dens cells') hm ?_ (by simpa using hl')]
            · simp
            · intro u hu
              rw [dens_eq, List.mem_map] at hu
              obtain ⟨q, hq, rfl⟩ := hu
              exact SV.one_ok (List.all_eq_true.1 hone q hq)
          · cases h
        · cases h
      · cases h
    · cases h
  all_goals (simp [opStore] at h)

theorem alloc_ok (hS : Sat C s a w) {o : Oper} {e : TypeId} {cells : List SV} {mk : Nat → Nat → SV} (h : opAlloc C.ty s.sl o.op = some (e, cells, mk)) (k : Nat) :
    (execOp a.eval o).run C.P w = .ok (.value (mk k w.heap.size).den) (w.alloc (.cells (dens cells).toArray e)) := by
  obtain ⟨dst, op, type, pos, after, guard⟩ := o
  cases op
  case alloc T =>
    simp only [opAlloc, Option.map_eq_some_iff] at h
    obtain ⟨ti, h1, h⟩ := h; cases h
    obtain ⟨z, hz, hzc⟩ := run_zero w (C.tyok _ _ h1)
    simp only [execOp, Instr.alloc, Sem.run_bind, hz, Result.andThen_ok, newVar, newRow, run_newObj, Sem.run_pure, hzc]
    simp [SV.den, dens_map_v]
  case box T x =>
    simp only [opAlloc] at h
    split at h
    · rename_i y hy
      simp only [Option.map_eq_some_iff] at h
      obtain ⟨l, hl, h⟩ := h; cases h
      have hc := SV.cs_ok hl
      simp only [execOp, Instr.box, Sem.run_bind, ev_ok hS.sl hy, Result.andThen_ok, newVar, newRow, run_newObj, Sem.run_pure, hc]
      simp [SV.den]
    · cases h
  case buildSlice T len ps =>
    simp only [opAlloc] at h
    split at h
    · rename_i e sz by' ze fl qs h1 hq
      split at h
      · rename_i te h2
        split at h
        · rename_i hle
          simp only [Option.map_eq_some_iff] at h
          obtain ⟨l, hl, h⟩ := h; cases h
          have g1 := (C.tyok _ _ h1).k
          simp only [TK.fits] at g1
          have hp := evParts_ok hS.sl hq
          have hfill := fill_ok _ _ _ hl
          obtain ⟨z, hz, hzc⟩ := run_zero w (C.tyok _ _ h2)
          have hlen := (C.tyok _ _ h2).len
          have e' : (ps.map fun (x : Nat × Operand) => match x with | (i, x) => (i, a.eval x)).toList = qs.map fun x => (x.1, x.2.den) := by rw [Array.toList_map]; exact hp
          have hdr : ∀ n, dens (rep (te.zero.map .v) n) = rep te.zero n := by
            intro n
            induction n with
            | zero => simp [rep, dens]
            | succ n ih => simp only [rep, dens_eq, List.map_append] at ih ⊢; rw [ih, ← dens_eq, dens_map_v]
          rw [hdr] at hfill
          simp only [execOp, Instr.buildSlice, Sem.run_bind, run_und w g1, Result.andThen_ok, run_size w (C.tyok _ _ h2)]
          have h2p : ¬ (len * te.size > 2 ^ 24) := by omega
          simp only [h2p, if_false, Sem.run_pure, Result.andThen_ok]
          by_cases h0 : len * te.size = 0
          · simp only [h0, if_true, Sem.run_pure, Result.andThen_ok, e']
            have : rep te.zero len = [] := by
              rcases Nat.mul_eq_zero.1 h0 with q | q
              · subst q; rfl
              · rw [q] at hlen
                have : te.zero = [] := List.length_eq_zero_iff.1 hlen
                rw [this]; clear hl hfill hle h0 h2p; induction len with
                | zero => rfl
                | succ n ih => simp [rep, ih]
            rw [this] at hfill
            have hr : ∀ g : Nat → Value, (Array.range 0).map g = #[] := by intro g; apply Array.ext'; simp
            rw [Sem.run_bind, Sem.run_pure, Result.andThen_ok, hr, hfill]
            simp only [newRow, Sem.run_bind, run_newObj, Result.andThen_ok, Sem.run_pure]
            simp [SV.den]
          · simp only [h0, if_false, Sem.run_bind, hz, Result.andThen_ok, Sem.run_pure, e', hzc]
            have hne : te.zero ≠ [] := by intro q; rw [q] at hlen; simp at hlen; rw [← hlen] at h0; simp at h0
            have hr : (Array.range (len * te.size)).map (fun i => te.zero.toArray[i % te.zero.toArray.size]!) = (rep te.zero len).toArray := by
              apply Array.ext'
              rw [← hlen, rep_ok _ hne]
            rw [hr, hfill]
            simp only [newRow, Sem.run_bind, run_newObj, Result.andThen_ok, Sem.run_pure]
            simp [SV.den]
        · cases h
      · cases h
    · cases h
  all_goals (simp [opAlloc] at h)
end

def putS (d : Option Tmp) (x : SV) (sl : List (Nat × SV)) : List (Nat × SV) :=
  match d with
  | some d => stk d x sl
  | none => sl
def dOk (nt : Nat) : Option Tmp → Bool
  | some d => decide (d < nt)
  | none => true

theorem Sat.put {C : Ctx} {s : St} {a : Act} {w w' : World} (hS : Sat C s a w) {d : Option Tmp} (hd : dOk C.nt d = true) (x : SV) {own' : List (Nat × Nat × OO)} {G' : Hp} (hm : Mem C own' G' w') :
    Sat C ⟨putS d x s.sl, own', G', s.df⟩ (a.put d x.den) w' := by
  cases d with
  | none => exact ⟨hS.sl, hS.nt, hS.df, hm⟩
  | some d =>
    simp only [dOk, decide_eq_true_eq] at hd
    refine ⟨fun i y hy => ?_, by simp [Act.put, hS.nt], hS.df, hm⟩
    simp only [putS, lk_stk] at hy
    simp only [Act.put]
    split at hy
    · rename_i e; subst e; cases hy
      rw [Array.getElem?_setIfInBounds_self_of_lt (by rw [hS.nt]; exact hd)]
    · rename_i e
      rw [Array.getElem?_setIfInBounds_ne (Ne.symm e)]
      exact hS.sl i y hy

def sx (ty : TypeId → Option TI) (nt mh : Nat) : Nat → List Nat → List KI → St → List KI × St
  | 0, _, K, s => (K, s)
  | _ + 1, _, [], s => ([], s)
  | n + 1, bs, .blk _ :: K, s => sx ty nt mh n bs K s
  | n + 1, bs, .code .skip :: K, s => sx ty nt mh n bs K s
  | n + 1, bs, .code (.label _) :: K, s => sx ty nt mh n bs K s
  | n + 1, bs, .code (.seq x y) :: K, s => sx ty nt mh n bs (.code x :: .code y :: K) s
  | n + 1, bs, .code (.block id x) :: K, s => sx ty nt mh n bs (.code x :: .blk id :: K) s
  | n + 1, bs, .code (.region id R false) :: K, s => sx ty nt mh n bs (.ops R R.toList :: K) s
  | n + 1, bs, .code (.exit id) :: K, s => match popTo id K with
    | some K' => sx ty nt mh n bs K' s
    | none => (.code (.exit id) :: K, s)
  | n + 1, bs, .code (.cond c x y) :: K, s => match ev s.sl c with
    | some (.b true) => sx ty nt mh n bs (.code x :: K) s
    | some (.b false) => sx ty nt mh n bs (.code y :: K) s
    | _ => (.code (.cond c x y) :: K, s)
  | n + 1, bs, .ops _ [] :: K, s => sx ty nt mh n bs K s
  | n + 1, bs, .ops R (⟨d, op, t, pos, aft, none⟩ :: l) :: K, s => match dOk nt d, opQ ty s.sl s.own op with
    | true, some r => sx ty nt mh n bs (.ops R l :: K) ⟨putS d r s.sl, s.own, s.G, s.df⟩
    | true, none => match opStore ty s.sl s.own op with
      | some own' => sx ty nt mh n bs (.ops R l :: K) ⟨putS d (.v undef) s.sl, own', s.G, s.df⟩
      | none => match opAlloc ty s.sl op, bs with
        | some r, b :: bs' => sx ty nt mh n bs' (.ops R l :: K) ⟨putS d (r.2.2 (fk mh s.own) b) s.sl, stk (fk mh s.own) (b, .c r.1 r.2.1) s.own, s.G, s.df⟩
        | _, _ => (.ops R (⟨d, op, t, pos, aft, none⟩ :: l) :: K, s)
    | false, _ => (.ops R (⟨d, op, t, pos, aft, none⟩ :: l) :: K, s)
  | n + 1, bs, .ops R (⟨d, op, t, pos, aft, some (j, want)⟩ :: l) :: K, s => match (R[j]?).bind (·.dst) with
    | some g => match lk g s.sl, dOk nt d with
      | some (.b u), true => match eqB u want with
        | true => sx ty nt mh n bs (.ops R (⟨d, op, t, pos, aft, none⟩ :: l) :: K) s
        | false => sx ty nt mh n bs (.ops R l :: K) ⟨putS d (.v undef) s.sl, s.own, s.G, s.df⟩
      | _, _ => (.ops R (⟨d, op, t, pos, aft, some (j, want)⟩ :: l) :: K, s)
    | none => (.ops R (⟨d, op, t, pos, aft, some (j, want)⟩ :: l) :: K, s)
  | _ + 1, _, K, s => (K, s)

section
variable {C : Ctx} {K : List KI} {s : St}

theorem go_op {R : Array Oper} {l : List Oper} {o : Oper} (hg : o.guard = none) (hd : dOk C.nt o.dst = true) {r : SV} (ho : opQ C.ty s.sl s.own o.op = some r)
    (h : SGo C (.ops R l :: K) ⟨putS o.dst r s.sl, s.own, s.G, s.df⟩) : SGo C (.ops R (o :: l) :: K) s := by
  intro a w hS
  have hrun := q_all C.tyok hS.sl hS.mem.owns ho
  exact K_value hg hrun (h _ _ (hS.put hd r hS.mem))

theorem go_st {R : Array Oper} {l : List Oper} {o : Oper} (hg : o.guard = none) (hd : dOk C.nt o.dst = true) {own' : List (Nat × Nat × OO)} (ho : opStore C.ty s.sl s.own o.op = some own')
    (h : SGo C (.ops R l :: K) ⟨putS o.dst (.v undef) s.sl, own', s.G, s.df⟩) : SGo C (.ops R (o :: l) :: K) s := by
  intro a w hS
  obtain ⟨w', hrun, hm⟩ := store_ok hS ho
  exact K_skip hg hrun (h _ _ (hS.put hd (.v undef) hm))

theorem go_new {R : Array Oper} {l : List Oper} {o : Oper} (hg : o.guard = none) (hd : dOk C.nt o.dst = true) {r : TypeId × List SV × (Nat → Nat → SV)} (ho : opAlloc C.ty s.sl o.op = some r)
    (h : ∀ b, SGo C (.ops R l :: K) ⟨putS o.dst (r.2.2 (fk C.mh s.own) b) s.sl, stk (fk C.mh s.own) (b, .c r.1 r.2.1) s.own, s.G, s.df⟩) : SGo C (.ops R (o :: l) :: K) s := by
  intro a w hS
  have hrun := alloc_ok hS (e := r.1) (cells := r.2.1) (mk := r.2.2) ho (fk C.mh s.own)
  exact K_value hg hrun (h _ _ _ (hS.put hd _ (hS.mem.alloc r.1 r.2.1)))

theorem yielded_ok {a : Act} {w : World} (hS : Sat C s a w) {R : Array Oper} {j g : Nat} {u : Bool} (hj : (R[j]?).bind (·.dst) = some g) (hl : ∃ x, lk g s.sl = some x ∧ x.den = .bool u) : yielded R a.tmps j = some u := by
  obtain ⟨x, h1, h2⟩ := hl
  have := hS.sl g x h1
  simp [yielded, hj, this, h2]

theorem go_guarded {R : Array Oper} {l : List Oper} {d : Option Tmp} {op : Op} {t : TypeId} {pos : String} {aft : Array Edge} {j g : Nat} {want : Bool}
    (hj : (R[j]?).bind (·.dst) = some g) (hd : dOk C.nt d = true) {u : Bool} (hu : lk g s.sl = some (.b u))
    (h1 : u = want → SGo C (.ops R (⟨d, op, t, pos, aft, none⟩ :: l) :: K) s)
    (h2 : u ≠ want → SGo C (.ops R l :: K) ⟨putS d (.v undef) s.sl, s.own, s.G, s.df⟩) : SGo C (.ops R (⟨d, op, t, pos, aft, some (j, want)⟩ :: l) :: K) s := by
  intro a w hS
  have hy := yielded_ok hS hj ⟨_, hu, rfl⟩
  simp only [wpK, wpListIn, Region.wanted, hy]
  by_cases e : u = want
  · have := h1 e a w hS
    simp only [wpK, wpListIn, Region.wanted, if_true] at this
    rw [if_pos (by simp [e])]
    exact this
  · have := h2 e _ _ (hS.put hd (.v undef) hS.mem)
    simp only [wpK] at this
    rw [if_neg (by simpa using e)]
    exact ⟨fun _ _ => trivial, this⟩

theorem go_if {c : Operand} {x y : Code} {z : SV} {t : Bool} (hc : ev s.sl c = some z) (hz : z.den = .bool t) (h1 : t = true → SGo C (.code x :: K) s) (h2 : t = false → SGo C (.code y :: K) s) :
    SGo C (.code (.cond c x y) :: K) s := by
  intro a w hS
  exact wpIn_cond_split (by rw [ev_ok hS.sl hc, hz]) (fun e => h1 e a w hS) (fun e => h2 e a w hS)

end
end Go.Sx
namespace Go.Sx
set_option linter.unusedSimpArgs false
set_option linter.unusedVariables false
open Go.RowKit

def Le (G G' : Hp) : Prop := ∀ b o, G b = some o → G' b = some o
theorem Le.refl (G : Hp) : Le G G := fun _ _ h => h
theorem Le.trans {A B C : Hp} (h : Le A B) (k : Le B C) : Le A C := fun b o e => k b o (h b o e)

def Ret (mb : List Nat) (w : World) (G : Hp) (φ : Value → Hp → Prop) : Ending → World → Prop :=
  fun e w' => ∃ v G', e = .returned v ∧ Grow mb w G w' G' ∧ φ v G'

def Pure (P : Program) (f : FuncId) (args : List Value) (G : Hp) (φ : Value → Hp → Prop) : Prop :=
  ∀ w, Has w G → Calls P f args.toArray w (Ret [] w G φ)

theorem Pure.mono {P : Program} {f : FuncId} {args : List Value} {G : Hp} {φ ψ : Value → Hp → Prop} (h : Pure P f args G φ) (hr : ∀ v G', Le G G' → φ v G' → ψ v G') : Pure P f args G ψ := fun w hw =>
  (h w hw).mono fun e w' ⟨v, G', he, hg, hφ⟩ => ⟨v, G', he, hg, hr v G' (fun b o e => hg.keep hw e) hφ⟩

theorem Grow.sub {mb : List Nat} {w0 w : World} {G0 G : Hp} (h : Grow [] w0 G0 w G) : Grow mb w0 G0 w G :=
  ⟨h.os, h.tape, h.output, h.size, fun k hk _ => h.blk k hk (by simp), h.has, h.old⟩

theorem Mem.call {C : Ctx} {own : List (Nat × Nat × OO)} {G G' : Hp} {w w' : World} (h : Mem C own G w) (hg : Grow [] w G w' G') : Mem C own G' w' := by
  refine ⟨fun k b o e => ?_, h.inj, h.grow.trans hg.sub⟩
  obtain ⟨f1, f2⟩ := h.own k b o e
  refine ⟨OO.holds_same f1 hg.fr fun g hb => hg.blk g (h.lt e hb) (by simp), fun g hb => ?_⟩
  obtain ⟨f3, f4, f5⟩ := f2 g hb
  exact ⟨by rw [hg.old g (h.ltm e hb)]; exact f3, f4, f5⟩

theorem Mem.has {C : Ctx} {own : List (Nat × Nat × OO)} {G : Hp} {w : World} (h : Mem C own G w) : Has w G := h.grow.has

def rv1 : Value → SV
  | .agg cs => .a (cs.toList.map .v)
  | x => .v x
def rv : Value → SV
  | .agg cs => .a (cs.toList.map .v)
  | .tuple vs => .t (vs.toList.map rv1)
  | x => .v x
theorem rv1_den (x : Value) : (rv1 x).den = x := by
  cases x <;> simp [rv1, SV.den, dens_map_v]
theorem rv_den (x : Value) : (rv x).den = x := by
  cases x <;> simp [rv, SV.den, dens_map_v]
  rename_i vs
  rw [dens_eq, List.map_map]
  have : (SV.den ∘ rv1) = id := by funext y; simp [rv1_den]
  rw [this]; simp

def canCall (P : Program) (f : FuncId) : Bool :=
  match P.funcs[f]? with
  | some fn => fn.body.isSome && !(fn.name == "runtime.NumGoroutine")
  | none => false
theorem callFunc_ok {P : Program} {f : FuncId} (h : canCall P f = true) (args : Array Value) (w : World) : (callFunc f args).run P w = .ok (.enter f args) w := by
  unfold canCall at h
  split at h
  · rename_i fn hf
    simp only [Bool.and_eq_true, Bool.not_eq_true'] at h
    obtain ⟨h1, h2⟩ := h
    have h3 : fn.body.isNone = false := by cases hb : fn.body <;> simp_all
    have h2' : ¬ (fn.name == "runtime.NumGoroutine") = true := by simp [h2]
    simp only [callFunc, Sem.run_bind, run_program, Result.andThen_ok, hf]
    rw [if_neg h2', h3]
    simp
  · cases h

section
variable {C : Ctx} {K : List KI} {s : St}



def keepK {α : Type} (ks : List Nat) (l : List (Nat × α)) : List (Nat × α) :=
  match ks with
  | [] => []
  | k :: ks => match lk k l with
    | some x => (k, x) :: keepK ks l
    | none => keepK ks l
theorem lk_keepK {α : Type} {ks : List Nat} {l : List (Nat × α)} {i : Nat} {x : α} (h : lk i (keepK ks l) = some x) : lk i l = some x := by
  induction ks with
  | nil => simp [keepK, lk] at h
  | cons k ks ih =>
    simp only [keepK] at h
    split at h
    · rename_i y hy
      simp only [lk] at h
      split at h
      · rename_i e; subst e; rw [hy]; exact h
      · exact ih h
    · exact ih h

theorem go_keep (ks hs : List Nat) (h : SGo C K ⟨keepK ks s.sl, keepK hs s.own, s.G, s.df⟩) : SGo C K s :=
  SGo.weaken (s' := ⟨keepK ks s.sl, keepK hs s.own, s.G, s.df⟩) rfl rfl (fun _ _ e => .inl (lk_keepK e)) (fun _ _ e => lk_keepK e) h

theorem go_slot (d : Nat) (x : SV) {y : SV} (hy : lk d s.sl = some y) (he : x.den = y.den) (h : SGo C K ⟨stk d x s.sl, s.own, s.G, s.df⟩) : SGo C K s := by
  refine SGo.weaken (s' := ⟨stk d x s.sl, s.own, s.G, s.df⟩) rfl rfl (fun i z e => ?_) (fun _ _ e => e) h
  simp only [lk_stk] at e
  split at e
  · rename_i q; subst q; cases e; exact .inr ⟨y, hy, he.symm⟩
  · exact .inl e

theorem go_split (d : Nat) {t : Bool} (hd : lk d s.sl = some (.v (.bool t))) (h1 : t = true → SGo C K ⟨stk d (.b true) s.sl, s.own, s.G, s.df⟩) (h2 : t = false → SGo C K ⟨stk d (.b false) s.sl, s.own, s.G, s.df⟩) : SGo C K s := by
  cases t with
  | true => exact go_slot d (.b true) hd rfl (h1 rfl)
  | false => exact go_slot d (.b false) hd rfl (h2 rfl)

theorem go_gsplit {R : Array Oper} {l : List Oper} {d : Option Tmp} {op : Op} {t : TypeId} {pos : String} {aft : Array Edge} {j g : Nat} {want u : Bool} (_hj : (R[j]?).bind (·.dst) = some g) (hu : lk g s.sl = some (.v (.bool u)))
    (h1 : u = true → SGo C (.ops R (⟨d, op, t, pos, aft, some (j, want)⟩ :: l) :: K) ⟨stk g (.b true) s.sl, s.own, s.G, s.df⟩)
    (h2 : u = false → SGo C (.ops R (⟨d, op, t, pos, aft, some (j, want)⟩ :: l) :: K) ⟨stk g (.b false) s.sl, s.own, s.G, s.df⟩) : SGo C (.ops R (⟨d, op, t, pos, aft, some (j, want)⟩ :: l) :: K) s :=
  go_split g hu h1 h2
theorem go_qsplit {M : World → Prop} {R : Array Oper} {l : List Oper} {d : Option Tmp} {op : Op} {t : TypeId} {pos : String} {aft : Array Edge} {j g : Nat} {want u : Bool} (_hj : (R[j]?).bind (·.dst) = some g) (hu : lk g s.sl = some (.v (.bool u)))
    (h1 : u = true → SGo C (.q M R (⟨d, op, t, pos, aft, some (j, want)⟩ :: l) :: K) ⟨stk g (.b true) s.sl, s.own, s.G, s.df⟩)
    (h2 : u = false → SGo C (.q M R (⟨d, op, t, pos, aft, some (j, want)⟩ :: l) :: K) ⟨stk g (.b false) s.sl, s.own, s.G, s.df⟩) : SGo C (.q M R (⟨d, op, t, pos, aft, some (j, want)⟩ :: l) :: K) s :=
  go_split g hu h1 h2

theorem go_pubx (k : Nat) {b g : Nat} {o : OO} {x : Obj} (hk : lk k s.own = some (b, o)) (hm : C.mh ≤ k) (hg : o.mut b g) (hx : ∀ w, o.holds C.w0.heap.size w b → w.heap[g]? = some x)
    (h : ∀ G', Le s.G G' → G' g = some x → SGo C K ⟨s.sl, rmk k s.own, G', s.df⟩) : SGo C K s := by
  intro a w hS
  obtain ⟨f1, f0⟩ := hS.mem.own _ _ _ hk
  obtain ⟨f2, f3, f4⟩ := f0 g hg
  have hxx := hx w f1
  refine h (fun j => if j = g then some x else s.G j) (fun j y e => ?_) (by simp) a w ⟨hS.sl, hS.nt, hS.df, ⟨fun j c y e => ?_, fun j j' c c' y y' q e e' r r' => ?_, ?_⟩⟩
  · have : j ≠ g := by intro q; subst q; rw [f2] at e; cases e
    simp [this, e]
  · simp only [lk_rmk] at e
    split at e
    · cases e
    · rename_i hj
      obtain ⟨g1, g2⟩ := hS.mem.own _ _ _ e
      refine ⟨g1, fun q hq => ?_⟩
      obtain ⟨g3, g4, g5⟩ := g2 q hq
      have : q ≠ g := by intro r; subst r; exact hj (hS.mem.inj _ _ _ _ _ _ q e hk (OO.mut_blks g1 hq) (OO.mut_blks f1 hg))
      exact ⟨by simp [this, g3], g4, g5⟩
  · simp only [lk_rmk] at e e'
    split at e
    · cases e
    · split at e'
      · cases e'
      · exact hS.mem.inj _ _ _ _ _ _ _ e e' r r'
  · have hgr := hS.mem.grow
    refine ⟨hgr.os, hgr.tape, hgr.output, hgr.size, hgr.blk, fun j y e => ?_, fun j hj => ?_⟩
    · simp only at e
      split at e
      · rename_i q; subst q; cases e; exact hxx
      · exact hgr.has j y e
    · have := f3 hm
      simp only
      rw [if_neg (by omega)]
      exact hgr.old j hj

theorem go_pub (k : Nat) {b : Nat} {e : TypeId} {cells : List SV} (hk : lk k s.own = some (b, .c e cells)) (hm : C.mh ≤ k)
    (h : ∀ G', Le s.G G' → G' b = some (.cells (dens cells).toArray e) → SGo C K ⟨s.sl, rmk k s.own, G', s.df⟩) : SGo C K s :=
  go_pubx k hk hm rfl (fun _ hw => hw) h


theorem go_call {R : Array Oper} {l : List Oper} {d : Option Tmp} {f : FuncId} {args : Array Operand} {tys : Array TypeId} {t : TypeId} {pos : String} {aft : Array Edge}
    {vs : List SV} {φ : Value → Hp → Prop} (hd : dOk C.nt d = true) (hf : canCall C.P f = true) (ha : evs s.sl args.toList = some vs) (hc : Pure C.P f (dens vs) s.G φ)
    (h : ∀ v G', Le s.G G' → φ v G' → SGo C (.ops R l :: K) ⟨putS d (rv v) s.sl, s.own, G', s.df⟩) : SGo C (.ops R (⟨d, .call ⟨.value (.func f), args, tys⟩, t, pos, aft, none⟩ :: l) :: K) s := by
  intro a w hS
  have hargs : args.map a.eval = (dens vs).toArray := by apply Array.ext'; rw [Array.toList_map]; exact evs_ok hS.sl ha
  have hrun : (execOp a.eval ⟨d, .call ⟨.value (.func f), args, tys⟩, t, pos, aft, none⟩).run C.P w = .ok (.enter f (dens vs).toArray) w := by
    simp only [execOp, resolve, hargs, Act.eval, Deferred.ofValue, Sem.run_bind, Sem.run_pure, Result.andThen_ok, invoke]
    simp [callFunc_ok hf]
  refine K_enter rfl hrun ((hc w hS.mem.has).mono ?_)
  rintro e w' ⟨v, G', rfl, hg, hφ⟩
  have hle : Le s.G G' := fun b o e => hg.keep hS.mem.has e
  have hS' := hS.put hd (rv v) (hS.mem.call hg)
  rw [rv_den] at hS'
  have := h v G' hle hφ _ _ hS'
  exact ⟨_, rfl, this⟩

theorem go_callv {R : Array Oper} {l : List Oper} {d : Option Tmp} {g : Operand} {f : FuncId} {cap : List SV} {args : Array Operand} {tys : Array TypeId} {t : TypeId} {pos : String} {aft : Array Edge}
    {vs : List SV} {φ : Value → Hp → Prop} (hd : dOk C.nt d = true) (hf : canCall C.P f = true) (hg : ev s.sl g = some (.f (.func f) [] cap)) (ha : evs s.sl args.toList = some vs) (hc : Pure C.P f (dens vs ++ dens cap) s.G φ)
    (h : ∀ v G', Le s.G G' → φ v G' → SGo C (.ops R l :: K) ⟨putS d (rv v) s.sl, s.own, G', s.df⟩) : SGo C (.ops R (⟨d, .call ⟨.value g, args, tys⟩, t, pos, aft, none⟩ :: l) :: K) s := by
  intro a w hS
  have hargs : args.map a.eval = (dens vs).toArray := by apply Array.ext'; rw [Array.toList_map]; exact evs_ok hS.sl ha
  have hgv := ev_ok hS.sl hg
  simp only [SV.den] at hgv
  have hrun : (execOp a.eval ⟨d, .call ⟨.value g, args, tys⟩, t, pos, aft, none⟩).run C.P w = .ok (.enter f (dens vs ++ dens cap).toArray) w := by
    simp only [execOp, resolve, hargs, hgv, Deferred.ofValue, Sem.run_bind, Sem.run_pure, Result.andThen_ok, invoke]
    simp [callFunc_ok hf, dens]
  refine K_enter rfl hrun ((hc w hS.mem.has).mono ?_)
  rintro e w' ⟨v, G', rfl, hg', hφ⟩
  have hle : Le s.G G' := fun b o e => hg'.keep hS.mem.has e
  have hS' := hS.put hd (rv v) (hS.mem.call hg')
  rw [rv_den] at hS'
  have := h v G' hle hφ _ _ hS'
  exact ⟨_, rfl, this⟩


def At (G : Hp) (b off : Nat) (vs : List Value) : Prop := ∃ arr e fz, G b = some (.cells arr e fz) ∧ off + vs.length ≤ arr.size ∧ ∀ i : Nat, i < vs.length → arr[off + i]? = vs[i]?
theorem At.mono {G G' : Hp} {b off : Nat} {vs : List Value} (h : At G b off vs) (hl : Le G G') : At G' b off vs := by
  obtain ⟨arr, e, fz, h1, h2, h3⟩ := h
  exact ⟨arr, e, fz, hl _ _ h1, h2, h3⟩

def ldV (agg : Bool) (vs : List Value) : Value := if agg then .agg vs.toArray else vs.headD undef

theorem at_load {P : Program} {w : World} {G : Hp} {b off : Nat} {vs : List Value} {T : TypeId} {ti : TI} (hT : ti.ok P T) (hw : Has w G) (h : At G b off vs) (hl : vs.length = ti.size) (h1 : ti.k.agg = false → ti.size = 1) :
    (loadVar T ⟨b, off, none⟩).run P w = .ok (ldV ti.k.agg vs) w := by
  obtain ⟨arr, e, fz, g1, g2, g3⟩ := h
  have hb := hw _ _ g1
  simp only [loadVar, Sem.run_bind, run_isAgg w hT, Result.andThen_ok]
  cases hk : ti.k.agg with
  | true =>
    simp only [if_true, Sem.run_bind, run_size w hT, Result.andThen_ok, loadCells]
    rw [run_loadCells hb off ti.size 0 #[] (by omega)]
    simp only [Result.andThen_ok, Sem.run_pure, ldV, if_true]
    congr 2
    apply Array.ext'
    apply List.ext_getElem?
    intro i
    simp only [List.nil_append, Array.toList_append, Array.toList_extract, List.extract_eq_take_drop, Nat.add_zero]
    rw [show off + ti.size - off = ti.size by omega]
    by_cases hi : i < vs.length
    · simp only [List.getElem?_take, List.getElem?_drop, show i < ti.size by omega, if_true]
      rw [← g3 i hi]; simp
    · simp only [List.getElem?_take, show ¬ i < ti.size by omega, if_false]
      rw [List.getElem?_eq_none (by omega)]
  | false =>
    have h2 := h1 hk
    match vs, hl with
    | [], hl => simp at hl; omega
    | x :: vs, hl =>
      have h3 := g3 0 (by simp)
      simp only [Nat.add_zero, List.getElem?_cons_zero] at h3
      have hc : w.cell? ⟨b, off, none⟩ = some x := by rw [cell_at hb]; exact h3
      simp [run_load, hc, ldV]


theorem go_loop {x : Code} (I : Nat → St → Prop) {n : Nat} (h0 : I n s)
    (step : ∀ n s, I n s → (∀ m s', m < n → I m s' → SGo C (.loop x :: K) s') → SGo C (.code x :: .loop x :: K) s) : SGo C (.code (.loop x) :: K) s := by
  have key : ∀ n s, I n s → SGo C (.code x :: .loop x :: K) s := by
    intro n
    induction n using Nat.strongRecOn with
    | _ n ih => intro s hI; exact step n s hI fun m s' hm hI' => go_again (ih m hm s' hI')
  exact go_first (key n s h0)


def resOne (sl : List (Nat × SV)) (ty : TypeId → Option TI) (own : List (Nat × Nat × OO)) : ResultVar → Option SV
  | .tmp t => lk t sl
  | .cell x T => match ty T, lk x sl with
    | some ti, some (.p h b off) => match lk h own with
      | some (b', .c _ cells) => if b' = b then ldOwn ti.k.agg ti.size cells off else none
      | _ => none
    | _, _ => none
def resAll (sl : List (Nat × SV)) (ty : TypeId → Option TI) (own : List (Nat × Nat × OO)) : List ResultVar → Option (List SV)
  | [] => some []
  | r :: l => match resOne sl ty own r with
    | some x => (resAll sl ty own l).map (x :: ·)
    | none => none
def resV : List SV → SV
  | [x] => x
  | l => .t l

def resSem (tmps : Array Value) : ResultVar → Sem Value
  | .tmp t => pure (tmps.getD t undef)
  | .cell q t => do loadVar t (← asAddr (tmps.getD q undef))

theorem resOne_ok {a : Act} {w : World} (hS : Sat C s a w) {r : ResultVar} {x : SV} (h : resOne s.sl C.ty s.own r = some x) : (resSem a.tmps r).run C.P w = .ok x.den w := by
  cases r with
  | tmp t =>
    simp only [resOne] at h
    have := hS.sl t x h
    simp [resSem, this]
  | cell q T =>
    simp only [resOne] at h
    split at h
    · rename_i ti k b off hT hq
      split at h
      · rename_i b' e cells hk
        split at h
        · rename_i hb; subst hb
          have hm : w.heap[b']? = some (.cells (dens cells).toArray e) := (hS.mem.own _ _ _ hk).1
          have hv := hS.sl q _ hq
          simp only [SV.den] at hv
          simp only [resSem, Array.getD_eq_getD_getElem?, hv, Option.getD_some, asAddr, Sem.run_bind, Sem.run_pure, Result.andThen_ok, ld_ok (C.tyok _ _ hT) hm h]
        · cases h
      · cases h
    · cases h

theorem resAll_ok {a : Act} {w : World} (hS : Sat C s a w) : ∀ {l : List ResultVar} {xs : List SV}, resAll s.sl C.ty s.own l = some xs →
    (l.mapM (resSem a.tmps)).run C.P w = .ok (dens xs) w
  | [], xs, h => by simp only [resAll, Option.some.injEq] at h; subst h; simp [dens]
  | r :: l, xs, h => by
    simp only [resAll] at h
    split at h
    · rename_i x hx
      simp only [Option.map_eq_some_iff] at h
      obtain ⟨ys, h1, rfl⟩ := h
      rw [List.mapM_cons, Sem.run_bind, resOne_ok hS hx, Result.andThen_ok, Sem.run_bind, resAll_ok hS h1, Result.andThen_ok, Sem.run_pure]
      simp [dens]
    · cases h

theorem results_eq (fn : Func) (tmps : Array Value) : results fn tmps = (do let vs ← fn.results.mapM (resSem tmps); pure (if h : vs.size = 1 then vs[0] else .tuple vs)) := by
  unfold results
  congr 2

theorem results_ok {a : Act} {w : World} (hS : Sat C s a w) {fn : Func} {xs : List SV} (h : resAll s.sl C.ty s.own fn.results.toList = some xs) : (results fn a.tmps).run C.P w = .ok (resV xs).den w := by
  have h1 := resAll_ok hS h
  rw [results_eq, Array.mapM_eq_mapM_toList, Sem.run_bind, Sem.run_map, h1, Result.andThen_ok, Result.andThen_ok, Sem.run_pure]
  congr 1
  match xs with
  | [] => simp [resV, SV.den, dens]
  | [x] => simp [resV, dens]
  | x :: y :: l => simp [resV, SV.den, dens]

theorem go_ret (hnb : noBr K = true) {fn : Func} {mb : List Nat} {φ : Value → Hp → Prop} (hQ : C.Q = bodyPost C.P fn (Ret mb C.w0 C.G0 φ)) (hmb : C.mb = mb) {xs : List SV} (hr : resAll s.sl C.ty s.own fn.results.toList = some xs) (hdf : s.df = []) (h : φ (resV xs).den s.G) :
    SGo C (.code .ret :: K) s := by
  intro a w hS
  refine wpIn_ret ?_
  rw [wpK_ret _ _ _ hnb, hQ]
  refine ⟨by rw [hS.df, hdf], _, results_ok hS hr, _, _, rfl, ?_, h⟩
  have := hS.mem.grow
  rw [hmb] at this
  exact this

theorem slots_args (args : List Value) (n : Nat) (sv : List (Nat × SV)) (h : ∀ i x, lk i sv = some x → args[i]? = some x.den) : Slots sv { tmps := args.toArray ++ Array.replicate n undef, defers := [] } := by
  intro i x hx
  have h1 := h i x hx
  have hlt : i < args.length := by
    rcases Nat.lt_or_ge i args.length with q | q
    · exact q
    · rw [List.getElem?_eq_none q] at h1; cases h1
  simp only
  rw [Array.getElem?_append_left (by simpa using hlt)]
  simpa using h1

theorem enter {P : Program} {f : FuncId} {fn : Func} {c : Code} {args : List Value} {G : Hp} {φ : Value → Hp → Prop} (ty : TypeId → Option TI) (tyok : ∀ T i, ty T = some i → i.ok P T) (nt : Nat)
    (hf : P.funcs[f]? = some fn) (hb : fn.body = some c) (hn : fn.ntmps = nt) (hargs : args.length ≤ nt) (sv : List (Nat × SV)) (hsv : ∀ i x, lk i sv = some x → args[i]? = some x.den)
    (h : ∀ C : Ctx, C.P = P → C.Q = bodyPost C.P fn (Ret [] C.w0 C.G0 φ) → C.nt = nt → C.ty = ty → C.mb = [] → C.mh = 0 → C.ro = none → SGo C [.code c] ⟨sv, [], G, []⟩) : Pure P f args G φ := by
  intro w hw
  refine calls_of_wp hf hb ((wpIn_wide (n := 0)).1 ?_)
  have := h ⟨P, bodyPost P fn (Ret [] w G φ), nt, ty, tyok, w, G, [], 0, none⟩ rfl rfl rfl rfl rfl rfl rfl { tmps := args.toArray ++ Array.replicate (fn.ntmps - args.toArray.size) undef, defers := [] } w
    ⟨slots_args _ _ _ hsv, by simp [hn]; omega, rfl, ⟨fun _ _ _ e => by simp [lk] at e, fun _ _ _ _ _ _ _ e => by simp [lk] at e, Grow.refl hw⟩⟩
  simp only [wpK] at this
  exact this

def enumS : Nat → List SV → List (Nat × SV)
  | _, [] => []
  | n, x :: l => (n, x) :: enumS (n + 1) l
theorem lk_enumS : ∀ (l : List SV) (n i : Nat) (x : SV), lk i (enumS n l) = some x → n ≤ i ∧ (dens l)[i - n]? = some x.den
  | [], n, i, x, h => by simp [enumS, lk] at h
  | y :: l, n, i, x, h => by
    simp only [enumS, lk] at h
    split at h
    · rename_i e; subst e; cases h; simp [dens]
    · rename_i e
      obtain ⟨h1, h2⟩ := lk_enumS l (n + 1) i x h
      refine ⟨by omega, ?_⟩
      rw [show i - n = (i - (n + 1)) + 1 by omega]
      simpa [dens] using h2

theorem enterS {P : Program} {f : FuncId} {fn : Func} {c : Code} {G : Hp} {φ : Value → Hp → Prop} (ty : TypeId → Option TI) (tyok : ∀ T i, ty T = some i → i.ok P T) {nt : Nat}
    (hf : P.funcs[f]? = some fn) (hb : fn.body = some c) (hn : fn.ntmps = nt) (svs : List SV) (hargs : svs.length ≤ nt)
    (h : ∀ C : Ctx, C.P = P → C.Q = bodyPost C.P fn (Ret [] C.w0 C.G0 φ) → C.nt = nt → C.ty = ty → C.mb = [] → C.mh = 0 → C.ro = none → SGo C [.code c] ⟨enumS 0 svs, [], G, []⟩) : Pure P f (dens svs) G φ :=
  enter ty tyok nt hf hb hn (by rw [dens_eq]; simpa using hargs) (enumS 0 svs) (fun i x e => by have := (lk_enumS svs 0 i x e).2; simpa using this) h

end
end Go.Sx
namespace Go.Sx
set_option linter.unusedSimpArgs false
set_option linter.unusedVariables false
open Go.RowKit


section
variable {P : Program} {ro : Option Nat} {ops : Array Oper} {md : Region.Mode} {M : World → Prop}

theorem opIn_of_quiet {o : Oper} {a : Act} {K : Act → Prop} {K' : Act → World → Prop} {Q' : Exit → Act → World → Prop} {w : World} (hw : M w) (h : ∀ a w', M w' → K a → K' a w') (hh : o.quiet P a M K) : o.wpIn (FR ro) 0 P a w K' Q' := by
  obtain ⟨v, h1, h2⟩ := hh
  have h3 := h1 w hw
  unfold Oper.quietAt at h3
  cases hr : (execOp a.eval o).run P w with
  | ok n w' =>
    rw [hr] at h3
    cases n <;> simp only [Oper.quietUpon] at h3
    case value u =>
      obtain ⟨e1, e2⟩ := h3
      subst e1 e2
      exact op_value hr (h _ _ hw h2)
    case skip =>
      obtain ⟨e1, e2⟩ := h3
      subst e1 e2
      exact op_skip hr (h _ _ hw h2)
    case enter f args =>
      obtain ⟨e1, hc⟩ := h3
      subst e1
      exact op_enter hr (hc.mono fun e w'' ⟨he, hw''⟩ => ⟨v, he, h _ _ hw'' h2⟩)
  | halt x w' => rw [hr] at h3; simp only [Oper.quietUpon] at h3

theorem wpOpIn_of_qOp {i : Nat} {a : Act} {K : Act → Prop} {K' : Act → World → Prop} {Q' : Exit → Act → World → Prop} {w : World} (hC : M w) (h : ∀ a w', M w' → K a → K' a w') (hh : qOp P ops M i K a) : wpOpIn (FR ro) 0 P ops Q' i K' a w := by
  unfold qOp at hh
  unfold wpOpIn
  split
  · rename_i ho; simp only [ho] at hh; exact h _ _ hC hh
  · rename_i o ho
    simp only [ho] at hh
    split
    · rename_i hw; simp only [hw, if_true] at hh; exact opIn_of_quiet hC h hh
    · rename_i hw; simp only [hw] at hh; exact ⟨fun _ _ => trivial, h _ _ hC hh⟩

theorem wpAnyIn_of_quiet {Q : Act → Prop} {Q' : Exit → Act → World → Prop} (hQ : ∀ a w, M w → Q a → Q' .normal a w) : ∀ (fuel : Nat) (listed : Array Bool) (a : Act) (w : World), M w →
    wpAnyQ P md ops M Q fuel listed a → wpAnyIn (FR ro) 0 P md ops Q' fuel listed a w
  | 0, _, _, _, hw, h => ⟨h.1, hQ _ _ hw h.2⟩
  | fuel + 1, _, _, _, hw, h => ⟨fun h0 => hQ _ _ hw (h.1 h0), fun i hi => wpOpIn_of_qOp hw (fun a' w' hw' => wpAnyIn_of_quiet hQ fuel _ a' w' hw') (h.2 i hi)⟩

theorem wpIn_region_quiet {id : Nat} {Q : Exit → Act → World → Prop} {a : Act} {w : World} (hm : P.follows .mixedOrders = true) (hB : Region.lexB .any ops = true) (hC : M { w with drawn := w.drawn + 1 })
    (h : wpQuiet P ops M (fun a' => ∀ w', M w' → Q .normal a' w') ops.toList a) : (Code.region id ops true).wpIn (FR ro) 0 P Q a w := by
  simp only [Region.lexB, Bool.and_eq_true] at hB
  refine wpIn_region_any hm (wpAnyIn_of_quiet (Q := fun a' => ∀ w', M w' → Q .normal a' w') (fun _ w' hw' h => h w' hw') _ _ _ _ hC ?_)
  have := wpAnyQ_lex (C := M) (md := .any) hB.1 ops.toList 0 (Array.replicate ops.size false) a (by simp) (by simpa using hB.2) h
  simpa using this

theorem yieldsIf_wpOpIn {S : World → Prop} {Q : Exit → Act → World → Prop} {i : Nat} {o : Oper} {v : Value} {a : Act} (hi : ops[i]? = some o) (hy : YieldsIf P ops S o v a)
    {K : Act → World → Prop} {w : World} (hS : S w) (h : K (a.put o.dst v) w) : wpOpIn (FR ro) 0 P ops Q i K a w := by
  unfold wpOpIn
  simp only [hi]
  rcases hy with ⟨hw, hv⟩ | ⟨hw, rfl⟩
  · simp only [hw, if_true]; exact op_value (hv w hS) h
  · simp only [hw, Bool.false_eq_true, if_false]; exact ⟨fun _ _ => trivial, h⟩

theorem semAt_put (o : Oper) (hs : ∀ cs b, o.op ≠ .select cs b) (a : Act) (dst : Option Tmp) (v : Value) (h : ∀ d, dst = some d → d ∉ o.looksAt ops) : o.semAt ro (a.put dst v).eval = o.semAt ro a.eval := by
  have e := execOp_put (ops := ops) o hs a dst v h
  cases ro with
  | none => exact e
  | some l =>
    by_cases hd : ∃ c, o.op = .defer c
    · obtain ⟨c, hc⟩ := hd
      have := resolve_congr (ρ := (a.put dst v).eval) (ρ' := a.eval) c o.type (fun x hx => Act.eval_put fun d hd hxd => h d hd (by
        subst hxd
        exact List.mem_append_left _ (List.mem_filterMap.2 ⟨.tmp d, by rw [hc]; simpa [Op.operands] using hx, rfl⟩)))
      simp only [Oper.semAt, hc, this]
    · have hn : ∀ c, o.op ≠ .defer c := fun c hc => hd ⟨c, hc⟩
      rw [Oper.semAt_eq _ _ _ hn, Oper.semAt_eq _ _ _ hn, e]

theorem wpOpIn_putIf {S : World → Prop} {Q : Exit → Act → World → Prop} {j : Nat} {oi oj : Oper} {v : Value} (hj : ops[j]? = some oj) (hap : oi.apart ops oj = true)
    (hsi : ∀ cs b, oi.op ≠ .select cs b) (hsj : ∀ cs b, oj.op ≠ .select cs b)
    (hQ : ∀ c a w, Q (.panic c) (a.put oi.dst v) w → Q (.panic c) a w) {K : Act → World → Prop} {a : Act} {w : World}
    (hy : YieldsIf P ops S oi v a) (h : wpOpIn (FR ro) 0 P ops Q j K (a.put oi.dst v) w) :
    wpOpIn (FR ro) 0 P ops Q j (fun a' w' => YieldsIf P ops S oi v a' ∧ K (a'.put oi.dst v) w') a w := by
  obtain ⟨h1, h2, h3⟩ := Oper.apart_spec hap
  have keep : ∀ (a : Act), YieldsIf P ops S oi v a → ∀ u, YieldsIf P ops S oi v (a.put oj.dst u) := fun a hy u =>
    hy.of_same (execOp_put oi hsi a oj.dst u h3) (wanted_put oi a oj.dst u h3)
  have keepD : ∀ d, YieldsIf P ops S oi v { a with defers := d :: a.defers } := fun d => hy.of_same rfl rfl
  unfold wpOpIn at *
  simp only [hj] at *
  rw [wanted_put oj a oi.dst v h1] at h
  split
  · rename_i hw
    simp only [hw, if_true] at h
    refine ⟨fun _ _ => trivial, ?_⟩
    have h := h.2
    rw [semAt_put oj hsj a oi.dst v h1] at h
    generalize (oj.semAt (FR ro).round a.eval).run P w = r at *
    cases r with
    | ok n w' =>
      cases n <;> simp only [Oper.uponIn] at h ⊢
      case value u => exact ⟨keep a hy u, by rw [← Act.put_comm a v u h2]; exact h⟩
      case skip => exact ⟨keep a hy _, by rw [← Act.put_comm a v undef h2]; exact h⟩
      case defer d =>
        refine ⟨keep _ (keepD d) _, ?_⟩
        rw [← Act.put_comm _ v undef h2, ← Act.put_defers]
        exact h
      case enter f args =>
        refine ⟨h.1, h.2.mono fun e w'' he => ?_⟩
        cases e with
        | returned u => exact ⟨keep a hy u, by rw [← Act.put_comm a v u h2]; exact he⟩
        | panicked c => exact hQ _ _ _ he
        | outgrown => exact he
      case row row args => exact ⟨h.1, h.2.mono fun u w'' he => ⟨keep a hy u, by rw [← Act.put_comm a v u h2]; exact he⟩⟩
      case round l f tmps assign body =>
        refine ⟨h.1, h.2.mono fun e w'' he => ?_⟩
        cases e with
        | returned u => exact ⟨keep a hy u, by rw [← Act.put_comm a v u h2]; exact he⟩
        | panicked c => exact hQ _ _ _ he
        | outgrown => exact he
    | halt x w' =>
      cases x <;> simp only [Oper.uponIn] at h ⊢
      case panic u => exact hQ _ _ _ h
  · rename_i hw
    simp only [hw] at h
    exact ⟨fun _ _ => trivial, keep a hy _, by rw [← Act.put_comm a v undef h2]; exact h.2⟩

theorem wpAnyHI_first {S : World → Prop} {Q : Exit → Act → World → Prop} {i : Nat} {oi : Oper} {v : Value} (hi : ops[i]? = some oi) (hsel : ∀ (j : Nat) (o : Oper) cs b, ops[j]? = some o → o.op ≠ .select cs b)
    (hQ : ∀ c a w, Q (.panic c) (a.put oi.dst v) w → Q (.panic c) a w) :
    ∀ (fuel : Nat) (listed : Array Bool) (a : Act) (w : World),
      (∀ j oj, ops[j]? = some oj → j ≠ i → listed.getD j true = false → (∀ e ∈ oj.after, Region.binds md e = true → e.on ≠ i) → oi.apart ops oj = true) →
      i ∈ Region.ready md ops listed → YieldsIf P ops S oi v a → S w →
      wpAnyHI P ro md ops Q S fuel (listed.setIfInBounds i true) (a.put oi.dst v) w → wpAnyHI P ro md ops Q S (fuel + 1) listed a w := by
  intro fuel
  induction fuel with
  | zero =>
    intro listed a w _ hr hy hS H
    refine ⟨fun h => (by rw [h] at hr; cases hr), fun j hj => ?_⟩
    by_cases hji : j = i
    · subst hji; exact yieldsIf_wpOpIn hi hy hS ⟨hS, H⟩
    · have := ready_mono hj hji
      rw [H.1] at this
      cases this
  | succ fuel ih =>
    intro listed a w hfree hr hy hS H
    refine ⟨fun h => (by rw [h] at hr; cases hr), fun j hj => ?_⟩
    by_cases hji : j = i
    · subst hji; exact yieldsIf_wpOpIn hi hy hS ⟨hS, H⟩
    · have h1 := H.2 j (ready_mono hj hji)
      obtain ⟨hjun, oj, hoj, hall⟩ := mem_ready.1 hj
      have hnot : ∀ e ∈ oj.after, Region.binds md e = true → e.on ≠ i := fun e he hb heq => by
        have h1 := hall e he hb
        have h0 := (mem_ready.1 hr).1
        rw [heq] at h1
        rcases Nat.lt_or_ge i listed.size with h' | h'
        · simp [h'] at h0 h1; rw [h0] at h1; cases h1
        · simp [Array.getElem?_eq_none h'] at h1
      have h2 := wpOpIn_putIf hoj (hfree j oj hoj hji hjun hnot) (fun cs b => hsel i oi cs b hi) (fun cs b => hsel j oj cs b hoj) hQ hy h1
      have hfree' : ∀ k ok, ops[k]? = some ok → k ≠ i → (listed.setIfInBounds j true).getD k true = false →
          (∀ e ∈ ok.after, Region.binds md e = true → e.on ≠ i) → oi.apart ops ok = true := fun k ok hk hki hun hno => by
        refine hfree k ok hk hki ?_ hno
        by_cases hjk : j = k
        · subst hjk; exact hjun
        · rw [getD_set_ne true hjk] at hun; exact hun
      refine wpOpIn_mono (fun a' w' h3 => ⟨h3.2.1, ih (listed.setIfInBounds j true) a' w' hfree' (ready_mono hr (Ne.symm hji)) h3.1 h3.2.1 ?_⟩) h2
      rw [Array.setIfInBounds_comm _ _ hji]
      exact h3.2.2

theorem wpAnyHI_take {S : World → Prop} {Q : Exit → Act → World → Prop} {i : Nat} {oi : Oper} {v : Value} {fuel : Nat} {listed : Array Bool} {a : Act} {w : World} (hi : ops[i]? = some oi)
    (hs : Region.noSelect ops = true) (hf : Region.free md ops listed i = true) (hr : (Region.ready md ops listed).contains i = true)
    (hQ : ∀ c a w, Q (.panic c) (a.put oi.dst v) w → Q (.panic c) a w) (hy : YieldsIf P ops S oi v a) (hS : S w)
    (h : wpAnyHI P ro md ops Q S fuel (listed.setIfInBounds i true) (a.put oi.dst v) w) : wpAnyHI P ro md ops Q S (fuel + 1) listed a w :=
  wpAnyHI_first hi (Region.noSelect_spec hs) hQ fuel listed a w (Region.free_spec hi hf) (by simpa using hr) hy hS h
theorem wpAnyHI_all {S : World → Prop} {Q : Exit → Act → World → Prop} {rs : List Nat} {fuel : Nat} {listed : Array Bool} {a : Act} {w : World} (hr : Region.ready md ops listed = rs) (hne : rs ≠ [])
    (h : ∀ i ∈ rs, wpOpIn (FR ro) 0 P ops Q i (fun a' w' => S w' ∧ wpAnyHI P ro md ops Q S fuel (listed.setIfInBounds i true) a' w') a w) : wpAnyHI P ro md ops Q S (fuel + 1) listed a w :=
  ⟨fun h0 => absurd (hr ▸ h0) hne, hr ▸ h⟩
theorem wpAnyHI_done {S : World → Prop} {Q : Exit → Act → World → Prop} {listed : Array Bool} {a : Act} {w : World} (hr : Region.ready md ops listed = []) (h : Q .normal a w) :
    ∀ fuel, wpAnyHI P ro md ops Q S fuel listed a w
  | 0 => ⟨hr, h⟩
  | _ + 1 => ⟨fun _ => h, by rw [hr]; simp⟩
theorem wpAnyIn_of_held {S : World → Prop} {Q : Exit → Act → World → Prop} : ∀ (fuel : Nat) (listed : Array Bool) (a : Act) (w : World), wpAnyHI P ro md ops Q S fuel listed a w → wpAnyIn (FR ro) 0 P md ops Q fuel listed a w
  | 0, _, _, _, h => h
  | fuel + 1, _, _, _, h => ⟨h.1, fun i hi => wpOpIn_mono (fun a' w' h' => wpAnyIn_of_held fuel _ a' w' h'.2) (h.2 i hi)⟩
theorem wpIn_region_held {S : World → Prop} {Q : Exit → Act → World → Prop} {id : Nat} {a : Act} {w : World} (hm : P.follows .mixedOrders = true)
    (h : wpAnyHI P ro .any ops Q S ops.size (Array.replicate ops.size false) a { w with drawn := w.drawn + 1 }) : (Code.region id ops true).wpIn (FR ro) 0 P Q a w :=
  wpIn_region_any hm (wpAnyIn_of_held _ _ _ _ h)
end


def Hold (C : Ctx) (own : List (Nat × Nat × OO)) (G : Hp) (w : World) : Prop := (∀ h b o, lk h own = some (b, o) → o.holds C.w0.heap.size w b) ∧ Has w G
theorem Mem.hold {C : Ctx} {own : List (Nat × Nat × OO)} {G : Hp} {w : World} (h : Mem C own G w) : Hold C own G w := ⟨fun k b o e => (h.own k b o e).1, h.has⟩
theorem Hold.owns {C : Ctx} {own : List (Nat × Nat × OO)} {G : Hp} {w : World} (h : Hold C own G w) : Own own w := fun k b e cells q => h.1 k b _ q

def Quiet (C : Ctx) (sl : List (Nat × SV)) (own : List (Nat × Nat × OO)) (G : Hp) (op : Op) (v : Value) : Prop :=
  ∀ (a : Act) (w : World) (d : Option Tmp) (t : TypeId) (pos : String) (aft : Array Edge) (g : Option (Nat × Bool)), Slots sl a → Hold C own G w → (execOp a.eval ⟨d, op, t, pos, aft, g⟩).run C.P w = .ok (.value v) w

section
variable {C : Ctx} {K : List KI} {s : St} {sl : List (Nat × SV)} {own : List (Nat × Nat × OO)} {G : Hp} {R : Array Oper} {l : List Oper} {d : Option Tmp} {t : TypeId} {pos : String} {aft : Array Edge} {op : Op} {v : Value}

theorem Quiet.cast {v' : Value} (h : Quiet C sl own G op v) (e : v = v') : Quiet C sl own G op v' := e ▸ h
theorem quiet_op {x : SV} (h : opQ C.ty sl own op = some x) : Quiet C sl own G op x.den := fun _ _ _ _ _ _ _ hs hh => q_all C.tyok hs hh.owns h

theorem quiet_load {T : TypeId} {x : Operand} {ti : TI} {b off : Nat} {vs : List Value}
    (hT : C.ty T = some ti) (hx : ev sl x = some (.v (.pointer (some ⟨b, off, none⟩)))) (h1 : ti.k.agg = false → ti.size = 1) (ha : At G b off vs) (hl : vs.length = ti.size) : Quiet C sl own G (.load T x) (ldV ti.k.agg vs) := by
  intro a w d t pos aft g hs hh
  have hxv := ev_ok hs hx
  simp only [SV.den] at hxv
  simp only [execOp, hxv, Instr.loadAt, Instr.sureAddr, Sem.run_bind, Sem.run_pure, Result.andThen_ok, at_load (C.tyok _ _ hT) hh.2 ha hl h1]

theorem row_load {P : Program} {w : World} {base : Nat} {e : TypeId} {size n cap b : Nat} {xs : List Value} (h : w.ownsRow base e size (.slice (some ⟨b, 0, none⟩) n cap) n xs) : At (fun j => w.heap[j]?) b 0 xs := by
  obtain ⟨h1, h2⟩ := h
  rcases h2 with ⟨h2, _⟩ | ⟨g, cap', cur, hv, hb, hg, hn, hm, hs, ht⟩
  · cases h2
  · cases hv
    refine ⟨cur, e, (0, 0), hg, ?_, fun i hi => ?_⟩
    · rw [← ht]; simp; omega
    · have := congrArg (fun l => l[i]?) ht
      simp only [List.getElem?_take] at this
      rw [if_pos (by rw [← h1]; exact hi)] at this
      simpa using this

theorem At.sub {G : Hp} {b off : Nat} {vs : List Value} (h : At G b off vs) (m n : Nat) (hm : m + n ≤ vs.length) : At G b (off + m) ((vs.drop m).take n) := by
  obtain ⟨arr, e, fz, h1, h2, h3⟩ := h
  refine ⟨arr, e, fz, h1, by simp; omega, fun i hi => ?_⟩
  have hi' : i < n := by simp at hi; omega
  rw [Nat.add_assoc, h3 (m + i) (by omega)]
  simp [List.getElem?_take, hi']
theorem At.drop {G : Hp} {b off : Nat} {vs : List Value} (h : At G b off vs) (m : Nat) (hm : m ≤ vs.length) : At G b (off + m) (vs.drop m) := by
  have := h.sub m (vs.length - m) (by omega)
  rwa [List.take_of_length_le (by simp)] at this

theorem quiet_loadR {T : TypeId} {x : Operand} {ti : TI} {k b b' off n cap size : Nat} {e : TypeId} {xs : List Value}
    (hT : C.ty T = some ti) (hx : ev sl x = some (.v (.pointer (some ⟨b, off, none⟩)))) (h1 : ti.k.agg = false → ti.size = 1) (hk : lk k own = some (b', .row (.slice (some ⟨b, 0, none⟩) n cap) e size n xs)) (hl : off + ti.size ≤ xs.length) :
    Quiet C sl own G (.load T x) (ldV ti.k.agg ((xs.drop off).take ti.size)) := by
  intro a w d t pos aft g hs hh
  have hxv := ev_ok hs hx
  simp only [SV.den] at hxv
  have hrow := hh.1 _ _ _ hk
  simp only [OO.holds] at hrow
  have hat := (row_load (P := C.P) hrow).sub off ti.size hl
  rw [Nat.zero_add] at hat
  simp only [execOp, hxv, Instr.loadAt, Instr.sureAddr, Sem.run_bind, Sem.run_pure, Result.andThen_ok, at_load (C.tyok _ _ hT) (w := w) (G := fun j => w.heap[j]?) (fun _ _ e => e) hat (by simp; omega) h1]

theorem quiet_index {T e : TypeId} {x ix : Operand} {te : TI} {sz by' : Nat} {ze : List Value} {fl : List (Nat × Nat × Bool)} {b off len cap : Nat} {k : IntKind} {n : Int} {y : SV}
    (hT : C.ty T = some ⟨.slice e, sz, by', ze, fl⟩) (he : C.ty e = some te) (hx : ev sl x = some y) (hy : y.den = .slice (some ⟨b, off, none⟩) len cap) (hi : ev sl ix = some (.v (.int k n))) (h0 : 0 ≤ n) (h1 : n < (len : Int)) :
    Quiet C sl own G (.indexAddr T x ix) (.pointer (some ⟨b, off + n.toNat * te.size, none⟩)) := by
  intro a w d t pos aft g hs hh
  have hxv := ev_ok hs hx
  have hiv := ev_ok hs hi
  rw [hy] at hxv
  simp only [SV.den] at hiv
  have g1 := (C.tyok _ _ hT).k
  simp only [TK.fits] at g1
  simp only [execOp, hxv, hiv]
  rw [Sem.run_bind, indexAt_slice g1 (C.tyok _ _ he) h0 h1]
  simp

theorem sliceBound_ok {P : Program} {w : World} {k : IntKind} {n : Int} {y : Nat} {code : BoundsCode} (h0 : 0 ≤ n) (h1 : n ≤ (y : Int)) : (Instr.sliceBound (.int k n) y code).run P w = .ok n.toNat w := by
  simp only [Instr.sliceBound, asIntOf, Sem.run_bind, Sem.run_pure, Result.andThen_ok]
  rw [if_pos ⟨h0, h1⟩]; simp

def sliced (ad : Option Addr) (cap lo hi size : Nat) : Value := .slice (if cap = lo then ad else ad.map (·.add (lo * size))) (hi - lo) (cap - lo)
theorem sliced_some (b off cap lo hi size : Nat) (h : lo < hi) (h' : hi ≤ cap) : sliced (some ⟨b, off, none⟩) cap lo hi size = .slice (some ⟨b, off + lo * size, none⟩) (hi - lo) (cap - lo) := by
  simp only [sliced, show ¬ cap = lo by omega, if_false, Option.map_some, add_none]
theorem quiet_sliceLo {T e : TypeId} {x lo : Operand} {te : TI} {sz by' : Nat} {ze : List Value} {fl : List (Nat × Nat × Bool)} {ad : Option Addr} {len cap : Nat} {k : IntKind} {n : Int} {y : SV}
    (hT : C.ty T = some ⟨.slice e, sz, by', ze, fl⟩) (he : C.ty e = some te) (hx : ev sl x = some y) (hy : y.den = .slice ad len cap) (hi : ev sl lo = some (.v (.int k n))) (h0 : 0 ≤ n) (h1 : n ≤ (len : Int)) :
    Quiet C sl own G (.slice T x (some lo) none none) (sliced ad cap n.toNat len te.size) := by
  intro a w d t pos aft g hs hh
  have hxv := ev_ok hs hx
  have hiv := ev_ok hs hi
  rw [hy] at hxv
  simp only [SV.den] at hiv
  have g1 := (C.tyok _ _ hT).k
  simp only [TK.fits] at g1
  simp only [execOp, hxv, hiv, Option.map_some, Option.map_none, Instr.sliceAt, Instr.slice, Instr.sliceBounds, Sem.run_bind, run_und w g1, Result.andThen_ok, Sem.run_pure, sliceBound_ok h0 h1, run_size w (C.tyok _ _ he), sliced]
theorem quiet_sliceHi {T e : TypeId} {x hi : Operand} {te : TI} {sz by' : Nat} {ze : List Value} {fl : List (Nat × Nat × Bool)} {ad : Option Addr} {len cap : Nat} {k' : IntKind} {m : Int} {y : SV}
    (hT : C.ty T = some ⟨.slice e, sz, by', ze, fl⟩) (he : C.ty e = some te) (hx : ev sl x = some y) (hy : y.den = .slice ad len cap) (hi2 : ev sl hi = some (.v (.int k' m))) (h0 : 0 ≤ m) (h2 : m ≤ (cap : Int)) :
    Quiet C sl own G (.slice T x none (some hi) none) (sliced ad cap 0 m.toNat te.size) := by
  intro a w d t pos aft g hs hh
  have hxv := ev_ok hs hx
  have hiv2 := ev_ok hs hi2
  rw [hy] at hxv
  simp only [SV.den] at hiv2
  have g1 := (C.tyok _ _ hT).k
  simp only [TK.fits] at g1
  simp only [execOp, hxv, hiv2, Option.map_some, Option.map_none, Instr.sliceAt, Instr.slice, Instr.sliceBounds, Sem.run_bind, run_und w g1, Result.andThen_ok, Sem.run_pure, sliceBound_ok (y := cap) h0 h2, run_size w (C.tyok _ _ he), sliced]

theorem go_q (hd : dOk C.nt d = true) (hq : Quiet C s.sl s.own s.G op v) (h : SGo C (.ops R l :: K) ⟨putS d (rv v) s.sl, s.own, s.G, s.df⟩) : SGo C (.ops R (⟨d, op, t, pos, aft, none⟩ :: l) :: K) s := by
  intro a w hS
  have hrun := hq a w d t pos aft none hS.sl hS.mem.hold
  refine K_value rfl hrun ?_
  have hS' := hS.put hd (rv v) hS.mem
  rw [rv_den] at hS'
  have := h _ _ hS'
  exact this


theorem go_draw {id : Nat} (hm : C.P.follows .mixedOrders = true) (hB : Region.lexB .any R = true) (h : SGo C (.q (Mem C s.own s.G) R R.toList :: K) s) : SGo C (.code (.region id R true) :: K) s := by
  intro a w hS
  have := h a w hS
  simp only [wpK] at this ⊢
  exact wpIn_region_quiet (M := Mem C s.own s.G) hm hB hS.mem.drew this

theorem q_end (h : SGo C K s) : SGo C (.q (Mem C s.own s.G) R [] :: K) s := by
  intro a w hS
  simp only [wpK]
  exact wpQuiet_nil fun w' hw' => h a w' ⟨hS.sl, hS.nt, hS.df, hw'⟩

theorem q_q (hd : dOk C.nt d = true) (hq : Quiet C s.sl s.own s.G op v) (h : SGo C (.q (Mem C s.own s.G) R l :: K) ⟨putS d (rv v) s.sl, s.own, s.G, s.df⟩) : SGo C (.q (Mem C s.own s.G) R (⟨d, op, t, pos, aft, none⟩ :: l) :: K) s := by
  intro a w hS
  simp only [wpK, wpQuiet]
  rw [if_pos (by simp [Region.wanted])]
  refine ⟨v, fun w' hw' => ?_, ?_⟩
  · unfold Oper.quietAt
    rw [hq a w' d t pos aft none hS.sl hw'.hold]
    exact ⟨rfl, rfl⟩
  · have hS' := hS.put hd (rv v) hS.mem
    rw [rv_den] at hS'
    have := h _ _ hS'
    simpa only [wpK] using this

theorem Mem.call0 {G' : Hp} {w w' : World} (h : Mem C own G w) (hg : Grow [] w G w' G') : Mem C own G w' := by
  have h1 := h.call hg
  refine ⟨fun k b o e => ?_, h.inj, ?_⟩
  · obtain ⟨f1, f2⟩ := h1.own k b o e
    exact ⟨f1, (h.own k b o e).2⟩
  · have g := h1.grow
    exact ⟨g.os, g.tape, g.output, g.size, g.blk, fun b o e => g.has b o (hg.keep h.has e), h.grow.old⟩

theorem q_callf {f : FuncId} {args : Array Operand} {tys : Array TypeId} {vs : List SV} (hd : dOk C.nt d = true) (hf : canCall C.P f = true) (ha : evs s.sl args.toList = some vs) (hc : Pure C.P f (dens vs) s.G (fun r _ => r = v))
    (h : SGo C (.q (Mem C s.own s.G) R l :: K) ⟨putS d (rv v) s.sl, s.own, s.G, s.df⟩) : SGo C (.q (Mem C s.own s.G) R (⟨d, .call ⟨.value (.func f), args, tys⟩, t, pos, aft, none⟩ :: l) :: K) s := by
  intro a w hS
  have hargs : args.map a.eval = (dens vs).toArray := by apply Array.ext'; rw [Array.toList_map]; exact evs_ok hS.sl ha
  have hrun : ∀ w', (execOp a.eval ⟨d, .call ⟨.value (.func f), args, tys⟩, t, pos, aft, none⟩).run C.P w' = .ok (.enter f (dens vs).toArray) w' := by
    intro w'
    simp only [execOp, resolve, hargs, Act.eval, Deferred.ofValue, Sem.run_bind, Sem.run_pure, Result.andThen_ok, invoke]
    simp [callFunc_ok hf]
  simp only [wpK, wpQuiet]
  rw [if_pos (by simp [Region.wanted])]
  refine ⟨v, fun w' hw' => ?_, ?_⟩
  · unfold Oper.quietAt
    rw [hrun w']
    refine ⟨rfl, (hc w' hw'.has).mono ?_⟩
    rintro e w'' ⟨u, G', rfl, hg, rfl⟩
    exact ⟨rfl, hw'.call0 hg⟩
  · have hS' := hS.put hd (rv v) hS.mem
    rw [rv_den] at hS'
    have := h _ _ hS'
    simpa only [wpK] using this

theorem q_guard {j g : Nat} {want u : Bool} (hj : (R[j]?).bind (·.dst) = some g) (hd : dOk C.nt d = true) (hu : lk g s.sl = some (.b u))
    (h1 : u = want → SGo C (.q (Mem C s.own s.G) R (⟨d, op, t, pos, aft, none⟩ :: l) :: K) s)
    (h2 : u ≠ want → SGo C (.q (Mem C s.own s.G) R l :: K) ⟨putS d (.v undef) s.sl, s.own, s.G, s.df⟩) : SGo C (.q (Mem C s.own s.G) R (⟨d, op, t, pos, aft, some (j, want)⟩ :: l) :: K) s := by
  intro a w hS
  have hy := yielded_ok hS hj ⟨_, hu, rfl⟩
  simp only [wpK, wpQuiet, Region.wanted, hy]
  by_cases e : u = want
  · have := h1 e a w hS
    simp only [wpK, wpQuiet, Region.wanted, if_true] at this
    rw [if_pos (by simp [e])]
    obtain ⟨v, h3, h4⟩ := this
    exact ⟨v, fun w' hw' => h3 w' hw', h4⟩
  · have := h2 e _ _ (hS.put hd (.v undef) hS.mem)
    simp only [wpK] at this
    rw [if_neg (by simpa using e)]
    exact this

def sq (ty : TypeId → Option TI) (nt : Nat) (R : Array Oper) : Nat → List Oper → St → List Oper × St
  | 0, l, s => (l, s)
  | _ + 1, [], s => ([], s)
  | n + 1, ⟨d, op, t, pos, aft, none⟩ :: l, s => match dOk nt d, opQ ty s.sl s.own op with
    | true, some r => sq ty nt R n l ⟨putS d r s.sl, s.own, s.G, s.df⟩
    | _, _ => (⟨d, op, t, pos, aft, none⟩ :: l, s)
  | n + 1, ⟨d, op, t, pos, aft, some (j, want)⟩ :: l, s => match (R[j]?).bind (·.dst) with
    | some g => match lk g s.sl, dOk nt d with
      | some (.b u), true => match eqB u want with
        | true => sq ty nt R n (⟨d, op, t, pos, aft, none⟩ :: l) s
        | false => sq ty nt R n l ⟨putS d (.v undef) s.sl, s.own, s.G, s.df⟩
      | _, _ => (⟨d, op, t, pos, aft, some (j, want)⟩ :: l, s)
    | none => (⟨d, op, t, pos, aft, some (j, want)⟩ :: l, s)

def SQ' (C : Ctx) (M : World → Prop) (R : Array Oper) (K : List KI) (x : List Oper × St) : Prop := SGo C (.q M R x.1 :: K) x.2

theorem q_opq {x : SV} (hd : dOk C.nt d = true) (hq : opQ C.ty s.sl s.own op = some x) (h : SGo C (.q (Mem C s.own s.G) R l :: K) ⟨putS d x s.sl, s.own, s.G, s.df⟩) : SGo C (.q (Mem C s.own s.G) R (⟨d, op, t, pos, aft, none⟩ :: l) :: K) s := by
  intro a w hS
  simp only [wpK, wpQuiet]
  rw [if_pos (by simp [Region.wanted])]
  refine ⟨x.den, fun w' hw' => ?_, ?_⟩
  · unfold Oper.quietAt
    rw [quiet_op (G := s.G) hq a w' d t pos aft none hS.sl hw'.hold]
    exact ⟨rfl, rfl⟩
  · have := h _ _ (hS.put hd x hS.mem)
    simpa only [wpK] using this

theorem sq_sound (C : Ctx) (R : Array Oper) (K : List KI) : ∀ (n : Nat) (l : List Oper) (s : St), SQ' C (Mem C s.own s.G) R K (sq C.ty C.nt R n l s) → SGo C (.q (Mem C s.own s.G) R l :: K) s := by
  intro n
  induction n with
  | zero => intro l s h; exact h
  | succ n ih =>
    intro l s h
    match l with
    | [] => exact h
    | ⟨d, op, t, pos, aft, none⟩ :: l =>
      cases hd : dOk C.nt d with
      | false => simpa only [SQ', sq, hd] using h
      | true =>
        cases ho : opQ C.ty s.sl s.own op with
        | none => simpa only [SQ', sq, hd, ho] using h
        | some r => exact q_opq hd ho (ih l ⟨putS d r s.sl, s.own, s.G, s.df⟩ (by simpa only [sq, hd, ho] using h))
    | ⟨d, op, t, pos, aft, some (j, want)⟩ :: l =>
      cases hj : (R[j]?).bind (·.dst) with
      | none => simpa only [SQ', sq, hj] using h
      | some g =>
        cases hl : lk g s.sl with
        | none => simpa only [SQ', sq, hj, hl] using h
        | some z =>
          cases z with
          | b u =>
            cases hd : dOk C.nt d with
            | false => simpa only [SQ', sq, hj, hl, hd] using h
            | true =>
              refine q_guard hj hd hl (fun e => ?_) (fun e => ?_)
              · have e' : eqB u want = true := by rw [e]; exact eqB_self _
                exact ih _ _ (by simpa only [sq, hj, hl, hd, e'] using h)
              · have e' : eqB u want = false := eqB_ne e
                exact ih l ⟨putS d (.v undef) s.sl, s.own, s.G, s.df⟩ (by simpa only [sq, hj, hl, hd, e'] using h)
          | _ => simpa only [SQ', sq, hj, hl] using h

theorem runq (n : Nat) {ty : TypeId → Option TI} {nt : Nat} (h1 : C.ty = ty) (h2 : C.nt = nt) (h : SQ' C (Mem C s.own s.G) R K (sq ty nt R n l s)) : SGo C (.q (Mem C s.own s.G) R l :: K) s := by
  subst h1 h2
  exact sq_sound C R K n l s h
end
end Go.Sx
namespace Go.Sx
set_option linter.unusedSimpArgs false
set_option linter.unusedVariables false
open Go.RowKit

section
variable {P : Program} {w : World}

theorem append_row (base : Nat) (t ty' e : TypeId) {te : TI} (ht : P.underlying t = some (.slice e)) (he : te.ok P e) (hsz : 0 < te.size)
    (v : Value) (n : Nat) (xs : List Value) (hown : w.ownsRow base e te.size v n xs)
    (a : Addr) (m c : Nat) (news : List Value) (hl : news.length = m * te.size) (hnews : ∀ j u, news[j]? = some u → w.cell? (a.add j) = some u) (h1 : ∀ u ∈ news, u.oneCell' = true)
    (h63 : n + m ≤ 9223372036854775807) (hbytes : (n + m) * te.bytes ≤ 140737488355328) (hbase : base ≤ w.heap.size) :
    ∃ v' w', (Builtin.append_ #[t, t] ty' #[v, .slice (some a) m c]).run P w = .ok v' w' ∧ w'.ownsRow base e te.size v' (n + m) (xs ++ news) ∧ w.grownBy w' v.ownBlock ∧
      (∀ g, v'.ownBlock = some g → v.ownBlock = some g ∨ w.heap.size ≤ g) := by
  obtain ⟨i, z, hi, hs, hb, hz, hc⟩ := he.info
  have hzs : z.cells.size = te.size := by rw [hc]; simpa using he.len
  have h63' : n + m ≤ maxLen := by simp only [maxLen]; omega
  obtain ⟨v', w', hr, g1, g2, g3⟩ := run_append_own (P := P) w base t ty' e i z te.size te.bytes ht hi hz hs hb hzs hsz v n xs hown a m c news hl hnews h1 h63' hbytes hbase
  refine ⟨v', w', hr, g1, g2, ?_⟩
  intro g hg
  rcases hown.2 with ⟨rfl, rfl⟩ | ⟨g0, cap, cur, rfl, hbg, hgg, hnc, hcm, hcs, htake⟩
  · right
    have hx : xs = [] := List.eq_nil_of_length_eq_zero (by simpa using hown.1)
    subst hx
    obtain ⟨v2, w2, hr2, k1, k2, k3⟩ := run_append_own (P := P) w w.heap.size t ty' e i z te.size te.bytes ht hi hz hs hb hzs hsz (.slice none 0 0) 0 [] (World.ownsRow_nil w _ e te.size) a m c news hl hnews h1 h63' hbytes (Nat.le_refl _)
    rw [hr] at hr2
    cases hr2
    exact (k1.lt g hg).1
  · by_cases hroom : n + m ≤ cap
    · left
      have hfit : n * te.size + news.length ≤ cur.size := by rw [hl, hcs, ← Nat.add_mul]; exact Nat.mul_le_mul_right _ hroom
      have hr2 := run_append_room (P := P) w t ty' e i ht hi g0 n cap cur hgg a m c news (by rw [hs]; exact hl) hnews h1 hroom (by rw [hs]; exact hfit)
      rw [hr] at hr2
      cases hr2
      exact hg
    · right
      have holds : ∀ j u, xs[j]? = some u → w.cell? ((⟨g0, 0, none⟩ : Addr).add j) = some u := hown.cells (g := g0) rfl
      have hr2 := run_append_grow (P := P) w t ty' e i z ht hi hz ⟨g0, 0, none⟩ n cap xs (by rw [hs]; exact hown.1) holds a m c news (by rw [hs]; exact hl) hnews (by omega) (by omega) (growslice_fits (by omega) (by rw [hb]; exact hbytes))
      rw [hr] at hr2
      cases hr2
      simp only [Value.ownBlock, Option.some.injEq] at hg
      omega
end

section
variable {C : Ctx} {K : List KI} {s : St} {R : Array Oper} {l : List Oper} {d : Option Tmp} {t : TypeId} {pos : String} {aft : Array Edge}

def Src (C : Ctx) (s : St) (y : SV) (m : Nat) (news : List Value) : Prop :=
  ∀ w, Mem C s.own s.G w → ∃ a c, y.den = .slice (some a) m c ∧ ∀ j u, news[j]? = some u → w.cell? (a.add j) = some u

theorem src_at {b off m c : Nat} {news : List Value} (h : At s.G b off news) : Src C s (.v (.slice (some ⟨b, off, none⟩) m c)) m news := by
  intro w hm
  obtain ⟨arr, e, fz, h1, h2, h3⟩ := h
  refine ⟨_, _, rfl, fun j u hu => ?_⟩
  have hj : j < news.length := by
    rcases Nat.lt_or_ge j news.length with q | q
    · exact q
    · rw [List.getElem?_eq_none q] at hu; cases hu
  rw [add_none, cell_at (hm.has _ _ h1), h3 j hj]; exact hu
theorem src_empty {a : Addr} {c : Nat} {y : SV} (hy : y.den = .slice (some a) 0 c) : Src C s y 0 [] := fun _ _ => ⟨a, c, hy, by simp⟩
theorem src_own {k b off m c : Nat} {e : TypeId} {cells r : List SV} (n : Nat) (hk : lk k s.own = some (b, .c e cells)) (hs : sub cells off n = some r) : Src C s (.s k b off m c) m (dens r) := by
  intro w hm
  obtain ⟨h1, h2⟩ := sub_ok _ _ _ _ hs
  have hh : w.heap[b]? = some (.cells (dens cells).toArray e) := (hm.own _ _ _ hk).1
  refine ⟨_, _, rfl, fun j u hu => ?_⟩
  rw [add_none, cell_at hh]
  rw [h2, dens_eq, List.map_take, List.map_drop, List.getElem?_take] at hu
  split at hu
  · rw [dens_eq]; simpa using hu
  · cases hu

theorem go_append (k : Nat) {x y : Operand} {T e : TypeId} {te : TI} {sz by' : Nat} {ze : List Value} {fl : List (Nat × Nat × Bool)} {b n m : Nat} {v : Value} {xs news : List Value} {z : SV} {vx : SV}
    (hd : dOk C.nt d = true) (hT : C.ty T = some ⟨.slice e, sz, by', ze, fl⟩) (he : C.ty e = some te) (hsz : 0 < te.size) (hx : ev s.sl x = some vx) (hvx : vx.den = v) (hk : lk k s.own = some (b, .row v e te.size n xs)) (hmh : C.mh ≤ k)
    (hy : ev s.sl y = some z) (hsrc : Src C s z m news) (hl : news.length = m * te.size) (h1 : ∀ u ∈ news, u.oneCell' = true) (h63 : n + m ≤ 9223372036854775807) (hbytes : (n + m) * te.bytes ≤ 140737488355328)
    (h : ∀ v', SGo C (.ops R l :: K) ⟨putS d (.v v') s.sl, stk k (b, .row v' e te.size (n + m) (xs ++ news)) s.own, s.G, s.df⟩) :
    SGo C (.ops R (⟨d, .call ⟨.builtin .append, #[x, y], #[T, T]⟩, t, pos, aft, none⟩ :: l) :: K) s := by
  intro a w hS
  have hxv := ev_ok hS.sl hx
  have hyv := ev_ok hS.sl hy
  rw [hvx] at hxv
  obtain ⟨ad, c, hz, hnews⟩ := hsrc w hS.mem
  rw [hz] at hyv
  have g1 := (C.tyok _ _ hT).k
  simp only [TK.fits] at g1
  obtain ⟨f1, f2⟩ := hS.mem.own _ _ _ hk
  simp only [OO.holds] at f1
  obtain ⟨v', w', hr, k1, k2, k3⟩ := append_row (P := C.P) (w := w) 0 T t e g1 (C.tyok _ _ he) hsz v n xs f1 ad m c news hl hnews h1 h63 hbytes (Nat.zero_le _)
  have hrun : (execOp a.eval ⟨d, .call ⟨.builtin .append, #[x, y], #[T, T]⟩, t, pos, aft, none⟩).run C.P w = .ok (.value v') w' := by
    simp only [execOp, resolve, invoke, builtin, Sem.run_bind, Sem.run_pure, Result.andThen_ok, List.map_toArray, List.map_cons, List.map_nil, hxv, hyv, hr]
  have hm' : Mem C (stk k (b, .row v' e te.size (n + m) (xs ++ news)) s.own) s.G w' :=
    hS.mem.put hk k2.os k2.tape k2.output k2.size (fun j hj hne => k2.block j hj (fun q => hne q.symm)) k1 (fun g => ⟨fun hg => k3 g hg, fun hg => k3 g hg⟩)
  refine K_value rfl hrun ?_
  have := h v' _ _ (hS.put hd (.v v') hm')
  simpa only [SV.den] using this

theorem go_append_nil (k : Nat) {x y : Operand} {T e : TypeId} {te : TI} {sz by' : Nat} {ze : List Value} {fl : List (Nat × Nat × Bool)} {b n c : Nat} {v : Value} {xs : List Value} {z : SV} {vx : SV}
    (hd : dOk C.nt d = true) (hT : C.ty T = some ⟨.slice e, sz, by', ze, fl⟩) (he : C.ty e = some te) (hx : ev s.sl x = some vx) (hvx : vx.den = v) (hk : lk k s.own = some (b, .row v e te.size n xs))
    (hy : ev s.sl y = some z) (hz : z.den = .slice none 0 c)
    (h : SGo C (.ops R l :: K) ⟨putS d (.v v) s.sl, s.own, s.G, s.df⟩) :
    SGo C (.ops R (⟨d, .call ⟨.builtin .append, #[x, y], #[T, T]⟩, t, pos, aft, none⟩ :: l) :: K) s := by
  intro a w hS
  have hxv := ev_ok hS.sl hx
  have hyv := ev_ok hS.sl hy
  rw [hvx] at hxv
  rw [hz] at hyv
  have g1 := (C.tyok _ _ hT).k
  simp only [TK.fits] at g1
  obtain ⟨f1, f2⟩ := hS.mem.own _ _ _ hk
  simp only [OO.holds] at f1
  have hr : (Builtin.append_ #[T, T] t #[v, .slice none 0 c]).run C.P w = .ok v w := by
    rcases f1.2 with ⟨rfl, rfl⟩ | ⟨g0, cap, cur, rfl, hbg, hgg, hnc, hcm, hcs, htake⟩
    · simp [Builtin.append_, run_und w g1, run_size w (C.tyok _ _ he), Builtin.lenOf, Builtin.firstCells]
    · simp [Builtin.append_, run_und w g1, run_size w (C.tyok _ _ he), Builtin.lenOf, Builtin.firstCells, hnc, storeCells]
  have hrun : (execOp a.eval ⟨d, .call ⟨.builtin .append, #[x, y], #[T, T]⟩, t, pos, aft, none⟩).run C.P w = .ok (.value v) w := by
    simp only [execOp, resolve, invoke, builtin, Sem.run_bind, Sem.run_pure, Result.andThen_ok, List.map_toArray, List.map_cons, List.map_nil, hxv, hyv, hr]
  refine K_value rfl hrun ?_
  have := h _ _ (hS.put hd (.v v) hS.mem)
  simpa only [SV.den] using this

theorem go_append_any (k : Nat) {x y : Operand} {T e : TypeId} {te : TI} {sz by' : Nat} {ze : List Value} {fl : List (Nat × Nat × Bool)} {b n m : Nat} {v : Value} {xs news : List Value} {z : SV} {vx : SV}
    (hd : dOk C.nt d = true) (hT : C.ty T = some ⟨.slice e, sz, by', ze, fl⟩) (he : C.ty e = some te) (hsz : 0 < te.size) (hx : ev s.sl x = some vx) (hvx : vx.den = v) (hk : lk k s.own = some (b, .row v e te.size n xs)) (hmh : C.mh ≤ k)
    (hy : ev s.sl y = some z) (hsrc : (∃ c, z.den = .slice none 0 c ∧ m = 0 ∧ news = []) ∨ Src C s z m news) (hl : news.length = m * te.size) (h1 : ∀ u ∈ news, u.oneCell' = true) (h63 : n + m ≤ 9223372036854775807) (hbytes : (n + m) * te.bytes ≤ 140737488355328)
    (h : ∀ v', SGo C (.ops R l :: K) ⟨putS d (.v v') s.sl, stk k (b, .row v' e te.size (n + m) (xs ++ news)) s.own, s.G, s.df⟩) :
    SGo C (.ops R (⟨d, .call ⟨.builtin .append, #[x, y], #[T, T]⟩, t, pos, aft, none⟩ :: l) :: K) s := by
  rcases hsrc with ⟨c, hz, rfl, rfl⟩ | hsrc
  · refine go_append_nil k hd hT he hx hvx hk hy hz ?_
    have := h v
    simp only [Nat.add_zero, List.append_nil] at this
    refine SGo.weaken (s' := ⟨putS d (.v v) s.sl, stk k (b, .row v e te.size n xs) s.own, s.G, s.df⟩) rfl rfl (fun _ _ e => .inl e) (fun i q e => ?_) this
    simp only [lk_stk] at e
    split at e
    · rename_i e'; subst e'; cases e; exact hk
    · exact e
  · exact go_append k hd hT he hsz hx hvx hk hmh hy hsrc hl h1 h63 hbytes h

theorem go_nilrow (k : Nat) (e : TypeId) (size : Nat) (hk : lk k s.own = none) (hmh : C.mh ≤ k) (h : SGo C K ⟨s.sl, stk k (0, .row (.slice none 0 0) e size 0 []) s.own, s.G, s.df⟩) : SGo C K s := by
  intro a w hS
  refine h a w ⟨hS.sl, hS.nt, hS.df, ?_⟩
  exact hS.mem.new hk hmh rfl rfl rfl (Nat.le_refl _) (fun _ _ => rfl) (World.ownsRow_nil w _ e size) (fun g hg => by simp [OO.blks, Value.ownBlock] at hg)

theorem go_litrow (k : Nat) {b n size : Nat} {e : TypeId} {cells : List SV} (hk : lk k s.own = some (b, .c e cells)) (hmh : C.mh ≤ k) (hn : cells.length = n * size) (hn63 : n ≤ 9223372036854775807)
    (h : SGo C K ⟨s.sl, stk k (b, .row (.slice (some ⟨b, 0, none⟩) n n) e size n (dens cells)) s.own, s.G, s.df⟩) : SGo C K s := by
  intro a w hS
  refine h a w ⟨hS.sl, hS.nt, hS.df, ?_⟩
  obtain ⟨f1, f2⟩ := hS.mem.own _ _ _ hk
  simp only [OO.holds] at f1
  have hb := f2 b rfl
  refine hS.mem.put hk rfl rfl rfl (Nat.le_refl _) (fun _ _ _ => rfl) ?_ (fun g => ⟨fun hg => .inl (by simp [OO.blks, Value.ownBlock] at hg ⊢; exact hg.symm), fun hg => .inl (by simp [OO.mut, Value.ownBlock] at hg ⊢; exact hg.symm)⟩)
  refine ⟨by rw [dens_eq]; simpa using hn, .inr ⟨b, n, _, rfl, Nat.zero_le _, f1, Nat.le_refl _, by simp only [maxLen]; omega, by rw [dens_eq]; simpa using hn, ?_⟩⟩
  rw [dens_eq]
  simp only [List.take_of_length_le (show (List.map SV.den cells).length ≤ n * size by simp; omega)]

theorem go_rowcases (k : Nat) {b n size : Nat} {e : TypeId} {v : Value} {xs : List Value} (hk : lk k s.own = some (b, .row v e size n xs))
    (h1 : v = .slice none 0 0 → n = 0 → xs = [] → SGo C K s) (h2 : ∀ g cap, v = .slice (some ⟨g, 0, none⟩) n cap → n ≤ cap → xs.length = n * size → SGo C K s) : SGo C K s := by
  intro a w hS
  obtain ⟨f1, f2⟩ := hS.mem.own _ _ _ hk
  simp only [OO.holds] at f1
  rcases f1.2 with ⟨q1, q2⟩ | ⟨g0, cap, cur, q1, hbg, hgg, hnc, hcm, hcs, htake⟩
  · exact h1 q1 q2 (List.eq_nil_of_length_eq_zero (by have := f1.1; rw [q2] at this; simpa using this)) a w hS
  · exact h2 g0 cap q1 hnc f1.1 a w hS

theorem go_pubrow (k : Nat) {b n size g cap : Nat} {e : TypeId} {xs : List Value} (hk : lk k s.own = some (b, .row (.slice (some ⟨g, 0, none⟩) n cap) e size n xs)) (hmh : C.mh ≤ k)
    (h : ∀ G', Le s.G G' → At G' g 0 xs → SGo C K ⟨s.sl, rmk k s.own, G', s.df⟩) : SGo C K s := by
  intro a w hS
  obtain ⟨f1, f2⟩ := hS.mem.own _ _ _ hk
  simp only [OO.holds] at f1
  have hat := row_load (P := C.P) f1
  obtain ⟨arr, e', fz, q1, q2, q3⟩ := hat
  -- the same state, the row seen as one block as a whole
  have hblk : (OO.row (.slice (some ⟨g, 0, none⟩) n cap) e size n xs).blks b g := rfl
  have hg := f2 g hblk
  have hm' : Mem C (stk k (g, .o (.cells arr e' fz)) s.own) s.G w :=
    hS.mem.put hk rfl rfl rfl (Nat.le_refl _) (fun _ _ _ => rfl) q1 (fun j => ⟨fun hj => .inl (by simp [OO.blks, Value.ownBlock] at hj ⊢; exact hj.symm), fun hj => .inl (by simp [OO.mut, Value.ownBlock] at hj ⊢; exact hj.symm)⟩)
  have key : SGo C K ⟨s.sl, stk k (g, .o (.cells arr e' fz)) s.own, s.G, s.df⟩ := by
    refine go_pubx k (o := .o (.cells arr e' fz)) (b := g) (g := g) (x := .cells arr e' fz) (by simp [lk_stk]) hmh rfl (fun _ hw => hw) ?_
    intro G' hle hG
    have := h G' hle ⟨arr, e', fz, hG, q2, q3⟩
    refine SGo.weaken (s' := ⟨s.sl, rmk k s.own, G', s.df⟩) rfl rfl (fun _ _ e => .inl e) (fun i x e => ?_) this
    simp only [lk_rmk, lk_stk] at e ⊢
    split at e
    · cases e
    · rename_i hne; rw [if_neg hne, if_neg hne]; exact e
  exact key a w ⟨hS.sl, hS.nt, hS.df, hm'⟩

theorem go_make (k : Nat) {x y : Operand} {T e : TypeId} {te : TI} {sz by' : Nat} {ze : List Value} {fl : List (Nat × Nat × Bool)} {n c : Nat} {k1 k2 : IntKind}
    (hd : dOk C.nt d = true) (hT : C.ty T = some ⟨.slice e, sz, by', ze, fl⟩) (he : C.ty e = some te) (hx : ev s.sl x = some (.v (.int k1 n))) (hy : ev s.sl y = some (.v (.int k2 c))) (hnc : n ≤ c)
    (hk : lk k s.own = none) (hmh : C.mh ≤ k) (h63 : c ≤ 9223372036854775807) (hbytes : te.bytes * c ≤ 281474976710656) (hz : te.zero ≠ [])
    (h : ∀ g, SGo C (.ops R l :: K) ⟨putS d (.v (.slice (some ⟨g, 0, none⟩) n c)) s.sl, stk k (g, .row (.slice (some ⟨g, 0, none⟩) n c) e te.size n (rep te.zero n)) s.own, s.G, s.df⟩) :
    SGo C (.ops R (⟨d, .makeSlice T x y, t, pos, aft, none⟩ :: l) :: K) s := by
  intro a w hS
  have hxv := ev_ok hS.sl hx
  have hyv := ev_ok hS.sl hy
  simp only [SV.den] at hxv hyv
  have g1 := (C.tyok _ _ hT).k
  simp only [TK.fits] at g1
  obtain ⟨i, z, hi, hs, hb, hzz, hc⟩ := (C.tyok _ _ he).info
  have hlen := (C.tyok _ _ he).len
  have hb' : (i.bytes : Int) * (c : Int) ≤ 281474976710656 := by
    have q : ((i.bytes * c : Nat) : Int) ≤ 281474976710656 := by rw [hb]; omega
    rwa [Int.natCast_mul] at q
  have hr := run_make (P := C.P) w T e i z g1 hi hzz k1 k2 n c (by omega) (by omega) hb' (by omega)
  simp only [Int.toNat_natCast] at hr
  have hrun : (execOp a.eval ⟨d, .makeSlice T x y, t, pos, aft, none⟩).run C.P w = .ok (.value (.slice (some ⟨w.heap.size, 0, none⟩) n c)) (w.alloc (.cells (madeCells z.cells (c * i.size)) e)) := by
    simp only [execOp, hxv, hyv, Sem.run_bind, hr, Result.andThen_ok, Sem.run_pure]
  have hmade : (madeCells z.cells (c * i.size)).toList = rep te.zero c := by
    rw [hc, hs, ← hlen]
    exact rep_ok te.zero hz c
  have hrl : ∀ q, (rep te.zero q).length = q * te.size := by
    intro q
    induction q with
    | zero => simp [rep]
    | succ q ih => simp only [rep, List.length_append, ih, hlen, Nat.succ_mul]; omega
  have hrt : ∀ q p, q ≤ p → (rep te.zero p).take (q * te.size) = rep te.zero q := by
    intro q
    induction q with
    | zero => intro p _; simp [rep]
    | succ q ih =>
      intro p hp
      obtain ⟨p', rfl⟩ : ∃ p', p = p' + 1 := ⟨p - 1, by omega⟩
      simp only [rep, Nat.succ_mul]
      rw [Nat.add_comm, List.take_append, hlen, show te.size + q * te.size - te.size = q * te.size by omega, ih p' (by omega), List.take_of_length_le (by omega)]
  have hm' : Mem C (stk k (w.heap.size, .row (.slice (some ⟨w.heap.size, 0, none⟩) n c) e te.size n (rep te.zero n)) s.own) s.G (w.alloc (.cells (madeCells z.cells (c * i.size)) e)) := by
    refine hS.mem.new hk hmh rfl rfl rfl (by simp) (fun j hj => alloc_old w _ hj) ?_ (fun g hg => by simp only [OO.blks, Value.ownBlock, Option.some.injEq] at hg; omega)
    refine ⟨hrl n, .inr ⟨_, c, _, rfl, Nat.zero_le _, alloc_new w _, hnc, by simp only [maxLen]; omega, ?_, ?_⟩⟩
    · rw [← Array.length_toList, hmade, hrl]
    · rw [hmade, hrt n c hnc]
  refine K_value rfl hrun ?_
  have := h _ _ _ (hS.put hd (.v (.slice (some ⟨w.heap.size, 0, none⟩) n c)) hm')
  simpa only [SV.den] using this

theorem go_storeR (k : Nat) {T e : TypeId} {x y : Operand} {ti : TI} {b b' off n cap size : Nat} {xs xs' : List Value} {z : SV} {vs : List SV}
    (hd : dOk C.nt d = true) (hT : C.ty T = some ti) (hx : ev s.sl x = some (.v (.pointer (some ⟨b, off, none⟩)))) (hy : ev s.sl y = some z) (hcs : z.cs = some vs) (hlen : vs.length = ti.size) (hone : vs.all SV.one = true)
    (hk : lk k s.own = some (b', .row (.slice (some ⟨b, 0, none⟩) n cap) e size n xs)) (hlay : lay xs off (dens vs) = some xs')
    (h : SGo C (.ops R l :: K) ⟨putS d (.v undef) s.sl, stk k (b', .row (.slice (some ⟨b, 0, none⟩) n cap) e size n xs') s.own, s.G, s.df⟩) : SGo C (.ops R (⟨d, .store T x y, t, pos, aft, none⟩ :: l) :: K) s := by
  intro a w hS
  have hxv := ev_ok hS.sl hx
  have hyv := ev_ok hS.sl hy
  simp only [SV.den] at hxv
  have hc := SV.cs_ok hcs
  have hsz : (dens vs).toArray.size = ti.size := by simp [dens_eq, hlen]
  obtain ⟨f1, f2⟩ := hS.mem.own _ _ _ hk
  simp only [OO.holds] at f1
  rcases f1.2 with ⟨q1, q2⟩ | ⟨g0, cap', cur, q1, hbg, hgg, hnc, hcm, hcss, htake⟩
  · cases q1
  cases q1
  -- the cells beyond the slice's length stay
  have hlay2 : ∀ (l1 l2 : List Value) (o : Nat) (us l' : List Value), lay l1 o us = some l' → lay (l1 ++ l2) o us = some (l' ++ l2) := by
    intro l1
    induction l1 with
    | nil => intro l2 o us l' hl; cases us with
      | nil => simp [lay] at hl; subst hl; cases l2 <;> cases o <;> simp [lay]
      | cons u us => cases o <;> simp [lay] at hl
    | cons q l1 ih =>
      intro l2 o us l' hl
      cases us with
      | nil => cases o <;> simp [lay] at hl <;> subst hl <;> simp [lay]
      | cons u us =>
        cases o with
        | zero =>
          simp only [lay, Option.map_eq_some_iff] at hl
          obtain ⟨r, h1, rfl⟩ := hl
          simp [lay, ih l2 0 us r h1]
        | succ o =>
          simp only [lay, Option.map_eq_some_iff] at hl
          obtain ⟨r, h1, rfl⟩ := hl
          simp [lay, ih l2 o (u :: us) r h1]
  have hlaylen : ∀ (l1 : List Value) (o : Nat) (us l' : List Value), lay l1 o us = some l' → l'.length = l1.length := by
    intro l1 o us
    induction us generalizing l1 o with
    | nil => intro l' hl; cases l1 <;> cases o <;> simp [lay] at hl <;> subst hl <;> rfl
    | cons u us ih =>
      intro l' hl
      obtain ⟨_, h2⟩ := lay_step _ _ _ _ _ hl
      rw [ih _ _ _ h2]; simp
  have hcur : cur.toList = xs ++ cur.toList.drop (n * size) := by rw [← htake]; simp
  have hl2 := hlay2 xs (cur.toList.drop (n * size)) off (dens vs) xs' hlay
  rw [← hcur] at hl2
  have hgg' : w.heap[b]? = some (.cells cur.toList.toArray e) := by simpa using hgg
  have hst := run_storeCells (P := C.P) (off := off) (dens vs) 0 w cur.toList (xs' ++ cur.toList.drop (n * size)) hgg' (fun u hu => by
    rw [dens_eq, List.mem_map] at hu
    obtain ⟨q, hq, rfl⟩ := hu
    exact SV.one_ok (List.all_eq_true.1 hone q hq)) (by simpa using hl2)
  have hrun : (execOp a.eval ⟨d, .store T x y, t, pos, aft, none⟩).run C.P w = .ok .skip (setBlk w b (.cells (xs' ++ cur.toList.drop (n * size)).toArray e)) := by
    simp only [execOp, hxv, hyv, Instr.storeAt, Instr.sureAddr, storeVar, Sem.run_bind, Sem.run_pure, Result.andThen_ok, run_size w (C.tyok _ _ hT), hc, hsz]
    simp only [ne_eq, not_true_eq_false, if_false, Sem.run_pure, Result.andThen_ok]
    rw [hst]; simp
  have hlt := lt_of_heap hgg
  have hxl := hlaylen _ _ _ _ hlay
  have hm' : Mem C (stk k (b', .row (.slice (some ⟨b, 0, none⟩) n cap) e size n xs') s.own) s.G (setBlk w b (.cells (xs' ++ cur.toList.drop (n * size)).toArray e)) := by
    refine hS.mem.put hk rfl rfl rfl (by rw [setBlk_size]; exact Nat.le_refl _) (fun j _ hj => setBlk_ne (fun q => hj (by rw [q]; rfl)) _) ?_ (fun g => ⟨.inl, .inl⟩)
    refine ⟨by rw [hxl]; exact f1.1, .inr ⟨b, cap, _, rfl, hbg, setBlk_same hlt _, hnc, hcm, ?_, ?_⟩⟩
    · have h3 : n * size ≤ cap * size := Nat.mul_le_mul_right _ hnc
      have h4 := f1.1
      simp only [List.size_toArray, List.length_append, List.length_drop, Array.length_toList, hxl, hcss]; omega
    · rw [List.take_append_of_le_length (by rw [hxl, f1.1]; exact Nat.le_refl _), List.take_of_length_le (by rw [hxl, f1.1]; exact Nat.le_refl _)]
  refine K_skip rfl hrun ?_
  have := h _ _ (hS.put hd (.v undef) hm')
  simpa only [SV.den] using this


def AllIn (own0 own : List (Nat × Nat × OO)) : Prop :=
  match own0 with
  | [] => True
  | x :: r => lk x.1 own = some x.2 ∧ AllIn r own
theorem allIn {own0 own : List (Nat × Nat × OO)} (h : AllIn own0 own) : ∀ j y, lk j own0 = some y → lk j own = some y := by
  induction own0 with
  | nil => intro j y e; simp [lk] at e
  | cons x r ih =>
    intro j y e
    simp only [lk] at e
    split at e
    · rename_i q; cases e; rw [q]; exact h.1
    · exact ih h.2 j y e

theorem go_held {id : Nat} (own0 : List (Nat × Nat × OO)) (hm : C.P.follows .mixedOrders = true) (h : SGo C (.h (Hold C own0 s.G) R R.size (Array.replicate R.size false) :: K) s) : SGo C (.code (.region id R true) :: K) s := by
  intro a w hS
  have := h a _ (⟨hS.sl, hS.nt, hS.df, hS.mem.drew⟩ : Sat C s a w.drew)
  simp only [wpK] at this ⊢
  exact wpIn_region_held (S := Hold C own0 s.G) hm this

def QP (C : Ctx) : Prop := ∀ c (a : Act) w d v, C.Q (.panic c) (a.put d v) w → C.Q (.panic c) a w
theorem qp_body {fn : Func} {Rr : Ending → World → Prop} (hQ : C.Q = bodyPost C.P fn Rr) : QP C := by
  intro c a w d v hp
  rw [hQ] at hp ⊢
  refine ⟨?_, hp.2⟩
  have := hp.1
  cases d <;> exact this

theorem h_take (i : Nat) {own0 : List (Nat × Nat × OO)} {G0 : Hp} {n : Nat} {listed : Array Bool} {op : Op} {x : SV} (hi : R[i]? = some ⟨d, op, t, pos, aft, none⟩) (hs : Region.noSelect R = true) (hf : Region.free .any R listed i = true)
    (hr : (Region.ready .any R listed).contains i = true) (hQ : QP C) (hd : dOk C.nt d = true) (ho : ∀ j y, lk j own0 = some y → lk j s.own = some y) (hG : Le G0 s.G)
    (hq : Quiet C s.sl own0 G0 op x.den) (h : SGo C (.h (Hold C own0 G0) R n (listed.setIfInBounds i true) :: K) ⟨putS d x s.sl, s.own, s.G, s.df⟩) :
    SGo C (.h (Hold C own0 G0) R (n + 1) listed :: K) s := by
  intro a w hS
  have hhold : Hold C own0 G0 w := ⟨fun k b o e => (hS.mem.own k b o (ho _ _ e)).1, fun b o e => hS.mem.has b o (hG b o e)⟩
  have := h _ _ (hS.put hd x hS.mem)
  simp only [wpK] at this ⊢
  refine wpAnyHI_take (i := i) (v := x.den) hi hs hf hr ?_ (.inl ⟨by simp [Region.wanted], fun w' hw' => hq a w' d t pos aft none hS.sl hw'⟩) hhold this
  intro c a' w' hp
  exact wpK_panic c d x.den (fun a w => hQ c a w d x.den) K a' w' hp

theorem h_step {own0 : List (Nat × Nat × OO)} {G0 : Hp} {n : Nat} {listed : Array Bool} {i : Nat} {o : Oper} {a : Act} {w : World} (hi : R[i]? = some o)
    (this : wpK C.P C.ro C.Q (.ops R [o] :: .hs (Hold C own0 G0) :: .h (Hold C own0 G0) R n (listed.setIfInBounds i true) :: K) .normal a w) :
    wpOpIn (FR C.ro) 0 C.P R (wpK C.P C.ro C.Q K) i (fun a' w' => Hold C own0 G0 w' ∧ wpAnyHI C.P C.ro .any R (wpK C.P C.ro C.Q K) (Hold C own0 G0) n (listed.setIfInBounds i true) a' w') a w := by
  simp only [wpK] at this
  unfold wpOpIn
  simp only [hi]
  simp only [wpListIn] at this
  split
  · rename_i hw
    rw [if_pos hw] at this
    refine ⟨this.1, ?_⟩
    have q := this.2
    generalize (o.semAt (FR C.ro).round a.eval).run C.P w = r at q ⊢
    cases r with
    | ok nx w' =>
      cases nx <;> simp only [Oper.uponIn] at q ⊢
      case value u => simpa only [wpK] using q
      case skip => simpa only [wpK] using q
      case defer u => simpa only [wpK] using q
      case enter f args =>
        refine ⟨q.1, q.2.mono fun e w'' he => ?_⟩
        cases e with
        | returned u => simpa only [wpK] using he
        | panicked c => exact he
        | outgrown => simpa only [LetsOut, wpK] using he
      case row row args => exact ⟨q.1, q.2.mono fun u w'' he => by simpa only [wpK] using he⟩
      case round l f tmps assign body =>
        refine ⟨q.1, q.2.mono fun e w'' he => ?_⟩
        cases e with
        | returned u => simpa only [wpK] using he
        | panicked c => exact he
        | outgrown => simpa only [LetsOut, wpK] using he
    | halt x w' =>
      cases x <;> simp only [Oper.uponIn] at q ⊢
      case panic u => exact q
  · rename_i hw
    rw [if_neg hw] at this
    refine ⟨this.1, ?_⟩
    have := this.2
    simpa only [wpK] using this

theorem h_one (i : Nat) {own0 : List (Nat × Nat × OO)} {G0 : Hp} {n : Nat} {listed : Array Bool} {op : Op} {g : Option (Nat × Bool)} (hi : R[i]? = some ⟨d, op, t, pos, aft, g⟩) (hr : Region.ready .any R listed = [i])
    (h : SGo C (.ops R [⟨d, op, t, pos, aft, g⟩] :: .hs (Hold C own0 G0) :: .h (Hold C own0 G0) R n (listed.setIfInBounds i true) :: K) s) : SGo C (.h (Hold C own0 G0) R (n + 1) listed :: K) s := by
  intro a w hS
  have := h a w hS
  show wpAnyHI _ _ _ _ _ _ _ _ _ _
  refine wpAnyHI_all hr (by simp) ?_
  intro j hj
  simp only [List.mem_singleton] at hj
  subst hj
  exact h_step hi this

theorem h_two (i j : Nat) {own0 : List (Nat × Nat × OO)} {G0 : Hp} {n : Nat} {listed : Array Bool} {op op' : Op} {g g' : Option (Nat × Bool)} {d' : Option Tmp} {t' : TypeId} {pos' : String} {aft' : Array Edge} (hi : R[i]? = some ⟨d, op, t, pos, aft, g⟩) (hj : R[j]? = some ⟨d', op', t', pos', aft', g'⟩) (hr : Region.ready .any R listed = [i, j])
    (h : SGo C (.ops R [⟨d, op, t, pos, aft, g⟩] :: .hs (Hold C own0 G0) :: .h (Hold C own0 G0) R n (listed.setIfInBounds i true) :: K) s)
    (h' : SGo C (.ops R [⟨d', op', t', pos', aft', g'⟩] :: .hs (Hold C own0 G0) :: .h (Hold C own0 G0) R n (listed.setIfInBounds j true) :: K) s) : SGo C (.h (Hold C own0 G0) R (n + 1) listed :: K) s := by
  intro a w hS
  have h1 := h a w hS
  have h2 := h' a w hS
  show wpAnyHI _ _ _ _ _ _ _ _ _ _
  refine wpAnyHI_all hr (by simp) ?_
  intro q hq
  simp only [List.mem_cons, List.not_mem_nil, or_false] at hq
  rcases hq with rfl | rfl
  · exact h_step hi h1
  · exact h_step hj h2

theorem h_hs {own0 : List (Nat × Nat × OO)} {G0 : Hp} (ho : ∀ j y, lk j own0 = some y → lk j s.own = some y) (hG : Le G0 s.G) (h : SGo C K s) : SGo C (.hs (Hold C own0 G0) :: K) s := by
  intro a w hS
  exact ⟨⟨fun k b o e => (hS.mem.own k b o (ho _ _ e)).1, fun b o e => hS.mem.has b o (hG b o e)⟩, h a w hS⟩

theorem h_end {own0 : List (Nat × Nat × OO)} {G0 : Hp} {n : Nat} {listed : Array Bool} (hr : Region.ready .any R listed = []) (h : SGo C K s) : SGo C (.h (Hold C own0 G0) R n listed :: K) s := by
  intro a w hS
  exact wpAnyHI_done hr (h a w hS) n
end
end Go.Sx
namespace Go.Sx
set_option linter.unusedSimpArgs false
set_option linter.unusedVariables false
open Go.RowKit


def tag : Code → Nat
  | .skip => 0
  | .seq _ _ => 1
  | .block _ _ => 2
  | .region _ _ false => 3
  | .exit _ => 4
  | .cond _ _ _ => 5
  | .loop _ => 6
  | .ret => 7
  | .label _ => 8
  | .region _ _ true => 9
  | .rangeFunc _ _ _ _ => 10
  | .scope _ => 11
  | .goto _ => 12
  | .refuse _ => 13
def c1 : Code → Code
  | .seq a _ => a
  | .block _ a => a
  | .cond _ a _ => a
  | .loop a => a
  | .scope a => a
  | .rangeFunc _ _ a _ => a
  | _ => .skip
def c2 : Code → Code
  | .seq _ b => b
  | .cond _ _ b => b
  | .rangeFunc _ _ _ b => b
  | _ => .skip
def cid : Code → Nat
  | .block i _ => i
  | .exit i => i
  | .label i => i
  | .goto i => i
  | .region i _ _ => i
  | _ => 0
def cop : Code → Operand
  | .cond c _ _ => c
  | .rangeFunc f _ _ _ => f
  | _ => .tmp 0
def cops : Code → Array Oper
  | .region _ R _ => R
  | _ => #[]

def so (ty : TypeId → Option TI) (nt mh : Nat) (R : Array Oper) : Nat → List Nat → List Oper → St → List Oper × St
  | 0, _, l, s => (l, s)
  | _ + 1, _, [], s => ([], s)
  | n + 1, bs, ⟨d, op, t, pos, aft, none⟩ :: l, s => match dOk nt d, opQ ty s.sl s.own op with
    | true, some r => so ty nt mh R n bs l ⟨putS d r s.sl, s.own, s.G, s.df⟩
    | true, none => match opStore ty s.sl s.own op with
      | some own' => so ty nt mh R n bs l ⟨putS d (.v undef) s.sl, own', s.G, s.df⟩
      | none => match opAlloc ty s.sl op, bs with
        | some r, b :: bs' => so ty nt mh R n bs' l ⟨putS d (r.2.2 (fk mh s.own) b) s.sl, stk (fk mh s.own) (b, .c r.1 r.2.1) s.own, s.G, s.df⟩
        | _, _ => (⟨d, op, t, pos, aft, none⟩ :: l, s)
    | false, _ => (⟨d, op, t, pos, aft, none⟩ :: l, s)
  | n + 1, bs, ⟨d, op, t, pos, aft, some (j, want)⟩ :: l, s => match (R[j]?).bind (·.dst) with
    | some g => match lk g s.sl, dOk nt d with
      | some (.b u), true => match eqB u want with
        | true => so ty nt mh R n bs (⟨d, op, t, pos, aft, none⟩ :: l) s
        | false => so ty nt mh R n bs l ⟨putS d (.v undef) s.sl, s.own, s.G, s.df⟩
      | _, _ => (⟨d, op, t, pos, aft, some (j, want)⟩ :: l, s)
    | none => (⟨d, op, t, pos, aft, some (j, want)⟩ :: l, s)

def SO' (C : Ctx) (R : Array Oper) (K : List KI) (x : List Oper × St) : Prop := SGo C (.ops R x.1 :: K) x.2

section
variable {C : Ctx} {K : List KI} {s : St} {k : Code} {R : Array Oper} {l : List Oper}

theorem so_sound (C : Ctx) (R : Array Oper) (K : List KI) : ∀ (n j : Nat) (l : List Oper) (s : St), (∀ bs : List Nat, bs.length = j → SO' C R K (so C.ty C.nt C.mh R n bs l s)) → SGo C (.ops R l :: K) s := by
  intro n
  induction n with
  | zero => intro j l s h; exact h (List.replicate j 0) (by simp)
  | succ n ih =>
    intro k l s h
    have base := h (List.replicate k 0) (by simp)
    match l with
    | [] => exact base
    | ⟨d, op, t, pos, aft, none⟩ :: l =>
      cases hd : dOk C.nt d with
      | false => simpa only [SO', so, hd] using base
      | true =>
        cases ho : opQ C.ty s.sl s.own op with
        | some r => exact go_op (o := ⟨d, op, t, pos, aft, none⟩) rfl hd ho (ih k _ _ fun bs hb => by simpa only [so, hd, ho] using h bs hb)
        | none =>
          cases hs : opStore C.ty s.sl s.own op with
          | some own' => exact go_st (o := ⟨d, op, t, pos, aft, none⟩) rfl hd hs (ih k _ _ fun bs hb => by simpa only [so, hd, ho, hs] using h bs hb)
          | none =>
            cases hn : opAlloc C.ty s.sl op with
            | none => simpa only [SO', so, hd, ho, hs, hn] using base
            | some r =>
              cases k with
              | zero =>
                have := h [] rfl
                simpa only [SO', so, hd, ho, hs, hn] using this
              | succ k =>
                exact go_new (o := ⟨d, op, t, pos, aft, none⟩) rfl hd hn fun b => ih k _ _ fun bs hb => by
                  have := h (b :: bs) (by simp [hb])
                  simpa only [so, hd, ho, hs, hn] using this
    | ⟨d, op, t, pos, aft, some (j, want)⟩ :: l =>
      cases hj : (R[j]?).bind (·.dst) with
      | none => simpa only [SO', so, hj] using base
      | some g =>
        cases hl : lk g s.sl with
        | none => simpa only [SO', so, hj, hl] using base
        | some z =>
          cases z with
          | b u =>
            cases hd : dOk C.nt d with
            | false => simpa only [SO', so, hj, hl, hd] using base
            | true =>
              refine go_guarded hj hd hl (fun e => ?_) (fun e => ?_)
              · have e' : eqB u want = true := by rw [e]; exact eqB_self _
                exact ih k _ _ fun bs hb => by simpa only [so, hj, hl, hd, e'] using h bs hb
              · have e' : eqB u want = false := eqB_ne e
                exact ih k _ _ fun bs hb => by simpa only [so, hj, hl, hd, e'] using h bs hb
          | _ => simpa only [SO', so, hj, hl] using base

theorem runo0 (n : Nat) {ty : TypeId → Option TI} {nt mh : Nat} (h1 : C.ty = ty) (h2 : C.nt = nt) (h3 : C.mh = mh) (h : SO' C R K (so ty nt mh R n [] l s)) : SGo C (.ops R l :: K) s := by
  subst h1 h2 h3
  exact so_sound C R K n 0 l s fun bs hb => by rw [List.length_eq_zero_iff.1 hb]; exact h
theorem x_skip (ht : tag k = 0) (h : SGo C K s) : SGo C (.code k :: K) s := by
  cases k <;> simp_all [tag]
  · exact go_skip h
  · rename_i a b c; cases c <;> simp at ht
theorem x_label (ht : tag k = 8) (h : SGo C K s) : SGo C (.code k :: K) s := by
  cases k <;> simp_all [tag]
  · rename_i a b c; cases c <;> simp at ht
  · exact go_label h
theorem x_seq (ht : tag k = 1) (h : SGo C (.code (c1 k) :: .code (c2 k) :: K) s) : SGo C (.code k :: K) s := by
  cases k <;> simp [tag] at ht
  · rename_i a b c; cases c <;> simp at ht
  · exact go_seq h
theorem x_blk (ht : tag k = 2) {id : Nat} (hi : cid k = id) (h : SGo C (.code (c1 k) :: .blk id :: K) s) : SGo C (.code k :: K) s := by
  subst hi
  cases k <;> simp [tag] at ht
  · rename_i a b c; cases c <;> simp at ht
  · exact go_block h
theorem x_exit (ht : tag k = 4) {id : Nat} (hi : cid k = id) {K' : List KI} (hp : popTo id K = some K') (h : SGo C K' s) : SGo C (.code k :: K) s := by
  subst hi
  cases k <;> simp [tag] at ht
  · rename_i a b c; cases c <;> simp at ht
  · exact go_exit hp h
theorem x_reg (ht : tag k = 3) {o : Oper} (hR : cops k = (o :: l).toArray) (h : SGo C (.ops (o :: l).toArray (o :: l) :: K) s) : SGo C (.code k :: K) s := by
  cases k <;> simp [tag] at ht
  rename_i a b c
  cases c <;> simp at ht
  simp only [cops] at hR
  subst hR
  exact go_region h
theorem x_if (ht : tag k = 5) {c : Operand} (hc : cop k = c) {z : SV} {t : Bool} (hz : ev s.sl c = some z) (hzt : z.den = .bool t) (h1 : t = true → SGo C (.code (c1 k) :: K) s) (h2 : t = false → SGo C (.code (c2 k) :: K) s) : SGo C (.code k :: K) s := by
  subst hc
  cases k <;> simp [tag] at ht
  · rename_i a b c; cases c <;> simp at ht
  · exact go_if hz hzt h1 h2
theorem x_ift (ht : tag k = 5) {c : Operand} (hc : cop k = c) (hz : ev s.sl c = some (.b true)) (h : SGo C (.code (c1 k) :: K) s) : SGo C (.code k :: K) s :=
  x_if ht hc hz rfl (fun _ => h) (fun e => by cases e)
theorem x_iff (ht : tag k = 5) {c : Operand} (hc : cop k = c) (hz : ev s.sl c = some (.b false)) (h : SGo C (.code (c2 k) :: K) s) : SGo C (.code k :: K) s :=
  x_if ht hc hz rfl (fun e => by cases e) (fun _ => h)
theorem x_split (ht : tag k = 5) {d : Nat} (hc : cop k = .tmp d) {t : Bool} (hz : lk d s.sl = some (.v (.bool t))) (h1 : t = true → SGo C (.code k :: K) ⟨stk d (.b true) s.sl, s.own, s.G, s.df⟩) (h2 : t = false → SGo C (.code k :: K) ⟨stk d (.b false) s.sl, s.own, s.G, s.df⟩) : SGo C (.code k :: K) s :=
  go_split d hz h1 h2
theorem x_loop (ht : tag k = 6) (I : Nat → St → Prop) {n : Nat} (h0 : I n s)
    (step : ∀ n s, I n s → (∀ m s', m < n → I m s' → SGo C (.loop (c1 k) :: K) s') → SGo C (.code (c1 k) :: .loop (c1 k) :: K) s) : SGo C (.code k :: K) s := by
  cases k <;> simp [tag] at ht
  · rename_i a b c; cases c <;> simp at ht
  · exact go_loop I h0 step
theorem x_draw (ht : tag k = 9) (hm : C.P.follows .mixedOrders = true) {o : Oper} (hR : cops k = (o :: l).toArray) (hB : Region.lexB .any (o :: l).toArray = true) (h : SGo C (.q (Mem C s.own s.G) (o :: l).toArray (o :: l) :: K) s) : SGo C (.code k :: K) s := by
  cases k <;> simp [tag] at ht
  rename_i a b c
  cases c <;> simp at ht
  simp only [cops] at hR
  subst hR
  exact go_draw hm hB h
theorem x_held (own0 : List (Nat × Nat × OO)) (ht : tag k = 9) (hm : C.P.follows .mixedOrders = true) {o : Oper} (hR : cops k = (o :: l).toArray) {n : Nat} (hn : (o :: l).length = n) {ls : List Bool} (hls : List.replicate n false = ls) (h : SGo C (.h (Hold C own0 s.G) (o :: l).toArray n ls.toArray :: K) s) : SGo C (.code k :: K) s := by
  subst hls hn
  cases k <;> simp [tag] at ht
  rename_i a b c
  cases c <;> simp at ht
  simp only [cops] at hR
  subst hR
  refine go_held own0 hm ?_
  simpa using h
theorem x_ret (ht : tag k = 7) {fn : Func} {mb : List Nat} {φ : Value → Hp → Prop} (hQ : C.Q = bodyPost C.P fn (Ret mb C.w0 C.G0 φ)) (hmb : C.mb = mb) {xs : List SV} (hr : resAll s.sl C.ty s.own fn.results.toList = some xs) (hdf : s.df = []) (h : φ (resV xs).den s.G) (hnb : noBr K = true := by rfl) : SGo C (.code k :: K) s := by
  cases k <;> simp [tag] at ht
  · rename_i a b c; cases c <;> simp at ht
  · exact go_ret hnb hQ hmb hr hdf h

theorem x_retc (ht : tag k = 7) {fn : Func} {mb : List Nat} {φ : Value → Hp → Prop} (hQ : C.Q = bodyPost C.P fn (Ret mb C.w0 C.G0 φ)) (hmb : C.mb = mb) {r : ResultVar} {rs : List ResultVar} (hrs : fn.results.toList = r :: rs) {xs : List SV}
    (hr : resAll s.sl C.ty s.own (r :: rs) = some xs) (hdf : s.df = []) (h : φ (resV xs).den s.G) (hnb : noBr K = true := by rfl) : SGo C (.code k :: K) s :=
  x_ret ht hQ hmb (by rw [hrs]; exact hr) hdf h hnb

theorem go_newx {d : Option Tmp} {op : Op} {t : TypeId} {pos : String} {aft : Array Edge} {ty : TypeId → Option TI} {nt mh : Nat} (h1 : C.ty = ty) (h2 : C.nt = nt) (h3 : C.mh = mh) (hd : dOk nt d = true) {r : TypeId × List SV × (Nat → Nat → SV)} (ho : opAlloc ty s.sl op = some r)
    (h : ∀ b, SGo C (.ops R l :: K) ⟨putS d (r.2.2 (fk mh s.own) b) s.sl, stk (fk mh s.own) (b, .c r.1 r.2.1) s.own, s.G, s.df⟩) : SGo C (.ops R (⟨d, op, t, pos, aft, none⟩ :: l) :: K) s := by
  subst h1 h2 h3
  exact go_new (o := ⟨d, op, t, pos, aft, none⟩) rfl hd ho h

theorem body_eq {fn : Func} (h : fn.body.isSome = true) : fn.body = some (fn.body.getD .skip) := by
  cases hb : fn.body with
  | none => rw [hb] at h; cases h
  | some c => rfl

theorem enterX {P : Program} {f : FuncId} {fn : Func} {G : Hp} {φ : Value → Hp → Prop} (ty : TypeId → Option TI) (tyok : ∀ T i, ty T = some i → i.ok P T) {nt : Nat}
    (hf : P.funcs[f]? = some fn) (hb : fn.body.isSome = true) (hn : fn.ntmps = nt) (svs : List SV) (hargs : svs.length ≤ nt)
    (h : ∀ C : Ctx, C.P = P → C.Q = bodyPost C.P fn (Ret [] C.w0 C.G0 φ) → C.nt = nt → C.ty = ty → C.mb = [] → C.mh = 0 → C.ro = none → SGo C [.code (fn.body.getD .skip)] ⟨enumS 0 svs, [], G, []⟩) : Pure P f (dens svs) G φ :=
  enterS ty tyok hf (body_eq hb) hn svs hargs h
end
theorem zz : (∀ (α β : Type) (f : α → β) (a : α) (l : List α), List.map f (a :: l) = f a :: List.map f l) ∧ (∀ (α β : Type) (f : α → β), List.map f [] = []) ∧
    (∀ (α : Type) (a : α) (l r : List α), (a :: l) ++ r = a :: (l ++ r)) ∧ (∀ (α : Type) (l : List α), [] ++ l = l) ∧ (∀ (α : Type) (l : List α), l ++ [] = l) ∧
    (∀ (α : Type) (a : α) (l : List α), (a :: l).length = l.length + 1) ∧ (∀ (α : Type), ([] : List α).length = 0) ∧ (∀ (α : Type) (p : α → Bool) (a : α) (l : List α), (a :: l).all p = (p a && l.all p)) ∧ (∀ (α : Type) (p : α → Bool), ([] : List α).all p = true) ∧
    (∀ b : Bool, (b && true) = b) ∧ (∀ b : Bool, (true && b) = b) ∧ (∀ b : Bool, (b && b) = b) ∧
    (∀ (α β : Type) (f : α → β) (a : α), (some a).map f = some (f a)) ∧ (∀ (α β : Type) (f : α → β), (none : Option α).map f = none) ∧ (∀ (α β : Type) (f : α → Option β) (a : α), (some a).bind f = f a) ∧ (∀ (α β : Type) (f : α → Option β), (none : Option α).bind f = none) ∧
    (∀ (α : Type) (l : List α) (i : Nat), l.toArray[i]? = l[i]?) ∧ (∀ (α : Type) (a : α) (l : List α), (a :: l)[0]? = some a) ∧ (∀ (α : Type) (a : α) (l : List α) (i : Nat), (a :: l)[i + 1]? = l[i]?) ∧ (∀ (α : Type) (a d : α) (l : List α), (a :: l).headD d = a) ∧
    (∀ n : Nat, 0 + n = n) ∧ (∀ n : Nat, n + 0 = n) ∧ (∀ n : Nat, n ≤ n) ∧ (∀ n : Nat, 0 ≤ n) ∧ (∀ n : Nat, n.succ ≠ 0) ∧ (∀ n : Nat, ¬ n < n) ∧ (∀ n : Nat, ((n : Int)).toNat = n) ∧ (∀ m n : Nat, m.add n = m + n) ∧ ¬ (false = true) ∧ ¬ (true = false) := by
  refine ⟨fun _ _ _ _ _ => rfl, fun _ _ _ => rfl, fun _ _ _ _ => rfl, fun _ _ => rfl, fun _ l => List.append_nil l, fun _ _ _ => rfl, fun _ => rfl, fun _ _ _ _ => List.all_cons, fun _ _ => rfl, by simp, by simp, by simp, fun _ _ _ _ => rfl, fun _ _ _ => rfl, fun _ _ _ _ => rfl, fun _ _ _ => rfl,
    fun _ l i => by simp, fun _ _ _ => rfl, fun _ _ _ _ => by simp, fun _ _ _ _ => rfl, by simp, by simp, by simp, by simp, by simp, by simp, by simp, fun _ _ => rfl, by simp, by simp⟩
theorem zy : type_of% (And.intro @enumS.eq_1 <| And.intro @enumS.eq_2 <| And.intro @evs.eq_1 <| And.intro @evs.eq_2 <| And.intro @evParts.eq_1 <| And.intro @evParts.eq_2 <| And.intro @lk.eq_1 <| And.intro @lk.eq_2 <| And.intro @stk.eq_1 <| And.intro @stk.eq_2 <| And.intro @rmk.eq_1 <| And.intro @rmk.eq_2 <| And.intro @fk.eq_1 <| And.intro @fk.eq_2 <| And.intro @sub.eq_1 <| And.intro @sub.eq_2 <| And.intro @sub.eq_3 <| And.intro @sub.eq_4 <| And.intro @nth.eq_1 <| And.intro @nth.eq_2 <| And.intro @nth.eq_3 <| And.intro @lay.eq_1 <| And.intro @lay.eq_2 <| And.intro @lay.eq_3 <| And.intro @lay.eq_4 <| And.intro @fillS.eq_1 <| And.intro @fillS.eq_2 <| And.intro @rep.eq_1 <| And.intro @rep.eq_2 <| And.intro @popTo.eq_1 <| And.intro @popTo.eq_2 <| And.intro @popTo.eq_3 <| And.intro @popTo.eq_4 <| And.intro @popTo.eq_5 <| And.intro @popTo.eq_6 <| And.intro @popTo.eq_7 <| And.intro @popTo.eq_8 <| And.intro @popTo.eq_9 <| And.intro @keepK.eq_1 <| And.intro @keepK.eq_2 <| And.intro @dens.eq_1 <| And.intro @dens.eq_2 <| And.intro @SV.den.eq_1 <| And.intro @SV.den.eq_2 <| And.intro @SV.den.eq_3 <| And.intro @SV.den.eq_4 <| And.intro @SV.den.eq_5 <| And.intro @SV.den.eq_6 <| And.intro @SV.den.eq_7 <| And.intro @SV.den.eq_8 <| And.intro @resAll.eq_1 <| And.intro @resAll.eq_2 <| And.intro @List.append_eq.{0} <| And.intro @decide_true <| And.intro @decide_false <| And.intro @and_self <| And.intro @and_true <| And.intro @true_and <| @beq_self_eq_true.{0}) := And.intro @enumS.eq_1 <| And.intro @enumS.eq_2 <| And.intro @evs.eq_1 <| And.intro @evs.eq_2 <| And.intro @evParts.eq_1 <| And.intro @evParts.eq_2 <| And.intro @lk.eq_1 <| And.intro @lk.eq_2 <| And.intro @stk.eq_1 <| And.intro @stk.eq_2 <| And.intro @rmk.eq_1 <| And.intro @rmk.eq_2 <| And.intro @fk.eq_1 <| And.intro @fk.eq_2 <| And.intro @sub.eq_1 <| And.intro @sub.eq_2 <| And.intro @sub.eq_3 <| And.intro @sub.eq_4 <| And.intro @nth.eq_1 <| And.intro @nth.eq_2 <| And.intro @nth.eq_3 <| And.intro @lay.eq_1 <| And.intro @lay.eq_2 <| And.intro @lay.eq_3 <| And.intro @lay.eq_4 <| And.intro @fillS.eq_1 <| And.intro @fillS.eq_2 <| And.intro @rep.eq_1 <| And.intro @rep.eq_2 <| And.intro @popTo.eq_1 <| And.intro @popTo.eq_2 <| And.intro @popTo.eq_3 <| And.intro @popTo.eq_4 <| And.intro @popTo.eq_5 <| And.intro @popTo.eq_6 <| And.intro @popTo.eq_7 <| And.intro @popTo.eq_8 <| And.intro @popTo.eq_9 <| And.intro @keepK.eq_1 <| And.intro @keepK.eq_2 <| And.intro @dens.eq_1 <| And.intro @dens.eq_2 <| And.intro @SV.den.eq_1 <| And.intro @SV.den.eq_2 <| And.intro @SV.den.eq_3 <| And.intro @SV.den.eq_4 <| And.intro @SV.den.eq_5 <| And.intro @SV.den.eq_6 <| And.intro @SV.den.eq_7 <| And.intro @SV.den.eq_8 <| And.intro @resAll.eq_1 <| And.intro @resAll.eq_2 <| And.intro @List.append_eq.{0} <| And.intro @decide_true <| And.intro @decide_false <| And.intro @and_self <| And.intro @and_true <| And.intro @true_and <| @beq_self_eq_true.{0}
theorem st_ {A B : Prop} (h : B) (e : B → A := by intro hB; (simp only [so, sq, zy, zz, tyE, SO', SQ', opQ, opStore, opAlloc, ev, putS, dOk, cv, SV.cs, SV.one, SV.bool?, eqB, Value.oneCell', ldOwn, binInt, binConst, binBool, binStr, isC, TK.agg, rv, rv1, ldV, resOne, resV, Nat.reduceAdd, Nat.reduceMul, Nat.reduceSub, Nat.reduceLT, Nat.reduceLeDiff, Nat.reduceEqDiff, Nat.reduceBEq, reduceIte, reduceCtorEq, eq_self]); exact hB) : A := e h
theorem ru_ {A B : Prop} (h : B) (e : B → A := by intro hB; (repeat (first | refine x_seq rfl ?_ | refine go_ops ?_ | refine go_blk ?_ | refine x_skip rfl ?_ | refine x_blk rfl rfl ?_ | refine x_exit rfl rfl rfl ?_ | refine x_ift rfl rfl rfl ?_ | refine x_iff rfl rfl rfl ?_ | refine x_label rfl ?_ | ((first | refine x_reg rfl rfl ?_ | (refine go_newx hty hnt hmh rfl rfl ?_; intro bb_)); refine runo0 400 hty hnt hmh ?_; simp only [so, sq, zy, zz, tyE, SO', SQ', opQ, opStore, opAlloc, ev, putS, dOk, cv, SV.cs, SV.one, SV.bool?, eqB, Value.oneCell', ldOwn, binInt, binConst, binBool, binStr, isC, TK.agg, rv, rv1, ldV, resOne, resV, Nat.reduceAdd, Nat.reduceMul, Nat.reduceSub, Nat.reduceLT, Nat.reduceLeDiff, Nat.reduceEqDiff, Nat.reduceBEq, reduceIte, reduceCtorEq, eq_self]))); (repeat revert bb_); exact hB) : A := e h
theorem rn_ {A B : Prop} (h : B) (e : B → A := by intro hB; (try (refine runo0 400 hty hnt hmh ?_; simp only [so, sq, zy, zz, tyE, SO', SQ', opQ, opStore, opAlloc, ev, putS, dOk, cv, SV.cs, SV.one, SV.bool?, eqB, Value.oneCell', ldOwn, binInt, binConst, binBool, binStr, isC, TK.agg, rv, rv1, ldV, resOne, resV, Nat.reduceAdd, Nat.reduceMul, Nat.reduceSub, Nat.reduceLT, Nat.reduceLeDiff, Nat.reduceEqDiff, Nat.reduceBEq, reduceIte, reduceCtorEq, eq_self])); (repeat (first | refine x_seq rfl ?_ | refine go_ops ?_ | refine go_blk ?_ | refine x_skip rfl ?_ | refine x_blk rfl rfl ?_ | refine x_exit rfl rfl rfl ?_ | refine x_ift rfl rfl rfl ?_ | refine x_iff rfl rfl rfl ?_ | refine x_label rfl ?_ | ((first | refine x_reg rfl rfl ?_ | (refine go_newx hty hnt hmh rfl rfl ?_; intro bb_)); refine runo0 400 hty hnt hmh ?_; simp only [so, sq, zy, zz, tyE, SO', SQ', opQ, opStore, opAlloc, ev, putS, dOk, cv, SV.cs, SV.one, SV.bool?, eqB, Value.oneCell', ldOwn, binInt, binConst, binBool, binStr, isC, TK.agg, rv, rv1, ldV, resOne, resV, Nat.reduceAdd, Nat.reduceMul, Nat.reduceSub, Nat.reduceLT, Nat.reduceLeDiff, Nat.reduceEqDiff, Nat.reduceBEq, reduceIte, reduceCtorEq, eq_self]))); (repeat revert bb_); exact hB) : A := e h
theorem xc_ {C : Ctx} {K : List KI} {s : St} {k : Code} {fn : Func} {mb : List Nat} {φ : Value → Hp → Prop} (hQ : C.Q = bodyPost C.P fn (Ret mb C.w0 C.G0 φ)) (hmb : C.mb = mb) {r : ResultVar} {rs : List ResultVar} {xs : List SV} (h : φ (resV xs).den s.G) (ht : tag k = 7 := by rfl) (hrs : fn.results.toList = r :: rs := by rfl) (hr : resAll s.sl C.ty s.own (r :: rs) = some xs := by rw [hty]; simp only [so, sq, zy, zz, tyE, SO', SQ', opQ, opStore, opAlloc, ev, putS, dOk, cv, SV.cs, SV.one, SV.bool?, eqB, Value.oneCell', ldOwn, binInt, binConst, binBool, binStr, isC, TK.agg, rv, rv1, ldV, resOne, resV, Nat.reduceAdd, Nat.reduceMul, Nat.reduceSub, Nat.reduceLT, Nat.reduceLeDiff, Nat.reduceEqDiff, Nat.reduceBEq, reduceIte, reduceCtorEq, eq_self]; try rfl) (hdf : s.df = [] := by rfl) (hnb : noBr K = true := by rfl) : SGo C (.code k :: K) s :=
  x_retc ht hQ hmb hrs hr hdf h hnb
theorem hs_ {C : Ctx} {K : List KI} {s : St} {own0 : List (Nat × Nat × OO)} {G0 : Hp} (h : SGo C K s) (ho : ∀ j y, lk j own0 = some y → lk j s.own = some y := by exact (allIn (by repeat (first | exact trivial | refine ⟨rfl, ?_⟩)))) (hG : Le G0 s.G := by first | exact Le.refl _ | assumption) : SGo C (.hs (Hold C own0 G0) :: K) s := h_hs ho hG h
theorem tq_ {C : Ctx} {K : List KI} {s : St} {R : Array Oper} {d : Option Tmp} {t : TypeId} {pos : String} {aft : Array Edge} (i : Nat) {own0 : List (Nat × Nat × OO)} {G0 : Hp} {n : Nat} {listed : Array Bool} {op : Op} {x : SV} (hi : R[i]? = some ⟨d, op, t, pos, aft, none⟩) (hq : Quiet C s.sl own0 G0 op x.den) (h : SGo C (.h (Hold C own0 G0) R n (listed.setIfInBounds i true) :: K) ⟨putS d x s.sl, s.own, s.G, s.df⟩) (hs : Region.noSelect R = true := by kernel_rfl) (hf : Region.free .any R listed i = true := by kernel_rfl) (hr : (Region.ready .any R listed).contains i = true := by kernel_rfl) (hQ : QP C := by exact hQp) (hd : dOk C.nt d = true := by rw [hnt]; rfl) (ho : ∀ j y, lk j own0 = some y → lk j s.own = some y := by exact (allIn (by repeat (first | exact trivial | refine ⟨rfl, ?_⟩)))) (hG : Le G0 s.G := by first | exact Le.refl _ | assumption) : SGo C (.h (Hold C own0 G0) R (n + 1) listed :: K) s := h_take i hi hs hf hr hQ hd ho hG hq h
end Go.Sx
namespace Go.Sx
set_option linter.unusedSimpArgs false
set_option linter.unusedVariables false

inductive VT where
  | mk (k n : Int) (l : List VT)
def VT.k : VT → Int | .mk k _ _ => k
def VT.n : VT → Int | .mk _ n _ => n
def VT.l : VT → List VT | .mk _ _ l => l
theorem VT.ind {p : VT → Prop} (h : ∀ k n l, (∀ x ∈ l, p x) → p (.mk k n l)) : ∀ x, p x
  | .mk k n l => h k n l (fun x hx => VT.ind h x)
termination_by x => SizeOf.sizeOf x
decreasing_by
  have := List.sizeOf_lt_of_mem hx
  simp only [VT.mk.sizeOf_spec]
  omega

def isI64 (n : Int) : Prop := -9223372036854775808 ≤ n ∧ n ≤ 9223372036854775807

mutual
def VT.rep (G : Hp) : VT → Value → Prop
  | .mk k n l, sl => isI64 k ∧ isI64 n ∧ l.length ≤ 9223372036854775807 ∧ ∃ ad cap, sl = .slice ad l.length cap ∧ (l = [] ∨ ∃ b off cs, ad = some ⟨b, off, none⟩ ∧ At G b off cs ∧ repV G l cs)
def repV (G : Hp) : List VT → List Value → Prop
  | [], cs => cs = []
  | x :: l, cs => ∃ sl r, cs = .int .i64 x.k :: .int .i64 x.n :: sl :: r ∧ x.rep G sl ∧ repV G l r
end

def repS (G : Hp) (l : List VT) (sl : Value) : Prop :=
  l.length ≤ 9223372036854775807 ∧ ∃ ad cap, sl = .slice ad l.length cap ∧ (l = [] ∨ ∃ b off cs, ad = some ⟨b, off, none⟩ ∧ At G b off cs ∧ repV G l cs)

theorem rep_iff {G : Hp} {k n : Int} {l : List VT} {sl : Value} : (VT.mk k n l).rep G sl ↔ isI64 k ∧ isI64 n ∧ repS G l sl := by
  simp only [VT.rep, repS]

mutual
theorem VT.rep_mono {G G' : Hp} (hl : Le G G') : ∀ {x : VT} {sl : Value}, x.rep G sl → x.rep G' sl
  | .mk k n l, sl, h => by
    simp only [VT.rep] at h ⊢
    obtain ⟨h1, h2, h3, ad, cap, h4, h5⟩ := h
    refine ⟨h1, h2, h3, ad, cap, h4, ?_⟩
    rcases h5 with h5 | ⟨b, off, cs, h5, h6, h7⟩
    · exact .inl h5
    · exact .inr ⟨b, off, cs, h5, h6.mono hl, repV_mono hl h7⟩
theorem repV_mono {G G' : Hp} (hl : Le G G') : ∀ {l : List VT} {cs : List Value}, repV G l cs → repV G' l cs
  | [], _, h => by simp only [repV] at h ⊢; exact h
  | x :: l, cs, h => by
    simp only [repV] at h ⊢
    obtain ⟨sl, r, h1, h2, h3⟩ := h
    exact ⟨sl, r, h1, VT.rep_mono hl h2, repV_mono hl h3⟩
end
theorem VT.rep_slice {G : Hp} : ∀ {x : VT} {sl : Value}, x.rep G sl → ∃ ad cap, sl = .slice ad x.l.length cap
  | .mk k n l, sl, h => by
    simp only [VT.rep] at h
    obtain ⟨_, _, _, ad, cap, h4, _⟩ := h
    exact ⟨ad, cap, h4⟩
theorem repV_len {G : Hp} : ∀ {l : List VT} {cs : List Value}, repV G l cs → cs.length = l.length * 3
  | [], cs, h => by simp only [repV] at h; simp [h]
  | x :: l, cs, h => by
    simp only [repV] at h
    obtain ⟨sl, r, rfl, h2, h3⟩ := h
    have := repV_len h3
    simp only [List.length_cons]; omega
theorem repV_one {G : Hp} : ∀ {l : List VT} {cs : List Value}, repV G l cs → ∀ u ∈ cs, u.oneCell' = true
  | [], cs, h => by simp only [repV] at h; simp [h]
  | x :: l, cs, h => by
    simp only [repV] at h
    obtain ⟨sl, r, rfl, h2, h3⟩ := h
    obtain ⟨ad, cap, rfl⟩ := VT.rep_slice h2
    intro u hu
    simp only [List.mem_cons] at hu
    rcases hu with rfl | rfl | rfl | hu
    · rfl
    · rfl
    · rfl
    · exact repV_one h3 u hu
theorem repV_drop {G : Hp} : ∀ {l : List VT} {cs : List Value} (i : Nat), repV G l cs → repV G (l.drop i) (cs.drop (i * 3))
  | l, cs, 0, h => by simpa using h
  | [], cs, i + 1, h => by simp only [repV] at h; subst h; simp [repV]
  | x :: l, cs, i + 1, h => by
    simp only [repV] at h
    obtain ⟨sl, r, rfl, h2, h3⟩ := h
    have := repV_drop i h3
    rw [show (i + 1) * 3 = i * 3 + 1 + 1 + 1 by omega]
    simpa using this
theorem repV_append {G : Hp} : ∀ {l l' : List VT} {cs cs' : List Value}, repV G l cs → repV G l' cs' → repV G (l ++ l') (cs ++ cs')
  | [], l', cs, cs', h, h' => by simp only [repV] at h; subst h; simpa using h'
  | x :: l, l', cs, cs', h, h' => by
    simp only [repV] at h
    obtain ⟨sl, r, rfl, h2, h3⟩ := h
    simp only [List.cons_append, repV]
    exact ⟨sl, r ++ cs', by simp, h2, repV_append h3 h'⟩
theorem repV_get {G : Hp} {l : List VT} {cs : List Value} (h : repV G l cs) {i : Nat} (hi : i < l.length) : ∃ sl, (cs.drop (i * 3)).take 3 = [.int .i64 l[i].k, .int .i64 l[i].n, sl] ∧ l[i].rep G sl := by
  have h1 := repV_drop i h
  rw [List.drop_eq_getElem_cons hi] at h1
  simp only [repV] at h1
  obtain ⟨sl, r, h2, h3, _⟩ := h1
  exact ⟨sl, by rw [h2]; simp, h3⟩
theorem At_get {G : Hp} {l : List VT} {cs : List Value} {b off : Nat} (ha : At G b off cs) (h : repV G l cs) {i : Nat} (hi : i < l.length) :
    ∃ ad cap, At G b (off + i * 3) [.int .i64 l[i].k, .int .i64 l[i].n, .slice ad l[i].l.length cap] ∧ l[i].rep G (.slice ad l[i].l.length cap) := by
  obtain ⟨sl, h1, h2⟩ := repV_get h hi
  have hlen := repV_len h
  have h3 := ha.sub (i * 3) 3 (by omega)
  rw [h1] at h3
  obtain ⟨ad, cap, rfl⟩ := VT.rep_slice h2
  exact ⟨ad, cap, h3, h2⟩
theorem at_block {G : Hp} {b : Nat} {vs : List Value} {e : TypeId} {fz : Nat × Nat} (h : G b = some (.cells vs.toArray e fz)) : At G b 0 vs := ⟨_, e, fz, h, by simp, fun i hi => by simp⟩
theorem At_kind {G : Hp} {l : List VT} {cs : List Value} {b off : Nat} (ha : At G b off cs) (h : repV G l cs) {i : Nat} (hi : i < l.length) : At G b (off + i * 3) [.int .i64 l[i].k] := by
  obtain ⟨ad, cap, h1, _⟩ := At_get ha h hi
  exact h1.sub 0 1 (by simp)
end Go.Sx
namespace Go.Sx
set_option linter.unusedSimpArgs false
set_option linter.unusedVariables false
open Go.RowKit

section
variable {C : Ctx} {K : List KI} {s : St} {R : Array Oper} {l : List Oper} {d : Option Tmp} {t : TypeId} {pos : String} {aft : Array Edge} {v : Value}

theorem go_callf {f : FuncId} {args : Array Operand} {tys : Array TypeId} {vs : List SV} (hd : dOk C.nt d = true) (hf : canCall C.P f = true) (ha : evs s.sl args.toList = some vs) (hc : Pure C.P f (dens vs) s.G (fun r _ => r = v))
    (h : SGo C (.ops R l :: K) ⟨putS d (rv v) s.sl, s.own, s.G, s.df⟩) : SGo C (.ops R (⟨d, .call ⟨.value (.func f), args, tys⟩, t, pos, aft, none⟩ :: l) :: K) s := by
  intro a w hS
  have hargs : args.map a.eval = (dens vs).toArray := by apply Array.ext'; rw [Array.toList_map]; exact evs_ok hS.sl ha
  have hrun : (execOp a.eval ⟨d, .call ⟨.value (.func f), args, tys⟩, t, pos, aft, none⟩).run C.P w = .ok (.enter f (dens vs).toArray) w := by
    simp only [execOp, resolve, hargs, Act.eval, Deferred.ofValue, Sem.run_bind, Sem.run_pure, Result.andThen_ok, invoke]
    simp [callFunc_ok hf]
  refine K_enter rfl hrun ((hc w hS.mem.has).mono ?_)
  rintro e w' ⟨v', G', rfl, hg, rfl⟩
  have hS' := hS.put hd (rv v') (hS.mem.call0 hg)
  rw [rv_den] at hS'
  have := h _ _ hS'
  exact ⟨_, rfl, this⟩

theorem Pure.val {P : Program} {f : FuncId} {args : List Value} {G : Hp} {v v' : Value} (h : Pure P f args G (fun r _ => r = v)) (e : v = v') : Pure P f args G (fun r _ => r = v') := e ▸ h

theorem go_drop (k : Nat) (h : SGo C K ⟨s.sl, rmk k s.own, s.G, s.df⟩) : SGo C K s :=
  SGo.weaken (s' := ⟨s.sl, rmk k s.own, s.G, s.df⟩) rfl rfl (fun _ _ e => .inl e) (fun i x e => by
    simp only [lk_rmk] at e
    split at e
    · cases e
    · exact e) h

theorem go_rowS (k : Nat) {b n size : Nat} {e : TypeId} {v : Value} {xs : List Value} (hk : lk k s.own = some (b, .row v e size n xs)) (h : ∀ ad cap, v = .slice ad n cap → SGo C K s) : SGo C K s :=
  go_rowcases k hk (fun hv hn _ => h none 0 (by rw [hv, hn])) (fun g cap hv _ _ => h _ _ hv)

theorem go_see (k : Nat) {b : Nat} {e : TypeId} {cells : List SV} (cells' : List SV) (hk : lk k s.own = some (b, .c e cells)) (he : dens cells' = dens cells) (h : SGo C K ⟨s.sl, stk k (b, .c e cells') s.own, s.G, s.df⟩) : SGo C K s := by
  intro a w hS
  refine h a w ⟨hS.sl, hS.nt, hS.df, ?_⟩
  obtain ⟨f1, f2⟩ := hS.mem.own _ _ _ hk
  refine hS.mem.put hk rfl rfl rfl (Nat.le_refl _) (fun _ _ _ => rfl) ?_ (fun g => ⟨.inl, .inl⟩)
  simp only [OO.holds] at f1 ⊢
  rw [he]; exact f1


theorem Mem.stay {own : List (Nat × Nat × OO)} {G G1 G' : Hp} {w w' : World} (h : Mem C own G w) (hg : Grow [] w G1 w' G') : Mem C own G w' := by
  refine ⟨fun k b o e => ?_, h.inj, ?_⟩
  · obtain ⟨f1, f2⟩ := h.own k b o e
    exact ⟨OO.holds_same f1 hg.fr fun g hb => hg.blk g (h.lt e hb) (by simp), f2⟩
  · have q := h.grow
    refine ⟨hg.os.trans q.os, hg.tape.trans q.tape, hg.output.trans q.output, Nat.le_trans q.size hg.size, fun k hk hm => ?_, fun b o e => ?_, q.old⟩
    · rw [hg.blk k (Nat.lt_of_lt_of_le hk q.size) (by simp)]; exact q.blk k hk hm
    · have := q.has b o e
      rw [hg.blk b (lt_of_heap this) (by simp)]; exact this

theorem row_block {w : World} {base : Nat} {e : TypeId} {size n cap g : Nat} {xs : List Value} (h : w.ownsRow base e size (.slice (some ⟨g, 0, none⟩) n cap) n xs) : ∃ x, w.heap[g]? = some x ∧ ∀ G : Hp, G g = some x → At G g 0 xs := by
  obtain ⟨arr, e', fz, q1, q2, q3⟩ := row_load (P := default) h
  exact ⟨_, q1, fun G hG => ⟨arr, e', fz, hG, q2, q3⟩⟩


def RetR (w : World) (G : Hp) (φ : Value → Hp → Value → TypeId → Nat → Nat → List Value → Prop) : Ending → World → Prop :=
  fun e w' => ∃ v G' r e' size n xs, e = .returned v ∧ Grow [] w G w' G' ∧ w'.ownsRow 0 e' size r n xs ∧ (∀ g, r.ownBlock = some g → G' g = none ∧ w.heap.size ≤ g) ∧ φ v G' r e' size n xs
def PureR (P : Program) (f : FuncId) (args : List Value) (G : Hp) (φ : Value → Hp → Value → TypeId → Nat → Nat → List Value → Prop) : Prop :=
  ∀ w, Has w G → Calls P f args.toArray w (RetR w G φ)

theorem PureR.pure {P : Program} {f : FuncId} {args : List Value} {G : Hp} {φ : Value → Hp → Value → TypeId → Nat → Nat → List Value → Prop} {ψ : Value → Hp → Prop} (h : PureR P f args G φ)
    (h0 : ∀ v G' e size, Le G G' → φ v G' (.slice none 0 0) e size 0 [] → ψ v G') (h1 : ∀ v G' G'' g cap e size n xs, Le G G' → Le G' G'' → At G'' g 0 xs → φ v G' (.slice (some ⟨g, 0, none⟩) n cap) e size n xs → ψ v G'') : Pure P f args G ψ := by
  intro w hw
  refine (h w hw).mono ?_
  rintro e w' ⟨v, G', r, e', size, n, xs, rfl, hg, hr, hb, hφ⟩
  have hle : Le G G' := fun b o e => hg.keep hw e
  rcases hr.2 with ⟨q1, q2⟩ | ⟨g0, cap, cur, q1, hbg, hgg, hnc, hcm, hcs, htake⟩
  · subst q1 q2
    have : xs = [] := List.eq_nil_of_length_eq_zero (by have := hr.1; simpa using this)
    subst this
    exact ⟨v, G', rfl, hg, h0 _ _ _ _ hle hφ⟩
  · subst q1
    obtain ⟨x, hx, hat⟩ := row_block hr
    obtain ⟨b1, b2⟩ := hb g0 rfl
    refine ⟨v, fun j => if j = g0 then some x else G' j, rfl, ?_, h1 _ G' _ g0 cap _ _ _ _ hle ?_ (hat _ (by simp)) hφ⟩
    · refine ⟨hg.os, hg.tape, hg.output, hg.size, hg.blk, fun j y e => ?_, fun j hj => ?_⟩
      · change (if j = g0 then some x else G' j) = some y at e
        split at e
        · rename_i q; subst q; cases e; exact hx
        · exact hg.has j y e
      · show (if j = g0 then some x else G' j) = _
        rw [if_neg (by omega)]
        exact hg.old j hj
    · intro j y e
      have : j ≠ g0 := by intro q; subst q; rw [b1] at e; cases e
      simp [this, e]

theorem enterR {P : Program} {f : FuncId} {fn : Func} {G : Hp} {φ : Value → Hp → Value → TypeId → Nat → Nat → List Value → Prop} (ty : TypeId → Option TI) (tyok : ∀ T i, ty T = some i → i.ok P T) {nt : Nat}
    (hf : P.funcs[f]? = some fn) (hb : fn.body.isSome = true) (hn : fn.ntmps = nt) (svs : List SV) (hargs : svs.length ≤ nt)
    (h : ∀ C : Ctx, C.P = P → C.Q = bodyPost C.P fn (RetR C.w0 C.G0 φ) → C.nt = nt → C.ty = ty → C.mb = [] → C.mh = 0 → C.ro = none → SGo C [.code (fn.body.getD .skip)] ⟨enumS 0 svs, [], G, []⟩) : PureR P f (dens svs) G φ := by
  intro w hw
  refine calls_of_wp hf (body_eq hb) ((wpIn_wide (n := 0)).1 ?_)
  have := h ⟨P, bodyPost P fn (RetR w G φ), nt, ty, tyok, w, G, [], 0, none⟩ rfl rfl rfl rfl rfl rfl rfl { tmps := (dens svs).toArray ++ Array.replicate (fn.ntmps - (dens svs).toArray.size) undef, defers := [] } w
    ⟨slots_args _ _ _ (fun i x e => by have := (lk_enumS svs 0 i x e).2; simpa using this), by simp [hn, dens_eq]; omega, rfl, ⟨fun _ _ _ e => by simp [lk] at e, fun _ _ _ _ _ _ _ e => by simp [lk] at e, Grow.refl hw⟩⟩
  simp only [wpK] at this
  exact this

theorem x_retr (k : Nat) {kc : Code} (ht : tag kc = 7) {fn : Func} {φ : Value → Hp → Value → TypeId → Nat → Nat → List Value → Prop} (hQ : C.Q = bodyPost C.P fn (RetR C.w0 C.G0 φ)) (hmb : C.mb = []) (hmh : C.mh = 0) {r : ResultVar} {rs : List ResultVar} (hrs : fn.results.toList = r :: rs) {xs : List SV}
    (hr : resAll s.sl C.ty s.own (r :: rs) = some xs) (hdf : s.df = []) {b : Nat} {u : Value} {e : TypeId} {size n : Nat} {ys : List Value} (hk : lk k s.own = some (b, .row u e size n ys)) (h : φ (resV xs).den s.G u e size n ys) (hnb : noBr K = true := by rfl) : SGo C (.code kc :: K) s := by
  intro a w hS
  cases kc <;> simp [tag] at ht
  · rename_i a b c; cases c <;> simp at ht
  refine wpIn_ret ?_
  rw [wpK_ret _ _ _ hnb, hQ]
  obtain ⟨g1, g2⟩ := hS.mem.own _ _ _ hk
  have hg := hS.mem.grow
  rw [hmb] at hg
  refine ⟨by rw [hS.df, hdf], _, results_ok hS (by rw [hrs]; exact hr), _, _, _, _, _, _, _, rfl, hg, g1, fun g hb => ?_, h⟩
  obtain ⟨q1, q2, _⟩ := g2 g hb
  exact ⟨q1, q2 (by omega)⟩

theorem go_callr (k : Nat) {f : FuncId} {args : Array Operand} {tys : Array TypeId} {vs : List SV} {φ : Value → Hp → Value → TypeId → Nat → Nat → List Value → Prop} (hd : dOk C.nt d = true) (hf : canCall C.P f = true) (ha : evs s.sl args.toList = some vs)
    (hk : lk k s.own = none) (hmh : C.mh ≤ k) (hc : PureR C.P f (dens vs) s.G φ)
    (h : ∀ v G' r e size n xs, Le s.G G' → φ v G' r e size n xs → SGo C (.ops R l :: K) ⟨putS d (rv v) s.sl, stk k (0, .row r e size n xs) s.own, G', s.df⟩) : SGo C (.ops R (⟨d, .call ⟨.value (.func f), args, tys⟩, t, pos, aft, none⟩ :: l) :: K) s := by
  intro a w hS
  have hargs : args.map a.eval = (dens vs).toArray := by apply Array.ext'; rw [Array.toList_map]; exact evs_ok hS.sl ha
  have hrun : (execOp a.eval ⟨d, .call ⟨.value (.func f), args, tys⟩, t, pos, aft, none⟩).run C.P w = .ok (.enter f (dens vs).toArray) w := by
    simp only [execOp, resolve, hargs, Act.eval, Deferred.ofValue, Sem.run_bind, Sem.run_pure, Result.andThen_ok, invoke]
    simp [callFunc_ok hf]
  refine K_enter rfl hrun ((hc w hS.mem.has).mono ?_)
  rintro e w' ⟨v, G', r, e', size, n, xs, rfl, hg, hr, hb, hφ⟩
  have hle : Le s.G G' := fun b o e => hg.keep hS.mem.has e
  have hm := hS.mem.call hg
  have hm' : Mem C (stk k (0, .row r e' size n xs) s.own) G' w' := by
    refine ⟨fun j c x e => ?_, fun j j' c c' x x' g e e' f f' => ?_, hm.grow⟩
    · rw [lk_stk] at e
      split at e
      · rename_i hj; subst hj; cases e
        refine ⟨⟨hr.1, ?_⟩, fun g hg' => ?_⟩
        · rcases hr.2 with q | ⟨g0, cap, cur, q1, hbg, rest⟩
          · exact .inl q
          · exact .inr ⟨g0, cap, cur, q1, hbg, rest⟩
        · obtain ⟨b1, b2⟩ := hb g hg'
          exact ⟨b1, fun _ => Nat.le_trans hS.mem.grow.size b2, fun q => by omega⟩
      · exact hm.own _ _ _ e
    · have key : ∀ {j c x}, lk j s.own = some (c, x) → x.blks c g → r.ownBlock = some g → False := by
        intro j c x e f f'
        have := hS.mem.lt e f
        have := (hb g f').2
        omega
      rw [lk_stk] at e e'
      split at e <;> split at e'
      · omega
      · cases e; exact (key e' f' f).elim
      · cases e'; exact (key e f f').elim
      · exact hm.inj _ _ _ _ _ _ _ e e' f f'
  have hS' := hS.put hd (rv v) hm'
  rw [rv_den] at hS'
  have := h v G' r e' size n xs hle hφ _ _ hS'
  exact ⟨_, rfl, this⟩
end

end Go.Sx
namespace Go.Sx
set_option linter.unusedSimpArgs false
set_option linter.unusedVariables false
open Go.RowKit


def mkD (D : Nat) : Deferred := { target := .collected D, args := #[] }
def dz (ds : List Nat) : Zn where
  A Z M w := (∀ g, Z g ↔ g ∈ ds) ∧ (∀ g, M g ↔ g ∈ ds) ∧ ds.Nodup ∧ ∀ g ∈ ds, w.heap[g]? = some (.deferred (some []))
  lt Z M w h g hg := lt_of_heap (h.2.2.2 g ((h.1 g).1 hg))
  sub Z M w h g hg := (h.1 g).2 ((h.2.1 g).1 hg)
  st Z M w w' h hf hs := ⟨h.1, h.2.1, h.2.2.1, fun g hg => by rw [hs g ((h.1 g).2 hg)]; exact h.2.2.2 g hg⟩
def dzO (ds : List Nat) : OO := .z (dz ds) (fun g => g ∈ ds) (fun g => g ∈ ds)

section
variable {C : Ctx} {K : List KI} {s : St}

theorem go_marks (kd : Nat) (hk : lk kd s.own = none) (hmh : C.mh ≤ kd) (h : SGo C K ⟨s.sl, stk kd (0, dzO []) s.own, s.G, s.df⟩) : SGo C K s := by
  intro a w hS
  refine h a w ⟨hS.sl, hS.nt, hS.df, ?_⟩
  exact hS.mem.new hk hmh rfl rfl rfl (Nat.le_refl _) (fun _ _ => rfl) ⟨by simp, by simp, by simp, by simp⟩ (fun g hg => by simp [dzO, OO.blks] at hg)

theorem Mem.give {own : List (Nat × Nat × OO)} {G : Hp} {w w' : World} (h : Mem C own G w) {k b : Nat} {o : OO} (hk : lk k own = some (b, o)) (hf : Fr w w')
    (hsame : ∀ j, j < w.heap.size → ¬ o.mut b j → w'.heap[j]? = w.heap[j]?) : Mem C (rmk k own) G w' := by
  obtain ⟨g1, g2⟩ := h.own _ _ _ hk
  refine ⟨fun j c x e => ?_, fun j j' c c' x x' g e e' f f' => ?_, ?_⟩
  · rw [lk_rmk] at e
    split at e
    · cases e
    · rename_i hj
      obtain ⟨f1, f2⟩ := h.own _ _ _ e
      refine ⟨OO.holds_same f1 hf fun g hg => ?_, f2⟩
      exact hsame g (h.lt e hg) fun q => hj (h.inj _ _ _ _ _ _ g e hk hg (OO.mut_blks g1 q))
  · rw [lk_rmk] at e e'
    split at e
    · cases e
    · split at e'
      · cases e'
      · exact h.inj _ _ _ _ _ _ _ e e' f f'
  · have hg := h.grow
    refine ⟨hf.os.trans hg.os, hf.tape.trans hg.tape, hf.output.trans hg.output, Nat.le_trans hg.size hf.size, fun j hj hm => ?_, fun j x e => ?_, hg.old⟩
    · rw [hsame j (by have := hg.size; omega) ?_]; exact hg.blk j hj hm
      intro q
      obtain ⟨_, q3, q4⟩ := g2 j q
      rcases Nat.lt_or_ge k C.mh with r | r
      · exact (q4 r).elim hm (fun q5 => by omega)
      · have := q3 r; omega
    · have hlt := lt_of_heap (hg.has j x e)
      rw [hsame j hlt ?_]; exact hg.has j x e
      intro q
      rw [(g2 j q).1] at e; cases e

def bodyM (P : Program) (fn : Func) (R : Ending → World → Prop) : Exit → Act → World → Prop
  | .normal, a, w | .ret, a, w => LeavesInM Fence.wide 0 P fn a.tmps R a.defers .returning w
  | _, _, _ => False
theorem qp_bodyM {fn : Func} {Rr : Ending → World → Prop} (hQ : C.Q = bodyM C.P fn Rr) : QP C := by
  intro c a w d v hp
  rw [hQ] at hp
  exact hp.elim

theorem marks_leave {P : Program} {fn : Func} {tmps : Array Value} {R : Ending → World → Prop} : ∀ (ds : List Nat) (w : World), ds.Nodup → (∀ g ∈ ds, w.heap[g]? = some (.deferred (some []))) →
    (∀ w', Fr w w' → (∀ j, j < w.heap.size → j ∉ ds → w'.heap[j]? = w.heap[j]?) → ∃ v, (results fn tmps).run P w' = .ok v w' ∧ R (.returned v) w') → LeavesInM Fence.wide 0 P fn tmps R (ds.map mkD) .returning w
  | [], w, _, _, h => h w ⟨rfl, rfl, rfl, Nat.le_refl _⟩ (fun _ _ _ => rfl)
  | D :: ds, w, hn, hd, h => by
    have hD := hd D (by simp)
    have hn' := List.nodup_cons.1 hn
    refine ⟨by simp, .inl ⟨D, w.putObj D (.deferred none), rfl, run_takeDeferred hD, ?_⟩⟩
    refine marks_leave ds _ hn'.2 (fun g hg => ?_) (fun w' hf hs => ?_)
    · rw [World.putObj_heap_other (by intro e; subst e; exact hn'.1 hg)]; exact hd g (by simp [hg])
    · refine h w' ⟨hf.os, hf.tape, hf.output, by have := hf.size; simpa using this⟩ (fun j hj hj' => ?_)
      simp only [List.mem_cons, not_or] at hj'
      rw [hs j (by simpa using hj) hj'.2, World.putObj_heap_other hj'.1]

theorem x_retM (kd : Nat) {k : Code} (ht : tag k = 7) {fn : Func} {φ : Value → Hp → Prop} (hQ : C.Q = bodyM C.P fn (Ret [] C.w0 C.G0 φ)) (hmb : C.mb = []) {r : ResultVar} {rs : List ResultVar} (hrs : fn.results.toList = r :: rs) {xs : List SV} {ds : List Nat} {b : Nat}
    (hk : lk kd s.own = some (b, dzO ds)) (hdf : s.df = ds.map mkD) (hr : resAll s.sl C.ty (rmk kd s.own) (r :: rs) = some xs) (h : φ (resV xs).den s.G) (hnb : noBr K = true := by rfl) : SGo C (.code k :: K) s := by
  intro a w hS
  cases k <;> simp [tag] at ht
  · rename_i a b c; cases c <;> simp at ht
  refine wpIn_ret ?_
  rw [wpK_ret _ _ _ hnb, hQ]
  show LeavesInM _ _ _ _ _ _ a.defers _ _
  rw [hS.df, hdf]
  obtain ⟨h1, _⟩ := hS.mem.own _ _ _ hk
  obtain ⟨z1, z2, z3, z4⟩ := h1
  refine marks_leave ds w z3 z4 fun w' hf hs => ?_
  have hm := hS.mem.give hk hf (fun j hj hj' => hs j hj hj')
  have hS' : Sat C ⟨s.sl, rmk kd s.own, s.G, s.df⟩ a w' := ⟨hS.sl, hS.nt, hS.df, hm⟩
  have hg := hm.grow
  rw [hmb] at hg
  exact ⟨_, results_ok hS' (by rw [hrs]; exact hr), _, _, rfl, hg, h⟩

theorem enterM {P : Program} {f : FuncId} {fn : Func} {G : Hp} {φ : Value → Hp → Prop} (ty : TypeId → Option TI) (tyok : ∀ T i, ty T = some i → i.ok P T) {nt : Nat}
    (hf : P.funcs[f]? = some fn) (hb : fn.body.isSome = true) (hn : fn.ntmps = nt) (svs : List SV) (hargs : svs.length ≤ nt)
    (h : ∀ C : Ctx, C.P = P → C.Q = bodyM C.P fn (Ret [] C.w0 C.G0 φ) → C.nt = nt → C.ty = ty → C.mb = [] → C.mh = 0 → C.ro = none → SGo C [.code (fn.body.getD .skip)] ⟨enumS 0 svs, [], G, []⟩) : Pure P f (dens svs) G φ := by
  intro w hw
  refine (callsIn_wide (n := 0)).1 (callsIn_of_wp_marks hf (body_eq hb) trivial ?_)
  have := h ⟨P, bodyM P fn (Ret [] w G φ), nt, ty, tyok, w, G, [], 0, none⟩ rfl rfl rfl rfl rfl rfl rfl { tmps := (dens svs).toArray ++ Array.replicate (fn.ntmps - (dens svs).toArray.size) undef, defers := [] } w
    ⟨slots_args _ _ _ (fun i x e => by have := (lk_enumS svs 0 i x e).2; simpa using this), by simp [hn, dens_eq]; omega, rfl, ⟨fun _ _ _ e => by simp [lk] at e, fun _ _ _ _ _ _ _ e => by simp [lk] at e, Grow.refl hw⟩⟩
  simp only [wpK] at this
  refine wpIn_mono this ?_
  intro e a w' hq
  cases e <;> first | exact hq | exact hq.elim
end
end Go.Sx
namespace Go.Sx
set_option linter.unusedSimpArgs false
set_option linter.unusedVariables false
open Go.RowKit


structure YRes (w : World) (Z M : Nat → Prop) (w' : World) (Z' M' : Nat → Prop) : Prop where
  fr : Fr w w'
  z : ∀ g, Z' g → Z g ∨ w.heap.size ≤ g
  m : ∀ g, M' g → M g ∨ w.heap.size ≤ g
  same : ∀ g, g < w.heap.size → ¬ M g → w'.heap[g]? = w.heap[g]?

def YCall (P : Program) (l : Nat) (vs : List Value) (W : World) (R : Value → World → Prop) : Prop :=
  ∃ fn tmps assign body, (Instr.yield l vs.toArray).run P W = .ok (.round l fn tmps assign body) W ∧ RoundIn Fence.wide 0 P l fn tmps assign body W (fun e W' => ∃ v, e = .returned v ∧ R v W')

def YOk (P : Program) (l : Nat) (A : Nat → Zn) (B : Zn) (enc : Nat → List Value → Hp → Prop) (N : Nat) : Prop :=
  ∀ k vs W Z M G, k < N → (A k).A Z M W → Has W G → (∀ g, M g → G g = none) → enc k vs G →
    YCall P l vs W (fun v W' => ∃ Z' M', YRes W Z M W' Z' M' ∧ ((v = .bool true ∧ (A (k + 1)).A Z' M' W') ∨ (v = .bool false ∧ B.A Z' M' W')))

def RetZ (w : World) (Z M : Nat → Prop) (G : Hp) (φ : Value → Hp → Zn → Prop) : Ending → World → Prop :=
  fun e w' => ∃ v G' Y Z' M', e = .returned v ∧ YRes w Z M w' Z' M' ∧ Has w' G' ∧ (∀ b, b < w.heap.size → G' b = G b) ∧ (∀ g, M' g → G' g = none) ∧ Y.A Z' M' w' ∧ φ v G' Y
def YFun (P : Program) (f : FuncId) (args : List Value) (G : Hp) (A0 : Zn) (φ : Value → Hp → Zn → Prop) : Prop :=
  ∀ w Z M, Has w G → A0.A Z M w → (∀ g, M g → G g = none) → Calls P f args.toArray w (RetZ w Z M G φ)
def Iter (P : Program) (f : FuncId) (cap : List Value) (G : Hp) (enc : Nat → List Value → Hp → Prop) (N : Nat) : Prop :=
  ∀ l A B, YOk P l A B enc N → YFun P f (.func (.yield l) #[] #[] :: cap) G (A 0) (fun _ _ Y => Y = A N ∨ Y = B)

def lim (Y : Zn) (Z0 : Nat → Prop) (n0 : Nat) : Zn where
  A Z M w := Y.A Z M w ∧ (∀ g, Z g → Z0 g ∨ n0 ≤ g)
  lt Z M w h := Y.lt Z M w h.1
  sub Z M w h := Y.sub Z M w h.1
  st Z M w w' h hf hs := ⟨Y.st Z M w w' h.1 hf hs, h.2⟩

section
variable {C : Ctx} {K : List KI} {s : St} {R : Array Oper} {l : List Oper} {d : Option Tmp} {t : TypeId} {pos : String} {aft : Array Edge}

theorem Mem.zone {own : List (Nat × Nat × OO)} {G G' : Hp} {w w' : World} (h : Mem C own G w) {k b : Nat} {Y Y' : Zn} {Z M Z' M' : Nat → Prop} (hk : lk k own = some (b, .z Y Z M)) (hr : YRes w Z M w' Z' M') (hY : Y'.A Z' M' w')
    (hG : Has w' G') (hold : ∀ b, b < w.heap.size → G' b = G b) (hM : ∀ g, M' g → G' g = none) : Mem C (stk k (b, .z Y' Z' M') own) G' w' := by
  obtain ⟨g1, g2⟩ := h.own _ _ _ hk
  have hMZ : ∀ g, M g → Z g := fun g hg => Y.sub Z M w g1 g hg
  refine ⟨fun j c x e => ?_, fun j j' c c' x x' g e e' f f' => ?_, ?_⟩
  · rw [lk_stk] at e
    split at e
    · rename_i hj; subst hj; cases e
      refine ⟨hY, fun g hg => ?_⟩
      rcases hr.m g hg with q | q
      · obtain ⟨_, q2, q3⟩ := g2 g q
        exact ⟨hM g hg, q2, q3⟩
      · exact ⟨hM g hg, fun _ => Nat.le_trans h.grow.size q, fun _ => .inr (Nat.le_trans h.grow.size q)⟩
    · rename_i hj
      obtain ⟨f1, f2⟩ := h.own _ _ _ e
      refine ⟨OO.holds_same f1 hr.fr fun g hg => ?_, fun g hg => ?_⟩
      · exact hr.same g (h.lt e hg) fun q => hj (h.inj _ _ _ _ _ _ g e hk hg (hMZ g q))
      · obtain ⟨q1, q2, q3⟩ := f2 g hg
        exact ⟨by rw [hold g (h.ltm e hg)]; exact q1, q2, q3⟩
  · have key : ∀ {j c x}, lk j own = some (c, x) → x.blks c g → Z' g → j = k := by
      intro j c x e f f'
      rcases hr.z g f' with q | q
      · exact h.inj _ _ _ _ _ _ g e hk f q
      · have := h.lt e f; omega
    rw [lk_stk] at e e'
    split at e <;> split at e'
    · omega
    · rename_i h1 h2; cases e; exact absurd (key e' f' f) h2
    · rename_i h1 h2; cases e'; exact absurd (key e f f') h1
    · exact h.inj _ _ _ _ _ _ _ e e' f f'
  · have hg := h.grow
    refine ⟨hr.fr.os.trans hg.os, hr.fr.tape.trans hg.tape, hr.fr.output.trans hg.output, Nat.le_trans hg.size hr.fr.size, fun j hj hm => ?_, hG, fun b hb => by rw [hold b (by have := hg.size; omega)]; exact hg.old b hb⟩
    rw [hr.same j (by have := hg.size; omega) ?_]; exact hg.blk j hj hm
    intro q
    obtain ⟨_, q3, q4⟩ := g2 j q
    rcases Nat.lt_or_ge k C.mh with r | r
    · exact (q4 r).elim hm (fun q5 => by omega)
    · have := q3 r; omega

theorem go_yield (ky : Nat) {y : Operand} {lp : Nat} {args : Array Operand} {tys : Array TypeId} {vs : List SV} {A : Nat → Zn} {B : Zn} {enc : Nat → List Value → Hp → Prop} {N k b n0 : Nat} {Z0 Z M : Nat → Prop}
    (hy : YOk C.P lp A B enc N) (hd : dOk C.nt d = true) (hv : ev s.sl y = some (.v (.func (.yield lp) #[] #[]))) (ha : evs s.sl args.toList = some vs) (hk : lk ky s.own = some (b, .z (lim (A k) Z0 n0) Z M)) (hn0 : n0 = C.w0.heap.size) (hkN : k < N) (henc : enc k (dens vs) s.G)
    (h1 : ∀ Z' M', SGo C (.ops R l :: K) ⟨putS d (.b true) s.sl, stk ky (b, .z (lim (A (k + 1)) Z0 n0) Z' M') s.own, s.G, s.df⟩)
    (h2 : ∀ Z' M', SGo C (.ops R l :: K) ⟨putS d (.b false) s.sl, stk ky (b, .z (lim B Z0 n0) Z' M') s.own, s.G, s.df⟩) :
    SGo C (.ops R (⟨d, .call ⟨.value y, args, tys⟩, t, pos, aft, none⟩ :: l) :: K) s := by
  intro a w hS
  have hargs : args.map a.eval = (dens vs).toArray := by apply Array.ext'; rw [Array.toList_map]; exact evs_ok hS.sl ha
  have hyv := ev_ok hS.sl hv
  simp only [SV.den] at hyv
  obtain ⟨g1, g2⟩ := hS.mem.own _ _ _ hk
  obtain ⟨g1a, g1b⟩ := g1
  obtain ⟨fn, tmps, assign, body, hrun0, hround⟩ := hy k (dens vs) w Z M s.G hkN g1a hS.mem.has (fun g hg => (g2 g hg).1) henc
  have hrun : (execOp a.eval ⟨d, .call ⟨.value y, args, tys⟩, t, pos, aft, none⟩).run C.P w = .ok (.round lp fn tmps assign body) w := by
    simp only [execOp, resolve, hargs, hyv, Deferred.ofValue, Sem.run_bind, Sem.run_pure, Result.andThen_ok, invoke]
    simpa using hrun0
  refine K_op rfl ⟨fun _ _ => trivial, ?_⟩
  have hsem := semAt_run (ro := C.ro) hrun (by simp)
  show Oper.uponIn _ _ _ _ _ _ _ ((Oper.semAt C.ro a.eval _).run C.P w)
  rw [hsem]
  refine ⟨FR_depth _ _, ?_⟩
  have hround' : RoundIn (FR C.ro) 0 C.P lp fn tmps assign body w _ := hround
  refine hround'.mono ?_
  rintro e w' ⟨v, rfl, Z', M', hr, hcase⟩
  have hn := hS.mem.grow.size
  have hz0 : ∀ g, Z' g → Z0 g ∨ n0 ≤ g := fun g hg => (hr.z g hg).elim (g1b g) (fun q => .inr (by omega))
  have hGw : Has w' s.G := fun j x e => by
    have := hS.mem.has j x e
    rw [hr.same j (lt_of_heap this) (fun q => by rw [(g2 j q).1] at e; cases e)]; exact this
  have hMG : ∀ g, M' g → s.G g = none := fun g hg => by
    rcases hr.m g hg with q | q
    · exact (g2 g q).1
    · cases hG : s.G g with
      | none => rfl
      | some x => have := lt_of_heap (hS.mem.has g x hG); omega
  rcases hcase with ⟨rfl, hA⟩ | ⟨rfl, hA⟩
  · exact h1 Z' M' _ _ (hS.put hd (.b true) (hS.mem.zone hk hr (Y' := lim (A (k + 1)) Z0 n0) ⟨hA, hz0⟩ hGw (fun _ _ => rfl) hMG))
  · exact h2 Z' M' _ _ (hS.put hd (.b false) (hS.mem.zone hk hr (Y' := lim B Z0 n0) ⟨hA, hz0⟩ hGw (fun _ _ => rfl) hMG))

open Classical in
theorem enterZ {P : Program} {f : FuncId} {fn : Func} {G : Hp} {A0 : Zn} {φ : Value → Hp → Zn → Prop} (ty : TypeId → Option TI) (tyok : ∀ T i, ty T = some i → i.ok P T) {nt : Nat}
    (hf : P.funcs[f]? = some fn) (hb : fn.body.isSome = true) (hn : fn.ntmps = nt) (svs : List SV) (hargs : svs.length ≤ nt)
    (h : ∀ (C : Ctx) (Z M : Nat → Prop), C.P = P → C.Q = bodyPost C.P fn (RetZ C.w0 Z M G φ) → C.nt = nt → C.ty = ty → (∀ g, g ∈ C.mb → M g) → C.mh = 1 → C.ro = none → C.G0 = G →
      SGo C [.code (fn.body.getD .skip)] ⟨enumS 0 svs, [(0, 0, .z (lim A0 Z C.w0.heap.size) Z M)], G, []⟩) : YFun P f (dens svs) G A0 φ := by
  intro w Z M hw hA hMG
  refine calls_of_wp hf (body_eq hb) ((wpIn_wide (n := 0)).1 ?_)
  have := h ⟨P, bodyPost P fn (RetZ w Z M G φ), nt, ty, tyok, w, G, (List.range w.heap.size).filter (fun g => decide (M g)), 1, none⟩ Z M rfl rfl rfl rfl (fun g hg => by simpa using (List.mem_filter.1 hg).2) rfl rfl rfl
    { tmps := (dens svs).toArray ++ Array.replicate (fn.ntmps - (dens svs).toArray.size) undef, defers := [] } w
    ⟨slots_args _ _ _ (fun i x e => by have := (lk_enumS svs 0 i x e).2; simpa using this), by simp [hn, dens_eq]; omega, rfl, ⟨fun j c x e => ?_, fun j j' c c' x x' g e e' _ _ => ?_, Grow.refl hw⟩⟩
  · simp only [wpK] at this
    exact this
  · simp only [lk] at e
    split at e
    · rename_i hj; subst hj; cases e
      refine ⟨⟨hA, fun g hg => .inl hg⟩, fun g hg => ⟨hMG g hg, fun q => by simp at q, fun _ => .inl (List.mem_filter.2 ⟨List.mem_range.2 (A0.lt Z M w hA g (A0.sub Z M w hA g hg)), decide_eq_true hg⟩)⟩⟩
    · cases e
  · simp only [lk] at e e'
    split at e
    · split at e'
      · omega
      · cases e'
    · cases e

theorem x_retZ {k : Code} (ht : tag k = 7) {fn : Func} {Z M : Nat → Prop} {G : Hp} {φ : Value → Hp → Zn → Prop} (hQ : C.Q = bodyPost C.P fn (RetZ C.w0 Z M G φ)) (hmb : ∀ g, g ∈ C.mb → M g) (hmh : C.mh = 1) (hG : C.G0 = G) {rs : List ResultVar} (hrs : fn.results.toList = rs) {xs : List SV}
    (hr : resAll s.sl C.ty s.own rs = some xs) (hdf : s.df = []) {b : Nat} {Y : Zn} {Z' M' : Nat → Prop} (hk : lk 0 s.own = some (b, .z (lim Y Z C.w0.heap.size) Z' M')) (h : φ (resV xs).den s.G Y) (hnb : noBr K = true := by rfl) : SGo C (.code k :: K) s := by
  intro a w hS
  cases k <;> simp [tag] at ht
  · rename_i a b c; cases c <;> simp at ht
  refine wpIn_ret ?_
  rw [wpK_ret _ _ _ hnb, hQ]
  obtain ⟨g1, g2⟩ := hS.mem.own _ _ _ hk
  have hg := hS.mem.grow
  refine ⟨by rw [hS.df, hdf], _, results_ok hS (by rw [hrs]; exact hr), _, s.G, Y, Z', M', rfl, ⟨hg.fr, g1.2, fun g hgm => ?_, fun g hlt hgm => hg.blk g hlt (fun q => hgm (hmb g q))⟩, hg.has, fun b hb => by rw [hg.old b hb, hG], fun g hgm => (g2 g hgm).1, g1.1, h⟩
  exact ((g2 g hgm).2.2 (by omega)).imp (hmb g) id
theorem go_endZ {fn : Func} {Z M : Nat → Prop} {G : Hp} {φ : Value → Hp → Zn → Prop} (hQ : C.Q = bodyPost C.P fn (RetZ C.w0 Z M G φ)) (hmb : ∀ g, g ∈ C.mb → M g) (hmh : C.mh = 1) (hG : C.G0 = G) {rs : List ResultVar} (hrs : fn.results.toList = rs) {xs : List SV}
    (hr : resAll s.sl C.ty s.own rs = some xs) (hdf : s.df = []) {b : Nat} {Y : Zn} {Z' M' : Nat → Prop} (hk : lk 0 s.own = some (b, .z (lim Y Z C.w0.heap.size) Z' M')) (h : φ (resV xs).den s.G Y) : SGo C [] s := by
  intro a w hS
  show C.Q .normal a w
  rw [hQ]
  obtain ⟨g1, g2⟩ := hS.mem.own _ _ _ hk
  have hg := hS.mem.grow
  refine ⟨by rw [hS.df, hdf], _, results_ok hS (by rw [hrs]; exact hr), _, s.G, Y, Z', M', rfl, ⟨hg.fr, g1.2, fun g hgm => ?_, fun g hlt hgm => hg.blk g hlt (fun q => hgm (hmb g q))⟩, hg.has, fun b hb => by rw [hg.old b hb, hG], fun g hgm => (g2 g hgm).1, g1.1, h⟩
  exact ((g2 g hgm).2.2 (by omega)).imp (hmb g) id
end
end Go.Sx
