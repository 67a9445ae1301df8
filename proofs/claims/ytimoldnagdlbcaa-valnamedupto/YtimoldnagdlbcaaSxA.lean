/-
  A symbolic walk over the model's code: definitions and the rules of control.
  Generic: names no program. The state of a walk: what is known of the slots, of the blocks of the call's own, and a heap of blocks that no longer change.
-/
import Derived.WalkKit
import Derived.Deep.Quiet
import Derived.OrdersHeld
import Derived.OrdersIn
import Derived.TacticsIn
import Derived.RangeFuncIn
namespace Go.Sx
set_option linter.unusedSimpArgs false
set_option linter.unusedVariables false
open Go.RowKit

/-- A heap of blocks that are known and stay as they are. -/
abbrev Hp := Nat → Option Obj

/-- A value as the walk knows it: 'v': whatever value; 'b': a bool that is decided; 'p': a pointer into a block of the call's own (handle, block, offset). -/
inductive SV where
  | v (x : Value)
  | b (t : Bool)
  | p (h b off : Nat)
  | a (l : List SV)
  | t (l : List SV)
  | s (h b off len cap : Nat)
  | f (fn : Fn) (first cap : List SV)
  | i (t : TypeId) (x : SV)

mutual
def SV.den : SV → Value
  | .v x => x
  | .b u => .bool u
  | .p _ bl off => .pointer (some ⟨bl, off, none⟩)
  | .a l => .agg (dens l).toArray
  | .t l => .tuple (dens l).toArray
  | .s _ bl off len cap => .slice (some ⟨bl, off, none⟩) len cap
  | .f fn first cap => .func fn (dens first).toArray (dens cap).toArray
  | .i ty x => .iface ty x.den
def dens : List SV → List Value
  | [] => []
  | x :: l => x.den :: dens l
end

theorem dens_eq (l : List SV) : dens l = l.map SV.den := by
  induction l with
  | nil => simp [dens]
  | cons x l ih => simp [dens, ih]

/-- Look a key up. -/
def lk {α : Type} (i : Nat) : List (Nat × α) → Option α
  | [] => none
  | x :: l => if i = x.1 then some x.2 else lk i l
/-- Set a key. -/
def stk {α : Type} (i : Nat) (x : α) : List (Nat × α) → List (Nat × α)
  | [] => [(i, x)]
  | y :: l => if i = y.1 then (i, x) :: l else y :: stk i x l
/-- Strike a key. -/
def rmk {α : Type} (i : Nat) : List (Nat × α) → List (Nat × α)
  | [] => []
  | y :: l => if i = y.1 then rmk i l else y :: rmk i l

theorem lk_stk {α : Type} (i j : Nat) (x : α) (l : List (Nat × α)) : lk j (stk i x l) = if j = i then some x else lk j l := by
  induction l with
  | nil => simp [stk, lk]
  | cons y l ih =>
    simp only [stk]
    split
    · rename_i h
      simp only [lk]
      by_cases hj : j = i
      · simp [hj]
      · simp [hj, h ▸ hj]
    · rename_i h
      simp only [lk, ih]
      by_cases hj : j = i
      · subst hj; simp [h]
      · simp [hj]

theorem lk_rmk {α : Type} (i j : Nat) (l : List (Nat × α)) : lk j (rmk i l) = if j = i then none else lk j l := by
  induction l with
  | nil => simp [rmk, lk]
  | cons y l ih =>
    simp only [rmk]
    split
    · rename_i h
      rw [ih]
      by_cases hj : j = i
      · simp [hj]
      · simp only [if_neg hj, lk]; rw [if_neg (by omega)]
    · rename_i h
      simp only [lk, ih]
      by_cases hj : j = i
      · subst hj; simp [h]
      · simp [hj]

/-- A key that is free, from m on. -/
def fk {α : Type} (m : Nat) : List (Nat × α) → Nat
  | [] => m
  | y :: l => fk (if m ≤ y.1 then y.1 + 1 else m) l
theorem fk_ge {α : Type} (l : List (Nat × α)) : ∀ m, m ≤ fk m l := by
  induction l with
  | nil => intro m; exact Nat.le_refl _
  | cons y l ih => intro m; simp only [fk]; refine Nat.le_trans ?_ (ih _); split <;> omega
theorem lk_fk {α : Type} (l : List (Nat × α)) : ∀ m k, fk m l ≤ k → lk k l = none := by
  induction l with
  | nil => intros; rfl
  | cons y l ih =>
    intro m k h
    simp only [fk] at h
    have h1 := fk_ge l (if m ≤ y.1 then y.1 + 1 else m)
    simp only [lk]
    rw [if_neg]
    · exact ih _ k h
    · intro e
      by_cases hm : m ≤ y.1
      · rw [if_pos hm] at h1 h; omega
      · rw [if_neg hm] at h1 h; omega

/-- Of a world and a later one. -/
structure Fr (w w' : World) : Prop where
  os : w'.os = w.os
  tape : w'.tape = w.tape
  output : w'.output = w.output
  size : w.heap.size ≤ w'.heap.size

/-- What is said of the world as far as some blocks go (Z; M: those of them that may yet be written), and stays true where these stay as they are. -/
structure Zn where
  A : (Nat → Prop) → (Nat → Prop) → World → Prop
  lt : ∀ Z M w, A Z M w → ∀ g, Z g → g < w.heap.size
  sub : ∀ Z M w, A Z M w → ∀ g, M g → Z g
  st : ∀ Z M w w', A Z M w → Fr w w' → (∀ g, Z g → w'.heap[g]? = w.heap[g]?) → A Z M w'

/-- What is of the call's own: a block of cells that are known one by one; a block as a whole; a slice that grows ('row': its value, element type, cells of an element, length, cells); whatever is said of some blocks ('z'). -/
inductive OO where
  | c (ty : TypeId) (cells : List SV)
  | o (x : Obj)
  | row (v : Value) (e : TypeId) (size n : Nat) (xs : List Value)
  | z (Y : Zn) (Z M : Nat → Prop)
def OO.holds (base : Nat) (w : World) (b : Nat) : OO → Prop
  | .c ty cells => w.heap[b]? = some (.cells (dens cells).toArray ty)
  | .o x => w.heap[b]? = some x
  | .row v e size n xs => w.ownsRow 0 e size v n xs
  | .z Y Z M => Y.A Z M w
def OO.blks (b : Nat) : OO → Nat → Prop
  | .row v _ _ _ _ => fun g => v.ownBlock = some g
  | .z _ Z _ => Z
  | _ => fun g => g = b
/-- Those of its blocks that may be written. -/
def OO.mut (b : Nat) : OO → Nat → Prop
  | .row v _ _ _ _ => fun g => v.ownBlock = some g
  | .z _ _ M => M
  | _ => fun g => g = b

theorem OO.holds_same {base : Nat} {w w' : World} {b : Nat} {o : OO} (h : o.holds base w b) (hf : Fr w w') (hs : ∀ g, o.blks b g → w'.heap[g]? = w.heap[g]?) : o.holds base w' b := by
  cases o with
  | c ty cells => simp only [OO.holds, OO.blks] at *; rw [hs b rfl]; exact h
  | o x => simp only [OO.holds, OO.blks] at *; rw [hs b rfl]; exact h
  | row v e size n xs =>
    simp only [OO.holds, OO.blks] at *
    refine ⟨h.1, ?_⟩
    rcases h.2 with h2 | ⟨g, cap, cur, rfl, hb, hg, rest⟩
    · exact .inl h2
    · exact .inr ⟨g, cap, cur, rfl, hb, by rw [hs g rfl]; exact hg, rest⟩
  | z Y Z M => exact Y.st Z M w w' h hf hs
theorem OO.holds_lt {base : Nat} {w : World} {b : Nat} {o : OO} (h : o.holds base w b) {g : Nat} (hg : o.blks b g) : g < w.heap.size := by
  have aux : ∀ {x : Obj}, w.heap[g]? = some x → g < w.heap.size := fun {x} e => by
    rcases Nat.lt_or_ge g w.heap.size with h' | h'
    · exact h'
    · simp [Array.getElem?_eq_none h'] at e
  cases o with
  | c ty cells => simp only [OO.holds, OO.blks] at *; subst hg; exact aux h
  | o x => simp only [OO.holds, OO.blks] at *; subst hg; exact aux h
  | row v e size n xs => simp only [OO.holds, OO.blks] at *; exact (h.lt g hg).2
  | z Y Z M => exact Y.lt Z M w h g hg
theorem OO.mut_blks {base : Nat} {w : World} {b : Nat} {o : OO} (h : o.holds base w b) {g : Nat} (hg : o.mut b g) : o.blks b g := by
  cases o with
  | c ty cells => exact hg
  | o x => exact hg
  | row v e size n xs => exact hg
  | z Y Z M => exact Y.sub Z M w h g hg

structure St where
  sl : List (Nat × SV)
  own : List (Nat × Nat × OO)
  G : Hp
  df : List Deferred

/-- What became of a world: but for the blocks 'mb' all that was there is as it was; G's blocks are there; of what was there before G knows what it knew. -/
structure Grow (mb : List Nat) (w0 : World) (G0 : Hp) (w : World) (G : Hp) : Prop where
  os : w.os = w0.os
  tape : w.tape = w0.tape
  output : w.output = w0.output
  size : w0.heap.size ≤ w.heap.size
  blk : ∀ k, k < w0.heap.size → k ∉ mb → w.heap[k]? = w0.heap[k]?
  has : ∀ b o, G b = some o → w.heap[b]? = some o
  old : ∀ b, b < w0.heap.size → G b = G0 b

def Has (w : World) (G : Hp) : Prop := ∀ b o, G b = some o → w.heap[b]? = some o

theorem lt_of_heap {w : World} {b : Nat} {o : Obj} (h : w.heap[b]? = some o) : b < w.heap.size := by
  rcases Nat.lt_or_ge b w.heap.size with h' | h'
  · exact h'
  · simp [Array.getElem?_eq_none h'] at h

theorem Grow.refl {mb : List Nat} {w : World} {G : Hp} (h : Has w G) : Grow mb w G w G :=
  ⟨rfl, rfl, rfl, Nat.le_refl _, fun _ _ _ => rfl, h, fun _ _ => rfl⟩

theorem Grow.trans {mb : List Nat} {a b c : World} {A B C : Hp} (h : Grow mb a A b B) (k : Grow mb b B c C) : Grow mb a A c C where
  os := k.os.trans h.os
  tape := k.tape.trans h.tape
  output := k.output.trans h.output
  size := Nat.le_trans h.size k.size
  blk i hi hm := (k.blk i (Nat.lt_of_lt_of_le hi h.size) hm).trans (h.blk i hi hm)
  has := k.has
  old i hi := (k.old i (Nat.lt_of_lt_of_le hi h.size)).trans (h.old i hi)

/-- What G knew it still knows. -/
theorem Grow.keep {mb : List Nat} {w0 w : World} {G0 G : Hp} (h : Grow mb w0 G0 w G) (h0 : Has w0 G0) {b : Nat} {o : Obj} (hb : G0 b = some o) : G b = some o := by
  rw [h.old b (lt_of_heap (h0 b o hb))]; exact hb

theorem Grow.fr {mb : List Nat} {w0 w : World} {G0 G : Hp} (h : Grow mb w0 G0 w G) : Fr w0 w := ⟨h.os, h.tape, h.output, h.size⟩
theorem Grow.below {w0 w : World} {G0 G : Hp} (h : Grow [] w0 G0 w G) : Below w0.heap.size w0 w :=
  ⟨h.os, h.tape, h.output, h.size, fun k hk => h.blk k hk (by simp)⟩

/-! ### The stack of what is left to do -/

inductive KI where
  | code (c : Code)
  | blk (id : Nat)
  | loop (c : Code)
  | ops (R : Array Oper) (l : List Oper)
  /-- a region that draws its order, every operation quiet in the class M -/
  | q (M : World → Prop) (R : Array Oper) (l : List Oper)
  /-- a region that draws its order, S holding behind every operation -/
  | h (S : World → Prop) (R : Array Oper) (n : Nat) (listed : Array Bool)
  /-- S is asked -/
  | hs (S : World → Prop)
  /-- a region that draws its order, S holding behind every operation until the operation p is carried out -/
  | hu (S : World → Prop) (p : Nat) (R : Array Oper) (n : Nat) (listed : Array Bool)
  /-- a round's beginning, behind the assignments to its variables -/
  | br (l : Nat)

/-- No fence but a round's. -/
def FR (ro : Option Nat) : Fence := { Fence.wide with round := ro }
theorem FR_fn (ro : Option Nat) (f : FuncId) : (FR ro).fn f := trivial
theorem FR_room (ro : Option Nat) (n : Nat) : (FR ro).room n := fun _ h => by cases h
theorem FR_depth (ro : Option Nat) (n : Nat) : (FR ro).depth.isSome = true → 1 ≤ n := fun h => by cases h
theorem callsFR {ro : Option Nat} {n : Nat} {P : Program} {f : FuncId} {args : Array Value} {w : World} {R : Ending → World → Prop} : CallsIn (FR ro) n P f args w R ↔ Calls P f args w R :=
  (show CallsIn (FR ro) n P f args w R ↔ CallsIn Fence.wide n P f args w R from Iff.rfl).trans callsIn_wide

/-- The loop at its head, met from its body's end. -/
def wpLoop (P : Program) (ro : Option Nat) (c : Code) (Q : Exit → Act → World → Prop) (a : Act) (w : World) : Prop :=
  ∀ (b : Frame) (k : List Item) (cs : List Frame), b.roundOf = ro →
    ∃ e a' w', Q e a' w' ∧ ArrivesIn (Machine.fenced P (FR ro)) P (lone (b.atR a (.inLoop c :: k)) cs w) b k cs e a' w'

theorem wp_loop_in {P : Program} {ro : Option Nat} {Q : Exit → Act → World → Prop} {a : Act} {w : World} {c : Code} (h : c.wpIn (FR ro) 0 P (Exit.then (wpLoop P ro c Q) Q) a w) :
    ∀ (b : Frame) (k : List Item) (cs : List Frame), b.roundOf = ro → ∃ e a' w', Q e a' w' ∧ ArrivesIn (Machine.fenced P (FR ro)) P (lone (b.atR a (.code c :: .inLoop c :: k)) cs w) b k cs e a' w' := by
  intro b k cs hro
  obtain ⟨e, a₁, w₁, hq, harr⟩ := h b (.inLoop c :: k) cs hro (FR_fn _ _) (FR_room _ _)
  cases e with
  | normal =>
    obtain ⟨e₂, a₂, w₂, hq₂, harr₂⟩ := hq b k cs hro
    exact ⟨e₂, a₂, w₂, hq₂, .of_steps harr harr₂⟩
  | exit id => exact ⟨_, a₁, w₁, hq, .pass (x := .inLoop c) rfl (fun _ _ => .inl (by simp)) harr⟩
  | goto l => exact ⟨_, a₁, w₁, hq, .pass (x := .inLoop c) rfl (fun _ _ => .inl (by simp)) harr⟩
  | ret => exact ⟨_, a₁, w₁, hq, .pass (x := .inLoop c) rfl (fun _ _ => .inl (by simp)) harr⟩
  | panic ch => exact ⟨_, a₁, w₁, hq, .pass (x := .inLoop c) rfl (fun _ _ => .inl (by simp)) harr⟩
  | outgrown => exact ⟨_, a₁, w₁, hq, .pass (x := .inLoop c) rfl (fun _ _ => .inl (by simp)) harr⟩

theorem wp_loop_first {P : Program} {ro : Option Nat} {Q : Exit → Act → World → Prop} {a : Act} {w : World} {c : Code} (h : c.wpIn (FR ro) 0 P (Exit.then (wpLoop P ro c Q) Q) a w) : (Code.loop c).wpIn (FR ro) 0 P Q a w := by
  intro b k cs hro hb hr
  obtain ⟨e, a', w', hq, harr⟩ := wp_loop_in h b k cs hro
  exact ⟨e, a', w', hq, .of_steps (.one (fenced_calm hb hr rfl) stepR_loop) harr⟩

theorem wp_loop_again {P : Program} {ro : Option Nat} {Q : Exit → Act → World → Prop} {a : Act} {w : World} {c : Code} (h : c.wpIn (FR ro) 0 P (Exit.then (wpLoop P ro c Q) Q) a w) : wpLoop P ro c Q a w := by
  intro b k cs hro
  obtain ⟨e, a', w', hq, harr⟩ := wp_loop_in h b k cs hro
  exact ⟨e, a', w', hq, .of_steps (.one (fenced_calm (FR_fn _ _) (FR_room ro (cs.length + 1 + 0)) rfl) stepR_inLoop) harr⟩

/-- Whatever order is picked from here on, S holding behind every operation that is carried out. -/
def wpAnyHI (P : Program) (ro : Option Nat) (md : Region.Mode) (ops : Array Oper) (Q : Exit → Act → World → Prop) (S : World → Prop) : Nat → Array Bool → Act → World → Prop
  | 0, listed, a, w => Region.ready md ops listed = [] ∧ Q .normal a w
  | fuel + 1, listed, a, w =>
    (Region.ready md ops listed = [] → Q .normal a w) ∧
    ∀ i ∈ Region.ready md ops listed, wpOpIn (FR ro) 0 P ops Q i (fun a' w' => S w' ∧ wpAnyHI P ro md ops Q S fuel (listed.setIfInBounds i true) a' w') a w

/-- The same, S holding until p is carried out. -/
def wpAnyHU (P : Program) (ro : Option Nat) (md : Region.Mode) (ops : Array Oper) (Q : Exit → Act → World → Prop) (S : World → Prop) (p : Nat) : Nat → Array Bool → Act → World → Prop
  | 0, listed, a, w => Region.ready md ops listed = [] ∧ Q .normal a w
  | fuel + 1, listed, a, w =>
    (Region.ready md ops listed = [] → Q .normal a w) ∧
    ∀ i ∈ Region.ready md ops listed, wpOpIn (FR ro) 0 P ops Q i (fun a' w' => ((listed.setIfInBounds i true).getD p true = false → S w') ∧ wpAnyHU P ro md ops Q S p fuel (listed.setIfInBounds i true) a' w') a w

def wpK (P : Program) (ro : Option Nat) (Q : Exit → Act → World → Prop) : List KI → Exit → Act → World → Prop
  | [], e, a, w => Q e a w
  | .code c :: K, .normal, a, w => c.wpIn (FR ro) 0 P (wpK P ro Q K) a w
  | .loop c :: K, .normal, a, w => wpLoop P ro c (wpK P ro Q K) a w
  | .ops R l :: K, .normal, a, w => wpListIn (FR ro) 0 P R (wpK P ro Q K) l a w
  | .q M R l :: K, .normal, a, _ => wpQuiet P R M (fun a' => ∀ w', M w' → wpK P ro Q K .normal a' w') l a
  | .h S R n listed :: K, .normal, a, w => wpAnyHI P ro .any R (wpK P ro Q K) S n listed a w
  | .hs S :: K, .normal, a, w => S w ∧ wpK P ro Q K .normal a w
  | .hu S p R n listed :: K, .normal, a, w => wpAnyHU P ro .any R (wpK P ro Q K) S p n listed a w
  | .br l :: K, .normal, a, w => ∃ w₂, (Instr.beginRound l).run P w = .ok () w₂ ∧ wpK P ro Q K .normal a w₂
  | .br _ :: _, _, _, _ => False
  | .blk id :: K, .exit id', a, w => if id' = id then wpK P ro Q K .normal a w else wpK P ro Q K (.exit id') a w
  | _ :: K, e, a, w => wpK P ro Q K e a w

section
variable {P : Program} {ro : Option Nat} {Q : Exit → Act → World → Prop} {K : List KI} {a : Act} {w : World}

theorem wpK_code_eq (c : Code) : wpK P ro Q (.code c :: K) = Exit.then (c.wpIn (FR ro) 0 P (wpK P ro Q K)) (wpK P ro Q K) := by
  funext e a w; cases e <;> rfl
theorem wpK_loop_eq (c : Code) : wpK P ro Q (.loop c :: K) = Exit.then (wpLoop P ro c (wpK P ro Q K)) (wpK P ro Q K) := by
  funext e a w; cases e <;> rfl
theorem wpK_blk_eq (id : Nat) : wpK P ro Q (.blk id :: K) = Exit.inBlock id (wpK P ro Q K) := by
  funext e a w; cases e <;> rfl

def noBr : List KI → Bool
  | [] => true
  | .br _ :: _ => false
  | .code _ :: K => noBr K
  | .loop _ :: K => noBr K
  | .ops _ _ :: K => noBr K
  | .q _ _ _ :: K => noBr K
  | .h _ _ _ _ :: K => noBr K
  | .hs _ :: K => noBr K
  | .hu _ _ _ _ _ :: K => noBr K
  | .blk _ :: K => noBr K
theorem wpK_ret : ∀ (K : List KI) (a : Act) (w : World), noBr K = true → wpK P ro Q K .ret a w = Q .ret a w
  | [], _, _, _ => rfl
  | .code _ :: K, a, w, h => wpK_ret K a w h
  | .loop _ :: K, a, w, h => wpK_ret K a w h
  | .ops _ _ :: K, a, w, h => wpK_ret K a w h
  | .q _ _ _ :: K, a, w, h => wpK_ret K a w h
  | .h _ _ _ _ :: K, a, w, h => wpK_ret K a w h
  | .hs _ :: K, a, w, h => wpK_ret K a w h
  | .hu _ _ _ _ _ :: K, a, w, h => wpK_ret K a w h
  | .blk _ :: K, a, w, h => wpK_ret K a w h
  | .br _ :: _, _, _, h => by cases h
theorem wpK_panic (ch : List PanicEntry) (d : Option Tmp) (v : Value) (hQ : ∀ (a : Act) w, Q (.panic ch) (a.put d v) w → Q (.panic ch) a w) : ∀ (K : List KI) (a : Act) (w : World), wpK P ro Q K (.panic ch) (a.put d v) w → wpK P ro Q K (.panic ch) a w
  | [], a, w, h => hQ a w h
  | .code _ :: K, a, w, h => wpK_panic ch d v hQ K a w h
  | .loop _ :: K, a, w, h => wpK_panic ch d v hQ K a w h
  | .ops _ _ :: K, a, w, h => wpK_panic ch d v hQ K a w h
  | .q _ _ _ :: K, a, w, h => wpK_panic ch d v hQ K a w h
  | .h _ _ _ _ :: K, a, w, h => wpK_panic ch d v hQ K a w h
  | .hs _ :: K, a, w, h => wpK_panic ch d v hQ K a w h
  | .hu _ _ _ _ _ :: K, a, w, h => wpK_panic ch d v hQ K a w h
  | .blk _ :: K, a, w, h => wpK_panic ch d v hQ K a w h
  | .br _ :: _, _, _, h => h.elim
end

/-- What is left behind the end of block 'id'. -/
def popTo (id : Nat) : List KI → Option (List KI)
  | [] => none
  | .blk id' :: K => if id = id' then some K else popTo id K
  | .code _ :: K => popTo id K
  | .loop _ :: K => popTo id K
  | .ops _ _ :: K => popTo id K
  | .q _ _ _ :: K => popTo id K
  | .h _ _ _ _ :: K => popTo id K
  | .hs _ :: K => popTo id K
  | .hu _ _ _ _ _ :: K => popTo id K
  | .br _ :: _ => none

theorem wpK_exit {P : Program} {ro : Option Nat} {Q : Exit → Act → World → Prop} (id : Nat) : ∀ (K K' : List KI) (a : Act) (w : World), popTo id K = some K' → wpK P ro Q K' .normal a w → wpK P ro Q K (.exit id) a w
  | [], _, _, _, h, _ => by simp [popTo] at h
  | .code _ :: K, K', a, w, h, g => wpK_exit id K K' a w h g
  | .loop _ :: K, K', a, w, h, g => wpK_exit id K K' a w h g
  | .ops _ _ :: K, K', a, w, h, g => wpK_exit id K K' a w h g
  | .q _ _ _ :: K, K', a, w, h, g => wpK_exit id K K' a w h g
  | .h _ _ _ _ :: K, K', a, w, h, g => wpK_exit id K K' a w h g
  | .hs _ :: K, K', a, w, h, g => wpK_exit id K K' a w h g
  | .hu _ _ _ _ _ :: K, K', a, w, h, g => wpK_exit id K K' a w h g
  | .br _ :: K, K', a, w, h, g => by simp [popTo] at h
  | .blk id' :: K, K', a, w, h, g => by
    simp only [popTo] at h
    simp only [wpK]
    split at h
    · rename_i e; cases h; rw [if_pos e]; exact g
    · rename_i e; rw [if_neg e]; exact wpK_exit id K K' a w h g

/-! ### Types -/

inductive TK where
  | bool | int (k : IntKind) | str | slice (e : TypeId) | ptr (e : TypeId) | strct | arr (n : Nat) (e : TypeId) | iface | func | map (k e : TypeId) | other
structure TI where
  k : TK
  size : Nat
  bytes : Nat
  zero : List Value
  /-- a struct's fields: offset, size, is it a struct or an array -/
  flds : List (Nat × Nat × Bool)

def TK.agg : TK → Bool
  | .strct | .arr _ _ => true
  | _ => false

def descAgg : TypeDesc → Bool
  | .struct _ | .array _ _ => true
  | _ => false

def TK.fits (P : Program) (T : TypeId) (flds : List (Nat × Nat × Bool)) : TK → Prop
  | .bool => P.underlying T = some .bool
  | .int k => P.underlying T = some (.int k)
  | .str => P.underlying T = some .string
  | .slice e => P.underlying T = some (.slice e)
  | .ptr e => P.underlying T = some (.pointer e)
  | .strct => ∃ fs, P.underlying T = some (.struct fs) ∧ fs.toList.map (fun f => (P.info? f.type).bind fun i => (P.underlying f.type).map fun d => (f.offset, i.size, descAgg d)) = flds.map some
  | .arr n e => P.underlying T = some (.array n e)
  | .iface => ∃ m, P.underlying T = some (.interface m)
  | .func => ∃ x y z, P.underlying T = some (.func x y z)
  | .map k e => P.underlying T = some (.map k e)
  | .other => ∃ d, P.underlying T = some d ∧ descAgg d = false

theorem fits_strct {P : Program} {T : TypeId} {flds : List (Nat × Nat × Bool)} (h : TK.fits P T flds .strct) :
    ∃ fs, P.underlying T = some (.struct fs) ∧ (∀ j : Nat, (fs[j]?).bind (fun f => (P.info? f.type).bind fun i => (P.underlying f.type).map fun d => (f.offset, i.size, descAgg d)) = flds[j]?) ∧ fs.size = flds.length := by
  obtain ⟨fs, h1, h2⟩ := h
  refine ⟨fs, h1, fun j => ?_, ?_⟩
  · have := congrArg (fun l => l[j]?) h2
    simp only [List.getElem?_map, Array.getElem?_toList] at this
    cases hf : fs[j]? with
    | none => rw [hf] at this; cases hg : flds[j]? with
      | none => rfl
      | some q => rw [hg] at this; simp at this
    | some f => rw [hf] at this; cases hg : flds[j]? with
      | none => rw [hg] at this; simp at this
      | some q => rw [hg] at this; simpa using this
  · have := congrArg List.length h2
    simpa using this

structure TI.ok (P : Program) (T : TypeId) (i : TI) : Prop where
  info : ∃ x z, P.info? T = some x ∧ x.size = i.size ∧ x.bytes = i.bytes ∧ x.zero = some z ∧ z.cells = i.zero.toArray
  len : i.zero.length = i.size
  k : i.k.fits P T i.flds

theorem TI.ok.agg {P : Program} {T : TypeId} {i : TI} (h : i.ok P T) : ∃ d, P.underlying T = some d ∧ descAgg d = i.k.agg := by
  have := h.k
  cases hk : i.k <;> simp only [hk, TK.fits] at this
  all_goals first
    | exact ⟨_, this, rfl⟩
    | (obtain ⟨d, h1, h2⟩ := this; exact ⟨d, h1, h2⟩)
    | (obtain ⟨d, h1, h2⟩ := this; exact ⟨_, h1, rfl⟩)
    | (obtain ⟨d, h1⟩ := this; exact ⟨_, h1, rfl⟩)
    | (obtain ⟨x, y, z, h1⟩ := this; exact ⟨_, h1, rfl⟩)

/-! ### The state -/

structure Ctx where
  P : Program
  Q : Exit → Act → World → Prop
  nt : Nat
  ty : TypeId → Option TI
  tyok : ∀ T i, ty T = some i → i.ok P T
  w0 : World
  G0 : Hp
  mb : List Nat
  mh : Nat
  ro : Option Nat

structure Mem (C : Ctx) (ow : List (Nat × Nat × OO)) (G : Hp) (w : World) : Prop where
  own : ∀ h b o, lk h ow = some (b, o) → o.holds C.w0.heap.size w b ∧ ∀ g, o.mut b g → G g = none ∧ (C.mh ≤ h → C.w0.heap.size ≤ g) ∧ (h < C.mh → g ∈ C.mb ∨ C.w0.heap.size ≤ g)
  inj : ∀ h h' b b' o o' g, lk h ow = some (b, o) → lk h' ow = some (b', o') → o.blks b g → o'.blks b' g → h = h'
  grow : Grow C.mb C.w0 C.G0 w G

structure Sat (C : Ctx) (s : St) (a : Act) (w : World) : Prop where
  sl : ∀ i x, lk i s.sl = some x → a.tmps[i]? = some x.den
  nt : a.tmps.size = C.nt
  df : a.defers = s.df
  mem : Mem C s.own s.G w

def SGo (C : Ctx) (K : List KI) (s : St) : Prop := ∀ a w, Sat C s a w → wpK C.P C.ro C.Q K .normal a w

/-- Knowing less. -/
theorem SGo.weaken {C : Ctx} {K : List KI} {s s' : St} (hG : s'.G = s.G) (hd : s'.df = s.df) (hs : ∀ i x, lk i s'.sl = some x → lk i s.sl = some x ∨ ∃ y, lk i s.sl = some y ∧ y.den = x.den)
    (ho : ∀ i x, lk i s'.own = some x → lk i s.own = some x) (h : SGo C K s') : SGo C K s := by
  intro a w hS
  refine h a w ⟨fun i x hx => ?_, hS.nt, by rw [hd]; exact hS.df, ?_⟩
  · rcases hs i x hx with h1 | ⟨y, h1, h2⟩
    · exact hS.sl i x h1
    · rw [← h2]; exact hS.sl i y h1
  · exact ⟨fun h b o e => by rw [hG]; exact hS.mem.own h b o (ho _ _ e), fun h h' b b' o o' g e e' => hS.mem.inj h h' b b' o o' g (ho _ _ e) (ho _ _ e'), by rw [hG]; exact hS.mem.grow⟩

section
variable {C : Ctx} {K : List KI} {s : St}
theorem go_skip (h : SGo C K s) : SGo C (.code .skip :: K) s := fun a w hS => wpIn_skip (h a w hS)
theorem go_label {l : Nat} (h : SGo C K s) : SGo C (.code (.label l) :: K) s := fun a w hS => wpIn_label (h a w hS)
theorem go_seq {x y : Code} (h : SGo C (.code x :: .code y :: K) s) : SGo C (.code (.seq x y) :: K) s := fun a w hS => by
  have := h a w hS
  simp only [wpK] at this ⊢
  exact wpIn_seq (by rw [← wpK_code_eq]; exact this)
theorem go_block {id : Nat} {x : Code} (h : SGo C (.code x :: .blk id :: K) s) : SGo C (.code (.block id x) :: K) s := fun a w hS => by
  have := h a w hS
  simp only [wpK] at this ⊢
  exact wpIn_block (by rw [← wpK_blk_eq]; exact this)
theorem go_blk {id : Nat} (h : SGo C K s) : SGo C (.blk id :: K) s := fun a w hS => h a w hS
theorem go_exit {id : Nat} {K' : List KI} (hp : popTo id K = some K') (h : SGo C K' s) : SGo C (.code (.exit id) :: K) s := fun a w hS =>
  wpIn_exit (wpK_exit id K K' a w hp (h a w hS))
theorem go_region {id : Nat} {ops : Array Oper} (h : SGo C (.ops ops ops.toList :: K) s) : SGo C (.code (.region id ops false) :: K) s := fun a w hS =>
  wpIn_region_list (h a w hS)
theorem go_ops {R : Array Oper} (h : SGo C K s) : SGo C (.ops R [] :: K) s := fun a w hS => wpListIn_nil (h a w hS)
theorem go_first {x : Code} (h : SGo C (.code x :: .loop x :: K) s) : SGo C (.code (.loop x) :: K) s := fun a w hS => by
  have := h a w hS
  simp only [wpK] at this ⊢
  exact wp_loop_first (by rw [← wpK_loop_eq]; exact this)
theorem go_again {x : Code} (h : SGo C (.code x :: .loop x :: K) s) : SGo C (.loop x :: K) s := fun a w hS => by
  have := h a w hS
  simp only [wpK] at this ⊢
  exact wp_loop_again (by rw [← wpK_loop_eq]; exact this)
end

end Go.Sx
