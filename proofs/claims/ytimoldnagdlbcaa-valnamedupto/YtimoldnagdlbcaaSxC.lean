/-
  A symbolic walk over the model's code: operations that the walk carries out by itself. Generic: names no program.
-/
import Derived.Test.YtimoldnagdlbcaaSxB
namespace Go.Sx
set_option linter.unusedSimpArgs false
set_option linter.unusedVariables false
open Go.RowKit

def eqB : Bool → Bool → Bool
  | true, true => true
  | false, false => true
  | true, false => false
  | false, true => false
theorem eqB_self (b : Bool) : eqB b b = true := by cases b <;> rfl
theorem eqB_ne {a b : Bool} (h : a ≠ b) : eqB a b = false := by cases a <;> cases b <;> simp_all [eqB]

def SV.bool? : SV → Option Bool
  | .v (.bool u) => some u
  | .b u => some u
  | _ => none
theorem SV.bool?_ok {x : SV} {t : Bool} (h : x.bool? = some t) : x.den = .bool t := by
  cases x <;> simp only [SV.bool?] at h
  case v x => cases x <;> simp_all [SV.den]
  case b u => simp_all [SV.den]
  all_goals cases h

/-- A part of a list. -/
def sub {α : Type} : List α → Nat → Nat → Option (List α)
  | _, 0, 0 => some []
  | x :: l, 0, n + 1 => (sub l 0 n).map (x :: ·)
  | _ :: l, m + 1, n => sub l m n
  | [], _, _ => none
theorem sub_ok {α : Type} : ∀ (l : List α) (m n : Nat) (r : List α), sub l m n = some r → m + n ≤ l.length ∧ r = (l.drop m).take n
  | l, 0, 0, r, h => by simp [sub] at h; subst h; simp
  | [], 0, n + 1, r, h => by simp [sub] at h
  | [], m + 1, n, r, h => by simp [sub] at h
  | x :: l, 0, n + 1, r, h => by
    simp only [sub, Option.map_eq_some_iff] at h
    obtain ⟨q, h1, rfl⟩ := h
    obtain ⟨h2, h3⟩ := sub_ok l 0 n q h1
    simp only [List.drop_zero] at h3 ⊢
    simp [h3]; omega
  | x :: l, m + 1, n, r, h => by
    simp only [sub] at h
    obtain ⟨h2, h3⟩ := sub_ok l m n r h
    simp [h3]; omega

/-- The element at a place. -/
def nth {α : Type} : List α → Nat → Option α
  | [], _ => none
  | x :: _, 0 => some x
  | _ :: l, n + 1 => nth l n
theorem nth_eq {α : Type} : ∀ (l : List α) (n : Nat), nth l n = l[n]?
  | [], n => by simp [nth]
  | x :: l, 0 => by simp [nth]
  | x :: l, n + 1 => by simp [nth, nth_eq l n]

def binInt (op : BinOp) (k k' : IntKind) (m n : Int) : Option Value :=
  if k = k' then
    match op with
    | .add => some (.int k (k.wrap (m + n)))
    | .sub => some (.int k (k.wrap (m - n)))
    | .mul => some (.int k (k.wrap (m * n)))
    | .eql => some (.bool (m == n))
    | .neq => some (.bool (m != n))
    | .lss => some (.bool (decide (m < n)))
    | .leq => some (.bool (decide (m ≤ n)))
    | .gtr => some (.bool (decide (n < m)))
    | .geq => some (.bool (decide (n ≤ m)))
    | .and => some (.int k (k.wrap (BitVec.ofInt k.bits m &&& BitVec.ofInt k.bits n).toNat))
    | .or => some (.int k (k.wrap (BitVec.ofInt k.bits m ||| BitVec.ofInt k.bits n).toNat))
    | .xor => some (.int k (k.wrap (BitVec.ofInt k.bits m ^^^ BitVec.ofInt k.bits n).toNat))
    | _ => none
  else none
theorem binInt_ok {op : BinOp} {k k' : IntKind} {m n : Int} {r : Value} (h : binInt op k k' m n = some r) (P : Program) (T : TypeId) (x y : Operand) (w : World) :
    (do eqGuard op T x y (.int k m) (.int k' n); binOp op T (.int k m) (.int k' n) : Sem Value).run P w = .ok r w := by
  unfold binInt at h
  split at h
  · rename_i hk; subst hk
    cases op <;> simp at h <;> subst h <;> simp [eqGuard, binOp, Op.intArith, Op.intCmp, Op.intBits]
  · cases h

def binConst (op : BinOp) (k k' : IntKind) (m n : Int) : Option Value :=
  match op with
  | .quo => if k = k' then if n = 0 then none else some (.int k (k.wrap (m.tdiv n))) else none
  | .rem => if k = k' then if n = 0 then none else some (.int k (m.tmod n)) else none
  | .shl => if n < 0 then none else some (.int k (k.wrap (m * 2 ^ (min n.toNat k.bits))))
  | .shr => if n < 0 then none else some (.int k (m.fdiv (2 ^ (min n.toNat k.bits))))
  | _ => binInt op k k' m n
theorem binConst_ok {op : BinOp} {k k' : IntKind} {m n : Int} {r : Value} (h : binConst op k k' m n = some r) (P : Program) (T : TypeId) (x y : Operand) (w : World) :
    (do eqGuard op T x y (.int k m) (.int k' n); binOp op T (.int k m) (.int k' n) : Sem Value).run P w = .ok r w := by
  unfold binConst at h
  split at h
  · split at h
    · rename_i hk; subst hk
      split at h
      · cases h
      · rename_i hn; cases h; simp [eqGuard, binOp, Op.intDiv, hn]
    · cases h
  · split at h
    · rename_i hk; subst hk
      split at h
      · cases h
      · rename_i hn; cases h; simp [eqGuard, binOp, Op.intDiv, hn]
    · cases h
  · split at h
    · cases h
    · rename_i hn; cases h; simp [eqGuard, binOp, Op.shift, hn]
  · split at h
    · cases h
    · rename_i hn; cases h; simp [eqGuard, binOp, Op.shift, hn]
  · exact binInt_ok h P T x y w

def binBool (op : BinOp) (m n : Bool) : Option Value :=
  match op with
  | .eql => some (.bool (m == n))
  | .neq => some (.bool (m != n))
  | _ => none
def binStr (op : BinOp) (m n : ByteArray) : Option Value :=
  match op with
  | .eql => some (.bool (m.toList == n.toList))
  | .neq => some (.bool (!(m.toList == n.toList)))
  | _ => none

theorem equalIn_bool {P : Program} {T : TypeId} (hT : P.underlying T = some .bool) (d : Nat) (m n : Bool) (w : World) : (Op.equalIn (d + 1) T (.bool m) (.bool n)).run P w = .ok (m == n) w := by
  simp only [Op.equalIn, Sem.run_bind, run_und w hT, Result.andThen_ok, Sem.run_pure]
theorem equal_bool {P : Program} {T : TypeId} (hT : P.underlying T = some .bool) (m n : Bool) (w : World) : (Op.equal T (.bool m) (.bool n)).run P w = .ok (m == n) w :=
  equalIn_bool hT 9999 m n w
theorem binBool_ok {op : BinOp} {m n : Bool} {r : Value} (h : binBool op m n = some r) {P : Program} {T : TypeId} (hT : P.underlying T = some .bool) (x y : Operand) (w : World) :
    (do eqGuard op T x y (.bool m) (.bool n); binOp op T (.bool m) (.bool n) : Sem Value).run P w = .ok r w := by
  unfold binBool at h
  split at h
  · cases h; simp [eqGuard, binOp, equal_bool hT]
  · cases h; simp [eqGuard, binOp, equal_bool hT, bne]
  · cases h
theorem binStr_ok {op : BinOp} {m n : ByteArray} {r : Value} (h : binStr op m n = some r) (P : Program) (T : TypeId) (x y : Operand) (w : World) :
    (do eqGuard op T x y (.string m) (.string n); binOp op T (.string m) (.string n) : Sem Value).run P w = .ok r w := by
  unfold binStr at h
  split at h
  · cases h; simp [eqGuard, binOp, Op.stringOp]
  · cases h; simp [eqGuard, binOp, Op.stringOp]
  · cases h

def isC : Operand → Bool
  | .const _ => true
  | _ => false

/-- Parts laid into a row of cells. -/
def fillS (place : Nat → Option (Nat × Nat)) : List (Nat × SV) → List SV → Option (List SV)
  | [], cells => some cells
  | x :: rest, cells => match place x.1, x.2.cs with
    | some q, some vs => if vs.length = q.2 ∧ q.1 + q.2 ≤ cells.length then (lay cells q.1 vs).bind (fillS place rest) else none
    | _, _ => none

def evParts (sl : List (Nat × SV)) : List (Nat × Operand) → Option (List (Nat × SV))
  | [] => some []
  | x :: l => match ev sl x.2 with
    | some y => (evParts sl l).map ((x.1, y) :: ·)
    | none => none

def rep {α : Type} (l : List α) : Nat → List α
  | 0 => []
  | n + 1 => l ++ rep l n

def ldOwn (agg : Bool) (size : Nat) (cells : List SV) (off : Nat) : Option SV :=
  match agg with
  | true => (sub cells off size).map .a
  | false => nth cells off

def opQ (ty : TypeId → Option TI) (sl : List (Nat × SV)) (own : List (Nat × Nat × OO)) : Op → Option SV
  | .move x => ev sl x
  | .assign x => ev sl x
  | .pick c x y => match ev sl c with
    | some (.b true) => ev sl x
    | some (.b false) => ev sl y
    | _ => none
  | .binOp op T x y _ => match ev sl x, ev sl y with
    | some (.v (.int k m)), some (.v (.int k' n)) => (match isC y with | true => binConst op k k' m n | false => binInt op k k' m n).map .v
    | some (.v (.string m)), some (.v (.string n)) => (binStr op m n).map .v
    | some p, some q => match ty T, p.bool?, q.bool? with
      | some ⟨.bool, _, _, _, _⟩, some m, some n => (binBool op m n).map .v
      | _, _, _ => none
    | _, _ => none
  | .unOp op _ x => match ev sl x with
    | some (.v (.int k n)) => match op with
      | .neg => some (.v (.int k (k.wrap (0 - n))))
      | _ => none
    | some (.v (.bool t)) => match op with
      | .not => some (.v (.bool !t))
      | _ => none
    | some (.b t) => match op with
      | .not => some (.b !t)
      | _ => none
    | _ => none
  | .convert src dst x => match ty src, ty dst, ev sl x with
    | some _, some ⟨.int k, _, _, _, _⟩, some (.v (.int _ n)) => some (.v (.int k (k.wrap n)))
    | some _, some ⟨.str, _, _, _, _⟩, some (.v (.string n)) => some (.v (.string n))
    | _, _, _ => none
  | .fieldAddr T x f => match ty T, ev sl x with
    | some ⟨.strct, _, _, _, flds⟩, some (.p h b off) => match nth flds f with
      | some (_, 0, _) => none
      | some (o, _, _) => some (.p h b (off + o))
      | none => none
    | some ⟨.strct, _, _, _, flds⟩, some (.v (.pointer (some ⟨b, off, none⟩))) => match nth flds f with
      | some (_, 0, _) => none
      | some (o, _, _) => some (.v (.pointer (some ⟨b, off + o, none⟩)))
      | none => none
    | _, _ => none
  | .field T x f => match ty T, ev sl x with
    | some ⟨.strct, _, _, _, flds⟩, some (.a l) => match nth flds f with
      | some (o, sz, agg) => ldOwn agg sz l o
      | none => none
    | _, _ => none
  | .load T x => match ty T, ev sl x with
    | some ti, some (.p h b off) => match lk h own with
      | some (b', .c _ cells) => if b' = b then ldOwn ti.k.agg ti.size cells off else none
      | _ => none
    | _, _ => none
  | .nilCheck x => match ev sl x with
    | some (.p h b off) => some (.p h b off)
    | some (.v (.pointer (some ad))) => some (.v (.pointer (some ad)))
    | _ => none
  | .makeInterface T x => match ty T, ev sl x with
    | some ⟨.iface, _, _, _, _⟩, _ => none
    | some ⟨.other, _, _, _, _⟩, _ => none
    | some _, some y => some (.i T y)
    | _, _ => none
  | .makeFunc fn first cap => match evs sl first.toList, evs sl cap.toList with
    | some x, some y => some (.f fn x y)
    | _, _ => none
  | .extract x n => match ev sl x with
    | some (.t l) => nth l n
    | _ => none
  | .build T parts => match ty T, evParts sl parts.toList with
    | some ⟨.strct, _, _, zero, flds⟩, some ps => (fillS (fun j => (nth flds j).map fun q => (q.1, q.2.1)) ps (zero.map .v)).map .a
    | some ⟨.arr _ e, _, _, zero, _⟩, some ps => match ty e with
      | some te => (fillS (fun j => some (j * te.size, te.size)) ps (zero.map .v)).map .a
      | none => none
    | _, _ => none
  | .indexAddr T x (.const (.int _ n)) => match ty T, ev sl x with
    | some ⟨.slice e, _, _, _, _⟩, some (.s h b off len _) => match ty e with
      | some te => if 0 ≤ n ∧ n < (len : Int) then some (.p h b (off + n.toNat * te.size)) else none
      | none => none
    | some ⟨.arr len e, _, _, _, _⟩, some (.p h b off) => match ty e with
      | some te => if 0 ≤ n ∧ n < (len : Int) then some (.p h b (off + n.toNat * te.size)) else none
      | none => none
    | _, _ => none
  | .call ⟨.builtin .len, args, tys⟩ => match args.toList, tys.toList with
    | [x], [T] => match ty T, ev sl x with
      | some ⟨.slice _, _, _, _, _⟩, some (.v (.slice _ n _)) => some (.v (.int .i64 n))
      | some ⟨.slice _, _, _, _, _⟩, some (.s _ _ _ n _) => some (.v (.int .i64 n))
      | some ⟨.str, _, _, _, _⟩, some (.v (.string m)) => some (.v (.int .i64 m.size))
      | _, _ => none
    | _, _ => none
  | .call ⟨.builtin .min, args, _⟩ => match args.toList with
    | [x, y] => match ev sl x, ev sl y with
      | some (.v (.int k m)), some (.v (.int _ n)) => some (.v (.int k (if n < m then n else m)))
      | _, _ => none
    | _ => none
  | .call ⟨.builtin .max, args, _⟩ => match args.toList with
    | [x, y] => match ev sl x, ev sl y with
      | some (.v (.int k m)), some (.v (.int _ n)) => some (.v (.int k (if m < n then n else m)))
      | _, _ => none
    | _ => none
  | _ => none

def opStore (ty : TypeId → Option TI) (sl : List (Nat × SV)) (own : List (Nat × Nat × OO)) : Op → Option (List (Nat × Nat × OO))
  | .store T x y => match ty T, ev sl x, ev sl y with
    | some ti, some (.p h b off), some z => match z.cs with
      | some vs => match lk h own with
        | some (b', .c e cells) => if b' = b ∧ vs.length = ti.size ∧ vs.all SV.one = true then (lay cells off vs).map fun cells' => stk h (b, .c e cells') own else none
        | _ => none
      | none => none
    | _, _, _ => none
  | _ => none

/-- New blocks: element type, cells, and the value that leads there. -/
def opAlloc (ty : TypeId → Option TI) (sl : List (Nat × SV)) : Op → Option (TypeId × List SV × (Nat → Nat → SV))
  | .alloc T => (ty T).map fun ti => (T, ti.zero.map .v, fun h b => .p h b 0)
  | .box T x => match ev sl x with
    | some y => y.cs.map fun l => (T, l, fun h b => .p h b 0)
    | none => none
  | .buildSlice T len parts => match ty T, evParts sl parts.toList with
    | some ⟨.slice e, _, _, _, _⟩, some ps => match ty e with
      | some te => if len * te.size ≤ 16777216 then (fillS (fun j => some (j * te.size, te.size)) ps (rep (te.zero.map .v) len)).map fun l => (e, l, fun h b => .s h b 0 len len) else none
      | none => none
    | _, _ => none
  | _ => none

end Go.Sx
