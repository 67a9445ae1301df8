/-
  The types that the walks meet, and their facts.
-/
import Derived.Test.YtccniliiiilbaaaSxR
import Derived.Test.YtccniliiiilbaaaRows
namespace Go.Proofs.Ytccniliiiilbaaa
set_option linter.unusedSimpArgs false
set_option linter.unusedVariables false
open Go.Sx

def tyL : List (Nat × TI) := [
  (3, ⟨.int .i64, 1, 8, [.int .i64 0], []⟩),
  (2, ⟨.int .i64, 1, 8, [.int .i64 0], []⟩),
  (4, ⟨.bool, 1, 1, [.bool false], []⟩),
  (27, ⟨.int .i64, 1, 8, [.int .i64 0], []⟩),
  (37, ⟨.int .i64, 1, 8, [.int .i64 0], []⟩),
  (38, ⟨.slice 3, 1, 24, [.slice none 0 0], []⟩),
  (22, ⟨.slice 40, 1, 24, [.slice none 0 0], []⟩),
  (40, ⟨.strct, 3, 40, [.int .i64 0, .int .i64 0, .slice none 0 0], [(0, 1, false), (1, 1, false), (2, 1, false)]⟩),
  (24, ⟨.strct, 2, 32, [.int .i64 0, .slice none 0 0], [(0, 1, false), (1, 1, false)]⟩),
  (63, ⟨.strct, 4, 80, [.int .i64 0, .slice none 0 0, .slice none 0 0, .slice none 0 0], [(0, 2, true), (2, 1, false), (3, 1, false)]⟩),
  (56, ⟨.ptr 63, 1, 8, [.pointer none], []⟩),
  (59, ⟨.slice 65, 1, 24, [.slice none 0 0], []⟩),
  (65, ⟨.strct, 2, 16, [.int .i64 0, .int .i64 0], [(0, 1, false), (1, 1, false)]⟩),
  (52, ⟨.slice 54, 1, 24, [.slice none 0 0], []⟩),
  (54, ⟨.arr 2 3, 2, 16, [.int .i64 0, .int .i64 0], []⟩),
  (68, ⟨.slice 37, 1, 24, [.slice none 0 0], []⟩),
  (45, ⟨.func, 1, 8, [.nilFunc], []⟩),
  (49, ⟨.func, 1, 8, [.nilFunc], []⟩)]

def ty (T : TypeId) : Option TI := lk T tyL

theorem tyE : ty 3 = some ⟨.int .i64, 1, 8, [.int .i64 0], []⟩ ∧ ty 2 = some ⟨.int .i64, 1, 8, [.int .i64 0], []⟩ ∧ ty 4 = some ⟨.bool, 1, 1, [.bool false], []⟩ ∧ ty 27 = some ⟨.int .i64, 1, 8, [.int .i64 0], []⟩ ∧ ty 37 = some ⟨.int .i64, 1, 8, [.int .i64 0], []⟩ ∧ ty 38 = some ⟨.slice 3, 1, 24, [.slice none 0 0], []⟩ ∧ ty 22 = some ⟨.slice 40, 1, 24, [.slice none 0 0], []⟩ ∧ ty 40 = some ⟨.strct, 3, 40, [.int .i64 0, .int .i64 0, .slice none 0 0], [(0, 1, false), (1, 1, false), (2, 1, false)]⟩ ∧ ty 24 = some ⟨.strct, 2, 32, [.int .i64 0, .slice none 0 0], [(0, 1, false), (1, 1, false)]⟩ ∧ ty 63 = some ⟨.strct, 4, 80, [.int .i64 0, .slice none 0 0, .slice none 0 0, .slice none 0 0], [(0, 2, true), (2, 1, false), (3, 1, false)]⟩ ∧ ty 56 = some ⟨.ptr 63, 1, 8, [.pointer none], []⟩ ∧ ty 59 = some ⟨.slice 65, 1, 24, [.slice none 0 0], []⟩ ∧ ty 65 = some ⟨.strct, 2, 16, [.int .i64 0, .int .i64 0], [(0, 1, false), (1, 1, false)]⟩ ∧ ty 52 = some ⟨.slice 54, 1, 24, [.slice none 0 0], []⟩ ∧ ty 54 = some ⟨.arr 2 3, 2, 16, [.int .i64 0, .int .i64 0], []⟩ ∧ ty 68 = some ⟨.slice 37, 1, 24, [.slice none 0 0], []⟩ ∧ ty 45 = some ⟨.func, 1, 8, [.nilFunc], []⟩ ∧ ty 49 = some ⟨.func, 1, 8, [.nilFunc], []⟩ := ⟨rfl, rfl, rfl, rfl, rfl, rfl, rfl, rfl, rfl, rfl, rfl, rfl, rfl, rfl, rfl, rfl, rfl, rfl⟩

theorem lk_memT {α : Type} {i : Nat} {x : α} : ∀ {l : List (Nat × α)}, lk i l = some x → (i, x) ∈ l
  | [], h => by simp [lk] at h
  | y :: l, h => by
    simp only [lk] at h
    split at h
    · rename_i e; cases h; subst e; simp
    · exact List.mem_cons_of_mem _ (lk_memT h)

theorem tyok : ∀ T i, ty T = some i → i.ok Try.prog T := by
  intro T i h
  have key : ∀ x ∈ tyL, TI.ok Try.prog x.1 x.2 := by
    unfold tyL
    refine List.forall_mem_cons.2 ⟨⟨⟨_, _, (by kernel_rfl : Try.prog.info? 3 = some Try.t3), rfl, rfl, rfl, rfl⟩, rfl, Try.underlying3⟩, ?_⟩
    refine List.forall_mem_cons.2 ⟨⟨⟨_, _, (by kernel_rfl : Try.prog.info? 2 = some Try.t2), rfl, rfl, rfl, rfl⟩, rfl, Try.underlying2⟩, ?_⟩
    refine List.forall_mem_cons.2 ⟨⟨⟨_, _, (by kernel_rfl : Try.prog.info? 4 = some Try.t4), rfl, rfl, rfl, rfl⟩, rfl, Try.underlying4⟩, ?_⟩
    refine List.forall_mem_cons.2 ⟨⟨⟨_, _, (by kernel_rfl : Try.prog.info? 27 = some Try.t27), rfl, rfl, rfl, rfl⟩, rfl, Try.underlying27⟩, ?_⟩
    refine List.forall_mem_cons.2 ⟨⟨⟨_, _, (by kernel_rfl : Try.prog.info? 37 = some Try.t37), rfl, rfl, rfl, rfl⟩, rfl, Try.underlying37⟩, ?_⟩
    refine List.forall_mem_cons.2 ⟨⟨⟨_, _, (by kernel_rfl : Try.prog.info? 38 = some Try.t38), rfl, rfl, rfl, rfl⟩, rfl, Try.underlying38⟩, ?_⟩
    refine List.forall_mem_cons.2 ⟨⟨⟨_, _, (by kernel_rfl : Try.prog.info? 22 = some Try.t22), rfl, rfl, rfl, rfl⟩, rfl, Try.underlying22⟩, ?_⟩
    refine List.forall_mem_cons.2 ⟨⟨⟨_, _, (by kernel_rfl : Try.prog.info? 40 = some Try.t40), rfl, rfl, rfl, rfl⟩, rfl, ⟨_, Try.underlying40, (by kernel_rfl)⟩⟩, ?_⟩
    refine List.forall_mem_cons.2 ⟨⟨⟨_, _, (by kernel_rfl : Try.prog.info? 24 = some Try.t24), rfl, rfl, rfl, rfl⟩, rfl, ⟨_, Try.underlying24, (by kernel_rfl)⟩⟩, ?_⟩
    refine List.forall_mem_cons.2 ⟨⟨⟨_, _, (by kernel_rfl : Try.prog.info? 63 = some Try.t63), rfl, rfl, rfl, rfl⟩, rfl, ⟨_, Try.underlying63, (by kernel_rfl)⟩⟩, ?_⟩
    refine List.forall_mem_cons.2 ⟨⟨⟨_, _, (by kernel_rfl : Try.prog.info? 56 = some Try.t56), rfl, rfl, rfl, rfl⟩, rfl, Try.underlying56⟩, ?_⟩
    refine List.forall_mem_cons.2 ⟨⟨⟨_, _, (by kernel_rfl : Try.prog.info? 59 = some Try.t59), rfl, rfl, rfl, rfl⟩, rfl, Try.underlying59⟩, ?_⟩
    refine List.forall_mem_cons.2 ⟨⟨⟨_, _, (by kernel_rfl : Try.prog.info? 65 = some Try.t65), rfl, rfl, rfl, rfl⟩, rfl, ⟨_, Try.underlying65, (by kernel_rfl)⟩⟩, ?_⟩
    refine List.forall_mem_cons.2 ⟨⟨⟨_, _, (by kernel_rfl : Try.prog.info? 52 = some Try.t52), rfl, rfl, rfl, rfl⟩, rfl, Try.underlying52⟩, ?_⟩
    refine List.forall_mem_cons.2 ⟨⟨⟨_, _, (by kernel_rfl : Try.prog.info? 54 = some Try.t54), rfl, rfl, rfl, rfl⟩, rfl, Try.underlying54⟩, ?_⟩
    refine List.forall_mem_cons.2 ⟨⟨⟨_, _, (by kernel_rfl : Try.prog.info? 68 = some Try.t68), rfl, rfl, rfl, rfl⟩, rfl, Try.underlying68⟩, ?_⟩
    refine List.forall_mem_cons.2 ⟨⟨⟨_, _, (by kernel_rfl : Try.prog.info? 45 = some Try.t45), rfl, rfl, rfl, rfl⟩, rfl, ⟨_, _, _, Try.underlying45⟩⟩, ?_⟩
    refine List.forall_mem_cons.2 ⟨⟨⟨_, _, (by kernel_rfl : Try.prog.info? 49 = some Try.t49), rfl, rfl, rfl, rfl⟩, rfl, ⟨_, _, _, Try.underlying49⟩⟩, ?_⟩
    exact fun _ h => absurd h List.not_mem_nil
  exact key _ (lk_memT h)

theorem wr {n : Int} (h1 : -9223372036854775808 ≤ n) (h2 : n ≤ 9223372036854775807) : IntKind.i64.wrap n = n := Go.IntWalk.i64_in n ⟨h1, h2⟩
end Go.Proofs.Ytccniliiiilbaaa
