/-
  The types that the walks meet, and their facts.
-/
import Derived.Test.YtimoldnagdlbcaaSxJ
import Derived.Test.YtimoldnagdlbcaaRows
namespace Go.Proofs.Ytimoldnagdlbcaa
set_option linter.unusedSimpArgs false
set_option linter.unusedVariables false
open Go.Sx

def tyL : List (Nat × TI) := [
  (3, ⟨.int .i64, 1, 8, [.int .i64 0], []⟩),
  (2, ⟨.int .i64, 1, 8, [.int .i64 0], []⟩),
  (4, ⟨.bool, 1, 1, [.bool false], []⟩),
  (22, ⟨.int .i64, 1, 8, [.int .i64 0], []⟩),
  (28, ⟨.int .i64, 1, 8, [.int .i64 0], []⟩),
  (23, ⟨.slice 25, 1, 24, [.slice none 0 0], []⟩),
  (25, ⟨.strct, 3, 40, [.int .i64 0, .int .i64 0, .slice none 0 0], [(0, 1, false), (1, 1, false), (2, 1, false)]⟩)]

def ty (T : TypeId) : Option TI := lk T tyL

theorem tyE : ty 3 = some ⟨.int .i64, 1, 8, [.int .i64 0], []⟩ ∧ ty 2 = some ⟨.int .i64, 1, 8, [.int .i64 0], []⟩ ∧ ty 4 = some ⟨.bool, 1, 1, [.bool false], []⟩ ∧ ty 22 = some ⟨.int .i64, 1, 8, [.int .i64 0], []⟩
  ∧ ty 28 = some ⟨.int .i64, 1, 8, [.int .i64 0], []⟩ ∧ ty 23 = some ⟨.slice 25, 1, 24, [.slice none 0 0], []⟩
  ∧ ty 25 = some ⟨.strct, 3, 40, [.int .i64 0, .int .i64 0, .slice none 0 0], [(0, 1, false), (1, 1, false), (2, 1, false)]⟩ := ⟨rfl, rfl, rfl, rfl, rfl, rfl, rfl⟩

theorem tyok : ∀ T i, ty T = some i → i.ok Try.prog T := by
  intro T i h
  simp only [ty, tyL, lk] at h
  split at h
  · rename_i e; subst e; cases h; exact ⟨⟨_, _, (by kernel_rfl : Try.prog.info? 3 = some Try.t3), rfl, rfl, rfl, rfl⟩, rfl, Try.underlying3⟩
  split at h
  · rename_i e; subst e; cases h; exact ⟨⟨_, _, (by kernel_rfl : Try.prog.info? 2 = some Try.t2), rfl, rfl, rfl, rfl⟩, rfl, Try.underlying2⟩
  split at h
  · rename_i e; subst e; cases h; exact ⟨⟨_, _, (by kernel_rfl : Try.prog.info? 4 = some Try.t4), rfl, rfl, rfl, rfl⟩, rfl, Try.underlying4⟩
  split at h
  · rename_i e; subst e; cases h; exact ⟨⟨_, _, (by kernel_rfl : Try.prog.info? 22 = some Try.t22), rfl, rfl, rfl, rfl⟩, rfl, Try.underlying22⟩
  split at h
  · rename_i e; subst e; cases h; exact ⟨⟨_, _, (by kernel_rfl : Try.prog.info? 28 = some Try.t28), rfl, rfl, rfl, rfl⟩, rfl, Try.underlying28⟩
  split at h
  · rename_i e; subst e; cases h; exact ⟨⟨_, _, (by kernel_rfl : Try.prog.info? 23 = some Try.t23), rfl, rfl, rfl, rfl⟩, rfl, Try.underlying23⟩
  split at h
  · rename_i e; subst e; cases h; exact ⟨⟨_, _, (by kernel_rfl : Try.prog.info? 25 = some Try.t25), rfl, rfl, rfl, rfl⟩, rfl, ⟨_, Try.underlying25, (by kernel_rfl)⟩⟩
  cases h

theorem wr {n : Int} (h1 : -9223372036854775808 ≤ n) (h2 : n ≤ 9223372036854775807) : IntKind.i64.wrap n = n := Go.IntWalk.i64_in n ⟨h1, h2⟩
end Go.Proofs.Ytimoldnagdlbcaa
