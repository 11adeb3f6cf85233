/- Proved: the oracles are right at this program; no condition. -/
import Derived.Test.YtaadikldoljdaaaGreatAiQuick
import Derived.Test.YtaadikldoljdaaaGreatRows

/- The functions that the interpreter is told of, at this dump. -/
namespace Go.Proofs.YtaadikldoljdaaaGreat
open Go.AI

noncomputable def orc : Oracle := fun f => bif Nat.beq f 54 then some (overMap Tryz.prog 60 54) else bif Nat.beq f 90 then some cloneF else bif Nat.beq f 158 then some indexByteF else none

theorem mixed : Tryz.prog.follows .mixedOrders = true := by kernel_rfl
theorem names : namesOK Tryz.prog = true := by kernel_rfl

theorem orc_ok : OrcOK Tryz.prog orc := by
  intro f g hg args A v A' h ρ w args' hh hv
  unfold orc at hg
  cases h1 : Nat.beq f 54 with
  | true =>
    rw [h1] at hg
    simp only [cond_true, Option.some.injEq] at hg
    subst hg
    have e := Nat.eq_of_beq_eq_true h1
    subst e
    exact overMap_ok mixed names args A v A' h ρ w args' hh hv
  | false =>
    rw [h1] at hg
    simp only [cond_false] at hg
    cases h2 : Nat.beq f 90 with
    | true =>
      rw [h2] at hg
      simp only [cond_true, Option.some.injEq] at hg
      subst hg
      have e := Nat.eq_of_beq_eq_true h2
      subst e
      exact clone_ok Tryz.func90 (by kernel_rfl) (by kernel_rfl) (by kernel_rfl) (by kernel_rfl) args A v A' h ρ w args' hh hv
    | false =>
      rw [h2] at hg
      simp only [cond_false] at hg
      cases h3 : Nat.beq f 158 with
      | true =>
        rw [h3] at hg
        simp only [cond_true, Option.some.injEq] at hg
        subst hg
        have e := Nat.eq_of_beq_eq_true h3
        subst e
        exact indexByte_ok Tryz.func158 (by kernel_rfl) (by kernel_rfl) (by kernel_rfl) (by kernel_rfl) args A v A' h ρ w args' hh hv
      | false => rw [h3] at hg; cases hg

end Go.Proofs.YtaadikldoljdaaaGreat

/- What is asked of the two histories of the rows that are known. -/
namespace Go.Proofs.YtaadikldoljdaaaGreat
open Go.AI

def memo1 : Memo := {
  next := 6, args := [.slice (some ⟨5, 0, none⟩) 3 3], res := .int .i64 (0), next' := 3065,
  objs := [(5, .cells [.int .u64 (1), .int .i64 (0), .int .i64 (1), .int .u64 (1), .int .u64 (0), .int .i64 (1), .int .i64 (0), .int .i64 (0), .slice none 0 0, .int .i64 (1), .int .i64 (0), .int .i64 (0), .bool false, .int .i64 (1), .int .i64 (2), .int .i64 (0), .int .i64 (0), .slice none 0 0, .int .u64 (2), .int .i64 (1), .int .i64 (9), .int .u64 (1), .int .u64 (0), .int .i64 (0), .int .i64 (0), .int .i64 (1), .slice none 0 0, .int .i64 (3), .int .i64 (0), .int .i64 (0), .bool true, .int .i64 (-1), .int .i64 (4), .int .i64 (6), .int .i64 (0), .slice none 0 0, .int .u64 (3), .int .i64 (1), .int .i64 (9), .int .u64 (1), .int .u64 (0), .int .i64 (0), .int .i64 (0), .int .i64 (1), .slice none 0 0, .int .i64 (5), .int .i64 (0), .int .i64 (0), .bool true, .int .i64 (-1), .int .i64 (6), .int .i64 (0), .int .i64 (0), .slice (some ⟨2, 0, none⟩) 64 64] 51),
    (2, .cells (List.replicate 64 (.int .u8 0)) 5)] }

def memo2 : Memo := {
  next := 3066, args := [.slice (some ⟨3065, 0, none⟩) 4 4], res := .int .i64 (9), next' := 6567,
  objs := [(3065, .cells [.int .u64 (1), .int .i64 (0), .int .i64 (1), .int .u64 (1), .int .u64 (0), .int .i64 (1), .int .i64 (0), .int .i64 (0), .slice none 0 0, .int .i64 (1), .int .i64 (0), .int .i64 (0), .bool false, .int .i64 (1), .int .i64 (2), .int .i64 (0), .int .i64 (0), .slice none 0 0, .int .u64 (2), .int .i64 (1), .int .i64 (9), .int .u64 (1), .int .u64 (0), .int .i64 (0), .int .i64 (0), .int .i64 (1), .slice none 0 0, .int .i64 (3), .int .i64 (0), .int .i64 (0), .bool true, .int .i64 (-1), .int .i64 (4), .int .i64 (6), .int .i64 (0), .slice none 0 0, .int .u64 (3), .int .i64 (1), .int .i64 (9), .int .u64 (1), .int .u64 (0), .int .i64 (0), .int .i64 (0), .int .i64 (1), .slice none 0 0, .int .i64 (5), .int .i64 (0), .int .i64 (0), .bool true, .int .i64 (-1), .int .i64 (6), .int .i64 (0), .int .i64 (0), .slice (some ⟨2, 0, none⟩) 64 64, .int .u64 (4), .int .i64 (1), .int .i64 (9), .int .u64 (1), .int .u64 (0), .int .i64 (0), .int .i64 (0), .int .i64 (1), .slice none 0 0, .int .i64 (7), .int .i64 (0), .int .i64 (0), .bool true, .int .i64 (-1), .int .i64 (8), .int .i64 (6), .int .i64 (0), .slice none 0 0] 51),
    (2, .cells (List.replicate 64 (.int .u8 0)) 5)] }

end Go.Proofs.YtaadikldoljdaaaGreat
