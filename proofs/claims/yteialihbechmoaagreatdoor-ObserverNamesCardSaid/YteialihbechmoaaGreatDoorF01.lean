/- Small answers and digests, reckoned by the kernel. -/
import Derived.Test.YteialihbechmoaaGreatDoorE09

/- Small answers, reckoned apart. -/
namespace Go.Sv
open Go.Proofs
set_option maxRecDepth 1000000
def tabB (f : FuncId) (x : List Value × List (List Value) × Value) : Prop :=
  retIs (eA.call f [.agg ⟨x.1⟩] (isoS (blocksFrom 5 x.2.1 ++ gl) (5 + x.2.1.length))) x.2.2 = true
theorem q23_0 : tabB 23 r23_0 := by unfold tabB; kernel_rfl
theorem q23_1 : tabB 23 r23_1 := by unfold tabB; kernel_rfl
theorem q99_0 : tabB 99 r99_0 := by unfold tabB; kernel_rfl
theorem q99_1 : tabB 99 r99_1 := by unfold tabB; kernel_rfl
theorem q99_2 : tabB 99 r99_2 := by unfold tabB; kernel_rfl
theorem q99_3 : tabB 99 r99_3 := by unfold tabB; kernel_rfl
theorem q99_4 : tabB 99 r99_4 := by unfold tabB; kernel_rfl
theorem q41_0 : tabB 41 r41_0 := by unfold tabB; kernel_rfl
theorem q41_1 : tabB 41 r41_1 := by unfold tabB; kernel_rfl
end Go.Sv

/- Digests, reckoned apart. -/
namespace Go.Sv
open Go.Proofs
set_option maxRecDepth 1000000
def sumB (x : List Value × Nat × Value) : Prop :=
  retIs (eA.call 178 [.slice (some ⟨5, 0, none⟩) x.1.length x.2.1] (isoS ((5, x.1) :: gl) 6)) x.2.2 = true
theorem sumE : retIs (eA.call 178 [.slice none 0 0] (isoS gl 5)) emptySum = true := by kernel_rfl
theorem sum0 : ∀ x, table[0]? = some x → sumB x := by
  intro x h
  cases h
  unfold sumB
  kernel_rfl
theorem sum1 : ∀ x, table[1]? = some x → sumB x := by
  intro x h
  cases h
  unfold sumB
  kernel_rfl
theorem sum2 : ∀ x, table[2]? = some x → sumB x := by
  intro x h
  cases h
  unfold sumB
  kernel_rfl
theorem sum3 : ∀ x, table[3]? = some x → sumB x := by
  intro x h
  cases h
  unfold sumB
  kernel_rfl
theorem sum4 : ∀ x, table[4]? = some x → sumB x := by
  intro x h
  cases h
  unfold sumB
  kernel_rfl
theorem sum5 : ∀ x, table[5]? = some x → sumB x := by
  intro x h
  cases h
  unfold sumB
  kernel_rfl
end Go.Sv
