/- What is proved: contracts of functions that the law calls, and of the law itself, over any heap. Conditions stand in each theorem. -/
import Derived.Test.YtoifdnmbhdjhhaaXK29e
import Derived.Test.YtoifdnmbhdjhhaaWEqStruct
set_option linter.unusedSimpArgs false
set_option linter.unusedVariables false
namespace Go.Proofs.Ytoifdnmbhdjhhaa
open Go.Oct Go.Oct.L01 Go.RowKit Go.Proofs.YtoifdnmbhdjhhaaW.PrintWords

theorem eqM28 (d : Nat) (w : World) (x0 x1 y0 y1 : Int) : (Op.equalIn (d + 2) 28 (.agg #[.int .u32 x0, .int .u64 x1]) (.agg #[.int .u32 y0, .int .u64 y1])).run Try.prog w = .ok (x0 == y0 && x1 == y1) w := by
  refine eqA_of Try.underlying28 (by kernel_rfl) ?_
  refine eqf_cons (by rfl) (by go_simp; rfl) (by go_simp; rfl) (by go_simp) ?_
  exact eqf_last (by rfl) (by go_simp; rfl) (by go_simp; rfl) (by go_simp)
theorem eqM44 (d : Nat) (w : World) (x0 x1 y0 y1 : Int) : (Op.equalIn (d + 2) 44 (.agg #[.int .u32 x0, .int .u64 x1]) (.agg #[.int .u32 y0, .int .u64 y1])).run Try.prog w = .ok (x0 == y0 && x1 == y1) w := by
  refine eqA_of Try.underlying44 (by kernel_rfl) ?_
  refine eqf_cons (by rfl) (by go_simp; rfl) (by go_simp; rfl) (by go_simp) ?_
  exact eqf_last (by rfl) (by go_simp; rfl) (by go_simp; rfl) (by go_simp)
theorem eqM36 (d : Nat) (w : World) (x0 x1 x2 y0 y1 y2 : Int) : (Op.equalIn (d + 3) 36 (.agg #[.int .u32 x0, .int .u32 x1, .int .u64 x2]) (.agg #[.int .u32 y0, .int .u32 y1, .int .u64 y2])).run Try.prog w = .ok (x0 == y0 && (x1 == y1 && x2 == y2)) w := by
  refine eqA_of Try.underlying36 (by kernel_rfl) ?_
  refine eqf_cons (by rfl) (by go_simp; rfl) (by go_simp; rfl) (by go_simp) ?_
  exact eqf_last (by rfl) (by go_simp) (by go_simp) (eqM28 d w _ _ _ _)
theorem eqM46 (d : Nat) (w : World) (x0 x1 x2 y0 y1 y2 : Int) : (Op.equalIn (d + 3) 46 (.agg #[.int .u32 x0, .int .u32 x1, .int .u64 x2]) (.agg #[.int .u32 y0, .int .u32 y1, .int .u64 y2])).run Try.prog w = .ok (x0 == y0 && (x1 == y1 && x2 == y2)) w := by
  refine eqA_of Try.underlying46 (by kernel_rfl) ?_
  refine eqf_cons (by rfl) (by go_simp; rfl) (by go_simp; rfl) (by go_simp) ?_
  exact eqf_last (by rfl) (by go_simp) (by go_simp) (eqM44 d w _ _ _ _)
theorem eq36 (x0 x1 x2 y0 y1 y2 : Int) {k : Bool → Prop} (hk : k (decide (x0 = y0 ∧ x1 = y1 ∧ x2 = y2))) : eqAggK Try.prog 36 (ack x0 x1 x2) (ack y0 y1 y2) k := by
  refine ⟨x0 == y0 && (x1 == y1 && x2 == y2), by kernel_rfl, fun w => eqM36 9997 w _ _ _ _ _ _, ?_⟩
  have : (x0 == y0 && (x1 == y1 && x2 == y2)) = decide (x0 = y0 ∧ x1 = y1 ∧ x2 = y2) := by
    by_cases h0 : x0 = y0 <;> by_cases h1 : x1 = y1 <;> by_cases h2 : x2 = y2 <;> simp [h0, h1, h2]
  rw [this]; exact hk
theorem eq46 (x0 x1 x2 y0 y1 y2 : Int) {k : Bool → Prop} (hk : k (decide (x0 = y0 ∧ x1 = y1 ∧ x2 = y2))) : eqAggK Try.prog 46 (ack x0 x1 x2) (ack y0 y1 y2) k := by
  refine ⟨x0 == y0 && (x1 == y1 && x2 == y2), by kernel_rfl, fun w => eqM46 9997 w _ _ _ _ _ _, ?_⟩
  have : (x0 == y0 && (x1 == y1 && x2 == y2)) = decide (x0 = y0 ∧ x1 = y1 ∧ x2 = y2) := by
    by_cases h0 : x0 = y0 <;> by_cases h1 : x1 = y1 <;> by_cases h2 : x2 = y2 <;> simp [h0, h1, h2]
  rw [this]; exact hk
end Go.Proofs.Ytoifdnmbhdjhhaa
