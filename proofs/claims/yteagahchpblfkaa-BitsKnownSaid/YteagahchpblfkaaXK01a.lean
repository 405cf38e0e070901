/- What is proved: contracts of functions that the law calls, and of the law itself, over any heap. Conditions stand in each theorem. -/
import Derived.Test.YteagahchpblfkaaXOctL
import Derived.Test.YteagahchpblfkaaXL01
import Derived.Test.YteagahchpblfkaaXD01
set_option linter.unusedSimpArgs false
set_option linter.unusedVariables false
namespace Go.Proofs.Yteagahchpblfkaa
open Go.Oct Go.Oct.L01

theorem wrap64_id {x : Int} (h : -9223372036854775808 ≤ x) (h' : x ≤ 9223372036854775807) : IntKind.wrap .i64 x = x := by rw [IntKind.wrap_i64]; omega
theorem wrapu64_id {x : Int} (h : 0 ≤ x) (h' : x < 18446744073709551616) : IntKind.wrap .u64 x = x := by rw [IntKind.wrap_u64]; omega
def bf (x : Int) : Value := .int .u8 x
theorem bf_len (x : Int) : [bf x].length = 1 := rfl

/-- right -/
theorem c31 (n : Int) (h : H) (k : Value → H → Prop) (hk : k (.bool (decide (1 ≤ n) && decide (n ≤ 8))) h) : callK Try.prog 31 #[.int .i64 n] h k := by
  refine call31 _ _ _ ?_
  unfold d31
  refine ifB_dec (fun h1 => ?_) (fun h1 => ?_)
  · rw [decide_eq_true (by omega : 1 ≤ n), Bool.true_and] at hk; exact hk
  · rw [decide_eq_false (by omega : ¬ 1 ≤ n), Bool.false_and] at hk; exact hk

/-- Least -/
theorem c12 (v : Int) (h0 : 0 ≤ v) (hv : v < 18446744073709551616) (h : H) (k : Value → H → Prop) (hk : k (.int .i64 (least v)) h) : callK Try.prog 12 #[.int .u64 v] h k := by
  refine call12 _ _ _ ?_
  unfold d12
  rw [needK_true (by omega)]
  refine ⟨fun x y g => g = h ∧ ∃ j : Nat, j ≤ 7 ∧ x = j + 1 ∧ y = v / 256 ^ (j + 1) ∧ (j = 0 ∨ 256 ^ j ≤ v), fun x y g => (8 - x).toNat, ⟨rfl, 0, by omega, rfl, by rw [shr8]; simp, .inl rfl⟩, ?_⟩
  rintro x y g ⟨rfl, j, hj, rfl, rfl, hlo⟩
  have hp := pow_pos256 (j + 1)
  refine ifB_dec (fun hy => ?_) (fun hy => ?_)
  · have h1 : 256 ^ (j + 1) ≤ v := by
      have h2 := (Int.le_ediv_iff_mul_le hp).1 (show (1 : Int) ≤ v / 256 ^ (j + 1) by omega)
      omega
    have hj7 : j ≠ 7 := by rintro rfl; simp at h1; omega
    rw [needK_true (by omega), wrap64_id (by omega) (by omega), shr8]
    refine ⟨⟨rfl, j + 1, by omega, by omega, ?_, .inr h1⟩, by dsimp only; omega⟩
    have := div_pow v (j + 1) 1
    rw [Int.pow_one] at this
    exact this
  · have h1 : v < 256 ^ (j + 1) := by
      rcases Int.lt_or_le v (256 ^ (j + 1)) with h2 | h2
      · exact h2
      · have h3 := (Int.le_ediv_iff_mul_le hp).2 (show 1 * 256 ^ (j + 1) ≤ v by omega)
        omega
    rw [least_of hj hlo h1] at hk
    exact hk

/-- Power -/
theorem c30 (n : Int) (h1 : 0 ≤ n) (h8 : n ≤ 8) (h : H) (k : Value → H → Prop) (hk : k (.int .u64 (256 ^ n.toNat - 1)) h) : callK Try.prog 30 #[.int .i64 n] h k := by
  refine call30 _ _ _ ?_
  unfold d30
  refine ⟨fun x y g => g = h ∧ ∃ j : Nat, y = j ∧ j ≤ n ∧ x = 256 ^ j - 1, fun x y g => (n - y).toNat, ⟨rfl, 0, rfl, by omega, rfl⟩, ?_⟩
  rintro x y g ⟨rfl, j, rfl, hj, rfl⟩
  refine ifB_dec (fun hy => ?_) (fun hy => ?_)
  · rw [wrap64_id (by omega) (by omega)]
    have e1 : IntKind.wrap .u64 (IntKind.wrap .u64 ((256 ^ j - 1) * 256) + 255) = 256 ^ (j + 1) - 1 := by
      have h2 := pows j (by omega)
      have h3 := pows (j + 1) (by omega)
      rw [IntKind.wrap_u64, IntKind.wrap_u64]
      omega
    rw [e1]
    refine ⟨⟨rfl, j + 1, by omega, by omega, rfl⟩, by dsimp only; omega⟩
  · have : n.toNat = j := by omega
    rw [this] at hk
    exact hk

/-- Fits -/
theorem c15 (v n : Int) (h : H) (k : Value → H → Prop) (hk : k (.bool (fitsB v n)) h) : callK Try.prog 15 #[.int .u64 v, .int .i64 n] h k := by
  refine call15 _ _ _ _ ?_
  unfold d15
  unfold fitsB at hk
  refine ifB_dec (fun h1 => ?_) (fun h1 => ?_)
  · rw [decide_eq_true (by omega : 1 ≤ n), Bool.true_and] at hk
    refine ifB_dec (fun h2 => ?_) (fun h2 => ?_)
    · rw [decide_eq_true h2, Bool.true_and] at hk
      refine c30 _ (by omega) h2 _ _ (asI_of ?_)
      have : decide (v ≤ 256 ^ n.toNat - 1) = decide (v < 256 ^ n.toNat) := by simp only [decide_eq_decide]; omega
      rw [this]
      exact hk
    · rw [decide_eq_false h2, Bool.false_and] at hk
      exact hk
  · rw [decide_eq_false (by omega : ¬ 1 ≤ n), Bool.false_and] at hk; exact hk

/-- fits -/
theorem c33 (v n : Int) (h0 : 0 ≤ v) (hv : v < 18446744073709551616) (h : H) (k : Value → H → Prop) (hk : k (.bool (fitsB v n)) h) : callK Try.prog 33 #[.int .u64 v, .int .i64 n] h k := by
  refine call33 _ _ _ _ ?_
  unfold d33
  rw [fits_least hv] at hk
  refine c31 _ _ _ (asB_of (ifB_of (fun h1 => ?_) (fun h1 => ?_)))
  · rw [Bool.and_eq_true] at h1
    rw [h1.1, h1.2, Bool.true_and, Bool.true_and] at hk
    exact c12 v h0 hv _ _ (asI_of hk)
  · rw [← Bool.and_assoc, h1, Bool.false_and] at hk
    exact hk

/-- the reference's Least -/
theorem c13 (v : Int) (h0 : 0 ≤ v) (hv : v < 18446744073709551616) (h : H) (k : Value → H → Prop) (hk : k (.int .i64 (least v)) h) : callK Try.prog 13 #[.int .u64 v] h k := by
  refine call13 _ _ _ ?_
  unfold d13
  have hr := least_range v
  refine ⟨fun x y g => g = h ∧ 1 ≤ y ∧ y ≤ 8 ∧ y ≤ least v, fun x y g => (8 - y).toNat, ⟨rfl, by omega, by omega, by omega⟩, ?_⟩
  rintro x y g ⟨rfl, h1, h8, hl⟩
  refine ifB_dec (fun hy => ?_) (fun hy => ?_)
  · refine c15 _ _ _ _ (asB_of (ifB_of (fun h2 => ?_) (fun h2 => ?_)))
    · rw [fits_least hv] at h2
      simp only [Bool.and_eq_true, decide_eq_true_eq] at h2
      have : least v = y := by omega
      rw [this] at hk
      exact hk
    · rw [fits_least hv] at h2
      simp only [Bool.and_eq_false_iff, decide_eq_false_iff_not] at h2
      rw [wrap64_id (by omega) (by omega)]
      exact ⟨⟨rfl, by omega, by omega, by omega⟩, by dsimp only; omega⟩
  · have : least v = 8 := by omega
    rw [this] at hk
    exact hk
end Go.Proofs.Yteagahchpblfkaa
