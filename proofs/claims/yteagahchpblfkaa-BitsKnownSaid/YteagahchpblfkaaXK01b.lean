/- What is proved: contracts of functions that the law calls, and of the law itself, over any heap. Conditions stand in each theorem. -/
import Derived.Test.YteagahchpblfkaaXK01a
set_option linter.unusedSimpArgs false
set_option linter.unusedVariables false
namespace Go.Proofs.Yteagahchpblfkaa
open Go.Oct Go.Oct.L01

/-- value -/
theorem c32 (A : Option Addr) (n c : Nat) (xs : List Int) (h : H) (k : Value → H → Prop) (hr : RowH h A n (xs.map bf).toArray) (hn : n ≤ 8) (hb : ∀ x ∈ xs, isB x) (hk : k (.int .u64 (val xs)) h) : callK Try.prog 32 #[.slice A n c] h k := by
  refine call32 _ _ _ _ _ ?_
  unfold d32
  have hl : xs.length = n := by simpa using hr.1
  refine ⟨fun x y g => g = h ∧ ∃ j : Nat, y = j ∧ j ≤ n ∧ x = val (xs.take j), fun x y g => (n - y).toNat, ⟨rfl, 0, rfl, by omega, by simp [val]⟩, ?_⟩
  rintro x y g ⟨rfl, j, rfl, hj, rfl⟩
  refine ifB_dec (fun hy => ?_) (fun hy => ?_)
  · have hx : xs[j]? = some xs[j] := List.getElem?_eq_getElem (by omega)
    refine row_load hr rfl hx (asI_of ?_)
    have hbx := hb xs[j] (List.getElem_mem _)
    obtain ⟨v0, v1⟩ := val_bound j (xs.take j) (by simp; omega) fun x hx => hb x (List.mem_of_mem_take hx)
    have v2 : (256 : Int) ^ j ≤ 256 ^ 7 := pow_le256 (by omega)
    have v3 : (256 : Int) ^ 7 = 72057594037927936 := by decide
    have v4 : IntKind.wrap .u64 xs[j] = xs[j] := by unfold isB at hbx; exact wrapu64_id hbx.1 (by omega)
    rw [needK_true (by omega), v4, shl8 v0 (by omega), or8 v0 (by omega) hbx, wrap64_id (by omega) (by omega)]
    refine ⟨⟨rfl, j + 1, by omega, by omega, ?_⟩, by dsimp only; omega⟩
    rw [List.take_succ_eq_append_getElem (by omega), val_snoc]
  · have : j = n := by omega
    rw [this, ← hl, List.take_length] at *
    exact hk

/-- Get -/
theorem c10 (A : Option Addr) (n c : Nat) (xs : List Int) (at_ size : Int) (h : H) (k : Value → H → Prop) (hr : RowH h A n (xs.map bf).toArray) (hc : n ≤ c) (hn : n ≤ 1099511627776) (ha : at_ ≤ 9223372036854775807) (hb : ∀ x ∈ xs, isB x)
    (hk : k (.tuple #[.int .u64 (getR xs at_ size).1, .int .i64 (getR xs at_ size).2]) h) : callK Try.prog 10 #[.slice A n c, .int .i64 at_, .int .i64 size] h k := by
  refine call10 _ _ _ _ _ _ _ ?_
  unfold d10
  have hl : xs.length = n := by simpa using hr.1
  unfold getR at hk
  refine ⟨fun b g => g = h ∧ b = decide (size < 1 ∨ 8 < size ∨ at_ < 0), ?_, ?_⟩
  · refine c31 _ _ _ (asB_of (ifB_of (fun h1 => ⟨rfl, ?_⟩) (fun h1 => ⟨rfl, ?_⟩)))
    · simp at h1 ⊢; omega
    · have h2 : 1 ≤ size ∧ size ≤ 8 := by simpa using h1
      simp only [decide_eq_decide]; omega
  rintro b g ⟨rfl, rfl⟩
  refine ifB_dec (fun h1 => ?_) (fun h1 => ?_)
  · rw [if_pos h1] at hk
    exact hk
  rw [if_neg h1] at hk
  refine ⟨fun b g' => g' = g ∧ b = decide ((xs.length : Int) < at_ + size), ?_, ?_⟩
  · refine ifB_dec (fun h2 => ⟨rfl, ?_⟩) (fun h2 => ⟨rfl, ?_⟩)
    · simp; omega
    · rw [wrap64_id (by omega) (by omega)]
      simp only [decide_eq_decide]; omega
  rintro b g' ⟨rfl, rfl⟩
  refine ifB_dec (fun h2 => ?_) (fun h2 => ?_)
  · rw [if_pos h2] at hk
    exact hk
  rw [if_neg h2] at hk
  rw [needK_true (by simp), wrap64_id (by omega) (by omega)]
  obtain ⟨a, rfl⟩ := Int.eq_ofNat_of_zero_le (show 0 ≤ at_ by omega)
  obtain ⟨s, rfl⟩ := Int.eq_ofNat_of_zero_le (show 0 ≤ size by omega)
  refine row_slice hr hc (l := a) (u := a + s) rfl (by simp) (by omega) (by omega) fun A' c' hr' hc' _ _ => ?_
  have hs : a + s - a = s := by omega
  rw [hs] at hr' ⊢
  refine c32 _ _ _ _ _ _ hr' (by omega) (fun x hx => hb x (List.mem_of_mem_drop (List.mem_of_mem_take hx))) (asI_of ?_)
  exact hk

/-- the reference's Get -/
theorem c11 (A : Option Addr) (n c : Nat) (xs : List Int) (at_ size : Int) (h : H) (k : Value → H → Prop) (hr : RowH h A n (xs.map bf).toArray) (hc : n ≤ c) (hn : n ≤ 1099511627776) (ha : at_ ≤ 9223372036854775807) (hb : ∀ x ∈ xs, isB x)
    (hk : k (.tuple #[.int .u64 (getR xs at_ size).1, .int .i64 (getR xs at_ size).2]) h) : callK Try.prog 11 #[.slice A n c, .int .i64 at_, .int .i64 size] h k := by
  refine call11 _ _ _ _ _ _ _ ?_
  unfold d11
  have hl : xs.length = n := by simpa using hr.1
  unfold getR at hk
  refine ⟨fun b g => g = h ∧ b = decide (size < 1 ∨ 8 < size ∨ at_ < 0), ?_, ?_⟩
  · refine ifB_dec (fun h1 => ⟨rfl, by simp [h1]⟩) (fun h1 => ifB_dec (fun h2 => ⟨rfl, by simp; omega⟩) (fun h2 => ⟨rfl, ?_⟩))
    simp only [decide_eq_decide]; omega
  rintro b g ⟨rfl, rfl⟩
  refine ifB_dec (fun h1 => ?_) (fun h1 => ?_)
  · rw [if_pos h1] at hk
    exact hk
  rw [if_neg h1] at hk
  obtain ⟨s, rfl⟩ := Int.eq_ofNat_of_zero_le (show 0 ≤ size by omega)
  obtain ⟨a, rfl⟩ := Int.eq_ofNat_of_zero_le (show 0 ≤ at_ by omega)
  refine ⟨fun x6 x7 x8 x9 g' => g' = g ∧ ∃ j : Nat, x9 = j ∧ j ≤ s ∧ (j = 0 ∨ a + j ≤ n) ∧ x8 = val ((xs.drop a).take j), fun x6 x7 x8 x9 g' => (s - x9).toNat, ⟨rfl, 0, rfl, by omega, .inl rfl, by simp [val]⟩, ?_⟩
  rintro x6 x7 x8 x9 g' ⟨rfl, j, rfl, hj, hja, rfl⟩
  refine ifB_dec (fun hy => ?_) (fun hy => ?_)
  · refine ⟨fun b g2 => g2 = g' ∧ b = decide (n ≤ a + j), ?_, ?_⟩
    · refine ifB_dec (fun h2 => ⟨rfl, by simp; omega⟩) (fun h2 => ⟨rfl, ?_⟩)
      rw [wrap64_id (by omega) (by omega)]
      simp only [decide_eq_decide]; omega
    rintro b g2 ⟨rfl, rfl⟩
    refine ifB_dec (fun h2 => ?_) (fun h2 => ?_)
    · rw [if_pos (by omega)] at hk
      exact hk
    have hx : xs[a + j]? = some xs[a + j] := List.getElem?_eq_getElem (by omega)
    rw [wrap64_id (by omega) (by omega)]
    refine row_load hr (j := a + j) (by omega) hx (asI_of ?_)
    have hbx := hb xs[a + j] (List.getElem_mem _)
    obtain ⟨v0, v1⟩ := val_bound j ((xs.drop a).take j) (by simp; omega) fun x hx => hb x (List.mem_of_mem_drop (List.mem_of_mem_take hx))
    have v2 : (256 : Int) ^ j ≤ 256 ^ 7 := pow_le256 (by omega)
    have v3 : (256 : Int) ^ 7 = 72057594037927936 := by decide
    unfold isB at hbx
    have e1 : IntKind.wrap .u64 (IntKind.wrap .u64 (val ((xs.drop a).take j) * 256) + IntKind.wrap .u64 xs[a + j]) = val ((xs.drop a).take j) * 256 + xs[a + j] := by
      rw [wrapu64_id hbx.1 (by omega), IntKind.wrap_u64, IntKind.wrap_u64]; omega
    rw [e1, wrap64_id (by omega) (by omega)]
    refine ⟨⟨rfl, j + 1, by omega, by omega, by omega, ?_⟩, by dsimp only; omega⟩
    rw [List.take_succ_eq_append_getElem (by simp; omega), val_snoc]
    simp
  · have : j = s := by omega
    subst this
    rw [if_neg (by omega)] at hk
    exact hk
end Go.Proofs.Yteagahchpblfkaa
