/- What is proved: the plain law, with no program in sight. Conditions stand in each theorem. -/
import Derived.Test.YthfjpnabalkjkaaXOctS
set_option linter.unusedSimpArgs false
set_option linter.unusedVariables false
namespace Go.Oct.L01
open Go.Oct
/-- the number of bytes -/
def val (xs : List Int) : Int := xs.foldl (fun v x => v * 256 + x) 0
theorem val_snoc (xs : List Int) (x : Int) : val (xs ++ [x]) = val xs * 256 + x := by simp [val, List.foldl_append]
theorem pow_pos256 (n : Nat) : 0 < (256 : Int) ^ n := Int.pow_pos (by decide)
theorem val_bound : ∀ (n : Nat) (xs : List Int), xs.length = n → (∀ x ∈ xs, isB x) → 0 ≤ val xs ∧ val xs < 256 ^ n
  | 0, xs, hn, _ => by
    have : xs = [] := List.length_eq_zero_iff.1 hn
    subst this
    simp [val]
  | n + 1, xs, hn, hb => by
    have hne : xs ≠ [] := by intro e; subst e; simp at hn
    have h1 := List.dropLast_concat_getLast hne
    have hl : xs.dropLast.length = n := by simp [hn]
    obtain ⟨h2, h3⟩ := val_bound n xs.dropLast hl fun x hx => hb x ((List.dropLast_sublist xs).mem hx)
    have h4 := hb _ (List.getLast_mem hne)
    rw [← h1, val_snoc]
    unfold isB at h4
    rw [Int.pow_succ]
    omega
theorem pow_le256 {a b : Nat} (h : a ≤ b) : (256 : Int) ^ a ≤ 256 ^ b := by
  have h1 : ((256 ^ a : Nat) : Int) ≤ ((256 ^ b : Nat) : Int) := Int.ofNat_le.2 (Nat.pow_le_pow_right (by decide) h)
  simpa using h1

theorem shr8 (x : Int) : shrK .u64 x 8 = x / 256 := by
  unfold shrK
  rw [Int.fdiv_eq_ediv_of_nonneg _ (by decide)]
  rfl
theorem shr_of (x : Int) {i : Nat} (h : i ≤ 8) : shrK .u64 x (8 * i) = x / 256 ^ i := by
  unfold shrK
  have h1 : (2 : Int) ^ (min ((8 * (i : Int)).toNat) (IntKind.bits .u64)) = 256 ^ i := by
    have h2 : min ((8 * (i : Int)).toNat) (IntKind.bits .u64) = 8 * i := by
      have : IntKind.bits .u64 = 64 := rfl
      omega
    rw [h2, Int.pow_mul]
    rfl
  rw [h1, Int.fdiv_eq_ediv_of_nonneg _ (Int.le_of_lt (pow_pos256 i))]
theorem shl8 {v : Int} (h0 : 0 ≤ v) (h1 : v < 72057594037927936) : shlK .u64 v 8 = v * 256 := by
  unfold shlK
  rw [show (2 : Int) ^ min (Int.toNat 8) (IntKind.bits .u64) = 256 from rfl, IntKind.wrap_u64]
  omega
theorem or8 {v x : Int} (h0 : 0 ≤ v) (h1 : v < 72057594037927936) (hx : isB x) : bitK .or .u64 (v * 256) x = v * 256 + x := by
  unfold isB at hx
  obtain ⟨a, rfl⟩ := Int.eq_ofNat_of_zero_le h0
  obtain ⟨b, rfl⟩ := Int.eq_ofNat_of_zero_le hx.1
  unfold bitK
  have h2 : (BitVec.ofInt (IntKind.bits .u64) ((a : Int) * 256) ||| BitVec.ofInt (IntKind.bits .u64) (b : Int)).toNat = a * 256 + b := by
    rw [BitVec.toNat_or, BitVec.toNat_ofInt, BitVec.toNat_ofInt]
    have e1 : (((a : Int) * 256) % ((2 ^ IntKind.bits .u64 : Nat) : Int)).toNat = a * 256 := by
      have : ((2 ^ IntKind.bits .u64 : Nat) : Int) = 18446744073709551616 := rfl
      rw [this]; omega
    have e2 : ((b : Int) % ((2 ^ IntKind.bits .u64 : Nat) : Int)).toNat = b := by
      have : ((2 ^ IntKind.bits .u64 : Nat) : Int) = 18446744073709551616 := rfl
      rw [this]; omega
    rw [e1, e2]
    have := Nat.shiftLeft_add_eq_or_of_lt (i := 8) (b := b) (by omega) a
    rw [Nat.shiftLeft_eq] at this
    simpa using this.symm
  simp only [h2]
  rw [IntKind.wrap_u64]
  omega

/-- the least size -/
def least (v : Int) : Int :=
  if v < 256 then 1 else if v < 65536 then 2 else if v < 16777216 then 3 else if v < 4294967296 then 4 else if v < 1099511627776 then 5
  else if v < 281474976710656 then 6 else if v < 72057594037927936 then 7 else 8
theorem least_range (v : Int) : 1 ≤ least v ∧ least v ≤ 8 := by
  unfold least
  repeat' split
  all_goals omega
def fitsB (v n : Int) : Bool := decide (1 ≤ n) && (decide (n ≤ 8) && decide (v < 256 ^ n.toNat))
theorem pows (n : Nat) (h : n ≤ 8) : (n = 0 ∧ (256 : Int) ^ n = 1) ∨ (n = 1 ∧ (256 : Int) ^ n = 256) ∨ (n = 2 ∧ (256 : Int) ^ n = 65536) ∨ (n = 3 ∧ (256 : Int) ^ n = 16777216) ∨ (n = 4 ∧ (256 : Int) ^ n = 4294967296) ∨ (n = 5 ∧ (256 : Int) ^ n = 1099511627776) ∨
    (n = 6 ∧ (256 : Int) ^ n = 281474976710656) ∨ (n = 7 ∧ (256 : Int) ^ n = 72057594037927936) ∨ (n = 8 ∧ (256 : Int) ^ n = 18446744073709551616) := by
  have : n = 0 ∨ n = 1 ∨ n = 2 ∨ n = 3 ∨ n = 4 ∨ n = 5 ∨ n = 6 ∨ n = 7 ∨ n = 8 := by omega
  rcases this with rfl | rfl | rfl | rfl | rfl | rfl | rfl | rfl | rfl <;> simp
theorem least_le {v n : Int} (h1 : 1 ≤ n) (h8 : n ≤ 8) (hv : v < 18446744073709551616) : least v ≤ n ↔ v < 256 ^ n.toNat := by
  unfold least
  rcases pows n.toNat (by omega) with h | h | h | h | h | h | h | h | h
  all_goals
    rw [h.2]
    repeat' split
    all_goals omega
theorem least_of {v : Int} {j : Nat} (hj : j ≤ 7) (hlo : j = 0 ∨ 256 ^ j ≤ v) (hhi : v < 256 ^ (j + 1)) : least v = j + 1 := by
  have h := pows j (by omega)
  have h' := pows (j + 1) (by omega)
  unfold least
  repeat' split
  all_goals omega
theorem fits_least {v n : Int} (hv : v < 18446744073709551616) : fitsB v n = (decide (1 ≤ n) && (decide (n ≤ 8) && decide (least v ≤ n))) := by
  unfold fitsB
  by_cases h1 : 1 ≤ n
  · by_cases h8 : n ≤ 8
    · simp only [least_le h1 h8 hv]
    · simp [h8]
  · simp [h1]
/-- what Get answers -/
def getR (bs : List Int) (at_ size : Int) : Int × Int :=
  if size < 1 ∨ 8 < size ∨ at_ < 0 then (0, 2)
  else if (bs.length : Int) < at_ + size then (0, 10)
  else (val ((bs.drop at_.toNat).take size.toNat), 0)
/-- a number's bytes -/
def bytesOf (v : Int) (n : Nat) : List Int := (List.range n).map fun i => v / 256 ^ (n - 1 - i) % 256
theorem bytesOf_length (v : Int) (n : Nat) : (bytesOf v n).length = n := by simp [bytesOf]
theorem div_pow (v : Int) (a b : Nat) : v / 256 ^ a / 256 ^ b = v / 256 ^ (a + b) := by
  rw [Int.pow_add, Int.ediv_ediv_of_nonneg (Int.le_of_lt (pow_pos256 a))]
theorem bytesOf_succ (v : Int) (n : Nat) : bytesOf v (n + 1) = bytesOf (v / 256) n ++ [v % 256] := by
  unfold bytesOf
  rw [List.range_succ, List.map_append]
  congr 1
  · refine List.map_congr_left fun i hi => ?_
    have hi := List.mem_range.1 hi
    have h1 := div_pow v 1 (n - 1 - i)
    rw [Int.pow_one] at h1
    rw [h1]
    congr 3
    omega
  · simp
theorem val_bytesOf : ∀ (n : Nat) (v : Int), 0 ≤ v → v < 256 ^ n → val (bytesOf v n) = v
  | 0, v, h0, h1 => by simp at h1; simp [bytesOf, val]; omega
  | n + 1, v, h0, h1 => by
    rw [Int.pow_succ] at h1
    rw [bytesOf_succ, val_snoc, val_bytesOf n (v / 256) (by omega) (by omega)]
    omega
theorem bytesOf_isB (v : Int) (n : Nat) : ∀ x ∈ bytesOf v n, isB x := by
  intro x hx
  unfold bytesOf at hx
  obtain ⟨i, _, rfl⟩ := List.mem_map.1 hx
  unfold isB
  have := pow_pos256 (n - 1 - i)
  omega
/-- bytes in place of bytes -/
def patch (xs : List Int) (at_ v size : Int) : List Int := xs.take at_.toNat ++ bytesOf v size.toNat ++ xs.drop (at_.toNat + size.toNat)
theorem patch_isB {xs : List Int} (h : ∀ x ∈ xs, isB x) (a v s : Int) : ∀ x ∈ patch xs a v s, isB x := by
  intro x hx
  unfold patch at hx
  rcases List.mem_append.1 hx with hx | hx
  · rcases List.mem_append.1 hx with hx | hx
    · exact h x (List.mem_of_mem_take hx)
    · exact bytesOf_isB _ _ x hx
  · exact h x (List.mem_of_mem_drop hx)
theorem patch_get {xs : List Int} {a v s : Int} (hf : fitsB v s = true) (h0 : 0 ≤ v) (ha : 0 ≤ a) (hs : a + s ≤ xs.length) :
    (patch xs a v s).length = xs.length ∧ getR (patch xs a v s) a s = (v, 0) ∧ ∀ i : Nat, (i < a ∨ a + s ≤ i) → xs[i]? = (patch xs a v s)[i]? := by
  have hr : 1 ≤ s ∧ s ≤ 8 ∧ v < 256 ^ s.toNat := by unfold fitsB at hf; simp at hf; exact hf
  obtain ⟨s, rfl⟩ := Int.eq_ofNat_of_zero_le (show 0 ≤ s by omega)
  obtain ⟨a, rfl⟩ := Int.eq_ofNat_of_zero_le ha
  simp only [Int.toNat_natCast] at hr
  have hl : (bytesOf v s).length = s := bytesOf_length v s
  have hlen : (patch xs a v s).length = xs.length := by
    simp only [patch, Int.toNat_natCast, List.length_append, List.length_take, List.length_drop, hl]
    omega
  have hta : (xs.take a).length = a := by rw [List.length_take]; omega
  refine ⟨hlen, ?_, ?_⟩
  · unfold getR
    rw [if_neg (by omega), if_neg (by rw [hlen]; omega)]
    simp only [patch, Int.toNat_natCast, List.append_assoc]
    rw [List.drop_left' hta, List.take_left' hl, val_bytesOf s v h0 hr.2.2]
  · intro i hi
    simp only [patch, Int.toNat_natCast]
    rcases hi with hi | hi
    · rw [List.append_assoc, List.getElem?_append_left (by omega), List.getElem?_take, if_pos (by omega)]
    · rw [List.getElem?_append_right (by rw [List.length_append, hta, hl]; omega), List.length_append, hta, hl, List.getElem?_drop]
      congr 1
      omega
end Go.Oct.L01
