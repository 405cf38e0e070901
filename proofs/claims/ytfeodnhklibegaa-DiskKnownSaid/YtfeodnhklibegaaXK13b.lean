/- What is proved: contracts of functions that the law calls, and of the law itself, over any heap. Conditions stand in each theorem. -/
import Derived.Test.YtfeodnhklibegaaXK13a
set_option linter.unusedSimpArgs false
set_option linter.unusedVariables false
namespace Go.Proofs.Ytfeodnhklibegaa
open Go.Oct Go.Oct.L01

def liesB (sz : Nat) (a n : Int) : Bool := decide (0 ≤ a ∧ 0 ≤ n ∧ a ≤ sz ∧ n ≤ sz - a)
section
variable {h : H} {base pd : Nat} {S : Nat → Prop} {D N : List Int} {U : List (Int × List Int)}
/-- Size -/
theorem c18 (d : Dk h base pd S D N U) (k : Value → H → Prop) (hk : k (.int .i64 D.length) h) : callK Try.prog 18 #[.pointer (some ⟨pd, 0, none⟩)] h k := by
  obtain ⟨A, n, c, B, m, d', C, u, e, ws, s, _, _⟩ := d
  refine call18 _ _ _ ?_
  unfold d18
  rw [needK_true (by simp)]
  refine ifB_of (fun hA => by simp at hA) (fun _ => ?_)
  rw [nilK_some, addrK_mk]
  refine s.blk.at_.load1 1 rfl rfl (asS_of ?_)
  have : m = D.length := by rw [← s.len]; exact s.now.1.symm
  rw [this]
  exact hk
/-- lies -/
theorem c26 (d : Dk h base pd S D N U) (a n : Int) (k : Value → H → Prop) (ha : a ≤ 9223372036854775807) (hk : k (.bool (liesB D.length a n)) h) : callK Try.prog 26 #[.pointer (some ⟨pd, 0, none⟩), .int .i64 a, .int .i64 n] h k := by
  refine call26 _ _ _ _ _ ?_
  unfold d26
  have hsm : D.length ≤ 65536 := by obtain ⟨A, n, c, B, m, d', C, u, e, ws, s, _, _⟩ := d; exact s.small
  unfold liesB at hk
  refine ifB_dec (fun h1 => ?_) (fun h1 => ?_)
  · refine ifB_dec (fun h2 => ?_) (fun h2 => ?_)
    · refine c18 d _ (asI_of ?_)
      refine ifB_dec (fun h3 => ?_) (fun h3 => ?_)
      · refine c18 d _ (asI_of ?_)
        rw [wrap64_id (by omega) (by omega)]
        have : decide (n ≤ (D.length : Int) - a) = decide (0 ≤ a ∧ 0 ≤ n ∧ a ≤ D.length ∧ n ≤ D.length - a) := by simp only [decide_eq_decide]; omega
        rw [this]; exact hk
      · rw [decide_eq_false (by omega)] at hk; exact hk
    · rw [decide_eq_false (by omega)] at hk; exact hk
  · rw [decide_eq_false (by omega)] at hk; exact hk
/-- what is read -/
def part (X : List Int) (a n : Int) : List Int := (X.drop a.toNat).take n.toNat
theorem part_isB {X : List Int} (h : ∀ x ∈ X, isB x) (a n : Int) : ∀ x ∈ part X a n, isB x := fun x hx => h x (List.mem_of_mem_drop (List.mem_of_mem_take hx))
/-- Read -/
theorem c12 (d : Dk h base pd S D N U) (a n : Int) (k : Value → H → Prop) (ha : a ≤ 9223372036854775807) (hno : liesB D.length a n = false → k (.tuple #[.slice none 0 0, .int .i64 130]) h)
    (hk : liesB D.length a n = true → ∀ A' c' h', Ext h h' → Byt h' h.size A' n.toNat c' (part N a n) → k (.tuple #[.slice A' n.toNat c', .int .i64 0]) h') : callK Try.prog 12 #[.pointer (some ⟨pd, 0, none⟩), .int .i64 a, .int .i64 n] h k := by
  refine call12 _ _ _ _ _ ?_
  unfold d12
  refine call24 _ _ _ _ _ _ _ _ ?_
  unfold d24
  rw [needK_true (by simp)]
  refine ifB_of (fun hA => by simp at hA) (fun _ => ?_)
  refine c26 d a n _ ha (asB_of (ifB_of (fun hl => ?_) (fun hl => ?_)))
  · exact asT2_of (asS_of (asI_of (hno (by simpa using hl))))
  have hl : liesB D.length a n = true := by simpa using hl
  have hl2 : 0 ≤ a ∧ 0 ≤ n ∧ a ≤ D.length ∧ n ≤ D.length - a := by unfold liesB at hl; simpa using hl
  obtain ⟨A, n1, c, B, m, d', C, u, e, ws, s, _, _⟩ := d
  refine call25 _ _ _ ?_
  unfold d25
  rw [nilK_some, addrK_mk]
  refine s.blk.at_.load1 1 rfl rfl (asS_of (asS_of ?_))
  have hm : N.length = m := s.now.1
  have hlen := s.len
  have hsm := s.small
  obtain ⟨a, rfl⟩ := Int.eq_ofNat_of_zero_le hl2.1
  obtain ⟨n, rfl⟩ := Int.eq_ofNat_of_zero_le hl2.2.1
  rw [needK_true (by simp), wrap64_id (by omega) (by omega)]
  refine row_slice (Lst.row (f := bf) s.now) s.now.2.le (l := a) (u := a + n) (by simp) (by simp) (by omega) (by omega) fun A5 q5 r5 _ _ _ => ?_
  rw [show a + n - a = n by omega] at r5 ⊢
  refine c29 A5 n q5 _ h _ r5 (by omega) fun A6 q6 g6 x6 l6 => asS_of (asT2_of (asS_of (asI_of ?_)))
  exact hk hl A6 q6 g6 x6 (by simpa [part] using l6)
/-- Durable -/
theorem c15 (d : Dk h base pd S D N U) (a n : Int) (k : Value → H → Prop) (ha : a ≤ 9223372036854775807) (hno : liesB D.length a n = false → k (.tuple #[.slice none 0 0, .int .i64 130]) h)
    (hk : liesB D.length a n = true → ∀ A' c' h', Ext h h' → Byt h' h.size A' n.toNat c' (part D a n) → k (.tuple #[.slice A' n.toNat c', .int .i64 0]) h') : callK Try.prog 15 #[.pointer (some ⟨pd, 0, none⟩), .int .i64 a, .int .i64 n] h k := by
  refine call15 _ _ _ _ _ ?_
  unfold d15
  refine call24 _ _ _ _ _ _ _ _ ?_
  unfold d24
  rw [needK_true (by simp)]
  refine ifB_of (fun hA => by simp at hA) (fun _ => ?_)
  refine c26 d a n _ ha (asB_of (ifB_of (fun hl => ?_) (fun hl => ?_)))
  · exact asT2_of (asS_of (asI_of (hno (by simpa using hl))))
  have hl : liesB D.length a n = true := by simpa using hl
  have hl2 : 0 ≤ a ∧ 0 ≤ n ∧ a ≤ D.length ∧ n ≤ D.length - a := by unfold liesB at hl; simpa using hl
  obtain ⟨A, n1, c, B, m, d', C, u, e, ws, s, _, _⟩ := d
  refine call28 _ _ _ ?_
  unfold d28
  rw [nilK_some, addrK_mk]
  refine s.blk.at_.load1 0 rfl rfl (asS_of (asS_of ?_))
  have hm : D.length = n1 := s.dur.1
  have hsm := s.small
  obtain ⟨a, rfl⟩ := Int.eq_ofNat_of_zero_le hl2.1
  obtain ⟨n, rfl⟩ := Int.eq_ofNat_of_zero_le hl2.2.1
  rw [needK_true (by simp), wrap64_id (by omega) (by omega)]
  refine row_slice (Lst.row (f := bf) s.dur) s.dur.2.le (l := a) (u := a + n) (by simp) (by simp) (by omega) (by omega) fun A5 q5 r5 _ _ _ => ?_
  rw [show a + n - a = n by omega] at r5 ⊢
  refine c29 A5 n q5 _ h _ r5 (by omega) fun A6 q6 g6 x6 l6 => asS_of (asT2_of (asS_of (asI_of ?_)))
  exact hk hl A6 q6 g6 x6 (by simpa [part] using l6)
end
end Go.Proofs.Ytfeodnhklibegaa
