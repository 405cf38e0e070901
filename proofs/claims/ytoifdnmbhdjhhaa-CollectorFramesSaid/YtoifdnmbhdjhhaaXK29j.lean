/- What is proved: contracts of functions that the law calls, and of the law itself, over any heap. Conditions stand in each theorem. -/
import Derived.Test.YtoifdnmbhdjhhaaXOctR
import Derived.Test.YtoifdnmbhdjhhaaXK29i
set_option linter.unusedSimpArgs false
set_option linter.unusedVariables false
namespace Go.Proofs.Ytoifdnmbhdjhhaa
open Go.Oct Go.Oct.L01

theorem co25 : Try.prog.cellsOf 25 = 1 := by kernel_rfl
theorem co26 : Try.prog.cellsOf 26 = 1 := by kernel_rfl
theorem co30 : Try.prog.cellsOf 30 = 1 := by kernel_rfl
theorem co5 : Try.prog.cellsOf 5 = 1 := by kernel_rfl
theorem co28 : Try.prog.cellsOf 28 = 2 := by kernel_rfl
theorem co32 : Try.prog.cellsOf 32 = 4 := by kernel_rfl
theorem co36 : Try.prog.cellsOf 36 = 3 := by kernel_rfl
section
variable {H : Type} {enc : TypeId × Value → H} {W : World} {cs : List Value}
theorem ent_of (hr : Rb enc Try.prog W 32 cs) : ∃ (E N P : Int) (A : Option Addr) (n c : Nat) (bs : List Int), cs = (ent E N P (.slice A n c)).toList ∧ u32B E ∧ u64B N ∧ u32B P ∧ RowH W.heap A n (bs.map bf).toArray ∧ ∀ x ∈ bs, isB x := by
  have hl := (rb_struct Try.underlying32 hr).1
  rw [co32] at hl
  obtain ⟨w0, w1, w2, w3, rfl⟩ : ∃ a b c d, cs = [a, b, c, d] := match cs, hl with
    | [a, b, c, d], _ => ⟨a, b, c, d, rfl⟩
  have f0 : Rb enc Try.prog W 25 [w0] := rb_field Try.underlying32 hr 0 rfl rfl rfl co25
  have f1 : Rb enc Try.prog W 26 [w1] := rb_field Try.underlying32 hr 1 rfl rfl rfl co26
  have f2 : Rb enc Try.prog W 25 [w2] := rb_field Try.underlying32 hr 2 rfl rfl rfl co25
  have f3 : Rb enc Try.prog W 30 [w3] := rb_field Try.underlying32 hr 3 rfl rfl rfl co30
  obtain ⟨x0, e0, k0⟩ := rb_int Try.underlying25 f0
  obtain ⟨x1, e1, k1⟩ := rb_int Try.underlying26 f1
  obtain ⟨x2, e2, k2⟩ := rb_int Try.underlying25 f2
  obtain ⟨A, n, c, xs, e3, k4, k5, k6, k7⟩ := rb_ints Try.underlying30 Try.underlying5 co5 f3
  cases e0; cases e1; cases e2; cases e3
  have k0 := bounds_u32 k0
  have k1 := bounds_u64 k1
  have k2 := bounds_u32 k2
  exact ⟨x0, x1, x2, A, n, c, xs, rfl, ⟨k0.1, by omega⟩, ⟨k1.1, by omega⟩, ⟨k2.1, by omega⟩, k6, fun x hx => by have := bounds_u8 (k7 x hx); unfold isB; omega⟩
theorem mark_of (hr : Rb enc Try.prog W 28 cs) : ∃ E N, cs = [.int .u32 E, .int .u64 N] ∧ u32B E ∧ u64B N := by
  have hl := (rb_struct Try.underlying28 hr).1
  rw [co28] at hl
  obtain ⟨w0, w1, rfl⟩ : ∃ a b, cs = [a, b] := match cs, hl with
    | [a, b], _ => ⟨a, b, rfl⟩
  have f0 : Rb enc Try.prog W 25 [w0] := rb_field Try.underlying28 hr 0 rfl rfl rfl co25
  have f1 : Rb enc Try.prog W 26 [w1] := rb_field Try.underlying28 hr 1 rfl rfl rfl co26
  obtain ⟨x0, e0, k0⟩ := rb_int Try.underlying25 f0
  obtain ⟨x1, e1, k1⟩ := rb_int Try.underlying26 f1
  cases e0; cases e1
  have k0 := bounds_u32 k0
  have k1 := bounds_u64 k1
  exact ⟨x0, x1, rfl, ⟨k0.1, by omega⟩, ⟨k1.1, by omega⟩⟩
theorem ack_of (hr : Rb enc Try.prog W 36 cs) : ∃ D E N, cs = (ack D E N).toList ∧ u32B D ∧ u32B E ∧ u64B N := by
  have hl := (rb_struct Try.underlying36 hr).1
  rw [co36] at hl
  obtain ⟨w0, w1, w2, rfl⟩ : ∃ a b c, cs = [a, b, c] := match cs, hl with
    | [a, b, c], _ => ⟨a, b, c, rfl⟩
  have f0 : Rb enc Try.prog W 25 [w0] := rb_field Try.underlying36 hr 0 rfl rfl rfl co25
  have f1 : Rb enc Try.prog W 28 [w1, w2] := rb_field Try.underlying36 hr 1 rfl rfl rfl co28
  obtain ⟨x0, e0, k0⟩ := rb_int Try.underlying25 f0
  obtain ⟨x1, x2, e1, k1, k2⟩ := mark_of f1
  cases e0; cases e1
  have k0 := bounds_u32 k0
  exact ⟨x0, x1, x2, rfl, ⟨k0.1, by omega⟩, k1, k2⟩
end
theorem arr_of {cs : Array Value} {l : List Value} (h : cs.toList = l) : cs = l.toArray := by rw [← h]
end Go.Proofs.Ytoifdnmbhdjhhaa
