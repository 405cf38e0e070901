/- What is proved: contracts of functions that the law calls, and of the law itself, over any heap. Conditions stand in each theorem. -/
import Derived.Test.YtfeodnhklibegaaXK13k
import Derived.Test.YtfeodnhklibegaaXOctR
set_option linter.unusedSimpArgs false
set_option linter.unusedVariables false
namespace Go.Proofs.Ytfeodnhklibegaa
open Go.Oct Go.Oct.L01 Go.ChangeShapes Go.WideShapes Go.ChangeAt Go.RowKit
theorem fate_of {H : Type} {enc : TypeId × Value → H} {W : World} {cs : List Value} (hr : Rb enc Try.prog W 44 cs) : ∃ f : Int × Int, cs = fcells f ∧ True := by
  obtain ⟨hl, hf⟩ := rb_struct Try.underlying44 hr
  have c3 : Try.prog.cellsOf 3 = 1 := by kernel_rfl
  have c44 : Try.prog.cellsOf 44 = 2 := by kernel_rfl
  rw [c44] at hl
  obtain ⟨w0, w1, rfl⟩ : ∃ a b, cs = [a, b] := match cs, hl with
    | [a, b], _ => ⟨a, b, rfl⟩
  have f0 : Rb enc Try.prog W 3 [w0] := rb_field Try.underlying44 hr 0 rfl rfl rfl c3
  have f1 : Rb enc Try.prog W 3 [w1] := rb_field Try.underlying44 hr 1 rfl rfl rfl c3
  obtain ⟨x0, e0, k0⟩ := rb_int Try.underlying3 f0
  obtain ⟨x1, e1, k1⟩ := rb_int Try.underlying3 f1
  cases e0; cases e1
  exact ⟨(x0, x1), rfl, trivial⟩
theorem fates_of {H : Type} {enc : TypeId × Value → H} {W : World} {cs : List Value} (hr : Rb enc Try.prog W 23 cs) : ∃ (A : Option Addr) (n cap : Nat) (xs : List (Int × Int)), cs = [.slice A n cap] ∧ xs.length = n ∧ RowH W.heap A (n * 2) (cellsOf fcells xs) := by
  obtain ⟨A, n, c, xs, e, hnc, hcap, hlen, hrow, _⟩ := rb_list (f := fcells) (ok := fun _ => True) Try.underlying23 (c := 2) (by kernel_rfl) fcells_len (fun r hr _ => fate_of hr) hr
  exact ⟨A, n, c, xs, e, hlen, hrow⟩
theorem act_of {H : Type} {enc : TypeId × Value → H} {W : World} {cs : List Value} (hr : Rb enc Try.prog W 33 cs) : ∃ a : Act, cs = a.cells ∧ a.ok W.heap := by
  obtain ⟨hl, hf⟩ := rb_struct Try.underlying33 hr
  have c3 : Try.prog.cellsOf 3 = 1 := by kernel_rfl
  have c23 : Try.prog.cellsOf 23 = 1 := by kernel_rfl
  have c31 : Try.prog.cellsOf 31 = 1 := by kernel_rfl
  have c33 : Try.prog.cellsOf 33 = 4 := by kernel_rfl
  have c5 : Try.prog.cellsOf 5 = 1 := by kernel_rfl
  rw [c33] at hl
  obtain ⟨w0, w1, w2, w3, rfl⟩ : ∃ a b c d, cs = [a, b, c, d] := match cs, hl with
    | [a, b, c, d], _ => ⟨a, b, c, d, rfl⟩
  have f0 : Rb enc Try.prog W 3 [w0] := rb_field Try.underlying33 hr 0 rfl rfl rfl c3
  have f1 : Rb enc Try.prog W 3 [w1] := rb_field Try.underlying33 hr 1 rfl rfl rfl c3
  have f2 : Rb enc Try.prog W 31 [w2] := rb_field Try.underlying33 hr 2 rfl rfl rfl c31
  have f3 : Rb enc Try.prog W 23 [w3] := rb_field Try.underlying33 hr 3 rfl rfl rfl c23
  obtain ⟨x0, e0, k0⟩ := rb_int Try.underlying3 f0
  obtain ⟨x1, e1, k1⟩ := rb_int Try.underlying3 f1
  obtain ⟨A, n, c, xs, e2, k4, k5, k6, k7⟩ := rb_ints Try.underlying31 Try.underlying5 c5 f2
  obtain ⟨B, m, d, fs, e3, k8, k9⟩ := fates_of f3
  cases e0; cases e1; cases e2; cases e3
  have k1 := bounds_i64 k1
  exact ⟨⟨x0, x1, A, n, c, xs, B, m, d, fs⟩, rfl, ⟨k6, fun x hx => by have := bounds_u8 (k7 x hx); unfold isB; omega, k9, k8, by dsimp only; omega⟩⟩
end Go.Proofs.Ytfeodnhklibegaa
