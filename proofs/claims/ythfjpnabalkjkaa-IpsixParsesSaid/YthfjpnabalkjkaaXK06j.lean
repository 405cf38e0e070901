/- What is proved: contracts of functions that the law calls, and of the law itself, over any heap. Conditions stand in each theorem. -/
import Derived.Test.YthfjpnabalkjkaaXK06h
import Derived.Test.YthfjpnabalkjkaaXOctR
set_option linter.unusedSimpArgs false
set_option linter.unusedVariables false
namespace Go.Proofs.Ythfjpnabalkjkaa
open Go.Oct Go.Oct.L01 Go.Oct.L06 Go.ChangeShapes Go.WideShapes Go.ChangeAt Go.RowKit
theorem two_of {α : Type} {l : List α} (h : l.length = 2) : ∃ a b, l = [a, b] := by
  rcases l with _ | ⟨a, _ | ⟨b, _ | ⟨c, r⟩⟩⟩
  · simp at h
  · simp at h
  · exact ⟨a, b, rfl⟩
  · simp at h
theorem rb_u8 {H : Type} {enc : TypeId × Value → H} {W : World} {cs : List Value} (hr : Rb enc Try.prog W 5 cs) : ∃ x, cs = [bf x] ∧ isB x := by
  obtain ⟨x, e, w⟩ := rb_int Try.underlying5 hr
  exact ⟨x, e, by have := bounds_u8 w; unfold isB; omega⟩
theorem bytes_of {H : Type} {enc : TypeId × Value → H} {W : World} : ∀ (n : Nat) (cs : List Value), cs.length = n → (∀ i, i < n → Rb enc Try.prog W 5 ((cs.drop i).take 1)) → ∃ xs : List Int, cs = xs.map bf ∧ xs.length = n ∧ ∀ x ∈ xs, isB x
  | 0, cs, hl, _ => ⟨[], by rw [List.length_eq_zero_iff.1 hl]; rfl, rfl, by simp⟩
  | n + 1, [], hl, _ => by cases hl
  | n + 1, c :: r, hl, h => by
    obtain ⟨xs, e, h1, h2⟩ := bytes_of n r (by simpa using hl) (fun i hi => by have := h (i + 1) (by omega); simpa using this)
    obtain ⟨x, e2, hx⟩ := rb_u8 (by have := h 0 (by omega); simpa using this)
    simp only [List.cons.injEq, and_true] at e2
    subst e2
    subst e
    refine ⟨x :: xs, rfl, by simp [h1], fun y hy => ?_⟩
    rcases List.mem_cons.1 hy with hy | hy
    · rw [hy]; exact hx
    · exact h2 y hy
theorem b16_of {H : Type} {enc : TypeId × Value → H} {W : World} {cs : List Value} (hr : Rb enc Try.prog W 24 cs) : ∃ xs : List Int, cs = xs.map bf ∧ xs.length = 16 ∧ ∀ x ∈ xs, isB x := by
  obtain ⟨hl, he⟩ := rb_array Try.underlying24 hr
  have c24 : Try.prog.cellsOf 24 = 16 := by kernel_rfl
  have c5 : Try.prog.cellsOf 5 = 1 := by kernel_rfl
  rw [c24] at hl
  refine bytes_of (enc := enc) (W := W) 16 cs hl fun i hi => ?_
  have := he i hi
  rwa [c5, Nat.mul_one] at this
theorem hd_of {H : Type} {enc : TypeId × Value → H} {W : World} {cs : List Value} (hr : Rb enc Try.prog W 26 cs) : ∃ hh : Hd, cs = hcells hh ∧ hh.ok := by
  obtain ⟨hl, hf⟩ := rb_struct Try.underlying26 hr
  have c26 : Try.prog.cellsOf 26 = 37 := by kernel_rfl
  have c24 : Try.prog.cellsOf 24 = 16 := by kernel_rfl
  have c5 : Try.prog.cellsOf 5 = 1 := by kernel_rfl
  have c22 : Try.prog.cellsOf 22 = 1 := by kernel_rfl
  have c23 : Try.prog.cellsOf 23 = 1 := by kernel_rfl
  rw [c26] at hl
  obtain ⟨w0, w1, w2, w3, w4, r, rfl⟩ : ∃ a b c d e r, cs = a :: b :: c :: d :: e :: r := by
    rcases cs with _ | ⟨a, _ | ⟨b, _ | ⟨c, _ | ⟨d, _ | ⟨e, r⟩⟩⟩⟩⟩
    · simp at hl
    · simp at hl
    · simp at hl
    · simp at hl
    · simp at hl
    · exact ⟨a, b, c, d, e, r, rfl⟩
  have f0 : Rb enc Try.prog W 5 [w0] := rb_field Try.underlying26 hr 0 rfl rfl rfl c5
  have f1 : Rb enc Try.prog W 22 [w1] := rb_field Try.underlying26 hr 1 rfl rfl rfl c22
  have f2 : Rb enc Try.prog W 23 [w2] := rb_field Try.underlying26 hr 2 rfl rfl rfl c23
  have f3 : Rb enc Try.prog W 5 [w3] := rb_field Try.underlying26 hr 3 rfl rfl rfl c5
  have f4 : Rb enc Try.prog W 5 [w4] := rb_field Try.underlying26 hr 4 rfl rfl rfl c5
  have f5 : Rb enc Try.prog W 24 (r.take 16) := rb_field Try.underlying26 hr 5 rfl rfl rfl c24
  have f6 : Rb enc Try.prog W 24 ((r.drop 16).take 16) := rb_field Try.underlying26 hr 6 rfl rfl rfl c24
  have hrl : r.length = 32 := by simpa using hl
  rw [List.take_of_length_le (by rw [List.length_drop]; omega)] at f6
  obtain ⟨x0, e0, k0⟩ := rb_u8 f0
  obtain ⟨x1, e1, k1⟩ := rb_int Try.underlying22 f1
  obtain ⟨x2, e2, k2⟩ := rb_int Try.underlying23 f2
  obtain ⟨x3, e3, k3⟩ := rb_u8 f3
  obtain ⟨x4, e4, k4⟩ := rb_u8 f4
  obtain ⟨s, e5, l5, k5⟩ := b16_of f5
  obtain ⟨t, e6, l6, k6⟩ := b16_of f6
  cases e0; cases e1; cases e2; cases e3; cases e4
  have k1 := bounds_u32 k1
  have k2 := bounds_u16 k2
  unfold isB at k0
  refine ⟨⟨x0, x1, x2, x3, x4, s, t⟩, ?_, ⟨k0, by dsimp only; omega, by dsimp only; omega, k3, k4, l5, l6, k5, k6⟩⟩
  rw [← List.take_append_drop 16 r, e5, e6]
  rfl
theorem ex_of {H : Type} {enc : TypeId × Value → H} {W : World} {cs : List Value} (hr : Rb enc Try.prog W 48 cs) : ∃ x : Ex, cs = x.cells ∧ x.ok0 W.heap := by
  obtain ⟨hl, hf⟩ := rb_struct Try.underlying48 hr
  have c48 : Try.prog.cellsOf 48 = 2 := by kernel_rfl
  have c5 : Try.prog.cellsOf 5 = 1 := by kernel_rfl
  have c30 : Try.prog.cellsOf 30 = 1 := by kernel_rfl
  rw [c48] at hl
  obtain ⟨w0, w1, rfl⟩ : ∃ a b, cs = [a, b] := two_of hl
  have f0 : Rb enc Try.prog W 5 [w0] := rb_field Try.underlying48 hr 0 rfl rfl rfl c5
  have f1 : Rb enc Try.prog W 30 [w1] := rb_field Try.underlying48 hr 1 rfl rfl rfl c30
  obtain ⟨x0, e0, k0⟩ := rb_u8 f0
  obtain ⟨A, n, c, xs, e1, k4, k5, k6, k7⟩ := rb_ints Try.underlying30 Try.underlying5 c5 f1
  cases e0; cases e1
  exact ⟨⟨x0, A, n, c, xs⟩, rfl, k6, k4, k0, fun x hx => by have := bounds_u8 (k7 x hx); unfold isB; omega⟩
theorem chain_of {H : Type} {enc : TypeId × Value → H} {W : World} {cs : List Value} (hr : Rb enc Try.prog W 29 cs) : ∃ (A : Option Addr) (n c : Nat) (xs : List Ex) (p : Int), cs = (chv A n c p).toList ∧ Ch0 W.heap A n xs p := by
  obtain ⟨hl, hf⟩ := rb_struct Try.underlying29 hr
  have c29 : Try.prog.cellsOf 29 = 2 := by kernel_rfl
  have c5 : Try.prog.cellsOf 5 = 1 := by kernel_rfl
  have c27 : Try.prog.cellsOf 27 = 1 := by kernel_rfl
  rw [c29] at hl
  obtain ⟨w0, w1, rfl⟩ : ∃ a b, cs = [a, b] := two_of hl
  have f0 : Rb enc Try.prog W 27 [w0] := rb_field Try.underlying29 hr 0 rfl rfl rfl c27
  have f1 : Rb enc Try.prog W 5 [w1] := rb_field Try.underlying29 hr 1 rfl rfl rfl c5
  obtain ⟨A, n, c, xs, e0, hnc, hcap, hlen, hrow, hok⟩ := rb_list (f := Ex.cells) (ok := fun x => x.ok0 W.heap) Try.underlying27 (c := 2) (by kernel_rfl) Ex.len (fun r hr _ => ex_of hr) f0
  obtain ⟨p, e1, k1⟩ := rb_u8 f1
  cases e0; cases e1
  exact ⟨A, n, c, xs, p, rfl, hrow, hlen, hok, k1⟩
theorem arr_of {cs : Array Value} {l : List Value} (h : cs.toList = l) : cs = l.toArray := by rw [← h]
theorem lit_isB {zs : List Int} (w : ∀ z ∈ zs, (Lit.int .u8 z).wf = true) : ∀ z ∈ zs, isB z := fun z hz => by have := bounds_u8 (w z hz); unfold isB; omega
end Go.Proofs.Ythfjpnabalkjkaa
