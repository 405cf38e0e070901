/- What is proved: contracts of functions that the law calls, and of the law itself, over any heap. Conditions stand in each theorem. -/
import Derived.Test.YtkhlollengamdaaXK09i
import Derived.Test.YtkhlollengamdaaXOctR
set_option linter.unusedSimpArgs false
set_option linter.unusedVariables false
namespace Go.Proofs.Ytkhlollengamdaa
open Go.Oct Go.Oct.L09 Go.ChangeShapes Go.WideShapes Go.ChangeAt Go.RowKit
theorem rb_u8 {H : Type} {enc : TypeId × Value → H} {W : World} {cs : List Value} (hr : Rb enc Try.prog W 5 cs) : ∃ x, cs = [bf x] ∧ isB x := by
  obtain ⟨x, e, w⟩ := rb_int Try.underlying5 hr
  exact ⟨x, e, by have := bounds_u8 w; unfold isB; omega⟩
theorem rb_i64 {H : Type} {enc : TypeId × Value → H} {W : World} {cs : List Value} (hr : Rb enc Try.prog W 3 cs) : ∃ x, cs = [.int .i64 x] ∧ isL x := by
  obtain ⟨x, e, w⟩ := rb_int Try.underlying3 hr
  exact ⟨x, e, by have := bounds_i64 w; unfold isL; omega⟩
theorem rb_u16 {H : Type} {enc : TypeId × Value → H} {W : World} {cs : List Value} (hr : Rb enc Try.prog W 26 cs) : ∃ x, cs = [.int .u16 x] ∧ isW x := by
  obtain ⟨x, e, w⟩ := rb_int Try.underlying26 hr
  exact ⟨x, e, by have := bounds_u16 w; unfold isW; omega⟩
theorem bytes_of {H : Type} {enc : TypeId × Value → H} {W : World} : ∀ (n : Nat) (cs : List Value), cs.length = n → (∀ i, i < n → Rb enc Try.prog W 5 ((cs.drop i).take 1)) → ∃ xs : List Int, cs = xs.map bf ∧ xs.length = n ∧ ∀ x ∈ xs, isB x
  | 0, cs, hl, _ => ⟨[], by rw [List.length_eq_zero_iff.1 hl]; rfl, rfl, by simp⟩
  | n + 1, [], hl, _ => by cases hl
  | n + 1, c :: r, hl, h => by
    obtain ⟨xs, e, h1, h2⟩ := bytes_of n r (by simpa using hl) (fun i hi => by have := h (i + 1) (by omega); simpa using this)
    obtain ⟨x, e2, hx⟩ := rb_u8 (by have := h 0 (by omega); simpa using this)
    simp only [List.cons.injEq, and_true] at e2
    subst e2
    subst e
    refine ⟨x :: xs, rfl, by simp [h1], fun y hy => ?_⟩
    rcases List.mem_cons.1 hy with hy | hy
    · rw [hy]; exact hx
    · exact h2 y hy
theorem b16_of {H : Type} {enc : TypeId × Value → H} {W : World} {cs : List Value} (hr : Rb enc Try.prog W 23 cs) : ∃ xs : List Int, cs = xs.map bf ∧ xs.length = 16 ∧ ∀ x ∈ xs, isB x := by
  obtain ⟨hl, he⟩ := rb_array Try.underlying23 hr
  have c23 : Try.prog.cellsOf 23 = 16 := by kernel_rfl
  have c5 : Try.prog.cellsOf 5 = 1 := by kernel_rfl
  rw [c23] at hl
  refine bytes_of (enc := enc) (W := W) 16 cs hl fun i hi => ?_
  have := he i hi
  rwa [c5, Nat.mul_one] at this
theorem drop_cut (l : List Value) (a b c : Nat) (h : a + b = c) : l.drop a = (l.drop a).take b ++ l.drop c := by
  subst h
  rw [← List.drop_drop, List.take_append_drop]
theorem drop_all (l : List Value) (a b : Nat) (h : l.length = a + b) : (l.drop a).take b = l.drop a := List.take_of_length_le (by rw [List.length_drop]; omega)
theorem k3 : Try.prog.cellsOf 3 = 1 := by kernel_rfl
theorem k4 : Try.prog.cellsOf 4 = 1 := by kernel_rfl
theorem k5 : Try.prog.cellsOf 5 = 1 := by kernel_rfl
theorem k26 : Try.prog.cellsOf 26 = 1 := by kernel_rfl
theorem k23 : Try.prog.cellsOf 23 = 16 := by kernel_rfl
theorem k25 : Try.prog.cellsOf 25 = 17 := by kernel_rfl
theorem k39 : Try.prog.cellsOf 39 = 18 := by kernel_rfl
theorem k41 : Try.prog.cellsOf 41 = 2 := by kernel_rfl
theorem ad_of {H : Type} {enc : TypeId × Value → H} {W : World} {cs : List Value} (hr : Rb enc Try.prog W 25 cs) : ∃ a : Ad, cs = a.cells ∧ a.ok := by
  obtain ⟨hl, hf⟩ := rb_struct Try.underlying25 hr
  rw [k25] at hl
  have f0 : Rb enc Try.prog W 4 ((cs.drop 0).take 1) := rb_field Try.underlying25 hr 0 rfl rfl rfl k4
  have f1 : Rb enc Try.prog W 23 ((cs.drop 1).take 16) := rb_field Try.underlying25 hr 1 rfl rfl rfl k23
  rw [drop_all _ _ _ hl] at f1
  obtain ⟨b, e0⟩ := rb_bool Try.underlying4 f0
  obtain ⟨xs, e1, l1, b1⟩ := b16_of f1
  refine ⟨⟨b, xs⟩, ?_, l1, b1⟩
  have h0 := drop_cut cs 0 1 1 rfl
  rw [e0, e1, List.drop_zero] at h0
  exact h0
theorem pf_of {H : Type} {enc : TypeId × Value → H} {W : World} {cs : List Value} (hr : Rb enc Try.prog W 39 cs) : ∃ a : Pf, cs = a.cells ∧ a.ok := by
  obtain ⟨hl, hf⟩ := rb_struct Try.underlying39 hr
  rw [k39] at hl
  have f0 : Rb enc Try.prog W 25 ((cs.drop 0).take 17) := rb_field Try.underlying39 hr 0 rfl rfl rfl k25
  have f1 : Rb enc Try.prog W 3 ((cs.drop 17).take 1) := rb_field Try.underlying39 hr 1 rfl rfl rfl k3
  rw [drop_all _ _ _ hl] at f1
  obtain ⟨a, e0, oa⟩ := ad_of f0
  obtain ⟨n, e1, hn⟩ := rb_i64 f1
  refine ⟨⟨a, n⟩, ?_, oa, hn⟩
  have h0 := drop_cut cs 0 17 17 rfl
  rw [e0, e1, List.drop_zero] at h0
  exact h0
theorem ports_of {H : Type} {enc : TypeId × Value → H} {W : World} {cs : List Value} (hr : Rb enc Try.prog W 41 cs) : ∃ a b : Int, cs = [.int .u16 a, .int .u16 b] ∧ isW a ∧ isW b := by
  obtain ⟨hl, hf⟩ := rb_struct Try.underlying41 hr
  rw [k41] at hl
  have f0 : Rb enc Try.prog W 26 ((cs.drop 0).take 1) := rb_field Try.underlying41 hr 0 rfl rfl rfl k26
  have f1 : Rb enc Try.prog W 26 ((cs.drop 1).take 1) := rb_field Try.underlying41 hr 1 rfl rfl rfl k26
  rw [drop_all _ _ _ hl] at f1
  obtain ⟨a, e0, ha⟩ := rb_u16 f0
  obtain ⟨b, e1, hb⟩ := rb_u16 f1
  refine ⟨a, b, ?_, ha, hb⟩
  have h0 := drop_cut cs 0 1 1 rfl
  rw [e0, e1, List.drop_zero] at h0
  exact h0
theorem ky_of {H : Type} {enc : TypeId × Value → H} {W : World} {cs : List Value} (hr : Rb enc Try.prog W 28 cs) : ∃ y : Ky, cs = y.cells ∧ y.ok := by
  obtain ⟨hl, hf⟩ := rb_struct Try.underlying28 hr
  rw [show Try.prog.cellsOf 28 = 37 by kernel_rfl] at hl
  have f0 : Rb enc Try.prog W 25 ((cs.drop 0).take 17) := rb_field Try.underlying28 hr 0 rfl rfl rfl k25
  have f1 : Rb enc Try.prog W 25 ((cs.drop 17).take 17) := rb_field Try.underlying28 hr 1 rfl rfl rfl k25
  have f2 : Rb enc Try.prog W 5 ((cs.drop 34).take 1) := rb_field Try.underlying28 hr 2 rfl rfl rfl k5
  have f3 : Rb enc Try.prog W 26 ((cs.drop 35).take 1) := rb_field Try.underlying28 hr 3 rfl rfl rfl k26
  have f4 : Rb enc Try.prog W 26 ((cs.drop 36).take 1) := rb_field Try.underlying28 hr 4 rfl rfl rfl k26
  rw [drop_all _ _ _ hl] at f4
  obtain ⟨a, e0, oa⟩ := ad_of f0
  obtain ⟨b, e1, ob⟩ := ad_of f1
  obtain ⟨p, e2, hp⟩ := rb_u8 f2
  obtain ⟨s, e3, hs⟩ := rb_u16 f3
  obtain ⟨d, e4, hd⟩ := rb_u16 f4
  refine ⟨⟨a, b, p, s, d⟩, ?_, oa, ob, hp, hs, hd⟩
  have h0 := drop_cut cs 0 17 17 rfl
  rw [drop_cut cs 17 17 34 rfl, drop_cut cs 34 1 35 rfl, drop_cut cs 35 1 36 rfl, e0, e1, e2, e3, e4, List.drop_zero] at h0
  exact h0
theorem ru_of {H : Type} {enc : TypeId × Value → H} {W : World} {cs : List Value} (hr : Rb enc Try.prog W 43 cs) : ∃ r : RS, cs = r.cells := by
  obtain ⟨hl, hf⟩ := rb_struct Try.underlying43 hr
  rw [show Try.prog.cellsOf 43 = 44 by kernel_rfl] at hl
  have f0 : Rb enc Try.prog W 3 ((cs.drop 0).take 1) := rb_field Try.underlying43 hr 0 rfl rfl rfl k3
  have f1 : Rb enc Try.prog W 3 ((cs.drop 1).take 1) := rb_field Try.underlying43 hr 1 rfl rfl rfl k3
  have f2 : Rb enc Try.prog W 39 ((cs.drop 2).take 18) := rb_field Try.underlying43 hr 2 rfl rfl rfl k39
  have f3 : Rb enc Try.prog W 39 ((cs.drop 20).take 18) := rb_field Try.underlying43 hr 3 rfl rfl rfl k39
  have f4 : Rb enc Try.prog W 41 ((cs.drop 38).take 2) := rb_field Try.underlying43 hr 4 rfl rfl rfl k41
  have f5 : Rb enc Try.prog W 41 ((cs.drop 40).take 2) := rb_field Try.underlying43 hr 5 rfl rfl rfl k41
  have f6 : Rb enc Try.prog W 4 ((cs.drop 42).take 1) := rb_field Try.underlying43 hr 6 rfl rfl rfl k4
  have f7 : Rb enc Try.prog W 3 ((cs.drop 43).take 1) := rb_field Try.underlying43 hr 7 rfl rfl rfl k3
  rw [drop_all _ _ _ hl] at f7
  obtain ⟨v, e0, o0⟩ := rb_i64 f0
  obtain ⟨p, e1, o1⟩ := rb_i64 f1
  obtain ⟨s, e2, o2⟩ := pf_of f2
  obtain ⟨d, e3, o3⟩ := pf_of f3
  obtain ⟨sl, sh, e4, o4, o4'⟩ := ports_of f4
  obtain ⟨dl, dh, e5, o5, o5'⟩ := ports_of f5
  obtain ⟨dn, e6⟩ := rb_bool Try.underlying4 f6
  obtain ⟨c, e7, o7⟩ := rb_i64 f7
  refine ⟨⟨⟨v, p, s, d, sl, sh, dl, dh, dn, c⟩, o0, o1, o2, o3, o4, o4', o5, o5', o7⟩, ?_⟩
  have h0 := drop_cut cs 0 1 1 rfl
  rw [drop_cut cs 1 1 2 rfl, drop_cut cs 2 18 20 rfl, drop_cut cs 20 18 38 rfl, drop_cut cs 38 2 40 rfl, drop_cut cs 40 2 42 rfl, drop_cut cs 42 1 43 rfl, e0, e1, e2, e3, e4, e5, e6, e7, List.drop_zero] at h0
  exact h0
theorem arr_of {cs : Array Value} {l : List Value} (h : cs.toList = l) : cs = l.toArray := by rw [← h]
end Go.Proofs.Ytkhlollengamdaa
