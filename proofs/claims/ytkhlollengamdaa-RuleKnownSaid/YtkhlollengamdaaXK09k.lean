/- What is proved: contracts of functions that the law calls, and of the law itself, over any heap. Conditions stand in each theorem. -/
import Derived.Test.YtkhlollengamdaaXK09i
import Derived.Test.YtkhlollengamdaaXL09b
import Derived.Test.YtkhlollengamdaaXOctP
set_option linter.unusedSimpArgs false
set_option linter.unusedVariables false
namespace Go.Proofs.Ytkhlollengamdaa
open Go.Oct Go.Oct.L09
/-! ### what New and Class tell -/
theorem newE_iff {ot : Ru} {xs : List RS} : newE ot xs = 0 ↔ xs.length ≤ 64 ∧ ot.right = true ∧ ∀ r ∈ xs, r.1.right = true := by
  unfold newE
  split
  · constructor
    · intro h; cases h
    · rintro ⟨h, _⟩; omega
  · split
    · rename_i h2
      constructor
      · intro h; cases h
      · rintro ⟨_, h3, h4⟩
        rw [h3, Bool.not_true, Bool.false_or, List.any_eq_true] at h2
        obtain ⟨r, hr, hh⟩ := h2
        rw [h4 r hr] at hh
        cases hh
    · rename_i h1 h2
      refine ⟨fun _ => ⟨by omega, ?_, fun r hr => ?_⟩, fun _ => rfl⟩
      · cases h : ot.right with
        | true => rfl
        | false => exact absurd (by rw [h]; rfl) h2
      · cases h : r.1.right with
        | true => rfl
        | false => exact absurd (by rw [Bool.or_eq_true]; exact .inr (List.any_eq_true.2 ⟨r, hr, by rw [h]; rfl⟩)) h2
theorem cls_of_right {r : Ru} (h : r.right = true) : 0 ≤ r.cls ∧ r.cls < 8 := by
  rw [right_eq] at h
  unfold clsok at h
  simp only [Bool.and_eq_true, decide_eq_true_eq] at h
  exact ⟨h.2.2.2.1, h.2.2.2.2.1⟩
theorem tells_range {ot : Ru} {xs : List RS} (y : Ky) (h : newE ot xs = 0) : ((tellsR xs ot y).2 = 90 ∧ (tellsR xs ot y).1 = 0) ∨ ((tellsR xs ot y).2 = 0 ∧ 0 ≤ (tellsR xs ot y).1 ∧ (tellsR xs ot y).1 < 8) := by
  obtain ⟨_, h1, h2⟩ := newE_iff.1 h
  unfold tellsR
  have hr : (((xs.find? fun r => fits r.1 y).map Subtype.val).getD ot).right = true := by
    cases hf : xs.find? fun r => fits r.1 y with
    | none => exact h1
    | some x => exact h2 x (List.mem_of_find?_eq_some hf)
  generalize ((xs.find? fun r => fits r.1 y).map Subtype.val).getD ot = r at hr ⊢
  have := cls_of_right hr
  unfold told
  split
  · exact .inl ⟨rfl, rfl⟩
  · exact .inr ⟨rfl, this⟩
/-- the rules but the dead ones, of the first i -/
def live (xs : List RS) : Nat → List RS
  | 0 => []
  | i + 1 => live xs i ++ (if deadB xs i then [] else (xs[i]?).toList)
theorem live_mem {xs : List RS} {x : RS} : ∀ i, x ∈ live xs i → x ∈ xs
  | 0, h => by cases h
  | i + 1, h => by
    rw [live, List.mem_append] at h
    rcases h with h | h
    · exact live_mem i h
    · split at h
      · cases h
      · rw [Option.mem_toList] at h
        exact List.mem_of_getElem? h
theorem live_len {xs : List RS} : ∀ i, (live xs i).length ≤ i
  | 0 => Nat.le_refl _
  | i + 1 => by
    rw [live, List.length_append]
    have := live_len (xs := xs) i
    have : (if deadB xs i then [] else (xs[i]?).toList).length ≤ 1 := by
      split
      · simp
      · cases xs[i]? <;> simp
    omega
theorem live_find {xs : List RS} (hr : ∀ r ∈ xs, r.1.right = true) (y : Ky) : ∀ i, i ≤ xs.length → (live xs i).find? (fun r => fits r.1 y) = (xs.take i).find? (fun r => fits r.1 y)
  | 0, _ => by simp [live]
  | i + 1, hi => by
    have ih := live_find hr y i (by omega)
    obtain ⟨s, hs⟩ : ∃ s, xs[i]? = some s := ⟨_, List.getElem?_eq_getElem (by omega)⟩
    rw [live, List.find?_append, ih, List.take_add_one, List.find?_append, hs]
    cases hd : deadB xs i with
    | false => simp
    | true =>
      simp only [if_true, Option.toList_some, List.find?_nil, Option.or_none]
      unfold deadB at hd
      rw [hs] at hd
      obtain ⟨r, hrm, hc⟩ := List.any_eq_true.1 hd
      cases hf : (xs.take i).find? (fun r => fits r.1 y) with
      | some q => simp
      | none =>
        have hnr := List.find?_eq_none.1 hf r hrm
        have hsf : fits s.1 y = false := by
          cases h : fits s.1 y with
          | false => rfl
          | true => exact absurd (covers_fits r.2 (hr r (List.mem_of_mem_take hrm)) hc h) hnr
        simp [hsf]
theorem tells_live {xs : List RS} {ot : Ru} (hr : ∀ r ∈ xs, r.1.right = true) (y : Ky) : tellsR (live xs xs.length) ot y = tellsR xs ot y := by
  unfold tellsR
  rw [live_find hr y _ (Nat.le_refl _), List.take_length]
theorem tells_more {xs : List RS} {ot ot' : Ru} (o : ot.ok) (y : Ky) (hf : fits ot y = true) (q : RS) : tellsR (xs ++ [⟨ot, o⟩, q]) ot' y = tellsR xs ot y := by
  unfold tellsR
  rw [List.find?_append]
  cases hx : xs.find? (fun r => fits r.1 y) with
  | some x => rfl
  | none => simp [hf]
theorem dead_any {xs : List RS} {i : Nat} (hi : i < xs.length) : (deadR xs).any (fun d => decide ((d : Int) = i)) = deadB xs i := by
  unfold deadR
  cases hd : deadB xs i with
  | true =>
    rw [List.any_eq_true]
    exact ⟨i, List.mem_filter.2 ⟨List.mem_range.2 hi, hd⟩, by simp⟩
  | false =>
    rw [List.any_eq_false]
    intro d hm
    obtain ⟨_, h2⟩ := List.mem_filter.1 hm
    simp only [decide_eq_true_eq]
    intro e
    have : d = i := by omega
    rw [this, hd] at h2
    cases h2
def swapL (xs : List RS) (i : Nat) (a b : RS) : List RS := (xs.set i b).set (i + 1) a
theorem swap_form {xs : List RS} {i : Nat} {a b : RS} (ha : xs[i]? = some a) (hb : xs[i + 1]? = some b) : ∃ pre post, xs = pre ++ a :: b :: post ∧ swapL xs i a b = pre ++ b :: a :: post := by
  have h1 := (List.getElem?_eq_some_iff.1 hb).1
  have e1 : xs = xs.take i ++ a :: b :: xs.drop (i + 2) := by
    have e2 : xs.drop i = a :: xs.drop (i + 1) := by
      rw [List.drop_eq_getElem_cons (by omega)]
      congr 1
      exact (List.getElem?_eq_some_iff.1 ha).2
    have e3 : xs.drop (i + 1) = b :: xs.drop (i + 2) := by
      rw [List.drop_eq_getElem_cons (by omega)]
      congr 1
      exact (List.getElem?_eq_some_iff.1 hb).2
    rw [← e3, ← e2, List.take_append_drop]
  refine ⟨_, _, e1, ?_⟩
  have hl : (xs.take i).length = i := by rw [List.length_take]; omega
  generalize xs.take i = pre at *
  generalize xs.drop (i + 2) = post at *
  subst e1
  unfold swapL
  subst hl
  rw [List.set_append_right _ _ (Nat.le_refl _), Nat.sub_self, List.set_append_right _ _ (by omega)]
  simp
theorem tells_swap {xs : List RS} {ot : Ru} {i : Nat} {a b : RS} (ha : xs[i]? = some a) (hb : xs[i + 1]? = some b) (y : Ky) (hn : (fits a.1 y && fits b.1 y) = false) : tellsR (swapL xs i a b) ot y = tellsR xs ot y := by
  obtain ⟨pre, post, h1, h2⟩ := swap_form ha hb
  rw [h2, h1]
  unfold tellsR
  rw [List.find?_append, List.find?_append]
  congr 3
  simp only [List.find?_cons]
  cases h3 : fits a.1 y with
  | false => rfl
  | true =>
    rw [h3, Bool.true_and] at hn
    rw [hn]
theorem newE_swap {xs : List RS} {ot : Ru} {i : Nat} {a b : RS} (ha : xs[i]? = some a) (hb : xs[i + 1]? = some b) (h : newE ot xs = 0) : newE ot (swapL xs i a b) = 0 := by
  obtain ⟨pre, post, h1, h2⟩ := swap_form ha hb
  rw [newE_iff] at h ⊢
  rw [h2]
  rw [h1] at h
  refine ⟨by simpa using h.1, h.2.1, fun r hr => h.2.2 r ?_⟩
  simp only [List.mem_append, List.mem_cons] at hr ⊢
  rcases hr with h | h | h | h
  · exact .inl h
  · exact .inr (.inr (.inl h))
  · exact .inr (.inl h)
  · exact .inr (.inr (.inr h))
theorem others_right (b : Bool) : (othersOf b 0).right = true := by cases b <;> decide +kernel
theorem any_right : (anyR false 0).right = true := by decide +kernel
theorem others_fits {b : Bool} {c : Int} (h : (othersOf b c).right = true) (y : Ky) : fits (othersOf b c) y = true := by
  unfold fits
  rw [h, Bool.true_and]
  exact any_fits_all _ _ _
end Go.Proofs.Ytkhlollengamdaa
