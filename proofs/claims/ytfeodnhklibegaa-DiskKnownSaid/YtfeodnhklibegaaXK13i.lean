/- What is proved: contracts of functions that the law calls, and of the law itself, over any heap. Conditions stand in each theorem. -/
import Derived.Test.YtfeodnhklibegaaXK13h
set_option linter.unusedSimpArgs false
set_option linter.unusedVariables false
namespace Go.Proofs.Ytfeodnhklibegaa
open Go.Oct Go.Oct.L01
/-- all writes are done -/
def app (D : List Int) (U : List (Int × List Int)) : List Int := U.foldl (fun b w => lay b w.1 w.2) D
theorem app_snoc (D : List Int) (U : List (Int × List Int)) (w : Int × List Int) : app D (U ++ [w]) = lay (app D U) w.1 w.2 := by simp [app, List.foldl_append]
theorem app_plus (D : List Int) (U : List (Int × List Int)) (a : Int) (bs : List Int) : app D (plus U a bs) = lay (app D U) a bs := by
  unfold plus
  split
  · rename_i h; subst h; rw [lay_nil]
  · exact app_snoc D U (a, bs)
theorem plus_len (U : List (Int × List Int)) (a : Int) (bs : List Int) : (plus U a bs).length ≤ U.length + 1 := by
  unfold plus; split <;> simp
theorem lay_all {X bs : List Int} (h : bs.length = X.length) : lay X 0 bs = bs := by simp [lay, h]
theorem lay_get {X : List Int} {a : Int} {bs : List Int} (ha : 0 ≤ a) (hl : a + bs.length ≤ X.length) (k : Nat) : (lay X a bs)[k]? = if a ≤ k ∧ (k : Int) < a + bs.length then bs[k - a.toNat]? else X[k]? := by
  obtain ⟨o, rfl⟩ := Int.eq_ofNat_of_zero_le ha
  simp only [lay, Int.toNat_natCast]
  have ht : (List.take o X).length = o := by rw [List.length_take]; omega
  split
  · rename_i h
    rw [List.append_assoc, List.getElem?_append_right (by omega), ht, List.getElem?_append_left (by omega)]
  · rename_i h
    by_cases hk : k < o
    · rw [List.append_assoc, List.getElem?_append_left (by omega), List.getElem?_take, if_pos hk]
    · rw [List.getElem?_append_right (by rw [List.length_append, ht]; omega), List.length_append, ht, List.getElem?_drop]
      congr 1
      omega
theorem cr_nil (U : List (Int × List Int)) (D : List Int) : ∀ j, cr [] U D j = D
  | 0 => rfl
  | j + 1 => by
    unfold cr
    split
    · rw [cr_nil U D j]; simp [amt, lay]
    · exact cr_nil U D j
theorem cr_kept {fs : List (Int × Int)} {U : List (Int × List Int)} {D : List Int} : ∀ j, j ≤ U.length → (∀ i, i < j → ∃ x, fs[i]? = some ((1 : Int), x)) → cr fs U D j = app D (U.take j)
  | 0, _, _ => rfl
  | j + 1, hj, hf => by
    have hu : U[j]? = some U[j] := List.getElem?_eq_getElem (by omega)
    unfold cr
    rw [hu]
    dsimp only
    obtain ⟨x, hx⟩ := hf j (by omega)
    rw [cr_kept j (by omega) (fun i hi => hf i (by omega)), List.take_succ_eq_append_getElem (by omega), app_snoc]
    unfold amt
    rw [hx]
    simp
theorem cr_torn {fs : List (Int × Int)} {U : List (Int × List Int)} {D : List Int} (hin : ∀ w ∈ U, 0 ≤ w.1 ∧ w.1 + w.2.length ≤ D.length) (hD : ∀ x ∈ D, isB x) (hU : ∀ w ∈ U, ∀ x ∈ w.2, isB x) (k : Nat) (hk : k < D.length) :
    ∀ j, j ≤ U.length → (cr fs U D j)[k]? = D[k]? ∨ ∃ q w, q < j ∧ U[q]? = some w ∧ w.1 ≤ k ∧ (k : Int) < w.1 + w.2.length ∧ w.2[k - w.1.toNat]? = (cr fs U D j)[k]?
  | 0, _ => .inl rfl
  | j + 1, hj => by
    have hu : U[j]? = some U[j] := List.getElem?_eq_getElem (by omega)
    have hm := List.getElem_mem (show j < U.length by omega)
    generalize U[j] = w at *
    have hi := hin w hm
    have ih := cr_torn hin hD hU k hk j (by omega) (fs := fs)
    have hl := (cr_facts hin hD hU (fs := fs) j).1
    have ha := amt_range fs j w.2.length
    have e : cr fs U D (j + 1) = lay (cr fs U D j) w.1 (w.2.take (amt fs j w.2.length).toNat) := by
      show (match U[j]? with | some w => lay (cr fs U D j) w.1 (w.2.take (amt fs j w.2.length).toNat) | none => cr fs U D j) = _
      rw [hu]
    have hg := lay_get (X := cr fs U D j) (bs := w.2.take (amt fs j w.2.length).toNat) hi.1 (by rw [List.length_take]; omega) k
    rw [← e] at hg
    split at hg
    · rename_i hin2
      rw [List.length_take] at hin2
      refine .inr ⟨j, w, by omega, hu, hin2.1, by omega, ?_⟩
      rw [hg, List.getElem?_take, if_pos (by omega)]
    · rw [hg]
      rcases ih with h | ⟨q, w', hq, h1, h2, h3, h4⟩
      · exact .inl h
      · exact .inr ⟨q, w', by omega, h1, h2, h3, h4⟩
end Go.Proofs.Ytfeodnhklibegaa
