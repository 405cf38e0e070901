/- What is proved: the plain law, with no program in sight. Conditions stand in each theorem. -/
import Derived.Test.YteagahchpblfkaaXL01
set_option linter.unusedSimpArgs false
set_option linter.unusedVariables false
namespace Go.Oct.L01
open Go.Oct
/-- what a number in a size gives -/
def encOne (p : Int × Int) : List Int := if fitsB p.1 p.2 = true then bytesOf p.1 p.2.toNat else []
def encs (l : List (Int × Int)) : List Int := l.flatMap encOne
theorem encs_append (l m : List (Int × Int)) : encs (l ++ m) = encs l ++ encs m := by simp [encs]
theorem encs_one (p : Int × Int) : encs [p] = encOne p := by simp [encs]
theorem encOne_length (p : Int × Int) : (encOne p).length ≤ 8 := by
  unfold encOne
  split
  · rename_i h
    rw [bytesOf_length]
    unfold fitsB at h; simp at h; omega
  · simp
theorem encs_length : ∀ l : List (Int × Int), (encs l).length ≤ 8 * l.length
  | [] => by simp [encs]
  | p :: r => by
    have h1 := encOne_length p
    have h2 := encs_length r
    simp only [encs, List.flatMap_cons, List.length_append, List.length_cons] at *
    omega
theorem encs_isB (l : List (Int × Int)) : ∀ x ∈ encs l, isB x := by
  intro x hx
  obtain ⟨p, _, hp⟩ := List.mem_flatMap.1 hx
  unfold encOne at hp
  split at hp
  · exact bytesOf_isB _ _ x hp
  · cases hp
theorem encs_take {l : List (Int × Int)} {j : Nat} {p : Int × Int} (h : l[j]? = some p) : encs (l.take (j + 1)) = encs (l.take j) ++ encOne p := by
  obtain ⟨hj, e⟩ := List.getElem?_eq_some_iff.1 h
  rw [List.take_succ_eq_append_getElem hj, encs_append, encs_one, e]
/-- what was put is got -/
theorem get_encs {l : List (Int × Int)} {j : Nat} {v n : Int} (h : l[j]? = some (v, n)) (h0 : 0 ≤ v) (hf : fitsB v n = true) : getR (encs l) (encs (l.take j)).length n = (v, 0) ∧ ((encs (l.take j)).length : Int) + n = (encs (l.take (j + 1))).length := by
  obtain ⟨hj, e⟩ := List.getElem?_eq_some_iff.1 h
  have hr : 1 ≤ n ∧ n ≤ 8 ∧ v < 256 ^ n.toNat := by unfold fitsB at hf; simp at hf; exact hf
  obtain ⟨s, rfl⟩ := Int.eq_ofNat_of_zero_le (show 0 ≤ n by omega)
  simp only [Int.toNat_natCast] at hr
  have e1 : encOne (v, (s : Int)) = bytesOf v s := by unfold encOne; rw [if_pos hf]; rfl
  have e2 : encs (l.take (j + 1)) = encs (l.take j) ++ bytesOf v s := by rw [encs_take h, e1]
  have e3 : encs l = encs (l.take j) ++ (bytesOf v s ++ encs (l.drop (j + 1))) := by
    conv => lhs; rw [← List.take_append_drop (j + 1) l]
    rw [encs_append, e2, List.append_assoc]
  have hl : (bytesOf v s).length = s := bytesOf_length v s
  refine ⟨?_, by rw [e2, List.length_append, hl]; omega⟩
  unfold getR
  rw [if_neg (by omega), if_neg (by rw [e3]; simp only [List.length_append, hl]; omega), e3]
  simp only [Int.toNat_natCast, List.drop_left]
  rw [List.take_left' hl, val_bytesOf s v h0 hr.2.2]
end Go.Oct.L01
