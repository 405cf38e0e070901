/- A step of the road to this law: a generator of conditions over the model of the code, or a lemma on rows in the heap. No conditions. -/
import Derived.Test.YtkhlollengamdaaXOctL
import Derived.Laws.Strings
set_option linter.unusedSimpArgs false
set_option linter.unusedVariables false
namespace Go.Oct
def isB (x : Int) : Prop := 0 ≤ x ∧ x < 256
instance (x : Int) : Decidable (isB x) := inferInstanceAs (Decidable (0 ≤ x ∧ x < 256))
/-- string(a) == string(b), of rows of bytes. -/
theorem str_beq {xs ys : List Int} (hx : ∀ x ∈ xs, isB x) (hy : ∀ x ∈ ys, isB x) : (ByteArray.toList (strOfNums xs) == ByteArray.toList (strOfNums ys)) = decide (xs = ys) := by
  have e : ∀ zs : List Int, ByteArray.toList (strOfNums zs) = zs.map fun n => UInt8.ofNat n.toNat := fun zs => by
    rw [ByteArray.toList_eq]; rfl
  rw [e, e]
  have inj : ∀ a b : Int, isB a → isB b → UInt8.ofNat a.toNat = UInt8.ofNat b.toNat → a = b := by
    intro a b ha hb h
    have h1 := congrArg UInt8.toNat h
    unfold isB at ha hb
    simp only [UInt8.toNat_ofNat'] at h1
    omega
  by_cases h : xs = ys
  · subst h; simp
  · rw [decide_eq_false h]
    rw [beq_eq_false_iff_ne]
    intro hm
    apply h
    clear e h
    induction xs generalizing ys with
    | nil => cases ys with
      | nil => rfl
      | cons y r => simp at hm
    | cons x r ih => cases ys with
      | nil => simp at hm
      | cons y s =>
        simp only [List.map_cons, List.cons.injEq] at hm
        rw [inj x y (hx x (by simp)) (hy y (by simp)) hm.1, ih (fun z hz => hx z (by simp [hz])) (fun z hz => hy z (by simp [hz])) hm.2]
theorem strK_of {h : H} {A : Option Addr} {n : Nat} {xs : List Int} {k : ByteArray → Prop} (r : RowH h A n (xs.map (Value.int .u8)).toArray) (hk : k (strOfNums xs)) : strK A n h k := ⟨xs, r, hk⟩
end Go.Oct
