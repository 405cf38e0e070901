/- A step of the road to this law: a generator of conditions over the model of the code, or a lemma on rows in the heap. No conditions. -/
import Derived.Test.YtkhlollengamdaaXOctP
set_option linter.unusedSimpArgs false
set_option linter.unusedVariables false
namespace Go.Oct
/-- the parts lie one behind the other -/
def offsOk (place : Nat → Option (Nat × Nat)) : List Value → Nat → Nat → Prop
  | [], _, _ => True
  | v :: r, i, off => place i = some (off, v.cells.size) ∧ offsOk place r (i + 1) (off + v.cells.size)
theorem fill_seq {place : Nat → Option (Nat × Nat)} : ∀ (vs : List Value) (i : Nat) (z : Array Value) (pre rest : List Value), z.toList = pre ++ rest → offsOk place vs i pre.length → rest.length = (vs.flatMap fun v => v.cells.toList).length →
    Instr.fill place z ((vs.zipIdx i).map fun p => (p.2, p.1)) = some (pre ++ vs.flatMap fun v => v.cells.toList).toArray
  | [], i, z, pre, rest, hz, _, hr => by
    have : rest = [] := List.length_eq_zero_iff.1 (by simpa using hr)
    subst this
    have e : z = pre.toArray := Array.ext' (by simpa using hz)
    simp [fill_nil, e]
  | v :: vs, i, z, pre, rest, hz, ho, hr => by
    obtain ⟨h1, h2⟩ := ho
    rw [List.flatMap_cons, List.length_append] at hr
    have hvl : v.cells.toList.length = v.cells.size := Array.length_toList
    have hs : z.size = pre.length + rest.length := by
      have := congrArg List.length hz
      rw [List.length_append] at this
      simpa using this
    rw [List.zipIdx_cons, List.map_cons, fill_cons h1 rfl (by omega)]
    rw [over_mid (mid := rest.take v.cells.size) (post := rest.drop v.cells.size) (by rw [List.take_append_drop]; exact hz) (by rw [List.length_take, Nat.min_eq_left (by omega)]; simp)]
    rw [fill_seq vs (i + 1) _ (pre ++ v.cells.toList) (rest.drop v.cells.size) (by simp) (by simpa using h2) (by rw [List.length_drop]; omega)]
    simp
theorem fill_all {place : Nat → Option (Nat × Nat)} (vs : List Value) {z : Array Value} {cs : List Value} (ho : offsOk place vs 0 0) (hcs : (vs.flatMap fun v => v.cells.toList) = cs) (hz : z.size = cs.length) {k : Array Value → Prop} (hk : k cs.toArray) :
    fillK place z ((vs.zipIdx).map fun p => (p.2, p.1)) k := by
  subst hcs
  refine ⟨_, ?_, hk⟩
  have := fill_seq (place := place) vs 0 z [] z.toList (by simp) ho (by simpa using hz)
  rwa [List.nil_append] at this
end Go.Oct
