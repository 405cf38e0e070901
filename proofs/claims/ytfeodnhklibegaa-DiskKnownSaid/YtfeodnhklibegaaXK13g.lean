/- What is proved: contracts of functions that the law calls, and of the law itself, over any heap. Conditions stand in each theorem. -/
import Derived.Test.YtfeodnhklibegaaXK13f
set_option linter.unusedSimpArgs false
set_option linter.unusedVariables false
namespace Go.Proofs.Ytfeodnhklibegaa
open Go.Oct Go.Oct.L01

/-- how much of a write a fate does -/
def amt (fs : List (Int × Int)) (j : Nat) (len : Nat) : Int :=
  match fs[j]? with
  | some f => if f.1 = 1 then len else if f.1 = 2 then maxI 0 (minI f.2 len) else 0
  | none => 0
theorem amt_range (fs : List (Int × Int)) (j len : Nat) : 0 ≤ amt fs j len ∧ amt fs j len ≤ len := by
  unfold amt
  split
  · split
    · omega
    · split
      · unfold maxI minI; split <;> split <;> omega
      · omega
  · omega
/-- what is durable behind j writes of a crash -/
def cr (fs : List (Int × Int)) (U : List (Int × List Int)) (D : List Int) : Nat → List Int
  | 0 => D
  | j + 1 => match U[j]? with
    | some w => lay (cr fs U D j) w.1 (w.2.take (amt fs j w.2.length).toNat)
    | none => cr fs U D j
theorem cr_facts {fs : List (Int × Int)} {U : List (Int × List Int)} {D : List Int} (hin : ∀ w ∈ U, 0 ≤ w.1 ∧ w.1 + w.2.length ≤ D.length) (hD : ∀ x ∈ D, isB x) (hU : ∀ w ∈ U, ∀ x ∈ w.2, isB x) : ∀ j, (cr fs U D j).length = D.length ∧ ∀ x ∈ cr fs U D j, isB x
  | 0 => ⟨rfl, hD⟩
  | j + 1 => by
    obtain ⟨h1, h2⟩ := cr_facts hin hD hU (fs := fs) j
    unfold cr
    split
    · rename_i w hw
      have hm := List.mem_of_getElem? hw
      have hi := hin w hm
      refine ⟨?_, lay_isB h2 fun x hx => hU w hm x (List.mem_of_mem_take hx)⟩
      rw [lay_len hi.1 (by rw [List.length_take, h1]; omega), h1]
    · exact ⟨h1, h2⟩
/-- lost, kept, torn -/
theorem c21 (w : Wt) (x : Int) (h : H) (k : Value → H → Prop) (hk : ∀ h', Ext h h' → k (.int .i64 0) h') : callK Try.prog 21 #[.agg w.cells.toArray, .int .i64 x] h k := by
  refine call21 _ _ _ _ ?_
  unfold d21
  exact alloc_new fun b g _ _ e => hk g e
theorem c22 (w : Wt) (x : Int) (h : H) (k : Value → H → Prop) (hk : ∀ h', Ext h h' → k (.int .i64 w.n) h') : callK Try.prog 22 #[.agg w.cells.toArray, .int .i64 x] h k := by
  refine call22 _ _ _ _ ?_
  unfold d22
  refine alloc_new fun b g _ hb e => ?_
  have a : At g b 0 w.cells := hb.at_
  exact addrK_of rfl (a.load1 1 rfl rfl (asS_of (hk g e)))
theorem c23 (w : Wt) (x : Int) (h : H) (k : Value → H → Prop) (hk : ∀ h', Ext h h' → k (.int .i64 (maxI 0 (minI x w.n))) h') : callK Try.prog 23 #[.agg w.cells.toArray, .int .i64 x] h k := by
  refine call23 _ _ _ _ ?_
  unfold d23
  refine alloc_new fun b g _ hb e => ?_
  have a : At g b 0 w.cells := hb.at_
  exact addrK_of rfl (a.load1 1 rfl rfl (asS_of (hk g e)))
end Go.Proofs.Ytfeodnhklibegaa
