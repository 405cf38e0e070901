/- A step of the road to this law: a generator of conditions over the model of the code, or a lemma on rows in the heap. No conditions. -/
import Derived.Test.YteagahchpblfkaaXOctL
import Derived.ProofKit
import Derived.OpenShut
import Derived.ShutString
import Derived.ChangeOld
import Derived.Below
import Derived.Carry
import Derived.SizedLaws
import Derived.ChangeSlices
set_option linter.unusedSimpArgs false
set_option linter.unusedVariables false
namespace Go.Oct
open Go.ChangeShapes Go.WideShapes Go.ChangeAt Go.RowKit
/-- A law's contract over the heap is what its row asks of the run. -/
theorem walk_of {P : Program} {f : FuncId} {args : Array Value} {W : World} (h : callK P f args W.heap fun v h' => v = .bool true ∧ Ext W.heap h') :
    Calls P f args W fun e W' => e = .returned (.bool true) ∧ Below W.heap.size W W' := by
  refine (h.2 W rfl).mono fun e W' ⟨s, v, he, hv, x⟩ => ?_
  subst hv
  exact ⟨he, s.os, s.tape, s.output, x.size, fun k hk => x.at_ hk⟩
/-- A slice of whole numbers that came in. -/
theorem ints_row {H : Type} {enc : TypeId × Value → H} {P : Program} {W : World} {t e : TypeId} {k : IntKind} {a : Option Addr} {len cap : Nat} {d : DataW H} {ps : List MemPlace} {ts : List TypeId} {ds : List (DataW H)} {j : Nat}
    (hsz : (DataW.weightsEach P ts ds).all (· ≤ reachBytes) = true) (ht : ts[j]? = some t) (hd : ds[j]? = some d) (hu : P.underlying t = some (.slice e)) (he : P.underlying e = some (.int k)) (hc : P.cellsOf e = 1) {B : Nat} (hB : P.bytesOf e = B)
    (h : DataW.Trod enc P W 0 (fun _ => true) true t (.slice a len cap) d ps) :
    ∃ zs : List Int, RowH W.heap a len (zs.map (Value.int k)).toArray ∧ (∀ z ∈ zs, (Lit.int k z).wf = true) ∧ len * B ≤ 140737488351232 ∧ len ≤ cap := by
  obtain ⟨fuel, hf⟩ := h
  rcases open_ints hu he hc hf with ⟨hcs, _⟩ | ⟨x, l, c, zs, hcs, _, hl, hm, hz, hx, hcell, hwz⟩
  · simp [Value.cells] at hcs
    obtain ⟨rfl, rfl, rfl⟩ := hcs
    exact ⟨[], RowH.nil, by simp, by simp, by simp⟩
  · simp [Value.cells] at hcs
    obtain ⟨rfl, rfl, rfl⟩ := hcs
    have hzc : zs.length = cap := by simpa using hz
    refine ⟨zs.take len, ⟨by simp; omega, fun hn => ⟨x, rfl, fun i hi => ?_⟩⟩, fun z h => hwz z (List.mem_of_mem_take h), ?_, hl⟩
    · have h1 := hcell i (by omega)
      rw [show cellH W.heap (x.add i) = _ from h1]
      simp only [List.getElem?_toArray, List.getElem?_map, List.getElem?_take, if_pos hi, List.getD_eq_getElem?_getD]
      rw [List.getElem?_eq_getElem (by omega)]
      rfl
    · obtain ⟨hx, _⟩ := Prod.mk.inj hx
      subst hx
      have z := sized_slice hsz ht hd hu
      rw [hB] at z
      have h1 : (lits (H := H) k (zs.take len)).length + (lits (H := H) k (zs.drop len)).length = zs.length := by
        simp [lits]
        omega
      rw [h1] at z
      exact Nat.le_trans (Nat.mul_le_mul_right _ (by omega)) z
end Go.Oct
