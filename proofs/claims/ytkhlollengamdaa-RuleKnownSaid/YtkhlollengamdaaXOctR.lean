/- A step of the road to this law: a generator of conditions over the model of the code, or a lemma on rows in the heap. No conditions. -/
import Derived.Test.YtkhlollengamdaaXOctL
import Derived.ProofKit
import Derived.OpenShut
import Derived.ShutString
import Derived.ChangeOld
import Derived.Below
import Derived.Carry
import Derived.SizedLaws
import Derived.ChangeSlices
import Derived.ChangeArms
set_option linter.unusedSimpArgs false
set_option linter.unusedVariables false
namespace Go.Oct
open Go.ChangeShapes Go.WideShapes Go.ChangeAt Go.RowKit
/-- A law's contract over the heap is what its row asks of the run. -/
theorem walk_of {P : Program} {f : FuncId} {args : Array Value} {W : World} (h : callK P f args W.heap fun v h' => v = .bool true ∧ Ext W.heap h') :
    Calls P f args W fun e W' => e = .returned (.bool true) ∧ Below W.heap.size W W' := by
  refine (h.2 W rfl).mono fun e W' ⟨s, v, he, hv, x⟩ => ?_
  subst hv
  exact ⟨he, s.os, s.tape, s.output, x.size, fun k hk => x.at_ hk⟩
/-- A slice of whole numbers that came in. -/
theorem ints_row {H : Type} {enc : TypeId × Value → H} {P : Program} {W : World} {t e : TypeId} {k : IntKind} {a : Option Addr} {len cap : Nat} {d : DataW H} {ps : List MemPlace} {ts : List TypeId} {ds : List (DataW H)} {j : Nat}
    (hsz : (DataW.weightsEach P ts ds).all (· ≤ reachBytes) = true) (ht : ts[j]? = some t) (hd : ds[j]? = some d) (hu : P.underlying t = some (.slice e)) (he : P.underlying e = some (.int k)) (hc : P.cellsOf e = 1) {B : Nat} (hB : P.bytesOf e = B)
    (h : DataW.Trod enc P W 0 (fun _ => true) true t (.slice a len cap) d ps) :
    ∃ zs : List Int, RowH W.heap a len (zs.map (Value.int k)).toArray ∧ (∀ z ∈ zs, (Lit.int k z).wf = true) ∧ len * B ≤ 140737488351232 ∧ len ≤ cap := by
  obtain ⟨fuel, hf⟩ := h
  rcases open_ints hu he hc hf with ⟨hcs, _⟩ | ⟨x, l, c, zs, hcs, _, hl, hm, hz, hx, hcell, hwz⟩
  · simp [Value.cells] at hcs
    obtain ⟨rfl, rfl, rfl⟩ := hcs
    exact ⟨[], RowH.nil, by simp, by simp, by simp⟩
  · simp [Value.cells] at hcs
    obtain ⟨rfl, rfl, rfl⟩ := hcs
    have hzc : zs.length = cap := by simpa using hz
    refine ⟨zs.take len, ⟨by simp; omega, fun hn => ⟨x, rfl, fun i hi => ?_⟩⟩, fun z h => hwz z (List.mem_of_mem_take h), ?_, hl⟩
    · have h1 := hcell i (by omega)
      rw [show cellH W.heap (x.add i) = _ from h1]
      simp only [List.getElem?_toArray, List.getElem?_map, List.getElem?_take, if_pos hi, List.getD_eq_getElem?_getD]
      rw [List.getElem?_eq_getElem (by omega)]
      rfl
    · obtain ⟨hx, _⟩ := Prod.mk.inj hx
      subst hx
      have z := sized_slice hsz ht hd hu
      rw [hB] at z
      have h1 : (lits (H := H) k (zs.take len)).length + (lits (H := H) k (zs.drop len)).length = zs.length := by
        simp [lits]
        omega
      rw [h1] at z
      exact Nat.le_trans (Nat.mul_le_mul_right _ (by omega)) z

/-! ### arguments of any shape -/
/-- The cells cs read as a value of type t. -/
def Rb {H : Type} (enc : TypeId × Value → H) (P : Program) (W : World) (t : TypeId) (cs : List Value) : Prop :=
  ∃ (fuel : Nat) (x : DataW H × List MemPlace), DataW.trod enc P W 0 (fun _ => true) true fuel t cs = some x
section
variable {H : Type} {enc : TypeId × Value → H} {P : Program} {W : World} {t : TypeId} {cs : List Value}
theorem rb_of {v : Value} {d : DataW H} {ps : List MemPlace} (h : DataW.Trod enc P W 0 (fun _ => true) true t v d ps) : Rb enc P W t v.cells.toList := by
  obtain ⟨n, h⟩ := h
  exact ⟨n, _, h⟩
theorem rb_bool (ht : P.underlying t = some .bool) (h : Rb enc P W t cs) : ∃ b, cs = [.bool b] := by
  obtain ⟨n, x, h⟩ := h
  obtain ⟨b, e, _⟩ := DataW.trod_bool ht h
  exact ⟨b, e⟩
theorem rb_int {k : IntKind} (ht : P.underlying t = some (.int k)) (h : Rb enc P W t cs) : ∃ n, cs = [.int k n] ∧ (Lit.int k n).wf = true := by
  obtain ⟨n, x, h⟩ := h
  obtain ⟨b, e, _, w⟩ := DataW.trod_int ht h
  exact ⟨b, e, w⟩
theorem rb_struct {fs : Array Field} (ht : P.underlying t = some (.struct fs)) (h : Rb enc P W t cs) : cs.length = P.cellsOf t ∧ ∀ (i : Nat) (f : Field), fs[i]? = some f → Rb enc P W f.type ((cs.drop f.offset).take (P.cellsOf f.type)) := by
  obtain ⟨n, x, h⟩ := h
  obtain ⟨xs, m, _, _, h1, h2, h3⟩ := DataW.trod_struct ht h
  refine ⟨h1, fun i f hf => ?_⟩
  have hi : i < xs.length := by rw [h2]; exact (Array.getElem?_eq_some_iff.1 hf).1
  have := h3 i f hf
  rw [List.getElem?_eq_getElem hi] at this
  exact ⟨m, _, this⟩
theorem rb_field {fs : Array Field} (ht : P.underlying t = some (.struct fs)) (h : Rb enc P W t cs) (i : Nat) {f : Field} {u : TypeId} {o c : Nat} (hf : fs[i]? = some f) (hu : f.type = u) (ho : f.offset = o) (hc : P.cellsOf u = c) : Rb enc P W u ((cs.drop o).take c) := by
  subst hu ho hc
  exact (rb_struct ht h).2 i f hf
theorem rb_array {n : Nat} {e : TypeId} (ht : P.underlying t = some (.array n e)) (h : Rb enc P W t cs) : cs.length = P.cellsOf t ∧ ∀ i, i < n → Rb enc P W e ((cs.drop (i * P.cellsOf e)).take (P.cellsOf e)) := by
  obtain ⟨m, x, h⟩ := h
  obtain ⟨xs, m, _, _, h1, h2, h3⟩ := DataW.trod_array ht h
  refine ⟨h1, fun i hi => ?_⟩
  have := h3 i hi
  rw [List.getElem?_eq_getElem (by omega)] at this
  exact ⟨m, _, this⟩
theorem cells?_get {base : Nat} {a : Addr} {n : Nat} {r : List Value} (h : W.cells? base a n = some r) : r.length = n ∧ ∀ j, j < n → cellH W.heap (a.add j) = r[j]? := by
  unfold World.cells? at h
  split at h
  · refine ⟨by simpa using mapM_some_length h, fun j hj => ?_⟩
    exact mapM_some_get h j j (by simp [hj])
  · cases h
/-- A slice that reads: a list of elements lies in its row. -/
theorem rb_list {α : Type} {f : α → List Value} {ok : α → Prop} {e : TypeId} {c : Nat} (ht : P.underlying t = some (.slice e)) (hc : P.cellsOf e = c) (hf : ∀ x, (f x).length = c) (helem : ∀ r, Rb enc P W e r → r.length = c → ∃ a, r = f a ∧ ok a) (h : Rb enc P W t cs) :
    ∃ (A : Option Addr) (n cap : Nat) (xs : List α), cs = [.slice A n cap] ∧ n ≤ cap ∧ cap ≤ 9223372036854775807 ∧ xs.length = n ∧ RowH W.heap A (n * c) (cellsOf f xs) ∧ ∀ x ∈ xs, ok x := by
  obtain ⟨m, x, h⟩ := h
  rcases DataW.trod_slice ht h with ⟨rfl, _⟩ | ⟨a, len, cap, elems, rest, n, _, rfl, _, _, hl, hcap, hlen, hel, _⟩
  · exact ⟨none, 0, 0, [], rfl, by omega, by omega, rfl, by simpa [cellsOf] using RowH.nil, by simp⟩
  · have key : ∀ i, i < len → ∃ y, ok y ∧ ∀ j, j < c → cellH W.heap (a.add (i * c + j)) = (f y)[j]? := by
      intro i hi
      have h1 := hel i hi
      rw [List.getElem?_eq_getElem (by omega)] at h1
      obtain ⟨r, h2, h3⟩ := Option.bind_eq_some_iff.1 h1
      obtain ⟨h4, h5⟩ := cells?_get h2
      obtain ⟨y, rfl, hy⟩ := helem r ⟨_, _, h3⟩ (by rw [h4, hc])
      refine ⟨y, hy, fun j hj => ?_⟩
      rw [← h5 j (by rw [hc]; exact hj), add_add, hc]
    have build : ∀ m, m ≤ len → ∃ xs : List α, xs.length = m ∧ (∀ x ∈ xs, ok x) ∧ ∀ i x, xs[i]? = some x → ∀ j, j < c → cellH W.heap (a.add (i * c + j)) = (f x)[j]? := by
      intro m
      induction m with
      | zero => intro _; exact ⟨[], rfl, by simp, by simp⟩
      | succ m ih =>
        intro hm
        obtain ⟨xs, h1, h2, h3⟩ := ih (by omega)
        obtain ⟨y, h4, h5⟩ := key m (by omega)
        refine ⟨xs ++ [y], by simp [h1], fun x hx => ?_, fun i x hx => ?_⟩
        · rcases List.mem_append.1 hx with hx | hx
          · exact h2 x hx
          · rw [List.mem_singleton.1 hx]; exact h4
        · rw [List.getElem?_append] at hx
          split at hx
          · exact h3 i x hx
          · rename_i hlt
            have hi0 : i - xs.length = 0 := by
              have := (List.getElem?_eq_some_iff.1 hx).1
              simp at this; omega
            rw [hi0] at hx
            simp at hx
            subst hx
            have : i = m := by omega
            subst this
            exact h5
    obtain ⟨xs, h1, h2, h3⟩ := build len (Nat.le_refl _)
    refine ⟨some a, len, cap, xs, rfl, hl, hcap, h1, ⟨by rw [cellsOf_size hf, h1], fun hn => ⟨a, rfl, fun p hp => ?_⟩⟩, h2⟩
    have hc0 : 0 < c := Nat.pos_of_mul_pos_left hn
    have hpc : p / c < len := Nat.div_lt_of_lt_mul (by rw [Nat.mul_comm]; exact hp)
    have hx : xs[p / c]? = some xs[p / c] := List.getElem?_eq_getElem (by omega)
    have hm := Nat.mod_lt p hc0
    have e1 : p / c * c + p % c = p := by rw [Nat.mul_comm]; exact Nat.div_add_mod p c
    have h6 := h3 _ _ hx (p % c) hm
    rw [e1] at h6
    rw [h6, cellsOf, List.getElem?_toArray]
    have h7 := flat_get hf xs (p / c) (p % c) _ hx hm
    rw [e1] at h7
    rw [h7]
/-- A slice of whole numbers that reads. -/
theorem rb_ints {k : IntKind} {e : TypeId} (ht : P.underlying t = some (.slice e)) (he : P.underlying e = some (.int k)) (hc : P.cellsOf e = 1) (h : Rb enc P W t cs) :
    ∃ (A : Option Addr) (n cap : Nat) (xs : List Int), cs = [.slice A n cap] ∧ n ≤ cap ∧ cap ≤ 9223372036854775807 ∧ RowH W.heap A n (xs.map (Value.int k)).toArray ∧ ∀ x ∈ xs, (Lit.int k x).wf = true := by
  obtain ⟨A, n, cap, xs, h1, h2, h3, h4, h5, h6⟩ := rb_list (f := fun x => [Value.int k x]) (ok := fun x => (Lit.int k x).wf = true) ht hc (fun _ => rfl) (fun r hr _ => by
    obtain ⟨n, e, w⟩ := rb_int he hr
    exact ⟨n, e, w⟩) h
  rw [cellsOf, flat_one, Nat.mul_one] at h5
  exact ⟨A, n, cap, xs, h1, h2, h3, h5, h6⟩
end
end Go.Oct
