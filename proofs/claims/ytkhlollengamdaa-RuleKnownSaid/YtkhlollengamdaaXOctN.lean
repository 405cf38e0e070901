/- A step of the road to this law: a generator of conditions over the model of the code, or a lemma on rows in the heap. No conditions. -/
import Derived.Test.YtkhlollengamdaaXOctM
set_option linter.unusedSimpArgs false
set_option linter.unusedVariables false
namespace Go.Oct
/-- a part of what can be read -/
theorem At.mid {h : H} {b o : Nat} {l pre mid post : List Value} (a : At h b o l) (hl : l = pre ++ (mid ++ post)) {q : Nat} (hq : q = o + pre.length) : At h b q mid := by
  intro j v hv
  subst hq
  have hj : j < mid.length := (List.getElem?_eq_some_iff.1 hv).1
  have := a (pre.length + j) v (by rw [hl, List.getElem?_append_right (by omega), Nat.add_sub_cancel_left, List.getElem?_append_left hj]; exact hv)
  rw [Nat.add_assoc]; exact this
theorem At.rowf {h : H} {b o n : Nat} {l : List Value} (a : At h b o l) (hn : l.length = n) : RowH h (some ⟨b, o, none⟩) n l.toArray :=
  ⟨by simpa using hn, fun _ => ⟨_, rfl, fun j hj => a.cells (by omega)⟩⟩
theorem over_mid {pre mid post vs : List Value} {cs : Array Value} (hl : cs.toList = pre ++ (mid ++ post)) (hm : vs.length = mid.length) : over cs pre.length vs = (pre ++ (vs ++ post)).toArray := by
  apply Array.ext'
  have hs : cs.size = pre.length + (mid.length + post.length) := by
    have := congrArg List.length hl
    simpa using this
  rw [over_list _ _ _ (by omega), hl]
  simp only [List.take_left', List.append_assoc]
  rw [List.drop_append, List.drop_of_length_le (by omega), List.nil_append, hm, Nat.add_sub_cancel_left, List.drop_left']
  rfl
/-- a part of a block is written over -/
theorem store_mid {h : H} {b o n e : Nat} {cs vs : Array Value} {pre mid post : List Value} {k : H → Prop} (hb : Blk h b cs e) (hl : cs.toList = pre ++ (mid ++ post)) (ho : o = pre.length) (hm : vs.toList.length = mid.length) (hn : vs.size = n) (h1 : OneCells vs.toList)
    (hk : ∀ h', Blk h' b (pre ++ (vs.toList ++ post)).toArray e → Mod h h' (· = b) → k h') : storeK n (some ⟨b, o, none⟩) vs h k := by
  subst ho
  have hs : cs.size = pre.length + (mid.length + post.length) := by
    have := congrArg List.length hl
    simpa using this
  refine store_blk hb hn (by have : vs.toList.length = vs.size := by simp
                             omega) h1 fun h' k' m' => hk h' ?_ m'
  rwa [over_mid hl hm] at k'
theorem Own.row_at {h : H} {b e o n : Nat} {cs : Array Value} (k : Blk h b cs e) (hn : o + n ≤ cs.size) : RowH h (some ⟨b, o, none⟩) n (cs.extract o (o + n)) := k.row o n hn
/-- a list's row, as cells -/
theorem Lst.rowL {α : Type} {f : α → List Value} {sz : Nat} {h : H} {base e n c : Nat} {A : Option Addr} {xs : List α} (l : Lst h base e f sz A n c xs) : RowH h A (n * sz) (cellsOf f xs) := l.2.row
/-- a place of a row is kept by what does not touch its block -/
theorem rowL_ext {h h' : H} {A : Option Addr} {n : Nat} {cs : Array Value} (r : RowH h A n cs) (x : Ext h h') : RowH h' A n cs := r.ext x
/-- an array literal of rows of cells -/
theorem fill_uni {sz : Nat} : ∀ (vs : List (List Value)) (i : Nat) (z : Array Value) (pre rest : List Value), z.toList = pre ++ rest → pre.length = i * sz → rest.length = vs.length * sz → (∀ v ∈ vs, v.length = sz) →
    Instr.fill (fun i => some (i * sz, sz)) z ((vs.zipIdx i).map fun p => (p.2, Value.agg p.1.toArray)) = some (pre ++ vs.flatten).toArray
  | [], i, z, pre, rest, hz, _, hr, _ => by
    have : rest = [] := List.length_eq_zero_iff.1 (by simpa using hr)
    subst this
    have e : z = pre.toArray := Array.ext' (by simpa using hz)
    simp [fill_nil, e]
  | v :: vs, i, z, pre, rest, hz, hp, hr, hv => by
    have h1 := hv v (List.mem_cons_self ..)
    have hr' : rest.length = vs.length * sz + sz := by rw [hr, List.length_cons, Nat.add_mul, Nat.one_mul]
    have hs : z.size = i * sz + rest.length := by
      have := congrArg List.length hz
      rw [List.length_append, hp] at this
      simpa using this
    rw [List.zipIdx_cons, List.map_cons, fill_cons (off := i * sz) (size := sz) rfl (by simp [Value.cells, h1]) (by omega)]
    have e1 : over z (i * sz) (Value.agg v.toArray).cells.toList = (pre ++ (v ++ rest.drop sz)).toArray := by
      rw [← hp]
      exact over_mid (mid := rest.take sz) (by rw [List.take_append_drop]; exact hz) (by rw [List.length_take, Nat.min_eq_left (by omega)]; simpa [Value.cells] using h1)
    rw [e1]
    rw [fill_uni vs (i + 1) _ (pre ++ v) (rest.drop sz) (by simp) (by rw [List.length_append, hp, h1, Nat.add_mul, Nat.one_mul]) (by rw [List.length_drop]; omega) (fun w hw => hv w (List.mem_cons_of_mem _ hw))]
    simp
theorem fill_rows {α : Type} {f : α → List Value} {sz : Nat} (hlen : ∀ x, (f x).length = sz) (xs : List α) {z : Array Value} (hz : z.size = xs.length * sz) {k : Array Value → Prop} (hk : k (cellsOf f xs)) :
    fillK (fun i => some (i * sz, sz)) z ((xs.zipIdx).map fun p => (p.2, Value.agg (f p.1).toArray)) k := by
  refine ⟨_, ?_, hk⟩
  have := fill_uni (sz := sz) (xs.map f) 0 z [] z.toList (by simp) (by simp) (by simpa using hz) (fun v hv => by
    obtain ⟨x, _, rfl⟩ := List.mem_map.1 hv
    exact hlen x)
  rw [List.nil_append] at this
  rw [cellsOf, List.flatMap_def, ← this]
  congr 1
  rw [List.zipIdx_map, List.map_map]
  rfl
end Go.Oct
