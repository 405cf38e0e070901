/- A step of the road to this law: a generator of conditions over the model of the code, or a lemma on rows in the heap. No conditions. -/
import Derived.Test.YtkhlollengamdaaXOctN
set_option linter.unusedSimpArgs false
set_option linter.unusedVariables false
namespace Go.Oct
/-- xs[i] = y, of a list of more cells -/
theorem Lst.putL {α : Type} {f : α → List Value} {sz : Nat} (hf : ∀ x, (f x).length = sz) (hsz : 0 < sz) {h : H} {base e n c : Nat} {A : Option Addr} {xs : List α} (l : Lst h base e f sz A n c xs) {i : Int} {j : Nat} (hi : i = j) (hj : j < xs.length) (y : α) (h1 : OneCells (f y)) {k : H → Prop}
    (hk : ∀ h', Lst h' base e f sz A n c (xs.set j y) → Mod h h' (blkOf A) → k h') : indexK sz A n i (fun p => storeK sz p (f y).toArray h k) := by
  have hn := l.1
  rcases l.2.2 with ⟨h2, h3, _⟩ | ⟨b, cur, rfl, h3, h4, h5, h6, h7⟩
  · omega
  · rw [indexK_some]
    subst hi
    refine ⟨by omega, by omega, ?_⟩
    rw [Int.toNat_natCast, Nat.zero_add]
    have h8 := congrArg Array.toList h7
    simp only [Array.toList_extract, List.extract_eq_take_drop, List.drop_zero, Nat.sub_zero, cellsOf] at h8
    have hxs : xs = xs.take j ++ xs[j] :: xs.drop (j + 1) := by
      rw [← List.drop_eq_getElem_cons hj, List.take_append_drop]
    have hPl : ((xs.take j).flatMap f).length = j * sz := by rw [flat_length hf, List.length_take, Nat.min_eq_left (by omega)]
    have hSl : ((xs.drop (j + 1)).flatMap f).length = (n - (j + 1)) * sz := by rw [flat_length hf, List.length_drop, hn]
    have hcur : cur.toList = (xs.take j).flatMap f ++ (f xs[j] ++ ((xs.drop (j + 1)).flatMap f ++ cur.toList.drop (n * sz))) := by
      rw [← List.append_assoc (f xs[j]), ← List.append_assoc, ← List.flatMap_cons, ← List.flatMap_append, ← hxs, ← h8, List.take_append_drop]
    refine store_mid h4 hcur hPl.symm (by simp [hf]) (by simp [hf]) (by simpa using h1) fun h' k' m' => hk h' ⟨by simpa using hn, ?_⟩ (m'.mono fun i _ hi => ⟨_, rfl, hi.symm⟩)
    have hset : xs.set j y = xs.take j ++ y :: xs.drop (j + 1) := by
      rw [List.set_eq_take_append_cons_drop, if_pos hj]
    have hcs : cur.size = c * sz := h5
    have hlen := congrArg List.length hcur
    have hmul : j * sz + (sz + (n - (j + 1)) * sz) = n * sz := by
      have e1 : sz + (n - (j + 1)) * sz = (n - (j + 1) + 1) * sz := by rw [Nat.add_mul, Nat.one_mul, Nat.add_comm]
      rw [e1, ← Nat.add_mul]
      congr 1
      omega
    refine ⟨by rw [cellsOf_size hf, List.length_set, hn], .inr ⟨b, _, rfl, h3, k', ?_, h6, ?_⟩⟩
    · rw [List.size_toArray, ← hcs]
      simp only [List.length_append, Array.length_toList, hf] at hlen ⊢
      omega
    · apply Array.ext'
      simp only [Array.toList_extract, List.extract_eq_take_drop, List.drop_zero, Nat.sub_zero, cellsOf]
      rw [hset, List.flatMap_append, List.flatMap_cons, ← List.append_assoc (f y), ← List.append_assoc, List.take_left']
      simp only [List.length_append, hf, hPl, hSl]
      omega
end Go.Oct
