/- A step of the road to this law: a generator of conditions over the model of the code, or a lemma on rows in the heap. No conditions. -/
import Derived.Test.YtkhlollengamdaaXOctQ
set_option linter.unusedSimpArgs false
set_option linter.unusedVariables false
namespace Go.Oct
/-- a part of an element of a list is written over -/
theorem Lst.spot {α : Type} {f : α → List Value} {sz : Nat} (hf : ∀ x, (f x).length = sz) {h : H} {base e n c : Nat} {A : Option Addr} {xs : List α} (l : Lst h base e f sz A n c xs) {i : Int} {j : Nat} {x : α} (hi : i = j) (hx : xs[j]? = some x) {K : Option Addr → Prop}
    (hK : ∀ b, (∀ (o m q : Nat) (vs : Array Value) (y : α) (pre mid post : List Value) (k : H → Prop), f x = pre ++ (mid ++ post) → f y = pre ++ (vs.toList ++ post) → o = pre.length → vs.toList.length = mid.length → vs.size = m → OneCells vs.toList → q = j * sz + o →
      (∀ h', Lst h' base e f sz A n c (xs.set j y) → Mod h h' (blkOf A) → k h') → storeK m (some ⟨b, q, none⟩) vs h k) → K (some ⟨b, j * sz, none⟩)) : indexK sz A n i K := by
  have hn := l.1
  have hj : j < xs.length := (List.getElem?_eq_some_iff.1 hx).1
  rcases l.2.2 with ⟨h2, h3, _⟩ | ⟨b, cur, rfl, h3, h4, h5, h6, h7⟩
  · omega
  · rw [indexK_some]
    subst hi
    refine ⟨by omega, by omega, ?_⟩
    rw [Int.toNat_natCast, Nat.zero_add]
    refine hK b fun o m q vs y pre mid post k e1 e2 ho hm hvm h1 hq hk => ?_
    subst hq
    have h8 := congrArg Array.toList h7
    simp only [Array.toList_extract, List.extract_eq_take_drop, List.drop_zero, Nat.sub_zero, cellsOf] at h8
    have hxe : xs[j] = x := (List.getElem?_eq_some_iff.1 hx).2
    have hxs : xs = xs.take j ++ x :: xs.drop (j + 1) := by
      rw [← hxe, ← List.drop_eq_getElem_cons hj, List.take_append_drop]
    have hPl : ((xs.take j).flatMap f).length = j * sz := by rw [flat_length hf, List.length_take, Nat.min_eq_left (by omega)]
    have hSl : ((xs.drop (j + 1)).flatMap f).length = (n - (j + 1)) * sz := by rw [flat_length hf, List.length_drop, hn]
    have hcur : cur.toList = ((xs.take j).flatMap f ++ pre) ++ (mid ++ (post ++ ((xs.drop (j + 1)).flatMap f ++ cur.toList.drop (n * sz)))) := by
      have e3 : cur.toList = (xs.take j).flatMap f ++ (f x ++ ((xs.drop (j + 1)).flatMap f ++ cur.toList.drop (n * sz))) := by
        rw [← List.append_assoc (f x), ← List.append_assoc, ← List.flatMap_cons, ← List.flatMap_append, ← hxs, ← h8, List.take_append_drop]
      rw [e1] at e3
      simpa using e3
    have hset : xs.set j y = xs.take j ++ y :: xs.drop (j + 1) := by
      rw [List.set_eq_take_append_cons_drop, if_pos hj]
    have hcs : cur.size = c * sz := h5
    have hlen := congrArg List.length hcur
    have hfy := hf y
    have hfx := hf x
    rw [e2] at hfy
    rw [e1] at hfx
    have hmul : j * sz + (sz + (n - (j + 1)) * sz) = n * sz := by
      have e1 : sz + (n - (j + 1)) * sz = (n - (j + 1) + 1) * sz := by rw [Nat.add_mul, Nat.one_mul, Nat.add_comm]
      rw [e1, ← Nat.add_mul]
      congr 1
      omega
    refine store_mid h4 hcur (by rw [List.length_append, hPl, ho]) hm hvm h1 fun h' k' m' => hk h' ⟨by simpa using hn, ?_⟩ (m'.mono fun i _ hi => ⟨_, rfl, hi.symm⟩)
    refine ⟨by rw [cellsOf_size hf, List.length_set, hn], .inr ⟨b, _, rfl, h3, k', ?_, h6, ?_⟩⟩
    · rw [List.size_toArray, ← hcs]
      simp only [List.length_append, Array.length_toList] at hlen hfy hfx hm ⊢
      omega
    · apply Array.ext'
      simp only [Array.toList_extract, List.extract_eq_take_drop, List.drop_zero, Nat.sub_zero, cellsOf]
      have e4 : ((xs.take j).flatMap f ++ pre) ++ (vs.toList ++ (post ++ ((xs.drop (j + 1)).flatMap f ++ cur.toList.drop (n * sz)))) = ((xs.take j).flatMap f ++ (f y ++ (xs.drop (j + 1)).flatMap f)) ++ cur.toList.drop (n * sz) := by
        rw [e2]; simp
      rw [e4, hset, List.flatMap_append, List.flatMap_cons, List.take_left']
      simp only [List.length_append, hPl, hSl] at hfy ⊢
      rw [e2]
      simp only [List.length_append]
      omega
/-- make, of more cells -/
theorem made_list {α : Type} {f : α → List Value} {sz : Nat} (hf : ∀ x, (f x).length = sz) (hsz : 0 < sz) (a : α) (m : Nat) : madeCells (f a).toArray (m * sz) = cellsOf f (List.replicate m a) := by
  apply Array.ext_getElem?
  intro i
  have e0 : (cellsOf f (List.replicate m a))[i]? = ((List.replicate m a).flatMap f)[i]? := by simp [cellsOf]
  rw [e0]
  by_cases hi : i < m * sz
  · have hd : i / sz < m := Nat.div_lt_of_lt_mul (by rw [Nat.mul_comm]; exact hi)
    have hm : i % sz < sz := Nat.mod_lt _ hsz
    have := flat_get hf (List.replicate m a) (i / sz) (i % sz) a (by rw [List.getElem?_replicate, if_pos hd]) hm
    have e : i / sz * sz + i % sz = i := by rw [Nat.mul_comm]; exact Nat.div_add_mod i sz
    rw [e] at this
    rw [this]
    have h1 : i < (madeCells (f a).toArray (m * sz)).size := by rw [size_madeCells]; exact hi
    rw [Array.getElem?_eq_getElem h1]
    have hlt : i % sz < (f a).length := by rw [hf]; exact hm
    rw [List.getElem?_eq_getElem hlt]
    congr 1
    simp only [madeCells, Array.getElem_map, Array.getElem_range, List.size_toArray, hf]
    rw [getElem!_pos _ _ (by simpa [hf] using hm)]
    simp
  · rw [Array.getElem?_eq_none (by rw [size_madeCells]; omega), List.getElem?_eq_none (by rw [flat_length hf, List.length_replicate]; omega)]
end Go.Oct
