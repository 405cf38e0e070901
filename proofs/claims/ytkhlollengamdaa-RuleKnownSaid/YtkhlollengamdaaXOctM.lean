/- A step of the road to this law: a generator of conditions over the model of the code, or a lemma on rows in the heap. No conditions. -/
import Derived.Test.YtkhlollengamdaaXOctS
set_option linter.unusedSimpArgs false
set_option linter.unusedVariables false
namespace Go.Oct
theorem ifB_nt {A B : Prop} : ifB (!true) A B = B := rfl
theorem ifB_nf {A B : Prop} : ifB (!false) A B = A := rfl
theorem asT4_of {a b c d : Value} {k : Value → Value → Value → Value → Prop} (h : k a b c d) : asT4 (.tuple #[a, b, c, d]) k := ⟨a, b, c, d, rfl, h⟩
theorem nilK_of {ad : Addr} {A : Prop} (h : A) : nilK (some ad) A := ⟨⟨ad, rfl⟩, h⟩
/-- a value is put into a new variable -/
theorem newVr {cells : Array Value} {e n : Nat} {g : H} {xs : Array Value} {k : Option Addr → H → Prop} (hc : cells.size = n) (hx : xs.size = n) (h1 : OneCells xs.toList) (hk : ∀ b g', g.size ≤ b → Blk g' b xs e → Ext g g' → k (some ⟨b, 0, none⟩) g') :
    allocK cells e g (fun p h => storeK n p xs h (fun h => k p h)) := by
  refine alloc_new fun b g1 lb bb x1 => store_blk bb hx (by omega) h1 fun g2 b2 m2 => ?_
  have e1 : over cells 0 xs.toList = xs := by
    apply Array.ext'
    rw [over_list _ _ _ (by simp; omega)]
    simp [List.drop_of_length_le, hc, hx]
  rw [e1] at b2
  exact hk b g2 lb b2 (x1.then m2 (fun i hi => by subst hi; exact lb))
/-- a whole block is written over -/
theorem store_all {h : H} {b n : Nat} {cs vs : Array Value} {e : TypeId} {k : H → Prop} (hb : Blk h b cs e) (hn : vs.size = n) (ho : cs.size = n) (h1 : OneCells vs.toList)
    (hk : ∀ h', Blk h' b vs e → Mod h h' (· = b) → k h') : storeK n (some ⟨b, 0, none⟩) vs h k := by
  refine store_blk hb hn (by omega) h1 fun h' b' m' => hk h' ?_ m'
  have e1 : over cs 0 vs.toList = vs := by
    apply Array.ext'
    rw [over_list _ _ _ (by simp; omega)]
    simp [List.drop_of_length_le, ho, hn]
  rwa [e1] at b'
theorem RowH.lt {h : H} {A : Option Addr} {n : Nat} {cs : Array Value} (r : RowH h A n cs) (hn : 0 < n) : ∀ i, blkOf A i → i < h.size := by
  rintro i ⟨ad, rfl, rfl⟩
  obtain ⟨ad', e, hc⟩ := r.2 hn
  cases e
  have h1 := hc 0 hn
  have hs : 0 < cs.size := by rw [r.1]; exact hn
  rw [Array.getElem?_eq_getElem hs] at h1
  have := lt_of_cell h1
  rwa [add_block] at this
theorem At.loadS1m {h : H} {T : Nat → Prop} {b o : Nat} {l : List Value} (a : At h b o l) (hT : ¬ T b) (j : Nat) {q : Nat} {v : Value} {k : Value → Prop} (hq : q = o + j) (hv : l[j]? = some v) (hk : k v) : Go.Oct.loadS1 (fun g => Go.Oct.Mod h g T) (some ⟨b, q, none⟩) k := by
  subst hq
  exact loadS1_some (fun g hg => (a.mod hg hT).cell hv) hk
theorem At.loadSNm {h : H} {T : Nat → Prop} {b o n : Nat} {l : List Value} (a : At h b o l) (hT : ¬ T b) {k : Array Value → Prop} (hn : l.length = n) (hk : k l.toArray) : Go.Oct.loadSN n (fun g => Go.Oct.Mod h g T) (some ⟨b, o, none⟩) k :=
  ⟨_, _, rfl, by simpa using hn, fun g hg j hj => (a.mod hg hT).cells (by omega), hk⟩
theorem cells_one {α : Type} {f : α → List Value} (h1 : ∀ x, OneCells (f x)) (xs : List α) : OneCells (cellsOf f xs).toList := by
  intro v hv
  simp only [cellsOf, List.mem_flatMap] at hv
  obtain ⟨x, _, hx⟩ := hv
  exact h1 x v hx
/-- append(A, xs...), A of the call's own -/
theorem Lst.joins {α : Type} {f : α → List Value} {sz : Nat} (hf : ∀ x, (f x).length = sz) (h1 : ∀ x, OneCells (f x)) {h : H} {base : Nat} {A B : Option Addr} {n c m d e bytes : Nat} {zero : Array Value} {xs ys : List α} {k : Option Addr → Nat → Nat → H → Prop} (l : Lst h base e f sz A n c xs) (hr : RowH h B (m * sz) (cellsOf f ys)) (hm : ys.length = m) (hz : zero.size = sz) (hb : 0 < bytes) (hbase : base ≤ h.size)
    (hlen : (2 * (n + m) + 192) * bytes ≤ 281474976710656) (hk : ∀ A' c' h', Lst h' base e f sz A' (n + m) c' (xs ++ ys) → Mod h h' (blkOf A) → (∀ i, blkOf A' i → blkOf A i ∨ h.size ≤ i) → k A' (n + m) c' h') : srcK sz (.slice B m d) h (fun cs m => appendK e sz bytes zero A n c cs m h k) := by
  refine ⟨B, m, d, _, rfl, hr, ?_⟩
  refine append_own l.2 hz (cells_one h1 ys) (by rw [cellsOf_size hf, hm]) hb hbase hlen fun A' c' h' o m1 d1 => ?_
  refine hk A' c' h' ⟨by rw [List.length_append, l.1, hm], ?_⟩ m1 d1
  have : cellsOf f xs ++ cellsOf f ys = cellsOf f (xs ++ ys) := by simp [cellsOf]
  rwa [this] at o
theorem foldl_over : ∀ (l : List Value) (i : Nat) (cs : Array Value) (off : Nat), (l.zipIdx i).foldl (fun cs (p : Value × Nat) => cs.setIfInBounds (off + p.2) p.1) cs = over cs (off + i) l
  | [], _, _, _ => rfl
  | v :: r, i, cs, off => by
    rw [List.zipIdx_cons, List.foldl_cons, foldl_over r (i + 1), over]
    rfl
theorem fill_nil {place : Nat → Option (Nat × Nat)} {cells : Array Value} : Instr.fill place cells [] = some cells := rfl
/-- one part more -/
theorem fill_cons {place : Nat → Option (Nat × Nat)} {cells : Array Value} {i off size : Nat} {v : Value} {rest : List (Nat × Value)} (hp : place i = some (off, size)) (hs : v.cells.size = size) (ho : off + size ≤ cells.size) :
    Instr.fill place cells ((i, v) :: rest) = Instr.fill place (over cells off v.cells.toList) rest := by
  rw [Instr.fill, hp]
  simp only
  rw [if_neg (by simp; omega)]
  congr 1
  have := foldl_over v.cells.toList 0 cells off
  rw [Nat.add_zero] at this
  rw [← this, ← Array.foldl_toList, Array.toList_zipIdx]
/-- xs[l:u], as an array -/
theorem row_loadSN {α : Type} {f : α → Value} {h : H} {A : Option Addr} {n : Nat} {xs : List α} (r : RowH h A n (xs.map f).toArray) (hn : 0 < n) {k : Array Value → Prop} (hk : k (xs.map f).toArray) : loadSN n (fun g => Ext h g) A k := by
  obtain ⟨ad, rfl, hc⟩ := r.2 hn
  refine ⟨ad, _, rfl, r.1, fun g hg j hj => ?_, hk⟩
  obtain ⟨ad', e, hc'⟩ := (r.ext hg).2 hn
  cases e
  exact hc' j hj
theorem over_get {cs : Array Value} {o : Nat} {vs : List Value} (h : o + vs.length ≤ cs.size) (i : Nat) : (over cs o vs)[i]? = if o ≤ i ∧ i < o + vs.length then vs[i - o]? else cs[i]? := by
  have hl := over_list vs cs o h
  have e : (over cs o vs)[i]? = (over cs o vs).toList[i]? := by simp
  have hcs : cs.toList.length = cs.size := by simp
  rw [e, hl]
  by_cases h1 : i < o
  · rw [if_neg (by omega), List.append_assoc, List.getElem?_append_left (by rw [List.length_take]; omega), List.getElem?_take, if_pos h1]
    simp
  · by_cases h2 : i < o + vs.length
    · rw [if_pos (by omega), List.append_assoc, List.getElem?_append_right (by rw [List.length_take]; omega), List.length_take, Nat.min_eq_left (by omega), List.getElem?_append_left (by omega)]
    · rw [if_neg (by omega), List.getElem?_append_right (by rw [List.length_append, List.length_take]; omega), List.length_append, List.length_take, Nat.min_eq_left (by omega), List.getElem?_drop]
      rw [show o + vs.length + (i - (o + vs.length)) = i by omega]
      simp
/-! ### strings of bytes -/
def sv (xs : List Int) : Value := .string (strOfNums xs)
theorem sv_append (xs ys : List Int) : strOfNums xs ++ strOfNums ys = strOfNums (xs ++ ys) := by
  apply ByteArray.ext
  rw [ByteArray.data_append]
  apply Array.ext'
  simp [strOfNums]
theorem sv_extract (xs : List Int) (a b : Nat) : (strOfNums xs).extract a b = strOfNums ((xs.drop a).take (b - a)) := by
  apply ByteArray.ext
  rw [ByteArray.data_extract]
  apply Array.ext'
  simp [strOfNums, List.extract_eq_take_drop]
theorem sv_nil : (⟨#[]⟩ : ByteArray) = strOfNums [] := rfl
theorem sv_size (xs : List Int) : (strOfNums xs).size = xs.length := strOfNums_size xs
theorem sv_slice {xs : List Int} {lo hi : Option Int} {l u : Nat} {k : ByteArray → Prop} (hl : lo.getD 0 = l) (hu : hi.getD xs.length = u) (h1 : l ≤ u) (h2 : u ≤ xs.length) (hk : k (strOfNums ((xs.drop l).take (u - l)))) : sliceStrK (strOfNums xs) lo hi k := by
  unfold sliceStrK
  rw [sv_size, hl, hu]
  refine ⟨by omega, by omega, by omega, ?_⟩
  rw [Int.toNat_natCast, Int.toNat_natCast, sv_extract]
  exact hk
/-- s[i] -/
theorem sv_idx {xs : List Int} (hb : ∀ x ∈ xs, isB x) {i : Int} {j : Nat} {x : Int} (hi : i = j) (hx : xs[j]? = some x) {k : Int → Prop} (hk : k x) : strIdxK (strOfNums xs) i k := by
  subst hi
  refine ⟨by omega, UInt8.ofNat x.toNat, ?_, ?_⟩
  · rw [Int.toNat_natCast]
    have hj := (List.getElem?_eq_some_iff.1 hx).1
    have h1 : (strOfNums xs).data[j]? = some (UInt8.ofNat x.toNat) := by
      unfold strOfNums
      rw [List.getElem?_toArray, List.getElem?_map, hx]; rfl
    rw [← h1]
    rw [Array.getElem?_eq_getElem (by simp [strOfNums]; exact hj), getElem?_pos _ _ (by rw [sv_size]; exact hj)]
    rfl
  · have := hb x (List.mem_of_getElem? hx)
    unfold isB at this
    have e : ((UInt8.ofNat x.toNat).toNat : Int) = x := by
      rw [UInt8.toNat_ofNat', Nat.mod_eq_of_lt (by omega)]
      exact Int.toNat_of_nonneg this.1
    rw [e]
    exact hk
/-- []byte(s) -/
theorem bytesK_of {xs : List Int} (hb : ∀ x ∈ xs, isB x) {e : TypeId} {h : H} {k : Option Addr → Nat → Nat → H → Prop} (hk : ∀ (A : Option Addr) (c : Nat) (h' : H), Ext h h' → RowH h' A xs.length (xs.map (Value.int .u8)).toArray → xs.length ≤ c → (∀ i, blkOf A i → h.size ≤ i) → k A xs.length c h') : bytesK e (strOfNums xs) h k := by
  intro c hc
  rw [sv_size] at hc ⊢
  refine hk _ c _ (Ext.push h _) ⟨by simp, fun _ => ⟨_, rfl, fun j hj => ?_⟩⟩ hc (by rintro i ⟨_, e, rfl⟩; cases e; exact Nat.le_refl _)
  rw [add_mk]
  unfold cellH
  simp only [Array.getElem?_push_size, Nat.zero_add, Option.isSome_none, Bool.false_eq_true, if_false]
  have hx := List.getElem_mem hj
  have hbx := hb _ hx
  unfold isB at hbx
  rw [Array.getElem?_append_left (by simp [strOfNums]; exact hj), Array.getElem?_map]
  have e1 : (strOfNums xs).data[j]? = some (UInt8.ofNat (xs[j]).toNat) := by
    unfold strOfNums
    rw [List.getElem?_toArray, List.getElem?_map, List.getElem?_eq_getElem hj]
    rfl
  rw [e1, List.getElem?_toArray, List.getElem?_map, List.getElem?_eq_getElem hj]
  simp only [Option.map_some]
  rw [UInt8.toNat_ofNat', Nat.mod_eq_of_lt (by omega)]
  congr 2
  exact Int.toNat_of_nonneg hbx.1
theorem take_ne {α : Type} {xs ys : List α} {j : Nat} (h : xs[j]? ≠ ys[j]?) : xs ≠ ys := fun e => h (by rw [e])
theorem isB_lit {xs : List Int} (h : xs.all (fun x => decide (isB x)) = true) : ∀ x ∈ xs, isB x := by
  intro x hx
  have := List.all_eq_true.1 h x hx
  simpa using this
end Go.Oct
