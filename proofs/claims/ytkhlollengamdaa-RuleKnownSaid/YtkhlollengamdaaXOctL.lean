/- A step of the road to this law: a generator of conditions over the model of the code, or a lemma on rows in the heap. No conditions. -/
import Derived.Test.YtkhlollengamdaaXOctH
set_option linter.unusedSimpArgs false
set_option linter.unusedVariables false
namespace Go.Oct

/-! ### cells from a place on -/
def At (h : H) (b o : Nat) (l : List Value) : Prop := ∀ (j : Nat) (v : Value), l[j]? = some v → cellH h ⟨b, o + j, none⟩ = some v
theorem Blk.at_ {h : H} {b : Nat} {cs : Array Value} {e : TypeId} (k : Blk h b cs e) : At h b 0 cs.toList := fun j v hv => by
  rw [k.cell, Nat.zero_add, ← hv]; simp
theorem At.ext {h h' : H} {b o : Nat} {l : List Value} (a : At h b o l) (x : Ext h h') : At h' b o l := fun j v hv => x.cell (a j v hv)
theorem At.mod {h h' : H} {S : Nat → Prop} {b o : Nat} {l : List Value} (a : At h b o l) (x : Mod h h' S) (hs : ¬ S b) : At h' b o l := fun j v hv => Mod.cell x (a j v hv) hs
theorem At.cell {h : H} {b o : Nat} {l : List Value} (a : At h b o l) {j : Nat} {v : Value} (hv : l[j]? = some v) : cellH h ⟨b, o + j, none⟩ = some v := a j v hv
theorem asI_of {κ : IntKind} {x : Int} {k : Int → Prop} (h : k x) : asI κ (.int κ x) k := ⟨x, rfl, h⟩
theorem asB_of {x : Bool} {k : Bool → Prop} (h : k x) : asB (.bool x) k := ⟨x, rfl, h⟩
theorem asStr_of {x : ByteArray} {k : ByteArray → Prop} (h : k x) : asStr (.string x) k := ⟨x, rfl, h⟩
theorem asP_of {x : Option Addr} {k : Option Addr → Prop} (h : k x) : asP (.pointer x) k := ⟨x, rfl, h⟩
theorem asS_of {A : Option Addr} {n c : Nat} {k : Option Addr → Nat → Nat → Prop} (h : k A n c) : asS (.slice A n c) k := ⟨A, n, c, rfl, h⟩
theorem asA_of {n : Nat} {cs : Array Value} {k : Array Value → Prop} (hn : cs.size = n) (h : k cs) : asA n (.agg cs) k := ⟨cs, rfl, hn, h⟩
theorem asT2_of {a b : Value} {k : Value → Value → Prop} (h : k a b) : asT2 (.tuple #[a, b]) k := ⟨a, b, rfl, h⟩
theorem asT3_of {a b c : Value} {k : Value → Value → Value → Prop} (h : k a b c) : asT3 (.tuple #[a, b, c]) k := ⟨a, b, c, rfl, h⟩
theorem addrK_of {b o n q : Nat} {k : Option Addr → Prop} (hq : q = o + n) (h : k (some ⟨b, q, none⟩)) : addrK (some ⟨b, o, none⟩) n k := by subst hq; rw [addrK_mk]; exact h
theorem At.load1 {h : H} {b o : Nat} {l : List Value} (a : At h b o l) (j : Nat) {q : Nat} {v : Value} {k : Value → Prop} (hq : q = o + j) (hv : l[j]? = some v) (hk : k v) : load1 (some ⟨b, q, none⟩) h k := by
  subst hq
  rw [load1_some]
  exact ⟨v, a.cell hv, hk⟩
theorem At.loadS1 {h : H} {b o : Nat} {l : List Value} (a : At h b o l) (j : Nat) {q : Nat} {v : Value} {k : Value → Prop} (hq : q = o + j) (hv : l[j]? = some v) (hk : k v) : loadS1 (fun g => Ext h g) (some ⟨b, q, none⟩) k := by
  subst hq
  exact loadS1_some (fun g hg => (a.ext hg).cell hv) hk
theorem At.cells {h : H} {b o : Nat} {l : List Value} (a : At h b o l) {j : Nat} (hj : j < l.length) : cellH h ((⟨b, o, none⟩ : Addr).add j) = l.toArray[j]? := by
  rw [add_mk, a.cell (List.getElem?_eq_getElem hj)]
  simp [hj]
theorem At.loadN {h : H} {b o n : Nat} {l : List Value} (a : At h b o l) {k : Array Value → Prop} (hn : l.length = n) (hk : k l.toArray) : loadN n (some ⟨b, o, none⟩) h k :=
  ⟨_, _, rfl, by simpa using hn, fun j hj => a.cells (by omega), hk⟩
theorem At.loadSN {h : H} {b o n : Nat} {l : List Value} (a : At h b o l) {k : Array Value → Prop} (hn : l.length = n) (hk : k l.toArray) : loadSN n (fun g => Ext h g) (some ⟨b, o, none⟩) k :=
  ⟨_, _, rfl, by simpa using hn, fun g hg j hj => (a.ext hg).cells (by omega), hk⟩

/-- xs[i], of a row of one-cell elements. -/
theorem row_load {α : Type} {f : α → Value} {h : H} {A : Option Addr} {n : Nat} {xs : List α} (r : RowH h A n (xs.map f).toArray) {i : Int} {j : Nat} {x : α} (hi : i = j) (hx : xs[j]? = some x) {k : Value → Prop} (hk : k (f x)) : indexK 1 A n i (fun p => load1 p h k) := by
  subst hi
  have hj : j < xs.length := (List.getElem?_eq_some_iff.1 hx).1
  have hn : xs.length = n := by simpa using r.1
  obtain ⟨ad, rfl, hc⟩ := r.2 (by omega)
  refine ⟨ad, rfl, by omega, by omega, ?_⟩
  rw [Int.toNat_natCast, Nat.mul_one]
  show load1 _ _ _
  rw [load1_some]
  refine ⟨_, ?_, hk⟩
  rw [hc j (by omega)]
  simp [hx]

theorem row_loadS {α : Type} {f : α → Value} {h : H} {A : Option Addr} {n : Nat} {xs : List α} (r : RowH h A n (xs.map f).toArray) {i : Int} {j : Nat} {x : α} (hi : i = j) (hx : xs[j]? = some x) {k : Value → Prop} (hk : k (f x)) : indexK 1 A n i (fun p => loadS1 (fun g => Ext h g) p k) := by
  subst hi
  have hj : j < xs.length := (List.getElem?_eq_some_iff.1 hx).1
  have hn : xs.length = n := by simpa using r.1
  obtain ⟨ad, rfl, hc⟩ := r.2 (by omega)
  refine ⟨ad, rfl, by omega, by omega, ?_⟩
  rw [Int.toNat_natCast, Nat.mul_one]
  refine loadS1_some (v := f x) (fun g hg => hg.cell ?_) hk
  rw [hc j (by omega)]
  simp [hx]
/-- xs[lo:hi], of a row of one-cell elements that is read. -/
theorem row_slice {α : Type} {f : α → Value} {h : H} {A : Option Addr} {n c : Nat} {xs : List α} (r : RowH h A n (xs.map f).toArray) (hc : n ≤ c) {lo hi : Option Int} {l u : Nat} (hl : lo.getD 0 = l) (hu : hi.getD n = u) (h1 : l ≤ u) (h2 : u ≤ n) {k : Option Addr → Nat → Nat → Prop}
    (hk : ∀ A' c', RowH h A' (u - l) (((xs.drop l).take (u - l)).map f).toArray → u - l ≤ c' → (A' = none → A = none) → (∀ i, blkOf A' i → blkOf A i) → k A' (u - l) c') : sliceK 1 A n c lo hi none k := by
  have hn : xs.length = n := by simpa using r.1
  unfold sliceK
  simp only [Option.getD_none, hl, hu]
  refine ⟨by omega, by omega, by omega, by omega, ?_⟩
  simp only [Int.toNat_natCast, Nat.mul_one]
  have e : ∀ (zs : List α), ((zs.drop l).take (u - l)).map f = ((zs.map f).drop l).take (u - l) := by intro zs; simp
  by_cases hcl : c = l
  · rw [if_pos hcl]
    have : u - l = 0 := by omega
    rw [this]
    exact hk A (c - l) (by rw [this]; exact RowH.nil) (by omega) (fun e => e) (fun i e => e) |> fun t => by rw [this] at t; exact t
  · rw [if_neg hcl]
    refine hk _ _ ?_ (by omega) (by cases A <;> simp) ?_
    · have := r.part l (u - l) (by omega)
      rw [e]
      simpa [List.extract_toArray, List.extract_eq_take_drop] using this
    · rintro i ⟨ad, ha, rfl⟩
      cases A with
      | none => cases ha
      | some a => cases ha; exact ⟨a, rfl, by rw [add_block]⟩

/-- xs[l:u:m] -/
theorem row_slice3 {α : Type} {f : α → Value} {h : H} {A : Option Addr} {n c : Nat} {xs : List α} (r : RowH h A n (xs.map f).toArray) (hc : n ≤ c) {lo hi mx : Option Int} {l u m : Nat} (hl : lo.getD 0 = l) (hu : hi.getD n = u) (hm : mx.getD c = m) (h1 : l ≤ u) (h2 : u ≤ n) (h3 : u ≤ m) (h4 : m ≤ c) {k : Option Addr → Nat → Nat → Prop}
    (hk : ∀ A', RowH h A' (u - l) (((xs.drop l).take (u - l)).map f).toArray → (∀ i, blkOf A' i → blkOf A i) → k A' (u - l) (m - l)) : sliceK 1 A n c lo hi mx k := by
  have hn : xs.length = n := by simpa using r.1
  unfold sliceK
  simp only [hl, hu, hm]
  refine ⟨by omega, by omega, by omega, by omega, ?_⟩
  simp only [Int.toNat_natCast, Nat.mul_one]
  have e : ∀ (zs : List α), ((zs.drop l).take (u - l)).map f = ((zs.map f).drop l).take (u - l) := by intro zs; simp
  by_cases hcl : m = l
  · rw [if_pos hcl]
    have : u - l = 0 := by omega
    rw [this]
    exact hk A (by rw [this]; exact RowH.nil) (fun i e => e) |> fun t => by rw [this] at t; exact t
  · rw [if_neg hcl]
    refine hk _ ?_ ?_
    · have := r.part l (u - l) (by omega)
      rw [e]
      simpa [List.extract_toArray, List.extract_eq_take_drop] using this
    · rintro i ⟨ad, ha, rfl⟩
      cases A with
      | none => cases ha
      | some a => cases ha; exact ⟨a, rfl, by rw [add_block]⟩

/-- A literal's row, as a source. -/
theorem src_blk {h : H} {b sz m c e : Nat} {cs : Array Value} (hb : Blk h b cs e) (hs : cs.size = m * sz) {k : Array Value → Nat → Prop} (hk : k cs m) : srcK sz (.slice (some ⟨b, 0, none⟩) m c) h k := by
  have := hb.row 0 (m * sz) (by omega)
  rw [Nat.zero_add, ← hs, Array.extract_size, hs] at this
  exact ⟨_, _, _, _, rfl, this, hk⟩

/-! ### a list in a row of the call's own -/
section
variable {α : Type} {f : α → List Value} {sz : Nat}
def cellsOf (f : α → List Value) (xs : List α) : Array Value := (xs.flatMap f).toArray
theorem flat_length (hf : ∀ x, (f x).length = sz) : ∀ xs : List α, (xs.flatMap f).length = xs.length * sz
  | [] => by simp
  | x :: r => by rw [List.flatMap_cons, List.length_append, hf, flat_length hf r, List.length_cons, Nat.add_mul]; omega
theorem cellsOf_size (hf : ∀ x, (f x).length = sz) (xs : List α) : (cellsOf f xs).size = xs.length * sz := by rw [cellsOf, List.size_toArray, flat_length hf]
theorem flat_get (hf : ∀ x, (f x).length = sz) : ∀ (xs : List α) (i j : Nat) (x : α), xs[i]? = some x → j < sz → (xs.flatMap f)[i * sz + j]? = (f x)[j]?
  | [], i, j, x, hx, hj => by simp at hx
  | y :: r, 0, j, x, hx, hj => by
    simp at hx
    subst hx
    rw [List.flatMap_cons, List.getElem?_append_left (by rw [hf]; omega), Nat.zero_mul, Nat.zero_add]
  | y :: r, i + 1, j, x, hx, hj => by
    rw [List.flatMap_cons, List.getElem?_append_right (by rw [hf, Nat.add_mul]; omega), hf]
    rw [List.getElem?_cons_succ] at hx
    rw [← flat_get hf r i j x hx hj]
    congr 1
    rw [Nat.add_mul]; omega
theorem cellsOf_push (xs : List α) (x : α) : cellsOf f xs ++ (f x).toArray = cellsOf f (xs ++ [x]) := by
  simp [cellsOf]
theorem flat_take (hf : ∀ x, (f x).length = sz) : ∀ (xs : List α) (m : Nat), m ≤ xs.length → (xs.flatMap f).take (m * sz) = (xs.take m).flatMap f
  | xs, 0, _ => by simp
  | [], m + 1, h => by simp
  | x :: r, m + 1, h => by
    simp only [List.length_cons] at h
    rw [List.flatMap_cons, List.take_succ_cons, List.flatMap_cons, ← flat_take hf r m (by omega), List.take_append, hf, List.take_of_length_le (by rw [hf, Nat.add_mul]; omega)]
    congr 2
    rw [Nat.add_mul]; omega

/-- The slice value A, n, c owns a row from base on whose elements are xs. -/
def Lst (h : H) (base : Nat) (e : TypeId) (f : α → List Value) (sz : Nat) (A : Option Addr) (n c : Nat) (xs : List α) : Prop := xs.length = n ∧ Own h base e sz A n c (cellsOf f xs)
variable {h h' : H} {base e : Nat} {A : Option Addr} {n c : Nat} {xs : List α}
theorem Lst.nil : Lst h base e f sz none 0 0 [] := ⟨rfl, by simpa [cellsOf] using (Own.nil : Own h base e sz none 0 0 #[])⟩
theorem Lst.ext (l : Lst h base e f sz A n c xs) (x : Ext h h') : Lst h' base e f sz A n c xs := ⟨l.1, l.2.ext x⟩
theorem Lst.mod {S : Nat → Prop} (l : Lst h base e f sz A n c xs) (x : Mod h h' S) (hs : ∀ i, blkOf A i → ¬ S i) : Lst h' base e f sz A n c xs := ⟨l.1, l.2.mod x hs⟩
theorem Own.blk {cs : Array Value} (o : Own h base e sz A n c cs) {i : Nat} (hi : blkOf A i) : ∃ cur, Blk h i cur e := by
  obtain ⟨ad, ha, rfl⟩ := hi
  rcases o.2 with ⟨rfl, _⟩ | ⟨b, cur, rfl, hb, hk, _⟩
  · cases ha
  · cases ha; exact ⟨cur, hk⟩
theorem Own.disj {base' e' sz' : Nat} {A' : Option Addr} {n' c' : Nat} {cs cs' : Array Value} (o : Own h base e sz A n c cs) (o' : Own h base' e' sz' A' n' c' cs') (he : e ≠ e') : ∀ i, blkOf A i → ¬ blkOf A' i := by
  intro i h1 h2
  obtain ⟨_, k1⟩ := o.blk h1
  obtain ⟨_, k2⟩ := o'.blk h2
  exact he (k1.inj k2).2
theorem Own.not_blk {cs : Array Value} (o : Own h base e sz A n c cs) {e' : Nat} (he : e ≠ e') : ∀ i cur, blkOf A i → ¬ Blk h i cur e' := by
  intro i cur h1 h2
  obtain ⟨_, k1⟩ := o.blk h1
  exact he (k1.inj h2).2
theorem Own.ne_blk {cs cur : Array Value} {b e' : Nat} (o : Own h base e sz A n c cs) (k : Blk h b cur e') (he : e ≠ e') : ∀ i, blkOf A i → i ≠ b := by
  rintro i h1 rfl
  obtain ⟨_, k1⟩ := o.blk h1
  exact he (k1.inj k).2
theorem Lst.at_ (hf : ∀ x, (f x).length = sz) (l : Lst h base e f sz A n c xs) {i : Nat} {x : α} (hx : xs[i]? = some x) : ∃ b, A = some ⟨b, 0, none⟩ ∧ base ≤ b ∧ At h b (i * sz) (f x) := by
  obtain ⟨h1, hs, h2⟩ := l
  have hi : i < xs.length := (List.getElem?_eq_some_iff.1 hx).1
  rcases h2 with ⟨_, h2, _⟩ | ⟨b, cur, rfl, hb, hk, h4, h5, h6⟩
  · omega
  · have hle : n * sz ≤ cur.size := by rw [h4]; exact Nat.mul_le_mul_right _ h5
    have hmul : (i + 1) * sz ≤ n * sz := Nat.mul_le_mul_right _ (by omega)
    rw [Nat.add_mul, Nat.one_mul] at hmul
    refine ⟨b, rfl, hb, fun j v hv => ?_⟩
    have hj := (List.getElem?_eq_some_iff.1 hv).1
    rw [hf] at hj
    have h7 : (cur.extract 0 (n * sz))[i * sz + j]? = (cellsOf f xs)[i * sz + j]? := by rw [h6]
    rw [Array.getElem?_extract, if_pos (by omega), Nat.zero_add] at h7
    rw [hk.cell, h7, cellsOf, List.getElem?_toArray, flat_get hf xs i j x hx hj, hv]
/-- &xs[i] -/
theorem Lst.index (hf : ∀ x, (f x).length = sz) (l : Lst h base e f sz A n c xs) {i : Int} {j : Nat} {x : α} (hi : i = j) (hx : xs[j]? = some x) {k : Option Addr → Prop} (hk : ∀ b, A = some ⟨b, 0, none⟩ → At h b (j * sz) (f x) → k (some ⟨b, j * sz, none⟩)) : indexK sz A n i k := by
  obtain ⟨b, rfl, hb, ha⟩ := l.at_ hf hx
  have hj : j < xs.length := (List.getElem?_eq_some_iff.1 hx).1
  rw [indexK_some]
  subst hi
  have h1 := l.1
  refine ⟨by omega, by omega, ?_⟩
  rw [Int.toNat_natCast, Nat.zero_add]
  exact hk b rfl ha
/-- &xs[i], of a row that is read -/
theorem rowL_index (hf : ∀ x, (f x).length = sz) (hsz : 0 < sz) (r : RowH h A (n * sz) (cellsOf f xs)) {i : Int} {j : Nat} {x : α} (hi : i = j) (hx : xs[j]? = some x) {k : Option Addr → Prop} (hk : ∀ b q, blkOf A b → At h b q (f x) → k (some ⟨b, q, none⟩)) : indexK sz A n i k := by
  have hj : j < xs.length := (List.getElem?_eq_some_iff.1 hx).1
  have hs := r.1
  rw [cellsOf_size hf] at hs
  have hn : xs.length = n := Nat.eq_of_mul_eq_mul_right hsz hs
  have hpos : 0 < n * sz := Nat.mul_pos (by omega) hsz
  obtain ⟨ad, rfl, hc⟩ := r.2 hpos
  have hfl : ∀ m, m < sz → (cellsOf f xs)[j * sz + m]? = (f x)[m]? := fun m hm => by rw [cellsOf, List.getElem?_toArray, flat_get hf xs j m x hx hm]
  have hmul : (j + 1) * sz ≤ n * sz := Nat.mul_le_mul_right _ (by omega)
  rw [Nat.add_mul, Nat.one_mul] at hmul
  have hsp : ad.spot = none := by
    have h1 := hc 0 hpos
    have h2 : 0 < (cellsOf f xs).size := by rw [cellsOf_size hf]; omega
    rw [Array.getElem?_eq_getElem h2] at h1
    have h0 : ad.add 0 = ad := by simp [Addr.add]
    rw [h0] at h1
    unfold cellH at h1
    split at h1
    · split at h1
      · cases h1
      · rename_i h3; simpa using h3
    · cases h1
  obtain ⟨b, o, sp⟩ := ad
  simp only at hsp
  subst hsp
  rw [indexK_some]
  subst hi
  refine ⟨by omega, by omega, ?_⟩
  rw [Int.toNat_natCast]
  refine hk b _ ⟨_, rfl, rfl⟩ fun m v hv => ?_
  have hm : m < sz := by rw [← hf x]; exact (List.getElem?_eq_some_iff.1 hv).1
  have h4 := hc (j * sz + m) (by omega)
  rw [add_mk, hfl m hm, hv] at h4
  rw [← h4]
  congr 2
  omega
/-- append(xs, x) -/
theorem Lst.push (hf : ∀ x, (f x).length = sz) (l : Lst h base e f sz A n c xs) {bytes : Nat} {zero : Array Value} (x : α) {k : Option Addr → Nat → Nat → H → Prop} (hz : zero.size = sz) (h1 : OneCells (f x)) (hb : 0 < bytes) (hbase : base ≤ h.size) (hlen : (2 * (n + 1) + 192) * bytes ≤ 281474976710656)
    (hk : ∀ A' c' h', Lst h' base e f sz A' (n + 1) c' (xs ++ [x]) → Mod h h' (blkOf A) → (∀ i, blkOf A' i → blkOf A i ∨ h.size ≤ i) → k A' (n + 1) c' h') :
    appendK e sz bytes zero A n c (f x).toArray 1 h k := by
  refine append_own (m := 1) l.2 hz (by simpa using h1) (by simp [hf]) hb hbase hlen fun A' c' h' o m1 d => hk A' c' h' ⟨by simp [l.1], ?_⟩ m1 d
  rw [← cellsOf_push]
  exact o
/-- xs[:m] -/
theorem Lst.take (hf : ∀ x, (f x).length = sz) (l : Lst h base e f sz A n c xs) {i : Int} {m : Nat} (hi : i = m) (hm : m ≤ n) {k : Option Addr → Nat → Nat → Prop} (hk : Lst h base e f sz A m c (xs.take m) → k A m c) : sliceK sz A n c none (some i) none k := by
  subst hi
  unfold sliceK
  have hl := l.2.le
  have h1 := l.1
  have hA : (A.map fun x => x.add 0) = A := by cases A <;> simp [Addr.add]
  simp only [Option.getD_none, Option.getD_some]
  refine ⟨by omega, by omega, by omega, by omega, ?_⟩
  simp only [Int.toNat_natCast, Int.toNat_zero, Nat.sub_zero, Nat.zero_mul, hA, ite_self]
  refine hk ⟨by simp; omega, ?_⟩
  have := l.2.take m hm
  rwa [cellsOf, List.extract_toArray, List.extract_eq_take_drop, List.drop_zero, Nat.sub_zero, flat_take hf xs m (by omega)] at this
end
/-! one cell per element -/
section
variable {α : Type} {f : α → Value} {h h' : H} {base e : Nat} {A : Option Addr} {n c : Nat} {xs : List α}
theorem over_one (cs : Array Value) (o : Nat) (v : Value) : over cs o [v] = cs.setIfInBounds o v := rfl
theorem flat_one : ∀ xs : List α, xs.flatMap (fun x => [f x]) = xs.map f
  | [] => rfl
  | x :: r => by rw [List.flatMap_cons, flat_one r]; rfl
/-- xs[i] = y -/
theorem Lst.put (l : Lst h base e (fun x => [f x]) 1 A n c xs) {i : Int} {j : Nat} (hi : i = j) (hj : j < xs.length) (y : α) (h1 : (f y).oneCell' = true) {k : H → Prop}
    (hk : ∀ h', Lst h' base e (fun x => [f x]) 1 A n c (xs.set j y) → Mod h h' (blkOf A) → k h') : indexK 1 A n i (fun p => storeK 1 p #[f y] h k) := by
  obtain ⟨b, rfl, hb, ha⟩ := Lst.at_ (f := fun x => [f x]) (sz := 1) (fun _ => rfl) l (List.getElem?_eq_getElem hj)
  have hn := l.1
  rcases l.2.2 with ⟨h2, _, _⟩ | ⟨b', cur, h2, h3, h4, h5, h6, h7⟩
  · cases h2
  · cases h2
    rw [indexK_some]
    subst hi
    rw [Nat.mul_one] at h5 h7
    refine ⟨by omega, by omega, ?_⟩
    rw [Int.toNat_natCast, Nat.zero_add, Nat.mul_one]
    refine store_blk h4 rfl (by show j + 1 ≤ _; omega) (by simpa [OneCells] using h1) fun h' hb' m' => hk h' ⟨by simpa using hn, ?_⟩ (m'.mono fun i _ hi => ⟨_, rfl, hi.symm⟩)
    refine ⟨by rw [cellsOf, List.size_toArray, flat_one]; simp; omega, .inr ⟨b, _, rfl, h3, hb', by simp [over_one, h5], h6, ?_⟩⟩
    rw [Nat.mul_one]
    rw [cellsOf, flat_one] at h7 ⊢
    apply Array.ext'
    have h8 := congrArg Array.toList h7
    simp only [over_one, Array.toList_extract, Array.toList_setIfInBounds, List.extract_eq_take_drop, List.drop_zero, Nat.sub_zero] at h8 ⊢
    rw [List.take_set, h8, List.map_set]
theorem Lst.row (l : Lst h base e (fun x => [f x]) 1 A n c xs) : RowH h A n (xs.map f).toArray := by
  have := l.2.row
  rwa [cellsOf, flat_one, Nat.mul_one] at this
theorem Lst.weaken {base' : Nat} (l : Lst h base e (fun x => [f x]) 1 A n c xs) (hb : base' ≤ base) : Lst h base' e (fun x => [f x]) 1 A n c xs := ⟨l.1, l.2.weaken hb⟩
theorem src_row {sz m : Nat} {cs : Array Value} {k : Array Value → Nat → Prop} (r : RowH h A (m * sz) cs) (hk : k cs m) : srcK sz (.slice A m c) h k := ⟨_, _, _, _, rfl, r, hk⟩
/-- a row as a source -/
theorem src_one {m : Nat} {k : Array Value → Nat → Prop} (r : RowH h A m (xs.map f).toArray) (hk : k (xs.map f).toArray m) : srcK 1 (.slice A m c) h k := src_row (by rw [Nat.mul_one]; exact r) hk
/-- append(xs, ys...) -/
theorem Lst.appends (l : Lst h base e (fun x => [f x]) 1 A n c xs) {bytes m : Nat} {zero : Array Value} (ys : List α) {k : Option Addr → Nat → Nat → H → Prop} (hm : ys.length = m) (hz : zero.size = 1) (h1 : ∀ y, (f y).oneCell' = true) (hb : 0 < bytes) (hbase : base ≤ h.size) (hlen : (2 * (n + m) + 192) * bytes ≤ 281474976710656)
    (hk : ∀ A' c' h', Lst h' base e (fun x => [f x]) 1 A' (n + m) c' (xs ++ ys) → Mod h h' (blkOf A) → (∀ i, blkOf A' i → blkOf A i ∨ h.size ≤ i) → k A' (n + m) c' h') :
    appendK e 1 bytes zero A n c (ys.map f).toArray m h k := by
  refine append_own (m := m) l.2 hz (by simp [OneCells, h1]) (by simp [hm]) hb hbase hlen fun A' c' h' o m1 d => hk A' c' h' ⟨by simp [l.1, hm], ?_⟩ m1 d
  have e1 : cellsOf (fun x => [f x]) (xs ++ ys) = cellsOf (fun x => [f x]) xs ++ (ys.map f).toArray := by simp only [cellsOf, flat_one]; simp
  rw [e1]
  exact o
/-- the same, with what is told of the old row -/
theorem Lst.appends2 (l : Lst h base e (fun x => [f x]) 1 A n c xs) {bytes m : Nat} {zero : Array Value} (ys : List α) {k : Option Addr → Nat → Nat → H → Prop} (hm : ys.length = m) (hz : zero.size = 1) (h1 : ∀ y, (f y).oneCell' = true) (hb : 0 < bytes) (hbase : base ≤ h.size) (hlen : (2 * (n + m) + 192) * bytes ≤ 281474976710656)
    (hk : ∀ A' c' h', Lst h' base e (fun x => [f x]) 1 A' (n + m) c' (xs ++ ys) → Mod h h' (blkOf A) → (∀ i, blkOf A' i → blkOf A i ∨ h.size ≤ i) → RowH h' A n (xs.map f).toArray → (∀ i, blkOf A i → ∃ cur, Blk h' i cur e) → k A' (n + m) c' h') :
    appendK e 1 bytes zero A n c (ys.map f).toArray m h k := by
  refine append_own2 (m := m) l.2 hz (by simp [OneCells, h1]) (by simp [hm]) hb hbase hlen fun A' c' h' o m1 d r t => hk A' c' h' ⟨by simp [l.1, hm], ?_⟩ m1 d ?_ t
  · have e1 : cellsOf (fun x => [f x]) (xs ++ ys) = cellsOf (fun x => [f x]) xs ++ (ys.map f).toArray := by simp only [cellsOf, flat_one]; simp
    rw [e1]
    exact o
  · rwa [cellsOf, flat_one, Nat.mul_one] at r
/-- make([]T, m) -/
theorem made_one {bytes : Nat} {z : α} {l : Int} {m : Nat} {k : Option Addr → Nat → Nat → H → Prop} (hl : l = m) (hlen : bytes * m ≤ 281474976710656) (hm : m ≤ 9223372036854775807)
    (hk : ∀ b h', Lst h' h.size e (fun x => [f x]) 1 (some ⟨b, 0, none⟩) m m (List.replicate m z) → h.size ≤ b → Ext h h' → k (some ⟨b, 0, none⟩) m m h') : makeK e 1 bytes #[f z] l l h k := by
  subst hl
  have e48 : (2 : Int) ^ 48 = 281474976710656 := by decide
  have h2 : ((bytes * m : Nat) : Int) ≤ 281474976710656 := Int.ofNat_le.2 hlen
  rw [Int.natCast_mul] at h2
  refine ⟨by omega, by omega, by omega, by rw [e48]; exact h2, ?_⟩
  simp only [Int.toNat_natCast, Nat.mul_one]
  refine hk h.size _ ⟨by simp, ?_⟩ (Nat.le_refl _) (Ext.push h _)
  have e1 : madeCells #[f z] m = cellsOf (fun x => [f x]) (List.replicate m z) := by
    rw [cellsOf, flat_one]
    apply Array.ext'
    simp [madeCells, List.map_const']
    apply List.ext_getElem
    · simp
    · intro i h1 h2
      simp [Nat.mod_one]
  rw [← e1]
  exact Own.of_blk (Nat.le_refl _) (Blk.new _ _ _) (by simp [madeCells])
theorem over_list : ∀ (vs : List Value) (cs : Array Value) (o : Nat), o + vs.length ≤ cs.size → (over cs o vs).toList = cs.toList.take o ++ vs ++ cs.toList.drop (o + vs.length)
  | [], cs, o, _ => by simp [over]
  | v :: r, cs, o, h => by
    simp only [List.length_cons] at h ⊢
    rw [over, over_list r _ _ (by simp; omega), Array.toList_setIfInBounds]
    have ho : o < cs.toList.length := by simp; omega
    rw [List.take_succ_eq_append_getElem (by simpa using ho), List.getElem_set_self, List.take_set_of_le (Nat.le_refl _), List.drop_set_of_lt (by omega)]
    simp [Nat.add_assoc, Nat.add_comm 1]
/-- copy(xs[o:], ys) with room -/
theorem Lst.copy (l : Lst h base e (fun x => [f x]) 1 A n c xs) {o m m' : Nat} {B : Option Addr} (ys : List α) (hy : RowH h B m (ys.map f).toArray) (h1 : ∀ y, (f y).oneCell' = true) (hm : 0 < m) (ho : o + m ≤ n) (hm' : m ≤ m') {A' : Option Addr} (hA : A' = A.map (·.add o)) {k : H → Prop}
    (hk : ∀ h', Lst h' base e (fun x => [f x]) 1 A n c (xs.take o ++ ys ++ xs.drop (o + m)) → Mod h h' (blkOf A) → k h') : copyK 1 A' m' B m h k := by
  have hl : ys.length = m := by simpa using hy.1
  have hn := l.1
  rcases l.2.2 with ⟨_, h2, _⟩ | ⟨b, cur, rfl, h3, h4, h5, h6, h7⟩
  · omega
  · rw [Nat.mul_one] at h5 h7
    have hmin : Nat.min m m' = m := Nat.min_eq_left hm'
    subst hA
    refine ⟨(ys.map f).toArray, by rw [hmin, Nat.mul_one]; exact hy, by simp [OneCells, h1], ?_⟩
    simp only [Option.map_some, hmin, Nat.mul_one, add_mk, Nat.zero_add]
    obtain ⟨k1, k2⟩ := setsH_blk (o := o) (ys.map f).toArray.toList 0 h cur h4
    refine ⟨mayWrite_blk h4 (by omega), hk _ ⟨by simp [hl]; omega, by simp [cellsOf, flat_one, hl]; omega, .inr ⟨b, _, rfl, h3, k1, by rw [over_size]; simpa using h5, h6, ?_⟩⟩ (k2.mono fun i _ hi => ⟨_, rfl, hi.symm⟩)⟩
    rw [Nat.mul_one, Nat.add_zero]
    rw [cellsOf, flat_one] at h7 ⊢
    apply Array.ext'
    have h8 := congrArg Array.toList h7
    simp only [Array.toList_extract, List.extract_eq_take_drop, List.drop_zero, Nat.sub_zero] at h8 ⊢
    rw [over_list _ _ _ (by simp [hl]; omega)]
    simp only [List.map_append, List.map_take, List.map_drop] at h8 ⊢
    rw [← h8]
    have hcl : n ≤ cur.toList.length := by simp; omega
    have hP : (List.take o cur.toList ++ List.map f ys).length = o + m := by
      simp only [List.length_append, List.length_take, List.length_map, hl]
      omega
    simp only [List.length_map, hl]
    rw [List.take_append, List.take_of_length_le (l := List.take o cur.toList ++ List.map f ys) (by omega), hP, List.take_take, Nat.min_eq_left (by omega), List.drop_take]
theorem copy_zero {A' B : Option Addr} {m m' : Nat} {k : H → Prop} (hm : Nat.min m m' = 0) (hk : k h) : copyK 1 A' m' B m h k := by
  refine ⟨#[], by rw [hm, Nat.zero_mul]; exact RowH.nil, by simp [OneCells], ?_⟩
  rw [hm, Nat.zero_mul]
  cases A' with
  | none => exact ⟨rfl, hk⟩
  | some ad => exact ⟨fun j hj => absurd hj (Nat.not_lt_zero j), hk⟩
/-- copy(xs[o:], ys), of any length that has room -/
theorem Lst.copies (l : Lst h base e (fun x => [f x]) 1 A n c xs) {o m m' : Nat} {B : Option Addr} (ys : List α) (hy : RowH h B m (ys.map f).toArray) (h1 : ∀ y, (f y).oneCell' = true) (ho : o + m ≤ n) (hm' : m ≤ m') {A' : Option Addr} (hA : 0 < m → A' = A.map (·.add o)) {k : H → Prop}
    (hk : ∀ h', Lst h' base e (fun x => [f x]) 1 A n c (xs.take o ++ ys ++ xs.drop (o + m)) → Mod h h' (blkOf A) → k h') : copyK 1 A' m' B m h k := by
  rcases Nat.eq_zero_or_pos m with hm | hm
  · subst hm
    have hl : ys = [] := List.length_eq_zero_iff.1 (by simpa using hy.1)
    subst hl
    refine copy_zero (Nat.zero_min _) (hk h ?_ (Mod.refl _ _))
    simpa using l
  · exact l.copy ys hy h1 hm ho hm' (hA hm) hk
end
end Go.Oct
