/- A step of the road to this law: a generator of conditions over the model of the code, or a lemma on rows in the heap. No conditions. -/
import Derived.Test.YtkhlollengamdaaXOctF
set_option linter.unusedSimpArgs false
set_option linter.unusedVariables false
namespace Go.Oct

/-! ### the words, at values of the right kind -/
theorem asI_mk {κ : IntKind} {x : Int} {k : Int → Prop} : asI κ (.int κ x) k = k x := propext ⟨fun ⟨_, e, h⟩ => by cases e; exact h, fun h => ⟨x, rfl, h⟩⟩
theorem asB_mk {x : Bool} {k : Bool → Prop} : asB (.bool x) k = k x := propext ⟨fun ⟨_, e, h⟩ => by cases e; exact h, fun h => ⟨x, rfl, h⟩⟩
theorem asStr_mk {x : ByteArray} {k : ByteArray → Prop} : asStr (.string x) k = k x := propext ⟨fun ⟨_, e, h⟩ => by cases e; exact h, fun h => ⟨x, rfl, h⟩⟩
theorem asP_mk {x : Option Addr} {k : Option Addr → Prop} : asP (.pointer x) k = k x := propext ⟨fun ⟨_, e, h⟩ => by cases e; exact h, fun h => ⟨x, rfl, h⟩⟩
theorem asS_mk {A : Option Addr} {n c : Nat} {k : Option Addr → Nat → Nat → Prop} : asS (.slice A n c) k = k A n c := propext ⟨fun ⟨_, _, _, e, h⟩ => by cases e; exact h, fun h => ⟨A, n, c, rfl, h⟩⟩
theorem asF_mk {f : FuncId} {a b : Array Value} {k : FuncId → Array Value → Array Value → Prop} : asF (.func (.func f) a b) k = k f a b := propext ⟨fun ⟨_, _, _, e, h⟩ => by cases e; exact h, fun h => ⟨f, a, b, rfl, h⟩⟩
theorem asA_mk {n : Nat} {cs : Array Value} {k : Array Value → Prop} : asA n (.agg cs) k = (cs.size = n ∧ k cs) := propext ⟨fun ⟨_, e, hs, h⟩ => by cases e; exact ⟨hs, h⟩, fun h => ⟨cs, rfl, h.1, h.2⟩⟩
theorem asT2_mk {a b : Value} {k : Value → Value → Prop} : asT2 (.tuple #[a, b]) k = k a b := propext ⟨fun ⟨_, _, e, h⟩ => by cases e; exact h, fun h => ⟨a, b, rfl, h⟩⟩
theorem asT3_mk {a b c : Value} {k : Value → Value → Value → Prop} : asT3 (.tuple #[a, b, c]) k = k a b c := propext ⟨fun ⟨_, _, _, e, h⟩ => by cases e; exact h, fun h => ⟨a, b, c, rfl, h⟩⟩
theorem asT4_mk {a b c d : Value} {k : Value → Value → Value → Value → Prop} : asT4 (.tuple #[a, b, c, d]) k = k a b c d := propext ⟨fun ⟨_, _, _, _, e, h⟩ => by cases e; exact h, fun h => ⟨a, b, c, d, rfl, h⟩⟩
theorem nilK_some {ad : Addr} {A : Prop} : nilK (some ad) A = A := propext ⟨fun h => h.2, fun h => ⟨⟨ad, rfl⟩, h⟩⟩
theorem addrK_some {ad : Addr} {n : Nat} {k : Option Addr → Prop} : addrK (some ad) n k = k (some (ad.add n)) := propext ⟨fun ⟨_, e, h⟩ => by cases e; exact h, fun h => ⟨ad, rfl, h⟩⟩
theorem load1_some {ad : Addr} {h : H} {k : Value → Prop} : load1 (some ad) h k = ∃ v, cellH h ad = some v ∧ k v := propext ⟨fun ⟨_, v, e, hc, h⟩ => by cases e; exact ⟨v, hc, h⟩, fun ⟨v, hc, h⟩ => ⟨ad, v, rfl, hc, h⟩⟩
theorem loadS1_some {ad : Addr} {S : H → Prop} {k : Value → Prop} {v : Value} (hv : ∀ g, S g → cellH g ad = some v) (h : k v) : loadS1 S (some ad) k := ⟨ad, v, rfl, hv, h⟩
theorem needK_true {c A : Prop} (h : c) : needK c A = A := propext ⟨fun x => x.2, fun x => ⟨h, x⟩⟩
theorem ifB_true {A B : Prop} : ifB true A B = A := rfl
theorem ifB_false {A B : Prop} : ifB false A B = B := rfl
theorem ifB_of {b : Bool} {A B : Prop} (h1 : b = true → A) (h2 : b = false → B) : ifB b A B := by
  cases b
  · exact h2 rfl
  · exact h1 rfl
theorem ifB_dec {p : Prop} [Decidable p] {A B : Prop} (h1 : p → A) (h2 : ¬ p → B) : ifB (decide p) A B := by
  by_cases h : p
  · rw [decide_eq_true h]; exact h1 h
  · rw [decide_eq_false h]; exact h2 h
theorem ifB_eq {x y : Int} {A B : Prop} (h1 : x = y → A) (h2 : x ≠ y → B) : ifB (x == y) A B := ifB_of (fun h => h1 (by simpa using h)) (fun h => h2 (by simpa using h))
theorem ifB_ne {x y : Int} {A B : Prop} (h1 : x ≠ y → A) (h2 : x = y → B) : ifB (x != y) A B := ifB_of (fun h => h1 (by simpa using h)) (fun h => h2 (by simpa using h))
theorem beq_dec (x y : Int) : (x == y) = decide (x = y) := by by_cases h : x = y <;> simp [h]
theorem bne_dec (x y : Int) : (x != y) = decide (¬ x = y) := by by_cases h : x = y <;> simp [h]
theorem add_mk {b o n : Nat} : (⟨b, o, none⟩ : Addr).add n = ⟨b, o + n, none⟩ := by
  unfold Addr.add
  split
  · rename_i h; subst h; rfl
  · rfl
theorem add_add {a : Addr} {m n : Nat} : (a.add m).add n = a.add (m + n) := by
  unfold Addr.add
  by_cases hm : m = 0
  · subst hm; simp
  · by_cases hn : n = 0
    · subst hn; simp
    · simp [hm, hn, Nat.add_assoc]
theorem add_zero_addr {a : Addr} : a.add 0 = a := rfl
theorem add_block {a : Addr} {n : Nat} : (a.add n).block = a.block := by unfold Addr.add; split <;> rfl

/-! ### heaps that grow; heaps that differ at some blocks alone -/
structure Mod (h h' : H) (S : Nat → Prop) : Prop where
  size : h.size ≤ h'.size
  block : ∀ i, i < h.size → ¬ S i → h'[i]? = h[i]?
def Ext (h h' : H) : Prop := Mod h h' fun _ => False
theorem Ext.refl (h : H) : Ext h h := ⟨Nat.le_refl _, fun _ _ _ => rfl⟩
theorem Mod.refl (h : H) (S : Nat → Prop) : Mod h h S := ⟨Nat.le_refl _, fun _ _ _ => rfl⟩
theorem Mod.trans {a b c : H} {S : Nat → Prop} (h : Mod a b S) (k : Mod b c S) : Mod a c S := ⟨Nat.le_trans h.size k.size, fun i hi hs => (k.block i (Nat.lt_of_lt_of_le hi h.size) hs).trans (h.block i hi hs)⟩
theorem Mod.mono {a b : H} {S T : Nat → Prop} (h : Mod a b S) (hs : ∀ i, i < a.size → S i → T i) : Mod a b T := ⟨h.size, fun i hi ht => h.block i hi fun e => ht (hs i hi e)⟩
theorem Ext.trans {a b c : H} (h : Ext a b) (k : Ext b c) : Ext a c := Mod.trans h k
theorem Ext.mod {a b : H} {S : Nat → Prop} (h : Ext a b) : Mod a b S := Mod.mono h fun _ _ e => e.elim
/-- What is changed is younger than the heap that one started from. -/
theorem Ext.then {a b c : H} {S : Nat → Prop} (h : Ext a b) (k : Mod b c S) (hs : ∀ i, S i → a.size ≤ i) : Ext a c :=
  ⟨Nat.le_trans h.size k.size, fun i hi _ => (k.block i (Nat.lt_of_lt_of_le hi h.size) (fun e => by have := hs i e; omega)).trans (h.block i hi (fun e => e))⟩
theorem Ext.at_ {a b : H} (h : Ext a b) {i : Nat} (hi : i < a.size) : b[i]? = a[i]? := h.block i hi (fun e => e)
theorem Ext.push (h : H) (o : Obj) : Ext h (h.push o) := ⟨by simp, fun i hi _ => by rw [Array.getElem?_push, if_neg (by omega)]⟩

theorem lt_of_cell {h : H} {a : Addr} {v : Value} (hc : cellH h a = some v) : a.block < h.size := by
  unfold cellH at hc
  rcases Nat.lt_or_ge a.block h.size with h' | h'
  · exact h'
  · rw [Array.getElem?_eq_none h'] at hc; cases hc
theorem Mod.cell {h h' : H} {S : Nat → Prop} (e : Mod h h' S) {a : Addr} {v : Value} (hc : cellH h a = some v) (hs : ¬ S a.block) : cellH h' a = some v := by
  have hlt := lt_of_cell hc
  unfold cellH at hc ⊢
  rw [e.block _ hlt hs]
  exact hc
theorem Ext.cell {h h' : H} (e : Ext h h') {a : Addr} {v : Value} (hc : cellH h a = some v) : cellH h' a = some v := Mod.cell e hc (fun e => e)

/-! ### rows that are read -/
theorem RowH.cell {h : H} {A : Option Addr} {n : Nat} {cs : Array Value} (r : RowH h A n cs) {i : Nat} (hi : i < n) : ∃ ad, A = some ad ∧ cellH h (ad.add i) = cs[i]? := by
  obtain ⟨ad, e, hc⟩ := r.2 (by omega)
  exact ⟨ad, e, hc i hi⟩
theorem RowH.mod {h h' : H} {S : Nat → Prop} {A : Option Addr} {n : Nat} {cs : Array Value} (r : RowH h A n cs) (e : Mod h h' S) (hs : ∀ ad, A = some ad → ¬ S ad.block) : RowH h' A n cs := by
  refine ⟨r.1, fun hn => ?_⟩
  obtain ⟨ad, ha, hc⟩ := r.2 hn
  refine ⟨ad, ha, fun j hj => ?_⟩
  have hj' : j < cs.size := by rw [r.1]; exact hj
  have h1 := hc j hj
  rw [Array.getElem?_eq_getElem hj'] at h1 ⊢
  exact e.cell h1 (by rw [add_block]; exact hs ad ha)
theorem RowH.ext {h h' : H} {A : Option Addr} {n : Nat} {cs : Array Value} (r : RowH h A n cs) (e : Ext h h') : RowH h' A n cs := r.mod e (fun _ _ e => e)
theorem RowH.nil {h : H} {A : Option Addr} : RowH h A 0 #[] := ⟨rfl, fun h => absurd h (Nat.lt_irrefl 0)⟩
/-- A part of a row. -/
theorem RowH.part {h : H} {A : Option Addr} {n : Nat} {cs : Array Value} (r : RowH h A n cs) (i m : Nat) (hi : i + m ≤ n) : RowH h (A.map (·.add i)) m (cs.extract i (i + m)) := by
  have hs := r.1
  refine ⟨by simp; omega, fun hm => ?_⟩
  obtain ⟨ad, rfl, hc⟩ := r.2 (by omega)
  refine ⟨ad.add i, rfl, fun j hj => ?_⟩
  rw [add_add, hc (i + j) (by omega)]
  simp [Array.getElem?_extract]
  omega

/-! ### blocks -/
def Blk (h : H) (b : Nat) (cs : Array Value) (e : TypeId) : Prop := h[b]? = some (.cells cs e (0, 0))
theorem Blk.lt {h : H} {b : Nat} {cs : Array Value} {e : TypeId} (k : Blk h b cs e) : b < h.size := (Array.getElem?_eq_some_iff.1 k).1
theorem Blk.cell {h : H} {b : Nat} {cs : Array Value} {e : TypeId} (k : Blk h b cs e) (i : Nat) : cellH h ⟨b, i, none⟩ = cs[i]? := by
  unfold cellH
  rw [show h[(⟨b, i, none⟩ : Addr).block]? = _ from k]
  simp
theorem Blk.frozen {h : H} {b : Nat} {cs : Array Value} {e : TypeId} (k : Blk h b cs e) (i : Nat) : frozenH h ⟨b, i, none⟩ = false := by
  unfold frozenH
  rw [show h[(⟨b, i, none⟩ : Addr).block]? = _ from k]
  simp
theorem Blk.mod {h h' : H} {S : Nat → Prop} {b : Nat} {cs : Array Value} {e : TypeId} (k : Blk h b cs e) (x : Mod h h' S) (hs : ¬ S b) : Blk h' b cs e := (x.block b k.lt hs).trans k
theorem Blk.ext {h h' : H} {b : Nat} {cs : Array Value} {e : TypeId} (k : Blk h b cs e) (x : Ext h h') : Blk h' b cs e := k.mod x (fun e => e)
theorem Blk.new (h : H) (cs : Array Value) (e : TypeId) : Blk (h.push (.cells cs e)) h.size cs e := by unfold Blk; simp
theorem Blk.inj {h : H} {b : Nat} {cs cs' : Array Value} {e e' : TypeId} (k : Blk h b cs e) (k' : Blk h b cs' e') : cs = cs' ∧ e = e' := by
  unfold Blk at k k'
  rw [k] at k'
  simp only [Option.some.injEq, Obj.cells.injEq] at k'
  exact ⟨k'.1, k'.2.1⟩
theorem Blk.row {h : H} {b : Nat} {cs : Array Value} {e : TypeId} (k : Blk h b cs e) (o n : Nat) (hn : o + n ≤ cs.size) : RowH h (some ⟨b, o, none⟩) n (cs.extract o (o + n)) := by
  refine ⟨by simp; omega, fun _ => ⟨_, rfl, fun j hj => ?_⟩⟩
  rw [add_mk, k.cell]
  simp [Array.getElem?_extract]
  omega

theorem indexK_some {sz n : Nat} {b o : Nat} {i : Int} {k : Option Addr → Prop} : indexK sz (some ⟨b, o, none⟩) n i k = (0 ≤ i ∧ i < n ∧ k (some ⟨b, o + i.toNat * sz, none⟩)) := by
  unfold indexK
  apply propext
  constructor
  · rintro ⟨ad, e, h1, h2, h3⟩
    cases e
    rw [add_mk] at h3
    exact ⟨h1, h2, h3⟩
  · rintro ⟨h1, h2, h3⟩
    exact ⟨_, rfl, h1, h2, by rw [add_mk]; exact h3⟩
theorem addrK_mk {b o n : Nat} {k : Option Addr → Prop} : addrK (some ⟨b, o, none⟩) n k = k (some ⟨b, o + n, none⟩) := by rw [addrK_some, add_mk]
/-- What a block holds, read now, or at a draw. -/
theorem load1_blk {h : H} {b o : Nat} {cs : Array Value} {e : TypeId} {k : Value → Prop} (hb : Blk h b cs e) : load1 (some ⟨b, o, none⟩) h k = ∃ v, cs[o]? = some v ∧ k v := by rw [load1_some, hb.cell]
theorem loadS1_ext {h : H} {b o : Nat} {cs : Array Value} {e : TypeId} {k : Value → Prop} (hb : Blk h b cs e) : loadS1 (fun g => Ext h g) (some ⟨b, o, none⟩) k = ∃ v, cs[o]? = some v ∧ k v := by
  apply propext
  constructor
  · rintro ⟨ad, v, e, h1, h2⟩
    cases e
    exact ⟨v, by rw [← hb.cell]; exact h1 h (Ext.refl _), h2⟩
  · rintro ⟨v, h1, h2⟩
    exact ⟨_, v, rfl, fun g hg => by rw [(hb.ext hg).cell]; exact h1, h2⟩
theorem loadN_blk {h : H} {b o n : Nat} {cs : Array Value} {e : TypeId} {k : Array Value → Prop} (hb : Blk h b cs e) (hn : o + n ≤ cs.size) : loadN n (some ⟨b, o, none⟩) h k = k (cs.extract o (o + n)) := by
  have key : ∀ j, j < n → cellH h ((⟨b, o, none⟩ : Addr).add j) = (cs.extract o (o + n))[j]? := by
    intro j hj
    rw [add_mk, hb.cell, Array.getElem?_extract, if_pos (by omega)]
  apply propext
  constructor
  · rintro ⟨ad, xs, e, h1, h2, h3⟩
    cases e
    have : xs = cs.extract o (o + n) := by
      apply Array.ext
      · simp; omega
      · intro i hi hi'
        have := h2 i (by omega)
        rw [key i (by omega), Array.getElem?_eq_getElem hi', Array.getElem?_eq_getElem hi] at this
        exact (Option.some.inj this).symm
    rw [← this]
    exact h3
  · intro h3
    exact ⟨_, _, rfl, by simp; omega, key, h3⟩
theorem loadSN_ext {h : H} {b o n : Nat} {cs : Array Value} {e : TypeId} {k : Array Value → Prop} (hb : Blk h b cs e) (hn : o + n ≤ cs.size) : loadSN n (fun g => Ext h g) (some ⟨b, o, none⟩) k = k (cs.extract o (o + n)) := by
  rw [← loadN_blk (k := k) hb hn]
  apply propext
  constructor
  · rintro ⟨ad, xs, e, h1, h2, h3⟩
    exact ⟨ad, xs, e, h1, h2 h (Ext.refl _), h3⟩
  · intro h1
    rw [loadN_blk hb hn] at h1
    refine ⟨_, _, rfl, by simp; omega, fun g hg j hj => ?_, h1⟩
    rw [add_mk, (hb.ext hg).cell, Array.getElem?_extract, if_pos (by omega)]

/-- A draw of which nothing more is known than that the heap grew. -/
theorem draw_ext {h : H} {body : (H → Prop) → Prop} (hb : body (fun g => Ext h g)) : drawK h body := ⟨_, Ext.refl h, hb⟩
/-- A new block: its number is of no further interest. -/
theorem alloc_new {cells : Array Value} {e : TypeId} {h : H} {k : Option Addr → H → Prop}
    (hk : ∀ b h', h.size ≤ b → Blk h' b cells e → Ext h h' → k (some ⟨b, 0, none⟩) h') : allocK cells e h k :=
  hk h.size _ (Nat.le_refl _) (Blk.new h cells e) (Ext.push h _)

theorem setH_size {h : H} {a : Addr} {v : Value} : (setH h a v).size = h.size := by simp [setH]
theorem setH_other {h : H} {a : Addr} {v : Value} {i : Nat} (hi : i ≠ a.block) : (setH h a v)[i]? = h[i]? := by
  unfold setH
  rw [Array.getElem?_modify, if_neg (fun e => hi e.symm)]
theorem setH_blk {h : H} {b o : Nat} {v : Value} {cs : Array Value} {e : TypeId} (k : Blk h b cs e) : Blk (setH h ⟨b, o, none⟩ v) b (cs.setIfInBounds o v) e := by
  unfold Blk setH
  rw [Array.getElem?_modify, if_pos rfl]
  rw [show h[(⟨b, o, none⟩ : Addr).block]? = _ from k]
  rfl
/-- Cells o, o + 1, .. are vs now. -/
def over (cs : Array Value) (o : Nat) : List Value → Array Value
  | [] => cs
  | v :: r => over (cs.setIfInBounds o v) (o + 1) r
theorem over_size : ∀ (vs : List Value) (cs : Array Value) (o : Nat), (over cs o vs).size = cs.size
  | [], _, _ => rfl
  | v :: r, cs, o => by rw [over, over_size r]; simp
theorem setsH_blk {b o : Nat} {e : TypeId} : ∀ (vs : List Value) (i : Nat) (h : H) (cs : Array Value), Blk h b cs e → Blk (setsH h ⟨b, o, none⟩ vs i) b (over cs (o + i) vs) e ∧ Mod h (setsH h ⟨b, o, none⟩ vs i) (· = b)
  | [], i, h, cs, k => ⟨k, Mod.refl _ _⟩
  | v :: r, i, h, cs, k => by
    have k1 : Blk (setH h ⟨b, o + i, none⟩ v) b (cs.setIfInBounds (o + i) v) e := setH_blk k
    obtain ⟨h1, h2⟩ := setsH_blk (o := o) r (i + 1) _ _ k1
    have hadd : (⟨b, o, none⟩ : Addr).add i = ⟨b, o + i, none⟩ := add_mk
    unfold setsH
    rw [hadd]
    refine ⟨by rw [over]; exact h1, ?_⟩
    refine Mod.trans ⟨by rw [setH_size]; exact Nat.le_refl _, fun j hj hne => setH_other hne⟩ h2
theorem mayWrite_blk {h : H} {b o n : Nat} {cs : Array Value} {e : TypeId} (k : Blk h b cs e) (hn : o + n ≤ cs.size) : MayWrite h ⟨b, o, none⟩ n := by
  intro j hj
  rw [add_mk, k.cell, k.frozen]
  exact ⟨⟨_, Array.getElem?_eq_getElem (by omega)⟩, rfl⟩
/-- A store into a known block. -/
theorem store_blk {h : H} {b o n : Nat} {cs vs : Array Value} {e : TypeId} {k : H → Prop} (hb : Blk h b cs e) (hn : vs.size = n) (ho : o + n ≤ cs.size) (h1 : OneCells vs.toList)
    (hk : ∀ h', Blk h' b (over cs o vs.toList) e → Mod h h' (· = b) → k h') : storeK n (some ⟨b, o, none⟩) vs h k := by
  obtain ⟨h2, h3⟩ := setsH_blk (o := o) vs.toList 0 h cs hb
  exact ⟨_, rfl, hn, h1, mayWrite_blk hb ho, hk _ h2 h3⟩

/-! ### rows of the call's own -/
/-- The slice value A, n, c owns a block from base on (or is nil): its n * sz first cells are cs. -/
def Own (h : H) (base : Nat) (e : TypeId) (sz : Nat) (A : Option Addr) (n c : Nat) (cs : Array Value) : Prop :=
  cs.size = n * sz ∧ ((A = none ∧ n = 0 ∧ c = 0) ∨ ∃ b cur, A = some ⟨b, 0, none⟩ ∧ base ≤ b ∧ Blk h b cur e ∧ cur.size = c * sz ∧ n ≤ c ∧ cur.extract 0 (n * sz) = cs)
/-- The block that a slice value stands for. -/
def blkOf (A : Option Addr) (i : Nat) : Prop := ∃ ad, A = some ad ∧ ad.block = i
section
variable {h h' : H} {base e sz : Nat} {A : Option Addr} {n c : Nat} {cs : Array Value}
theorem Own.nil : Own h base e sz none 0 0 #[] := ⟨by simp, .inl ⟨rfl, rfl, rfl⟩⟩
theorem Own.base_le (o : Own h base e sz A n c cs) {i : Nat} (hi : blkOf A i) : base ≤ i := by
  obtain ⟨ad, ha, rfl⟩ := hi
  rcases o.2 with ⟨rfl, _⟩ | ⟨b, cur, rfl, hb, _⟩
  · cases ha
  · cases ha; exact hb
theorem Own.lt (o : Own h base e sz A n c cs) {i : Nat} (hi : blkOf A i) : i < h.size := by
  obtain ⟨ad, ha, rfl⟩ := hi
  rcases o.2 with ⟨rfl, _⟩ | ⟨b, cur, rfl, hb, hk, _⟩
  · cases ha
  · cases ha; exact hk.lt
theorem Own.weaken {base' : Nat} (o : Own h base e sz A n c cs) (hb : base' ≤ base) : Own h base' e sz A n c cs := by
  refine ⟨o.1, ?_⟩
  rcases o.2 with h1 | ⟨b, cur, h1, h2, h3⟩
  · exact .inl h1
  · exact .inr ⟨b, cur, h1, Nat.le_trans hb h2, h3⟩
theorem Own.mod {S : Nat → Prop} (o : Own h base e sz A n c cs) (x : Mod h h' S) (hs : ∀ i, blkOf A i → ¬ S i) : Own h' base e sz A n c cs := by
  refine ⟨o.1, ?_⟩
  rcases o.2 with h1 | ⟨b, cur, rfl, h2, h3, h4⟩
  · exact .inl h1
  · exact .inr ⟨b, cur, rfl, h2, h3.mod x (hs b ⟨_, rfl, rfl⟩), h4⟩
theorem Own.ext (o : Own h base e sz A n c cs) (x : Ext h h') : Own h' base e sz A n c cs := o.mod x (fun _ _ e => e)
theorem Own.row (o : Own h base e sz A n c cs) : RowH h A (n * sz) cs := by
  refine ⟨o.1, fun hn => ?_⟩
  rcases o.2 with ⟨_, h1, _⟩ | ⟨b, cur, rfl, _, h3, h4, h5, h6⟩
  · subst h1; simp at hn
  · have hle : n * sz ≤ cur.size := by rw [h4]; exact Nat.mul_le_mul_right _ h5
    have := h3.row 0 (n * sz) (by omega)
    rw [Nat.zero_add, h6] at this
    exact this.2 hn
theorem Own.le (o : Own h base e sz A n c cs) : n ≤ c := by
  rcases o.2 with ⟨_, h1, h2⟩ | ⟨b, cur, rfl, _, h3, h4, h5, h6⟩
  · omega
  · exact h5
theorem Own.take (o : Own h base e sz A n c cs) (m : Nat) (hm : m ≤ n) : Own h base e sz A m c (cs.extract 0 (m * sz)) := by
  have h1 := o.1
  have hle : m * sz ≤ n * sz := Nat.mul_le_mul_right _ hm
  refine ⟨by simp; omega, ?_⟩
  rcases o.2 with ⟨h1, h2, h3⟩ | ⟨b, cur, rfl, h2, h3, h4, h5, h6⟩
  · exact .inl ⟨h1, by omega, h3⟩
  · refine .inr ⟨b, cur, rfl, h2, h3, h4, by omega, ?_⟩
    rw [← h6]
    simp [Array.extract_extract, Nat.min_eq_left hle]
/-- A made row, a literal's row. -/
theorem Own.of_blk {b : Nat} (hb : base ≤ b) (k : Blk h b cs e) (hs : cs.size = n * sz) : Own h base e sz (some ⟨b, 0, none⟩) n n cs :=
  ⟨hs, .inr ⟨b, cs, rfl, hb, k, hs, Nat.le_refl _, by rw [← hs]; simp⟩⟩

/-- What an append may have changed: the row's own block. -/
theorem append_own2 {bytes m : Nat} {zero xs : Array Value} {k : Option Addr → Nat → Nat → H → Prop} (o : Own h base e sz A n c cs) (hz : zero.size = sz) (h1 : OneCells xs.toList) (hm : xs.size = m * sz) (hb : 0 < bytes) (hbase : base ≤ h.size)
    (hlen : (2 * (n + m) + 192) * bytes ≤ 281474976710656)
    (hk : ∀ A' c' h', Own h' base e sz A' (n + m) c' (cs ++ xs) → Mod h h' (blkOf A) → (∀ i, blkOf A' i → blkOf A i ∨ h.size ≤ i) → RowH h' A (n * sz) cs → (∀ i, blkOf A i → ∃ cur, Blk h' i cur e) → k A' (n + m) c' h') :
    appendK e sz bytes zero A n c xs m h k := by
  have hnm : 2 * (n + m) + 192 ≤ 281474976710656 := Nat.le_trans (Nat.le_mul_of_pos_right _ hb) hlen
  refine ⟨h1, hm, ?_⟩
  split
  · rename_i hroom
    rcases o.2 with ⟨rfl, rfl, rfl⟩ | ⟨b, cur, rfl, h2, h3, h4, h5, h6⟩
    · have hm0 : m = 0 := by omega
      subst hm0
      refine ⟨by simp, ?_⟩
      have hx : xs = #[] := Array.eq_empty_of_size_eq_zero (by simpa using hm)
      subst hx
      exact hk none 0 h (by simpa using o) (Mod.refl _ _) (fun i hi => .inl hi) o.row (fun i hi => by obtain ⟨_, e, _⟩ := hi; cases e)
    · have hle : n * sz + m * sz ≤ cur.size := by rw [h4, ← Nat.add_mul]; exact Nat.mul_le_mul_right _ hroom
      obtain ⟨k1, k2⟩ := setsH_blk (o := n * sz) xs.toList 0 h cur h3
      have hadd : (⟨b, 0, none⟩ : Addr).add (n * sz) = ⟨b, n * sz, none⟩ := by rw [add_mk, Nat.zero_add]
      simp only [hadd]
      have fin : Own (setsH h ⟨b, n * sz, none⟩ xs.toList 0) base e sz (some ⟨b, 0, none⟩) (n + m) c (cs ++ xs) := ?_
      refine ⟨mayWrite_blk h3 hle, hk _ c _ fin (k2.mono fun i _ hi => ⟨_, rfl, hi.symm⟩) (fun i hi => .inl hi) ?_ (fun i hi => by obtain ⟨_, e, rfl⟩ := hi; cases e; exact ⟨_, k1⟩)⟩
      · have h7 := fin.row.part 0 (n * sz) (by rw [Nat.add_mul]; omega)
        rw [Nat.zero_add] at h7
        have h8 : (cs ++ xs).extract 0 (n * sz) = cs := by
          rw [← o.1]; apply Array.ext'; simp
        rw [h8] at h7
        simpa [add_mk] using h7
      refine ⟨by rw [Array.size_append, o.1, hm, Nat.add_mul], .inr ⟨b, _, rfl, h2, k1, by rw [over_size]; exact h4, hroom, ?_⟩⟩
      rw [← h6, Nat.add_zero]
      have key : ∀ (vs : List Value) (cur : Array Value) (p : Nat), p + vs.length ≤ cur.size → (over cur p vs).extract 0 (p + vs.length) = cur.extract 0 p ++ vs.toArray := by
        intro vs
        induction vs with
        | nil => intro cur p hp; simp [over]
        | cons v r ih =>
          intro cur p hp
          simp only [List.length_cons] at hp ⊢
          rw [over, show p + (r.length + 1) = p + 1 + r.length by omega, ih _ _ (by simp; omega)]
          apply Array.ext'
          simp only [Array.toList_append, Array.toList_extract, Array.toList_setIfInBounds]
          rw [List.extract_eq_take_drop, List.extract_eq_take_drop]
          simp only [List.drop_zero, Nat.sub_zero]
          have hp' : p < cur.toList.length := by simp; omega
          rw [List.take_succ_eq_append_getElem (by simpa using hp')]
          simp [List.take_set_of_le]
      have := key xs.toList cur (n * sz) (by simp [hm]; omega)
      simp only [Array.length_toList, hm, ← Nat.add_mul] at this
      rw [this]
  · rename_i hroom
    have hcap : n + m ≤ 9223372036854775807 := by omega
    refine ⟨hcap, hb, ?_, cs, o.row, ?_, fun c' hc' => ?_⟩
    · have hgr : ∀ (need rounds c : Nat), Builtin.growBy need rounds c ≤ max c (need + (need + 768) / 4) := by
        intro need rounds
        induction rounds with
        | zero => intro c; simp only [Builtin.growBy]; omega
        | succ r ih =>
          intro c
          simp only [Builtin.growBy]
          split
          · omega
          · have := ih (c + (c + 768) / 4)
            omega
      have hnx : Builtin.nextslicecap (n + m) c ≤ 2 * (n + m) + 192 := by
        unfold Builtin.nextslicecap
        split
        · omega
        · split
          · omega
          · have := hgr (n + m) 4 c
            omega
      unfold capBytes
      have := Nat.mul_le_mul_right bytes hnx
      omega
    · rintro rfl
      rcases o.2 with ⟨_, h2, _⟩ | ⟨b, cur, h2, _⟩
      · exact h2
      · cases h2
    · refine hk _ c' _ ?_ (Ext.push h _).mod (fun i hi => .inr ?_) (o.row.ext (Ext.push h _)) (fun i hi => ?_)
      · refine ⟨by rw [Array.size_append, o.1, hm, Nat.add_mul], .inr ⟨h.size, _, rfl, hbase, Blk.new _ _ _, ?_, hc', ?_⟩⟩
        · simp only [Array.size_append, o.1, hm, Builtin.zeroCells, Array.size_map, Array.size_range, hz]
          rw [← Nat.add_mul, ← Nat.add_mul]
          congr 1
          omega
        · have : (n + m) * sz = (cs ++ xs).size := by rw [Array.size_append, o.1, hm, Nat.add_mul]
          rw [this]
          apply Array.ext'
          rw [Array.toList_extract, List.extract_eq_take_drop, List.drop_zero, Nat.sub_zero, Array.toList_append, List.take_left' (by simp)]
      · obtain ⟨ad, ha, rfl⟩ := hi
        cases ha
        exact Nat.le_refl _
      · rcases o.2 with ⟨rfl, _⟩ | ⟨b, cur, rfl, _, h3, _⟩
        · obtain ⟨_, e, _⟩ := hi; cases e
        · obtain ⟨_, e, rfl⟩ := hi
          cases e
          exact ⟨cur, h3.ext (Ext.push h _)⟩
/-- What an append may have changed: the row's own block. -/
theorem append_own {bytes m : Nat} {zero xs : Array Value} {k : Option Addr → Nat → Nat → H → Prop} (o : Own h base e sz A n c cs) (hz : zero.size = sz) (h1 : OneCells xs.toList) (hm : xs.size = m * sz) (hb : 0 < bytes) (hbase : base ≤ h.size)
    (hlen : (2 * (n + m) + 192) * bytes ≤ 281474976710656)
    (hk : ∀ A' c' h', Own h' base e sz A' (n + m) c' (cs ++ xs) → Mod h h' (blkOf A) → (∀ i, blkOf A' i → blkOf A i ∨ h.size ≤ i) → k A' (n + m) c' h') :
    appendK e sz bytes zero A n c xs m h k :=
  append_own2 o hz h1 hm hb hbase hlen fun A' c' h' a b c _ _ => hk A' c' h' a b c
end
end Go.Oct
