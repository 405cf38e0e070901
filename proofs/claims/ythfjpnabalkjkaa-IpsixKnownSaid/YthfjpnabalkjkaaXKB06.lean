/- What is proved: contracts of functions that the law calls, and of the law itself, over any heap. Conditions stand in each theorem. -/
import Derived.Test.YthfjpnabalkjkaaXOctL
import Derived.Test.YthfjpnabalkjkaaXL01
import Derived.Test.YthfjpnabalkjkaaXD06
set_option linter.unusedSimpArgs false
set_option linter.unusedVariables false
namespace Go.Proofs.Ythfjpnabalkjkaa
open Go.Oct Go.Oct.L01
theorem wrap64_id {x : Int} (h : -9223372036854775808 ≤ x) (h' : x ≤ 9223372036854775807) : IntKind.wrap .i64 x = x := by rw [IntKind.wrap_i64]; omega

theorem wrapu64_id {x : Int} (h : 0 ≤ x) (h' : x < 18446744073709551616) : IntKind.wrap .u64 x = x := by rw [IntKind.wrap_u64]; omega

def bf (x : Int) : Value := .int .u8 x

theorem bf_len (x : Int) : [bf x].length = 1 := rfl

/-- right -/
theorem c57 (n : Int) (h : H) (k : Value → H → Prop) (hk : k (.bool (decide (1 ≤ n) && decide (n ≤ 8))) h) : callK Try.prog 57 #[.int .i64 n] h k := by
  refine call57 _ _ _ ?_
  unfold d57
  refine ifB_dec (fun h1 => ?_) (fun h1 => ?_)
  · rw [decide_eq_true (by omega : 1 ≤ n), Bool.true_and] at hk; exact hk
  · rw [decide_eq_false (by omega : ¬ 1 ≤ n), Bool.false_and] at hk; exact hk

/-- Least -/
theorem c59 (v : Int) (h0 : 0 ≤ v) (hv : v < 18446744073709551616) (h : H) (k : Value → H → Prop) (hk : k (.int .i64 (least v)) h) : callK Try.prog 59 #[.int .u64 v] h k := by
  refine call59 _ _ _ ?_
  unfold d59
  rw [needK_true (by omega)]
  refine ⟨fun x y g => g = h ∧ ∃ j : Nat, j ≤ 7 ∧ x = j + 1 ∧ y = v / 256 ^ (j + 1) ∧ (j = 0 ∨ 256 ^ j ≤ v), fun x y g => (8 - x).toNat, ⟨rfl, 0, by omega, rfl, by rw [shr8]; simp, .inl rfl⟩, ?_⟩
  rintro x y g ⟨rfl, j, hj, rfl, rfl, hlo⟩
  have hp := pow_pos256 (j + 1)
  refine ifB_dec (fun hy => ?_) (fun hy => ?_)
  · have h1 : 256 ^ (j + 1) ≤ v := by
      have h2 := (Int.le_ediv_iff_mul_le hp).1 (show (1 : Int) ≤ v / 256 ^ (j + 1) by omega)
      omega
    have hj7 : j ≠ 7 := by rintro rfl; simp at h1; omega
    rw [needK_true (by omega), wrap64_id (by omega) (by omega), shr8]
    refine ⟨⟨rfl, j + 1, by omega, by omega, ?_, .inr h1⟩, by dsimp only; omega⟩
    have := div_pow v (j + 1) 1
    rw [Int.pow_one] at this
    exact this
  · have h1 : v < 256 ^ (j + 1) := by
      rcases Int.lt_or_le v (256 ^ (j + 1)) with h2 | h2
      · exact h2
      · have h3 := (Int.le_ediv_iff_mul_le hp).2 (show 1 * 256 ^ (j + 1) ≤ v by omega)
        omega
    rw [least_of hj hlo h1] at hk
    exact hk

/-- fits -/
theorem c54 (v n : Int) (h0 : 0 ≤ v) (hv : v < 18446744073709551616) (h : H) (k : Value → H → Prop) (hk : k (.bool (fitsB v n)) h) : callK Try.prog 54 #[.int .u64 v, .int .i64 n] h k := by
  refine call54 _ _ _ _ ?_
  unfold d54
  rw [fits_least hv] at hk
  refine c57 _ _ _ (asB_of (ifB_of (fun h1 => ?_) (fun h1 => ?_)))
  · rw [Bool.and_eq_true] at h1
    rw [h1.1, h1.2, Bool.true_and, Bool.true_and] at hk
    exact c59 v h0 hv _ _ (asI_of hk)
  · rw [← Bool.and_assoc, h1, Bool.false_and] at hk
    exact hk

/-- value -/
theorem c58 (A : Option Addr) (n c : Nat) (xs : List Int) (h : H) (k : Value → H → Prop) (hr : RowH h A n (xs.map bf).toArray) (hn : n ≤ 8) (hb : ∀ x ∈ xs, isB x) (hk : k (.int .u64 (val xs)) h) : callK Try.prog 58 #[.slice A n c] h k := by
  refine call58 _ _ _ _ _ ?_
  unfold d58
  have hl : xs.length = n := by simpa using hr.1
  refine ⟨fun x y g => g = h ∧ ∃ j : Nat, y = j ∧ j ≤ n ∧ x = val (xs.take j), fun x y g => (n - y).toNat, ⟨rfl, 0, rfl, by omega, by simp [val]⟩, ?_⟩
  rintro x y g ⟨rfl, j, rfl, hj, rfl⟩
  refine ifB_dec (fun hy => ?_) (fun hy => ?_)
  · have hx : xs[j]? = some xs[j] := List.getElem?_eq_getElem (by omega)
    refine row_load hr rfl hx (asI_of ?_)
    have hbx := hb xs[j] (List.getElem_mem _)
    obtain ⟨v0, v1⟩ := val_bound j (xs.take j) (by simp; omega) fun x hx => hb x (List.mem_of_mem_take hx)
    have v2 : (256 : Int) ^ j ≤ 256 ^ 7 := pow_le256 (by omega)
    have v3 : (256 : Int) ^ 7 = 72057594037927936 := by decide
    have v4 : IntKind.wrap .u64 xs[j] = xs[j] := by unfold isB at hbx; exact wrapu64_id hbx.1 (by omega)
    rw [needK_true (by omega), v4, shl8 v0 (by omega), or8 v0 (by omega) hbx, wrap64_id (by omega) (by omega)]
    refine ⟨⟨rfl, j + 1, by omega, by omega, ?_⟩, by dsimp only; omega⟩
    rw [List.take_succ_eq_append_getElem (by omega), val_snoc]
  · have : j = n := by omega
    rw [this, ← hl, List.take_length] at *
    exact hk

/-- Get -/
theorem c48 (A : Option Addr) (n c : Nat) (xs : List Int) (at_ size : Int) (h : H) (k : Value → H → Prop) (hr : RowH h A n (xs.map bf).toArray) (hc : n ≤ c) (hn : n ≤ 1099511627776) (ha : at_ ≤ 9223372036854775807) (hb : ∀ x ∈ xs, isB x)
    (hk : k (.tuple #[.int .u64 (getR xs at_ size).1, .int .i64 (getR xs at_ size).2]) h) : callK Try.prog 48 #[.slice A n c, .int .i64 at_, .int .i64 size] h k := by
  refine call48 _ _ _ _ _ _ _ ?_
  unfold d48
  have hl : xs.length = n := by simpa using hr.1
  unfold getR at hk
  refine ⟨fun b g => g = h ∧ b = decide (size < 1 ∨ 8 < size ∨ at_ < 0), ?_, ?_⟩
  · refine c57 _ _ _ (asB_of (ifB_of (fun h1 => ⟨rfl, ?_⟩) (fun h1 => ⟨rfl, ?_⟩)))
    · simp at h1 ⊢; omega
    · have h2 : 1 ≤ size ∧ size ≤ 8 := by simpa using h1
      simp only [decide_eq_decide]; omega
  rintro b g ⟨rfl, rfl⟩
  refine ifB_dec (fun h1 => ?_) (fun h1 => ?_)
  · rw [if_pos h1] at hk
    exact hk
  rw [if_neg h1] at hk
  refine ⟨fun b g' => g' = g ∧ b = decide ((xs.length : Int) < at_ + size), ?_, ?_⟩
  · refine ifB_dec (fun h2 => ⟨rfl, ?_⟩) (fun h2 => ⟨rfl, ?_⟩)
    · simp; omega
    · rw [wrap64_id (by omega) (by omega)]
      simp only [decide_eq_decide]; omega
  rintro b g' ⟨rfl, rfl⟩
  refine ifB_dec (fun h2 => ?_) (fun h2 => ?_)
  · rw [if_pos h2] at hk
    exact hk
  rw [if_neg h2] at hk
  rw [needK_true (by simp), wrap64_id (by omega) (by omega)]
  obtain ⟨a, rfl⟩ := Int.eq_ofNat_of_zero_le (show 0 ≤ at_ by omega)
  obtain ⟨s, rfl⟩ := Int.eq_ofNat_of_zero_le (show 0 ≤ size by omega)
  refine row_slice hr hc (l := a) (u := a + s) rfl (by simp) (by omega) (by omega) fun A' c' hr' hc' _ _ => ?_
  have hs : a + s - a = s := by omega
  rw [hs] at hr' ⊢
  refine c58 _ _ _ _ _ _ hr' (by omega) (fun x hx => hb x (List.mem_of_mem_drop (List.mem_of_mem_take hx))) (asI_of ?_)
  exact hk

/-- the reference's Get -/
theorem c49 (A : Option Addr) (n c : Nat) (xs : List Int) (at_ size : Int) (h : H) (k : Value → H → Prop) (hr : RowH h A n (xs.map bf).toArray) (hc : n ≤ c) (hn : n ≤ 1099511627776) (ha : at_ ≤ 9223372036854775807) (hb : ∀ x ∈ xs, isB x)
    (hk : k (.tuple #[.int .u64 (getR xs at_ size).1, .int .i64 (getR xs at_ size).2]) h) : callK Try.prog 49 #[.slice A n c, .int .i64 at_, .int .i64 size] h k := by
  refine call49 _ _ _ _ _ _ _ ?_
  unfold d49
  have hl : xs.length = n := by simpa using hr.1
  unfold getR at hk
  refine ⟨fun b g => g = h ∧ b = decide (size < 1 ∨ 8 < size ∨ at_ < 0), ?_, ?_⟩
  · refine ifB_dec (fun h1 => ⟨rfl, by simp [h1]⟩) (fun h1 => ifB_dec (fun h2 => ⟨rfl, by simp; omega⟩) (fun h2 => ⟨rfl, ?_⟩))
    simp only [decide_eq_decide]; omega
  rintro b g ⟨rfl, rfl⟩
  refine ifB_dec (fun h1 => ?_) (fun h1 => ?_)
  · rw [if_pos h1] at hk
    exact hk
  rw [if_neg h1] at hk
  obtain ⟨s, rfl⟩ := Int.eq_ofNat_of_zero_le (show 0 ≤ size by omega)
  obtain ⟨a, rfl⟩ := Int.eq_ofNat_of_zero_le (show 0 ≤ at_ by omega)
  refine ⟨fun x6 x7 x8 x9 g' => g' = g ∧ ∃ j : Nat, x9 = j ∧ j ≤ s ∧ (j = 0 ∨ a + j ≤ n) ∧ x8 = val ((xs.drop a).take j), fun x6 x7 x8 x9 g' => (s - x9).toNat, ⟨rfl, 0, rfl, by omega, .inl rfl, by simp [val]⟩, ?_⟩
  rintro x6 x7 x8 x9 g' ⟨rfl, j, rfl, hj, hja, rfl⟩
  refine ifB_dec (fun hy => ?_) (fun hy => ?_)
  · refine ⟨fun b g2 => g2 = g' ∧ b = decide (n ≤ a + j), ?_, ?_⟩
    · refine ifB_dec (fun h2 => ⟨rfl, by simp; omega⟩) (fun h2 => ⟨rfl, ?_⟩)
      rw [wrap64_id (by omega) (by omega)]
      simp only [decide_eq_decide]; omega
    rintro b g2 ⟨rfl, rfl⟩
    refine ifB_dec (fun h2 => ?_) (fun h2 => ?_)
    · rw [if_pos (by omega)] at hk
      exact hk
    have hx : xs[a + j]? = some xs[a + j] := List.getElem?_eq_getElem (by omega)
    rw [wrap64_id (by omega) (by omega)]
    refine row_load hr (j := a + j) (by omega) hx (asI_of ?_)
    have hbx := hb xs[a + j] (List.getElem_mem _)
    obtain ⟨v0, v1⟩ := val_bound j ((xs.drop a).take j) (by simp; omega) fun x hx => hb x (List.mem_of_mem_drop (List.mem_of_mem_take hx))
    have v2 : (256 : Int) ^ j ≤ 256 ^ 7 := pow_le256 (by omega)
    have v3 : (256 : Int) ^ 7 = 72057594037927936 := by decide
    unfold isB at hbx
    have e1 : IntKind.wrap .u64 (IntKind.wrap .u64 (val ((xs.drop a).take j) * 256) + IntKind.wrap .u64 xs[a + j]) = val ((xs.drop a).take j) * 256 + xs[a + j] := by
      rw [wrapu64_id hbx.1 (by omega), IntKind.wrap_u64, IntKind.wrap_u64]; omega
    rw [e1, wrap64_id (by omega) (by omega)]
    refine ⟨⟨rfl, j + 1, by omega, by omega, by omega, ?_⟩, by dsimp only; omega⟩
    rw [List.take_succ_eq_append_getElem (by simp; omega), val_snoc]
    simp
  · have : j = s := by omega
    subst this
    rw [if_neg (by omega)] at hk
    exact hk

theorem bf_one (x : Int) : (bf x).oneCell' = true := rfl

/-- a row of bytes of its own -/
def Byt (h : H) (base : Nat) (A : Option Addr) (n c : Nat) (xs : List Int) : Prop := Lst h base 5 (fun x => [bf x]) 1 A n c xs

/-- slices.Clone -/
theorem c56 (A : Option Addr) (n c : Nat) (xs : List Int) (h : H) (k : Value → H → Prop) (hr : RowH h A n (xs.map bf).toArray) (hn : n ≤ 1099511627776)
    (hk : ∀ A' c' h', Ext h h' → Byt h' h.size A' n c' xs → k (.slice A' n c') h') : callK Try.prog 56 #[.slice A n c] h k := by
  refine call56 _ _ _ _ _ ?_
  unfold d56
  have hl : xs.length = n := by simpa using hr.1
  rw [needK_true rfl]
  refine ifB_of (fun hA => ?_) (fun hA => ?_)
  · have hA : A = none := by simpa using hA
    subst hA
    have h0 : n = 0 := by
      rcases Nat.eq_zero_or_pos n with h0 | h0
      · exact h0
      · obtain ⟨ad, e, _⟩ := hr.2 h0; cases e
    subst h0
    have : xs = [] := List.length_eq_zero_iff.1 hl
    subst this
    exact hk none 0 h (Ext.refl _) Lst.nil
  · refine alloc_new fun b h1 l1 hb e1 => src_one (hr.ext e1) ?_
    have o : Byt h1 h.size (some ⟨b, 0, none⟩) 0 0 [] := ⟨rfl, Own.of_blk l1 hb rfl⟩
    refine Lst.appends o xs hl rfl bf_one (by omega) e1.size (by omega) fun A' c' h2 l2 m2 d2 => ?_
    rw [Nat.zero_add] at l2 ⊢
    exact hk A' c' h2 (e1.then m2 (by rintro i ⟨ad, e, rfl⟩; cases e; exact l1)) l2

/-- the reference's Put -/
theorem c53 : ∀ (n : Nat) (v : Int) (h : H) (k : Value → H → Prop), n ≤ 8 → 0 ≤ v → v < 18446744073709551616 →
    (∀ A' c' h', Ext h h' → Byt h' h.size A' n c' (bytesOf v n) → k (.slice A' n c') h') → callK Try.prog 53 #[.int .u64 v, .int .i64 (n : Int)] h k
  | 0, v, h, k, _, h0, hv, hk => by
    refine call53 _ _ _ _ ?_
    unfold d53
    exact hk none 0 h (Ext.refl _) (by simpa [bytesOf, Byt] using (Lst.nil : Byt h h.size none 0 0 []))
  | n + 1, v, h, k, h8, h0, hv, hk => by
    refine call53 _ _ _ _ ?_
    unfold d53
    rw [beq_dec]
    refine ifB_dec (fun hz => by omega) (fun hz => ?_)
    have e1 : Int.tdiv v 256 = v / 256 := Int.tdiv_eq_ediv_of_nonneg h0
    have e2 : Int.tmod v 256 = v % 256 := Int.tmod_eq_emod_of_nonneg h0
    have e3 : IntKind.wrap .i64 ((n + 1 : Nat) - 1 : Int) = (n : Int) := by rw [wrap64_id (by omega) (by omega)]; omega
    have e4 : IntKind.wrap .u8 (v % 256) = v % 256 := by rw [IntKind.wrap_u8]; omega
    rw [needK_true (by decide), e1, e2, e3, e4, wrapu64_id (by omega) (by omega)]
    refine c53 n (v / 256) h _ (by omega) (by omega) (by omega) fun A c h1 x1 l1 => asS_of ?_
    rw [needK_true (by decide)]
    refine alloc_new fun b h2 _ hb e2 => src_blk hb rfl ?_
    refine Lst.push (f := fun x => [bf x]) bf_len (l1.ext e2) (v % 256) rfl (by simp [OneCells, bf, Value.oneCell']) (by omega) (x1.trans e2).size (by omega) fun A' c' h3 l3 m3 d3 => ?_
    rw [← bytesOf_succ] at l3
    exact hk A' c' h3 ((x1.trans e2).then m3 (fun i hi => l1.2.base_le hi)) l3

/-- of -/
theorem c55 (n : Nat) (v : Int) (h : H) (k : Value → H → Prop) (h1 : 1 ≤ n) (h8 : n ≤ 8) (h0 : 0 ≤ v) (hv : v < 18446744073709551616)
    (hk : ∀ A' c' h', Ext h h' → Byt h' h.size A' n c' (bytesOf v n) → k (.slice A' n c') h') : callK Try.prog 55 #[.int .u64 v, .int .i64 (n : Int)] h k := by
  refine call55 _ _ _ _ ?_
  unfold d55
  refine made_one (f := bf) (z := 0) rfl (by omega) (by omega) fun b h1' l1 lb e1 => ?_
  refine ⟨fun x g => Ext h g ∧ ∃ j : Nat, x = j ∧ j ≤ n ∧ Byt g h.size (some ⟨b, 0, none⟩) n n (List.replicate (n - j) 0 ++ (bytesOf v n).drop (n - j)), fun x g => (n - x).toNat,
    ⟨e1, 0, rfl, by omega, by rw [List.drop_of_length_le (by rw [bytesOf_length]; omega)]; simpa [Byt] using l1⟩, ?_⟩
  rintro x g ⟨e2, j, rfl, hj, l2⟩
  refine ifB_dec (fun hy => ?_) (fun hy => ?_)
  · have w1 : IntKind.wrap .i64 (8 * (j : Int)) = 8 * j := wrap64_id (by omega) (by omega)
    have w2 : IntKind.wrap .i64 (IntKind.wrap .i64 ((n : Int) - 1) - j) = (n - 1 - j : Nat) := by rw [wrap64_id (x := (n : Int) - 1) (by omega) (by omega), wrap64_id (by omega) (by omega)]; omega
    have w3 : IntKind.wrap .u8 (shrK .u64 v (8 * j)) = v / 256 ^ j % 256 := by rw [shr_of v (by omega), IntKind.wrap_u8]
    rw [w1, w2, w3, needK_true (by omega)]
    refine Lst.put (f := bf) l2 rfl (by simp [bytesOf_length]; omega) (v / 256 ^ j % 256) rfl fun g3 l3 m3 => ?_
    rw [wrap64_id (by omega) (by omega)]
    refine ⟨⟨e2.then m3 (fun i hi => l2.2.base_le hi), j + 1, by omega, by omega, ?_⟩, by dsimp only; omega⟩
    have e : (List.replicate (n - j) 0 ++ (bytesOf v n).drop (n - j)).set (n - 1 - j) (v / 256 ^ j % 256) = List.replicate (n - (j + 1)) 0 ++ (bytesOf v n).drop (n - (j + 1)) := by
      have h5 : n - j = n - 1 - j + 1 := by omega
      have h6 : n - (j + 1) = n - 1 - j := by omega
      rw [h5, h6, List.replicate_succ', List.append_assoc, List.set_append_right _ _ (by simp)]
      simp only [List.length_replicate, Nat.sub_self, List.singleton_append, List.set_cons_zero]
      congr 1
      rw [List.drop_eq_getElem_cons (i := n - 1 - j) (by rw [bytesOf_length]; omega)]
      congr 1
      simp only [bytesOf, List.getElem_map, List.getElem_range]
      congr 3
      omega
    rw [e] at l3
    exact l3
  · have : j = n := by omega
    subst this
    simp only [Nat.sub_self, List.replicate_zero, List.nil_append, List.drop_zero] at l2
    exact hk _ _ _ e2 l2

/-- a writer -/
structure Wr (h : H) (base pw : Nat) (A : Option Addr) (n c : Nat) (xs : List Int) : Prop where
  blk : Blk h pw #[.slice A n c] 83
  le : base ≤ pw
  row : Byt h base A n c xs

def wfoot (pw : Nat) (A : Option Addr) (i : Nat) : Prop := i = pw ∨ blkOf A i

theorem Wr.base {h : H} {base pw : Nat} {A : Option Addr} {n c : Nat} {xs : List Int} (w : Wr h base pw A n c xs) {i : Nat} (hi : wfoot pw A i) : base ≤ i := by
  rcases hi with rfl | hi
  · exact w.le
  · exact w.row.2.base_le hi

theorem Wr.lt {h : H} {base pw : Nat} {A : Option Addr} {n c : Nat} {xs : List Int} (w : Wr h base pw A n c xs) {i : Nat} (hi : wfoot pw A i) : i < h.size := by
  rcases hi with rfl | hi
  · exact w.blk.lt
  · exact w.row.2.lt hi

theorem Wr.ext {h h' : H} {base pw : Nat} {A : Option Addr} {n c : Nat} {xs : List Int} (w : Wr h base pw A n c xs) (x : Ext h h') : Wr h' base pw A n c xs := ⟨w.blk.ext x, w.le, w.row.ext x⟩

theorem Wr.mod {h h' : H} {S : Nat → Prop} {base pw : Nat} {A : Option Addr} {n c : Nat} {xs : List Int} (w : Wr h base pw A n c xs) (x : Go.Oct.Mod h h' S) (hs : ∀ i, wfoot pw A i → ¬ S i) : Wr h' base pw A n c xs :=
  ⟨w.blk.mod x (hs _ (.inl rfl)), w.le, w.row.mod x (fun i hi => hs i (.inr hi))⟩

/-- Raw -/
theorem c39 (base pw : Nat) (A : Option Addr) (n c : Nat) (xs : List Int) (B : Option Addr) (m d : Nat) (ys : List Int) (h : H) (k : Value → H → Prop) (w : Wr h base pw A n c xs) (hs : RowH h B m (ys.map bf).toArray) (hn : n + m ≤ 1099511627776)
    (hk : ∀ A' c' h', Wr h' base pw A' (n + m) c' (xs ++ ys) → Go.Oct.Mod h h' (wfoot pw A) → (∀ i, wfoot pw A' i → wfoot pw A i ∨ h.size ≤ i) → k (.int .i64 0) h') : callK Try.prog 39 #[.pointer (some ⟨pw, 0, none⟩), .slice B m d] h k := by
  refine call39 _ _ _ _ _ _ ?_
  unfold d39
  have hm : ys.length = m := by simpa using hs.1
  rw [needK_true (by simp)]
  refine ifB_of (fun hA => by simp at hA) (fun _ => ?_)
  rw [nilK_some, addrK_mk]
  refine w.blk.at_.load1 0 rfl rfl (asS_of (src_one hs ?_))
  refine Lst.appends w.row ys hm rfl bf_one (by omega) (Nat.le_trans w.le (Nat.le_of_lt w.blk.lt)) (by omega) fun A' c' h2 l2 m2 d2 => ?_
  have hne : ¬ blkOf A pw := fun hi => w.row.2.ne_blk w.blk (by decide) _ hi rfl
  have b2 := w.blk.mod m2 hne
  rw [nilK_some, addrK_mk]
  refine store_blk b2 rfl (by simp) (by simp [OneCells, Value.cells, Value.oneCell']) fun h3 b3 m3 => ?_
  have hne2 : ¬ blkOf A' pw := fun hi => l2.2.ne_blk b2 (by decide) _ hi rfl
  refine hk A' c' h3 ⟨by simpa [over, Value.cells] using b3, w.le, l2.mod m3 (fun i hi hp => hne2 (by rwa [hp] at hi))⟩ ((m2.mono fun i _ hi => .inr hi).trans (m3.mono fun i _ hi => .inl hi)) ?_
  rintro i (rfl | hi)
  · exact .inl (.inl rfl)
  · rcases d2 i hi with h4 | h4
    · exact .inl (.inr h4)
    · exact .inr h4

/-- Put -/
theorem c38 (base pw : Nat) (A : Option Addr) (n c : Nat) (xs : List Int) (v size : Int) (h : H) (k : Value → H → Prop) (w : Wr h base pw A n c xs) (h0 : 0 ≤ v) (hv : v < 18446744073709551616) (hn : n ≤ 1099511627000)
    (hno : fitsB v size = false → k (.int .i64 2) h)
    (hk : fitsB v size = true → ∀ A' c' h', Wr h' base pw A' (n + size.toNat) c' (xs ++ bytesOf v size.toNat) → Go.Oct.Mod h h' (wfoot pw A) → (∀ i, wfoot pw A' i → wfoot pw A i ∨ h.size ≤ i) → k (.int .i64 0) h') : callK Try.prog 38 #[.pointer (some ⟨pw, 0, none⟩), .int .u64 v, .int .i64 size] h k := by
  refine call38 _ _ _ _ _ ?_
  unfold d38
  rw [needK_true (by simp)]
  refine ifB_of (fun hA => by simp at hA) (fun _ => ?_)
  refine c54 v size h0 hv _ _ (asB_of (ifB_of (fun hf => ?_) (fun hf => ?_)))
  · exact hno (by simpa using hf)
  · have hf : fitsB v size = true := by simpa using hf
    have hr : 1 ≤ size ∧ size ≤ 8 := by unfold fitsB at hf; simp at hf; omega
    obtain ⟨s, rfl⟩ := Int.eq_ofNat_of_zero_le (show 0 ≤ size by omega)
    refine c55 s v h _ (by omega) (by omega) h0 hv fun B d h1 x1 l1 => asS_of ?_
    have hbl : (bytesOf v s).length = s := bytesOf_length v s
    refine c39 base pw A n c xs B s d _ h1 _ (w.ext x1) l1.row (by omega) fun A' c' h' w' m' d' => asI_of ?_
    refine hk hf A' c' h' w' (x1.mod.trans m') fun i hi => ?_
    rcases d' i hi with h4 | h4
    · exact .inl h4
    · exact .inr (Nat.le_trans x1.size h4)

/-- Bytes -/
theorem c40 (base pw : Nat) (A : Option Addr) (n c : Nat) (xs : List Int) (h : H) (k : Value → H → Prop) (w : Wr h base pw A n c xs) (hn : n ≤ 1099511627776)
    (hk : ∀ A' c' h', Ext h h' → Byt h' h.size A' n c' xs → k (.slice A' n c') h') : callK Try.prog 40 #[.pointer (some ⟨pw, 0, none⟩)] h k := by
  refine call40 _ _ _ ?_
  unfold d40
  rw [needK_true (by simp)]
  refine ifB_of (fun hA => by simp at hA) (fun _ => ?_)
  rw [nilK_some, addrK_mk]
  refine w.blk.at_.load1 0 rfl rfl (asS_of ?_)
  exact c56 A n c xs h _ w.row.row hn fun A' c' h' x l => asS_of (hk A' c' h' x l)

/-- u64s and ints that came in -/
def uf (x : Int) : Value := .int .u64 x

def gf (x : Int) : Value := .int .i64 x

def may (n : Nat) (at_ v size : Int) : Prop := fitsB v size = true ∧ 0 ≤ at_ ∧ at_ ≤ n ∧ size ≤ n - at_

instance (n : Nat) (a v s : Int) : Decidable (may n a v s) := by unfold may; infer_instance

/-- a reader -/
structure Rd (h : H) (base pr : Nat) (A : Option Addr) (n c : Nat) (xs : List Int) (at_ : Int) : Prop where
  blk : Blk h pr #[.slice A n c, .int .i64 at_] 64
  le : base ≤ pr
  row : Byt h base A n c xs
  ge : 0 ≤ at_
  le2 : at_ ≤ n
  sz : n ≤ 1099511627776

theorem Rd.ext {h h' : H} {base pr : Nat} {A : Option Addr} {n c : Nat} {xs : List Int} {a : Int} (r : Rd h base pr A n c xs a) (x : Ext h h') : Rd h' base pr A n c xs a := { r with blk := r.blk.ext x, row := r.row.ext x }

theorem Rd.mod {h h' : H} {S : Nat → Prop} {base pr : Nat} {A : Option Addr} {n c : Nat} {xs : List Int} {a : Int} (r : Rd h base pr A n c xs a) (x : Go.Oct.Mod h h' S) (hs : ∀ i, wfoot pr A i → ¬ S i) : Rd h' base pr A n c xs a :=
  { r with blk := r.blk.mod x (hs _ (.inl rfl)), row := r.row.mod x (fun i hi => hs i (.inr hi)) }

theorem Rd.base {h : H} {base pr : Nat} {A : Option Addr} {n c : Nat} {xs : List Int} {a : Int} (r : Rd h base pr A n c xs a) {i : Nat} (hi : wfoot pr A i) : base ≤ i := by
  rcases hi with rfl | hi
  · exact r.le
  · exact r.row.2.base_le hi

theorem Rd.put {h h' : H} {base pr : Nat} {A : Option Addr} {n c : Nat} {xs : List Int} {a a' : Int} (r : Rd h base pr A n c xs a) (hb : Blk h' pr #[.slice A n c, .int .i64 a'] 64) (m : Go.Oct.Mod h h' (· = pr)) (h0 : 0 ≤ a') (h1 : a' ≤ n) : Rd h' base pr A n c xs a' :=
  ⟨hb, r.le, r.row.mod m (fun i hi hp => r.row.2.ne_blk r.blk (by decide) _ hi hp), h0, h1, r.sz⟩

/-- every byte of a row is written over -/
theorem bump {h : H} {base : Nat} {A : Option Addr} {n c : Nat} {xs : List Int} {rest : H → Prop} (l : Byt h base A n c xs) (hn : n ≤ 1099511627776) (hk : ∀ h', Go.Oct.Mod h h' (blkOf A) → rest h') :
    loopK [.int .i64] (fun (kN : Int → H → Prop) (x : Int) (h : H) => ifB (decide (x < (n : Int))) (indexK 1 A n x (fun p => load1 p h (fun v => asI .u8 v (fun y => indexK 1 A n x (fun q => storeK 1 q (Value.cells (.int .u8 (IntKind.wrap .u8 (y + 1)))) h (fun h => kN (IntKind.wrap .i64 (x + 1)) h)))))) (rest h)) (fun I => I 0 h) := by
  refine ⟨fun x g => ∃ (j : Nat) (ys : List Int), x = j ∧ j ≤ n ∧ Byt g base A n c ys ∧ Go.Oct.Mod h g (blkOf A), fun x g => (n - x).toNat, ⟨0, xs, rfl, by omega, l, Go.Oct.Mod.refl _ _⟩, ?_⟩
  rintro x g ⟨j, ys, rfl, hj, l2, m2⟩
  have hl : ys.length = n := l2.1
  refine ifB_dec (fun hlt => ?_) (fun hge => hk g m2)
  refine row_load l2.row rfl (List.getElem?_eq_getElem (by omega)) (asI_of ?_)
  refine Lst.put (f := bf) l2 rfl (by omega) (IntKind.wrap .u8 (ys[j] + 1)) rfl fun g3 l3 m3 => ?_
  refine ⟨⟨j + 1, _, wrap64_id (by omega) (by omega), by omega, l3, m2.trans m3⟩, ?_⟩
  rw [wrap64_id (by omega) (by omega)]
  dsimp only
  omega
end Go.Proofs.Ythfjpnabalkjkaa
