/- What is proved: contracts of functions that the law calls, and of the law itself, over any heap. Conditions stand in each theorem. -/
import Derived.Test.YteagahchpblfkaaXK01b
set_option linter.unusedSimpArgs false
set_option linter.unusedVariables false
namespace Go.Proofs.Yteagahchpblfkaa
open Go.Oct Go.Oct.L01

theorem bf_one (x : Int) : (bf x).oneCell' = true := rfl
/-- a row of bytes of its own -/
def Byt (h : H) (base : Nat) (A : Option Addr) (n c : Nat) (xs : List Int) : Prop := Lst h base 5 (fun x => [bf x]) 1 A n c xs

/-- Pick -/
theorem c16 (x n : Int) (h : H) (k : Value → H → Prop) (hb : n ≤ 4611686018427387904) (hk : k (.int .i64 (if n ≤ 0 then 0 else x % n)) h) : callK Try.prog 16 #[.int .i64 x, .int .i64 n] h k := by
  refine call16 _ _ _ _ ?_
  unfold d16
  refine ifB_dec (fun h0 => ?_) (fun h0 => ?_)
  · rw [if_pos h0] at hk; exact hk
  · rw [if_neg h0] at hk
    have hn : 0 < n := by omega
    have h1 : Int.tmod x n < n := Int.tmod_lt_of_pos x hn
    have h2 : -n < Int.tmod x n := Int.lt_tmod_of_pos x hn
    have e1 : Int.tmod (IntKind.wrap .i64 (Int.tmod x n + n)) n = x % n := by
      rw [wrap64_id (by omega) (by omega), Int.tmod_eq_emod_of_nonneg (by omega), Int.add_emod_right, Int.tmod_def, Int.sub_emod, Int.mul_emod_right]
      simp
    have hn0 : n ≠ 0 := by omega
    rw [needK_true hn0, needK_true hn0, e1]
    exact hk

/-- slices.Clone -/
theorem c35 (A : Option Addr) (n c : Nat) (xs : List Int) (h : H) (k : Value → H → Prop) (hr : RowH h A n (xs.map bf).toArray) (hn : n ≤ 1099511627776)
    (hk : ∀ A' c' h', Ext h h' → Byt h' h.size A' n c' xs → k (.slice A' n c') h') : callK Try.prog 35 #[.slice A n c] h k := by
  refine call35 _ _ _ _ _ ?_
  unfold d35
  have hl : xs.length = n := by simpa using hr.1
  rw [needK_true rfl]
  refine ifB_of (fun hA => ?_) (fun hA => ?_)
  · have hA : A = none := by simpa using hA
    subst hA
    have h0 : n = 0 := by
      rcases Nat.eq_zero_or_pos n with h0 | h0
      · exact h0
      · obtain ⟨ad, e, _⟩ := hr.2 h0; cases e
    subst h0
    have : xs = [] := List.length_eq_zero_iff.1 hl
    subst this
    exact hk none 0 h (Ext.refl _) Lst.nil
  · refine alloc_new fun b h1 l1 hb e1 => src_one (hr.ext e1) ?_
    have o : Byt h1 h.size (some ⟨b, 0, none⟩) 0 0 [] := ⟨rfl, Own.of_blk l1 hb rfl⟩
    refine Lst.appends o xs hl rfl bf_one (by omega) e1.size (by omega) fun A' c' h2 l2 m2 d2 => ?_
    rw [Nat.zero_add] at l2 ⊢
    exact hk A' c' h2 (e1.then m2 (by rintro i ⟨ad, e, rfl⟩; cases e; exact l1)) l2

/-- Join -/
theorem c18 (A : Option Addr) (n c : Nat) (xs : List Int) (B : Option Addr) (m d : Nat) (ys : List Int) (h : H) (k : Value → H → Prop) (hr : RowH h A n (xs.map bf).toArray) (hs : RowH h B m (ys.map bf).toArray) (hn : n + m ≤ 1099511627776)
    (hk : ∀ A' c' h', Ext h h' → Byt h' h.size A' (n + m) c' (xs ++ ys) → k (.slice A' (n + m) c') h') : callK Try.prog 18 #[.slice A n c, .slice B m d] h k := by
  refine call18 _ _ _ _ _ _ _ _ ?_
  unfold d18
  have hl : xs.length = n := by simpa using hr.1
  have hm : ys.length = m := by simpa using hs.1
  refine src_one hr ?_
  have o : Byt h h.size none 0 0 [] := Lst.nil
  refine Lst.appends o xs hl rfl bf_one (by omega) (Nat.le_refl _) (by omega) fun A' c' h2 l2 m2 d2 => ?_
  have e2 : Ext h h2 := ⟨m2.size, fun i hi _ => m2.block i hi (by rintro ⟨ad, e, _⟩; cases e)⟩
  rw [Nat.zero_add] at l2 ⊢
  refine src_one (hs.ext e2) ?_
  refine Lst.appends l2 ys hm rfl bf_one (by omega) e2.size (by omega) fun A3 c3 h3 l3 m3 d3 => ?_
  exact hk A3 c3 h3 (e2.then m3 (fun i hi => l2.2.base_le hi)) l3

/-- the reference's Put -/
theorem c19 : ∀ (n : Nat) (v : Int) (h : H) (k : Value → H → Prop), n ≤ 8 → 0 ≤ v → v < 18446744073709551616 →
    (∀ A' c' h', Ext h h' → Byt h' h.size A' n c' (bytesOf v n) → k (.slice A' n c') h') → callK Try.prog 19 #[.int .u64 v, .int .i64 (n : Int)] h k
  | 0, v, h, k, _, h0, hv, hk => by
    refine call19 _ _ _ _ ?_
    unfold d19
    exact hk none 0 h (Ext.refl _) (by simpa [bytesOf, Byt] using (Lst.nil : Byt h h.size none 0 0 []))
  | n + 1, v, h, k, h8, h0, hv, hk => by
    refine call19 _ _ _ _ ?_
    unfold d19
    rw [beq_dec]
    refine ifB_dec (fun hz => by omega) (fun hz => ?_)
    have e1 : Int.tdiv v 256 = v / 256 := Int.tdiv_eq_ediv_of_nonneg h0
    have e2 : Int.tmod v 256 = v % 256 := Int.tmod_eq_emod_of_nonneg h0
    have e3 : IntKind.wrap .i64 ((n + 1 : Nat) - 1 : Int) = (n : Int) := by rw [wrap64_id (by omega) (by omega)]; omega
    have e4 : IntKind.wrap .u8 (v % 256) = v % 256 := by rw [IntKind.wrap_u8]; omega
    rw [needK_true (by decide), e1, e2, e3, e4, wrapu64_id (by omega) (by omega)]
    refine c19 n (v / 256) h _ (by omega) (by omega) (by omega) fun A c h1 x1 l1 => asS_of ?_
    rw [needK_true (by decide)]
    refine alloc_new fun b h2 _ hb e2 => src_blk hb rfl ?_
    refine Lst.push (f := fun x => [bf x]) bf_len (l1.ext e2) (v % 256) rfl (by simp [OneCells, bf, Value.oneCell']) (by omega) (x1.trans e2).size (by omega) fun A' c' h3 l3 m3 d3 => ?_
    rw [← bytesOf_succ] at l3
    exact hk A' c' h3 ((x1.trans e2).then m3 (fun i hi => l1.2.base_le hi)) l3

/-- of -/
theorem c34 (n : Nat) (v : Int) (h : H) (k : Value → H → Prop) (h1 : 1 ≤ n) (h8 : n ≤ 8) (h0 : 0 ≤ v) (hv : v < 18446744073709551616)
    (hk : ∀ A' c' h', Ext h h' → Byt h' h.size A' n c' (bytesOf v n) → k (.slice A' n c') h') : callK Try.prog 34 #[.int .u64 v, .int .i64 (n : Int)] h k := by
  refine call34 _ _ _ _ ?_
  unfold d34
  refine made_one (f := bf) (z := 0) rfl (by omega) (by omega) fun b h1' l1 lb e1 => ?_
  refine ⟨fun x g => Ext h g ∧ ∃ j : Nat, x = j ∧ j ≤ n ∧ Byt g h.size (some ⟨b, 0, none⟩) n n (List.replicate (n - j) 0 ++ (bytesOf v n).drop (n - j)), fun x g => (n - x).toNat,
    ⟨e1, 0, rfl, by omega, by rw [List.drop_of_length_le (by rw [bytesOf_length]; omega)]; simpa [Byt] using l1⟩, ?_⟩
  rintro x g ⟨e2, j, rfl, hj, l2⟩
  refine ifB_dec (fun hy => ?_) (fun hy => ?_)
  · have w1 : IntKind.wrap .i64 (8 * (j : Int)) = 8 * j := wrap64_id (by omega) (by omega)
    have w2 : IntKind.wrap .i64 (IntKind.wrap .i64 ((n : Int) - 1) - j) = (n - 1 - j : Nat) := by rw [wrap64_id (x := (n : Int) - 1) (by omega) (by omega), wrap64_id (by omega) (by omega)]; omega
    have w3 : IntKind.wrap .u8 (shrK .u64 v (8 * j)) = v / 256 ^ j % 256 := by rw [shr_of v (by omega), IntKind.wrap_u8]
    rw [w1, w2, w3, needK_true (by omega)]
    refine Lst.put (f := bf) l2 rfl (by simp [bytesOf_length]; omega) (v / 256 ^ j % 256) rfl fun g3 l3 m3 => ?_
    rw [wrap64_id (by omega) (by omega)]
    refine ⟨⟨e2.then m3 (fun i hi => l2.2.base_le hi), j + 1, by omega, by omega, ?_⟩, by dsimp only; omega⟩
    have e : (List.replicate (n - j) 0 ++ (bytesOf v n).drop (n - j)).set (n - 1 - j) (v / 256 ^ j % 256) = List.replicate (n - (j + 1)) 0 ++ (bytesOf v n).drop (n - (j + 1)) := by
      have h5 : n - j = n - 1 - j + 1 := by omega
      have h6 : n - (j + 1) = n - 1 - j := by omega
      rw [h5, h6, List.replicate_succ', List.append_assoc, List.set_append_right _ _ (by simp)]
      simp only [List.length_replicate, Nat.sub_self, List.singleton_append, List.set_cons_zero]
      congr 1
      rw [List.drop_eq_getElem_cons (i := n - 1 - j) (by rw [bytesOf_length]; omega)]
      congr 1
      simp only [bytesOf, List.getElem_map, List.getElem_range]
      congr 3
      omega
    rw [e] at l3
    exact l3
  · have : j = n := by omega
    subst this
    simp only [Nat.sub_self, List.replicate_zero, List.nil_append, List.drop_zero] at l2
    exact hk _ _ _ e2 l2

/-- Same -/
theorem c23 (A : Option Addr) (n c : Nat) (xs : List Int) (B : Option Addr) (m d : Nat) (ys : List Int) (h : H) (k : Value → H → Prop) (hr : RowH h A n (xs.map bf).toArray) (hs : RowH h B m (ys.map bf).toArray) (hx : ∀ x ∈ xs, isB x) (hy : ∀ y ∈ ys, isB y)
    (hk : k (.bool (decide (xs = ys))) h) : callK Try.prog 23 #[.slice A n c, .slice B m d] h k := by
  refine call23 _ _ _ _ _ _ _ _ ?_
  unfold d23
  refine strK_of hr (strK_of hs ?_)
  rw [str_beq hx hy]
  exact hk
end Go.Proofs.Yteagahchpblfkaa
