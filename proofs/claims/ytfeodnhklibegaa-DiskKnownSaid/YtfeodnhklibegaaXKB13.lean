/- What is proved: contracts of functions that the law calls, and of the law itself, over any heap. Conditions stand in each theorem. -/
import Derived.Test.YtfeodnhklibegaaXOctL
import Derived.Test.YtfeodnhklibegaaXL01
import Derived.Test.YtfeodnhklibegaaXD13
set_option linter.unusedSimpArgs false
set_option linter.unusedVariables false
namespace Go.Proofs.Ytfeodnhklibegaa
open Go.Oct Go.Oct.L01
theorem wrap64_id {x : Int} (h : -9223372036854775808 ≤ x) (h' : x ≤ 9223372036854775807) : IntKind.wrap .i64 x = x := by rw [IntKind.wrap_i64]; omega

theorem wrapu64_id {x : Int} (h : 0 ≤ x) (h' : x < 18446744073709551616) : IntKind.wrap .u64 x = x := by rw [IntKind.wrap_u64]; omega

def bf (x : Int) : Value := .int .u8 x

theorem bf_len (x : Int) : [bf x].length = 1 := rfl

theorem bf_one (x : Int) : (bf x).oneCell' = true := rfl

/-- a row of bytes of its own -/
def Byt (h : H) (base : Nat) (A : Option Addr) (n c : Nat) (xs : List Int) : Prop := Lst h base 5 (fun x => [bf x]) 1 A n c xs

/-- Pick -/
theorem c6 (x n : Int) (h : H) (k : Value → H → Prop) (hb : n ≤ 4611686018427387904) (hk : k (.int .i64 (if n ≤ 0 then 0 else x % n)) h) : callK Try.prog 6 #[.int .i64 x, .int .i64 n] h k := by
  refine call6 _ _ _ _ ?_
  unfold d6
  refine ifB_dec (fun h0 => ?_) (fun h0 => ?_)
  · rw [if_pos h0] at hk; exact hk
  · rw [if_neg h0] at hk
    have hn : 0 < n := by omega
    have h1 : Int.tmod x n < n := Int.tmod_lt_of_pos x hn
    have h2 : -n < Int.tmod x n := Int.lt_tmod_of_pos x hn
    have e1 : Int.tmod (IntKind.wrap .i64 (Int.tmod x n + n)) n = x % n := by
      rw [wrap64_id (by omega) (by omega), Int.tmod_eq_emod_of_nonneg (by omega), Int.add_emod_right, Int.tmod_def, Int.sub_emod, Int.mul_emod_right]
      simp
    have hn0 : n ≠ 0 := by omega
    rw [needK_true hn0, needK_true hn0, e1]
    exact hk

/-- slices.Clone -/
theorem c29 (A : Option Addr) (n c : Nat) (xs : List Int) (h : H) (k : Value → H → Prop) (hr : RowH h A n (xs.map bf).toArray) (hn : n ≤ 1099511627776)
    (hk : ∀ A' c' h', Ext h h' → Byt h' h.size A' n c' xs → k (.slice A' n c') h') : callK Try.prog 29 #[.slice A n c] h k := by
  refine call29 _ _ _ _ _ ?_
  unfold d29
  have hl : xs.length = n := by simpa using hr.1
  rw [needK_true rfl]
  refine ifB_of (fun hA => ?_) (fun hA => ?_)
  · have hA : A = none := by simpa using hA
    subst hA
    have h0 : n = 0 := by
      rcases Nat.eq_zero_or_pos n with h0 | h0
      · exact h0
      · obtain ⟨ad, e, _⟩ := hr.2 h0; cases e
    subst h0
    have : xs = [] := List.length_eq_zero_iff.1 hl
    subst this
    exact hk none 0 h (Ext.refl _) Lst.nil
  · refine alloc_new fun b h1 l1 hb e1 => src_one (hr.ext e1) ?_
    have o : Byt h1 h.size (some ⟨b, 0, none⟩) 0 0 [] := ⟨rfl, Own.of_blk l1 hb rfl⟩
    refine Lst.appends o xs hl rfl bf_one (by omega) e1.size (by omega) fun A' c' h2 l2 m2 d2 => ?_
    rw [Nat.zero_add] at l2 ⊢
    exact hk A' c' h2 (e1.then m2 (by rintro i ⟨ad, e, rfl⟩; cases e; exact l1)) l2

/-- Join -/
theorem c34 (A : Option Addr) (n c : Nat) (xs : List Int) (B : Option Addr) (m d : Nat) (ys : List Int) (h : H) (k : Value → H → Prop) (hr : RowH h A n (xs.map bf).toArray) (hs : RowH h B m (ys.map bf).toArray) (hn : n + m ≤ 1099511627776)
    (hk : ∀ A' c' h', Ext h h' → Byt h' h.size A' (n + m) c' (xs ++ ys) → k (.slice A' (n + m) c') h') : callK Try.prog 34 #[.slice A n c, .slice B m d] h k := by
  refine call34 _ _ _ _ _ _ _ _ ?_
  unfold d34
  have hl : xs.length = n := by simpa using hr.1
  have hm : ys.length = m := by simpa using hs.1
  refine src_one hr ?_
  have o : Byt h h.size none 0 0 [] := Lst.nil
  refine Lst.appends o xs hl rfl bf_one (by omega) (Nat.le_refl _) (by omega) fun A' c' h2 l2 m2 d2 => ?_
  have e2 : Ext h h2 := ⟨m2.size, fun i hi _ => m2.block i hi (by rintro ⟨ad, e, _⟩; cases e)⟩
  rw [Nat.zero_add] at l2 ⊢
  refine src_one (hs.ext e2) ?_
  refine Lst.appends l2 ys hm rfl bf_one (by omega) e2.size (by omega) fun A3 c3 h3 l3 m3 d3 => ?_
  exact hk A3 c3 h3 (e2.then m3 (fun i hi => l2.2.base_le hi)) l3

/-- Same -/
theorem c14 (A : Option Addr) (n c : Nat) (xs : List Int) (B : Option Addr) (m d : Nat) (ys : List Int) (h : H) (k : Value → H → Prop) (hr : RowH h A n (xs.map bf).toArray) (hs : RowH h B m (ys.map bf).toArray) (hx : ∀ x ∈ xs, isB x) (hy : ∀ y ∈ ys, isB y)
    (hk : k (.bool (decide (xs = ys))) h) : callK Try.prog 14 #[.slice A n c, .slice B m d] h k := by
  refine call14 _ _ _ _ _ _ _ _ ?_
  unfold d14
  refine strK_of hr (strK_of hs ?_)
  rw [str_beq hx hy]
  exact hk

/-- a writer -/
structure Wr (h : H) (base pw : Nat) (A : Option Addr) (n c : Nat) (xs : List Int) : Prop where
  blk : Blk h pw #[.slice A n c] 33
  le : base ≤ pw
  row : Byt h base A n c xs

def wfoot (pw : Nat) (A : Option Addr) (i : Nat) : Prop := i = pw ∨ blkOf A i

theorem Wr.base {h : H} {base pw : Nat} {A : Option Addr} {n c : Nat} {xs : List Int} (w : Wr h base pw A n c xs) {i : Nat} (hi : wfoot pw A i) : base ≤ i := by
  rcases hi with rfl | hi
  · exact w.le
  · exact w.row.2.base_le hi

theorem Wr.lt {h : H} {base pw : Nat} {A : Option Addr} {n c : Nat} {xs : List Int} (w : Wr h base pw A n c xs) {i : Nat} (hi : wfoot pw A i) : i < h.size := by
  rcases hi with rfl | hi
  · exact w.blk.lt
  · exact w.row.2.lt hi

theorem Wr.ext {h h' : H} {base pw : Nat} {A : Option Addr} {n c : Nat} {xs : List Int} (w : Wr h base pw A n c xs) (x : Ext h h') : Wr h' base pw A n c xs := ⟨w.blk.ext x, w.le, w.row.ext x⟩

theorem Wr.mod {h h' : H} {S : Nat → Prop} {base pw : Nat} {A : Option Addr} {n c : Nat} {xs : List Int} (w : Wr h base pw A n c xs) (x : Go.Oct.Mod h h' S) (hs : ∀ i, wfoot pw A i → ¬ S i) : Wr h' base pw A n c xs :=
  ⟨w.blk.mod x (hs _ (.inl rfl)), w.le, w.row.mod x (fun i hi => hs i (.inr hi))⟩

/-- u64s and ints that came in -/
def uf (x : Int) : Value := .int .u64 x

def gf (x : Int) : Value := .int .i64 x

def may (n : Nat) (at_ v size : Int) : Prop := fitsB v size = true ∧ 0 ≤ at_ ∧ at_ ≤ n ∧ size ≤ n - at_

instance (n : Nat) (a v s : Int) : Decidable (may n a v s) := by unfold may; infer_instance

/-- a reader -/
structure Rd (h : H) (base pr : Nat) (A : Option Addr) (n c : Nat) (xs : List Int) (at_ : Int) : Prop where
  blk : Blk h pr #[.slice A n c, .int .i64 at_] 64
  le : base ≤ pr
  row : Byt h base A n c xs
  ge : 0 ≤ at_
  le2 : at_ ≤ n
  sz : n ≤ 1099511627776

theorem Rd.ext {h h' : H} {base pr : Nat} {A : Option Addr} {n c : Nat} {xs : List Int} {a : Int} (r : Rd h base pr A n c xs a) (x : Ext h h') : Rd h' base pr A n c xs a := { r with blk := r.blk.ext x, row := r.row.ext x }

theorem Rd.mod {h h' : H} {S : Nat → Prop} {base pr : Nat} {A : Option Addr} {n c : Nat} {xs : List Int} {a : Int} (r : Rd h base pr A n c xs a) (x : Go.Oct.Mod h h' S) (hs : ∀ i, wfoot pr A i → ¬ S i) : Rd h' base pr A n c xs a :=
  { r with blk := r.blk.mod x (hs _ (.inl rfl)), row := r.row.mod x (fun i hi => hs i (.inr hi)) }

theorem Rd.base {h : H} {base pr : Nat} {A : Option Addr} {n c : Nat} {xs : List Int} {a : Int} (r : Rd h base pr A n c xs a) {i : Nat} (hi : wfoot pr A i) : base ≤ i := by
  rcases hi with rfl | hi
  · exact r.le
  · exact r.row.2.base_le hi

theorem Rd.put {h h' : H} {base pr : Nat} {A : Option Addr} {n c : Nat} {xs : List Int} {a a' : Int} (r : Rd h base pr A n c xs a) (hb : Blk h' pr #[.slice A n c, .int .i64 a'] 64) (m : Go.Oct.Mod h h' (· = pr)) (h0 : 0 ≤ a') (h1 : a' ≤ n) : Rd h' base pr A n c xs a' :=
  ⟨hb, r.le, r.row.mod m (fun i hi hp => r.row.2.ne_blk r.blk (by decide) _ hi hp), h0, h1, r.sz⟩

/-- every byte of a row is written over -/
theorem bump {h : H} {base : Nat} {A : Option Addr} {n c : Nat} {xs : List Int} {rest : H → Prop} (l : Byt h base A n c xs) (hn : n ≤ 1099511627776) (hk : ∀ h', Go.Oct.Mod h h' (blkOf A) → rest h') :
    loopK [.int .i64] (fun (kN : Int → H → Prop) (x : Int) (h : H) => ifB (decide (x < (n : Int))) (indexK 1 A n x (fun p => load1 p h (fun v => asI .u8 v (fun y => indexK 1 A n x (fun q => storeK 1 q (Value.cells (.int .u8 (IntKind.wrap .u8 (y + 1)))) h (fun h => kN (IntKind.wrap .i64 (x + 1)) h)))))) (rest h)) (fun I => I 0 h) := by
  refine ⟨fun x g => ∃ (j : Nat) (ys : List Int), x = j ∧ j ≤ n ∧ Byt g base A n c ys ∧ Go.Oct.Mod h g (blkOf A), fun x g => (n - x).toNat, ⟨0, xs, rfl, by omega, l, Go.Oct.Mod.refl _ _⟩, ?_⟩
  rintro x g ⟨j, ys, rfl, hj, l2, m2⟩
  have hl : ys.length = n := l2.1
  refine ifB_dec (fun hlt => ?_) (fun hge => hk g m2)
  refine row_load l2.row rfl (List.getElem?_eq_getElem (by omega)) (asI_of ?_)
  refine Lst.put (f := bf) l2 rfl (by omega) (IntKind.wrap .u8 (ys[j] + 1)) rfl fun g3 l3 m3 => ?_
  refine ⟨⟨j + 1, _, wrap64_id (by omega) (by omega), by omega, l3, m2.trans m3⟩, ?_⟩
  rw [wrap64_id (by omega) (by omega)]
  dsimp only
  omega
end Go.Proofs.Ytfeodnhklibegaa
