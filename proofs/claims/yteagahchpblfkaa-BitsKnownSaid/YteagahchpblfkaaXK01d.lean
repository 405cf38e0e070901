/- What is proved: contracts of functions that the law calls, and of the law itself, over any heap. Conditions stand in each theorem. -/
import Derived.Test.YteagahchpblfkaaXK01c
set_option linter.unusedSimpArgs false
set_option linter.unusedVariables false
namespace Go.Proofs.Yteagahchpblfkaa
open Go.Oct Go.Oct.L01

/-- a writer -/
structure Wr (h : H) (base pw : Nat) (A : Option Addr) (n c : Nat) (xs : List Int) : Prop where
  blk : Blk h pw #[.slice A n c] 33
  le : base ≤ pw
  row : Byt h base A n c xs
def wfoot (pw : Nat) (A : Option Addr) (i : Nat) : Prop := i = pw ∨ blkOf A i
theorem Wr.base {h : H} {base pw : Nat} {A : Option Addr} {n c : Nat} {xs : List Int} (w : Wr h base pw A n c xs) {i : Nat} (hi : wfoot pw A i) : base ≤ i := by
  rcases hi with rfl | hi
  · exact w.le
  · exact w.row.2.base_le hi
theorem Wr.lt {h : H} {base pw : Nat} {A : Option Addr} {n c : Nat} {xs : List Int} (w : Wr h base pw A n c xs) {i : Nat} (hi : wfoot pw A i) : i < h.size := by
  rcases hi with rfl | hi
  · exact w.blk.lt
  · exact w.row.2.lt hi
theorem Wr.ext {h h' : H} {base pw : Nat} {A : Option Addr} {n c : Nat} {xs : List Int} (w : Wr h base pw A n c xs) (x : Ext h h') : Wr h' base pw A n c xs := ⟨w.blk.ext x, w.le, w.row.ext x⟩
theorem Wr.mod {h h' : H} {S : Nat → Prop} {base pw : Nat} {A : Option Addr} {n c : Nat} {xs : List Int} (w : Wr h base pw A n c xs) (x : Go.Oct.Mod h h' S) (hs : ∀ i, wfoot pw A i → ¬ S i) : Wr h' base pw A n c xs :=
  ⟨w.blk.mod x (hs _ (.inl rfl)), w.le, w.row.mod x (fun i hi => hs i (.inr hi))⟩

/-- Raw -/
theorem c20 (base pw : Nat) (A : Option Addr) (n c : Nat) (xs : List Int) (B : Option Addr) (m d : Nat) (ys : List Int) (h : H) (k : Value → H → Prop) (w : Wr h base pw A n c xs) (hs : RowH h B m (ys.map bf).toArray) (hn : n + m ≤ 1099511627776)
    (hk : ∀ A' c' h', Wr h' base pw A' (n + m) c' (xs ++ ys) → Go.Oct.Mod h h' (wfoot pw A) → (∀ i, wfoot pw A' i → wfoot pw A i ∨ h.size ≤ i) → k (.int .i64 0) h') : callK Try.prog 20 #[.pointer (some ⟨pw, 0, none⟩), .slice B m d] h k := by
  refine call20 _ _ _ _ _ _ ?_
  unfold d20
  have hm : ys.length = m := by simpa using hs.1
  rw [needK_true (by simp)]
  refine ifB_of (fun hA => by simp at hA) (fun _ => ?_)
  rw [nilK_some, addrK_mk]
  refine w.blk.at_.load1 0 rfl rfl (asS_of (src_one hs ?_))
  refine Lst.appends w.row ys hm rfl bf_one (by omega) (Nat.le_trans w.le (Nat.le_of_lt w.blk.lt)) (by omega) fun A' c' h2 l2 m2 d2 => ?_
  have hne : ¬ blkOf A pw := fun hi => w.row.2.ne_blk w.blk (by decide) _ hi rfl
  have b2 := w.blk.mod m2 hne
  rw [nilK_some, addrK_mk]
  refine store_blk b2 rfl (by simp) (by simp [OneCells, Value.cells, Value.oneCell']) fun h3 b3 m3 => ?_
  have hne2 : ¬ blkOf A' pw := fun hi => l2.2.ne_blk b2 (by decide) _ hi rfl
  refine hk A' c' h3 ⟨by simpa [over, Value.cells] using b3, w.le, l2.mod m3 (fun i hi hp => hne2 (by rwa [hp] at hi))⟩ ((m2.mono fun i _ hi => .inr hi).trans (m3.mono fun i _ hi => .inl hi)) ?_
  rintro i (rfl | hi)
  · exact .inl (.inl rfl)
  · rcases d2 i hi with h4 | h4
    · exact .inl (.inr h4)
    · exact .inr h4

/-- Put -/
theorem c17 (base pw : Nat) (A : Option Addr) (n c : Nat) (xs : List Int) (v size : Int) (h : H) (k : Value → H → Prop) (w : Wr h base pw A n c xs) (h0 : 0 ≤ v) (hv : v < 18446744073709551616) (hn : n ≤ 1099511627000)
    (hno : fitsB v size = false → k (.int .i64 2) h)
    (hk : fitsB v size = true → ∀ A' c' h', Wr h' base pw A' (n + size.toNat) c' (xs ++ bytesOf v size.toNat) → Go.Oct.Mod h h' (wfoot pw A) → (∀ i, wfoot pw A' i → wfoot pw A i ∨ h.size ≤ i) → k (.int .i64 0) h') : callK Try.prog 17 #[.pointer (some ⟨pw, 0, none⟩), .int .u64 v, .int .i64 size] h k := by
  refine call17 _ _ _ _ _ ?_
  unfold d17
  rw [needK_true (by simp)]
  refine ifB_of (fun hA => by simp at hA) (fun _ => ?_)
  refine c33 v size h0 hv _ _ (asB_of (ifB_of (fun hf => ?_) (fun hf => ?_)))
  · exact hno (by simpa using hf)
  · have hf : fitsB v size = true := by simpa using hf
    have hr : 1 ≤ size ∧ size ≤ 8 := by unfold fitsB at hf; simp at hf; omega
    obtain ⟨s, rfl⟩ := Int.eq_ofNat_of_zero_le (show 0 ≤ size by omega)
    refine c34 s v h _ (by omega) (by omega) h0 hv fun B d h1 x1 l1 => asS_of ?_
    have hbl : (bytesOf v s).length = s := bytesOf_length v s
    refine c20 base pw A n c xs B s d _ h1 _ (w.ext x1) l1.row (by omega) fun A' c' h' w' m' d' => asI_of ?_
    refine hk hf A' c' h' w' (x1.mod.trans m') fun i hi => ?_
    rcases d' i hi with h4 | h4
    · exact .inl h4
    · exact .inr (Nat.le_trans x1.size h4)

/-- Bytes -/
theorem c22 (base pw : Nat) (A : Option Addr) (n c : Nat) (xs : List Int) (h : H) (k : Value → H → Prop) (w : Wr h base pw A n c xs) (hn : n ≤ 1099511627776)
    (hk : ∀ A' c' h', Ext h h' → Byt h' h.size A' n c' xs → k (.slice A' n c') h') : callK Try.prog 22 #[.pointer (some ⟨pw, 0, none⟩)] h k := by
  refine call22 _ _ _ ?_
  unfold d22
  rw [needK_true (by simp)]
  refine ifB_of (fun hA => by simp at hA) (fun _ => ?_)
  rw [nilK_some, addrK_mk]
  refine w.blk.at_.load1 0 rfl rfl (asS_of ?_)
  exact c35 A n c xs h _ w.row.row hn fun A' c' h' x l => asS_of (hk A' c' h' x l)

/-- Len -/
theorem c24 (base pw : Nat) (A : Option Addr) (n c : Nat) (xs : List Int) (h : H) (k : Value → H → Prop) (w : Wr h base pw A n c xs) (hk : k (.int .i64 n) h) : callK Try.prog 24 #[.pointer (some ⟨pw, 0, none⟩)] h k := by
  refine call24 _ _ _ ?_
  unfold d24
  rw [needK_true (by simp)]
  refine ifB_of (fun hA => by simp at hA) (fun _ => ?_)
  rw [nilK_some, addrK_mk]
  exact w.blk.at_.load1 0 rfl rfl (asS_of hk)

/-- works -/
theorem c9 (h : H) (k : Value → H → Prop) (hk : ∀ h', Ext h h' → k (.bool true) h') : callK Try.prog 9 #[] h k := by
  refine call9 _ _ ?_
  unfold d9
  refine alloc_new fun p h1 lp bp e1 => ?_
  have w1 : Wr h1 h.size p none 0 0 [] := ⟨bp, lp, Lst.nil⟩
  refine c17 h.size p _ _ _ _ 258 3 h1 _ w1 (by decide) (by decide) (by omega) (fun hf => absurd hf (by decide)) fun _ A2 q2 h2 w2 m2 d2 => asI_of ?_
  have x2 : Ext h h2 := e1.then m2 (fun i hi => w1.base hi)
  refine c17 h.size p _ _ _ _ 256 1 h2 _ w2 (by decide) (by decide) (by decide) (fun _ => asI_of ?_) fun hf => absurd hf (by decide)
  refine alloc_new fun p9 h3 _ b9 e3 => ?_
  have r9 : RowH h3 (some ⟨p9, 0, none⟩) 3 (([1, 2, 3] : List Int).map bf).toArray := (b9.row 0 3 (by decide))
  refine c10 _ 3 3 [1, 2, 3] 1 2 h3 _ r9 (by omega) (by omega) (by omega) (by decide) (asT2_of (asI_of (asI_of ?_)))
  rw [show getR [1, 2, 3] 1 2 = (515, 0) from by decide]
  refine ifB_eq (fun _ => ifB_eq (fun _ => ?_) (fun hn => absurd rfl hn)) (fun hn => absurd rfl hn)
  have w3 := w2.ext e3
  refine c22 h.size p _ _ _ _ h3 _ w3 (by decide) fun A4 q4 h4 x4 l4 => asS_of ?_
  refine alloc_new fun p21 h5 _ b21 e5 => ?_
  have r21 : RowH h5 (some ⟨p21, 0, none⟩) 3 (([0, 1, 2] : List Int).map bf).toArray := (b21.row 0 3 (by decide))
  refine c23 _ _ _ _ _ _ _ [0, 1, 2] h5 _ (l4.ext e5).row r21 (by decide) (by decide) (asB_of ?_)
  rw [show decide (([] : List Int) ++ bytesOf 258 (Int.toNat 3) = [0, 1, 2]) = true from by decide]
  have x5 : Ext h h5 := x2.trans (e3.trans (x4.trans e5))
  rw [ifB_true]
  refine ifB_eq (fun _ => ifB_eq (fun _ => ?_) (fun hn => absurd rfl hn)) (fun hn => absurd rfl hn)
  refine c12 0 (by decide) (by decide) _ _ (asI_of (ifB_eq (fun _ => ?_) (fun hn => absurd (by decide) hn)))
  refine c12 255 (by decide) (by decide) _ _ (asI_of (ifB_eq (fun _ => ?_) (fun hn => absurd (by decide) hn)))
  refine c12 256 (by decide) (by decide) _ _ (asI_of ?_)
  exact hk h5 x5

/-- BitsGets -/
theorem c3 (A : Option Addr) (n c : Nat) (xs : List Int) (at_ size v : Int) (h : H) (k : Value → H → Prop) (hr : RowH h A n (xs.map bf).toArray) (hc : n ≤ c) (hb : ∀ x ∈ xs, isB x) (ha : at_ ≤ 9223372036854775807) (h0 : 0 ≤ v) (hv : v < 18446744073709551616)
    (hk : ∀ h', Ext h h' → k (.bool true) h') : callK Try.prog 3 #[.slice A n c, .int .i64 at_, .int .i64 size, .int .u64 v] h k := by
  refine call3 _ _ _ _ _ _ _ _ ?_
  unfold d3
  refine ifB_dec (fun h1 => ?_) (fun h1 => ?_)
  · exact c9 _ _ fun h' e => asB_of (hk h' e)
  refine c10 _ _ _ xs _ _ _ _ hr hc (by omega) ha hb (asT2_of (asI_of (asI_of ?_)))
  refine c11 _ _ _ xs _ _ _ _ hr hc (by omega) ha hb (asT2_of (asI_of (asI_of ?_)))
  refine ifB_eq (fun _ => ifB_eq (fun _ => ?_) (fun hn => absurd rfl hn)) (fun hn => absurd rfl hn)
  refine c12 v h0 hv _ _ (asI_of (c13 v h0 hv _ _ (asI_of ?_)))
  refine ifB_eq (fun _ => ?_) (fun hn => absurd rfl hn)
  exact c9 _ _ fun h' e => asB_of (hk h' e)
end Go.Proofs.Yteagahchpblfkaa
