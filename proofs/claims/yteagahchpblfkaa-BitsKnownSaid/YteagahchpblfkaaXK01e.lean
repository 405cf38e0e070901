/- What is proved: contracts of functions that the law calls, and of the law itself, over any heap. Conditions stand in each theorem. -/
import Derived.Test.YteagahchpblfkaaXK01d
set_option linter.unusedSimpArgs false
set_option linter.unusedVariables false
namespace Go.Proofs.Yteagahchpblfkaa
open Go.Oct Go.Oct.L01

/-- u64s and ints that came in -/
def uf (x : Int) : Value := .int .u64 x
def gf (x : Int) : Value := .int .i64 x
def may (n : Nat) (at_ v size : Int) : Prop := fitsB v size = true ∧ 0 ≤ at_ ∧ at_ ≤ n ∧ size ≤ n - at_

instance (n : Nat) (a v s : Int) : Decidable (may n a v s) := by unfold may; infer_instance

/-- Set -/
theorem c21 (base pw : Nat) (A : Option Addr) (n c : Nat) (xs : List Int) (at_ v size : Int) (h : H) (k : Value → H → Prop) (w : Wr h base pw A n c xs) (h0 : 0 ≤ v) (hv : v < 18446744073709551616) (hn : n ≤ 1099511627776)
    (hno : ¬ may n at_ v size → k (.int .i64 2) h)
    (hk : may n at_ v size → ∀ h', Wr h' base pw A n c (patch xs at_ v size) → Go.Oct.Mod h h' (wfoot pw A) → k (.int .i64 0) h') :
    callK Try.prog 21 #[.pointer (some ⟨pw, 0, none⟩), .int .i64 at_, .int .u64 v, .int .i64 size] h k := by
  refine call21 _ _ _ _ _ _ ?_
  unfold d21
  have hl := w.row.1
  rw [needK_true (by simp)]
  refine ifB_of (fun hA => by simp at hA) (fun _ => ?_)
  refine ⟨fun b g => g = h ∧ (b = true ↔ ¬ may n at_ v size), ?_, ?_⟩
  · refine c33 v size h0 hv _ _ (asB_of (ifB_of (fun hf => ⟨rfl, ?_⟩) (fun hf => ?_)))
    · unfold may; simp at hf; simp [hf]
    have hf : fitsB v size = true := by simpa using hf
    refine ifB_dec (fun h1 => ⟨rfl, by unfold may; simp [hf]; omega⟩) (fun h1 => ?_)
    rw [nilK_some, addrK_mk]
    refine w.blk.at_.load1 0 rfl rfl (asS_of ?_)
    refine ifB_dec (fun h2 => ⟨rfl, by unfold may; simp [hf]; omega⟩) (fun h2 => ?_)
    rw [nilK_some, addrK_mk]
    refine w.blk.at_.load1 0 rfl rfl (asS_of ⟨rfl, ?_⟩)
    rw [wrap64_id (by omega) (by omega)]
    unfold may; simp [hf]; omega
  rintro b g ⟨rfl, hb⟩
  refine ifB_of (fun hbt => hno (hb.1 hbt)) (fun hbf => ?_)
  have hm : may n at_ v size := by
    by_cases hm : may n at_ v size
    · exact hm
    · rw [hb.2 hm] at hbf; cases hbf
  obtain ⟨hf, ha0, han, hsz⟩ := hm
  have hr : 1 ≤ size ∧ size ≤ 8 := by unfold fitsB at hf; simp at hf; omega
  obtain ⟨s, rfl⟩ := Int.eq_ofNat_of_zero_le (show 0 ≤ size by omega)
  obtain ⟨a, rfl⟩ := Int.eq_ofNat_of_zero_le ha0
  refine draw_ext ?_
  rw [nilK_some, addrK_mk]
  refine w.blk.at_.loadS1 0 rfl rfl (asS_of ?_)
  rw [needK_true (by simp)]
  refine ⟨by simp, by simp only [Option.getD_some, Option.getD_none]; omega, by simp only [Option.getD_some, Option.getD_none]; have := w.row.2.le; omega, by simp, ?_⟩
  simp only [Option.getD_some, Option.getD_none, Int.toNat_natCast, Nat.mul_one]
  have hle := w.row.2.le
  rw [if_neg (by omega)]
  refine c34 s v g _ (by omega) (by omega) h0 hv fun B d h1 x1 l1 => asS_of ⟨x1, ?_⟩
  have w1 := w.ext x1
  refine Lst.copy w1.row (bytesOf v s) l1.row bf_one (by omega) (o := a) (by omega) (by omega) rfl fun h2 l2 m2 => ?_
  have hne : ¬ blkOf A pw := fun hi => w1.row.2.ne_blk w1.blk (by decide) _ hi rfl
  exact hk ⟨hf, ha0, han, hsz⟩ h2 ⟨w1.blk.mod m2 hne, w.le, by simpa [patch, Byt] using l2⟩ (x1.mod.trans (m2.mono fun i _ hi => .inr hi))

/-- a reader -/
structure Rd (h : H) (base pr : Nat) (A : Option Addr) (n c : Nat) (xs : List Int) (at_ : Int) : Prop where
  blk : Blk h pr #[.slice A n c, .int .i64 at_] 64
  le : base ≤ pr
  row : Byt h base A n c xs
  ge : 0 ≤ at_
  le2 : at_ ≤ n
  sz : n ≤ 1099511627776
theorem Rd.ext {h h' : H} {base pr : Nat} {A : Option Addr} {n c : Nat} {xs : List Int} {a : Int} (r : Rd h base pr A n c xs a) (x : Ext h h') : Rd h' base pr A n c xs a := { r with blk := r.blk.ext x, row := r.row.ext x }
theorem Rd.mod {h h' : H} {S : Nat → Prop} {base pr : Nat} {A : Option Addr} {n c : Nat} {xs : List Int} {a : Int} (r : Rd h base pr A n c xs a) (x : Go.Oct.Mod h h' S) (hs : ∀ i, wfoot pr A i → ¬ S i) : Rd h' base pr A n c xs a :=
  { r with blk := r.blk.mod x (hs _ (.inl rfl)), row := r.row.mod x (fun i hi => hs i (.inr hi)) }
theorem Rd.base {h : H} {base pr : Nat} {A : Option Addr} {n c : Nat} {xs : List Int} {a : Int} (r : Rd h base pr A n c xs a) {i : Nat} (hi : wfoot pr A i) : base ≤ i := by
  rcases hi with rfl | hi
  · exact r.le
  · exact r.row.2.base_le hi
theorem Rd.put {h h' : H} {base pr : Nat} {A : Option Addr} {n c : Nat} {xs : List Int} {a a' : Int} (r : Rd h base pr A n c xs a) (hb : Blk h' pr #[.slice A n c, .int .i64 a'] 64) (m : Go.Oct.Mod h h' (· = pr)) (h0 : 0 ≤ a') (h1 : a' ≤ n) : Rd h' base pr A n c xs a' :=
  ⟨hb, r.le, r.row.mod m (fun i hi hp => r.row.2.ne_blk r.blk (by decide) _ hi hp), h0, h1, r.sz⟩

/-- Read -/
theorem c25 (A : Option Addr) (n c : Nat) (xs : List Int) (h : H) (k : Value → H → Prop) (hr : RowH h A n (xs.map bf).toArray) (hn : n ≤ 1099511627776)
    (hk : ∀ pr A' c' h', Ext h h' → Rd h' h.size pr A' n c' xs 0 → k (.pointer (some ⟨pr, 0, none⟩)) h') : callK Try.prog 25 #[.slice A n c] h k := by
  refine call25 _ _ _ _ _ ?_
  unfold d25
  refine c35 A n c xs h _ hr hn fun A' c' h1 x1 l1 => asS_of ?_
  refine alloc_new fun pr h2 lp bp e2 => ?_
  exact hk pr A' c' h2 (x1.trans e2) ⟨bp, Nat.le_trans x1.size lp, l1.ext e2, by omega, by omega, hn⟩

/-- Reader.Get -/
theorem c26 (base pr : Nat) (A : Option Addr) (n c : Nat) (xs : List Int) (at_ size : Int) (h : H) (k : Value → H → Prop) (r : Rd h base pr A n c xs at_) (hb : ∀ x ∈ xs, isB x)
    (hk : ∀ h', Rd h' base pr A n c xs (if (getR xs at_ size).2 = 0 then at_ + size else at_) → Go.Oct.Mod h h' (· = pr) → k (.tuple #[.int .u64 (getR xs at_ size).1, .int .i64 (getR xs at_ size).2]) h') :
    callK Try.prog 26 #[.pointer (some ⟨pr, 0, none⟩), .int .i64 size] h k := by
  refine call26 _ _ _ _ ?_
  unfold d26
  have h0 := r.ge
  have h1 := r.le2
  have h2 := r.sz
  have hl := r.row.1
  rw [needK_true (by simp)]
  refine ifB_of (fun hA => by simp at hA) (fun _ => draw_ext ?_)
  rw [nilK_some, addrK_mk]
  refine r.blk.at_.loadS1 0 rfl rfl (asS_of ?_)
  rw [nilK_some, addrK_mk]
  refine r.blk.at_.loadS1 1 rfl rfl (asI_of ?_)
  refine c10 A n c xs at_ size h _ r.row.row r.row.2.le r.sz (by omega) hb (asT2_of (asI_of (asI_of ?_)))
  refine ⟨fun b g => Rd g base pr A n c xs (if (getR xs at_ size).2 = 0 then at_ + size else at_) ∧ Go.Oct.Mod h g (· = pr), ?_, fun b g hg => hk g hg.1 hg.2⟩
  refine ifB_eq (fun he => ?_) (fun he => ?_)
  · rw [nilK_some, addrK_mk]
    refine r.blk.at_.load1 1 rfl rfl (asI_of ?_)
    rw [nilK_some, addrK_mk]
    have hsz : 1 ≤ size ∧ size ≤ 8 ∧ at_ + size ≤ n := by
      unfold getR at he
      split at he
      · simp at he
      · split at he
        · simp at he
        · omega
    refine store_blk r.blk rfl (by simp) (by simp [OneCells, Value.cells, Value.oneCell']) fun g bg mg => ?_
    rw [wrap64_id (by omega) (by omega)] at bg
    simp [over, Value.cells] at bg
    rw [if_pos he]
    exact ⟨r.put bg mg (by omega) (by omega), mg⟩
  · rw [if_neg he]
    exact ⟨r, Go.Oct.Mod.refl _ _⟩

/-- Left -/
theorem c27 (base pr : Nat) (A : Option Addr) (n c : Nat) (xs : List Int) (at_ : Int) (h : H) (k : Value → H → Prop) (r : Rd h base pr A n c xs at_) (hk : k (.int .i64 (n - at_)) h) : callK Try.prog 27 #[.pointer (some ⟨pr, 0, none⟩)] h k := by
  refine call27 _ _ _ ?_
  unfold d27
  have h0 := r.ge
  have h1 := r.le2
  have h2 := r.sz
  rw [needK_true (by simp)]
  refine ifB_of (fun hA => by simp at hA) (fun _ => draw_ext ?_)
  rw [nilK_some, addrK_mk]
  refine r.blk.at_.loadS1 0 rfl rfl (asS_of ?_)
  rw [nilK_some, addrK_mk]
  refine r.blk.at_.loadS1 1 rfl rfl (asI_of ?_)
  rw [wrap64_id (by omega) (by omega)]
  exact hk

/-- At -/
theorem c29 (base pr : Nat) (A : Option Addr) (n c : Nat) (xs : List Int) (at_ : Int) (h : H) (k : Value → H → Prop) (r : Rd h base pr A n c xs at_) (hk : k (.int .i64 at_) h) : callK Try.prog 29 #[.pointer (some ⟨pr, 0, none⟩)] h k := by
  refine call29 _ _ _ ?_
  unfold d29
  rw [needK_true (by simp)]
  refine ifB_of (fun hA => by simp at hA) (fun _ => ?_)
  rw [nilK_some, addrK_mk]
  exact r.blk.at_.load1 1 rfl rfl (asI_of hk)

/-- Take -/
theorem c28 (base pr : Nat) (A : Option Addr) (n c : Nat) (xs : List Int) (at_ m : Int) (h : H) (k : Value → H → Prop) (r : Rd h base pr A n c xs at_)
    (hneg : m < 0 → k (.tuple #[.slice none 0 0, .int .i64 2]) h) (hshort : 0 ≤ m → n - at_ < m → k (.tuple #[.slice none 0 0, .int .i64 10]) h)
    (hk : 0 ≤ m → m ≤ n - at_ → ∀ A' c' h', Rd h' base pr A n c xs (at_ + m) → Go.Oct.Mod h h' (· = pr) → Byt h' h.size A' m.toNat c' ((xs.drop at_.toNat).take m.toNat) → k (.tuple #[.slice A' m.toNat c', .int .i64 0]) h') :
    callK Try.prog 28 #[.pointer (some ⟨pr, 0, none⟩), .int .i64 m] h k := by
  refine call28 _ _ _ _ ?_
  unfold d28
  have h0 := r.ge
  have h1 := r.le2
  have h2 := r.sz
  have hl := r.row.1
  rw [needK_true (by simp)]
  refine ifB_of (fun hA => by simp at hA) (fun _ => ?_)
  refine ifB_dec hneg (fun hm => ?_)
  refine c27 base pr A n c xs at_ h _ r (asI_of ?_)
  refine ifB_dec (fun hs => hshort (by omega) (by omega)) (fun hs => draw_ext ?_)
  obtain ⟨m, rfl⟩ := Int.eq_ofNat_of_zero_le (show 0 ≤ m by omega)
  obtain ⟨a, rfl⟩ := Int.eq_ofNat_of_zero_le h0
  rw [nilK_some, addrK_mk]
  refine r.blk.at_.loadS1 0 rfl rfl (asS_of ?_)
  rw [nilK_some, addrK_mk]
  refine r.blk.at_.loadS1 1 rfl rfl (asI_of ?_)
  rw [nilK_some, addrK_mk]
  refine r.blk.at_.loadS1 1 rfl rfl (asI_of ?_)
  rw [nilK_some, addrK_mk]
  refine r.blk.at_.loadS1 1 rfl rfl (asI_of ?_)
  rw [needK_true (by simp), wrap64_id (by omega) (by omega)]
  have hle := r.row.2.le
  refine row_slice3 r.row.row hle (l := a) (u := a + m) (m := a + m) (by simp) (by simp) (by simp) (by omega) (by omega) (by omega) (by omega) fun A1 r1 hblk => ?_
  rw [nilK_some, addrK_mk]
  refine r.blk.at_.load1 1 rfl rfl (asI_of ?_)
  rw [nilK_some, addrK_mk]
  refine store_blk r.blk rfl (by simp) (by simp [OneCells, Value.cells, Value.oneCell']) fun g bg mg => ?_
  rw [wrap64_id (by omega) (by omega)] at bg
  simp [over, Value.cells] at bg
  have r' := r.put bg mg (by omega) (by omega)
  have hs2 : a + m - a = m := by omega
  rw [hs2] at r1 ⊢
  have r2 := r1.mod mg (fun ad hA hp => r.row.2.ne_blk r.blk (by decide) _ (hblk ad.block ⟨ad, hA, rfl⟩) hp)
  refine c35 A1 m m _ g _ r2 (by omega) fun A' c' g' x' l' => asS_of ?_
  refine hk (by omega) (by omega) A' c' g' (r'.ext x') (mg.trans x'.mod) ?_
  simp only [Int.toNat_natCast]
  exact Lst.weaken l' mg.size
end Go.Proofs.Yteagahchpblfkaa
