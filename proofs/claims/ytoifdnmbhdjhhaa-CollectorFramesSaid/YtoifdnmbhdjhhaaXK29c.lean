/- What is proved: contracts of functions that the law calls, and of the law itself, over any heap. Conditions stand in each theorem. -/
import Derived.Test.YtoifdnmbhdjhhaaXKB29
import Derived.Test.YtoifdnmbhdjhhaaXK29v
set_option linter.unusedSimpArgs false
set_option linter.unusedVariables false
namespace Go.Proofs.Ytoifdnmbhdjhhaa
open Go.Oct Go.Oct.L01

/-! ### entries, marks and acknowledgements as cells -/
def u32B (x : Int) : Prop := 0 ≤ x ∧ x < 4294967296
def u64B (x : Int) : Prop := 0 ≤ x ∧ x < 18446744073709551616
def ent (E N P : Int) (s : Value) : Array Value := #[.int .u32 E, .int .u64 N, .int .u32 P, s]
def ack (D E N : Int) : Array Value := #[.int .u32 D, .int .u32 E, .int .u64 N]
def mayB (E N P : Int) : Bool := decide (0 < E) && (decide (P ≤ E) && decide (N < 18446744073709551615))

theorem c26 (E N P : Int) (s : Value) (h : H) (k : Value → H → Prop) (hk : ∀ h', Ext h h' → k (.bool (mayB E N P)) h') : callK Try.prog 26 #[.agg (ent E N P s)] h k := by
  refine call26 _ _ _ ?_
  unfold d26
  refine alloc_new fun b h1 _ hb e => ?_
  have a := hb.at_
  have hk := hk h1 e
  unfold mayB at hk
  refine addrK_of rfl (a.load1 0 rfl rfl (asI_of (ifB_dec (fun h1 => ?_) (fun h1 => ?_))))
  · refine addrK_of rfl (a.load1 2 rfl rfl (asI_of ?_))
    refine addrK_of rfl (a.load1 0 rfl rfl (asI_of (ifB_dec (fun h2 => ?_) (fun h2 => ?_))))
    · refine addrK_of rfl (a.load1 1 rfl rfl (asI_of ?_))
      rw [decide_eq_true (by omega : 0 < E), decide_eq_true h2] at hk
      exact hk
    · rw [decide_eq_true (by omega : 0 < E), decide_eq_false h2] at hk
      exact hk
  · rw [decide_eq_false (by omega : ¬ 0 < E)] at hk
    exact hk
theorem c30 (E N P : Int) (s : Value) (h : H) (k : Value → H → Prop) (hk : ∀ h', Ext h h' → k (.bool (mayB E N P)) h') : callK Try.prog 30 #[.agg (ent E N P s)] h k := by
  refine call30 _ _ _ ?_
  unfold d30
  refine alloc_new fun b h1 _ hb e => ?_
  have a := hb.at_
  have hk := hk h1 e
  unfold mayB at hk
  refine addrK_of rfl (a.load1 0 rfl rfl (asI_of (ifB_dec (fun h1 => ?_) (fun h1 => ?_))))
  · refine addrK_of rfl (a.load1 2 rfl rfl (asI_of ?_))
    refine addrK_of rfl (a.load1 0 rfl rfl (asI_of (ifB_dec (fun h2 => ?_) (fun h2 => ?_))))
    · refine addrK_of rfl (a.load1 1 rfl rfl (asI_of ?_))
      rw [decide_eq_true (by omega : 0 < E), decide_eq_true h2] at hk
      exact hk
    · rw [decide_eq_true (by omega : 0 < E), decide_eq_false h2] at hk
      exact hk
  · rw [decide_eq_false (by omega : ¬ 0 < E)] at hk
    exact hk

/-- Own -/
theorem c25 (A : Option Addr) (n c : Nat) (xs : List Int) (h : H) (k : Value → H → Prop) (hr : RowH h A n (xs.map bf).toArray) (hn : n ≤ 1099511627776)
    (hk : ∀ A' c' h', Ext h h' → Byt h' h.size A' n c' xs → k (.slice A' n c') h') : callK Try.prog 25 #[.slice A n c] h k := by
  refine call25 _ _ _ _ _ ?_
  unfold d25
  have hl : xs.length = n := by simpa using hr.1
  refine src_one hr ?_
  have o : Byt h h.size none 0 0 [] := Lst.nil
  refine Lst.appends o xs hl rfl bf_one (by omega) (Nat.le_refl _) (by omega) fun A' c' h2 l2 m2 d2 => ?_
  have e2 : Ext h h2 := ⟨m2.size, fun i hi _ => m2.block i hi (by rintro ⟨ad, e, _⟩; cases e)⟩
  rw [Nat.zero_add] at l2 ⊢
  exact hk A' c' h2 e2 l2

/-- Spoil -/
theorem c20 (A : Option Addr) (n c base : Nat) (xs : List Int) (h : H) (k : Value → H → Prop) (l : Byt h base A n c xs) (hn : n ≤ 1099511627776)
    (hk : ∀ v h', Go.Oct.Mod h h' (blkOf A) → k v h') : callK Try.prog 20 #[.slice A n c] h k := by
  refine call20 _ _ _ _ _ ?_
  unfold d20
  refine ⟨fun x g => ∃ (j : Nat) (ys : List Int), x = j ∧ j ≤ n ∧ Byt g base A n c ys ∧ Go.Oct.Mod h g (blkOf A), fun x g => (n - x).toNat, ⟨0, xs, rfl, by omega, l, Go.Oct.Mod.refl _ _⟩, ?_⟩
  rintro x g ⟨j, ys, rfl, hj, l2, m2⟩
  have hl : ys.length = n := l2.1
  refine ifB_dec (fun hlt => ?_) (fun hge => hk _ g m2)
  refine Lst.put (f := bf) l2 rfl (by omega) 165 rfl fun g3 l3 m3 => ?_
  refine ⟨⟨j + 1, _, wrap64_id (by omega) (by omega), by omega, l3, m2.trans m3⟩, ?_⟩
  rw [wrap64_id (by omega) (by omega)]
  dsimp only
  omega

/-- octroidocs.Entry -/
theorem c8 (E N P : Int) (A : Option Addr) (n c : Nat) (bs : List Int) (h : H) (k : Value → H → Prop) (hr : RowH h A n (bs.map bf).toArray) (hn : n ≤ 1099511627776)
    (hk : ∀ A' c' h', Ext h h' → Byt h' h.size A' n c' bs → k (.agg (ent E N P (.slice A' n c'))) h') : callK Try.prog 8 #[.agg (ent E N P (.slice A n c))] h k := by
  refine call8 _ _ _ ?_
  unfold d8
  refine alloc_new fun p1 h1 _ b1 e1 => alloc_new fun p2 h2 l2 b2 e2 => draw_ext ?_
  have a1 := (b1.ext e2).at_
  refine addrK_of rfl (a1.loadS1 0 rfl rfl (asI_of ?_))
  refine addrK_of rfl (a1.loadS1 1 rfl rfl (asI_of ?_))
  refine addrK_of rfl (a1.loadS1 2 rfl rfl (asI_of ?_))
  refine addrK_of rfl (a1.loadS1 3 rfl rfl (asS_of ?_))
  have e12 := e1.trans e2
  refine c25 A n c bs h2 _ (hr.ext e12) hn fun A' c' h3 e3 l3 => asS_of ⟨e3, ?_⟩
  refine store_blk (b2.ext e3) rfl (by simp) (by simp [OneCells, Value.oneCell']) fun h4 b4 m4 => ?_
  have hne : ¬ blkOf A' p2 := fun hi => by have h1 := l3.2.base_le hi; have h2 := b2.lt; omega
  have x4 : Ext h h4 := (e12.trans e3).then m4 (fun i hi => by subst hi; have := e1.size; omega)
  refine b4.at_.loadN (by simp [over]) ?_
  simp only [over]
  exact hk A' c' h4 x4 (Lst.weaken (l3.mod m4 (fun i hi hp => hne (by rwa [hp] at hi))) e12.size)

/-- Same, of entries -/
theorem c17 (E N P E' N' P' : Int) (A : Option Addr) (n c : Nat) (xs : List Int) (B : Option Addr) (m d : Nat) (ys : List Int) (h : H) (k : Value → H → Prop) (hr : RowH h A n (xs.map bf).toArray) (hs : RowH h B m (ys.map bf).toArray) (hx : ∀ x ∈ xs, isB x) (hy : ∀ y ∈ ys, isB y)
    (hk : ∀ h', Ext h h' → k (.bool (decide (E = E' ∧ N = N' ∧ P = P' ∧ xs = ys))) h') : callK Try.prog 17 #[.agg (ent E N P (.slice A n c)), .agg (ent E' N' P' (.slice B m d))] h k := by
  refine call17 _ _ _ _ ?_
  unfold d17
  refine alloc_new fun p1 h1 _ b1 e1 => alloc_new fun p2 h2 l2 b2 e2 => ?_
  have a1 := (b1.ext e2).at_
  have a2 := b2.at_
  have e12 := e1.trans e2
  have hk := hk h2 e12
  refine addrK_of rfl (a1.load1 0 rfl rfl (asI_of (addrK_of rfl (a2.load1 0 rfl rfl (asI_of ?_)))))
  refine ifB_eq (fun h1 => ?_) (fun h1 => by rw [decide_eq_false (fun e => h1 e.1)] at hk; exact hk)
  refine addrK_of rfl (a1.load1 1 rfl rfl (asI_of (addrK_of rfl (a2.load1 1 rfl rfl (asI_of ?_)))))
  refine ifB_eq (fun h2 => ?_) (fun h2 => by rw [decide_eq_false (fun e => h2 e.2.1)] at hk; exact hk)
  refine addrK_of rfl (a1.load1 2 rfl rfl (asI_of (addrK_of rfl (a2.load1 2 rfl rfl (asI_of ?_)))))
  refine ifB_eq (fun h3 => ?_) (fun h3 => by rw [decide_eq_false (fun e => h3 e.2.2.1)] at hk; exact hk)
  refine addrK_of rfl (a1.load1 3 rfl rfl (asS_of (addrK_of rfl (a2.load1 3 rfl rfl (asS_of ?_)))))
  refine c16 _ _ _ xs _ _ _ ys _ _ (hr.ext e12) (hs.ext e12) hx hy (asB_of ?_)
  have : decide (xs = ys) = decide (E = E' ∧ N = N' ∧ P = P' ∧ xs = ys) := by simp [h1, h2, h3]
  rw [this]
  exact hk

/-- octroidocs.Ack -/
theorem ack_fill (D E N : Int) {k : Array Value → Prop} (hk : k (ack D E N)) : fillK (placeL [(0, 1), (1, 2)]) (List.toArray [.int .u32 0, .int .u32 0, .int .u64 0]) [(0, (.int .u32 D)), (1, (.agg (List.toArray [(.int .u32 E), (.int .u64 N)])))] k :=
  ⟨_, by rfl, hk⟩
theorem c18 (D E N : Int) (h : H) (k : Value → H → Prop) (hk : ∀ h', Ext h h' → k (.agg (ack D E N)) h') : callK Try.prog 18 #[.agg (ack D E N)] h k := by
  refine call18 _ _ _ ?_
  unfold d18
  refine alloc_new fun p1 h1 _ b1 e1 => alloc_new fun p2 h2 l2 b2 e2 => ?_
  have a1 := (b1.ext e2).at_
  refine addrK_of rfl (a1.load1 0 rfl rfl (asI_of ?_))
  refine addrK_of rfl (addrK_of rfl (a1.load1 1 rfl rfl (asI_of ?_)))
  refine addrK_of rfl (addrK_of rfl (a1.load1 2 rfl rfl (asI_of ?_)))
  refine ack_fill _ _ _ ?_
  refine store_blk b2 rfl (by simp) (by simp [OneCells, ack, Value.oneCell']) fun h4 b4 m4 => ?_
  refine b4.at_.loadN (by simp [over, ack]) ?_
  simp only [over, ack]
  exact hk h4 ((e1.trans e2).then m4 (fun i hi => by subst hi; have := e1.size; omega))
end Go.Proofs.Ytoifdnmbhdjhhaa
