/- What is proved: contracts of functions that the law calls, and of the law itself, over any heap. Conditions stand in each theorem. -/
import Derived.Test.YthfjpnabalkjkaaXKB06
import Derived.Test.YthfjpnabalkjkaaXL06
import Derived.Test.YthfjpnabalkjkaaXOctM
set_option linter.unusedSimpArgs false
set_option linter.unusedVariables false
namespace Go.Proofs.Ythfjpnabalkjkaa
open Go.Oct Go.Oct.L01 Go.Oct.L06
theorem and1 {n : Int} (h : 0 ≤ n) (h2 : n < 18446744073709551616) : bitK .and .u64 n 1 = n % 2 := by
  obtain ⟨a, rfl⟩ := Int.eq_ofNat_of_zero_le h
  unfold bitK
  have e : (BitVec.ofInt (IntKind.bits .u64) (a : Int) &&& BitVec.ofInt (IntKind.bits .u64) 1).toNat = a % 2 := by
    rw [BitVec.toNat_and, BitVec.toNat_ofInt, BitVec.toNat_ofInt]
    have e1 : ((a : Int) % ((2 ^ IntKind.bits .u64 : Nat) : Int)).toNat = a := by
      have : ((2 ^ IntKind.bits .u64 : Nat) : Int) = 18446744073709551616 := rfl
      rw [this]; omega
    have e2 : ((1 : Int) % ((2 ^ IntKind.bits .u64 : Nat) : Int)).toNat = 1 := by rfl
    rw [e1, e2]
    simp
  simp only [e]
  rw [IntKind.wrap_u64]
  omega
theorem and3 {n : Int} (h : 0 ≤ n) (h2 : n < 18446744073709551616) : bitK .and .u64 n 3 = n % 4 := by
  obtain ⟨a, rfl⟩ := Int.eq_ofNat_of_zero_le h
  unfold bitK
  have e : (BitVec.ofInt (IntKind.bits .u64) (a : Int) &&& BitVec.ofInt (IntKind.bits .u64) 3).toNat = a % 4 := by
    rw [BitVec.toNat_and, BitVec.toNat_ofInt, BitVec.toNat_ofInt]
    have e1 : ((a : Int) % ((2 ^ IntKind.bits .u64 : Nat) : Int)).toNat = a := by
      have : ((2 ^ IntKind.bits .u64 : Nat) : Int) = 18446744073709551616 := rfl
      rw [this]; omega
    have e2 : ((3 : Int) % ((2 ^ IntKind.bits .u64 : Nat) : Int)).toNat = 3 := by rfl
    rw [e1, e2]
    have := Nat.and_two_pow_sub_one_eq_mod a 2
    simpa using this
  simp only [e]
  rw [IntKind.wrap_u64]
  omega
theorem and20 {n : Int} (h : 0 ≤ n) (h2 : n < 18446744073709551616) : bitK .and .u64 n 1048575 = n % 1048576 := by
  obtain ⟨a, rfl⟩ := Int.eq_ofNat_of_zero_le h
  unfold bitK
  have e : (BitVec.ofInt (IntKind.bits .u64) (a : Int) &&& BitVec.ofInt (IntKind.bits .u64) 1048575).toNat = a % 1048576 := by
    rw [BitVec.toNat_and, BitVec.toNat_ofInt, BitVec.toNat_ofInt]
    have e1 : ((a : Int) % ((2 ^ IntKind.bits .u64 : Nat) : Int)).toNat = a := by
      have : ((2 ^ IntKind.bits .u64 : Nat) : Int) = 18446744073709551616 := rfl
      rw [this]; omega
    have e2 : ((1048575 : Int) % ((2 ^ IntKind.bits .u64 : Nat) : Int)).toNat = 1048575 := by rfl
    rw [e1, e2]
    have := Nat.and_two_pow_sub_one_eq_mod a 20
    simpa using this
  simp only [e]
  rw [IntKind.wrap_u64]
  omega
theorem shrN (n : Int) (k : Nat) (hk : k ≤ 64) : shrK .u64 n k = n / 2 ^ k := by
  unfold shrK
  rw [Int.toNat_natCast]
  have : min k (IntKind.bits .u64) = k := by
    have : IntKind.bits .u64 = 64 := rfl
    omega
  rw [this, Int.fdiv_eq_ediv_of_nonneg _ (Int.le_of_lt (Int.pow_pos (by decide)))]
theorem hd_bound {d : List Int} (hb : ∀ x ∈ d, isB x) : 0 ≤ hd d ∧ hd d < 65536 := by
  unfold hd getR
  split
  · exact ⟨by decide, by decide⟩
  · split
    · exact ⟨by decide, by decide⟩
    · rename_i h
      have h1 := val_bound 2 ((d.drop 0).take 2) (by simp at h ⊢; omega) (fun x hx => hb x (List.mem_of_mem_drop (List.mem_of_mem_take hx)))
      simpa using h1
/-- a header behind -/
structure Ex where
  k : Int
  A : Option Addr
  n : Nat
  c : Nat
  d : List Int
def Ex.cells (x : Ex) : List Value := [.int .u8 x.k, .slice x.A x.n x.c]
def Ex.pair (x : Ex) : Ext := (x.k, x.d)
theorem Ex.len (x : Ex) : x.cells.length = 2 := rfl
theorem Ex.one (x : Ex) : OneCells x.cells := by simp [OneCells, Ex.cells, Value.oneCell']
structure Ex.ok (x : Ex) (h : H) : Prop where
  row : RowH h x.A x.n (x.d.map bf).toArray
  le : x.n ≤ x.c
  small : x.n ≤ 1099511627776
  byk : isB x.k
  byd : ∀ y ∈ x.d, isB y
theorem Ex.ok.ext {x : Ex} {h h' : H} (o : x.ok h) (e : Ext h h') : x.ok h' := { o with row := o.row.ext e }
theorem Ex.ok.ln {x : Ex} {h : H} (o : x.ok h) : x.d.length = x.n := by simpa using o.row.1
/-- behind -/
theorem c32 (x : Int) (h : H) (k : Value → H → Prop) (hk : k (.bool (beh x)) h) : callK Try.prog 32 #[.int .u8 x] h k := by
  refine call32 _ _ _ ?_
  unfold d32
  refine ⟨fun b g => g = h ∧ b = beh x, ?_, ?_⟩
  · refine ifB_eq (fun h1 => ⟨rfl, ?_⟩) (fun h1 => ifB_eq (fun h2 => ⟨rfl, ?_⟩) (fun h2 => ifB_eq (fun h3 => ⟨rfl, ?_⟩) (fun h3 => ⟨rfl, ?_⟩)))
    · rw [h1]; rfl
    · rw [h2]; rfl
    · rw [h3]; rfl
    · rw [beq_dec]; unfold beh; simp [h1, h2, h3]
  · rintro b g ⟨rfl, rfl⟩
    refine ifB_of (fun h1 => ?_) (fun h1 => ?_)
    · rw [h1] at hk; exact hk
    · rw [h1] at hk; exact hk
section
variable {h : H} {k : Value → H → Prop}
/-- says -/
theorem c47 (x : Ex) (o : x.ok h) (hk : ∀ h', Ext h h' → k (.tuple #[.int .u16 (hd x.d / 8), .int .u8 (hd x.d / 2 % 4), .bool (decide (hd x.d % 2 = 1))]) h') : callK Try.prog 47 #[.agg x.cells.toArray] h k := by
  refine call47 _ _ _ ?_
  unfold d47
  refine alloc_new fun p g y b e => ?_
  have a : At g p 0 x.cells := b.at_
  refine addrK_of rfl (a.load1 1 rfl rfl (asS_of ?_))
  have og := o.ext e
  refine c48 x.A x.n x.c x.d 0 2 g _ og.row og.le og.small (by decide) og.byd (asT2_of (asI_of (asI_of ?_)))
  rw [needK_true (by decide), needK_true (by decide)]
  have hb := hd_bound o.byd
  unfold hd at hb
  have e3 := shrN (getR x.d 0 2).1 3 (by decide)
  have e1 := shrN (getR x.d 0 2).1 1 (by decide)
  have e3' : shrK .u64 (getR x.d 0 2).1 3 = (getR x.d 0 2).1 / 8 := by simpa using e3
  have e1' : shrK .u64 (getR x.d 0 2).1 1 = (getR x.d 0 2).1 / 2 := by simpa using e1
  rw [e3', e1', and3 (by omega) (by omega), and1 (by omega) (by omega)]
  have w1 : IntKind.wrap .u16 ((getR x.d 0 2).1 / 8) = (getR x.d 0 2).1 / 8 := by rw [IntKind.wrap_u16]; omega
  have w2 : IntKind.wrap .u8 ((getR x.d 0 2).1 / 2 % 4) = (getR x.d 0 2).1 / 2 % 4 := by rw [IntKind.wrap_u8]; omega
  rw [w1, w2, beq_dec]
  exact hk g e
/-- later -/
theorem c34 (x : Ex) (o : x.ok h) (hk : ∀ h', Ext h h' → k (.bool (laterX x.pair)) h') : callK Try.prog 34 #[.agg x.cells.toArray] h k := by
  refine call34 _ _ _ ?_
  unfold d34
  refine alloc_new fun p g y b e => ?_
  have a : At g p 0 x.cells := b.at_
  refine a.loadN rfl ?_
  refine c47 x (o.ext e) fun g2 e2 => asT3_of (asI_of (asI_of (asB_of ?_)))
  refine addrK_of rfl ((a.ext e2).load1 0 rfl rfl (asI_of ?_))
  have := hk g2 (e.trans e2)
  unfold laterX Ex.pair at this
  refine ifB_eq (fun h1 => ?_) (fun h1 => ?_)
  · have e1 : decide (hd x.d / 8 > 0) = decide (x.k = 44 ∧ 0 < hd x.d / 8) := by simp [h1]
    rw [e1]; exact this
  · rw [decide_eq_false (fun h => h1 h.1)] at this; exact this
/-- right -/
theorem c44 (x : Ex) (o : x.ok h) (hk : ∀ h', Ext h h' → k (.bool (rightX x.pair)) h') : callK Try.prog 44 #[.agg x.cells.toArray] h k := by
  refine call44 _ _ _ ?_
  unfold d44
  refine alloc_new fun p g y b e => ?_
  have a : At g p 0 x.cells := b.at_
  have hl := o.ln
  refine addrK_of rfl (a.load1 1 rfl rfl (asS_of ?_))
  refine addrK_of rfl (a.load1 0 rfl rfl (asI_of ?_))
  unfold rightX Ex.pair at hk
  dsimp only at hk
  refine ifB_ne (fun h1 => ?_) (fun h1 => ?_)
  · rw [if_neg h1] at hk
    refine addrK_of rfl (a.load1 0 rfl rfl (asI_of ?_))
    refine c32 _ _ _ (asB_of ?_)
    refine ifB_of (fun hb => ?_) (fun hb => ?_)
    · rw [hb] at hk
      rw [needK_true (by decide)]
      have ht : Int.tmod (x.n : Int) 8 = ((x.n % 8 : Nat) : Int) := by rw [Int.tmod_eq_emod_of_nonneg (by omega)]; omega
      rw [ht, Bool.true_and] at *
      refine ifB_eq (fun h2 => ?_) (fun h2 => ?_)
      · have e1 : decide ((x.n : Int) ≤ 2046) = decide (x.d.length % 8 = 6 ∧ x.d.length ≤ 2046) := by simp only [decide_eq_decide]; omega
        rw [e1]; exact hk g e
      · have := hk g e
        rw [decide_eq_false (by omega)] at this
        exact this
    · rw [hb] at hk
      exact hk g e
  · rw [if_pos h1] at hk
    refine a.loadN rfl ?_
    refine c47 x (o.ext e) fun g2 e2 => asT3_of (asI_of (asI_of (asB_of ?_)))
    have := hk g2 (e.trans e2)
    refine ifB_eq (fun h2 => ?_) (fun h2 => ?_)
    · rw [beq_dec]
      have e1 : decide (hd x.d / 2 % 4 = 0) = decide (x.d.length = 6 ∧ hd x.d / 2 % 4 = 0) := by simp only [decide_eq_decide]; omega
      rw [e1]; exact this
    · rw [decide_eq_false (by omega)] at this; exact this
theorem c43 (x : Ex) (o : x.ok h) (hk : ∀ h', Ext h h' → k (.bool (!rightX x.pair)) h') : callK Try.prog 43 #[.agg x.cells.toArray] h k := by
  refine call43 _ _ _ ?_
  unfold d43
  refine alloc_new fun p g y b e => ?_
  have a : At g p 0 x.cells := b.at_
  refine a.loadN rfl ?_
  exact c44 x (o.ext e) fun g2 e2 => asB_of (hk g2 (e.trans e2))
theorem c46 (x : Ex) (o : x.ok h) (hk : ∀ h', Ext h h' → k (.bool (decide (x.k = 44))) h') : callK Try.prog 46 #[.agg x.cells.toArray] h k := by
  refine call46 _ _ _ ?_
  unfold d46
  refine alloc_new fun p g y b e => ?_
  have a : At g p 0 x.cells := b.at_
  refine addrK_of rfl (a.load1 0 rfl rfl (asI_of ?_))
  rw [beq_dec]
  exact hk g e
/-- slices.IndexFunc -/
theorem c45 (f : FuncId) (pred : Ex → Bool) (A : Option Addr) (n c : Nat) (xs : List Ex) (hr : RowH h A (n * 2) (cellsOf Ex.cells xs)) (hn : xs.length = n) (hsm : n ≤ 1073741824)
    (hf : ∀ x ∈ xs, ∀ (g : H) (k : Value → H → Prop), Ext h g → (∀ g', Ext g g' → k (.bool (pred x)) g') → callK Try.prog f #[.agg x.cells.toArray] g k)
    (hno : (∀ x ∈ xs, pred x = false) → ∀ h', Ext h h' → k (.int .i64 (-1)) h')
    (hk : ∀ (j : Nat) (x : Ex), xs[j]? = some x → pred x = true → (∀ (i : Nat) (y : Ex), i < j → xs[i]? = some y → pred y = false) → ∀ h', Ext h h' → k (.int .i64 j) h') : callK Try.prog 45 #[.slice A n c, .func (.func f) #[] #[]] h k := by
  refine call45 _ _ _ _ _ _ _ _ ?_
  unfold d45
  refine ⟨fun x4 x8 g => ∃ j : Nat, x8 = j ∧ j ≤ n ∧ Ext h g ∧ ∀ (i : Nat) (y : Ex), i < j → xs[i]? = some y → pred y = false, fun x4 x8 g => (n - x8).toNat, ⟨0, rfl, by omega, Ext.refl _, fun i y hi => by omega⟩, ?_⟩
  rintro x4 x8 g ⟨j, rfl, hj, eg, hall⟩
  refine ifB_dec (fun hlt => ?_) (fun hge => ?_)
  · have hx : xs[j]? = some xs[j] := List.getElem?_eq_getElem (by omega)
    have hm := List.getElem_mem (show j < xs.length by omega)
    generalize xs[j] = x at *
    refine rowL_index Ex.len (by omega) (hr.ext eg) rfl hx fun b q _ ha => ha.loadN rfl ?_
    refine hf x hm g _ eg fun g2 e2 => asB_of ?_
    refine ifB_of (fun hp => hk j x hx hp hall g2 (eg.trans e2)) (fun hp => ?_)
    refine ⟨⟨j + 1, wrap64_id (by omega) (by omega), by omega, eg.trans e2, fun i y hi hy => ?_⟩, ?_⟩
    · rcases Nat.lt_or_ge i j with h1 | h1
      · exact hall i y h1 hy
      · have : i = j := by omega
        subst this
        rw [hx] at hy
        cases hy
        exact hp
    · rw [wrap64_id (by omega) (by omega)]
      dsimp only
      omega
  · refine hno (fun x hx => ?_) g eg
    obtain ⟨i, hi, rfl⟩ := List.getElem_of_mem hx
    exact hall i _ (by omega) (List.getElem?_eq_getElem hi)
/-- slices.ContainsFunc -/
theorem c42 (f : FuncId) (pred : Ex → Bool) (A : Option Addr) (n c : Nat) (xs : List Ex) (hr : RowH h A (n * 2) (cellsOf Ex.cells xs)) (hn : xs.length = n) (hsm : n ≤ 1073741824)
    (hf : ∀ x ∈ xs, ∀ (g : H) (k : Value → H → Prop), Ext h g → (∀ g', Ext g g' → k (.bool (pred x)) g') → callK Try.prog f #[.agg x.cells.toArray] g k)
    (hk : ∀ h', Ext h h' → k (.bool (xs.any pred)) h') : callK Try.prog 42 #[.slice A n c, .func (.func f) #[] #[]] h k := by
  refine call42 _ _ _ _ _ _ _ _ ?_
  unfold d42
  refine c45 f pred A n c xs hr hn hsm hf (fun hall h' e => asI_of ?_) (fun j x hx hp _ h' e => asI_of ?_)
  · have := hk h' e
    rw [show xs.any pred = false from List.any_eq_false.2 (fun x hx => by simp [hall x hx])] at this
    exact this
  · have := hk h' e
    rw [show xs.any pred = true from List.any_eq_true.2 ⟨x, List.mem_of_getElem? hx, hp⟩] at this
    rw [decide_eq_true (by omega)]
    exact this
end
/-- a chain's two cells -/
def chv (A : Option Addr) (n c : Nat) (p : Int) : Array Value := #[.slice A n c, .int .u8 p]
structure Ch (h : H) (A : Option Addr) (n : Nat) (xs : List Ex) (p : Int) : Prop where
  row : RowH h A (n * 2) (cellsOf Ex.cells xs)
  len : xs.length = n
  small : n ≤ 1073741824
  ok : ∀ x ∈ xs, x.ok h
  byp : isB p
theorem Ch.ext {h h' : H} {A : Option Addr} {n : Nat} {xs : List Ex} {p : Int} (c : Ch h A n xs p) (e : Ext h h') : Ch h' A n xs p := { c with row := c.row.ext e, ok := fun x hx => (c.ok x hx).ext e }
def pairs (xs : List Ex) : List Ext := xs.map Ex.pair
theorem pairs_get {xs : List Ex} {i : Nat} {x : Ex} (h : xs[i]? = some x) : (pairs xs)[i]? = some x.pair := by simp [pairs, h]
section
variable {h : H} {k : Value → H → Prop} {A : Option Addr} {n c : Nat} {xs : List Ex} {p : Int}
/-- Right -/
theorem c17 (ch : Ch h A n xs p) (hk : ∀ b : Bool, (b = true ↔ RightC (pairs xs) p) → ∀ h', Ext h h' → k (.bool b) h') : callK Try.prog 17 #[.agg (chv A n c p)] h k := by
  refine call17 _ _ _ ?_
  unfold d17
  refine alloc_new fun p1 g1 y1 b1 x1 => ?_
  have a1 : At g1 p1 0 [.slice A n c, .int .u8 p] := b1.at_
  have hlen := ch.len
  have hsm := ch.small
  have hpl : (pairs xs).length = n := by simp [pairs, hlen]
  refine ⟨fun b g => Ext g1 g ∧ (b = false ↔ n ≤ 16 ∧ ∀ x ∈ pairs xs, rightX x = true), ?_, ?_⟩
  · refine addrK_of rfl (a1.load1 0 rfl rfl (asS_of ?_))
    refine ifB_dec (fun h1 => ⟨Ext.refl _, ?_⟩) (fun h1 => ?_)
    · constructor
      · intro h2; cases h2
      · intro h2; omega
    refine addrK_of rfl (a1.load1 0 rfl rfl (asS_of ?_))
    refine c42 43 (fun x => !rightX x.pair) A n c xs (ch.row.ext x1) ch.len ch.small (fun x hx g k e hk => c43 x ((ch.ok x hx).ext (x1.trans e)) hk) fun g e => asB_of ⟨e, ?_⟩
    rw [List.any_eq_false]
    constructor
    · intro h2
      refine ⟨by omega, fun x hx => ?_⟩
      obtain ⟨y, hy, rfl⟩ := List.mem_map.1 hx
      have := h2 y hy
      simpa using this
    · intro h2 y hy
      have := h2.2 y.pair (List.mem_map.2 ⟨y, hy, rfl⟩)
      simp [this]
  rintro b g ⟨xg, hb⟩
  refine ifB_of (fun h1 => ?_) (fun h1 => ?_)
  · refine hk false ⟨fun h => absurd h (by decide), fun hR => ?_⟩ g (x1.trans xg)
    have := hb.2 ⟨by rw [← hpl]; exact hR.few, hR.all⟩
    rw [h1] at this; cases this
  obtain ⟨h16, hall⟩ := hb.1 h1
  have ag := a1.ext xg
  refine addrK_of rfl (ag.load1 0 rfl rfl (asS_of ?_))
  refine addrK_of rfl (ag.load1 0 rfl rfl (asS_of ?_))
  have xg1 := x1.trans xg
  refine ⟨fun b x g' => ∃ j : Nat, x = j ∧ j ≤ n ∧ Ext g g' ∧ ∀ (i : Nat) (y : Ext), i < j → (pairs xs)[i]? = some y → (y.1 = 0 → i = 0) ∧ (laterX y = true → i + 1 = n), fun b x g' => (n - x).toNat, ⟨0, rfl, by omega, Ext.refl _, fun i y hi => by omega⟩, ?_⟩
  rintro b' x g' ⟨j, rfl, hj, eg, hin⟩
  have e1 := xg1.trans eg
  rw [wrap64_id (x := (n : Int) - 1) (by omega) (by omega)]
  refine ifB_dec (fun hlt => ?_) (fun hge => ?_)
  · have hx : xs[j]? = some xs[j] := List.getElem?_eq_getElem (by omega)
    have hm := List.getElem_mem (show j < xs.length by omega)
    generalize xs[j] = x at *
    have hpx := pairs_get hx
    refine rowL_index Ex.len (by omega) (ch.row.ext e1) rfl hx fun b q _ ha => ha.loadN rfl ?_
    refine newVr (by simp) rfl (Ex.one x) fun p5 g2 y2 b2 x2 => ?_
    have a2 : At g2 p5 0 x.cells := b2.at_
    have ox := (ch.ok x hm).ext (e1.trans x2)
    have later2 : (¬ (x.k = 0 ∧ 0 < j)) → callK Try.prog 34 #[.agg x.cells.toArray] g2 (fun v36 h => asB v36 (fun b36 => ifB b36 ((fun (b : Bool) (g : H) => Ext g2 g ∧ (b = true ↔ (x.k = 0 ∧ 0 < j) ∨ (laterX x.pair = true ∧ j + 1 < n))) (decide ((j : Int) < (n : Int) - 1)) h) ((fun (b : Bool) (g : H) => Ext g2 g ∧ (b = true ↔ (x.k = 0 ∧ 0 < j) ∨ (laterX x.pair = true ∧ j + 1 < n))) false h))) := by
      intro h0
      refine c34 x ox fun g3 x3 => asB_of ?_
      refine ifB_of (fun hl => ⟨x3, ?_⟩) (fun hl => ⟨x3, ?_⟩)
      · rw [decide_eq_true_iff]
        constructor
        · intro h2; exact .inr ⟨hl, by omega⟩
        · rintro (h2 | h2)
          · exact (h0 h2).elim
          · omega
      · constructor
        · intro h2; cases h2
        · rintro (h2 | h2)
          · exact (h0 h2).elim
          · rw [hl] at h2; cases h2.1
    refine ⟨fun b g => Ext g2 g ∧ (b = true ↔ (x.k = 0 ∧ 0 < j) ∨ (laterX x.pair = true ∧ j + 1 < n)), ?_, ?_⟩
    · refine addrK_of rfl (a2.load1 0 rfl rfl (asI_of ?_))
      refine ifB_eq (fun h2 => ifB_dec (fun h3 => ⟨Ext.refl _, ?_⟩) (fun h3 => a2.loadN rfl (later2 (by omega)))) (fun h2 => a2.loadN rfl (later2 (fun h => h2 h.1)))
      constructor
      · intro _; exact .inl ⟨h2, by omega⟩
      · intro _; rfl
    rintro b g3 ⟨x3, hb⟩
    have e3 := e1.trans (x2.trans x3)
    refine ifB_of (fun h2 => ?_) (fun h2 => ?_)
    · refine hk false ⟨fun h => absurd h (by decide), fun hR => ?_⟩ g3 e3
      rcases hb.1 h2 with ⟨h3, h4⟩ | ⟨h3, h4⟩
      · have := hR.hop j _ hpx h3; omega
      · have := hR.late j _ hpx h3
        rw [hpl] at this; omega
    · have hnb : ¬ ((x.k = 0 ∧ 0 < j) ∨ (laterX x.pair = true ∧ j + 1 < n)) := fun h => by rw [hb.2 h] at h2; cases h2
      refine ⟨⟨j + 1, wrap64_id (by omega) (by omega), by omega, eg.trans (x2.trans x3), fun i y hi hy => ?_⟩, ?_⟩
      · rcases Nat.lt_or_ge i j with h3 | h3
        · exact hin i y h3 hy
        · have : i = j := by omega
          subst this
          rw [hpx] at hy
          cases hy
          refine ⟨fun h0 => ?_, fun hl => ?_⟩
          · rcases Nat.eq_zero_or_pos i with h4 | h4
            · exact h4
            · exact (hnb (.inl ⟨h0, h4⟩)).elim
          · rcases Nat.lt_or_ge (i + 1) n with h4 | h4
            · exact (hnb (.inr ⟨hl, h4⟩)).elim
            · omega
      · rw [wrap64_id (by omega) (by omega)]
        dsimp only
        omega
  · have hjn : j = n := by omega
    subst hjn
    have hR : (beh p = true → ∃ x, (pairs xs)[(pairs xs).length - 1]? = some x ∧ laterX x = true) → RightC (pairs xs) p := fun hl =>
      ⟨by omega, hall, fun i x hx h0 => (hin i x (by have := (List.getElem?_eq_some_iff.1 hx).1; omega) hx).1 h0, fun i x hx h0 => by rw [hpl]; exact (hin i x (by have := (List.getElem?_eq_some_iff.1 hx).1; omega) hx).2 h0, hl⟩
    have ag' := ag.ext eg
    refine addrK_of rfl (ag'.load1 1 rfl rfl (asI_of ?_))
    refine c32 _ _ _ (asB_of ?_)
    refine ifB_of (fun h2 => ?_) (fun h2 => ?_)
    · have h2 : beh p = false := by simpa using h2
      exact hk true ⟨fun _ => hR fun h => absurd h (by rw [h2]; decide), fun _ => rfl⟩ g' e1
    have h2 : beh p = true := by simpa using h2
    refine ifB_dec (fun h3 => ?_) (fun h3 => ?_)
    · refine addrK_of rfl (ag'.load1 0 rfl rfl (asS_of ?_))
      have hx : xs[j - 1]? = some xs[j - 1] := List.getElem?_eq_getElem (by omega)
      have hm := List.getElem_mem (show j - 1 < xs.length by omega)
      generalize xs[j - 1] = x at *
      have hpx := pairs_get hx
      refine rowL_index Ex.len (by omega) (ch.row.ext e1) (j := j - 1) (by omega) hx fun b q _ ha => ha.loadN rfl ?_
      refine c34 x ((ch.ok x hm).ext e1) fun g3 x3 => asB_of ?_
      refine hk _ ⟨fun hl => hR fun _ => ⟨x.pair, by rw [hpl]; exact hpx, hl⟩, fun hRc => ?_⟩ g3 (e1.trans x3)
      obtain ⟨y, hy, hl⟩ := hRc.last h2
      rw [hpl, hpx] at hy
      cases hy
      exact hl
    · refine hk false ⟨fun h => absurd h (by decide), fun hRc => ?_⟩ g' e1
      obtain ⟨y, hy, hl⟩ := hRc.last h2
      have := (List.getElem?_eq_some_iff.1 hy).1
      omega
end
end Go.Proofs.Ythfjpnabalkjkaa
