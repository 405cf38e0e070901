/- What is proved: contracts of functions that the law calls, and of the law itself, over any heap. Conditions stand in each theorem. -/
import Derived.Test.YtkhlollengamdaaXK09e
set_option linter.unusedSimpArgs false
set_option linter.unusedVariables false
namespace Go.Proofs.Ytkhlollengamdaa
open Go.Oct Go.Oct.L09
/-- rules of right ranges -/
abbrev RS := {r : Ru // r.ok}
def RS.cells (r : RS) : List Value := r.1.cells
theorem RS.len (r : RS) : r.cells.length = 44 := Ru.len44 r.2
theorem RS.one (r : RS) : OneCells r.cells := Ru.one r.1
def fitF (p : Nat) : Nat → Value
  | 0 => .func (.func 47) #[] #[.pointer (some ⟨p, 0, none⟩)]
  | 1 => .func (.func 49) #[] #[]
  | 2 => .func (.func 51) #[] #[]
  | 3 => .func (.func 55) #[] #[]
  | 4 => .func (.func 57) #[] #[]
  | _ => .func (.func 60) #[] #[]
def holdF : Nat → Value
  | 0 => .func (.func 48) #[] #[]
  | 1 => .func (.func 50) #[] #[]
  | 2 => .func (.func 53) #[] #[]
  | 3 => .func (.func 56) #[] #[]
  | 4 => .func (.func 59) #[] #[]
  | _ => .func (.func 61) #[] #[]
def askC (p : Nat) (i : Nat) : List Value := [fitF p i, holdF i]
theorem askC_len (p i : Nat) : (askC p i).length = 2 := rfl
/-- all that rules ask for, at p9; the closure's variable at p1 -/
structure All (h : H) (p1 : Nat) (A : Option Addr) : Prop where
  var : Blk h p1 (List.toArray [.func (.func 46) #[] #[]]) 95
  row : RowH h A (6 * 2) (cellsOf (askC p1) [0, 1, 2, 3, 4, 5])
theorem All.ext {h h' : H} {p1 : Nat} {A : Option Addr} (a : All h p1 A) (x : Go.Oct.Ext h h') : All h' p1 A := ⟨a.var.ext x, a.row.ext x⟩
section
variable {h : H} {k : Value → H → Prop}
/-- all -/
theorem c24 (hk : ∀ p1 A h', Go.Oct.Ext h h' → All h' p1 A → k (.slice A 6 6) h') : callK Try.prog 24 #[] h k := by
  refine call24 _ _ ?_
  unfold d24
  refine newVr rfl rfl (by simp [OneCells, Value.cells, Value.oneCell']) fun p1 g1 y1 b1 x1 => ?_
  refine fill_rows (askC_len p1) [0, 1, 2, 3, 4, 5] rfl ?_
  refine alloc_new fun p9 g2 y9 b9 x2 => ?_
  refine hk p1 _ g2 (x1.trans x2) ⟨b1.ext x2, ?_⟩
  have := b9.row 0 12 (by simp [cellsOf, askC])
  exact this
/-- slices.IndexFunc, of asks -/
theorem c62 {α : Type} {f : α → List Value} (hlen : ∀ x, (f x).length = 2) {A : Option Addr} {n c : Nat} {xs : List α} (hr : RowH h A (n * 2) (cellsOf f xs)) (hn : xs.length = n) (hsm : n ≤ 1073741824) {f1 : FuncId} {a1 g1 : Array Value} {pr : α → Bool}
    (hf : ∀ x ∈ xs, ∀ (g : H) (k : Value → H → Prop), Go.Oct.Ext h g → (∀ g', Go.Oct.Ext g g' → k (.bool (pr x)) g') → callK Try.prog f1 (a1 ++ #[.agg (f x).toArray] ++ g1) g k)
    (hk : ∀ h', Go.Oct.Ext h h' → k (.int .i64 (idxI xs pr)) h') : callK Try.prog 62 #[.slice A n c, .func (.func f1) a1 g1] h k := by
  refine call62 _ _ _ _ _ _ _ _ ?_
  unfold d62
  refine ⟨fun x4 x8 g => ∃ j : Nat, x8 = j ∧ j ≤ n ∧ Go.Oct.Ext h g ∧ ∀ (i : Nat) (y : α), i < j → xs[i]? = some y → pr y = false, fun x4 x8 g => (n - x8).toNat, ⟨0, rfl, by omega, Go.Oct.Ext.refl _, fun i y hi => by omega⟩, ?_⟩
  rintro x4 x8 g ⟨j, rfl, hj, eg, hall⟩
  refine ifB_dec (fun hlt => ?_) (fun hge => ?_)
  · have hx : xs[j]? = some xs[j] := List.getElem?_eq_getElem (by omega)
    have hm := List.getElem_mem (show j < xs.length by omega)
    generalize xs[j] = x at *
    refine rowL_index hlen (by omega) (hr.ext eg) rfl hx fun b q _ ha => ha.loadN (hlen x) ?_
    refine hf x hm g _ eg fun g2 e2 => asB_of ?_
    refine ifB_of (fun hp => ?_) (fun hp => ?_)
    · rw [idxI_some hx hp hall] at hk
      exact hk g2 (eg.trans e2)
    refine ⟨⟨j + 1, wrap64_id (by omega) (by omega), by omega, eg.trans e2, fun i y hi hy => ?_⟩, ?_⟩
    · rcases Nat.lt_or_ge i j with h1 | h1
      · exact hall i y h1 hy
      · have : i = j := by omega
        subst this
        rw [hx] at hy
        cases hy
        exact hp
    · rw [wrap64_id (by omega) (by omega)]
      dsimp only
      omega
  · have := hk g eg
    rw [idxI_none (fun x hx => by
      obtain ⟨i, hi, rfl⟩ := List.getElem_of_mem hx
      exact hall i _ (by omega) (List.getElem?_eq_getElem hi))] at this
    exact this
/-- slices.ContainsFunc, of asks -/
theorem c25 {α : Type} {f : α → List Value} (hlen : ∀ x, (f x).length = 2) {A : Option Addr} {n c : Nat} {xs : List α} (hr : RowH h A (n * 2) (cellsOf f xs)) (hn : xs.length = n) (hsm : n ≤ 1073741824) {f1 : FuncId} {a1 g1 : Array Value} {pr : α → Bool}
    (hf : ∀ x ∈ xs, ∀ (g : H) (k : Value → H → Prop), Go.Oct.Ext h g → (∀ g', Go.Oct.Ext g g' → k (.bool (pr x)) g') → callK Try.prog f1 (a1 ++ #[.agg (f x).toArray] ++ g1) g k)
    (hk : ∀ h', Go.Oct.Ext h h' → k (.bool (xs.any pr)) h') : callK Try.prog 25 #[.slice A n c, .func (.func f1) a1 g1] h k := by
  refine call25 _ _ _ _ _ _ _ _ ?_
  unfold d25
  refine c62 hlen hr hn hsm hf fun h' e => asI_of ?_
  rw [idxI_nn]
  exact hk h' e
/-- slices.IndexFunc, of rules -/
theorem c29 {A : Option Addr} {n c : Nat} {xs : List RS} (hr : RowH h A (n * 44) (cellsOf RS.cells xs)) (hn : xs.length = n) (hsm : n ≤ 1073741824) {f1 : FuncId} {a1 g1 : Array Value} {pr : RS → Bool}
    (hf : ∀ x ∈ xs, ∀ (g : H) (k : Value → H → Prop), Go.Oct.Ext h g → (∀ g', Go.Oct.Ext g g' → k (.bool (pr x)) g') → callK Try.prog f1 (a1 ++ #[.agg x.cells.toArray] ++ g1) g k)
    (hk : ∀ h', Go.Oct.Ext h h' → k (.int .i64 (idxI xs pr)) h') : callK Try.prog 29 #[.slice A n c, .func (.func f1) a1 g1] h k := by
  refine call29 _ _ _ _ _ _ _ _ ?_
  unfold d29
  refine ⟨fun x4 x8 g => ∃ j : Nat, x8 = j ∧ j ≤ n ∧ Go.Oct.Ext h g ∧ ∀ (i : Nat) (y : RS), i < j → xs[i]? = some y → pr y = false, fun x4 x8 g => (n - x8).toNat, ⟨0, rfl, by omega, Go.Oct.Ext.refl _, fun i y hi => by omega⟩, ?_⟩
  rintro x4 x8 g ⟨j, rfl, hj, eg, hall⟩
  refine ifB_dec (fun hlt => ?_) (fun hge => ?_)
  · have hx : xs[j]? = some xs[j] := List.getElem?_eq_getElem (by omega)
    have hm := List.getElem_mem (show j < xs.length by omega)
    generalize xs[j] = x at *
    refine rowL_index RS.len (by omega) (hr.ext eg) rfl hx fun b q _ ha => ha.loadN (RS.len x) ?_
    refine hf x hm g _ eg fun g2 e2 => asB_of ?_
    refine ifB_of (fun hp => ?_) (fun hp => ?_)
    · rw [idxI_some hx hp hall] at hk
      exact hk g2 (eg.trans e2)
    refine ⟨⟨j + 1, wrap64_id (by omega) (by omega), by omega, eg.trans e2, fun i y hi hy => ?_⟩, ?_⟩
    · rcases Nat.lt_or_ge i j with h1 | h1
      · exact hall i y h1 hy
      · have : i = j := by omega
        subst this
        rw [hx] at hy
        cases hy
        exact hp
    · rw [wrap64_id (by omega) (by omega)]
      dsimp only
      omega
  · have := hk g eg
    rw [idxI_none (fun x hx => by
      obtain ⟨i, hi, rfl⟩ := List.getElem_of_mem hx
      exact hall i _ (by omega) (List.getElem?_eq_getElem hi))] at this
    exact this
/-- slices.ContainsFunc, of rules -/
theorem c21 {A : Option Addr} {n c : Nat} {xs : List RS} (hr : RowH h A (n * 44) (cellsOf RS.cells xs)) (hn : xs.length = n) (hsm : n ≤ 1073741824) {f1 : FuncId} {a1 g1 : Array Value} {pr : RS → Bool}
    (hf : ∀ x ∈ xs, ∀ (g : H) (k : Value → H → Prop), Go.Oct.Ext h g → (∀ g', Go.Oct.Ext g g' → k (.bool (pr x)) g') → callK Try.prog f1 (a1 ++ #[.agg x.cells.toArray] ++ g1) g k)
    (hk : ∀ h', Go.Oct.Ext h h' → k (.bool (xs.any pr)) h') : callK Try.prog 21 #[.slice A n c, .func (.func f1) a1 g1] h k := by
  refine call21 _ _ _ _ _ _ _ _ ?_
  unfold d21
  refine c29 hr hn hsm hf fun h' e => asI_of ?_
  rw [idxI_nn]
  exact hk h' e
/-- New's closure -/
theorem c22 {r : Ru} (o : r.ok) (hk : ∀ h', Go.Oct.Ext h h' → k (.bool (!r.right)) h') : callK Try.prog 22 #[.agg r.cells.toArray] h k := by
  refine call22 _ _ _ ?_
  unfold d22
  refine alloc_new fun p1 g1 y1 b1 x1 => b1.at_.loadN (Ru.len44 o) ?_
  exact c20 o fun g2 x2 => asB_of (hk g2 (x1.trans x2))
theorem six {i : Nat} (h : i ∈ [0, 1, 2, 3, 4, 5]) : i = 0 ∨ i = 1 ∨ i = 2 ∨ i = 3 ∨ i = 4 ∨ i = 5 := by simpa using h
/-- Fits' closure -/
theorem c28 {r : Ru} (or : r.ok) {y : Ky} (oy : y.ok) {p p1 p2 : Nat} (hp : Blk h p (List.toArray [.func (.func 46) #[] #[]]) 95) (b1 : Blk h p1 r.cells.toArray 43) (b2 : Blk h p2 y.cells.toArray 28) {i : Nat} (hi : i ∈ [0, 1, 2, 3, 4, 5])
    (hk : ∀ h', Go.Oct.Ext h h' → k (.bool (!fI i r y)) h') : callK Try.prog 28 #[.agg (askC p i).toArray, .pointer (some ⟨p1, 0, none⟩), .pointer (some ⟨p2, 0, none⟩)] h k := by
  refine call28 _ _ _ _ _ ?_
  unfold d28
  refine alloc_new fun p3 g1 y3 b3 x1 => ?_
  have a3 : At g1 p3 0 (askC p i) := b3.at_
  have a1 := (b1.ext x1).at_
  have a2 := (b2.ext x1).at_
  have hp1 := hp.ext x1
  refine addrK_of rfl (a3.load1 0 rfl rfl ?_)
  rcases six hi with rfl | rfl | rfl | rfl | rfl | rfl <;> refine ⟨_, _, _, rfl, ?_⟩ <;> refine a1.loadN (Ru.len44 or) (a2.loadN (Ky.len37 oy) ?_)
  · exact (show callK Try.prog 47 #[.agg r.cells.toArray, .agg y.cells.toArray, .pointer (some ⟨p, 0, none⟩)] g1 _ from c47 or oy hp1 fun g2 x2 => asB_of (hk g2 (x1.trans x2)))
  · exact (show callK Try.prog 49 #[.agg r.cells.toArray, .agg y.cells.toArray] g1 _ from c49 oy fun g2 x2 => asB_of (hk g2 (x1.trans x2)))
  · exact (show callK Try.prog 51 #[.agg r.cells.toArray, .agg y.cells.toArray] g1 _ from c51 or oy fun g2 x2 => asB_of (hk g2 (x1.trans x2)))
  · exact (show callK Try.prog 55 #[.agg r.cells.toArray, .agg y.cells.toArray] g1 _ from c55 or oy fun g2 x2 => asB_of (hk g2 (x1.trans x2)))
  · exact (show callK Try.prog 57 #[.agg r.cells.toArray, .agg y.cells.toArray] g1 _ from c57 or oy fun g2 x2 => asB_of (hk g2 (x1.trans x2)))
  · exact (show callK Try.prog 60 #[.agg r.cells.toArray, .agg y.cells.toArray] g1 _ from c60 or oy fun g2 x2 => asB_of (hk g2 (x1.trans x2)))
/-- Dead's closure -/
theorem c26 {r s : Ru} (or : r.ok) (os : s.ok) {p p1 p2 : Nat} (b1 : Blk h p1 r.cells.toArray 43) (b2 : Blk h p2 s.cells.toArray 43) {i : Nat} (hi : i ∈ [0, 1, 2, 3, 4, 5])
    (hk : ∀ h', Go.Oct.Ext h h' → k (.bool (!hI i r s)) h') : callK Try.prog 26 #[.agg (askC p i).toArray, .pointer (some ⟨p1, 0, none⟩), .pointer (some ⟨p2, 0, none⟩)] h k := by
  refine call26 _ _ _ _ _ ?_
  unfold d26
  refine alloc_new fun p3 g1 y3 b3 x1 => ?_
  have a3 : At g1 p3 0 (askC p i) := b3.at_
  have a1 := (b1.ext x1).at_
  have a2 := (b2.ext x1).at_
  refine addrK_of rfl (a3.load1 1 rfl rfl ?_)
  rcases six hi with rfl | rfl | rfl | rfl | rfl | rfl <;> refine ⟨_, _, _, rfl, ?_⟩ <;> refine a1.loadN (Ru.len44 or) (a2.loadN (Ru.len44 os) ?_)
  · exact (show callK Try.prog 48 #[.agg r.cells.toArray, .agg s.cells.toArray] g1 _ from c48 fun g2 x2 => asB_of (hk g2 (x1.trans x2)))
  · exact (show callK Try.prog 50 #[.agg r.cells.toArray, .agg s.cells.toArray] g1 _ from c50 fun g2 x2 => asB_of (hk g2 (x1.trans x2)))
  · exact (show callK Try.prog 53 #[.agg r.cells.toArray, .agg s.cells.toArray] g1 _ from c53 or os fun g2 x2 => asB_of (hk g2 (x1.trans x2)))
  · exact (show callK Try.prog 56 #[.agg r.cells.toArray, .agg s.cells.toArray] g1 _ from c56 or os fun g2 x2 => asB_of (hk g2 (x1.trans x2)))
  · exact (show callK Try.prog 59 #[.agg r.cells.toArray, .agg s.cells.toArray] g1 _ from c59 or os fun g2 x2 => asB_of (hk g2 (x1.trans x2)))
  · exact (show callK Try.prog 61 #[.agg r.cells.toArray, .agg s.cells.toArray] g1 _ from c61 or os fun g2 x2 => asB_of (hk g2 (x1.trans x2)))
theorem any_fits (r : Ru) (y : Ky) : (!([0, 1, 2, 3, 4, 5].any fun i => !fI i r y)) = fitsAll r y := by
  simp only [List.any_cons, List.any_nil, fI, fitsAll, Bool.or_false, Bool.not_or, Bool.not_not]
theorem any_holds (r s : Ru) : (!([0, 1, 2, 3, 4, 5].any fun i => !hI i r s)) = covers r s := by
  simp only [List.any_cons, List.any_nil, hI, covers, Bool.or_false, Bool.not_or, Bool.not_not]
/-- Fits -/
theorem c12 {r : Ru} (or : r.ok) {y : Ky} (oy : y.ok) (hk : ∀ h', Go.Oct.Ext h h' → k (.bool (fits r y)) h') : callK Try.prog 12 #[.agg r.cells.toArray, .agg y.cells.toArray] h k := by
  refine call12 _ _ _ _ ?_
  unfold d12
  refine alloc_new fun p2 g1 y2 b2 x1 => alloc_new fun p3 g2 y3 b3 x2 => ?_
  have k2 := b2.ext x2
  have x12 := x1.trans x2
  unfold fits at hk
  refine k2.at_.loadN (Ru.len44 or) ?_
  refine c20 or fun g3 x3 => asB_of ?_
  refine ifB_of (fun h1 => ?_) (fun h1 => ?_)
  · rw [h1, Bool.true_and] at hk
    refine c24 fun p A g4 x4 al => asS_of ?_
    refine c25 (askC_len p) al.row rfl (by decide) (pr := fun i => !fI i r y) (fun i hi g k eg hk' => ?_) fun g5 x5 => asB_of ?_
    · exact c28 or oy (al.var.ext eg) (k2.ext (x3.trans (x4.trans eg))) (b3.ext (x3.trans (x4.trans eg))) hi hk'
    · rw [any_fits]
      exact hk g5 (x12.trans (x3.trans (x4.trans x5)))
  · rw [h1, Bool.false_and] at hk
    exact hk g3 (x12.trans x3)
/-- Which's closure -/
theorem c30 {r : Ru} (or : r.ok) {y : Ky} (oy : y.ok) {p : Nat} (b : Blk h p y.cells.toArray 28) (hk : ∀ h', Go.Oct.Ext h h' → k (.bool (fits r y)) h') : callK Try.prog 30 #[.agg r.cells.toArray, .pointer (some ⟨p, 0, none⟩)] h k := by
  refine call30 _ _ _ _ ?_
  unfold d30
  refine alloc_new fun p2 g1 y2 b2 x1 => ?_
  refine b2.at_.loadN (Ru.len44 or) ((b.ext x1).at_.loadN (Ky.len37 oy) ?_)
  exact c12 or oy fun g2 x2 => asB_of (hk g2 (x1.trans x2))
/-- Which -/
theorem c13 {A : Option Addr} {n c : Nat} {xs : List RS} (hr : RowH h A (n * 44) (cellsOf RS.cells xs)) (hn : xs.length = n) (hsm : n ≤ 1073741824) {p : Nat} (ha : At h p 0 [.slice A n c]) {y : Ky} (oy : y.ok)
    (hk : ∀ h', Go.Oct.Ext h h' → k (.int .i64 (idxI xs fun r => fits r.1 y)) h') : callK Try.prog 13 #[.pointer (some ⟨p, 0, none⟩), .agg y.cells.toArray] h k := by
  refine call13 _ _ _ _ ?_
  unfold d13
  refine alloc_new fun p3 g1 y3 b3 x1 => ?_
  rw [needK_true (by simp)]
  refine (show ifB false _ _ from ?_)
  rw [ifB_false]
  refine nilK_of (addrK_of rfl ((ha.ext x1).load1 0 rfl rfl (asS_of ?_)))
  refine c29 (hr.ext x1) hn hsm (pr := fun r => fits r.1 y) (fun x hx g k eg hk' => ?_) fun g2 x2 => asI_of (hk g2 (x1.trans x2))
  exact c30 x.2 oy (b3.ext eg) hk'
end
end Go.Proofs.Ytkhlollengamdaa
