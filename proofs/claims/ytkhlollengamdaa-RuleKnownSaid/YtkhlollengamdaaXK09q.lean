/- What is proved: contracts of functions that the law calls, and of the law itself, over any heap. Conditions stand in each theorem. -/
import Derived.Test.YtkhlollengamdaaXK09p
set_option linter.unusedSimpArgs false
set_option linter.unusedVariables false
namespace Go.Proofs.Ytkhlollengamdaa
open Go.Oct Go.Oct.L09
theorem zP_none : zP.none = true := by decide +kernel
theorem others_right_eq (b : Bool) (c : Int) : (othersOf b c).right = (b || (decide (0 ≤ c) && decide (c < 8))) := by
  rw [right_eq]
  unfold othersOf anyR verok Ru.pok clsok
  simp only [zP_right, zP_none]
  cases b <;> simp
section
variable {h : H} {k : Value → H → Prop}
/-- docs.Rules -/
theorem c33 {A : Option Addr} {n c : Nat} {xs : List RS} (hr : RowH h A (n * 44) (cellsOf RS.cells xs)) (hn : xs.length = n) (hsm : n ≤ 1000000)
    (hk : ∀ A' c' h', Go.Oct.Ext h h' → Lst h' h.size 88 RS.cells 44 A' n c' xs → k (.slice A' n c') h') : callK Try.prog 33 #[.slice A n c] h k := by
  refine call33 _ _ _ _ _ ?_
  unfold d33
  refine ⟨fun A3 n3 c3 x4 g => ∃ j : Nat, x4 = j ∧ j ≤ n ∧ n3 = j ∧ Go.Oct.Ext h g ∧ Lst g h.size 88 RS.cells 44 A3 n3 c3 (xs.take j), fun A3 n3 c3 x4 g => (n - x4).toNat, ⟨0, rfl, by omega, rfl, Go.Oct.Ext.refl _, Lst.nil⟩, ?_⟩
  rintro A3 n3 c3 x4 g ⟨j, rfl, hj, rfl, eg, l3⟩
  have zg := eg.size
  refine ifB_dec (fun hlt => ?_) (fun hge => ?_)
  · obtain ⟨t, ht⟩ : ∃ t, xs[n3]? = some t := ⟨_, List.getElem?_eq_getElem (by omega)⟩
    refine rowL_index RS.len (by decide) (hr.ext eg) rfl ht fun b q _ ha => ha.loadN (RS.len t) ?_
    refine (show callK Try.prog 40 #[.agg t.1.cells.toArray] g _ from c40 t.2 fun g2 e2 => asA_of (by simpa using Ru.len44 t.2) ?_)
    refine fill_rows RS.len [t] (by simp) ?_
    refine alloc_new fun p17 g3 y17 b17 e3 => ?_
    refine src_blk b17 (by rw [cellsOf_size RS.len]; simp) ?_
    have ec : cellsOf RS.cells [t] = (RS.cells t).toArray := by simp [cellsOf]
    rw [ec]
    have l3' := l3.ext (e2.trans e3)
    have z2 := e2.size
    have z3 := e3.size
    refine Lst.push RS.len l3' t (by simp) (RS.one t) (by decide) (by omega) (by omega) fun A' c' g4 l4 m4 d4 => ?_
    refine ⟨⟨n3 + 1, wrap64_id (by omega) (by omega), by omega, rfl, (eg.trans (e2.trans e3)).then m4 (fun i hi => l3'.2.base_le hi), ?_⟩, ?_⟩
    · rw [List.take_add_one, ht]; exact l4
    · rw [wrap64_id (by omega) (by omega)]; dsimp only; omega
  · have : n3 = n := by omega
    subst this
    rw [List.take_of_length_le (by omega)] at l3
    exact hk A3 c3 g eg l3
/-- the reference's New -/
theorem c34 {deny : Bool} {cl : Int} {A : Option Addr} {n c : Nat} {xs : List RS} (hr : RowH h A (n * 44) (cellsOf RS.cells xs)) (hn : xs.length = n) (hsm : n ≤ 1000000)
    (hk : ∀ h', Go.Oct.Ext h h' → k (.int .i64 (newE (othersOf deny cl) xs)) h') : callK Try.prog 34 #[.bool deny, .int .i64 cl, .slice A n c] h k := by
  refine call34 _ _ _ _ _ _ _ ?_
  unfold d34
  refine ifB_dec (fun h1 => ?_) (fun h1 => ?_)
  · have : newE (othersOf deny cl) xs = 3 := by unfold newE; rw [if_pos (by omega)]
    rw [this] at hk
    exact hk h (Go.Oct.Ext.refl _)
  have hnE : newE (othersOf deny cl) xs = if !(othersOf deny cl).right || xs.any (fun r => !r.1.right) then 2 else 0 := by unfold newE; rw [if_neg (by omega)]
  rw [hnE, others_right_eq] at hk
  refine ⟨fun x6 x7 g => ∃ j : Nat, x7 = j ∧ j ≤ n ∧ Go.Oct.Ext h g ∧ ∀ (i : Nat) (y : RS), i < j → xs[i]? = some y → y.1.right = true, fun x6 x7 g => (n - x7).toNat, ⟨0, rfl, by omega, Go.Oct.Ext.refl _, fun i y hi => by omega⟩, ?_⟩
  rintro x6 x7 g ⟨j, rfl, hj, eg, hall⟩
  refine ifB_dec (fun hlt => ?_) (fun hge => ?_)
  · obtain ⟨t, ht⟩ : ∃ t, xs[j]? = some t := ⟨_, List.getElem?_eq_getElem (by omega)⟩
    refine rowL_index RS.len (by decide) (hr.ext eg) rfl ht fun b q _ ha => ha.loadN (RS.len t) ?_
    refine (show callK Try.prog 41 #[.agg t.1.cells.toArray] g _ from c41 t.2 fun g2 e2 => asB_of ?_)
    refine ifB_of (fun h2 => ?_) (fun h2 => ?_)
    · have hf : t.1.right = false := by simpa using h2
      have : xs.any (fun r => !r.1.right) = true := List.any_eq_true.2 ⟨t, List.mem_of_getElem? ht, by rw [hf]; rfl⟩
      rw [this, Bool.or_true, if_pos rfl] at hk
      exact hk g2 (eg.trans e2)
    · have hf : t.1.right = true := by simpa using h2
      refine ⟨⟨j + 1, wrap64_id (by omega) (by omega), by omega, eg.trans e2, fun i y hi hy => ?_⟩, ?_⟩
      · rcases Nat.lt_or_ge i j with h3 | h3
        · exact hall i y h3 hy
        · have : i = j := by omega
          subst this
          rw [ht] at hy
          cases hy
          exact hf
      · rw [wrap64_id (by omega) (by omega)]; dsimp only; omega
  · have : xs.any (fun r => !r.1.right) = false := by
      rw [List.any_eq_false]
      intro r hr'
      obtain ⟨i, hi, rfl⟩ := List.getElem_of_mem hr'
      rw [hall i _ (by omega) (List.getElem?_eq_getElem hi)]
      decide
    rw [this, Bool.or_false] at hk
    refine ⟨fun b g' => g' = g ∧ b = !(deny || (decide (0 ≤ cl) && decide (cl < 8))), ?_, ?_⟩
    · cases deny with
      | true => exact ⟨rfl, rfl⟩
      | false =>
        refine (show ifB true _ _ from ?_)
        rw [ifB_true]
        refine ifB_dec (fun h2 => ⟨rfl, ?_⟩) (fun h2 => ⟨rfl, ?_⟩)
        · rw [decide_eq_false (show ¬ 0 ≤ cl by omega)]; rfl
        · rw [decide_eq_true (show 0 ≤ cl by omega)]
          by_cases h3 : cl < 8
          · rw [decide_eq_true h3, decide_eq_false (by omega)]; rfl
          · rw [decide_eq_false h3, decide_eq_true (by omega)]; rfl
    rintro b g' ⟨rfl, rfl⟩
    refine ifB_of (fun h2 => ?_) (fun h2 => ?_)
    · rw [h2, if_pos rfl] at hk; exact hk g' eg
    · rw [h2, if_neg (by decide)] at hk; exact hk g' eg
/-- the reference's Which -/
theorem c37 {A : Option Addr} {n c : Nat} {xs : List RS} (hr : RowH h A (n * 44) (cellsOf RS.cells xs)) (hn : xs.length = n) (hsm : n ≤ 1000000) {y : Ky} (oy : y.ok)
    (hk : ∀ h', Go.Oct.Ext h h' → k (.int .i64 (idxI xs fun r => fits r.1 y)) h') : callK Try.prog 37 #[.slice A n c, .agg y.cells.toArray] h k := by
  refine call37 _ _ _ _ _ _ ?_
  unfold d37
  refine alloc_new fun p3 g1 y3 b3 x1 => ?_
  refine ⟨fun x4 x5 g => ∃ j : Nat, x5 = j ∧ j ≤ n ∧ Go.Oct.Ext g1 g ∧ ∀ (i : Nat) (r : RS), i < j → xs[i]? = some r → fits r.1 y = false, fun x4 x5 g => (n - x5).toNat, ⟨0, rfl, by omega, Go.Oct.Ext.refl _, fun i y hi => by omega⟩, ?_⟩
  rintro x4 x5 g ⟨j, rfl, hj, eg, hall⟩
  refine ifB_dec (fun hlt => draw_ext ?_) (fun hge => ?_)
  · obtain ⟨t, ht⟩ : ∃ t, xs[j]? = some t := ⟨_, List.getElem?_eq_getElem (by omega)⟩
    refine rowL_index RS.len (by decide) (hr.ext (x1.trans eg)) rfl ht fun b q _ ha => ha.loadSN (RS.len t) ?_
    refine (b3.ext eg).at_.loadSN (Ky.len37 oy) ?_
    refine (show callK Try.prog 42 #[.agg t.1.cells.toArray, .agg y.cells.toArray] g _ from c42 t.2 oy fun g2 e2 => asB_of ?_)
    refine ifB_of (fun h2 => ?_) (fun h2 => ?_)
    · rw [idxI_some (pr := fun r : RS => fits r.1 y) ht h2 hall] at hk
      exact hk g2 (x1.trans (eg.trans e2))
    · refine ⟨⟨j + 1, wrap64_id (by omega) (by omega), by omega, eg.trans e2, fun i r hi hy => ?_⟩, ?_⟩
      · rcases Nat.lt_or_ge i j with h3 | h3
        · exact hall i r h3 hy
        · have : i = j := by omega
          subst this
          rw [ht] at hy
          cases hy
          exact h2
      · rw [wrap64_id (by omega) (by omega)]; dsimp only; omega
  · have := hk g (x1.trans eg)
    rw [idxI_none (fun x hx => by
      obtain ⟨i, hi, rfl⟩ := List.getElem_of_mem hx
      exact hall i _ (by omega) (List.getElem?_eq_getElem hi))] at this
    exact this
/-- the reference's Class -/
theorem c36 {deny : Bool} {cl : Int} {A : Option Addr} {n c : Nat} {xs : List RS} (hr : RowH h A (n * 44) (cellsOf RS.cells xs)) (hn : xs.length = n) (hsm : n ≤ 1000000) {y : Ky} (oy : y.ok)
    (hk : ∀ h', Go.Oct.Ext h h' → k (.tuple #[.int .i64 (tellsR xs (othersOf deny cl) y).1, .int .i64 (tellsR xs (othersOf deny cl) y).2]) h') : callK Try.prog 36 #[.bool deny, .int .i64 cl, .slice A n c, .agg y.cells.toArray] h k := by
  refine call36 _ _ _ _ _ _ _ _ ?_
  unfold d36
  refine alloc_new fun p7 g1 y7 b7 x1 => ?_
  refine b7.at_.loadN (Ky.len37 oy) ?_
  refine c37 (hr.ext x1) hn hsm oy fun g2 x2 => asI_of ?_
  have x12 := x1.trans x2
  have hk := hk g2 x12
  unfold tellsR at hk
  refine ⟨fun b0 b1 v g => g = g2 ∧ (if b1 then ((0 : Int), (90 : Int)) else (v, 0)) = told (((xs.find? fun r => fits r.1 y).map Subtype.val).getD (othersOf deny cl)), ?_, ?_⟩
  · rcases idx_cases xs (fun r => fits r.1 y) with ⟨e1, e2⟩ | ⟨j, x, e1, e2, e3⟩
    · rw [e1, e2]
      refine ifB_dec (fun h1 => absurd h1 (by decide)) (fun h1 => ⟨rfl, ?_⟩)
      cases deny <;> rfl
    · rw [e1, e3]
      have ht := fun (b q : Nat) (ha : At g2 b q x.1.cells) => At.rtl x.2 ha rfl
      refine ifB_dec (fun h1 => ?_) (fun h1 => absurd (show (j : Int) ≥ 0 by omega) h1)
      refine rowL_index RS.len (by decide) (hr.ext x12) rfl e2 fun b q _ ha => addrK_of rfl ((ht b q ha).load1 4 rfl rfl (asB_of ?_))
      refine rowL_index RS.len (by decide) (hr.ext x12) rfl e2 fun b q _ ha => addrK_of rfl ((ht b q ha).load1 5 rfl rfl (asI_of ⟨rfl, ?_⟩))
      rfl
  rintro b15 b1 v g ⟨rfl, ht⟩
  rw [← ht] at hk
  cases b1 with
  | true => exact hk
  | false => exact hk
set_option maxHeartbeats 1000000 in
/-- the reference's Dead -/
theorem c38 {A : Option Addr} {n c : Nat} {xs : List RS} (hr : RowH h A (n * 44) (cellsOf RS.cells xs)) (hn : xs.length = n) (hsm : n ≤ 1000000)
    (hk : ∀ A' c' h', Go.Oct.Ext h h' → Lst h' h.size 3 (fun x => [nI x]) 1 A' (deadR xs).length c' (deadR xs) → k (.slice A' (deadR xs).length c') h') : callK Try.prog 38 #[.slice A n c] h k := by
  refine call38 _ _ _ _ _ ?_
  unfold d38
  refine ⟨fun A2 n2 c2 x16 g => ∃ i : Nat, x16 = i ∧ i ≤ n ∧ Go.Oct.Ext h g ∧ n2 = ((List.range i).filter (deadB xs)).length ∧ Lst g h.size 3 (fun x => [nI x]) 1 A2 n2 c2 ((List.range i).filter (deadB xs)), fun A2 n2 c2 x16 g => (n - x16).toNat, ⟨0, rfl, by omega, Go.Oct.Ext.refl _, rfl, Lst.nil⟩, ?_⟩
  rintro A2 n2 c2 x16 g2 ⟨i, rfl, hi, x2, hn2, l2⟩
  have z2 := x2.size
  refine ifB_dec (fun hlt => ?_) (fun hge => ?_)
  · obtain ⟨t, ht⟩ : ∃ t, xs[i]? = some t := ⟨_, List.getElem?_eq_getElem (by omega)⟩
    have hfl : ((List.range i).filter (deadB xs)).length ≤ i := by
      have := List.length_filter_le (deadB xs) (List.range i)
      simpa using this
    have hdB : deadB xs i = (xs.take i).any fun r => covers r.1 t.1 := by unfold deadB; rw [ht]
    have hstep : (List.range (i + 1)).filter (deadB xs) = (List.range i).filter (deadB xs) ++ if deadB xs i then [i] else [] := by
      rw [List.range_succ, List.filter_append]
      cases hd : deadB xs i <;> simp [hd]
    refine ⟨fun _ _ _ _ A3 n3 c3 g => Go.Oct.Ext h g ∧ n3 = ((List.range (i + 1)).filter (deadB xs)).length ∧ Lst g h.size 3 (fun x => [nI x]) 1 A3 n3 c3 ((List.range (i + 1)).filter (deadB xs)), ?_, ?_⟩
    · refine ⟨fun b5 x6 g => ∃ j : Nat, x6 = j ∧ j ≤ i ∧ Go.Oct.Ext g2 g ∧ b5 = (xs.take j).any fun r => covers r.1 t.1, fun b5 x6 g => (i - x6).toNat, ⟨0, rfl, by omega, Go.Oct.Ext.refl _, by simp⟩, ?_⟩
      rintro b5 x6 g3 ⟨j, rfl, hj, x3, rfl⟩
      refine ifB_dec (fun hlt2 => ?_) (fun hge2 => ?_)
      · obtain ⟨r, hr2⟩ : ∃ r, xs[j]? = some r := ⟨_, List.getElem?_eq_getElem (by omega)⟩
        have hat : (xs.take (j + 1)).any (fun r => covers r.1 t.1) = ((xs.take j).any (fun r => covers r.1 t.1) || covers r.1 t.1) := by
          rw [List.take_add_one, hr2, List.any_append]
          simp
        refine ⟨fun b g => Go.Oct.Ext g3 g ∧ b = (xs.take (j + 1)).any (fun r => covers r.1 t.1), draw_ext ?_, ?_⟩
        · refine ifB_of (fun h2 => ⟨Go.Oct.Ext.refl _, ?_⟩) (fun h2 => ?_)
          · rw [hat, h2]; rfl
          refine rowL_index RS.len (by decide) (hr.ext (x2.trans x3)) rfl hr2 fun b q _ ha => ha.loadSN (RS.len r) ?_
          refine rowL_index RS.len (by decide) (hr.ext (x2.trans x3)) rfl ht fun b q _ ha => ha.loadSN (RS.len t) ?_
          refine (show callK Try.prog 66 #[.agg r.1.cells.toArray, .agg t.1.cells.toArray] g3 _ from c66 r.2 t.2 fun g4 x4 => asB_of ⟨x4, ?_⟩)
          rw [hat, h2, Bool.false_or]
        rintro b g4 ⟨x4, rfl⟩
        refine ⟨⟨j + 1, wrap64_id (by omega) (by omega), by omega, x3.trans x4, rfl⟩, ?_⟩
        rw [wrap64_id (by omega) (by omega)]; dsimp only; omega
      · have hji : j = i := by omega
        subst hji
        rw [← hdB]
        have l3 := l2.ext x3
        refine ifB_of (fun h1 => ?_) (fun h1 => ?_)
        · refine alloc_new fun p38 g7 y38 b38 x7 => src_blk b38 rfl ?_
          have l7 := l3.ext x7
          have z3 := x3.size
          have z7 := x7.size
          refine Lst.push (f := fun x => [nI x]) (fun _ => rfl) l7 j rfl (by simp [OneCells, nI, Value.oneCell']) (by omega) (by omega) (by omega) fun A' c' g8 l8 m8 d8 => ?_
          rw [hstep, h1]
          exact ⟨(x2.trans (x3.trans x7)).then m8 (fun i hi => l7.2.base_le hi), by rw [List.length_append, ← hn2]; rfl, l8⟩
        · rw [hstep, h1]
          refine ⟨x2.trans x3, by simpa using hn2, ?_⟩
          simpa using l3
    rintro _ _ _ _ A3 n3 c3 g3 ⟨x3, hn3, l3⟩
    refine ⟨⟨i + 1, wrap64_id (by omega) (by omega), by omega, x3, hn3, l3⟩, ?_⟩
    rw [wrap64_id (by omega) (by omega)]; dsimp only; omega
  · have hin : i = xs.length := by omega
    subst hin
    rw [hn2] at l2 ⊢
    exact hk A2 c2 g2 x2 l2
/-- SameInts, of the same -/
theorem c39 {A B : Option Addr} {n c d : Nat} {xs : List Nat} (hA : RowH h A n (xs.map nI).toArray) (hB : RowH h B n (xs.map nI).toArray) (hsm : n ≤ 1000000) (hk : k (.bool true) h) : callK Try.prog 39 #[.slice A n c, .slice B n d] h k := by
  refine call39 _ _ _ _ _ _ _ _ ?_
  unfold d39
  have hl : xs.length = n := by simpa using hA.1
  refine ifB_ne (fun h1 => absurd rfl h1) (fun _ => ?_)
  refine ⟨fun b4 x5 g => g = h ∧ ∃ j : Nat, x5 = j ∧ j ≤ n, fun b4 x5 g => (n - x5).toNat, ⟨rfl, 0, rfl, by omega⟩, ?_⟩
  rintro b4 x5 g ⟨rfl, j, rfl, hj⟩
  refine ifB_dec (fun hlt => draw_ext ?_) (fun hge => hk)
  obtain ⟨t, ht⟩ : ∃ t, xs[j]? = some t := ⟨_, List.getElem?_eq_getElem (by omega)⟩
  refine row_loadS (f := nI) hA rfl ht (asI_of ?_)
  refine row_loadS (f := nI) hB rfl ht (asI_of ?_)
  refine ifB_ne (fun h1 => absurd rfl h1) (fun _ => ⟨⟨rfl, j + 1, wrap64_id (by omega) (by omega), by omega⟩, ?_⟩)
  rw [wrap64_id (by omega) (by omega)]; dsimp only; omega
end
end Go.Proofs.Ytkhlollengamdaa
