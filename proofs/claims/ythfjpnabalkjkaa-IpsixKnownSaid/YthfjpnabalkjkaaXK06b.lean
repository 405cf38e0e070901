/- What is proved: contracts of functions that the law calls, and of the law itself, over any heap. Conditions stand in each theorem. -/
import Derived.Test.YthfjpnabalkjkaaXK06a
set_option linter.unusedSimpArgs false
set_option linter.unusedVariables false
namespace Go.Proofs.Ythfjpnabalkjkaa
open Go.Oct Go.Oct.L01 Go.Oct.L06
theorem litB {g : H} {b : Nat} {xs : List Int} {n : Nat} (hb : Blk g b (xs.map bf).toArray 5) (hn : xs.length = n) : RowH g (some ⟨b, 0, none⟩) n (xs.map bf).toArray := by
  subst hn
  have h1 := hb.row 0 xs.length (by simp)
  have e : ((xs.map bf).toArray).extract 0 (0 + xs.length) = (xs.map bf).toArray := by apply Array.ext'; simp [List.extract_eq_take_drop]; rw [List.take_of_length_le (by simp)]
  rwa [e] at h1
/-- Own -/
theorem c12 (A : Option Addr) (n c : Nat) (xs : List Int) (h : H) (k : Value → H → Prop) (hr : RowH h A n (xs.map bf).toArray) (hn : n ≤ 1099511627776)
    (hk : ∀ A' c' h', Ext h h' → Byt h' h.size A' n c' xs → k (.slice A' n c') h') : callK Try.prog 12 #[.slice A n c] h k := by
  refine call12 _ _ _ _ _ ?_
  unfold d12
  have hl : xs.length = n := by simpa using hr.1
  refine src_one hr ?_
  have o : Byt h h.size none 0 0 [] := Lst.nil
  refine Lst.appends o xs hl rfl bf_one (by omega) (Nat.le_refl _) (by omega) fun A' c' h2 l2 m2 d2 => ?_
  rw [Nat.zero_add] at l2 ⊢
  exact hk A' c' h2 ⟨m2.size, fun i hi _ => m2.block i hi (by rintro ⟨ad, e, _⟩; cases e)⟩ l2
/-- bytes.Clone -/
theorem c41 (A : Option Addr) (n c : Nat) (xs : List Int) (h : H) (k : Value → H → Prop) (hr : RowH h A n (xs.map bf).toArray) (hn : n ≤ 1099511627776)
    (hk : ∀ A' c' h', Ext h h' → Byt h' h.size A' n c' xs → k (.slice A' n c') h') : callK Try.prog 41 #[.slice A n c] h k := by
  refine call41 _ _ _ _ _ ?_
  unfold d41
  have hl : xs.length = n := by simpa using hr.1
  rw [needK_true rfl]
  refine ifB_of (fun hA => ?_) (fun hA => ?_)
  · have hA : A = none := by simpa using hA
    subst hA
    have h0 : n = 0 := by
      rcases Nat.eq_zero_or_pos n with h0 | h0
      · exact h0
      · obtain ⟨ad, e, _⟩ := hr.2 h0; cases e
    subst h0
    have : xs = [] := List.length_eq_zero_iff.1 hl
    subst this
    exact hk none 0 h (Ext.refl _) Lst.nil
  · refine alloc_new fun b h1 l1 hb e1 => src_one (hr.ext e1) ?_
    have o : Byt h1 h.size (some ⟨b, 0, none⟩) 0 0 [] := ⟨rfl, Own.of_blk l1 hb rfl⟩
    refine Lst.appends o xs hl rfl bf_one (by omega) e1.size (by omega) fun A' c' h2 l2 m2 d2 => ?_
    rw [Nat.zero_add] at l2 ⊢
    exact hk A' c' h2 (e1.then m2 (by rintro i ⟨ad, e, rfl⟩; cases e; exact l1)) l2
/-- bytes.Equal -/
theorem c36 (A : Option Addr) (n c : Nat) (xs : List Int) (B : Option Addr) (m d : Nat) (ys : List Int) (h : H) (k : Value → H → Prop) (hr : RowH h A n (xs.map bf).toArray) (hs : RowH h B m (ys.map bf).toArray) (hx : ∀ x ∈ xs, isB x) (hy : ∀ y ∈ ys, isB y)
    (hk : k (.bool (decide (xs = ys))) h) : callK Try.prog 36 #[.slice A n c, .slice B m d] h k := by
  refine call36 _ _ _ _ _ _ _ _ ?_
  unfold d36
  refine strK_of hr (strK_of hs ?_)
  rw [str_beq hx hy]
  exact hk
/-- SameBytes -/
theorem c16 (A : Option Addr) (n c : Nat) (xs : List Int) (B : Option Addr) (m d : Nat) (ys : List Int) (h : H) (k : Value → H → Prop) (hr : RowH h A n (xs.map bf).toArray) (hs : RowH h B m (ys.map bf).toArray) (hn : n ≤ 1099511627776)
    (hk : k (.bool (decide (xs = ys))) h) : callK Try.prog 16 #[.slice A n c, .slice B m d] h k := by
  refine call16 _ _ _ _ _ _ _ _ ?_
  unfold d16
  have hl : xs.length = n := by simpa using hr.1
  have hm : ys.length = m := by simpa using hs.1
  refine ifB_ne (fun h1 => ?_) (fun h1 => ?_)
  · rw [decide_eq_false (by rintro rfl; omega)] at hk; exact hk
  have hnm : m = n := by omega
  subst hnm
  refine ⟨fun b x g => g = h ∧ ∃ j : Nat, x = j ∧ j ≤ m ∧ xs.take j = ys.take j, fun b x g => (m - x).toNat, ⟨rfl, 0, rfl, by omega, rfl⟩, ?_⟩
  rintro b x g ⟨rfl, j, rfl, hj, he⟩
  refine ifB_dec (fun hlt => draw_ext ?_) (fun hge => ?_)
  · have hx : xs[j]? = some xs[j] := List.getElem?_eq_getElem (by omega)
    have hy : ys[j]? = some ys[j] := List.getElem?_eq_getElem (by omega)
    generalize xs[j] = u at *
    generalize ys[j] = v at *
    refine row_loadS (f := bf) hr rfl hx (asI_of ?_)
    refine row_loadS (f := bf) hs rfl hy (asI_of ?_)
    refine ifB_ne (fun h2 => ?_) (fun h2 => ?_)
    · rw [decide_eq_false (take_ne (j := j) (by rw [hx, hy]; simpa using h2))] at hk; exact hk
    · refine ⟨⟨rfl, j + 1, wrap64_id (by omega) (by omega), by omega, ?_⟩, ?_⟩
      · rw [List.take_add_one, List.take_add_one, he, hx, hy, h2]
      · rw [wrap64_id (by omega) (by omega)]
        dsimp only
        omega
  · have : j = m := by omega
    subst this
    rw [List.take_of_length_le (by omega), List.take_of_length_le (by omega)] at he
    rw [decide_eq_true he] at hk
    exact hk
section
variable {h : H} {k : Value → H → Prop}
theorem c35 (v w : Ex) (ov : v.ok h) (ow : w.ok h) (hk : ∀ h', Ext h h' → k (.bool (decide (v.pair = w.pair))) h') : callK Try.prog 35 #[.agg v.cells.toArray, .agg w.cells.toArray] h k := by
  refine call35 _ _ _ _ ?_
  unfold d35
  refine alloc_new fun p g1 y1 b1 x1 => alloc_new fun p2 g2 y2 b2 x2 => ?_
  have x12 := x1.trans x2
  have a1 : At g2 p 0 v.cells := (b1.ext x2).at_
  have a2 : At g2 p2 0 w.cells := b2.at_
  have hk := hk g2 x12
  refine addrK_of rfl (a1.load1 0 rfl rfl (asI_of ?_))
  refine addrK_of rfl (a2.load1 0 rfl rfl (asI_of ?_))
  unfold Ex.pair at hk
  refine ifB_eq (fun h1 => ?_) (fun h1 => ?_)
  · refine addrK_of rfl (a1.load1 1 rfl rfl (asS_of ?_))
    refine addrK_of rfl (a2.load1 1 rfl rfl (asS_of ?_))
    refine c36 _ _ _ v.d _ _ _ w.d _ _ (ov.row.ext x12) (ow.row.ext x12) ov.byd ow.byd (asB_of ?_)
    have : decide (v.d = w.d) = decide (((v.k, v.d) : Ext) = (w.k, w.d)) := by simp [h1]
    rw [this]
    exact hk
  · rw [decide_eq_false (by simp [h1])] at hk
    exact hk
/-- slices.EqualFunc -/
theorem c37 (A : Option Addr) (n c : Nat) (B : Option Addr) (m d : Nat) (vs ws : List Ex) (hA : RowH h A (n * 2) (cellsOf Ex.cells vs)) (hB : RowH h B (m * 2) (cellsOf Ex.cells ws)) (hn : vs.length = n) (hm : ws.length = m) (hb : n ≤ 1073741824)
    (ov : ∀ x ∈ vs, x.ok h) (ow : ∀ x ∈ ws, x.ok h) (hk : ∀ h', Ext h h' → k (.bool (decide (pairs vs = pairs ws))) h') : callK Try.prog 37 #[.slice A n c, .slice B m d, .func (.func 35) #[] #[]] h k := by
  refine call37 _ _ _ _ _ _ _ _ _ _ _ ?_
  unfold d37
  refine ifB_ne (fun h1 => ?_) (fun h1 => ?_)
  · have := hk h (Ext.refl _)
    rw [decide_eq_false (by intro e; have := congrArg List.length e; simp [pairs] at this; omega)] at this
    exact this
  have hnm : m = n := by omega
  subst hnm
  refine ⟨fun b x g => ∃ j : Nat, x = j ∧ j ≤ m ∧ Ext h g ∧ (pairs vs).take j = (pairs ws).take j, fun b x g => (m - x).toNat, ⟨0, rfl, by omega, Ext.refl _, rfl⟩, ?_⟩
  rintro b x g ⟨j, rfl, hj, xg, he⟩
  refine ifB_dec (fun hlt => ?_) (fun hge => ?_)
  · have hx : vs[j]? = some vs[j] := List.getElem?_eq_getElem (by omega)
    have hy : ws[j]? = some ws[j] := List.getElem?_eq_getElem (by omega)
    have mv := List.getElem_mem (show j < vs.length by omega)
    have mw := List.getElem_mem (show j < ws.length by omega)
    have gv := pairs_get hx
    have gw := pairs_get hy
    generalize vs[j] = v at *
    generalize ws[j] = w at *
    refine rowL_index Ex.len (by omega) (hA.ext xg) rfl hx fun b q' _ ha => ha.loadN rfl ?_
    refine newVr (by simp) rfl (Ex.one v) fun p8 g2 y2 b2 x2 => ?_
    refine rowL_index Ex.len (by omega) (hB.ext (xg.trans x2)) rfl hy fun b q' _ ha => ha.loadN rfl ?_
    refine newVr (by simp) rfl (Ex.one w) fun p9 g3 y3 b3 x3 => ?_
    have a2 : At g3 p8 0 v.cells := (b2.ext x3).at_
    have a3 : At g3 p9 0 w.cells := b3.at_
    refine a2.loadN rfl (a3.loadN rfl ?_)
    have x1 := xg.trans (x2.trans x3)
    refine c35 v w ((ov v mv).ext x1) ((ow w mw).ext x1) fun g4 x4 => asB_of ?_
    by_cases h2 : v.pair = w.pair
    · rw [decide_eq_true h2, ifB_nt]
      refine ⟨⟨j + 1, wrap64_id (by omega) (by omega), by omega, x1.trans x4, ?_⟩, ?_⟩
      · rw [List.take_add_one, List.take_add_one, he, gv, gw, h2]
      · rw [wrap64_id (by omega) (by omega)]
        dsimp only
        omega
    · rw [decide_eq_false h2, ifB_nf]
      have := hk g4 (x1.trans x4)
      rw [decide_eq_false (take_ne (j := j) (by rw [gv, gw]; simpa using h2))] at this
      exact this
  · have hjn : j = m := by omega
    subst hjn
    have := hk g xg
    rw [List.take_of_length_le (by simp [pairs]; omega), List.take_of_length_le (by simp [pairs]; omega)] at he
    rw [decide_eq_true he] at this
    exact this
/-- Same -/
theorem c13 {A B : Option Addr} {n c m d : Nat} {xs ys : List Ex} {p q : Int} (ch : Ch h A n xs p) (ch' : Ch h B m ys q) (hk : ∀ h', Ext h h' → k (.bool (decide (pairs xs = pairs ys ∧ p = q))) h') : callK Try.prog 13 #[.agg (chv A n c p), .agg (chv B m d q)] h k := by
  refine call13 _ _ _ _ ?_
  unfold d13
  refine alloc_new fun p1 g1 y1 b1 x1 => alloc_new fun p2 g2 y2 b2 x2 => ?_
  have x12 := x1.trans x2
  have a1 : At g2 p1 0 [.slice A n c, .int .u8 p] := (b1.ext x2).at_
  have a2 : At g2 p2 0 [.slice B m d, .int .u8 q] := b2.at_
  refine addrK_of rfl (a1.load1 1 rfl rfl (asI_of ?_))
  refine addrK_of rfl (a2.load1 1 rfl rfl (asI_of ?_))
  refine ifB_eq (fun h1 => ?_) (fun h1 => ?_)
  · refine addrK_of rfl (a1.load1 0 rfl rfl (asS_of ?_))
    refine addrK_of rfl (a2.load1 0 rfl rfl (asS_of ?_))
    have c1 := ch.ext x12
    have c2 := ch'.ext x12
    refine c37 A n c B m d xs ys c1.row c2.row c1.len c2.len c1.small c1.ok c2.ok fun g e => asB_of ?_
    have := hk g (x12.trans e)
    have e1 : decide (pairs xs = pairs ys ∧ p = q) = decide (pairs xs = pairs ys) := by
      by_cases h2 : pairs xs = pairs ys
      · rw [decide_eq_true h2, decide_eq_true ⟨h2, h1⟩]
      · rw [decide_eq_false h2, decide_eq_false (fun h => h2 h.1)]
    rw [e1] at this
    exact this
  · have := hk g2 x12
    rw [decide_eq_false (fun h => h1 h.2)] at this
    exact this
theorem rightX_len {d : List Int} {kk : Int} (h : rightX (kk, d) = true) : 6 ≤ d.length ∧ d.length ≤ 2046 := by
  unfold rightX at h
  split at h
  · have := of_decide_eq_true h; dsimp only at this; omega
  · simp at h; omega
theorem lenB_ok {d : List Int} {kk : Int} (h : rightX (kk, d) = true) : IntKind.wrap .u8 (IntKind.wrap .i64 (IntKind.wrap .i64 (Int.tdiv (IntKind.wrap .i64 ((d.length : Int) + 2)) 8) - 1)) = lenB d := by
  have hl : 6 ≤ d.length ∧ d.length ≤ 2046 := by
    unfold rightX at h
    split at h
    · have := of_decide_eq_true h; dsimp only at this; omega
    · simp at h; omega
  rw [wrap64_id (x := (d.length : Int) + 2) (by omega) (by omega), Int.tdiv_eq_ediv_of_nonneg (by omega), wrap64_id (x := ((d.length : Int) + 2) / 8) (by omega) (by omega), wrap64_id (by omega) (by omega)]
  unfold lenB
  rw [IntKind.wrap_u8]
  omega
/-- PutChain -/
theorem c10 {A : Option Addr} {n c : Nat} {xs : List Ex} {p : Int} (ch : Ch h A n xs p) (hno : ¬ RightC (pairs xs) p → ∀ h', Ext h h' → k (.tuple #[.slice none 0 0, .int .u8 0, .int .i64 60]) h')
    (hk : RightC (pairs xs) p → ∀ A' n' c' h', Ext h h' → Byt h' h.size A' n' c' (putL (pairs xs) p) → k (.tuple #[.slice A' n' c', .int .u8 (firstK (pairs xs) p), .int .i64 0]) h') : callK Try.prog 10 #[.agg (chv A n c p)] h k := by
  refine call10 _ _ _ ?_
  unfold d10
  refine alloc_new fun p1 g1 y1 b1 x1 => ?_
  have a1 : At g1 p1 0 [.slice A n c, .int .u8 p] := b1.at_
  refine a1.loadN rfl ?_
  refine c17 (ch.ext x1) fun b hb g2 x2 => asB_of ?_
  have x12 := x1.trans x2
  refine ifB_of (fun h1 => hno (fun hR => by rw [hb.2 hR] at h1; cases h1) g2 x12) (fun h1 => ?_)
  have hR : RightC (pairs xs) p := hb.1 (by simpa using h1)
  have hlen := ch.len
  have hpl : (pairs xs).length = n := by simp [pairs, hlen]
  have h16 : n ≤ 16 := by rw [← hpl]; exact hR.few
  refine alloc_new fun p13 g3 y3 b3 x3 => ?_
  have x13 := x12.trans x3
  have z3 := x13.size
  have z12 := x12.size
  have k3 : Blk g3 p1 (chv A n c p) 29 := b1.ext (x2.trans x3)
  refine addrK_of rfl (k3.at_.load1 0 rfl rfl (asS_of ?_))
  refine ⟨fun A5 n5 c5 x g => ∃ j : Nat, x = j ∧ j ≤ n ∧ n5 = j ∧ Ext h g ∧ Blk g p1 (chv A n c p) 29 ∧ Byt g h.size A5 n5 c5 ((xs.take j).map Ex.k), fun A5 n5 c5 x g => (n - x).toNat, ⟨0, rfl, by omega, rfl, x13, k3, ⟨rfl, Own.of_blk (Nat.le_trans z12 y3) b3 rfl⟩⟩, ?_⟩
  rintro A5 n5 c5 x g ⟨j, rfl, hj, rfl, eg, kg, lk⟩
  have zg := eg.size
  refine ifB_dec (fun hlt => ?_) (fun hge => ?_)
  · have hx : xs[n5]? = some xs[n5] := List.getElem?_eq_getElem (by omega)
    refine rowL_index Ex.len (by omega) (ch.row.ext eg) rfl hx fun b q _ ha => ha.loadN rfl ?_
    refine newVr (by simp) rfl (Ex.one _) fun p7 g4 y4 b4 x4 => ?_
    have a4 : At g4 p7 0 xs[n5].cells := b4.at_
    refine addrK_of rfl (a4.load1 0 rfl rfl (asI_of ?_))
    refine alloc_new fun p24 g5 y5 b5 x5 => src_blk b5 rfl ?_
    have x45 := x4.trans x5
    have z45 := x45.size
    have lk5 := lk.ext x45
    have k5 := kg.ext x45
    refine Lst.push (f := fun x => [bf x]) bf_len lk5 xs[n5].k rfl (by simp [OneCells, bf, Value.oneCell']) (by omega) (by omega) (by omega) fun A' c' g' l' m' d' => ?_
    refine ⟨⟨n5 + 1, wrap64_id (by omega) (by omega), by omega, rfl, (eg.trans x45).then m' (fun i hi => lk5.2.base_le hi), k5.mod m' (fun hi => lk5.2.ne_blk k5 (by decide) _ hi rfl), by rw [List.take_succ_eq_append_getElem (by omega), List.map_append]; exact l'⟩, ?_⟩
    rw [wrap64_id (by omega) (by omega)]
    dsimp only
    omega
  have hnn : n5 = n := by omega
  subst hnn
  rw [← hlen, List.take_length, hlen] at lk
  refine addrK_of rfl (kg.at_.load1 1 rfl rfl (asI_of ?_))
  refine alloc_new fun p30 g4 y4 b4 x4 => src_blk b4 rfl ?_
  have lk4 := lk.ext x4
  have k4 := kg.ext x4
  have z4 := x4.size
  refine Lst.push (f := fun x => [bf x]) bf_len lk4 p rfl (by simp [OneCells, bf, Value.oneCell']) (by omega) (by omega) (by omega) fun A31 c31 g0 l0 m0 d0 => ?_
  have k0 := k4.mod m0 (fun hi => lk4.2.ne_blk k4 (by decide) _ hi rfl)
  have e0 := (eg.trans x4).then m0 (fun i hi => lk4.2.base_le hi)
  have z0 := e0.size
  have r31 := Lst.row (f := bf) l0
  have hK : ∀ j, j ≤ n5 → (xs.map Ex.k ++ [p])[j]? = some (firstK ((pairs xs).drop j) p) := by
    intro j hj
    rcases Nat.lt_or_ge j n5 with h1 | h1
    · rw [List.getElem?_append_left (by simp; omega), List.getElem?_map, List.getElem?_eq_getElem (by omega)]
      rw [List.drop_eq_getElem_cons (by omega)]
      simp [firstK, pairs, Ex.pair]
    · have : j = n5 := by omega
      subst this
      rw [List.getElem?_append_right (by simp; omega), List.drop_of_length_le (by omega)]
      simp [hlen, firstK]
  refine addrK_of rfl (k0.at_.load1 0 rfl rfl (asS_of ?_))
  refine ⟨fun A2 n2 c2 x g => ∃ (j : Nat) (bs : List Int), x = j ∧ j ≤ n5 ∧ n2 ≤ 2100 * j ∧ Ext g0 g ∧ Byt g g0.size A2 n2 c2 bs ∧ bs ++ putL ((pairs xs).drop j) p = putL (pairs xs) p, fun A2 n2 c2 x g => (n5 - x).toNat, ⟨0, [], rfl, by omega, by omega, Ext.refl _, Lst.nil, by simp⟩, ?_⟩
  rintro A2 n2 c2 x g6 ⟨j, bs, rfl, hj2, hn2, e6, l6, hbs⟩
  have z6 := e6.size
  refine ifB_dec (fun hlt => ?_) (fun hge2 => ?_)
  · have hx : xs[j]? = some xs[j] := List.getElem?_eq_getElem (by omega)
    have hm := List.getElem_mem (show j < xs.length by omega)
    have hdrop : (pairs xs).drop j = xs[j].pair :: (pairs xs).drop (j + 1) := by
      rw [List.drop_eq_getElem_cons (by omega)]; simp [pairs]
    have hrx := hR.all xs[j].pair (List.mem_map.2 ⟨_, hm, rfl⟩)
    generalize xs[j] = x at *
    have ox := ch.ok x hm
    have hln := ox.ln
    have hsz : 6 ≤ x.d.length ∧ x.d.length ≤ 2046 := rightX_len hrx
    refine rowL_index Ex.len (by omega) (ch.row.ext (e0.trans e6)) rfl hx fun b q _ ha => ha.loadN rfl ?_
    refine newVr (by simp) rfl (Ex.one x) fun p9 g7 y7 b7 x7 => draw_ext ?_
    have a7 : At g7 p9 0 x.cells := b7.at_
    have e7 := e6.trans x7
    rw [wrap64_id (x := (j : Int) + 1) (by omega) (by omega)]
    refine row_loadS (f := bf) (r31.ext e7) (j := j + 1) (by omega) (hK (j + 1) (by omega)) (asI_of ?_)
    refine addrK_of rfl (a7.loadS1 1 rfl rfl (asS_of ?_))
    rw [needK_true (by decide), ← hln, lenB_ok (kk := x.k) hrx]
    refine alloc_new fun p53 g8 y8 b8 x8 => ?_
    have r8 : RowH g8 (some ⟨p53, 0, none⟩) 2 (([firstK ((pairs xs).drop (j + 1)) p, lenB x.d] : List Int).map bf).toArray := litB b8 rfl
    refine src_one r8 ?_
    have l8 := l6.ext (x7.trans x8)
    have z78 := (x7.trans x8).size
    refine Lst.appends (f := bf) l8 _ rfl rfl bf_one (by omega) (by omega) (by omega) fun A9 c9 g9 l9 m9 d9 => ?_
    have e9 := (e7.trans x8).then m9 (fun i hi => l8.2.base_le hi)
    have a9 : At g9 p9 0 x.cells := (a7.ext x8).mod m9 (fun hi => l8.2.ne_blk (b7.ext x8) (by decide) _ hi rfl)
    refine addrK_of rfl (a9.load1 1 rfl rfl (asS_of ?_))
    refine src_one (ox.row.ext (e0.trans e9)) ?_
    have z9 := e9.size
    refine Lst.appends (f := bf) l9 x.d hln rfl bf_one (by omega) (by omega) (by omega) fun A10 c10 g10 l10 m10 d10 => ?_
    refine ⟨⟨j + 1, _, rfl, by omega, by omega, e9.then m10 (fun i hi => l9.2.base_le hi), l10, ?_⟩, ?_⟩
    · rw [← hbs, hdrop]
      simp [putL, Ex.pair]
    · dsimp only
      omega
  · have hjn : j = n5 := by omega
    subst hjn
    rw [List.drop_of_length_le (by omega)] at hbs
    simp only [putL, List.append_nil] at hbs
    rw [hbs] at l6
    refine draw_ext (row_loadS (f := bf) (r31.ext e6) (j := 0) rfl (hK 0 (by omega)) (asI_of ?_))
    rw [List.drop_zero]
    exact hk hR A2 n2 c2 g6 (e0.trans e6) (Lst.weaken l6 z0)
end
end Go.Proofs.Ythfjpnabalkjkaa
