/- What is proved: contracts of functions that the law calls, and of the law itself, over any heap. Conditions stand in each theorem. -/
import Derived.Test.YtkhlollengamdaaXK09d
set_option linter.unusedSimpArgs false
set_option linter.unusedVariables false
namespace Go.Proofs.Ytkhlollengamdaa
open Go.Oct Go.Oct.L09
def quad (a b c d : Int) : Ad := ⟨false, [a, b, c, d, 0, 0, 0, 0, 0, 0, 0, 0, 0, 0, 0, 0]⟩
theorem quad_ok {a b c d : Int} (ha : isB a) (hb : isB b) (hc : isB c) (hd : isB d) : (quad a b c d).ok := by
  refine ⟨rfl, fun x hx => ?_⟩
  simp only [quad, List.mem_cons, List.not_mem_nil, or_false] at hx
  have z : isB 0 := by decide
  rcases hx with rfl | rfl | rfl | rfl | rfl | rfl | rfl | rfl | rfl | rfl | rfl | rfl | rfl | rfl | rfl | rfl <;> assumption
def idxI {α : Type} (xs : List α) (pr : α → Bool) : Int := match xs.findIdx? pr with
  | some j => j
  | none => -1
theorem idxI_none {α : Type} {xs : List α} {pr : α → Bool} (h : ∀ x ∈ xs, pr x = false) : idxI xs pr = -1 := by
  unfold idxI
  rw [List.findIdx?_eq_none_iff.2 h]
theorem idxI_some {α : Type} {xs : List α} {pr : α → Bool} {j : Nat} {x : α} (hx : xs[j]? = some x) (hp : pr x = true) (h : ∀ (i : Nat) (y : α), i < j → xs[i]? = some y → pr y = false) : idxI xs pr = j := by
  unfold idxI
  have hj := (List.getElem?_eq_some_iff.1 hx).1
  have : xs.findIdx? pr = some j := by
    rw [List.findIdx?_eq_some_iff_getElem]
    refine ⟨hj, ?_, fun i hi => ?_⟩
    · have e : xs[j] = x := (List.getElem?_eq_some_iff.1 hx).2
      rw [e]; exact hp
    · have := h i xs[i] hi (List.getElem?_eq_getElem (by omega))
      rw [this]; decide
  rw [this]
theorem idxI_nn {α : Type} {xs : List α} {pr : α → Bool} : decide (idxI xs pr ≥ 0) = xs.any pr := by
  unfold idxI
  cases h : xs.findIdx? pr with
  | none =>
    rw [List.findIdx?_eq_none_iff] at h
    rw [show xs.any pr = false from List.any_eq_false.2 (fun x hx => by simp [h x hx])]
    rfl
  | some j =>
    rw [List.findIdx?_eq_some_iff_getElem] at h
    obtain ⟨hj, hp, _⟩ := h
    rw [show xs.any pr = true from List.any_eq_true.2 ⟨_, List.getElem_mem hj, hp⟩]
    exact decide_eq_true (show (j : Int) ≥ 0 by omega)
section
variable {h : H} {k : Value → H → Prop}
/-- four -/
theorem c16 (a b c d : Int) (hk : ∀ h', Go.Oct.Ext h h' → k (.agg (quad a b c d).cells.toArray) h') : callK Try.prog 16 #[.int .u8 a, .int .u8 b, .int .u8 c, .int .u8 d] h k := by
  refine call16 _ _ _ _ _ _ ?_
  unfold d16
  refine alloc_new fun p8 g1 y8 b8 x1 => newVr rfl rfl (by simp [OneCells, Value.oneCell']) fun p9 g2 y9 b9 x2 => ?_
  have o1 : ∀ x, OneCells (Array.toList (Value.cells (.int .u8 x))) := fun x => by simp [OneCells, Value.cells, Value.oneCell']
  refine addrK_of rfl ?_
  rw [indexK_some]
  refine ⟨by decide, by decide, store_blk b9 rfl (by decide) (o1 _) fun g3 b9 m3 => ?_⟩
  refine addrK_of rfl ?_
  rw [indexK_some]
  refine ⟨by decide, by decide, store_blk b9 rfl (by rw [over_size]; decide) (o1 _) fun g4 b9 m4 => ?_⟩
  refine addrK_of rfl ?_
  rw [indexK_some]
  refine ⟨by decide, by decide, store_blk b9 rfl (by simp only [over_size]; decide) (o1 _) fun g5 b9 m5 => ?_⟩
  refine addrK_of rfl ?_
  rw [indexK_some]
  refine ⟨by decide, by decide, store_blk b9 rfl (by simp only [over_size]; decide) (o1 _) fun g6 b9 m6 => ?_⟩
  have b9 : Blk g6 p9 (quad a b c d).cells.toArray 25 := b9
  refine b9.at_.loadN rfl ?_
  have hne : p8 ≠ p9 := by have := b8.lt; omega
  have b8 : Blk g6 p8 _ 25 := ((((b8.ext x2).mod m3 hne).mod m4 hne).mod m5 hne).mod m6 hne
  refine store_all b8 rfl rfl (Ad.one _) fun g7 b8 m7 => ?_
  refine b8.at_.loadN rfl (hk g7 ?_)
  have hx := x1.size
  have f9 : ∀ i, i = p9 → g1.size ≤ i := by rintro i rfl; exact y9
  have e6 := x1.trans ((((x2.then m3 f9).then m4 f9).then m5 f9).then m6 f9)
  exact e6.then m7 (by rintro i rfl; exact y8)
/-- Any -/
theorem c10 (hk : ∀ h', Go.Oct.Ext h h' → k (.agg (anyR false 0).cells.toArray) h') : callK Try.prog 10 #[] h k := by
  refine call10 _ _ ?_
  unfold d10
  refine alloc_new fun p0 g1 y0 b0 x1 => ?_
  refine c27 fun g2 x2 => asA_of rfl (c27 fun g3 x3 => asA_of rfl ?_)
  refine ⟨(anyR false 0).cells.toArray, by rfl, ?_⟩
  refine store_all (b0.ext (x2.trans x3)) rfl rfl (Ru.one _) fun g4 k4 m4 => ?_
  exact k4.at_.loadN rfl (hk g4 ((x1.trans (x2.trans x3)).then m4 (by rintro i rfl; exact y0)))
def verok (r : Ru) : Bool := decide (r.ver = 0) || (decide (r.ver = 4) || decide (r.ver = 6))
def clsok (r : Ru) : Bool := decide (0 ≤ r.cls) && (decide (r.cls < 8) && (!r.deny || decide (r.cls = 0)))
theorem right_eq (r : Ru) : r.right = ((verok r && (decide (-1 ≤ r.pro) && decide (r.pro ≤ 255))) && ((r.pok r.src && r.pok r.dst) && ((decide (r.slo ≤ r.shi) && decide (r.dlo ≤ r.dhi)) && clsok r))) := by
  unfold Ru.right verok clsok
  simp only [Bool.and_assoc]
set_option maxHeartbeats 1000000 in
/-- Right -/
theorem c20 {r : Ru} (o : r.ok) (hk : ∀ h', Go.Oct.Ext h h' → k (.bool r.right) h') : callK Try.prog 20 #[.agg r.cells.toArray] h k := by
  refine call20 _ _ _ ?_
  unfold d20
  refine alloc_new fun p1 g1 y1 b1 x1 => ?_
  have a1 := At.rhd b1.at_
  have l18s := Pf.len18 o.src
  have l18d := Pf.len18 o.dst
  rw [right_eq] at hk
  refine ⟨fun b g => g = g1 ∧ b = !(verok r && (decide (-1 ≤ r.pro) && decide (r.pro ≤ 255))), ?_, ?_⟩
  · have hp : verok r = true → addrK (some ⟨p1, 0, none⟩) 1 (fun p20 => load1 p20 g1 (fun v21 => asI .i64 v21 (fun x21 => ifB (decide (x21 < (-1))) (g1 = g1 ∧ true = !(verok r && (decide (-1 ≤ r.pro) && decide (r.pro ≤ 255)))) (addrK (some ⟨p1, 0, none⟩) 1 (fun p25 => load1 p25 g1 (fun v26 => asI .i64 v26 (fun x26 => g1 = g1 ∧ decide (x26 > 255) = !(verok r && (decide (-1 ≤ r.pro) && decide (r.pro ≤ 255))))))))) ) := by
      intro hv
      rw [hv]
      refine addrK_of rfl (a1.load1 1 rfl rfl (asI_of ?_))
      refine ifB_dec (fun h1 => ⟨rfl, ?_⟩) (fun h1 => ?_)
      · rw [decide_eq_false (by omega : ¬ -1 ≤ r.pro)]; rfl
      · rw [decide_eq_true (by omega : -1 ≤ r.pro)]
        refine addrK_of rfl (a1.load1 1 rfl rfl (asI_of ⟨rfl, ?_⟩))
        by_cases h2 : r.pro ≤ 255
        · rw [decide_eq_true h2, decide_eq_false (by omega)]; rfl
        · rw [decide_eq_false h2, decide_eq_true (by omega)]; rfl
    refine addrK_of rfl (a1.load1 0 rfl rfl (asI_of ?_))
    refine ifB_ne (fun h1 => ?_) (fun h1 => hp (by simp [verok, h1]))
    refine addrK_of rfl (a1.load1 0 rfl rfl (asI_of ?_))
    refine ifB_ne (fun h2 => ?_) (fun h2 => hp (by simp [verok, h2]))
    refine addrK_of rfl (a1.load1 0 rfl rfl (asI_of ?_))
    refine ifB_ne (fun h3 => ⟨rfl, by simp [verok, h1, h2, h3]⟩) (fun h3 => hp (by simp [verok, h3]))
  rintro b28 g ⟨rfl, rfl⟩
  generalize hA : (verok r && (decide (-1 ≤ r.pro) && decide (r.pro ≤ 255))) = A at *
  refine ifB_of (fun h1 => ?_) (fun h1 => ?_)
  · have : A = false := by simpa using h1
    rw [this, Bool.false_and] at hk
    exact hk g x1
  have hAt : A = true := by simpa using h1
  rw [hAt, Bool.true_and] at hk
  refine addrK_of rfl ((At.rsrc b1.at_ rfl).loadN l18s ?_)
  refine addrK_of rfl ((At.rdst o b1.at_ rfl).loadN l18d ?_)
  refine ⟨(cellsOf Pf.cells [r.src, r.dst]), ?_, ?_⟩
  · rw [fill_cons (off := 0) (size := 18) rfl (by simp [Value.cells, l18s]) (by decide), fill_cons (off := 18) (size := 18) rfl (by simp [Value.cells, l18d]) (by rw [over_size]; decide), fill_nil]
    congr 1
    apply Array.ext'
    have e1 : ∀ z : Array Value, z.size = 36 → (over z 0 (Value.agg r.src.cells.toArray).cells.toList).toList = r.src.cells ++ z.toList.drop 18 := by
      intro z hz
      rw [over_list _ _ _ (by simp [Value.cells, l18s]; omega)]
      simp [Value.cells, l18s]
    rw [over_list _ _ _ (by simp [Value.cells, over_size, l18d]), e1 _ (by rfl)]
    simp [Value.cells, cellsOf, l18s, l18d]
  refine alloc_new fun p33 g2 y33 b33 x2 => ?_
  have x12 := x1.trans x2
  have ps_ok : ∀ p ∈ [r.src, r.dst], p.ok := by
    intro p hp
    simp only [List.mem_cons, List.not_mem_nil, or_false] at hp
    rcases hp with rfl | rfl
    · exact o.src
    · exact o.dst
  have a33 : ∀ (j : Nat) (p : Pf), [r.src, r.dst][j]? = some p → At g2 p33 (j * 18) p.cells := by
    intro j p hp
    match j with
    | 0 =>
      simp at hp; subst hp
      exact At.mid (pre := []) (mid := r.src.cells) (post := r.dst.cells) b33.at_ (by simp [cellsOf]) rfl
    | 1 =>
      simp at hp; subst hp
      exact At.mid (pre := r.src.cells) (mid := r.dst.cells) (post := []) b33.at_ (by simp [cellsOf]) (by rw [l18s])
    | j + 2 => simp at hp
  generalize hps : [r.src, r.dst] = ps at *
  have hpl : ps.length = 2 := by rw [← hps]; rfl
  have hal : (r.pok r.src && r.pok r.dst) = ps.all r.pok := by rw [← hps]; simp
  rw [hal] at hk
  refine ⟨fun b x35 g => ∃ j : Nat, x35 = j ∧ j ≤ 2 ∧ Go.Oct.Ext g2 g ∧ ∀ (i : Nat) (p : Pf), i < j → ps[i]? = some p → r.pok p = true, fun b x35 g => (2 - x35).toNat, ⟨0, rfl, by omega, Go.Oct.Ext.refl _, fun i p hi => by omega⟩, ?_⟩
  rintro b2 x35 g3 ⟨j, rfl, hj, x3, hall⟩
  refine ifB_dec (fun hlt => ?_) (fun hge => ?_)
  · obtain ⟨p, hp⟩ : ∃ p, ps[j]? = some p := ⟨_, List.getElem?_eq_getElem (by omega)⟩
    have op := ps_ok p (List.mem_of_getElem? hp)
    have ap := (a33 j p hp).ext x3
    rw [indexK_some]
    refine ⟨by omega, by omega, ?_⟩
    rw [Int.toNat_natCast, Nat.zero_add]
    refine ap.loadN (Pf.len18 op) ?_
    refine newVr rfl (by simpa using Pf.len18 op) (Pf.one _) fun p4 g4 y4 b4 x4 => ?_
    have x34 := x3.trans x4
    refine ⟨fun b g => Go.Oct.Ext g4 g ∧ b = !r.pok p, draw_ext ?_, ?_⟩
    · unfold Ru.pok
      refine b4.at_.loadSN (Pf.len18 op) ?_
      refine c43 op fun g5 x5 => asB_of ⟨x5, ?_⟩
      refine ifB_of (fun h2 => ⟨x5, ?_⟩) (fun h2 => ?_)
      · have : p.right = false := by simpa using h2
        rw [this]; rfl
      have hpr : p.right = true := by simpa using h2
      rw [hpr, Bool.true_and]
      refine b4.at_.loadSN (Pf.len18 op) ?_
      refine c44 op fun g6 x6 => asB_of ⟨x5.trans x6, ?_⟩
      refine ifB_of (fun h3 => ?_) (fun h3 => ⟨x5.trans x6, ?_⟩)
      · have hpn : p.none = false := by simpa using h3
        rw [hpn, Bool.false_or]
        have a1' := (a1.ext (x2.trans x34))
        refine addrK_of rfl (a1'.loadS1 0 rfl rfl (asI_of ?_))
        refine ifB_ne (fun h4 => ?_) (fun h4 => ⟨x5.trans x6, by simp [h4]⟩)
        refine addrK_of rfl (a1'.loadS1 0 rfl rfl (asI_of ?_))
        refine b4.at_.loadSN (Pf.len18 op) ?_
        refine c45 fun g7 x7 => asI_of ⟨x5.trans (x6.trans x7), x5.trans (x6.trans x7), ?_⟩
        rw [decide_eq_false h4, Bool.false_or]
        by_cases h5 : r.ver = p.ver <;> simp [h5]
      · have hpn : p.none = true := by simpa using h3
        rw [hpn]; rfl
    rintro b58 g5 ⟨x5, rfl⟩
    refine ifB_of (fun h2 => ?_) (fun h2 => ?_)
    · have hf : r.pok p = false := by simpa using h2
      have : ps.all r.pok = false := List.all_eq_false.2 ⟨p, List.mem_of_getElem? hp, by rw [hf]; decide⟩
      rw [this, Bool.false_and] at hk
      exact hk g5 (x12.trans (x34.trans x5))
    · have hf : r.pok p = true := by simpa using h2
      refine ⟨⟨j + 1, wrap64_id (by omega) (by omega), by omega, x34.trans x5, fun i q hi hq => ?_⟩, ?_⟩
      · rcases Nat.lt_or_ge i j with h3 | h3
        · exact hall i q h3 hq
        · have : i = j := by omega
          subst this
          rw [hp] at hq
          cases hq
          exact hf
      · rw [wrap64_id (by omega) (by omega)]; dsimp only; omega
  · have hall2 : ps.all r.pok = true := by
      rw [List.all_eq_true]
      intro q hq
      obtain ⟨i, hi, rfl⟩ := List.getElem_of_mem hq
      exact hall i _ (by omega) (List.getElem?_eq_getElem hi)
    rw [hall2, Bool.true_and] at hk
    have x23 := x2.trans x3
    have x13 := x1.trans x23
    have asp := At.rsp o (b1.ext x23).at_ rfl
    have adp := At.rdp o (b1.ext x23).at_ rfl
    have atl := At.rtl o (b1.ext x23).at_ rfl
    refine ⟨fun b g => g = g3 ∧ b = (decide (r.slo ≤ r.shi) && decide (r.dlo ≤ r.dhi)), ?_, ?_⟩
    · refine addrK_of rfl (addrK_of rfl (asp.load1 0 rfl rfl (asI_of ?_)))
      refine addrK_of rfl (addrK_of rfl (asp.load1 1 rfl rfl (asI_of ?_)))
      refine ifB_dec (fun h2 => ?_) (fun h2 => ⟨rfl, by rw [decide_eq_false h2]; rfl⟩)
      refine addrK_of rfl (addrK_of rfl (adp.load1 0 rfl rfl (asI_of ?_)))
      refine addrK_of rfl (addrK_of rfl (adp.load1 1 rfl rfl (asI_of ⟨rfl, ?_⟩)))
      rw [decide_eq_true h2, Bool.true_and]
    rintro b5 g4 ⟨rfl, rfl⟩
    generalize (decide (r.slo ≤ r.shi) && decide (r.dlo ≤ r.dhi)) = B at *
    refine ifB_of (fun h2 => ?_) (fun h2 => ?_)
    · rw [h2, Bool.true_and] at hk
      unfold clsok at hk
      refine addrK_of rfl (atl.load1 5 rfl rfl (asI_of ?_))
      refine ifB_dec (fun h3 => ?_) (fun h3 => ?_)
      · rw [decide_eq_true h3, Bool.true_and] at hk
        refine addrK_of rfl (atl.load1 5 rfl rfl (asI_of ?_))
        refine ifB_dec (fun h4 => ?_) (fun h4 => ?_)
        · rw [decide_eq_true h4, Bool.true_and] at hk
          refine addrK_of rfl (atl.load1 4 rfl rfl (asB_of ?_))
          refine ifB_of (fun h5 => ?_) (fun h5 => ?_)
          · rw [h5, Bool.true_or] at hk
            exact hk g4 x13
          · rw [h5, Bool.false_or] at hk
            refine addrK_of rfl (atl.load1 5 rfl rfl (asI_of ?_))
            rw [beq_dec]
            exact hk g4 x13
        · rw [decide_eq_false h4, Bool.false_and] at hk
          exact hk g4 x13
      · rw [decide_eq_false h3, Bool.false_and] at hk
        exact hk g4 x13
    · rw [h2, Bool.false_and] at hk
      exact hk g4 x13
end
end Go.Proofs.Ytkhlollengamdaa
