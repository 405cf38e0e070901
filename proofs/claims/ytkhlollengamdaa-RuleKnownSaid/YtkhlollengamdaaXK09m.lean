/- What is proved: contracts of functions that the law calls, and of the law itself, over any heap. Conditions stand in each theorem. -/
import Derived.Test.YtkhlollengamdaaXK09l
import Derived.Test.YtkhlollengamdaaXOctQ
set_option linter.unusedSimpArgs false
set_option linter.unusedVariables false
namespace Go.Proofs.Ytkhlollengamdaa
open Go.Oct Go.Oct.L09
section
variable {h : H} {k : Value → H → Prop}
/-- docs.Addr -/
theorem c65 {a : Ad} (o : a.ok) (hk : ∀ h', Go.Oct.Ext h h' → k (.agg a.cells.toArray) h') : callK Try.prog 65 #[.agg a.cells.toArray] h k := by
  refine call65 _ _ _ ?_
  unfold d65
  refine alloc_new fun p1 g1 y1 b1 x1 => alloc_new fun p2 g2 y2 b2 x2 => ?_
  have a1 := (b1.ext x2).at_
  have hl := o.len
  refine addrK_of rfl ((At.asix a1).load1 0 rfl rfl (asB_of ?_))
  refine addrK_of rfl ((At.aby a1 rfl).loadN (by rw [List.length_map]; exact hl) ?_)
  refine fill_all [.bool a.six, .agg (a.b.map bf).toArray] (cs := a.cells) ⟨rfl, by simp [Value.cells, hl, placeL], trivial⟩ (by simp [Value.cells, Ad.cells]) (by rw [Ad.len17 o]; rfl) ?_
  refine store_all b2 (by simpa using Ad.len17 o) rfl (Ad.one _) fun g3 k3 m3 => ?_
  have z1 := x1.size
  exact k3.at_.loadN (Ad.len17 o) (hk g3 ((x1.trans x2).then m3 (by rintro i rfl; omega)))
/-- docs.Prefix -/
theorem c67 {p : Pf} (o : p.ok) (hk : ∀ h', Go.Oct.Ext h h' → k (.agg p.cells.toArray) h') : callK Try.prog 67 #[.agg p.cells.toArray] h k := by
  refine call67 _ _ _ ?_
  unfold d67
  refine alloc_new fun p1 g1 y1 b1 x1 => alloc_new fun p2 g2 y2 b2 x2 => draw_ext ?_
  have a1 := (b1.ext x2).at_
  refine addrK_of rfl ((At.pa a1 rfl).loadSN (Ad.len17 o.a) ?_)
  refine addrK_of rfl ((At.pn o a1 rfl).loadS1 0 rfl rfl (asI_of ?_))
  refine c65 o.a fun g3 x3 => asA_of (by simpa using Ad.len17 o.a) ⟨x3, ?_⟩
  refine pf_fill o rfl ?_
  refine store_all (b2.ext x3) (by simpa using Pf.len18 o) rfl (Pf.one _) fun g4 k4 m4 => ?_
  have z1 := x1.size
  exact k4.at_.loadN (Pf.len18 o) (hk g4 ((x1.trans (x2.trans x3)).then m4 (by rintro i rfl; omega)))
/-- docs.Key -/
theorem c35 {y : Ky} (o : y.ok) (hk : ∀ h', Go.Oct.Ext h h' → k (.agg y.cells.toArray) h') : callK Try.prog 35 #[.agg y.cells.toArray] h k := by
  refine call35 _ _ _ ?_
  unfold d35
  refine alloc_new fun p1 g1 y1 b1 x1 => alloc_new fun p2 g2 y2 b2 x2 => draw_ext ?_
  have a1 := (b1.ext x2).at_
  have a2 := At.ktl o a1 rfl
  have l1 := Ad.len17 o.src
  have l2 := Ad.len17 o.dst
  refine addrK_of rfl ((At.ksrc a1 rfl).loadSN l1 ?_)
  refine addrK_of rfl ((At.kdst o a1 rfl).loadSN l2 ?_)
  refine addrK_of rfl (a2.loadS1 0 rfl rfl (asI_of ?_))
  refine addrK_of rfl (a2.loadS1 1 rfl rfl (asI_of ?_))
  refine addrK_of rfl (a2.loadS1 2 rfl rfl (asI_of ?_))
  refine c65 o.src fun g3 x3 => asA_of (by simpa using l1) ⟨x3, ?_⟩
  refine c65 o.dst fun g4 x4 => asA_of (by simpa using l2) ⟨x3.trans x4, ?_⟩
  refine fill_all [.agg y.src.cells.toArray, .agg y.dst.cells.toArray, .int .u8 y.pro, .int .u16 y.sp, .int .u16 y.dp] (cs := y.cells) ⟨by simp [Value.cells, l1, placeL], by simp [Value.cells, l1, l2, placeL], by simp [Value.cells, l1, l2, placeL], by simp [Value.cells, l1, l2, placeL], by simp [Value.cells, l1, l2, placeL], trivial⟩ (by simp [Value.cells, Ky.cells]) (by rw [Ky.len37 o]; rfl) ?_
  refine store_all (b2.ext (x3.trans x4)) (by simpa using Ky.len37 o) rfl (Ky.one _) fun g5 k5 m5 => ?_
  have z1 := x1.size
  exact k5.at_.loadN (Ky.len37 o) (hk g5 ((x1.trans (x2.trans (x3.trans x4))).then m5 (by rintro i rfl; omega)))
/-- docs.Rule -/
theorem c40 {r : Ru} (o : r.ok) (hk : ∀ h', Go.Oct.Ext h h' → k (.agg r.cells.toArray) h') : callK Try.prog 40 #[.agg r.cells.toArray] h k := by
  refine call40 _ _ _ ?_
  unfold d40
  refine alloc_new fun p1 g1 y1 b1 x1 => alloc_new fun p2 g2 y2 b2 x2 => draw_ext ?_
  have a1 := (b1.ext x2).at_
  have ah := At.rhd a1
  have at_ := At.rtl o a1 rfl
  have l1 := Pf.len18 o.src
  have l2 := Pf.len18 o.dst
  refine addrK_of rfl (ah.loadS1 0 rfl rfl (asI_of ?_))
  refine addrK_of rfl (ah.loadS1 1 rfl rfl (asI_of ?_))
  refine addrK_of rfl ((At.rsrc a1 rfl).loadSN l1 ?_)
  refine addrK_of rfl ((At.rdst o a1 rfl).loadSN l2 ?_)
  refine addrK_of rfl (addrK_of rfl (at_.loadS1 0 rfl rfl (asI_of ?_)))
  refine addrK_of rfl (addrK_of rfl (at_.loadS1 1 rfl rfl (asI_of ?_)))
  refine addrK_of rfl (addrK_of rfl (at_.loadS1 2 rfl rfl (asI_of ?_)))
  refine addrK_of rfl (addrK_of rfl (at_.loadS1 3 rfl rfl (asI_of ?_)))
  refine addrK_of rfl (at_.loadS1 4 rfl rfl (asB_of ?_))
  refine addrK_of rfl (at_.loadS1 5 rfl rfl (asI_of ?_))
  refine c67 o.src fun g3 x3 => asA_of (by simpa using l1) ⟨x3, ?_⟩
  refine c67 o.dst fun g4 x4 => asA_of (by simpa using l2) ⟨x3.trans x4, ?_⟩
  refine fill_all [.int .i64 r.ver, .int .i64 r.pro, .agg r.src.cells.toArray, .agg r.dst.cells.toArray, .int .u16 r.slo, .int .u16 r.shi, .int .u16 r.dlo, .int .u16 r.dhi, .bool r.deny, .int .i64 r.cls] (cs := r.cells) ?_ (by simp [Value.cells, Ru.cells, Ru.tl]) (by rw [Ru.len44 o]; rfl) ?_
  · refine ⟨?_, ?_, ?_, ?_, ?_, ?_, ?_, ?_, ?_, ?_, trivial⟩ <;> simp [Value.cells, l1, l2, placeL]
  refine store_all (b2.ext (x3.trans x4)) (by simpa using Ru.len44 o) rfl (Ru.one _) fun g5 k5 m5 => ?_
  have z1 := x1.size
  exact k5.at_.loadN (Ru.len44 o) (hk g5 ((x1.trans (x2.trans (x3.trans x4))).then m5 (by rintro i rfl; omega)))
/-! ### the reference's addresses -/
theorem c80 (b : Bool) (hk : k (.int .i64 (if b then 16 else 4)) h) : callK Try.prog 80 #[.bool b] h k := by
  refine call80 _ _ _ ?_
  unfold d80
  cases b
  · exact hk
  · exact hk
theorem right_iff {a : Ad} (o : a.ok) : a.right = true ↔ (a.six = true ∨ ∀ i x, 4 ≤ i → a.b[i]? = some x → x = 0) := by
  unfold Ad.right Ad.size
  rw [decide_eq_true_eq]
  have hl := o.len
  cases hs : a.six with
  | true =>
    simp only [if_true, Nat.sub_self, List.replicate_zero, List.append_nil, true_or, iff_true]
    rw [List.take_of_length_le (by omega)]
  | false =>
    simp only [Bool.false_eq_true, if_false, false_or]
    constructor
    · intro e i x hi hx
      rw [e, List.getElem?_append_right (by rw [List.length_take]; omega), List.getElem?_replicate] at hx
      split at hx
      · cases hx; rfl
      · cases hx
    · intro hz
      apply List.ext_getElem?
      intro i
      by_cases h4 : i < 4
      · rw [List.getElem?_append_left (by rw [List.length_take]; omega), List.getElem?_take, if_pos h4]
      · rw [List.getElem?_append_right (by rw [List.length_take]; omega), List.length_take, List.getElem?_replicate]
        by_cases h16 : i < 16
        · rw [if_pos (by omega), List.getElem?_eq_getElem (by omega)]
          rw [hz i _ (by omega) (List.getElem?_eq_getElem (by omega))]
        · rw [if_neg (by omega), List.getElem?_eq_none (by omega)]
/-- right, of the reference -/
theorem c77 {a : Ad} (o : a.ok) (hk : ∀ h', Go.Oct.Ext h h' → k (.bool a.right) h') : callK Try.prog 77 #[.agg a.cells.toArray] h k := by
  refine call77 _ _ _ ?_
  unfold d77
  have hl := o.len
  refine alloc_new fun p1 g1 y1 b1 x1 => ?_
  refine ⟨fun b x3 g => g = g1 ∧ ∃ j : Nat, x3 = j ∧ 4 ≤ j ∧ j ≤ 16 ∧ (a.six = false → ∀ i x, 4 ≤ i → i < j → a.b[i]? = some x → x = 0), fun b x3 g => (16 - x3).toNat, ⟨rfl, 4, rfl, by omega, by omega, fun _ i x h1 h2 => by omega⟩, ?_⟩
  rintro b x3 g ⟨rfl, j, rfl, hj4, hj, hall⟩
  refine ifB_dec (fun hlt => ?_) (fun hge => ?_)
  · obtain ⟨v, hv⟩ : ∃ v, a.b[j]? = some v := ⟨_, List.getElem?_eq_getElem (by omega)⟩
    refine ⟨fun b g' => g' = g ∧ (b = true → a.six = false ∧ v ≠ 0) ∧ (b = false → a.six = false → v = 0), ?_, ?_⟩
    · refine addrK_of rfl ((At.asix b1.at_).load1 0 rfl rfl (asB_of ?_))
      refine ifB_of (fun h1 => ?_) (fun h1 => ⟨rfl, fun h => absurd h (by decide), fun _ h2 => by rw [h2] at h1; exact absurd h1 (by decide)⟩)
      have h6 : a.six = false := by simpa using h1
      refine addrK_of rfl ?_
      rw [indexK_some]
      refine ⟨by omega, by omega, ?_⟩
      have eq1 : 0 + 1 + Int.toNat (j : Int) * 1 = 1 + j := by rw [Int.toNat_natCast]; omega
      rw [eq1]
      refine (At.aby b1.at_ rfl).load1 j rfl (by rw [List.getElem?_map, hv]; rfl) (asI_of ⟨rfl, fun h => ⟨h6, by simpa using h⟩, fun h _ => by simpa using h⟩)
    rintro b g' ⟨rfl, ht, hf⟩
    refine ifB_of (fun h1 => ?_) (fun h1 => ?_)
    · obtain ⟨h6, hv0⟩ := ht h1
      have : a.right = false := by
        cases hr : a.right with
        | false => rfl
        | true =>
          rcases (right_iff o).1 hr with h | h
          · rw [h6] at h; cases h
          · exact absurd (h j v hj4 hv) hv0
      rw [this] at hk
      exact hk g' x1
    · refine ⟨⟨rfl, j + 1, wrap64_id (by omega) (by omega), by omega, by omega, fun h6 i x h4 hi hx => ?_⟩, ?_⟩
      · rcases Nat.lt_or_ge i j with h3 | h3
        · exact hall h6 i x h4 h3 hx
        · have : i = j := by omega
          subst this
          rw [hv] at hx
          cases hx
          exact hf h1 h6
      · rw [wrap64_id (by omega) (by omega)]; dsimp only; omega
  · have : a.right = true := by
      rw [right_iff o]
      cases h6 : a.six with
      | true => exact .inl rfl
      | false => exact .inr fun i x h4 hx => hall h6 i x h4 (by have := (List.getElem?_eq_some_iff.1 hx).1; omega) hx
    rw [this] at hk
    exact hk g x1
end
end Go.Proofs.Ytkhlollengamdaa
