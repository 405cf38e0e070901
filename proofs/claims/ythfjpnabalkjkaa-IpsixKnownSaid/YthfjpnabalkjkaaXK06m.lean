/- What is proved: contracts of functions that the law calls, and of the law itself, over any heap. Conditions stand in each theorem. -/
import Derived.Test.YthfjpnabalkjkaaXK06l
set_option linter.unusedSimpArgs false
set_option linter.unusedVariables false
namespace Go.Proofs.Ythfjpnabalkjkaa
open Go.Oct Go.Oct.L01 Go.Oct.L06
section
variable {h : H} {k : Value → H → Prop} {L : Option Addr} {n q : Nat} {ys : List L06.Ext} {p : Int}
theorem firstK_drop {ys : List L06.Ext} {p : Int} {j : Nat} {y : L06.Ext} (hy : ys[j]? = some y) : firstK (ys.drop j) p = y.1 ∧ putL (ys.drop j) p = firstK (ys.drop (j + 1)) p :: lenB y.2 :: (y.2 ++ putL (ys.drop (j + 1)) p) := by
  have hj := (List.getElem?_eq_some_iff.1 hy).1
  rw [List.drop_eq_getElem_cons hj, (List.getElem?_eq_some_iff.1 hy).2]
  exact ⟨rfl, rfl⟩
theorem putL_drop_len : ∀ (ys : List L06.Ext) (p : Int) (j : Nat), (putL (ys.drop j) p).length ≤ (putL ys p).length
  | ys, p, 0 => by simp
  | [], p, j + 1 => by simp
  | y :: r, p, j + 1 => by
    have := putL_drop_len r p j
    simp only [List.drop_succ_cons, putL, List.length_cons, List.length_append]
    omega
/-- the reference's PutChain -/
theorem c19 (r : RC h L n ys p) (hno : ¬ RightC ys p → ∀ h', Go.Oct.Ext h h' → k (.tuple #[.slice none 0 0, .int .u8 0, .int .i64 60]) h')
    (hk : RightC ys p → ∀ A' n' c' h', Go.Oct.Ext h h' → Byt h' h.size A' n' c' (putL ys p) → k (.tuple #[.slice A' n' c', .int .u8 (firstK ys p), .int .i64 0]) h') : callK Try.prog 19 #[.agg (chv L n q p)] h k := by
  refine call19 _ _ _ ?_
  unfold d19
  refine alloc_new fun p1 g1 y1 b1 x1 => ?_
  have a1 : At g1 p1 0 [.slice L n q, .int .u8 p] := b1.at_
  refine a1.loadN rfl ?_
  refine c22 (r.ext x1) fun b hb g2 x2 => asB_of ?_
  have x12 := x1.trans x2
  refine ifB_of (fun h1 => hno (fun hR => by rw [hb.2 hR] at h1; cases h1) g2 x12) (fun h1 => ?_)
  have hR : RightC ys p := hb.1 (by simpa using h1)
  have hlen := r.len
  have h16 := hR.few
  have hbound := putL_len ys p hR.all
  have a2 := a1.ext x2
  have z2 := x12.size
  refine addrK_of rfl (a2.load1 1 rfl rfl (asI_of ?_))
  refine addrK_of rfl (a2.load1 0 rfl rfl (asS_of ?_))
  rw [wrap64_id (x := (n : Int) - 1) (by omega) (by omega)]
  refine ⟨fun A5 n5 c5 x6 x7 g => ∃ j : Nat, x7 = (j : Int) - 1 ∧ j ≤ n ∧ Go.Oct.Ext g2 g ∧ x6 = firstK (ys.drop j) p ∧ Byt g g2.size A5 n5 c5 (putL (ys.drop j) p), fun A5 n5 c5 x6 x7 g => (x7 + 1).toNat, ⟨n, rfl, by omega, Go.Oct.Ext.refl _, ?_, ?_⟩, ?_⟩
  · rw [List.drop_of_length_le (by omega)]; rfl
  · rw [List.drop_of_length_le (by omega)]; exact Lst.nil
  rintro A5 n5 c5 x6 x7 g ⟨j, rfl, hj, xg, rfl, l⟩
  have ag := a2.ext xg
  have zg := xg.size
  refine ifB_dec (fun hlt => ?_) (fun hge => ?_)
  · obtain ⟨j, rfl⟩ : ∃ i, j = i + 1 := ⟨j - 1, by omega⟩
    have hx : ys[j]? = some ys[j] := List.getElem?_eq_getElem (by omega)
    have hm := List.getElem_mem (show j < ys.length by omega)
    have hrx := hR.all _ hm
    generalize ys[j] = y at *
    obtain ⟨hk1, hb2, hl⟩ := r.ok y hm
    obtain ⟨f1, f2⟩ := firstK_drop (p := p) hx
    have hdl := putL_drop_len ys p j
    rw [f2] at hdl
    simp only [List.length_cons, List.length_append] at hdl
    have hl5 : (putL (ys.drop (j + 1)) p).length = n5 := l.1
    refine addrK_of rfl (ag.load1 0 rfl rfl (asS_of ?_))
    refine rowL_index ycells_len (by omega) (r.ext (x12.trans xg)).row (j := j) (by omega) hx fun b q' _ ha => ha.loadN rfl ?_
    refine newVr (by simp) rfl (ycells_one y) fun p8 g4 y4 b4 x4 => ?_
    have a4 : At g4 p8 0 (ycells y) := b4.at_
    refine addrK_of rfl (a4.load1 1 rfl rfl (asStr_of ?_))
    rw [sv_size, needK_true (by decide), lenB_ok (kk := y.1) hrx]
    refine alloc_new fun p36 g5 y5 b5 x5 => ?_
    have z4 := x4.size
    have l36 : Byt g5 g4.size (some ⟨p36, 0, none⟩) 2 2 [firstK (ys.drop (j + 1)) p, lenB y.2] := ⟨rfl, Own.of_blk y5 b5 rfl⟩
    refine addrK_of rfl ((a4.ext x5).load1 1 rfl rfl (asStr_of ?_))
    refine bytesK_of hb2 fun A40 c40 g6 x6' r6 _ _ => ?_
    refine src_one (f := bf) r6 ?_
    have z5 := x5.size
    have z6 := x6'.size
    have lp36 := b5.lt
    refine Lst.appends (f := bf) (l36.ext x6') _ rfl rfl bf_one (by omega) (by omega) (by omega) fun A41 c41 g7 l7 m7 d7 => ?_
    have e7 : Go.Oct.Ext g4 g7 := (x5.trans x6').then m7 (fun i hi => l36.2.base_le hi)
    have z7 := e7.size
    refine src_one (Lst.row (f := bf) (l.ext (x4.trans e7))) ?_
    refine Lst.appends (f := bf) l7 _ hl5 rfl bf_one (by omega) (by omega) (by omega) fun A44 c44 g8 l8 m8 d8 => ?_
    have e8 : Go.Oct.Ext g4 g8 := e7.then m8 (fun i hi => l7.2.base_le hi)
    refine addrK_of rfl ((a4.ext e8).load1 0 rfl rfl (asI_of ?_))
    refine ⟨⟨j, ?_, by omega, xg.trans (x4.trans e8), f1.symm, ?_⟩, ?_⟩
    · rw [wrap64_id (by omega) (by omega)]; omega
    · rw [f2]
      have l9 : Byt g8 g2.size A44 _ c44 _ := Lst.weaken (base' := g2.size) l8 (by omega)
      have e : [firstK (ys.drop (j + 1)) p, lenB y.2] ++ y.2 ++ putL (ys.drop (j + 1)) p = firstK (ys.drop (j + 1)) p :: lenB y.2 :: (y.2 ++ putL (ys.drop (j + 1)) p) := by simp
      rw [e] at l9
      exact l9
    · rw [wrap64_id (by omega) (by omega)]
      dsimp only
      omega
  · have hj0 : j = 0 := by omega
    subst hj0
    rw [List.drop_zero] at l ⊢
    exact hk hR A5 n5 c5 g (x12.trans xg) (Lst.weaken l z2)
/-- the reference's Frag -/
theorem c21 (r : RC h L n ys p) (hno : (¬ RightC ys p ∨ ∀ y ∈ ys, y.1 ≠ 44) → ∀ h', Go.Oct.Ext h h' → k (.tuple #[.int .u16 0, .bool false, .int .u32 0, .bool false]) h')
    (hk : RightC ys p → ∀ (j : Nat) (y : L06.Ext), ys[j]? = some y → y.1 = 44 → (∀ (i : Nat) (z : L06.Ext), i < j → ys[i]? = some z → z.1 ≠ 44) → ∀ h', Go.Oct.Ext h h' → k (.tuple #[.int .u16 (hd y.2 / 8), .bool (decide (hd y.2 % 2 = 1)), .int .u32 (getR y.2 2 4).1, .bool true]) h') : callK Try.prog 21 #[.agg (chv L n q p)] h k := by
  refine call21 _ _ _ ?_
  unfold d21
  refine alloc_new fun p1 g1 y1 b1 x1 => ?_
  have a1 : At g1 p1 0 [.slice L n q, .int .u8 p] := b1.at_
  have hlen := r.len
  have hsm := r.small
  refine ⟨fun x2 b3 x4 b5 x6 g => ∃ j : Nat, x6 = j ∧ j ≤ n ∧ Go.Oct.Ext g1 g ∧ ∀ (i : Nat) (z : L06.Ext), i < j → ys[i]? = some z → z.1 ≠ 44, fun x2 b3 x4 b5 x6 g => (n - x6).toNat, ⟨0, rfl, by omega, Go.Oct.Ext.refl _, fun i z hi => by omega⟩, ?_⟩
  rintro x2 b3 x4 b5 x6 g ⟨j, rfl, hj, xg, hall⟩
  have ag := a1.ext xg
  refine ⟨fun b g' => Go.Oct.Ext g g' ∧ (b = true ↔ j < n ∧ RightC ys p), ?_, ?_⟩
  · refine addrK_of rfl (ag.load1 0 rfl rfl (asS_of ?_))
    refine ifB_dec (fun hlt => ?_) (fun hge => ⟨Go.Oct.Ext.refl _, ⟨fun h => absurd h (by decide), fun h => absurd h.1 (by omega)⟩⟩)
    refine ag.loadN rfl (c22 (r.ext (x1.trans xg)) fun b hb g' x' => asB_of ⟨x', ?_⟩)
    rw [hb]
    exact ⟨fun h => ⟨by omega, h⟩, fun h => h.2⟩
  rintro b g' ⟨x', hb⟩
  have ag' := ag.ext x'
  have x0' := x1.trans (xg.trans x')
  refine ifB_of (fun h1 => ?_) (fun h1 => ?_)
  · obtain ⟨hlt, hR⟩ := hb.1 h1
    have hx : ys[j]? = some ys[j] := List.getElem?_eq_getElem (by omega)
    have hm := List.getElem_mem (show j < ys.length by omega)
    generalize ys[j] = y at *
    obtain ⟨hk1, hby, hl⟩ := r.ok y hm
    refine addrK_of rfl (ag'.load1 0 rfl rfl (asS_of ?_))
    refine rowL_index ycells_len (by omega) (r.ext x0').row rfl hx fun b q' _ ha => addrK_of rfl (ha.load1 0 rfl rfl (asI_of ?_))
    refine ifB_eq (fun h44 => ?_) (fun h44 => ?_)
    · refine addrK_of rfl (ag'.load1 0 rfl rfl (asS_of ?_))
      refine rowL_index ycells_len (by omega) (r.ext x0').row rfl hx fun b q' _ ha => addrK_of rfl (ha.load1 1 rfl rfl (asStr_of ?_))
      refine bytesK_of hby fun A36 c36 g3 x3 r3 hc3 _ => ?_
      refine c49 A36 _ c36 y.2 0 2 g3 _ r3 hc3 (by omega) (by decide) hby (asT2_of (asI_of (asI_of ?_)))
      refine c49 A36 _ c36 y.2 2 4 g3 _ r3 hc3 (by omega) (by decide) hby (asT2_of (asI_of (asI_of ?_)))
      rw [needK_true (by decide), needK_true (by decide)]
      have hbd := hd_bound hby
      have hv : 0 ≤ (getR y.2 2 4).1 ∧ (getR y.2 2 4).1 < 4294967296 := by
        unfold getR
        split
        · exact ⟨by decide, by decide⟩
        · split
          · exact ⟨by decide, by decide⟩
          · rename_i h
            have h1 := val_bound 4 ((y.2.drop 2).take 4) (by simp at h ⊢; omega) (fun z hz => hby z (List.mem_of_mem_drop (List.mem_of_mem_take hz)))
            simpa using h1
      have w : IntKind.wrap .u32 (getR y.2 2 4).1 = (getR y.2 2 4).1 := by rw [IntKind.wrap_u32]; omega
      have e1 : (getR y.2 0 2).1 = hd y.2 := rfl
      rw [w, e1]
      have w1 : IntKind.wrap .u16 (IntKind.wrap .u64 (Int.tdiv (hd y.2) 8)) = hd y.2 / 8 := by
        rw [Int.tdiv_eq_ediv_of_nonneg hbd.1, wrapu64_id (by omega) (by omega), IntKind.wrap_u16]; omega
      have w2 : Int.tmod (hd y.2) 2 = hd y.2 % 2 := Int.tmod_eq_emod_of_nonneg hbd.1
      rw [w1, w2, beq_dec]
      exact hk hR j y hx h44 hall g3 (x0'.trans x3)
    · refine ⟨⟨j + 1, wrap64_id (by omega) (by omega), by omega, xg.trans x', fun i z hi hz => ?_⟩, ?_⟩
      · rcases Nat.lt_or_ge i j with h3 | h3
        · exact hall i z h3 hz
        · have : i = j := by omega
          subst this
          rw [hx] at hz
          cases hz
          exact h44
      · rw [wrap64_id (by omega) (by omega)]
        dsimp only
        omega
  · refine hno ?_ g' x0'
    rcases Nat.lt_or_ge j n with h2 | h2
    · left
      intro hR
      rw [hb.2 ⟨h2, hR⟩] at h1; cases h1
    · right
      intro y hy
      obtain ⟨i, hi, rfl⟩ := List.getElem_of_mem hy
      exact hall i _ (by omega) (List.getElem?_eq_getElem hi)
end
end Go.Proofs.Ythfjpnabalkjkaa
