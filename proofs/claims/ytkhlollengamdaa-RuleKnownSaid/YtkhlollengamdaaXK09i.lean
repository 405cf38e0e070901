/- What is proved: contracts of functions that the law calls, and of the law itself, over any heap. Conditions stand in each theorem. -/
import Derived.Test.YtkhlollengamdaaXK09h
set_option linter.unusedSimpArgs false
set_option linter.unusedVariables false
namespace Go.Proofs.Ytkhlollengamdaa
open Go.Oct Go.Oct.L09
def sam1 : Ru := ⟨0, 6, zP, zP, 0, 65535, 80, 81, false, 1⟩
def sam2 : Ru := ⟨0, -1, ⟨quad 10 0 0 0, 8⟩, zP, 0, 65535, 0, 65535, true, 0⟩
theorem sam1_ok : sam1.ok := ⟨(by decide : isL 0), (by decide : isL 6), zP_ok, zP_ok, (by decide : isW 0), (by decide : isW 65535), (by decide : isW 80), (by decide : isW 81), (by decide : isL 1)⟩
theorem q10_ok : (⟨quad 10 0 0 0, 8⟩ : Pf).ok := ⟨quad_ok (by decide) (by decide) (by decide) (by decide), (by decide : isL 8)⟩
theorem sam2_ok : sam2.ok := ⟨(by decide : isL 0), (by decide : isL (-1)), q10_ok, zP_ok, (by decide : isW 0), (by decide : isW 65535), (by decide : isW 0), (by decide : isW 65535), (by decide : isL 0)⟩
def sam : List RS := [⟨sam1, sam1_ok⟩, ⟨sam2, sam2_ok⟩]
theorem any_ok : (anyR false 0).ok := anyR_ok _ (by decide)
def sam3 : List RS := [⟨anyR false 0, any_ok⟩, ⟨sam1, sam1_ok⟩, ⟨sam2, sam2_ok⟩]
section
variable {h : H} {k : Value → H → Prop}
theorem Cl.after {g0 h h' : H} {base p hb : Nat} {A : Option Addr} {n c : Nat} {xs : List RS} {ot : Ru} {hs0 hs : List Int} (s0 : Cl g0 base p hb A n c xs ot hs0) (s : Cl h base p hb A n c xs ot hs) {b : Nat} (m : Go.Oct.Mod h h' (· = b)) (hge : g0.size ≤ b) : Cl h' base p hb A n c xs ot hs :=
  { s with
    blk := s.blk.mod m (fun e => by have := s0.blk.lt; omega)
    rules := s.rules.mod m (fun i hi e => by have := s0.rules.2.lt hi; omega)
    hits := s.hits.mod m (fun i hi e => by have := s0.hits.2.lt hi; omega) }
theorem one2 {v : Value} (hv : v.oneCell' = true) (hc : v.cells = #[v]) : OneCells v.cells.toList := by
  intro w hw
  rw [hc] at hw
  simp at hw
  rw [hw]; exact hv
/-- sample -/
theorem c18 (hk : ∀ p h', Go.Oct.Ext h h' → Blk h' p (cellsOf RS.cells sam) 43 → h.size ≤ p → k (.slice (some ⟨p, 0, none⟩) 2 2) h') : callK Try.prog 18 #[] h k := by
  refine call18 _ _ ?_
  unfold d18
  refine c10 fun g1 x1 => asA_of rfl (c10 fun g2 x2 => asA_of rfl ?_)
  refine alloc_new fun p1 g3 y1 b1 x3 => alloc_new fun p2 g4 y2 b2 x4 => ?_
  have hne : p1 ≠ p2 := by have := b1.lt; omega
  have z1 := x1.size
  have z2 := x2.size
  have z3 := x3.size
  have f1 : ∀ i, i = p1 → h.size ≤ i := by rintro i rfl; omega
  have f2 : ∀ i, i = p2 → h.size ≤ i := by rintro i rfl; omega
  have x04 : Go.Oct.Ext h g4 := x1.trans (x2.trans (x3.trans x4))
  refine store_all (b1.ext x4) rfl rfl (Ru.one _) fun g5 k1 m5 => ?_
  refine store_all (b2.mod m5 (Ne.symm hne)) rfl rfl (Ru.one _) fun g6 k2 m6 => ?_
  have k1 := k1.mod m6 hne
  refine addrK_of rfl (store_blk k1 rfl (by decide) (one2 rfl rfl) fun g7 k1 m7 => ?_)
  refine addrK_of rfl (store_blk k1 rfl (by rw [over_size]; decide) (by simp [OneCells, Value.oneCell']) fun g8 k1 m8 => ?_)
  refine addrK_of rfl (store_blk k1 rfl (by simp only [over_size]; decide) (one2 rfl rfl) fun g9 k1 m9 => ?_)
  have k1 : Blk g9 p1 sam1.cells.toArray 43 := k1
  have k2 := ((k2.mod m7 (Ne.symm hne)).mod m8 (Ne.symm hne)).mod m9 (Ne.symm hne)
  have x09 : Go.Oct.Ext h g9 := ((((x04.then m5 f1).then m6 f2).then m7 f1).then m8 f1).then m9 f1
  refine c16 10 0 0 0 fun g10 x10 => asA_of rfl ?_
  refine pf_fill q10_ok rfl ?_
  refine addrK_of rfl (store_blk (k2.ext x10) rfl (by decide) (Pf.one _) fun g11 k2 m11 => ?_)
  refine addrK_of rfl (store_blk k2 rfl (by rw [over_size]; decide) (one2 rfl rfl) fun g12 k2 m12 => ?_)
  have k2 : Blk g12 p2 sam2.cells.toArray 43 := k2
  have k1 := ((k1.ext x10).mod m11 hne).mod m12 hne
  have x012 : Go.Oct.Ext h g12 := ((x09.trans x10).then m11 f2).then m12 f2
  refine k1.at_.loadN rfl (k2.at_.loadN rfl ?_)
  refine fill_rows RS.len sam rfl ?_
  refine alloc_new fun p15 g13 y15 b15 x13 => ?_
  exact hk p15 g13 (x012.trans x13) b15 (by have := x012.size; omega)
def keyW (a : Int) (p : Int) : Ky := ⟨quad a 0 0 1, quad 1 2 3 4, p, 5, 80⟩
theorem keyW_ok {a p : Int} (ha : isB a) (hp : isB p) : (keyW a p).ok := ⟨quad_ok ha (by decide) (by decide) (by decide), quad_ok (by decide) (by decide) (by decide) (by decide), hp, (by decide : isW 5), (by decide : isW 80)⟩
theorem w1 : newE (othersOf false 2) sam = 0 := by decide +kernel
theorem w2 : newE (othersOf false 2) sam3 = 0 := by decide +kernel
theorem w3 : tellsR sam (othersOf false 2) (keyW 10 6) = (1, 0) := by decide +kernel
theorem w4 : tellsR sam (othersOf false 2) (keyW 10 17) = (0, 90) := by decide +kernel
theorem w5 : tellsR sam (othersOf false 2) (keyW 9 17) = (2, 0) := by decide +kernel
theorem w6 : deadR sam3 = [1, 2] := by decide +kernel
set_option maxHeartbeats 1000000 in
set_option maxRecDepth 8000 in
/-- works -/
theorem c6 (hk : ∀ h', Go.Oct.Ext h h' → k (.bool true) h') : callK Try.prog 6 #[] h k := by
  refine call6 _ _ ?_
  unfold d6
  refine c18 fun p14 g1 x1 b14 y14 => asS_of ?_
  have r14 : ∀ g, Go.Oct.Ext g1 g → RowH g (some ⟨p14, 0, none⟩) (2 * 44) (cellsOf RS.cells sam) := fun g e => by
    have := (b14.ext e).row 0 88 (by rw [cellsOf_size RS.len]; decide)
    have e2 : (cellsOf RS.cells sam).extract 0 (0 + 88) = cellsOf RS.cells sam := by
      have : (cellsOf RS.cells sam).size = 88 := by rw [cellsOf_size RS.len]; rfl
      apply Array.ext'
      simp [List.extract_eq_take_drop, List.take_of_length_le, this]
    rw [e2] at this
    exact this
  refine c7 (by decide : isL 2) (fun _ => r14 g1 (Go.Oct.Ext.refl _)) rfl (fun h1 => absurd w1 h1) fun _ p hb A c g2 x2 cl => asT2_of (asP_of (asI_of ?_))
  refine c16 10 0 0 1 fun g3 x3 => asA_of rfl (c16 1 2 3 4 fun g4 x4 => asA_of rfl ?_)
  have x24 := x3.trans x4
  refine ⟨(keyW 10 6).cells.toArray, by rfl, ?_⟩
  refine newVr rfl rfl (Ky.one _) fun p4 g5 y4 b4 x5 => ?_
  have cl5 := cl.ext (x24.trans x5)
  have z2 := x2.size
  have z24 := x24.size
  have h4 : p4 ≠ hb := by have := cl.hb_lt; omega
  refine b4.at_.loadN rfl ?_
  refine c8 cl5 (keyW_ok (by decide) (by decide)) fun hs6 g6 m6 cl6 => asT2_of (asI_of (asI_of ?_))
  rw [w3]
  have b4 := b4.mod m6 h4
  refine addrK_of rfl (store_blk b4 rfl (by decide) (one2 rfl rfl) fun g7 b4 m7 => ?_)
  have b4 : Blk g7 p4 (keyW 10 17).cells.toArray 28 := b4
  have cl7 := cl.after cl6 m7 (by omega)
  refine b4.at_.loadN rfl ?_
  refine c8 cl7 (keyW_ok (by decide) (by decide)) fun hs8 g8 m8 cl8 => asT2_of (asI_of (asI_of ?_))
  rw [w4]
  have b4 := b4.mod m8 h4
  refine c16 9 0 0 1 fun g9 x9 => asA_of rfl ?_
  refine addrK_of rfl (store_blk (b4.ext x9) rfl (by decide) (Ad.one _) fun g10 b4 m10 => ?_)
  have b4 : Blk g10 p4 (keyW 9 17).cells.toArray 28 := b4
  have cl10 := cl.after (cl8.ext x9) m10 (by omega)
  refine b4.at_.loadN rfl ?_
  refine c8 cl10 (keyW_ok (by decide) (by decide)) fun hs11 g11 m11 cl11 => asT2_of (asI_of (asI_of ?_))
  rw [w5]
  have fh : ∀ i, i = hb → g1.size ≤ i := by rintro i rfl; exact cl.hb_le
  have f4 : ∀ i, i = p4 → g1.size ≤ i := by rintro i rfl; omega
  have x11 : Go.Oct.Ext g1 g11 := (((((x2.trans (x24.trans x5)).then m6 fh).then m7 f4).then m8 fh).trans x9 |>.then m10 f4).then m11 fh
  refine draw_ext ?_
  refine rowL_index RS.len (by decide) (r14 g11 x11) (j := 0) (x := ⟨sam1, sam1_ok⟩) rfl rfl fun b q _ ha => ha.loadSN rfl ?_
  refine rowL_index RS.len (by decide) (r14 g11 x11) (j := 1) (x := ⟨sam2, sam2_ok⟩) rfl rfl fun b q _ ha => ha.loadSN rfl ?_
  refine c10 fun g12 x12 => asA_of rfl ⟨x12, ?_⟩
  refine fill_rows RS.len sam3 rfl ?_
  refine alloc_new fun p52 g13 y52 b52 x13 => ?_
  have r52 : RowH g13 (some ⟨p52, 0, none⟩) (3 * 44) (cellsOf RS.cells sam3) := by
    have := b52.row 0 132 (by rw [cellsOf_size RS.len]; decide)
    have e2 : (cellsOf RS.cells sam3).extract 0 (0 + 132) = cellsOf RS.cells sam3 := by
      have : (cellsOf RS.cells sam3).size = 132 := by rw [cellsOf_size RS.len]; rfl
      apply Array.ext'
      simp [List.extract_eq_take_drop, List.take_of_length_le, this]
    rw [e2] at this
    exact this
  refine c7 (by decide : isL 2) (fun _ => r52) rfl (fun h1 => absurd w2 h1) fun _ p' hb' A' c' g14 x14 cl' => asT2_of (asP_of (asI_of ?_))
  refine c9 cl' fun A57 c57 g15 x15 l57 => asS_of ?_
  have xe := x1.trans (x11.trans (x12.trans (x13.trans (x14.trans x15))))
  rw [w6] at l57 ⊢
  refine ifB_eq (fun _ => ?_) (fun h1 => absurd rfl h1)
  refine ifB_eq (fun _ => ?_) (fun h1 => absurd rfl h1)
  refine ifB_eq (fun _ => ?_) (fun h1 => absurd rfl h1)
  refine ifB_eq (fun _ => ?_) (fun h1 => absurd rfl h1)
  refine ifB_eq (fun _ => ?_) (fun h1 => absurd rfl h1)
  refine ifB_eq (fun _ => ?_) (fun h1 => absurd rfl h1)
  refine ifB_eq (fun _ => ?_) (fun h1 => absurd rfl h1)
  refine ifB_eq (fun _ => ?_) (fun h1 => absurd rfl h1)
  have r57 := Lst.row (f := nI) l57
  refine row_load (f := nI) r57 (j := 0) (x := 1) rfl rfl (asI_of ?_)
  refine ifB_eq (fun _ => ?_) (fun h1 => absurd rfl h1)
  refine row_load (f := nI) r57 (j := 1) (x := 2) rfl rfl (asI_of ?_)
  exact hk g15 xe
/-- RuleNone -/
theorem c4 {y : Ky} (oy : y.ok) (hk : ∀ h', Go.Oct.Ext h h' → k (.bool true) h') : callK Try.prog 4 #[.agg y.cells.toArray] h k := by
  refine call4 _ _ _ ?_
  unfold d4
  refine alloc_new fun p1 g1 y1 b1 x1 => ?_
  refine b1.at_.loadN (Ky.len37 oy) ?_
  refine call8 _ _ _ _ ?_
  unfold d8
  refine alloc_new fun p2 g2 y2 b2 x2 => ?_
  rw [needK_true (by simp)]
  refine (show ifB true _ _ from ?_)
  rw [ifB_true]
  refine asT2_of (asI_of (asI_of ?_))
  refine (show ifB true _ _ from ?_); rw [ifB_true]
  refine (show ifB true _ _ from ?_); rw [ifB_true]
  refine (b1.ext x2).at_.loadN (Ky.len37 oy) ?_
  refine call13 _ _ _ _ ?_
  unfold d13
  refine alloc_new fun p3 g3 y3 b3 x3 => ?_
  rw [needK_true (by simp)]
  refine (show ifB true _ _ from ?_)
  rw [ifB_true]
  refine asI_of ?_
  refine (show ifB true _ _ from ?_); rw [ifB_true]
  refine call14 _ _ _ ?_
  unfold d14
  rw [needK_true (by simp)]
  refine (show ifB true _ _ from ?_)
  rw [ifB_true]
  refine asS_of ?_
  refine (show ifB true _ _ from ?_); rw [ifB_true]
  refine call9 _ _ _ ?_
  unfold d9
  rw [needK_true (by simp)]
  refine (show ifB true _ _ from ?_)
  rw [ifB_true]
  refine asS_of ?_
  refine (show ifB true _ _ from ?_); rw [ifB_true]
  exact c6 fun g4 x4 => asB_of (hk g4 (x1.trans (x2.trans (x3.trans x4))))
end
end Go.Proofs.Ytkhlollengamdaa
