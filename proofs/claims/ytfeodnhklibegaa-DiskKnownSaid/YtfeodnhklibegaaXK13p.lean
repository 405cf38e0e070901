/- What is proved: contracts of functions that the law calls, and of the law itself, over any heap. Conditions stand in each theorem. -/
import Derived.Test.YtfeodnhklibegaaXK13o
set_option linter.unusedSimpArgs false
set_option linter.unusedVariables false
namespace Go.Proofs.Ytfeodnhklibegaa
open Go.Oct Go.Oct.L01 Go.RowKit Go.Proofs.YtfeodnhklibegaaW.PrintWords
theorem ifB_nt {A B : Prop} : ifB (!true) A B = B := rfl
theorem ifB_nf {A B : Prop} : ifB (!false) A B = A := rfl
theorem Ws.rows {h : H} {base : Nat} {C : Option Addr} {u e : Nat} {ws : List Wt} {U : List (Int × List Int)} (w : Ws h base C u e ws U) : ∀ v ∈ ws, RowH h v.A v.n (v.bs.map bf).toArray := fun v hv => Lst.row (f := bf) (w.wts v hv)
section
variable {h : H} {L : Option Addr} {n q : Nat} {D N : List Int} {U : List (Int × List Int)} {base pd : Nat} {S : Nat → Prop}
/-- SameDisk, of disks that are the same -/
theorem c41 (d : Dk h base pd S D N U) (r : RD h L n D U) (hN : N = app D U) (hU : U.length ≤ 1073741824) (k : Value → H → Prop) (hk : ∀ h', Ext h h' → k (.bool true) h') : callK Try.prog 41 #[.pointer (some ⟨pd, 0, none⟩), .agg (rdv D L n q)] h k := by
  refine call41 _ _ _ _ ?_
  unfold d41
  have f := d.facts
  refine alloc_new fun p g1 y1 b1 x1 => ?_
  have a1 : At g1 p 0 [sv D, .slice L n q] := b1.at_
  refine addrK_of rfl (a1.load1 0 rfl rfl (asStr_of ?_))
  rw [sv_size]
  refine c12all (d.ext x1) rfl _ fun A2 q2 g2 x2 l2 => asT2_of (asS_of (asI_of ?_))
  have x12 := x1.trans x2
  refine c15all (d.ext x12) rfl _ fun A3 q3 g3 x3 l3 => asT2_of (asS_of (asI_of ?_))
  have x13 := x12.trans x3
  refine c16 (d.ext x13) hU _ fun C u e ws g4 x4 wv => asS_of ?_
  have x14 := x13.trans x4
  have hUl : ws.length = U.length := by rw [wv.eq, List.length_map]
  have hul : ws.length = u := wv.uns.1
  have hlen := r.len
  have xa4 := x2.trans (x3.trans x4)
  have a4 := a1.ext xa4
  refine ⟨fun b g => b = false ∧ Ext g4 g, draw_ext ?_, ?_⟩
  · refine c18 (d.ext x14) _ (asI_of ⟨Ext.refl _, ?_⟩)
    refine ifB_ne (fun h => absurd rfl h) (fun _ => ifB_ne (fun h => absurd rfl h) (fun _ => ifB_ne (fun h => absurd rfl h) (fun _ => ?_)))
    refine a4.loadSN rfl ⟨?_, ?_⟩
    · refine strK_of (Lst.row (f := bf) (l2.ext (x3.trans x4))) ⟨Ext.refl _, ?_⟩
      refine c40 (r.ext x14) _ fun g5 x5 => asStr_of ⟨x5, ?_⟩
      rw [str_beq f.byN r.app.2, decide_eq_true hN]
      rw [ifB_nt]
      refine addrK_of rfl (a4.loadS1 0 rfl rfl (asStr_of ?_))
      refine strK_of (Lst.row (f := bf) (l3.ext (x4.trans x5))) ⟨x5, ?_⟩
      rw [str_beq f.byD f.byD, decide_eq_true rfl]
      rw [ifB_nt]
      refine addrK_of rfl (a4.loadS1 1 rfl rfl (asS_of ⟨?_, x5⟩))
      simp; omega
    · refine c40 (r.ext x14) _ fun g5 x5 => asStr_of ⟨x5, ?_⟩
      refine strK_of (Lst.row (f := bf) (l2.ext (x3.trans (x4.trans x5)))) ⟨x5, ?_⟩
      rw [str_beq f.byN r.app.2, decide_eq_true hN]
      rw [ifB_nt]
      refine addrK_of rfl (a4.loadS1 0 rfl rfl (asStr_of ?_))
      refine strK_of (Lst.row (f := bf) (l3.ext (x4.trans x5))) ⟨x5, ?_⟩
      rw [str_beq f.byD f.byD, decide_eq_true rfl]
      rw [ifB_nt]
      refine addrK_of rfl (a4.loadS1 1 rfl rfl (asS_of ⟨?_, x5⟩))
      simp; omega
  rintro b g5 ⟨rfl, x5⟩
  rw [ifB_false]
  have x15 := x14.trans x5
  have a5 := a4.ext x5
  refine ⟨fun b x g => g = g5 ∧ ∃ j : Nat, x = j ∧ j ≤ u, fun b x g => (u - x).toNat, ⟨rfl, 0, rfl, by omega⟩, ?_⟩
  rintro b x g ⟨rfl, j, rfl, hj⟩
  refine ifB_dec (fun hlt => ?_) (fun hge => hk g x15)
  have hx : ws[j]? = some ws[j] := List.getElem?_eq_getElem (by omega)
  have hUj : U[j]? = some (ws[j].At, ws[j].bs) := by have := congrArg (·[j]?) wv.eq; simpa [hx] using this
  have hmem := List.getElem_mem (show j < ws.length by omega)
  generalize ws[j] = w at *
  have uns := wv.uns.ext x5
  have hby := f.byU _ (List.mem_of_getElem? hUj)
  refine ⟨fun b g' => b = false ∧ g' = g, draw_ext ?_, ?_⟩
  · refine uns.index Wt.len rfl hx fun b _ ha => addrK_of rfl (ha.loadS1 0 rfl rfl (asI_of ?_))
    refine addrK_of rfl (a5.loadS1 1 rfl rfl (asS_of ?_))
    refine rowL_index rwc_len (by omega) (r.ext x15).row rfl hUj fun b q' _ ha => addrK_of rfl (ha.loadS1 0 rfl rfl (asI_of ?_))
    refine ifB_ne (fun h => absurd rfl h) (fun _ => ?_)
    refine uns.index Wt.len rfl hx fun b _ ha => addrK_of rfl (ha.loadS1 1 rfl rfl (asS_of ?_))
    refine addrK_of rfl (a5.loadS1 1 rfl rfl (asS_of ?_))
    refine rowL_index rwc_len (by omega) (r.ext x15).row rfl hUj fun b q' _ ha => addrK_of rfl (ha.loadS1 1 rfl rfl (asStr_of ?_))
    refine strK_of ((wv.rows w hmem).ext x5) ⟨Ext.refl _, ?_⟩
    rw [str_beq hby hby, decide_eq_true rfl]
    exact ⟨rfl, rfl⟩
  rintro b g' ⟨rfl, rfl⟩
  rw [ifB_false]
  refine ⟨⟨rfl, j + 1, wrap64_id (by omega) (by omega), by omega⟩, ?_⟩
  rw [wrap64_id (by omega) (by omega)]
  dsimp only
  omega
end
/-- bytes.Equal -/
theorem c30 (A : Option Addr) (n c : Nat) (xs : List Int) (B : Option Addr) (m d : Nat) (ys : List Int) (h : H) (k : Value → H → Prop) (hr : RowH h A n (xs.map bf).toArray) (hs : RowH h B m (ys.map bf).toArray) (hx : ∀ x ∈ xs, isB x) (hy : ∀ y ∈ ys, isB y)
    (hk : k (.bool (decide (xs = ys))) h) : callK Try.prog 30 #[.slice A n c, .slice B m d] h k := by
  refine call30 _ _ _ _ _ _ _ _ ?_
  unfold d30
  refine strK_of hr (strK_of hs ?_)
  rw [str_beq hx hy]
  exact hk
/-- same -/
theorem c32 (v w : Wt) (h : H) (k : Value → H → Prop) (hr : RowH h v.A v.n (v.bs.map bf).toArray) (hs : RowH h w.A w.n (w.bs.map bf).toArray) (hx : ∀ x ∈ v.bs, isB x) (hy : ∀ x ∈ w.bs, isB x)
    (hk : ∀ h', Ext h h' → k (.bool (decide ((v.At, v.bs) = (w.At, w.bs)))) h') : callK Try.prog 32 #[.agg v.cells.toArray, .agg w.cells.toArray] h k := by
  refine call32 _ _ _ _ ?_
  unfold d32
  refine alloc_new fun p g1 y1 b1 x1 => alloc_new fun p2 g2 y2 b2 x2 => ?_
  have x12 := x1.trans x2
  have a1 : At g2 p 0 v.cells := (b1.ext x2).at_
  have a2 : At g2 p2 0 w.cells := b2.at_
  have hk := hk g2 x12
  refine addrK_of rfl (a1.load1 0 rfl rfl (asI_of ?_))
  refine addrK_of rfl (a2.load1 0 rfl rfl (asI_of ?_))
  refine ifB_eq (fun h1 => ?_) (fun h1 => ?_)
  · refine addrK_of rfl (a1.load1 1 rfl rfl (asS_of ?_))
    refine addrK_of rfl (a2.load1 1 rfl rfl (asS_of ?_))
    refine c30 _ _ _ v.bs _ _ _ w.bs _ _ (hr.ext x12) (hs.ext x12) hx hy (asB_of ?_)
    have : decide (v.bs = w.bs) = decide ((v.At, v.bs) = (w.At, w.bs)) := by simp [h1]
    rw [this]
    exact hk
  · rw [decide_eq_false (by simp [h1])] at hk
    exact hk
def pairs (ws : List Wt) : List (Int × List Int) := ws.map (fun w => (w.At, w.bs))
theorem take_ne {α : Type} {xs ys : List α} {j : Nat} (h : xs[j]? ≠ ys[j]?) : xs ≠ ys := fun e => h (by rw [e])
/-- slices.EqualFunc -/
theorem c31 (A : Option Addr) (n c : Nat) (B : Option Addr) (m d : Nat) (vs ws : List Wt) (h : H) (k : Value → H → Prop) (hA : RowH h A (n * 2) (cellsOf Wt.cells vs)) (hB : RowH h B (m * 2) (cellsOf Wt.cells ws)) (hn : vs.length = n) (hm : ws.length = m) (hb : n ≤ 1073741824)
    (hvr : ∀ w ∈ vs, RowH h w.A w.n (w.bs.map bf).toArray) (hwr : ∀ w ∈ ws, RowH h w.A w.n (w.bs.map bf).toArray) (hvb : ∀ w ∈ vs, ∀ x ∈ w.bs, isB x) (hwb : ∀ w ∈ ws, ∀ x ∈ w.bs, isB x)
    (hk : ∀ h', Ext h h' → k (.bool (decide (pairs vs = pairs ws))) h') : callK Try.prog 31 #[.slice A n c, .slice B m d, .func (.func 32) #[] #[]] h k := by
  refine call31 _ _ _ _ _ _ _ _ _ _ _ ?_
  unfold d31
  refine ifB_ne (fun h1 => ?_) (fun h1 => ?_)
  · have := hk h (Ext.refl _)
    rw [decide_eq_false (by intro e; have := congrArg List.length e; simp [pairs] at this; omega)] at this
    exact this
  have hnm : m = n := by omega
  subst hnm
  refine ⟨fun b x g => ∃ j : Nat, x = j ∧ j ≤ m ∧ Ext h g ∧ (pairs vs).take j = (pairs ws).take j, fun b x g => (m - x).toNat, ⟨0, rfl, by omega, Ext.refl _, rfl⟩, ?_⟩
  rintro b x g ⟨j, rfl, hj, xg, he⟩
  refine ifB_dec (fun hlt => ?_) (fun hge => ?_)
  · have hx : vs[j]? = some vs[j] := List.getElem?_eq_getElem (by omega)
    have hy : ws[j]? = some ws[j] := List.getElem?_eq_getElem (by omega)
    have mv := List.getElem_mem (show j < vs.length by omega)
    have mw := List.getElem_mem (show j < ws.length by omega)
    have gv : (pairs vs)[j]? = some (vs[j].At, vs[j].bs) := by simp [pairs, hx]
    have gw : (pairs ws)[j]? = some (ws[j].At, ws[j].bs) := by simp [pairs, hy]
    generalize vs[j] = v at *
    generalize ws[j] = w at *
    refine rowL_index Wt.len (by omega) (hA.ext xg) rfl hx fun b q' _ ha => ha.loadN rfl ?_
    refine newVar (by simp) rfl (Wt.one v) fun p8 g2 y2 b2 x2 => ?_
    refine rowL_index Wt.len (by omega) (hB.ext (xg.trans x2)) rfl hy fun b q' _ ha => ha.loadN rfl ?_
    refine newVar (by simp) rfl (Wt.one w) fun p9 g3 y3 b3 x3 => ?_
    have a2 : At g3 p8 0 v.cells := (b2.ext x3).at_
    have a3 : At g3 p9 0 w.cells := b3.at_
    refine a2.loadN rfl (a3.loadN rfl ?_)
    have x1 := xg.trans (x2.trans x3)
    refine c32 v w g3 _ ((hvr v mv).ext x1) ((hwr w mw).ext x1) (hvb v mv) (hwb w mw) fun g4 x4 => asB_of ?_
    by_cases h2 : (v.At, v.bs) = (w.At, w.bs)
    · rw [decide_eq_true h2]
      rw [ifB_nt]
      refine ⟨⟨j + 1, wrap64_id (by omega) (by omega), by omega, x1.trans x4, ?_⟩, ?_⟩
      · rw [List.take_add_one, List.take_add_one, he, gv, gw, h2]
      · rw [wrap64_id (by omega) (by omega)]
        dsimp only
        omega
    · rw [decide_eq_false h2]
      rw [ifB_nf]
      have := hk g4 (x1.trans x4)
      rw [decide_eq_false (take_ne (j := j) (by rw [gv, gw]; simpa using h2))] at this
      exact this
  · have hjn : j = m := by omega
    subst hjn
    have := hk g xg
    rw [List.take_of_length_le (by simp [pairs]; omega), List.take_of_length_le (by simp [pairs]; omega)] at he
    rw [decide_eq_true he] at this
    exact this
section
variable {h : H} {D N D' N' : List Int} {U U' : List (Int × List Int)} {base base' pd pd' : Nat} {S S' : Nat → Prop}
/-- Same -/
theorem c19 (d : Dk h base pd S D N U) (d' : Dk h base' pd' S' D' N' U') (hU : U.length ≤ 1073741824) (k : Value → H → Prop) (hk : ∀ h', Ext h h' → k (.bool (decide (D = D' ∧ U = U'))) h') : callK Try.prog 19 #[.pointer (some ⟨pd, 0, none⟩), .pointer (some ⟨pd', 0, none⟩)] h k := by
  obtain ⟨A, n, c, B, m, dd, C, u, e, ws, s, hUw, hS⟩ := d
  obtain ⟨A', n', c', B', m', dd', C', u', e', ws', s', hUw', hS'⟩ := d'
  refine call19 _ _ _ _ ?_
  unfold d19
  refine ⟨fun b g => b = false ∧ g = h, ⟨.inr rfl, ifB_of (fun h => by simp at h) (fun _ => ⟨.inr rfl, rfl, rfl⟩)⟩, ?_⟩
  rintro b g ⟨rfl, rfl⟩
  rw [ifB_false]
  refine draw_ext ?_
  rw [nilK_some, addrK_mk]
  refine s.blk.at_.loadS1 0 rfl rfl (asS_of ?_)
  rw [nilK_some, addrK_mk]
  refine s'.blk.at_.loadS1 0 rfl rfl (asS_of ?_)
  refine c30 _ _ _ D _ _ _ D' _ _ (Lst.row (f := bf) s.dur) (Lst.row (f := bf) s'.dur) s.byD s'.byD (asB_of ⟨Ext.refl _, ?_⟩)
  refine ifB_dec (fun h1 => ?_) (fun h1 => ?_)
  · rw [nilK_some, addrK_mk]
    refine s.blk.at_.loadS1 2 rfl rfl (asS_of ?_)
    rw [nilK_some, addrK_mk]
    refine s'.blk.at_.loadS1 2 rfl rfl (asS_of ?_)
    have hul := s.uns.1
    have hl2 : U.length = ws.length := by rw [hUw, List.length_map]
    refine c31 _ _ _ _ _ _ ws ws' _ _ s.uns.2.row s'.uns.2.row s.uns.1 s'.uns.1 (by omega) (fun w hw => Lst.row (f := bf) (s.wts w hw)) (fun w hw => Lst.row (f := bf) (s'.wts w hw)) s.byW s'.byW fun g' x => asB_of ?_
    have := hk g' x
    have e1 : decide (D = D' ∧ U = U') = decide (pairs ws = pairs ws') := by
      subst hUw
      subst hUw'
      by_cases h2 : pairs ws = pairs ws'
      · rw [decide_eq_true h2, decide_eq_true ⟨h1, h2⟩]
      · rw [decide_eq_false h2, decide_eq_false (fun h => h2 h.2)]
    rw [e1] at this
    exact this
  · have := hk g (Ext.refl _)
    rw [decide_eq_false (fun h => h1 h.1)] at this
    exact this
end
theorem eqM81 (d : Nat) (w : World) (x y : Int) (s t : ByteArray) : (Op.equalIn (d + 2) 81 (.agg #[.int .i64 x, .string s]) (.agg #[.int .i64 y, .string t])).run Try.prog w = .ok (x == y && s.toList == t.toList) w := by
  refine eqA_of Try.underlying81 (by kernel_rfl) ?_
  refine eqf_cons (by rfl) (by go_simp; rfl) (by go_simp; rfl) (by go_simp) ?_
  exact eqf_last (by rfl) (by go_simp; rfl) (by go_simp; rfl) (by go_simp)
theorem eq81 (v w : Int × List Int) (hv : ∀ x ∈ v.2, isB x) (hw : ∀ x ∈ w.2, isB x) {k : Bool → Prop} (hk : k (decide (v = w))) : eqAggK Try.prog 81 (rwc v).toArray (rwc w).toArray k := by
  refine ⟨v.1 == w.1 && (strOfNums v.2).toList == (strOfNums w.2).toList, by kernel_rfl, fun z => eqM81 9998 z _ _ _ _, ?_⟩
  have : (v.1 == w.1 && (strOfNums v.2).toList == (strOfNums w.2).toList) = decide (v = w) := by
    rw [str_beq hv hw]
    obtain ⟨a, b⟩ := v
    obtain ⟨c, d⟩ := w
    by_cases h0 : a = c <;> by_cases h1 : b = d <;> simp [h0, h1]
  rw [this]; exact hk
section
variable {h : H} {L L' : Option Addr} {n q n' q' : Nat} {D D' : List Int} {U U' : List (Int × List Int)}
/-- the reference's Same -/
theorem c42 (r : RD h L n D U) (r' : RD h L' n' D' U') (k : Value → H → Prop) (hk : ∀ h', Ext h h' → k (.bool (decide (D = D' ∧ U = U'))) h') : callK Try.prog 42 #[.agg (rdv D L n q), .agg (rdv D' L' n' q')] h k := by
  refine call42 _ _ _ _ ?_
  unfold d42
  refine alloc_new fun p g1 y1 b1 x1 => alloc_new fun p2 g2 y2 b2 x2 => ?_
  have x12 := x1.trans x2
  have a1 : At g2 p 0 [sv D, .slice L n q] := (b1.ext x2).at_
  have a2 : At g2 p2 0 [sv D', .slice L' n' q'] := b2.at_
  have hk := hk g2 x12
  have r2 := r.ext x12
  have r2' := r'.ext x12
  have hl := r.len
  have hl' := r'.len
  have hf := r.few
  refine ⟨fun b g => g = g2 ∧ b = decide (¬ (D = D' ∧ n = n')), ?_, ?_⟩
  · refine addrK_of rfl (a1.load1 0 rfl rfl (asStr_of ?_))
    refine addrK_of rfl (a2.load1 0 rfl rfl (asStr_of ?_))
    rw [str_beq r.byD r'.byD]
    by_cases h1 : D = D'
    · rw [decide_eq_true h1]
      rw [ifB_nt]
      refine addrK_of rfl (a1.load1 1 rfl rfl (asS_of ?_))
      refine addrK_of rfl (a2.load1 1 rfl rfl (asS_of ⟨rfl, ?_⟩))
      rw [bne_dec]
      simp only [decide_eq_decide, h1, true_and]
      omega
    · rw [decide_eq_false h1]
      rw [ifB_nf]
      refine ⟨rfl, ?_⟩
      simp [h1]
  rintro b g ⟨rfl, rfl⟩
  refine ifB_dec (fun h1 => ?_) (fun h1 => ?_)
  · rw [decide_eq_false (fun h => h1 ⟨h.1, by rw [← hl, ← hl', h.2]⟩)] at hk
    exact hk
  have h1 : D = D' ∧ n = n' := Decidable.not_not.1 h1
  obtain ⟨rfl, rfl⟩ := h1
  refine ⟨fun b x g' => g' = g ∧ ∃ j : Nat, x = j ∧ j ≤ n ∧ U.take j = U'.take j, fun b x g' => (n - x).toNat, ⟨rfl, 0, rfl, by omega, rfl⟩, ?_⟩
  rintro b x g' ⟨rfl, j, rfl, hj, he⟩
  refine addrK_of rfl (a1.load1 1 rfl rfl (asS_of ?_))
  refine ifB_dec (fun hlt => draw_ext ?_) (fun hge => ?_)
  · have hx : U[j]? = some U[j] := List.getElem?_eq_getElem (by omega)
    have hy : U'[j]? = some U'[j] := List.getElem?_eq_getElem (by omega)
    have hbx := r.byU _ (List.mem_of_getElem? hx)
    have hby := r'.byU _ (List.mem_of_getElem? hy)
    generalize U[j] = v at *
    generalize U'[j] = w at *
    refine addrK_of rfl (a1.loadS1 1 rfl rfl (asS_of ?_))
    refine rowL_index rwc_len (by omega) r2.row rfl hx fun b q' _ ha => ha.loadSN rfl ?_
    refine addrK_of rfl (a2.loadS1 1 rfl rfl (asS_of ?_))
    refine rowL_index rwc_len (by omega) r2'.row rfl hy fun b q' _ ha => ha.loadSN rfl ?_
    refine eq81 v w hbx hby ?_
    by_cases h2 : v = w
    · rw [decide_eq_true h2]
      rw [ifB_nt]
      refine ⟨⟨rfl, j + 1, wrap64_id (by omega) (by omega), by omega, ?_⟩, ?_⟩
      · rw [List.take_add_one, List.take_add_one, he, hx, hy, h2]
      · rw [wrap64_id (by omega) (by omega)]
        dsimp only
        omega
    · rw [decide_eq_false h2]
      rw [ifB_nf]
      rw [decide_eq_false (fun h => take_ne (j := j) (by rw [hx, hy]; simpa using h2) h.2)] at hk
      exact hk
  · have : j = n := by omega
    subst this
    rw [List.take_of_length_le (by omega), List.take_of_length_le (by omega)] at he
    rw [decide_eq_true ⟨rfl, he⟩] at hk
    exact hk
end
end Go.Proofs.Ytfeodnhklibegaa
