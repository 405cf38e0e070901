/- What is proved: contracts of functions that the law calls, and of the law itself, over any heap. Conditions stand in each theorem. -/
import Derived.Test.YtkhlollengamdaaXK09o
set_option linter.unusedSimpArgs false
set_option linter.unusedVariables false
namespace Go.Proofs.Ytkhlollengamdaa
open Go.Oct Go.Oct.L09
section
variable {h : H} {k : Value → H → Prop}
set_option maxHeartbeats 1000000 in
/-- the reference's Right -/
theorem c41 {r : Ru} (o : r.ok) (hk : ∀ h', Go.Oct.Ext h h' → k (.bool r.right) h') : callK Try.prog 41 #[.agg r.cells.toArray] h k := by
  refine call41 _ _ _ ?_
  unfold d41
  refine alloc_new fun p1 g1 y1 b1 x1 => ?_
  have a1 := At.rhd b1.at_
  have l18s := Pf.len18 o.src
  have l18d := Pf.len18 o.dst
  rw [right_eq] at hk
  refine ⟨fun b g => Go.Oct.Ext g1 g ∧ b = !((verok r && (decide (-1 ≤ r.pro) && decide (r.pro ≤ 255))) && (r.pok r.src && r.pok r.dst)), ?_, ?_⟩
  · generalize hJ : (fun (b : Bool) (g : H) => Go.Oct.Ext g1 g ∧ b = !((verok r && (decide (-1 ≤ r.pro) && decide (r.pro ≤ 255))) && (r.pok r.src && r.pok r.dst))) = J
    have hj : ∀ b g, Go.Oct.Ext g1 g → b = (!((verok r && (decide (-1 ≤ r.pro) && decide (r.pro ≤ 255))) && (r.pok r.src && r.pok r.dst))) → J b g := by
      intro b g e1 e2
      rw [← hJ]
      exact ⟨e1, e2⟩
    have hp : verok r = true → addrK (some ⟨p1, 0, none⟩) 1 (fun p17 => load1 p17 g1 (fun v18 => asI .i64 v18 (fun x18 => ifB (decide (x18 < (-1))) (J true g1) (addrK (some ⟨p1, 0, none⟩) 1 (fun p22 => load1 p22 g1 (fun v23 => asI .i64 v23 (fun x23 => ifB (decide (x23 > 255)) (J true g1) (addrK (some ⟨p1, 0, none⟩) 2 (fun p27 => loadN 18 p27 g1 (fun c28 => addrK (some ⟨p1, 0, none⟩) 0 (fun p29 => load1 p29 g1 (fun v30 => asI .i64 v30 (fun x30 => callK Try.prog 68 #[(.agg c28), (.int .i64 x30)] g1 (fun v31 h => asB v31 (fun b31 => ifB (!b31) (J true h) (addrK (some ⟨p1, 0, none⟩) 20 (fun p35 => loadN 18 p35 h (fun c36 => addrK (some ⟨p1, 0, none⟩) 0 (fun p37 => load1 p37 h (fun v38 => asI .i64 v38 (fun x38 => callK Try.prog 68 #[(.agg c36), (.int .i64 x38)] h (fun v39 h => asB v39 (fun b39 => J (!b39) h))))))))))))))))))))))) := by
      intro hv
      have sp : ∀ p, suits p r.ver = r.pok p := fun p => suits_pok hv p
      rw [hv] at hj
      refine addrK_of rfl (a1.load1 1 rfl rfl (asI_of ?_))
      refine ifB_dec (fun h1 => hj _ _ (Go.Oct.Ext.refl _) ?_) (fun h1 => ?_)
      · rw [decide_eq_false (by omega : ¬ -1 ≤ r.pro)]; rfl
      rw [decide_eq_true (by omega : -1 ≤ r.pro)] at hj
      refine addrK_of rfl (a1.load1 1 rfl rfl (asI_of ?_))
      refine ifB_dec (fun h2 => hj _ _ (Go.Oct.Ext.refl _) ?_) (fun h2 => ?_)
      · rw [decide_eq_false (by omega : ¬ r.pro ≤ 255)]; rfl
      rw [decide_eq_true (by omega : r.pro ≤ 255)] at hj
      refine addrK_of rfl ((At.rsrc b1.at_ rfl).loadN l18s ?_)
      refine addrK_of rfl (a1.load1 0 rfl rfl (asI_of ?_))
      refine c68 o.src _ fun g2 x2 => asB_of ?_
      rw [sp]
      refine ifB_of (fun h3 => hj _ _ x2 ?_) (fun h3 => ?_)
      · have : r.pok r.src = false := by simpa using h3
        rw [this]; rfl
      have h3' : r.pok r.src = true := by simpa using h3
      rw [h3'] at hj
      refine addrK_of rfl ((At.rdst o (b1.ext x2).at_ rfl).loadN l18d ?_)
      refine addrK_of rfl ((a1.ext x2).load1 0 rfl rfl (asI_of ?_))
      refine c68 o.dst _ fun g3 x3 => asB_of (hj _ _ (x2.trans x3) ?_)
      rw [sp]; rfl
    refine addrK_of rfl (a1.load1 0 rfl rfl (asI_of ?_))
    refine ifB_ne (fun h1 => ?_) (fun h1 => hp (by simp [verok, h1]))
    refine addrK_of rfl (a1.load1 0 rfl rfl (asI_of ?_))
    refine ifB_ne (fun h2 => ?_) (fun h2 => hp (by simp [verok, h2]))
    refine addrK_of rfl (a1.load1 0 rfl rfl (asI_of ?_))
    refine ifB_ne (fun h3 => hj _ _ (Go.Oct.Ext.refl _) (by simp [verok, h1, h2, h3])) (fun h3 => hp (by simp [verok, h3]))
  rintro b28 g3 ⟨x23, rfl⟩
  have x13 := x1.trans x23
  rw [← Bool.and_assoc] at hk
  generalize hA : ((verok r && (decide (-1 ≤ r.pro) && decide (r.pro ≤ 255))) && (r.pok r.src && r.pok r.dst)) = A at *
  refine ifB_of (fun h1 => ?_) (fun h1 => ?_)
  · have : A = false := by simpa using h1
    rw [this, Bool.false_and] at hk
    exact hk g3 x13
  have hAt : A = true := by simpa using h1
  rw [hAt, Bool.true_and] at hk
  have atl := At.rtl o (b1.ext x23).at_ rfl
  refine addrK_of rfl (atl.load1 0 rfl rfl (asI_of ?_))
  refine addrK_of rfl (atl.load1 1 rfl rfl (asI_of ?_))
  refine ifB_dec (fun h2 => ?_) (fun h2 => ?_)
  · rw [decide_eq_true h2, Bool.true_and] at hk
    refine addrK_of rfl (atl.load1 2 rfl rfl (asI_of ?_))
    refine addrK_of rfl (atl.load1 3 rfl rfl (asI_of ?_))
    refine ifB_dec (fun h3 => ?_) (fun h3 => ?_)
    · rw [decide_eq_true h3, Bool.true_and] at hk
      unfold clsok at hk
      refine addrK_of rfl (atl.load1 5 rfl rfl (asI_of ?_))
      refine ifB_dec (fun h3 => ?_) (fun h3 => ?_)
      · rw [decide_eq_true (show 0 ≤ r.cls from h3), Bool.true_and] at hk
        refine addrK_of rfl (atl.load1 5 rfl rfl (asI_of ?_))
        refine ifB_dec (fun h4 => ?_) (fun h4 => ?_)
        · rw [decide_eq_true (show r.cls < 8 by omega), Bool.true_and] at hk
          refine addrK_of rfl (atl.load1 4 rfl rfl (asB_of ?_))
          refine ifB_of (fun h5 => ?_) (fun h5 => ?_)
          · rw [h5, Bool.true_or] at hk
            exact hk g3 x13
          · rw [h5, Bool.false_or] at hk
            refine addrK_of rfl (atl.load1 5 rfl rfl (asI_of ?_))
            rw [beq_dec]
            exact hk g3 x13
        · rw [decide_eq_false (show ¬ r.cls < 8 by omega), Bool.false_and] at hk
          exact hk g3 x13
      · rw [decide_eq_false (show ¬ 0 ≤ r.cls from h3), Bool.false_and] at hk
        exact hk g3 x13
    · rw [decide_eq_false h3, Bool.false_and] at hk
      exact hk g3 x13
  · rw [decide_eq_false h2, Bool.false_and, Bool.false_and] at hk
    exact hk g3 x13
/-- the reference's Covers -/
theorem c66 {r s : Ru} (or : r.ok) (os : s.ok) (hk : ∀ h', Go.Oct.Ext h h' → k (.bool (covers r s)) h') : callK Try.prog 66 #[.agg r.cells.toArray, .agg s.cells.toArray] h k := by
  refine call66 _ _ _ _ ?_
  unfold d66
  refine alloc_new fun p2 g1 y2 b2 x1 => alloc_new fun p3 g2 y3 b3 x2 => ?_
  have x12 := x1.trans x2
  have k2 := b2.ext x2
  have a2 := At.rhd k2.at_
  have a3 := At.rhd b3.at_
  have hk' : ∀ g, Go.Oct.Ext h g → ∀ b, b = ((h0 r s && L09.h1 r s) && (h2 r s && (h3 r s && ((decide (r.slo ≤ s.slo) && decide (s.shi ≤ r.shi)) && (decide (r.dlo ≤ s.dlo) && decide (s.dhi ≤ r.dhi)))))) → k (.bool b) g := by
    intro g e b hb
    rw [hb]
    have := hk g e
    unfold covers h4 h5 at this
    rw [Bool.and_assoc]
    exact this
  refine ⟨fun b g => g = g2 ∧ b = !(h0 r s && L09.h1 r s), ?_, ?_⟩
  · have hp : h0 r s = true → addrK (some ⟨p2, 0, none⟩) 1 (fun p16 => load1 p16 g2 (fun v17 => asI .i64 v17 (fun x17 => ifB (decide (x17 ≥ 0)) (addrK (some ⟨p2, 0, none⟩) 1 (fun p20 => load1 p20 g2 (fun v21 => asI .i64 v21 (fun x21 => addrK (some ⟨p3, 0, none⟩) 1 (fun p22 => load1 p22 g2 (fun v23 => asI .i64 v23 (fun x23 => g2 = g2 ∧ (x21 != x23) = !(h0 r s && L09.h1 r s)))))))) (g2 = g2 ∧ false = !(h0 r s && L09.h1 r s))))) := by
      intro hv
      rw [hv, Bool.true_and]
      unfold L09.h1
      refine addrK_of rfl (a2.load1 1 rfl rfl (asI_of ?_))
      refine ifB_dec (fun h1 => ?_) (fun h1 => ⟨rfl, ?_⟩)
      · refine addrK_of rfl (a2.load1 1 rfl rfl (asI_of ?_))
        refine addrK_of rfl (a3.load1 1 rfl rfl (asI_of ⟨rfl, ?_⟩))
        rw [decide_eq_false (show ¬ r.pro < 0 by omega), Bool.false_or, bne, beq_dec]
      · rw [decide_eq_true (show r.pro < 0 by omega)]; rfl
    refine addrK_of rfl (a2.load1 0 rfl rfl (asI_of ?_))
    refine ifB_ne (fun h1 => ?_) (fun h1 => hp (by simp [h0, h1]))
    refine addrK_of rfl (a2.load1 0 rfl rfl (asI_of ?_))
    refine addrK_of rfl (a3.load1 0 rfl rfl (asI_of ?_))
    refine ifB_ne (fun h2 => ⟨rfl, by simp [h0, h1, h2]⟩) (fun h2 => hp (by simp [h0, h2]))
  rintro b26 g ⟨rfl, rfl⟩
  generalize (h0 r s && L09.h1 r s) = A at *
  refine ifB_of (fun h1 => hk' g x12 _ (by
    have : A = false := by simpa using h1
    rw [this]; rfl)) (fun h1 => ?_)
  have hA : A = true := by simpa using h1
  rw [hA] at hk'
  simp only [Bool.true_and] at hk'
  refine addrK_of rfl ((At.rsrc k2.at_ rfl).loadN (Pf.len18 or.src) ?_)
  refine addrK_of rfl ((At.rsrc b3.at_ rfl).loadN (Pf.len18 os.src) ?_)
  refine c74 or.src os.src fun g3 x3 => asB_of ?_
  have x13 := x12.trans x3
  refine ifB_of (fun h2 => ?_) (fun h2 => ?_)
  · have hh : L09.h2 r s = true := h2
    rw [hh] at hk'
    simp only [Bool.true_and] at hk'
    refine addrK_of rfl ((At.rdst or (k2.ext x3).at_ rfl).loadN (Pf.len18 or.dst) ?_)
    refine addrK_of rfl ((At.rdst os (b3.ext x3).at_ rfl).loadN (Pf.len18 os.dst) ?_)
    refine c74 or.dst os.dst fun g4 x4 => asB_of ?_
    have x14 := x13.trans x4
    have t2 := At.rtl or (k2.ext (x3.trans x4)).at_ rfl
    have t3 := At.rtl os (b3.ext (x3.trans x4)).at_ rfl
    refine ifB_of (fun h3 => ?_) (fun h3 => ?_)
    · have hh : L09.h3 r s = true := h3
      rw [hh] at hk'
      simp only [Bool.true_and] at hk'
      refine addrK_of rfl (t2.load1 0 rfl rfl (asI_of ?_))
      refine addrK_of rfl (t3.load1 0 rfl rfl (asI_of ?_))
      refine ifB_dec (fun h4 => ?_) (fun h4 => hk' _ x14 _ (by rw [decide_eq_false h4]; rfl))
      rw [decide_eq_true h4] at hk'
      refine addrK_of rfl (t2.load1 1 rfl rfl (asI_of ?_))
      refine addrK_of rfl (t3.load1 1 rfl rfl (asI_of ?_))
      refine ifB_dec (fun h5 => ?_) (fun h5 => hk' _ x14 _ (by rw [decide_eq_false (show ¬ s.shi ≤ r.shi from h5)]; rfl))
      rw [decide_eq_true (show s.shi ≤ r.shi from h5)] at hk'
      refine addrK_of rfl (t2.load1 2 rfl rfl (asI_of ?_))
      refine addrK_of rfl (t3.load1 2 rfl rfl (asI_of ?_))
      refine ifB_dec (fun h6 => ?_) (fun h6 => hk' _ x14 _ (by rw [decide_eq_false h6]; rfl))
      rw [decide_eq_true h6] at hk'
      refine addrK_of rfl (t2.load1 3 rfl rfl (asI_of ?_))
      refine addrK_of rfl (t3.load1 3 rfl rfl (asI_of ?_))
      exact hk' _ x14 _ rfl
    · have hh : L09.h3 r s = false := h3
      exact hk' _ x14 _ (by rw [hh]; rfl)
  · have hh : L09.h2 r s = false := h2
    exact hk' _ x13 _ (by rw [hh]; rfl)
def restF2 (p2 p3 : Nat) (g : H) (J : Bool → H → Prop) : Prop := addrK (some ⟨p2, 0, none⟩) 1 (fun p30 => load1 p30 g (fun v31 => asI .i64 v31 (fun x31 => ifB (decide (x31 ≥ 0)) (addrK (some ⟨p2, 0, none⟩) 1 (fun p34 => load1 p34 g (fun v35 => asI .i64 v35 (fun x35 => addrK (some ⟨p3, 0, none⟩) 34 (fun p36 => load1 p36 g (fun v37 => asI .u8 v37 (fun x37 => J (x35 != (IntKind.wrap .i64 x37)) g))))))) (J false g))))
def restF1 (p2 p3 : Nat) (g : H) (J : Bool → H → Prop) : Prop := addrK (some ⟨p2, 0, none⟩) 0 (fun p19 => load1 p19 g (fun v20 => asI .i64 v20 (fun x20 => ifB (x20 == 6) (addrK (some ⟨p3, 0, none⟩) 0 (fun p23 => addrK p23 0 (fun p24 => load1 p24 g (fun v25 => asB v25 (fun b25 => ifB (!b25) (J true g) (restF2 p2 p3 g J)))))) (restF2 p2 p3 g J))))
set_option maxHeartbeats 1000000 in
/-- the reference's Fits -/
theorem c42 {r : Ru} (or : r.ok) {y : Ky} (oy : y.ok) (hk : ∀ h', Go.Oct.Ext h h' → k (.bool (fits r y)) h') : callK Try.prog 42 #[.agg r.cells.toArray, .agg y.cells.toArray] h k := by
  refine call42 _ _ _ _ ?_
  unfold d42
  refine alloc_new fun p2 g1 y2 b2 x1 => alloc_new fun p3 g2 y3 b3 x2 => ?_
  have x12 := x1.trans x2
  have k2 := b2.ext x2
  have hpb := oy.pro
  unfold isB at hpb
  have hk' : ∀ g, Go.Oct.Ext h g → ∀ b, b = ((r.right && (f0 r y && f1 r y)) && ((f2 r y && f3 r y) && (f4 r y && f5 r y))) → k (.bool b) g := by
    intro g e b hb
    rw [hb]
    have := hk g e
    unfold fits fitsAll at this
    simp only [Bool.and_assoc]
    exact this
  refine ⟨fun b g => Go.Oct.Ext g2 g ∧ b = !(r.right && (f0 r y && f1 r y)), ?_, ?_⟩
  · refine k2.at_.loadN (Ru.len44 or) ?_
    refine c41 or fun g3 x3 => asB_of ?_
    refine ifB_of (fun h1 => ⟨x3, ?_⟩) (fun h1 => ?_)
    · have : r.right = false := by simpa using h1
      rw [this]; rfl
    have hR : r.right = true := by simpa using h1
    rw [hR, Bool.true_and]
    have hv : r.ver = 0 ∨ r.ver = 4 ∨ r.ver = 6 := by
      rw [right_eq] at hR
      unfold verok at hR
      simp only [Bool.and_eq_true, Bool.or_eq_true, decide_eq_true_eq] at hR
      exact hR.1.1
    have a2 := At.rhd (k2.ext x3).at_
    have a3 := At.asix (At.ksrc (b3.ext x3).at_ rfl)
    have a3t := At.ktl oy (b3.ext x3).at_ rfl
    have hp : f0 r y = true → restF2 p2 p3 g3 (fun b g => Go.Oct.Ext g2 g ∧ b = !(f0 r y && f1 r y)) := by
      intro hv
      rw [hv]
      simp only [Bool.true_and]
      unfold restF2 f1
      refine addrK_of rfl (a2.load1 1 rfl rfl (asI_of ?_))
      refine ifB_dec (fun h1 => ?_) (fun h1 => ⟨x3, ?_⟩)
      · refine addrK_of rfl (a2.load1 1 rfl rfl (asI_of ?_))
        refine addrK_of rfl (a3t.load1 0 rfl rfl (asI_of ⟨x3, ?_⟩))
        rw [wrap64_id (by omega) (by omega), decide_eq_false (show ¬ r.pro < 0 by omega), Bool.false_or, bne, beq_dec]
      · rw [decide_eq_true (show r.pro < 0 by omega)]; rfl
    have hp2 : (r.ver = 4 → y.src.six = false) → restF1 p2 p3 g3 (fun b g => Go.Oct.Ext g2 g ∧ b = !(f0 r y && f1 r y)) := by
      intro h4
      unfold restF1
      refine addrK_of rfl (a2.load1 0 rfl rfl (asI_of ?_))
      refine ifB_eq (fun h6 => ?_) (fun h6 => hp ?_)
      · refine addrK_of rfl (addrK_of rfl (a3.load1 0 rfl rfl (asB_of ?_)))
        refine ifB_of (fun h7 => ⟨x3, ?_⟩) (fun h7 => hp ?_)
        · have : y.src.six = false := by simpa using h7
          simp [f0, kver, this, h6]
        · have : y.src.six = true := by simpa using h7
          simp [f0, kver, this, h6]
      · rcases hv with h | h | h
        · simp [f0, h]
        · simp [f0, h, kver, h4 h]
        · exact absurd h h6
    refine addrK_of rfl (a2.load1 0 rfl rfl (asI_of ?_))
    refine ifB_eq (fun h4 => ?_) (fun h4 => hp2 (fun h => absurd h h4))
    refine addrK_of rfl (addrK_of rfl (a3.load1 0 rfl rfl (asB_of ?_)))
    refine ifB_of (fun h5 => ⟨x3, ?_⟩) (fun h5 => hp2 (fun _ => h5))
    simp [f0, kver, h4, h5]
  rintro b41 g3 ⟨x3, rfl⟩
  generalize (r.right && (f0 r y && f1 r y)) = A at *
  have x13 := x12.trans x3
  refine ifB_of (fun h1 => hk' g3 x13 _ (by
    have : A = false := by simpa using h1
    rw [this]; rfl)) (fun h1 => ?_)
  have hA : A = true := by simpa using h1
  rw [hA] at hk'
  simp only [Bool.true_and] at hk'
  have k23 := k2.ext x3
  have b33 := b3.ext x3
  refine ⟨fun b g => Go.Oct.Ext g3 g ∧ b = !(f2 r y && f3 r y), ?_, ?_⟩
  · have hp : ∀ g, Go.Oct.Ext g3 g → f2 r y = true → addrK (some ⟨p2, 0, none⟩) 20 (fun p55 => loadN 18 p55 g (fun c56 => callK Try.prog 69 #[(.agg c56)] g (fun v57 h => asB v57 (fun b57 => ifB (!b57) (addrK (some ⟨p2, 0, none⟩) 20 (fun p60 => loadN 18 p60 h (fun c61 => addrK (some ⟨p3, 0, none⟩) 17 (fun p62 => loadN 17 p62 h (fun c63 => callK Try.prog 70 #[(.agg c61), (.agg c63)] h (fun v64 h => asB v64 (fun b64 => Go.Oct.Ext g3 h ∧ (!b64) = !(f2 r y && f3 r y)))))))) (Go.Oct.Ext g3 h ∧ false = !(f2 r y && f3 r y)))))) := by
      intro g e hf
      rw [hf, Bool.true_and]
      unfold f3
      refine addrK_of rfl ((At.rdst or (k23.ext e).at_ rfl).loadN (Pf.len18 or.dst) ?_)
      refine c69 or.dst fun g4 x4 => asB_of ?_
      refine ifB_of (fun h2 => ?_) (fun h2 => ⟨e.trans x4, ?_⟩)
      · have hn : r.dst.none = false := by simpa using h2
        rw [hn, Bool.false_or]
        refine addrK_of rfl ((At.rdst or (k23.ext (e.trans x4)).at_ rfl).loadN (Pf.len18 or.dst) ?_)
        refine addrK_of rfl ((At.kdst oy (b33.ext (e.trans x4)).at_ rfl).loadN (Ad.len17 oy.dst) ?_)
        exact c70 or.dst oy.dst fun g5 x5 => asB_of ⟨e.trans (x4.trans x5), rfl⟩
      · have hn : r.dst.none = true := by simpa using h2
        rw [hn]; rfl
    refine addrK_of rfl ((At.rsrc k23.at_ rfl).loadN (Pf.len18 or.src) ?_)
    refine c69 or.src fun g4 x4 => asB_of ?_
    refine ifB_of (fun h2 => ?_) (fun h2 => hp g4 x4 ?_)
    · have hn : r.src.none = false := by simpa using h2
      refine addrK_of rfl ((At.rsrc (k23.ext x4).at_ rfl).loadN (Pf.len18 or.src) ?_)
      refine addrK_of rfl ((At.ksrc (b33.ext x4).at_ rfl).loadN (Ad.len17 oy.src) ?_)
      refine c70 or.src oy.src fun g5 x5 => asB_of ?_
      refine ifB_of (fun h3 => ⟨x4.trans x5, ?_⟩) (fun h3 => hp g5 (x4.trans x5) ?_)
      · have : r.src.has y.src = false := by simpa using h3
        simp [f2, hn, this]
      · have : r.src.has y.src = true := by simpa using h3
        simp [f2, this]
    · have hn : r.src.none = true := by simpa using h2
      simp [f2, hn]
  rintro b67 g4 ⟨x4, rfl⟩
  generalize (f2 r y && f3 r y) = B at *
  have x14 := x13.trans x4
  refine ifB_of (fun h1 => hk' g4 x14 _ (by
    have : B = false := by simpa using h1
    rw [this]; rfl)) (fun h1 => ?_)
  have hB : B = true := by simpa using h1
  rw [hB] at hk'
  simp only [Bool.true_and] at hk'
  have t2 := At.rtl or (k23.ext x4).at_ rfl
  have t3 := At.ktl oy (b33.ext x4).at_ rfl
  refine addrK_of rfl (t2.load1 0 rfl rfl (asI_of ?_))
  refine addrK_of rfl (t2.load1 1 rfl rfl (asI_of ?_))
  refine addrK_of rfl (t3.load1 1 rfl rfl (asI_of ?_))
  refine addrK_of rfl (t3.load1 0 rfl rfl (asI_of ?_))
  refine c71 _ _ _ y (asB_of ?_)
  refine ifB_of (fun h2 => ?_) (fun h2 => ?_)
  · have hh : f4 r y = true := h2
    rw [hh] at hk'
    simp only [Bool.true_and] at hk'
    refine addrK_of rfl (t2.load1 2 rfl rfl (asI_of ?_))
    refine addrK_of rfl (t2.load1 3 rfl rfl (asI_of ?_))
    refine addrK_of rfl (t3.load1 2 rfl rfl (asI_of ?_))
    refine addrK_of rfl (t3.load1 0 rfl rfl (asI_of ?_))
    exact c71 _ _ _ y (asB_of (hk' _ x14 _ rfl))
  · have hh : f4 r y = false := h2
    exact hk' _ x14 _ (by rw [hh]; rfl)
end
end Go.Proofs.Ytkhlollengamdaa
