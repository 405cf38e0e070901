/- What is proved: contracts of functions that the law calls, and of the law itself, over any heap. Conditions stand in each theorem. -/
import Derived.Test.YtoifdnmbhdjhhaaXK29h
set_option linter.unusedSimpArgs false
set_option linter.unusedVariables false
namespace Go.Proofs.Ytoifdnmbhdjhhaa
open Go.Oct Go.Oct.L01

theorem ent_one (E N P : Int) (A : Option Addr) (n c : Nat) : OneCells (ent E N P (.slice A n c)).toList := by simp [OneCells, ent, Value.oneCell']
theorem ack_one (D E N : Int) : OneCells (ack D E N).toList := by simp [OneCells, ack, Value.oneCell']
/-- a value is put into a new variable -/
theorem newVar {cells : Array Value} {e n : Nat} {g : H} {xs : Array Value} {k : Option Addr → H → Prop} (hc : cells.size = n) (hx : xs.size = n) (h1 : OneCells xs.toList) (hk : ∀ b g', g.size ≤ b → Blk g' b xs e → Ext g g' → k (some ⟨b, 0, none⟩) g') :
    allocK cells e g (fun p h => storeK n p xs h (fun h => k p h)) := by
  refine alloc_new fun b g1 lb bb x1 => store_blk bb hx (by omega) h1 fun g2 b2 m2 => ?_
  have e1 : over cells 0 xs.toList = xs := by
    apply Array.ext'
    rw [over_list _ _ _ (by simp; omega)]
    simp [List.drop_of_length_le, hc, hx]
  rw [e1] at b2
  exact hk b g2 lb b2 (x1.then m2 (fun i hi => by subst hi; exact lb))

/-- CollectorFrames -/
theorem c4 (E N P : Int) (A : Option Addr) (n q : Nat) (bs : List Int) (D E1 N1 : Int) (Em Nm : Int) (B : Option Addr) (m r : Nat) (ys : List Int) (h : H) (k : Value → H → Prop)
    (hE : u32B E) (hN : u64B N) (hP : u32B P) (hD : u32B D) (hE1 : u32B E1) (hN1 : u64B N1) (hr : RowH h A n (bs.map bf).toArray) (hb : ∀ x ∈ bs, isB x)
    (hs : RowH h B m (ys.map bf).toArray) (hq : m ≤ r) (hy : ∀ x ∈ ys, isB x) (hk : ∀ h', Ext h h' → k (.bool true) h') :
    callK Try.prog 4 #[.agg (ent E N P (.slice A n q)), .agg (ack D E1 N1), .agg #[.int .u32 Em, .int .u64 Nm], .slice B m r] h k := by
  refine call4 _ _ _ _ _ _ _ _ ?_
  unfold d4
  refine alloc_new fun p4 h1 _ b4 e1 => alloc_new fun p5 h2 _ b5 e2 => alloc_new fun p6 h3 _ b6 e3 => ?_
  have b5 := b5.ext e3
  have b4 := b4.ext (e2.trans e3)
  have e13 := e1.trans (e2.trans e3)
  clear e1 e2 e3
  refine ⟨fun b g => g = h3 ∧ b = decide (400 < n ∨ 400 < m), ?_, ?_⟩
  · refine addrK_of rfl (b4.at_.load1 3 rfl rfl (asS_of ?_))
    exact ifB_dec (fun h1 => ⟨rfl, by simp; omega⟩) (fun h1 => ⟨rfl, by simp only [decide_eq_decide]; omega⟩)
  rintro b g ⟨rfl, rfl⟩
  refine ifB_dec (fun h1 => ?_) (fun hsm => ?_)
  · exact c5 _ _ fun h' e => asB_of (hk h' (e13.trans e))
  have hn : n ≤ 400 := by omega
  have hm : m ≤ 400 := by omega
  clear hsm
  refine b4.at_.loadN rfl ?_
  refine c8 E N P A n q bs g _ (hr.ext e13) (by omega) fun A9 q9 g1 x1 l9 => asA_of rfl ?_
  refine newVar (by simp) rfl (ent_one _ _ _ _ _ _) fun p9 g2 _ b9 x2 => ?_
  refine b9.at_.loadN rfl ?_
  have l9' := Lst.row (f := bf) (l9.ext x2)
  refine k9 E N P A9 n q9 bs g2 _ hE hN hP l9' hn fun Aw nw cw g3 x3 lw hnw => asT2_of (asS_of (asI_of ?_))
  have e3 := e13.trans (x1.trans (x2.trans x3))
  refine k10 B m r ys g3 _ (hs.ext e3) hq (by omega) hy fun Ay ny cy g4 x4 ly hny => asT2_of (asA_of rfl (asI_of ?_))
  refine newVar (by simp) rfl (ent_one _ _ _ _ _ _) fun p12 g5 _ b12 x5 => ?_
  have e5 := e3.trans (x4.trans x5)
  refine k11 B m r ys g5 _ (hs.ext e5) hq (by omega) hy fun g6 x6 => asT2_of (asA_of rfl (asI_of ?_))
  refine newVar (by simp) rfl (ack_one _ _ _) fun p14 g7 _ b14 x7 => ?_
  have e7 := e5.trans (x6.trans x7)
  have b4 := b4.ext (x1.trans (x2.trans (x3.trans (x4.trans (x5.trans (x6.trans x7))))))
  have b5 := b5.ext (x1.trans (x2.trans (x3.trans (x4.trans (x5.trans (x6.trans x7))))))
  have b6 := b6.ext (x1.trans (x2.trans (x3.trans (x4.trans (x5.trans (x6.trans x7))))))
  have b9 := b9.ext (x3.trans (x4.trans (x5.trans (x6.trans x7))))
  have l9 := l9.ext (x2.trans (x3.trans (x4.trans (x5.trans (x6.trans x7)))))
  have lw := lw.ext (x4.trans (x5.trans (x6.trans x7)))
  have ly := ly.ext (x5.trans (x6.trans x7))
  have b12 := b12.ext (x6.trans x7)
  have hdx : ∀ x ∈ dX E N P bs, isB x := dX_isB hb
  have hry : ∀ x ∈ rR ys, isB x := rR_isB hy
  refine ⟨fun b x g => 0 ≤ x ∧ x ≤ 2 ∧ Ext g7 g, fun b x g => (2 - x).toNat, ⟨by omega, by omega, Ext.refl _⟩, ?_⟩
  clear x1 x2 x3 x4 x5 x6 x7 e3 e5
  rintro b8 x16 g8 ⟨hx0, hx2, x8⟩
  have e8 := e7.trans x8
  have b4 := b4.ext x8
  have b5 := b5.ext x8
  have b6 := b6.ext x8
  have b9 := b9.ext x8
  have l9 := l9.ext x8
  have lw := lw.ext x8
  have ly := ly.ext x8
  have b12 := b12.ext x8
  have b14 := b14.ext x8
  refine ifB_dec (fun hlt => ?_) (fun hge => ?_)
  rotate_left
  · refine draw_ext (b4.at_.loadSN rfl (b6.at_.loadSN rfl (b9.at_.loadSN rfl ?_)))
    refine addrK_of rfl (b6.at_.loadS1 0 rfl rfl (asI_of ?_))
    refine addrK_of rfl (b6.at_.loadS1 1 rfl rfl (asI_of ?_))
    refine c7 E N P Em Nm _ _ _ fun g9 x9 => asI_of ⟨x9, ?_⟩
    refine c21 E N P Em Nm _ _ _ fun g10 x10 => asI_of ?_
    refine ifB_eq (fun _ => ?_) (fun hn => absurd rfl hn)
    exact c5 _ _ fun h' e => asB_of (hk h' (e8.trans (x9.trans (x10.trans e))))
  refine b4.at_.loadN rfl ?_
  refine k12 E N P A n q bs g8 _ hE hN hP (hr.ext e8) hn fun Ad nd cd g9 x9 ld hnd => asT2_of (asS_of (asI_of ?_))
  have e9 := e8.trans x9
  have hAd : ∀ i, blkOf Ad i → i < g9.size := fun i hi => ld.2.lt hi
  refine k13 B m r ys g9 _ (hs.ext e9) hq (by omega) hy fun Az nz cz g10 x10 lz hnz => asT2_of (asA_of rfl (asI_of ?_))
  have hAzlt : ∀ i, blkOf Az i → i < g10.size := fun i hi => lz.2.lt hi
  refine newVar (by simp) rfl (ent_one _ _ _ _ _ _) fun p19 g11 y19 b19 x11 => ?_
  have e11 := e9.trans (x10.trans x11)
  refine k14 B m r ys g11 _ (hs.ext e11) hq (by omega) hy fun g12 x12 => asT2_of (asA_of rfl (asI_of ?_))
  refine newVar (by simp) rfl (ack_one _ _ _) fun p21 g13 y21 b21 x13 => ?_
  have b5' := b5.ext (x9.trans (x10.trans (x11.trans (x12.trans x13))))
  refine b5'.at_.loadN rfl ?_
  refine c15 D E1 N1 g13 _ hD hE1 hN1 fun Ap cp g14 x14 lp => asS_of ?_
  have x814 := x9.trans (x10.trans (x11.trans (x12.trans (x13.trans x14))))
  have b5' := b5.ext x814
  have b9' := b9.ext x814
  have b12' := b12.ext x814
  have b14' := b14.ext x814
  have l9' := l9.ext x814
  have lw' := lw.ext x814
  have ly' := ly.ext x814
  have ld := ld.ext (x10.trans (x11.trans (x12.trans (x13.trans x14))))
  have lz := lz.ext (x11.trans (x12.trans (x13.trans x14)))
  have b19 := b19.ext (x12.trans (x13.trans x14))
  have b21 := b21.ext x14
  refine ⟨fun b g => b = false ∧ Ext g14 g, ?_, ?_⟩
  · refine draw_ext (ifB_ne (fun hn => absurd rfl hn) (fun _ => ?_))
    refine c16 _ _ _ (dX E N P bs) _ _ _ (dX E N P bs) g14 _ (Lst.row (f := bf) ld) (Lst.row (f := bf) lw') hdx hdx (asB_of ⟨Ext.refl _, ?_⟩)
    rw [decide_eq_true rfl]
    refine (show ifB false _ _ from ifB_ne (fun hn => absurd rfl hn) (fun _ => ?_))
    refine b19.at_.loadSN rfl (b12'.at_.loadSN rfl ?_)
    refine c8 _ _ _ Az nz cz (rR ys) g14 _ (Lst.row (f := bf) lz) (by omega) fun A92 q92 g15 x15 l92 => asA_of rfl ⟨x15, ?_⟩
    refine c17 _ _ _ _ _ _ A92 nz q92 (rR ys) Ay ny cy (rR ys) g15 _ (Lst.row (f := bf) l92) (Lst.row (f := bf) (ly'.ext x15)) hry hry fun g16 x16 => asB_of ⟨x15.trans x16, ?_⟩
    rw [decide_eq_true ⟨rfl, rfl, rfl, rfl⟩]
    refine (show ifB false _ _ from ifB_ne (fun hn => absurd rfl hn) (fun _ => ?_))
    refine b21.at_.loadSN rfl (b14'.at_.loadSN rfl ?_)
    refine c18 _ _ _ g16 _ fun g17 x17 => asA_of rfl ⟨x15.trans (x16.trans x17), ?_⟩
    refine eq46 _ _ _ _ _ _ ?_
    rw [decide_eq_true ⟨rfl, rfl, rfl⟩]
    refine (show ifB false _ _ from b5'.at_.loadSN rfl ?_)
    refine c18 _ _ _ g17 _ fun g18 x18 => asA_of rfl ?_
    refine c19 D E1 N1 g18 _ hD hE1 hN1 fun Aq cq g19 x19 lq => asS_of ?_
    have x1419 := x15.trans (x16.trans (x17.trans (x18.trans x19)))
    refine c16 _ _ _ (ackB D E1 N1) _ _ _ (ackB D E1 N1) g19 _ (Lst.row (f := bf) (lp.ext x1419)) (Lst.row (f := bf) lq) ackB_isB ackB_isB (asB_of ?_)
    exact ⟨by simp, x1419⟩
  rintro b g15 ⟨rfl, x15⟩
  refine (show ifB false _ _ from ?_)
  rw [ifB_false]
  have ld := ld.ext x15
  have lp := lp.ext x15
  have lz := lz.ext x15
  have b19 := b19.ext x15
  have b5' := b5'.ext x15
  have b9' := b9'.ext x15
  have l9' := l9'.ext x15
  have hacp := ack_parse hD hE1 hN1
  refine k13 Ad nd cd (dX E N P bs) g15 _ (Lst.row (f := bf) ld) ld.2.le hnd hdx fun A24 n24 c24 g16 x16' l24 hn24 => asT2_of (asA_of rfl (asI_of ?_))
  refine newVar (by simp) rfl (ent_one _ _ _ _ _ _) fun p24 g17 y24 b24 x17 => ?_
  refine k14 Ap 17 cp (ackB D E1 N1) g17 _ (Lst.row (f := bf) (lp.ext (x16'.trans x17))) lp.2.le (by omega) ackB_isB fun g18 x18 => asT2_of (asA_of rfl (asI_of ?_))
  refine newVar (by simp) rfl (ack_one _ _ _) fun p26 g19 y26 b26 x19 => ?_
  have x1519 := x16'.trans (x17.trans (x18.trans x19))
  have e26 : ack (kD (ackB D E1 N1)) (kE (ackB D E1 N1)) (kN' (ackB D E1 N1)) = ack D E1 N1 := by
    unfold kD kE kN'
    rw [if_pos hacp.1, if_pos hacp.1, if_pos hacp.1, hacp.2.1, hacp.2.2.1, hacp.2.2.2]
  rw [e26] at b26
  have eke : kErr (ackB D E1 N1) = 0 := by unfold kErr; rw [if_pos hacp.1]
  rw [eke]
  have b5' := b5'.ext x1519
  have b9' := b9'.ext x1519
  have l9' := l9'.ext x1519
  have b24 := b24.ext (x18.trans x19)
  have l24 := l24.ext (x17.trans (x18.trans x19))
  have last : ∀ (K : Bool → H → Prop) g, Ext g19 g → K false g → ifB ((0 : Int) != 0) (K true g) (loadSN 3 (fun g => Ext g19 g) (some ⟨p26, 0, none⟩) (fun c148 => loadSN 3 (fun g => Ext g19 g) (some ⟨p5, 0, none⟩) (fun c149 => eqAggK Try.prog 36 c148 c149 (fun z150 => K (!z150) g)))) := by
    intro K g xg hK
    refine ifB_ne (fun hn => absurd rfl hn) (fun _ => ?_)
    refine b26.at_.loadSN rfl (b5'.at_.loadSN rfl ?_)
    refine eq36 _ _ _ _ _ _ ?_
    rw [decide_eq_true ⟨rfl, rfl, rfl⟩]
    exact hK
  refine ⟨fun b g => b = false ∧ Ext g19 g, draw_ext ?_, ?_⟩
  · by_cases hm : mayB E N P = true
    · obtain ⟨d1, d2, d3, d4, d5⟩ := data_parse (bs := bs) hE hN hP hm
      have edx : dX E N P bs = dataB E N P bs := by unfold dX; rw [if_pos hm]
      have eer : dErr E N P = 0 := by unfold dErr; rw [if_pos hm]
      have err : rErr (dX E N P bs) = 0 := by rw [edx]; unfold rErr; rw [if_pos d1]
      rw [eer, err]
      refine ifB_ne (fun hn => absurd rfl hn) (fun _ => ifB_eq (fun _ => ?_) (fun hn => absurd rfl hn))
      have ebk : ent (rE (dX E N P bs)) (rN (dX E N P bs)) (rP (dX E N P bs)) (.slice A24 n24 c24) = ent E N P (.slice A24 n24 c24) := by
        rw [edx]; unfold rE rN rP; rw [if_pos d1, if_pos d1, if_pos d1, d2, d3, d4]
      have erb : rR (dX E N P bs) = bs := by rw [edx]; unfold rR; rw [if_pos d1, d5]
      rw [ebk] at b24
      rw [erb] at l24
      refine b24.at_.loadSN rfl (b9'.at_.loadSN rfl ?_)
      refine c8 E N P A24 n24 c24 bs g19 _ (Lst.row (f := bf) l24) (by omega) fun A37 q37 g20 x20 l37 => asA_of rfl ⟨x20, ?_⟩
      refine c17 _ _ _ _ _ _ A37 n24 q37 bs A9 n q9 bs g20 _ (Lst.row (f := bf) l37) (Lst.row (f := bf) (l9'.ext x20)) hb hb fun g21 x21 => asB_of ⟨x20.trans x21, ?_⟩
      rw [decide_eq_true ⟨rfl, rfl, rfl, rfl⟩]
      exact last (fun b g => b = false ∧ Ext g19 g) g21 (x20.trans x21) ⟨rfl, x20.trans x21⟩
    · have edx : dX E N P bs = [] := by unfold dX; rw [if_neg hm]
      have eer : dErr E N P = 290 := by unfold dErr; rw [if_neg hm]
      have err : rErr (dX E N P bs) = 290 := by
        rw [edx]; unfold rErr; rw [if_neg (by decide)]
      rw [eer, err]
      refine ifB_ne (fun _ => ifB_eq (fun hn => absurd hn (by decide)) (fun _ => ifB_eq (fun hn => absurd hn (by decide)) (fun _ => ?_))) (fun hn => absurd hn (by decide))
      exact last (fun b g => b = false ∧ Ext g19 g) g19 (Ext.refl _) ⟨rfl, Ext.refl _⟩
  rintro b g20 ⟨rfl, x20⟩
  rw [ifB_false]
  have x1520 := x1519.trans x20
  have ld := ld.ext x1520
  have lp := lp.ext x1520
  have lz := lz.ext x1520
  have b19 := b19.ext x1520
  have xall : Ext g8 g20 := x814.trans (x15.trans x1520)
  have s9 := x9.size
  have s10 := x10.size
  have s11 := x11.size
  have s12 := x12.size
  have s13 := x13.size
  have hp19 : p19 < g13.size := by
    have : p19 < g11.size := (Blk.lt (h := g11) (by assumption : Blk g11 p19 _ _))
    omega
  refine c20 Ad nd cd g8.size _ g20 _ ld (by omega) fun v1 g21 m1 => ?_
  have lp := lp.mod m1 (fun i hi hd => by have h1 := lp.2.base_le hi; have h2 := hAd i hd; omega)
  have lz := lz.mod m1 (fun i hi hd => by have h1 := lz.2.base_le hi; have h2 := hAd i hd; omega)
  have b19 := b19.mod m1 (fun hd => by have h2 := hAd _ hd; omega)
  have y1 := xall.then m1 (fun i hi => ld.2.base_le hi)
  refine c20 Ap 17 cp g13.size _ g21 _ lp (by omega) fun v2 g22 m2 => ?_
  have b19 := b19.mod m2 (fun hd => by have h2 := lp.2.base_le hd; omega)
  have y2 := y1.then m2 (fun i hi => by have h2 := lp.2.base_le hi; omega)
  refine addrK_of rfl (b19.at_.load1 3 rfl rfl (asS_of ?_))
  have hlz : ∃ zs, Byt g22 g9.size Az nz cz zs := by
    by_cases hAz : ∀ i, blkOf Az i → ¬ blkOf Ap i
    · exact ⟨_, lz.mod m2 hAz⟩
    · exact absurd (fun i hi hd => by have h1 := hAzlt i hi; have h2 := lp.2.base_le hd; omega) hAz
  obtain ⟨zs, lz⟩ := hlz
  refine c20 Az nz cz g9.size _ g22 _ lz (by omega) fun v3 g23 m3 => ?_
  have y3 := y2.then m3 (fun i hi => by have h2 := lz.2.base_le hi; omega)
  refine ⟨⟨by rw [wrap64_id (by omega) (by omega)]; omega, by rw [wrap64_id (by omega) (by omega)]; omega, x8.trans y3⟩, ?_⟩
  rw [wrap64_id (by omega) (by omega)]
  dsimp only
  omega
end Go.Proofs.Ytoifdnmbhdjhhaa
