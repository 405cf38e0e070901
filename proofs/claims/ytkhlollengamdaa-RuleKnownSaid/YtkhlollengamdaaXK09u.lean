/- What is proved: contracts of functions that the law calls, and of the law itself, over any heap. Conditions stand in each theorem. -/
import Derived.Test.YtkhlollengamdaaXK09t
import Derived.Test.YtkhlollengamdaaXOctT
set_option linter.unusedSimpArgs false
set_option linter.unusedVariables false
namespace Go.Proofs.Ytkhlollengamdaa
open Go.Oct Go.Oct.L09
def zKy : Ky := ⟨zA, zA, 0, 0, 0⟩
theorem zKy_ok : zKy.ok := ⟨zA_ok, zA_ok, by decide, by decide, by decide⟩
def protL : List Int := [6, 17, 1, 58]
theorem ky_fill {y : Ky} (o : y.ok) {z : Array Value} (hz : z.size = 37) {k : Array Value → Prop} (hk : k y.cells.toArray) : fillK (placeL [(0, 17), (17, 17), (34, 1), (35, 1), (36, 1)]) z [(0, .agg y.src.cells.toArray), (1, .agg y.dst.cells.toArray), (2, .int .u8 y.pro), (3, .int .u16 y.sp), (4, .int .u16 y.dp)] k := by
  have l1 := Ad.len17 o.src
  have l2 := Ad.len17 o.dst
  refine fill_all [.agg y.src.cells.toArray, .agg y.dst.cells.toArray, .int .u8 y.pro, .int .u16 y.sp, .int .u16 y.dp] (cs := y.cells) ⟨by simp [Value.cells, l1, placeL], by simp [Value.cells, l1, l2, placeL], by simp [Value.cells, l1, l2, placeL], by simp [Value.cells, l1, l2, placeL], by simp [Value.cells, l1, l2, placeL], trivial⟩ (by simp [Value.cells, Ky.cells]) (by rw [Ky.len37 o, hz]) hk
/-- the end of a round: the key is put behind the others -/
def keyFill (A3 : Option Addr) (n3 c3 : Nat) (c24 c27 : Array Value) (pv x3 x4 : Int) (h : H) (J : Option Addr → Nat → Nat → H → Prop) : Prop :=
  fillK (placeL [(0, 17), (17, 17), (34, 1), (35, 1), (36, 1)]) zKy.cells.toArray [(0, (.agg c24)), (1, (.agg c27)), (2, (.int .u8 pv)), (3, (.int .u16 x3)), (4, (.int .u16 x4))] (fun c39 => fillK (fun i => some (i * 37, 37)) zKy.cells.toArray [(0, (.agg c39))] (fun c40 => allocK c40 28 h (fun p40 h => srcK 37 (.slice p40 1 1) h (fun cs41 m41 => appendK 28 37 40 zKy.cells.toArray A3 n3 c3 cs41 m41 h (fun A41 n41 c41 h => J A41 n41 c41 h)))))
theorem rows_blk {g : H} {p n : Nat} {l : List RS} (b : Blk g p (cellsOf RS.cells l) 43) (hn : l.length = n) : RowH g (some ⟨p, 0, none⟩) (n * 44) (cellsOf RS.cells l) := by
  have hs : (cellsOf RS.cells l).size = n * 44 := by rw [cellsOf_size RS.len, hn]
  have h1 := b.row 0 (n * 44) (by omega)
  have e : (cellsOf RS.cells l).extract 0 (0 + n * 44) = cellsOf RS.cells l := by
    apply Array.ext'
    rw [Array.toList_extract, List.extract_eq_take_drop, List.drop_zero, List.take_of_length_le (by simp [hs])]
  rwa [e] at h1
theorem make65 {g : H} {k : Option Addr → Nat → Nat → H → Prop} (hk : ∀ g' b, Go.Oct.Ext g g' → Blk g' b (cellsOf RS.cells (List.replicate 65 zRS)) 43 → k (some ⟨b, 0, none⟩) 65 65 g') : makeK 43 44 104 (RS.cells zRS).toArray 65 65 g k := by
  have e48 : (2 : Int) ^ 48 = 281474976710656 := by decide
  refine ⟨by decide, by decide, by decide, by omega, hk _ g.size (Go.Oct.Ext.push g _) ?_⟩
  rw [← made_list RS.len (by decide) zRS 65]
  exact Blk.new _ _ _
theorem no_keys {g : H} : RowH g none (0 * 37) (cellsOf KS.cells []) := ⟨rfl, fun h => absurd h (by decide)⟩
theorem no_rules {g : H} : RowH g none (0 * 44) (cellsOf RS.cells []) := ⟨rfl, fun h => absurd h (by decide)⟩
def odd : Ru := ⟨0, -1, zP, zP, 5, 4, 0, 65535, false, 0⟩
theorem odd_ok : odd.ok := ⟨(by decide : isL 0), (by decide : isL (-1)), zP_ok, zP_ok, (by decide : isW 5), (by decide : isW 4), (by decide : isW 0), (by decide : isW 65535), (by decide : isL 0)⟩
def den : Ru := ⟨0, -1, zP, zP, 0, 65535, 0, 65535, true, 1⟩
theorem den_ok : den.ok := ⟨(by decide : isL 0), (by decide : isL (-1)), zP_ok, zP_ok, (by decide : isW 0), (by decide : isW 65535), (by decide : isW 0), (by decide : isW 65535), (by decide : isL 1)⟩
section
variable {h : H} {k : Value → H → Prop}
theorem keyFill_of {g0 g : H} {base : Nat} {A3 : Option Addr} {n3 c3 : Nat} {ys : List KS} (l3 : Lst g0 base 28 KS.cells 37 A3 n3 c3 ys) (e : Go.Oct.Ext g0 g) (hb : base ≤ g0.size) (hn : n3 ≤ 100) {a b : Ad} (oa : a.ok) (ob : b.ok) {pv x3 x4 : Int} (hp : isB pv) (h3 : isW x3) (h4 : isW x4) {J : Option Addr → Nat → Nat → H → Prop}
    (hJ : ∀ A c h' y, Go.Oct.Mod g0 h' (blkOf A3) → Lst h' base 28 KS.cells 37 A (n3 + 1) c (ys ++ [y]) → J A (n3 + 1) c h') : keyFill A3 n3 c3 a.cells.toArray b.cells.toArray pv x3 x4 g J := by
  have oy : (⟨a, b, pv, x3, x4⟩ : Ky).ok := ⟨oa, ob, hp, h3, h4⟩
  unfold keyFill
  refine ky_fill oy rfl ?_
  refine fill_rows KS.len [⟨⟨a, b, pv, x3, x4⟩, oy⟩] (by simp [zKy, Ky.cells, Ad.cells, zA]) ?_
  refine alloc_new fun p40 g1 y40 b40 e1 => ?_
  refine src_blk b40 (by rw [cellsOf_size KS.len]; simp) ?_
  have ec : cellsOf KS.cells [⟨⟨a, b, pv, x3, x4⟩, oy⟩] = (KS.cells ⟨⟨a, b, pv, x3, x4⟩, oy⟩).toArray := by simp [cellsOf]
  rw [ec]
  have z := e.size
  have z1 := e1.size
  have l1 := l3.ext (e.trans e1)
  refine Lst.push KS.len l1 ⟨⟨a, b, pv, x3, x4⟩, oy⟩ (by simp [zKy, Ky.cells, Ad.cells, zA]) (KS.one _) (by decide) (by omega) (by omega) fun A' c' g2 l2 m2 d2 => ?_
  exact hJ A' c' g2 _ ((e.trans e1).mod.trans m2) l2
set_option maxRecDepth 8000 in
set_option maxHeartbeats 4000000 in
/-- RuleKnown -/
theorem c5 (hk : ∀ h', Go.Oct.Ext h h' → k (.bool true) h') : callK Try.prog 5 #[] h k := by
  refine call5 _ _ ?_
  unfold d5
  refine ⟨fun b0 x1 g => ∃ i : Nat, x1 = i ∧ i ≤ 150 ∧ Go.Oct.Ext h g, fun b0 x1 g => (150 - x1).toNat, ⟨0, rfl, by omega, Go.Oct.Ext.refl _⟩, ?_⟩
  rintro b0 x1 g ⟨i, rfl, hi, eg⟩
  refine ifB_dec (fun hlt => ?_) (fun hge => ?_)
  · rw [wrap64_id (by omega) (by omega)]
    refine c15 (by omega) (by omega) fun A14 n14 c14 xs g1 e1 l14 hn14 => asS_of ?_
    have hx14 := l14.1
    have z1 := e1.size
    refine ⟨fun A3 n3 c3 x4 g' => ∃ ys : List KS, x4 = n3 ∧ n3 ≤ 8 ∧ Go.Oct.Ext g1 g' ∧ Lst g' g1.size 28 KS.cells 37 A3 n3 c3 ys, fun A3 n3 c3 x4 g' => (8 - x4).toNat, ⟨[], rfl, by omega, Go.Oct.Ext.refl _, Lst.nil⟩, ?_⟩
    rintro A3 n3 q3 x4 g2 ⟨ys, rfl, hn8, e2, l3⟩
    have z2 := e2.size
    refine ifB_dec (fun hlt2 => ?_) (fun hge2 => ?_)
    · refine ⟨fun A n c g' => ∃ ys : List KS, n = n3 + 1 ∧ Go.Oct.Ext g1 g' ∧ Lst g' g1.size 28 KS.cells 37 A n c ys, ?_, ?_⟩
      · generalize hJ : (fun (A : Option Addr) (n c : Nat) (g' : H) => ∃ ys : List KS, n = n3 + 1 ∧ Go.Oct.Ext g1 g' ∧ Lst g' g1.size 28 KS.cells 37 A n c ys) = J
        have hj : ∀ A c h' y, Go.Oct.Mod g2 h' (blkOf A3) → Lst h' g1.size 28 KS.cells 37 A (n3 + 1) c (ys ++ [y]) → J A (n3 + 1) c h' := by
          intro A c h' y m l
          rw [← hJ]
          exact ⟨_, rfl, e2.then m (fun i hi => l3.2.base_le hi), l⟩
        clear hJ
        have q1 : (quad 10 (IntKind.wrap .u8 (i : Int)) 0 (IntKind.wrap .u8 (n3 : Int))).ok := quad_ok (by decide) (wrap8_isB _) (by decide) (wrap8_isB _)
        have q2 : (quad 9 9 9 (IntKind.wrap .u8 (i : Int))).ok := quad_ok (by decide) (by decide) (by decide) (wrap8_isB _)
        have fin : ∀ g x, Go.Oct.Ext g2 g → keyFill A3 n3 q3 (quad 10 (IntKind.wrap .u8 (i : Int)) 0 (IntKind.wrap .u8 (n3 : Int))).cells.toArray (quad 9 9 9 (IntKind.wrap .u8 (i : Int))).cells.toArray (IntKind.wrap .u8 x) (IntKind.wrap .u16 (IntKind.wrap .i64 ((n3 : Int) * 9))) (IntKind.wrap .u16 (i : Int)) g J := fun g x e => keyFill_of l3 e (by omega) (by omega) q1 q2 (wrap8_isB _) (wrap16_isW _) (wrap16_isW _) hj
        have e4 : Int.tmod (n3 : Int) 4 = ((n3 % 4 : Nat) : Int) := by rw [Int.tmod_eq_emod_of_nonneg (by omega)]; omega
        obtain ⟨pv, hpv⟩ : ∃ v, protL[n3 % 4]? = some v := ⟨_, List.getElem?_eq_getElem (by show n3 % 4 < 4; omega)⟩
        have r28 : ∀ g p, Blk g p (protL.map gf).toArray 3 → RowH g (some ⟨p, 0, none⟩) (4 * 1) (cellsOf (fun x => [gf x]) protL) := fun g p b => litI (xs := protL) b rfl
        refine draw_ext ⟨by decide, ?_, ?_⟩
        · refine c16 _ _ _ _ fun ga ea => asA_of rfl ⟨ea, ?_, ?_⟩
          · refine c16 _ _ _ _ fun gb eb => asA_of rfl ⟨ea.trans eb, ?_⟩
            refine alloc_new fun p28 gc yc bc ec => ⟨ea.trans (eb.trans ec), ?_⟩
            rw [e4]
            refine rowL_index (f := fun x => [gf x]) (sz := 1) (fun _ => rfl) (by decide) (r28 gc p28 bc) rfl hpv fun b q _ ha => ha.load1 0 rfl rfl (asI_of ⟨ea.trans (eb.trans ec), ?_⟩)
            exact fin gc pv (ea.trans (eb.trans ec))
          · refine alloc_new fun p28 gb yb bb eb => ⟨ea.trans eb, ?_⟩
            rw [e4]
            refine rowL_index (f := fun x => [gf x]) (sz := 1) (fun _ => rfl) (by decide) (r28 gb p28 bb) rfl hpv fun b q _ ha => ⟨?_, ?_⟩
            · refine c16 _ _ _ _ fun gc ec => asA_of rfl ⟨ea.trans (eb.trans ec), (ha.ext ec).load1 0 rfl rfl (asI_of ⟨ea.trans (eb.trans ec), ?_⟩)⟩
              exact fin gc pv (ea.trans (eb.trans ec))
            · refine ha.load1 0 rfl rfl (asI_of ⟨ea.trans eb, ?_⟩)
              refine c16 _ _ _ _ fun gc ec => asA_of rfl ⟨ea.trans (eb.trans ec), ?_⟩
              exact fin gc pv (ea.trans (eb.trans ec))
        · refine alloc_new fun p28 ga ya ba ea => ⟨ea, ?_⟩
          rw [e4]
          refine rowL_index (f := fun x => [gf x]) (sz := 1) (fun _ => rfl) (by decide) (r28 ga p28 ba) rfl hpv fun b q _ ha => ⟨?_, ?_⟩
          · refine c16 _ _ _ _ fun gb eb => asA_of rfl ⟨ea.trans eb, ?_, ?_⟩
            · refine c16 _ _ _ _ fun gc ec => asA_of rfl ⟨ea.trans (eb.trans ec), (ha.ext (eb.trans ec)).load1 0 rfl rfl (asI_of ⟨ea.trans (eb.trans ec), ?_⟩)⟩
              exact fin gc pv (ea.trans (eb.trans ec))
            · refine (ha.ext eb).load1 0 rfl rfl (asI_of ⟨ea.trans eb, ?_⟩)
              refine c16 _ _ _ _ fun gc ec => asA_of rfl ⟨ea.trans (eb.trans ec), ?_⟩
              exact fin gc pv (ea.trans (eb.trans ec))
          · refine ha.load1 0 rfl rfl (asI_of ⟨ea, ?_⟩)
            refine c16 _ _ _ _ fun gb eb => asA_of rfl ⟨ea.trans eb, ?_⟩
            refine c16 _ _ _ _ fun gc ec => asA_of rfl ⟨ea.trans (eb.trans ec), ?_⟩
            exact fin gc pv (ea.trans (eb.trans ec))
      rintro A n c g3 ⟨ys', rfl, e3, l3'⟩
      refine ⟨⟨ys', wrap64_id (by omega) (by omega), by omega, e3, l3'⟩, ?_⟩
      rw [wrap64_id (by omega) (by omega)]; dsimp only; omega
    · have h8 : n3 = 8 := by omega
      subst h8
      have hyl : ys.length = 8 := l3.1
      obtain ⟨y7, hy7⟩ : ∃ y, ys[7]? = some y := ⟨_, List.getElem?_eq_getElem (by omega)⟩
      obtain ⟨y6, hy6⟩ : ∃ y, ys[6]? = some y := ⟨_, List.getElem?_eq_getElem (by omega)⟩
      have o7 : ({ y7.1 with src := ⟨true, y7.1.src.b⟩ } : Ky).ok := { y7.2 with src := ⟨y7.2.src.len, y7.2.src.by_⟩ }
      have o6 : ({ y6.1 with dst := ⟨true, y6.1.dst.b⟩ } : Ky).ok := { y6.2 with dst := ⟨y6.2.dst.len, y6.2.dst.by_⟩ }
      refine Lst.spot KS.len l3 (j := 7) rfl hy7 fun b hst => addrK_of rfl (addrK_of rfl ?_)
      refine hst 0 1 _ _ ⟨_, o7⟩ [] [.bool y7.1.src.six] (y7.1.src.b.map bf ++ (y7.1.dst.cells ++ [.int .u8 y7.1.pro, .int .u16 y7.1.sp, .int .u16 y7.1.dp])) _ rfl rfl rfl rfl rfl (one2 rfl rfl) rfl fun g3 l3' m3 => ?_
      refine Lst.spot KS.len l3' (j := 6) rfl (by rw [List.getElem?_set_ne (by decide)]; exact hy6) fun b hst => addrK_of rfl (addrK_of rfl ?_)
      refine hst 17 1 _ _ ⟨_, o6⟩ y6.1.src.cells [.bool y6.1.dst.six] (y6.1.dst.b.map bf ++ [.int .u8 y6.1.pro, .int .u16 y6.1.sp, .int .u16 y6.1.dp]) _ rfl rfl (Ad.len17 y6.2.src).symm rfl rfl (one2 rfl rfl) rfl fun g4 l4 m4 => ?_
      have e4 : Go.Oct.Ext g1 g4 := (e2.then m3 (fun i hi => l3.2.base_le hi)).then m4 (fun i hi => l3'.2.base_le hi)
      have hkl := l4.1
      generalize ((ys.set 7 _).set 6 _) = ks at l4 hkl
      have r14 : ∀ g, Go.Oct.Ext g4 g → RowH g A14 (n14 * 44) (cellsOf RS.cells xs) := fun g e => (l14.ext (e4.trans e)).rowL
      have rk : ∀ g, Go.Oct.Ext g4 g → RowH g A3 (8 * 37) (cellsOf KS.cells ks) := fun g e => (l4.ext e).rowL
      have tm : ∀ m : Int, Int.tmod (i : Int) m = (i : Int) % m := fun m => Int.tmod_eq_emod_of_nonneg (by omega)
      refine ⟨fun b g' => b = false ∧ Go.Oct.Ext g4 g', ⟨by decide, by decide, ?_⟩, ?_⟩
      · have hL : isL (IntKind.wrap .i64 (Int.tmod (i : Int) 11 - 1)) := by
          rw [tm, wrap64_id (by omega) (by omega)]; unfold isL; omega
        refine c17 hL (r14 g4 (Go.Oct.Ext.refl _)) hx14 (by omega) (rk g4 (Go.Oct.Ext.refl _)) hkl (by omega) fun g5 e5 => asB_of ?_
        rw [ifB_nt, needK_true (by decide)]
        refine c18 fun p64 g6 e6 b64 _ => asS_of ?_
        refine c17 (by decide : isL 1) (rows_blk b64 rfl) rfl (by decide) (rk g6 (e5.trans e6)) hkl (by omega) fun g7 e7 => asB_of ?_
        have e47 := e5.trans (e6.trans e7)
        rw [ifB_nt, needK_true (by decide), needK_true (by decide), needK_true (by decide)]
        have e8 : Int.tmod (i : Int) 8 = ((i % 8 : Nat) : Int) := by rw [tm]; omega
        obtain ⟨y, hy⟩ : ∃ y, ks[i % 8]? = some y := ⟨_, List.getElem?_eq_getElem (by omega)⟩
        rw [e8]
        refine rowL_index KS.len (by decide) (rk g7 e47) rfl hy fun b q _ ha => ha.loadN (KS.len y) ?_
        refine (show callK Try.prog 3 #[.bool (Int.tmod (i : Int) 5 == 0), .int .i64 ((i % 8 : Nat) : Int), .slice A14 n14 c14, .agg y.1.cells.toArray, .int .i64 (i : Int)] g7 _ from c3 (by unfold isL; omega) (r14 g7 e47) hx14 y.2 (by unfold isL; omega) fun g8 e8' => asB_of ?_)
        rw [ifB_nt, needK_true (by decide)]
        refine rowL_index KS.len (by decide) (rk g8 (e47.trans e8')) rfl hy fun b q _ ha => ha.loadN (KS.len y) ?_
        exact (show callK Try.prog 4 #[.agg y.1.cells.toArray] g8 _ from c4 y.2 fun g9 e9 => asB_of ⟨rfl, e47.trans (e8'.trans e9)⟩)
      rintro b93 g5 ⟨rfl, e5⟩
      rw [ifB_false]
      refine ⟨fun b x5 g' => ∃ j : Nat, x5 = j ∧ j ≤ n14 ∧ Go.Oct.Ext g4 g', fun b x5 g' => (n14 - x5).toNat, ⟨0, rfl, by omega, e5⟩, ?_⟩
      rintro b1 x5 g6 ⟨j, rfl, hj, e6⟩
      refine ifB_dec (fun hlt5 => draw_ext ?_) (fun hge5 => ?_)
      · obtain ⟨r, hr⟩ : ∃ r, xs[j]? = some r := ⟨_, List.getElem?_eq_getElem (by omega)⟩
        obtain ⟨y, hy⟩ : ∃ y, ks[j]? = some y := ⟨_, List.getElem?_eq_getElem (by omega)⟩
        refine rowL_index RS.len (by decide) (r14 g6 e6) rfl hr fun b q _ ha => ha.loadSN (RS.len r) ?_
        refine rowL_index KS.len (by decide) (rk g6 e6) rfl hy fun b q _ ha => ha.loadSN (KS.len y) ?_
        refine (show callK Try.prog 19 #[.agg r.1.cells.toArray, .agg y.1.cells.toArray] g6 _ from c19 r.2 y.2 fun g7 e7 => asB_of ?_)
        rw [ifB_nt]
        refine ⟨⟨j + 1, wrap64_id (by omega) (by omega), by omega, e6.trans e7⟩, ?_⟩
        rw [wrap64_id (by omega) (by omega)]; dsimp only; omega
      · refine ⟨⟨i + 1, wrap64_id (by omega) (by omega), by omega, eg.trans (e1.trans (e4.trans e6))⟩, ?_⟩
        rw [wrap64_id (by omega) (by omega)]; dsimp only; omega
  · refine c10 fun g1 e1 => asA_of rfl ?_
    refine newVr rfl rfl (Ru.one _) fun p6 g2 y6 b6 e2 => ?_
    refine addrK_of rfl (store_blk b6 rfl (by decide) (by simp [OneCells, Value.oneCell']) fun g3 b6 m3 => ?_)
    have b6 : Blk g3 p6 odd.cells.toArray 43 := b6
    have e3 : Go.Oct.Ext g1 g3 := e2.then m3 (by rintro i rfl; exact y6)
    refine c10 fun g4 e4 => asA_of rfl ?_
    refine newVr rfl rfl (Ru.one _) fun p7 g5 y7 b7 e5 => ?_
    have z4 := e4.size
    have f7 : ∀ i, i = p7 → g3.size ≤ i := by rintro i rfl; omega
    refine addrK_of rfl (store_blk b7 rfl (by decide) (one2 rfl rfl) fun g6 b7 m6 => ?_)
    refine addrK_of rfl (store_blk b7 rfl (by rw [over_size]; decide) (one2 rfl rfl) fun g7 b7 m7 => ?_)
    have b7 : Blk g7 p7 den.cells.toArray 43 := b7
    have e37 : Go.Oct.Ext g3 g7 := ((e4.trans e5).then m6 f7).then m7 f7
    have b6 := b6.ext e37
    have e07 := eg.trans (e1.trans (e3.trans e37))
    refine b6.at_.loadN rfl ?_
    refine (show callK Try.prog 19 #[.agg odd.cells.toArray, .agg zKy.cells.toArray] g7 _ from c19 odd_ok zKy_ok fun g8 e8 => asB_of ?_)
    rw [ifB_true]
    refine (b7.ext e8).at_.loadN rfl ?_
    refine (show callK Try.prog 19 #[.agg den.cells.toArray, .agg zKy.cells.toArray] g8 _ from c19 den_ok zKy_ok fun g9 e9 => asB_of ?_)
    rw [ifB_true]
    refine (show callK Try.prog 19 #[.agg zRu.cells.toArray, .agg zKy.cells.toArray] g9 _ from c19 zRu_ok zKy_ok fun g10 e10 => asB_of ?_)
    rw [ifB_true]
    have e710 := e8.trans (e9.trans e10)
    refine make65 fun g11 b130 e11 bl => ?_
    refine c17 (by decide : isL 0) (rows_blk bl (List.length_replicate ..)) (List.length_replicate ..) (by decide) no_keys rfl (by decide) fun g12 e12 => asB_of ?_
    rw [ifB_true]
    refine c17 (by decide : isL 8) no_rules rfl (by decide) no_keys rfl (by decide) fun g13 e13 => asB_of ?_
    rw [ifB_true]
    refine c17 (by decide : isL 8) no_rules rfl (by decide) no_keys rfl (by decide) fun g14 e14 => asB_of ?_
    rw [ifB_true]
    have e714 := e710.trans (e11.trans (e12.trans (e13.trans e14)))
    refine (b6.ext e714).at_.loadN rfl ?_
    refine fill_rows RS.len [⟨odd, odd_ok⟩] (by simp) ?_
    refine alloc_new fun p141 g15 y141 b141 e15 => ?_
    refine c17 (by decide : isL 0) (rows_blk (n := 1) b141 rfl) rfl (by decide) no_keys rfl (by decide) fun g16 e16 => asB_of ?_
    rw [ifB_true]
    exact c6 fun g17 e17 => asB_of (hk g17 (e07.trans (e714.trans (e15.trans (e16.trans e17)))))
end
end Go.Proofs.Ytkhlollengamdaa
