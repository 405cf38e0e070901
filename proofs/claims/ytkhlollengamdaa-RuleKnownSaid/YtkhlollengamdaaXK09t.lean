/- What is proved: contracts of functions that the law calls, and of the law itself, over any heap. Conditions stand in each theorem. -/
import Derived.Test.YtkhlollengamdaaXK09s
set_option linter.unusedSimpArgs false
set_option linter.unusedVariables false
namespace Go.Proofs.Ytkhlollengamdaa
open Go.Oct Go.Oct.L09
theorem ifB_self {b : Bool} {A B : Prop} (h : A) : ifB (b == b) A B := by
  cases b <;> exact h
theorem any_fits_y (y : Ky) : fits (anyR false 0) y = true := by
  unfold fits
  rw [any_right, Bool.true_and]
  exact any_fits_all _ _ _
/-- a part of a rule is put -/
theorem ru_put {g : H} {p : Nat} {r r' : Ru} {o n : Nat} {vs : Array Value} {k : H → Prop} (b : Blk g p r.cells.toArray 43) (pre mid post : List Value) (e1 : r.cells = pre ++ (mid ++ post)) (e2 : r'.cells = pre ++ (vs.toList ++ post)) (ho : o = pre.length) (hm : vs.toList.length = mid.length) (hn : vs.size = n) (h1 : OneCells vs.toList)
    (hk : ∀ g', Blk g' p r'.cells.toArray 43 → Go.Oct.Mod g g' (· = p) → k g') : storeK n (some ⟨p, o, none⟩) vs g k := by
  refine store_mid b e1 ho hm hn h1 fun g' k' m' => hk g' ?_ m'
  rw [e2]; exact k'
section
variable {h : H} {k : Value → H → Prop}
/-- RuleTells -/
theorem c19 {r : Ru} (or : r.ok) {y : Ky} (oy : y.ok) (hk : ∀ h', Go.Oct.Ext h h' → k (.bool true) h') : callK Try.prog 19 #[.agg r.cells.toArray, .agg y.cells.toArray] h k := by
  refine call19 _ _ _ _ ?_
  unfold d19
  have lr := Ru.len44 or
  have ly := Ky.len37 oy
  refine alloc_new fun p2 g1 y2 b2 x1 => alloc_new fun p3 g2 y3 b3 x2 => ?_
  refine (b2.ext x2).at_.loadN lr ?_
  refine c40 or fun g3 x3 => asA_of (by simpa using lr) ?_
  refine newVr rfl (by simpa using lr) (Ru.one _) fun p5 g4 y5 b5 x4 => ?_
  have x24 := x3.trans x4
  have k2 := b2.ext (x2.trans x24)
  have k3 := b3.ext x24
  have x04 := x1.trans (x2.trans x24)
  refine draw_ext (k2.at_.loadSN lr (b5.at_.loadSN lr ?_))
  refine c20 or fun g5 x5 => asB_of ⟨x5, ?_⟩
  refine c41 or fun g6 x6 => asB_of ⟨x5.trans x6, ifB_self ?_⟩
  have x46 := x5.trans x6
  refine k2.at_.loadSN lr (k3.at_.loadSN ly (b5.at_.loadSN lr (k3.at_.loadSN ly ?_)))
  refine c12 or oy fun g7 x7 => asB_of ⟨x46.trans x7, ?_⟩
  refine c35 oy fun g8 x8 => asA_of (by simpa using ly) ⟨x46.trans (x7.trans x8), ?_⟩
  refine c42 or oy fun g9 x9 => asB_of ⟨x46.trans (x7.trans (x8.trans x9)), ifB_self ?_⟩
  have x49 := x46.trans (x7.trans (x8.trans x9))
  refine c10 fun g10 x10 => asA_of rfl ⟨x49.trans x10, ?_⟩
  refine c20 any_ok fun g11 x11 => asB_of ⟨x49.trans (x10.trans x11), ?_⟩
  rw [any_right, ifB_true]
  refine k3.at_.loadSN ly ?_
  have x411 := x49.trans (x10.trans x11)
  refine c10 fun g12 x12 => asA_of rfl ⟨x411.trans x12, ?_⟩
  refine c12 any_ok oy fun g13 x13 => asB_of ?_
  rw [any_fits_y, ifB_true]
  exact c6 fun g14 x14 => asB_of (hk g14 (x04.trans (x411.trans (x12.trans (x13.trans x14)))))
theorem wrap16_isW (x : Int) : isW (IntKind.wrap .u16 x) := by rw [IntKind.wrap_u16]; unfold isW; omega
theorem wrap8_isB (x : Int) : isB (IntKind.wrap .u8 x) := by rw [IntKind.wrap_u8]; unfold isB; omega
def versL : List Int := [0, 4, 6, 0, 5]
def prosL : List Int := [-1, 6, 17, 1, 300]
theorem small_ok {xs : List Int} (h : xs.all (fun x => decide (isL x)) = true) : ∀ x ∈ xs, isL x := by
  intro x hx
  have := List.all_eq_true.1 h x hx
  simpa using this
theorem litI {g : H} {b : Nat} {xs : List Int} {n : Nat} (hb : Blk g b (xs.map gf).toArray 3) (hn : xs.length = n) : RowH g (some ⟨b, 0, none⟩) n (xs.map gf).toArray := by
  have h1 := hb.row 0 n (by simp [hn])
  have e : ((xs.map gf).toArray).extract 0 (0 + n) = (xs.map gf).toArray := by
    apply Array.ext'
    simp [List.extract_eq_take_drop, ← hn, List.take_of_length_le]
  rwa [e] at h1
set_option maxRecDepth 8000 in
set_option maxHeartbeats 2000000 in
/-- some -/
theorem c15 {x0 : Int} (hx0 : 0 ≤ x0) (hx1 : x0 ≤ 1000000) (hk : ∀ A n c xs h', Go.Oct.Ext h h' → Lst h' h.size 43 RS.cells 44 A n c xs → n ≤ 7 → k (.slice A n c) h') : callK Try.prog 15 #[.int .i64 x0] h k := by
  refine call15 _ _ _ ?_
  unfold d15
  refine ⟨fun A3 n3 c3 x x4 g => ∃ xs : List RS, x4 = n3 ∧ n3 ≤ 7 ∧ 0 ≤ x ∧ x ≤ 1000000 ∧ Go.Oct.Ext h g ∧ Lst g h.size 43 RS.cells 44 A3 n3 c3 xs, fun A3 n3 c3 x x4 g => (7 - x4).toNat, ⟨[], rfl, by omega, hx0, hx1, Go.Oct.Ext.refl _, Lst.nil⟩, ?_⟩
  rintro A3 n3 c3 x x4 g ⟨xs, rfl, hn7, h0, h1, eg, l3⟩
  have tmx : ∀ m : Int, Int.tmod x m = x % m := fun m => Int.tmod_eq_emod_of_nonneg h0
  have tdx : ∀ m : Int, Int.tdiv x m = x / m := fun m => Int.tdiv_eq_ediv_of_nonneg h0
  have zg := eg.size
  rw [needK_true (by decide)]
  refine ifB_dec (fun hlt => ?_) (fun hge => hk A3 n3 c3 xs g eg l3 hn7)
  rw [tmx] at hlt
  have one1 : ∀ v : Value, v.oneCell' = true → v.cells = #[v] → OneCells v.cells.toList := fun v a b => one2 a b
  refine c10 fun g1 e1 => asA_of rfl ?_
  refine newVr rfl rfl (Ru.one _) fun p5 g2 y5 b5 e2 => ?_
  have z1 := e1.size
  have z2 := e2.size
  have e02 := eg.trans (e1.trans e2)
  have f5 : ∀ i, i = p5 → g.size ≤ i := by rintro i rfl; omega
  refine alloc_new fun p14 g3 y14 b14 e3 => ?_
  rw [needK_true (by decide)]
  have e5 : Int.tmod x 5 = ((x % 5).toNat : Int) := by rw [tmx]; omega
  obtain ⟨v18, hv18⟩ : ∃ v, versL[(x % 5).toNat]? = some v := ⟨_, List.getElem?_eq_getElem (by show (x % 5).toNat < 5; omega)⟩
  have hv18L := small_ok (xs := versL) (by decide) v18 (List.mem_of_getElem? hv18)
  rw [e5]
  refine row_load (f := gf) (litI (xs := versL) b14 rfl) rfl hv18 (asI_of ?_)
  have r0ok := any_ok
  refine addrK_of rfl (ru_put (r' := ⟨v18, -1, zP, zP, 0, 65535, 0, 65535, false, 0⟩) (b5.ext e3) [] [.int .i64 0] _ rfl rfl rfl rfl rfl (one1 _ rfl rfl) fun g4 b5 m4 => ?_)
  refine alloc_new fun p20 g5 y20 b20 e5' => ?_
  rw [needK_true (by decide), needK_true (by decide)]
  have e35 : Int.tmod (IntKind.wrap .i64 (Int.tdiv x 3)) 5 = ((x / 3 % 5).toNat : Int) := by
    rw [tdx, wrap64_id (by omega) (by omega), Int.tmod_eq_emod_of_nonneg (by omega)]; omega
  obtain ⟨v25, hv25⟩ : ∃ v, prosL[(x / 3 % 5).toNat]? = some v := ⟨_, List.getElem?_eq_getElem (by show (x / 3 % 5).toNat < 5; omega)⟩
  have hv25L := small_ok (xs := prosL) (by decide) v25 (List.mem_of_getElem? hv25)
  rw [e35]
  refine row_load (f := gf) (litI (xs := prosL) b20 rfl) rfl hv25 (asI_of ?_)
  refine addrK_of rfl (ru_put (r' := ⟨v18, v25, zP, zP, 0, 65535, 0, 65535, false, 0⟩) (b5.ext e5') [.int .i64 v18] [.int .i64 (-1)] _ rfl rfl rfl rfl rfl (one1 _ rfl rfl) fun g6 b5 m6 => ?_)
  have e06 : Go.Oct.Ext g g6 := (((e1.trans e2).trans e3).then m4 f5 |>.trans e5').then m6 f5
  have qk : (quad 10 (IntKind.wrap .u8 x) 0 0).ok := quad_ok (by decide) (wrap8_isB x) (by decide) (by decide)
  refine c16 10 (IntKind.wrap .u8 x) 0 0 fun g7 e7 => asA_of rfl ?_
  rw [needK_true (by decide), needK_true (by decide)]
  have hcn : isL (Int.tmod (IntKind.wrap .i64 (Int.tdiv x 5)) 33) := by
    rw [tdx, wrap64_id (by omega) (by omega), Int.tmod_eq_emod_of_nonneg (by omega)]
    unfold isL; omega
  generalize Int.tmod (IntKind.wrap .i64 (Int.tdiv x 5)) 33 = nn at hcn ⊢
  refine c32 qk hcn fun g8 e8 => asA_of (by simpa using Pf.len18 (cut_ok qk nn)) ?_
  have oc := cut_ok qk nn
  generalize cut (quad 10 (IntKind.wrap .u8 x) 0 0) nn = pf at oc ⊢
  have lpf := Pf.len18 oc
  refine addrK_of rfl (ru_put (r' := ⟨v18, v25, pf, zP, 0, 65535, 0, 65535, false, 0⟩) (b5.ext (e7.trans e8)) [.int .i64 v18, .int .i64 v25] zP.cells _ rfl rfl rfl (by rw [show (Pf.cells pf).toArray.toList.length = (Pf.cells pf).length from rfl, lpf]; rfl) (by simpa using lpf) (Pf.one _) fun g9 b5 m9 => ?_)
  have e09 : Go.Oct.Ext g g9 := (e06.trans (e7.trans e8)).then m9 f5
  -- the destination
  refine ⟨fun b g' => ∃ r : Ru, r.ok ∧ Go.Oct.Ext g g' ∧ Blk g' p5 r.cells.toArray 43, ?_, ?_⟩
  · refine ⟨by decide, ?_⟩
    have r1ok : (⟨v18, v25, pf, zP, 0, 65535, 0, 65535, false, 0⟩ : Ru).ok := ⟨hv18L, hv25L, oc, zP_ok, (by decide : isW 0), (by decide : isW 65535), (by decide : isW 0), (by decide : isW 65535), (by decide : isL 0)⟩
    refine ifB_eq (fun _ => ?_) (fun _ => ⟨_, r1ok, e09, b5⟩)
    refine newVr rfl rfl (by simp [OneCells, Value.oneCell']) fun p6 g10 y6 b6 e10 => ?_
    refine addrK_of rfl ?_
    rw [indexK_some]
    refine ⟨by decide, by decide, store_blk b6 rfl (by decide) (one1 _ rfl rfl) fun g11 b6 m11 => ?_⟩
    have b6 : Blk g11 p6 (Ad.cells ⟨true, IntKind.wrap .u8 x :: List.replicate 15 0⟩).toArray 25 := b6
    have z9 := e09.size
    have q6 : (⟨true, IntKind.wrap .u8 x :: List.replicate 15 0⟩ : Ad).ok := by
      refine ⟨rfl, fun w hw => ?_⟩
      rcases List.mem_cons.1 hw with h | h
      · rw [h]; exact wrap8_isB x
      · rw [(List.mem_replicate.1 h).2]; decide
    refine b6.at_.loadN rfl ?_
    rw [needK_true (by decide), needK_true (by decide)]
    have hcn2 : isL (Int.tmod (IntKind.wrap .i64 (Int.tdiv x 7)) 129) := by
      rw [tdx, wrap64_id (by omega) (by omega), Int.tmod_eq_emod_of_nonneg (by omega)]
      unfold isL; omega
    generalize Int.tmod (IntKind.wrap .i64 (Int.tdiv x 7)) 129 = nn2 at hcn2 ⊢
    refine c32 q6 hcn2 fun g12 e12 => asA_of (by simpa using Pf.len18 (cut_ok q6 nn2)) ?_
    have oc2 := cut_ok q6 nn2
    generalize cut ⟨true, IntKind.wrap .u8 x :: List.replicate 15 0⟩ nn2 = pf2 at oc2 ⊢
    have lpf2 := Pf.len18 oc2
    have hne : p5 ≠ p6 := by have := b5.lt; omega
    have e011 : Go.Oct.Ext g g11 := (e09.trans e10).then m11 (by rintro i rfl; omega)
    refine addrK_of rfl (ru_put (r' := ⟨v18, v25, pf, pf2, 0, 65535, 0, 65535, false, 0⟩) (((b5.ext e10).mod m11 hne).ext e12) ([.int .i64 v18, .int .i64 v25] ++ pf.cells) zP.cells [.int .u16 0, .int .u16 65535, .int .u16 0, .int .u16 65535, .bool false, .int .i64 0] (by simp [Ru.cells, Ru.tl]) (by simp [Ru.cells, Ru.tl]) (by rw [List.length_append, lpf]; rfl) (by rw [show (Pf.cells pf2).toArray.toList.length = (Pf.cells pf2).length from rfl, lpf2]; rfl) (by simpa using lpf2) (Pf.one _) fun g13 b5 m13 => ?_)
    exact ⟨_, ⟨hv18L, hv25L, oc, oc2, (by decide : isW 0), (by decide : isW 65535), (by decide : isW 0), (by decide : isW 65535), (by decide : isL 0)⟩, (e011.trans e12).then m13 f5, b5⟩
  rintro b37 g10 ⟨r, or, e10, b5⟩
  have l18s := Pf.len18 or.src
  have l18d := Pf.len18 or.dst
  -- the ports
  refine ⟨fun b g' => ∃ r : Ru, r.ok ∧ Go.Oct.Ext g g' ∧ Blk g' p5 r.cells.toArray 43, ?_, ?_⟩
  · refine ⟨by decide, ?_⟩
    refine ifB_eq (fun _ => ?_) (fun _ => ⟨_, or, e10, b5⟩)
    rw [needK_true (by decide), needK_true (by decide), needK_true (by decide)]
    refine addrK_of rfl (ru_put (r' := { r with dlo := _, dhi := _ }) b5 ([.int .i64 r.ver, .int .i64 r.pro] ++ (r.src.cells ++ (r.dst.cells ++ [.int .u16 r.slo, .int .u16 r.shi]))) [.int .u16 r.dlo, .int .u16 r.dhi] [.bool r.deny, .int .i64 r.cls] (by simp [Ru.cells, Ru.tl]) (by simp [Ru.cells, Ru.tl]; exact ⟨rfl, rfl⟩) (by simp [l18s, l18d]) rfl rfl (by simp [OneCells, Value.oneCell']) fun g11 b5 m11 => ?_)
    exact ⟨{ r with dlo := IntKind.wrap .u16 (Int.tmod x 100), dhi := IntKind.wrap .u16 (IntKind.wrap .i64 (Int.tmod (IntKind.wrap .i64 (Int.tdiv x 2)) 100 + 5)) }, { or with dlo := wrap16_isW _, dhi := wrap16_isW _ }, e10.then m11 f5, b5⟩
  rintro b51 g11 ⟨r, or, e11, b5⟩
  have l18s := Pf.len18 or.src
  have l18d := Pf.len18 or.dst
  rw [needK_true (by decide)]
  refine addrK_of rfl (ru_put (r' := { r with deny := (Int.tmod x 4 == 0) }) b5 ([.int .i64 r.ver, .int .i64 r.pro] ++ (r.src.cells ++ (r.dst.cells ++ [.int .u16 r.slo, .int .u16 r.shi, .int .u16 r.dlo, .int .u16 r.dhi]))) [.bool r.deny] [.int .i64 r.cls] (by simp [Ru.cells, Ru.tl]) (by simp [Ru.cells, Ru.tl, Value.cells]) (by simp [l18s, l18d]) rfl rfl (one1 _ rfl rfl) fun g12 b5 m12 => ?_)
  rw [needK_true (by decide), needK_true (by decide)]
  have hcl : isL (Int.tmod (IntKind.wrap .i64 (Int.tdiv x 9)) 9) := by
    rw [tdx, wrap64_id (by omega) (by omega), Int.tmod_eq_emod_of_nonneg (by omega)]
    unfold isL; omega
  generalize Int.tmod (IntKind.wrap .i64 (Int.tdiv x 9)) 9 = cc at hcl ⊢
  generalize (Int.tmod x 4 == 0) = dd at b5 ⊢
  refine addrK_of rfl (ru_put (r' := { r with deny := dd, cls := cc }) b5 ([.int .i64 r.ver, .int .i64 r.pro] ++ (r.src.cells ++ (r.dst.cells ++ [.int .u16 r.slo, .int .u16 r.shi, .int .u16 r.dlo, .int .u16 r.dhi, .bool dd]))) [.int .i64 r.cls] [] (by simp [Ru.cells, Ru.tl]) (by simp [Ru.cells, Ru.tl, Value.cells]) (by simp [l18s, l18d]) rfl rfl (one1 _ rfl rfl) fun g13 b5 m13 => ?_)
  have e13 : Go.Oct.Ext g g13 := (e11.then m12 f5).then m13 f5
  have or13 : ({ r with deny := dd, cls := cc } : Ru).ok := { or with cls := hcl }
  refine ⟨fun b g' => ∃ r : Ru, r.ok ∧ Go.Oct.Ext g g' ∧ Blk g' p5 r.cells.toArray 43, ?_, ?_⟩
  · refine addrK_of rfl ((At.rtl or13 b5.at_ rfl).load1 4 rfl rfl (asB_of ?_))
    refine ifB_of (fun _ => ?_) (fun _ => ⟨_, or13, e13, b5⟩)
    refine addrK_of rfl (ru_put (r' := { r with deny := dd, cls := 0 }) b5 ([.int .i64 r.ver, .int .i64 r.pro] ++ (r.src.cells ++ (r.dst.cells ++ [.int .u16 r.slo, .int .u16 r.shi, .int .u16 r.dlo, .int .u16 r.dhi, .bool dd]))) [.int .i64 cc] [] (by simp [Ru.cells, Ru.tl]) (by simp [Ru.cells, Ru.tl, Value.cells]) (by simp [l18s, l18d]) rfl rfl (one1 _ rfl rfl) fun g14 b5 m14 => ?_)
    exact ⟨{ r with deny := dd, cls := 0 }, { or with cls := (by decide : isL 0) }, e13.then m14 f5, b5⟩
  rintro b71 g14 ⟨r, or, e14, b5⟩
  refine b5.at_.loadN (Ru.len44 or) ?_
  refine fill_rows RS.len [⟨r, or⟩] (by simp) ?_
  refine alloc_new fun p75 g15 y75 b75 e15 => ?_
  refine src_blk b75 (by rw [cellsOf_size RS.len]; simp) ?_
  have ec : cellsOf RS.cells [⟨r, or⟩] = (RS.cells ⟨r, or⟩).toArray := by simp [cellsOf]
  rw [ec]
  have z14 := e14.size
  have z15 := e15.size
  have l15 := l3.ext (e14.trans e15)
  refine Lst.push RS.len l15 ⟨r, or⟩ (by simp) (RS.one _) (by decide) (by omega) (by omega) fun A' c' g16 l16 m16 d16 => ?_
  rw [needK_true (by decide)]
  have hw : IntKind.wrap .i64 (IntKind.wrap .i64 (IntKind.wrap .i64 (x * 31) + IntKind.wrap .i64 (17 * (n3 : Int))) + 7) = x * 31 + 17 * n3 + 7 := by
    rw [wrap64_id (x := x * 31) (by omega) (by omega), wrap64_id (x := 17 * (n3 : Int)) (by omega) (by omega), wrap64_id (x := x * 31 + 17 * (n3 : Int)) (by omega) (by omega), wrap64_id (by omega) (by omega)]
  rw [hw, Int.tmod_eq_emod_of_nonneg (by omega)]
  refine ⟨⟨_, wrap64_id (by omega) (by omega), by omega, by omega, by omega, (eg.trans (e14.trans e15)).then m16 (fun i hi => l15.2.base_le hi), l16⟩, ?_⟩
  rw [wrap64_id (x := (n3 : Int) + 1) (by omega) (by omega)]
  dsimp only
  omega
end
end Go.Proofs.Ytkhlollengamdaa
