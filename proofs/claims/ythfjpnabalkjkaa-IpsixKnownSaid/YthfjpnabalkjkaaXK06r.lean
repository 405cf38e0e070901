/- What is proved: contracts of functions that the law calls, and of the law itself, over any heap. Conditions stand in each theorem. -/
import Derived.Test.YthfjpnabalkjkaaXK06q
set_option linter.unusedSimpArgs false
set_option linter.unusedVariables false
namespace Go.Proofs.Ythfjpnabalkjkaa
open Go.Oct Go.Oct.L01 Go.Oct.L06
theorem wrap8_isB (x : Int) : isB (IntKind.wrap .u8 x) := by
  rw [IntKind.wrap_u8]; unfold isB; omega
def kindsL : List Int := [0, 43, 44, 60, 6, 17, 59, 255]
theorem kinds_isB : ∀ x ∈ kindsL, isB x := isB_lit (by decide)
def sizesL : List Int := [6, 6, 14, 22, 5, 7, 6, 2046, 2054]
theorem sizes_ok : ∀ x ∈ sizesL, 0 ≤ x ∧ x ≤ 2054 := by
  have : sizesL.all (fun x => decide (0 ≤ x ∧ x ≤ 2054)) = true := by decide
  intro x hx
  have := List.all_eq_true.1 this x hx
  simpa using this
theorem tm {a b : Int} (ha : 0 ≤ a) : Int.tmod a b = a % b := Int.tmod_eq_emod_of_nonneg ha
/-- a chain of the call's own that grows -/
structure Kx (g : H) (base p4 : Nat) (A : Option Addr) (m c : Nat) (xs : List Ex) (p : Int) : Prop where
  blk : Blk g p4 (chv A m c p) 29
  le : base ≤ p4
  exts : Lst g base 48 Ex.cells 2 A m c xs
  dat : ∀ x ∈ xs, Byt g base x.A x.n x.c x.d
  byk : ∀ x ∈ xs, isB x.k ∧ ∀ y ∈ x.d, isB y
  sml : ∀ x ∈ xs, x.n ≤ 2060
theorem Kx.ch {g : H} {base p4 : Nat} {A : Option Addr} {m c : Nat} {xs : List Ex} {p : Int} (s : Kx g base p4 A m c xs p) {q : Int} (hq : isB q) (hm : m ≤ 20) : Ch g A m xs q :=
  ⟨s.exts.2.row, s.exts.1, by omega, fun x hx => ⟨Lst.row (f := bf) (s.dat x hx), (s.dat x hx).2.le, by have := s.sml x hx; omega, (s.byk x hx).1, (s.byk x hx).2⟩, hq⟩
theorem Kx.grow {g g' : H} {base p4 : Nat} {A : Option Addr} {m c : Nat} {xs : List Ex} {p : Int} (s : Kx g base p4 A m c xs p) (x : Go.Oct.Ext g g') : Kx g' base p4 A m c xs p :=
  { s with blk := s.blk.ext x, exts := s.exts.ext x, dat := fun v hv => (s.dat v hv).ext x }
theorem Kx.ch0 {g : H} {base p4 : Nat} {A : Option Addr} {m c : Nat} {xs : List Ex} {p : Int} (s : Kx g base p4 A m c xs p) {q : Int} (hq : isB q) : Ch0 g A m xs q :=
  ⟨s.exts.2.row, s.exts.1, fun x hx => ⟨Lst.row (f := bf) (s.dat x hx), (s.dat x hx).2.le, (s.byk x hx).1, (s.byk x hx).2⟩, hq⟩
/-- a header is put behind the others, and the chain says so -/
theorem Kx.push {g : H} {base p4 : Nat} {A : Option Addr} {m c : Nat} {xs : List Ex} {p : Int} (s : Kx g base p4 A m c xs p) (x : Ex) (hx : Byt g base x.A x.n x.c x.d) (hk : isB x.k) (hd : ∀ y ∈ x.d, isB y) (hsm : x.n ≤ 2060) (hbase : base ≤ g.size) (hm : m ≤ 1000000) {k : H → Prop}
    (hk2 : ∀ A' c' g', Go.Oct.Mod g g' (fun i => i = p4 ∨ blkOf A i) → Kx g' base p4 A' (m + 1) c' (xs ++ [x]) p → k g') :
    appendK 48 2 32 (List.toArray [.int .u8 0, .slice none 0 0]) A m c x.cells.toArray 1 g (fun A' n' c' h => addrK (some ⟨p4, 0, none⟩) 0 (fun q => storeK 1 q (Value.cells (.slice A' n' c')) h k)) := by
  refine Lst.push (f := Ex.cells) Ex.len s.exts x rfl (Ex.one x) (by omega) hbase (by omega) fun A' c' g1 l1 m1 d1 => ?_
  have k1 := s.blk.mod m1 (fun hi => s.exts.2.ne_blk s.blk (by decide) _ hi rfl)
  refine addrK_of rfl ?_
  refine store_blk k1 rfl (by simp [chv]) (by simp [OneCells, Value.cells, Value.oneCell']) fun g2 k2 m2 => ?_
  have k2 : Blk g2 p4 (chv A' (m + 1) c' p) 29 := k2
  refine hk2 A' c' g2 ((m1.mono fun i _ hi => .inr hi).trans (m2.mono fun i _ hi => .inl hi)) ⟨k2, s.le, l1.mod m2 (fun i hi e => l1.2.ne_blk k1 (by decide) i hi e), ?_, ?_, ?_⟩
  · intro v hv
    have h1 : Byt g base v.A v.n v.c v.d := by
      rcases List.mem_append.1 hv with hv | hv
      · exact s.dat v hv
      · rw [List.mem_singleton.1 hv]; exact hx
    have h2 := h1.mod m1 (h1.2.disj s.exts.2 (by decide))
    exact h2.mod m2 (fun i hi e => h2.2.ne_blk k1 (by decide) i hi e)
  · intro v hv
    rcases List.mem_append.1 hv with hv | hv
    · exact s.byk v hv
    · rw [List.mem_singleton.1 hv]; exact ⟨hk, hd⟩
  · intro v hv
    rcases List.mem_append.1 hv with hv | hv
    · exact s.sml v hv
    · rw [List.mem_singleton.1 hv]; exact hsm
/-- the local header of a round -/
structure Lx (g0 g : H) (b6 : Nat) (kk : Int) (A : Option Addr) (n : Nat) (d : List Int) : Prop where
  ext : Go.Oct.Ext g0 g
  blk : Blk g b6 (Ex.cells ⟨kk, A, n, n, d⟩).toArray 48
  le : g0.size ≤ b6
  row : Byt g g0.size A n n d
  byk : isB kk
  byd : ∀ y ∈ d, isB y
  small : n ≤ 2054
theorem Lx.at_ {g0 g : H} {b6 : Nat} {kk : Int} {A : Option Addr} {n : Nat} {d : List Int} (s : Lx g0 g b6 kk A n d) : At g b6 0 [.int .u8 kk, .slice A n n] := s.blk.at_
/-- a byte of its data is set -/
theorem Lx.set {g0 g : H} {b6 : Nat} {kk : Int} {A : Option Addr} {n : Nat} {d : List Int} (s : Lx g0 g b6 kk A n d) {i : Int} {j : Nat} (hi : i = j) (hj : j < n) (y : Int) (hy : isB y) {k : H → Prop} (hk : ∀ g', Lx g0 g' b6 kk A n (d.set j y) → k g') :
    indexK 1 A n i (fun p => storeK 1 p (Value.cells (.int .u8 y)) g k) := by
  have hl : d.length = n := s.row.1
  refine Lst.put (f := bf) s.row hi (by omega) y rfl fun g' l' m' => hk g' ⟨s.ext.then m' (fun i hi => s.row.2.base_le hi), s.blk.mod m' (fun e => s.row.2.ne_blk s.blk (by decide) _ e rfl), s.le, l', s.byk, fun z hz => ?_, s.small⟩
  rcases List.mem_or_eq_of_mem_set hz with h1 | h1
  · exact s.byd z h1
  · rw [h1]; exact hy
set_option maxRecDepth 8000 in
set_option maxHeartbeats 4000000 in
/-- IpsixKnown -/
theorem c4 {h : H} {k : Value → H → Prop} (hk : ∀ h', Go.Oct.Ext h h' → k (.bool true) h') : callK Try.prog 4 #[] h k := by
  refine call4 _ _ ?_
  unfold d4
  refine alloc_new fun p19 g1 y19 b19 x1 => ?_
  have rk : ∀ g, Go.Oct.Ext g1 g → RowH g (some ⟨p19, 0, none⟩) 8 (kindsL.map bf).toArray := fun g e => litB (xs := kindsL) (b19.ext e) rfl
  have hkx : ∀ j, j < 8 → ∃ x, kindsL[j]? = some x ∧ isB x := fun j hj => ⟨kindsL[j]'hj, List.getElem?_eq_getElem hj, kinds_isB _ (List.getElem_mem _)⟩
  refine ⟨fun x2 b0 x3 g => ∃ i : Nat, x3 = i ∧ i ≤ 300 ∧ 0 ≤ x2 ∧ x2 ≤ 1000000 ∧ Go.Oct.Ext g1 g, fun x2 b0 x3 g => (300 - x3).toNat, ⟨0, rfl, by omega, by omega, by omega, Go.Oct.Ext.refl _⟩, ?_⟩
  rintro x2 b0 x3 g ⟨i, rfl, hi, hx0, hx1, xg⟩
  have x0g := x1.trans xg
  refine ifB_dec (fun hlt => ?_) (fun hge => ?_)
  · refine alloc_new fun p4 g2 y4 b4 x2' => ?_
    rw [needK_true (by decide)]
    have hm5 : Int.tmod x2 5 = x2 % 5 := tm hx0
    rw [hm5]
    refine ⟨fun x2 x5 g' => ∃ (A : Option Addr) (m c : Nat) (xs : List Ex), 0 ≤ x2 ∧ x2 ≤ 1000000 ∧ 0 ≤ x5 ∧ (m : Int) + x5 ≤ 4 ∧ Go.Oct.Ext g g' ∧ Kx g' g.size p4 A m c xs 0, fun x2 x5 g' => x5.toNat, ⟨none, 0, 0, [], hx0, hx1, by omega, by omega, x2', ⟨b4, y4, Lst.nil, by simp, by simp, by simp⟩⟩, ?_⟩
    rintro n x5 g' ⟨A, m, c, xs, hn0, hn1, h50, h54, xg', kx⟩
    refine ifB_dec (fun h5 => ?_) (fun h5 => ?_)
    · -- a header more
      have e35 : ∃ j : Nat, Int.tmod (Int.tmod (IntKind.wrap .i64 (Int.tdiv n 5)) 8) (IntKind.wrap .i64 (4 + Int.tmod (i : Int) 2)) = j ∧ j < 8 := by
        rw [Int.tdiv_eq_ediv_of_nonneg hn0, wrap64_id (x := n / 5) (by omega) (by omega), tm (a := n / 5) (by omega), tm (a := (i : Int)) (by omega), wrap64_id (x := 4 + (i : Int) % 2) (by omega) (by omega), tm (a := n / 5 % 8) (by omega)]
        refine ⟨(n / 5 % 8 % (4 + (i : Int) % 2)).toNat, ?_, ?_⟩
        · have := Int.emod_nonneg (n / 5 % 8) (show (4 + (i : Int) % 2) ≠ 0 by omega)
          omega
        · have := Int.emod_lt_of_pos (n / 5 % 8) (show 0 < (4 + (i : Int) % 2) by omega)
          omega
      have e45 : ∃ j : Nat, Int.tmod (Int.tmod (IntKind.wrap .i64 (Int.tdiv n 7)) 9) (IntKind.wrap .i64 (4 + Int.tmod (i : Int) 6)) = j ∧ j < 9 := by
        rw [Int.tdiv_eq_ediv_of_nonneg hn0, wrap64_id (x := n / 7) (by omega) (by omega), tm (a := n / 7) (by omega), tm (a := (i : Int)) (by omega), wrap64_id (x := 4 + (i : Int) % 6) (by omega) (by omega), tm (a := n / 7 % 9) (by omega)]
        refine ⟨(n / 7 % 9 % (4 + (i : Int) % 6)).toNat, ?_, ?_⟩
        · have := Int.emod_nonneg (n / 7 % 9) (show (4 + (i : Int) % 6) ≠ 0 by omega)
          omega
        · have := Int.emod_lt_of_pos (n / 7 % 9) (show 0 < (4 + (i : Int) % 6) by omega)
          omega
      obtain ⟨j1, ej1, hj1⟩ := e35
      obtain ⟨j2, ej2, hj2⟩ := e45
      obtain ⟨kk, hkk, bkk⟩ := hkx j1 hj1
      obtain ⟨szI, hsz, hso⟩ : ∃ x, sizesL[j2]? = some x ∧ 0 ≤ x ∧ x ≤ 2054 := ⟨sizesL[j2]'hj2, List.getElem?_eq_getElem hj2, sizes_ok _ (List.getElem_mem _)⟩
      obtain ⟨sz, rfl⟩ := Int.eq_ofNat_of_zero_le hso.1
      have hz4 : IntKind.wrap .i64 (4 + Int.tmod (i : Int) 2) ≠ 0 := by rw [tm (by omega), wrap64_id (by omega) (by omega)]; omega
      have hz6 : IntKind.wrap .i64 (4 + Int.tmod (i : Int) 6) ≠ 0 := by rw [tm (by omega), wrap64_id (by omega) (by omega)]; omega
      have x1g' := xg.trans xg'
      refine ⟨fun p6 g3 => ∃ (b6 : Nat) (A50 : Option Addr), p6 = some ⟨b6, 0, none⟩ ∧ Lx g' g3 b6 kk A50 sz (List.replicate sz 0), draw_ext ?_, ?_⟩
      · rw [needK_true (by decide), needK_true (by decide), needK_true (by decide), needK_true hz4, ej1]
        refine row_loadS (f := bf) (rk g' x1g') rfl hkk (asI_of ?_)
        rw [needK_true (by decide), needK_true (by decide), needK_true (by decide), needK_true hz6, ej2]
        have rz : ∀ (p : Nat) (g : H), Blk g p ((sizesL.map (Value.int .i64)).toArray) 3 → RowH g (some ⟨p, 0, none⟩) 9 (sizesL.map (Value.int .i64)).toArray := fun p g hb => hb.row 0 9 (by decide)
        refine ⟨?_, ?_⟩
        · refine alloc_new fun p40 g3 y40 b40 x40 => ⟨x40, ?_⟩
          -- the size may be read behind the new header
          obtain ⟨ad, ead, h1, h2, hc⟩ := row_load (f := Value.int .i64) (k := fun v => v = .int .i64 (sz : Int)) (rz p40 g3 b40) (i := (j2 : Int)) (j := j2) rfl hsz rfl
          refine ⟨ad, ead, h1, h2, ?_⟩
          have hcell : ∀ g, Go.Oct.Ext g3 g → ∀ {k : Value → Prop}, k (.int .i64 (sz : Int)) → load1 (some (ad.add ((j2 : Int).toNat * 1))) g k := by
            intro g e k hk
            obtain ⟨ad', v, e1, e2, rfl⟩ := hc
            cases e1
            exact ⟨_, _, rfl, e.cell e2, hk⟩
          refine ⟨hcell g3 (Go.Oct.Ext.refl _) (asI_of ⟨x40, ?_, ?_⟩), ?_⟩
          · refine made_one (f := bf) (z := 0) (m := sz) rfl (by omega) (by omega) fun b50 g4 l50 y50 x50 => ⟨x40.trans x50, ?_⟩
            refine alloc_new fun b6 g5 y6 b6' x6 => ⟨x40.trans (x50.trans x6), ?_⟩
            have z40 := x40.size
            have z50 := x50.size
            refine store_all b6' rfl (by rfl) (by simp [OneCells, Value.oneCell']) fun g6 k6 m6 => ?_
            exact ⟨b6, _, rfl, (x40.trans (x50.trans x6)).then m6 (fun i hi => by rw [hi]; omega), k6, by omega, Lst.weaken ((l50.ext x6).mod m6 (fun i hi e => by have := l50.2.lt hi; omega)) z40, bkk, bz sz, by omega⟩
          · refine alloc_new fun b6 g4 y6 b6' x6 => ⟨x40.trans x6, ?_⟩
            refine made_one (f := bf) (z := 0) (m := sz) rfl (by omega) (by omega) fun b50 g5 l50 y50 x50 => ⟨x40.trans (x6.trans x50), ?_⟩
            have z40 := x40.size
            have z6 := x6.size
            have lb6 := b6'.lt
            refine store_all (b6'.ext x50) rfl (by rfl) (by simp [OneCells, Value.oneCell']) fun g6 k6 m6 => ?_
            exact ⟨b6, _, rfl, (x40.trans (x6.trans x50)).then m6 (fun i hi => by rw [hi]; omega), k6, by omega, Lst.weaken (l50.mod m6 (fun i hi e => by have := l50.2.base_le hi; omega)) (by omega), bkk, bz sz, by omega⟩
          · refine alloc_new fun b6 g4 y6 b6' x6 => ⟨x40.trans x6, ?_⟩
            refine hcell g4 x6 (asI_of ⟨x40.trans x6, ?_⟩)
            refine made_one (f := bf) (z := 0) (m := sz) rfl (by omega) (by omega) fun b50 g5 l50 y50 x50 => ⟨x40.trans (x6.trans x50), ?_⟩
            have z40 := x40.size
            have z6 := x6.size
            have lb6 := b6'.lt
            refine store_all (b6'.ext x50) rfl (by rfl) (by simp [OneCells, Value.oneCell']) fun g6 k6 m6 => ?_
            exact ⟨b6, _, rfl, (x40.trans (x6.trans x50)).then m6 (fun i hi => by rw [hi]; omega), k6, by omega, Lst.weaken (l50.mod m6 (fun i hi e => by have := l50.2.base_le hi; omega)) (by omega), bkk, bz sz, by omega⟩
        · refine alloc_new fun b6 g3 y6 b6' x6 => ⟨x6, ?_⟩
          refine alloc_new fun p40 g4 y40 b40 x40 => ⟨x6.trans x40, ?_⟩
          refine row_load (f := Value.int .i64) (rz p40 g4 b40) rfl hsz (asI_of ⟨x6.trans x40, ?_⟩)
          refine made_one (f := bf) (z := 0) (m := sz) rfl (by omega) (by omega) fun b50 g5 l50 y50 x50 => ⟨x6.trans (x40.trans x50), ?_⟩
          have z40 := x40.size
          have z6 := x6.size
          have lb6 := b6'.lt
          refine store_all (b6'.ext (x40.trans x50)) rfl (by rfl) (by simp [OneCells, Value.oneCell']) fun g6 k6 m6 => ?_
          exact ⟨b6, _, rfl, (x6.trans (x40.trans x50)).then m6 (fun i hi => by rw [hi]; omega), k6, by omega, Lst.weaken (l50.mod m6 (fun i hi e => by have := l50.2.base_le hi; omega)) (by omega), bkk, bz sz, by omega⟩
      rintro p6 g3 ⟨b6, A50, rfl, lx⟩
      -- its bytes
      refine ⟨fun x7 g4 => ∃ (j : Nat) (d : List Int), x7 = j ∧ j ≤ 6 ∧ Lx g' g4 b6 kk A50 sz d, fun x7 g4 => (6 - x7).toNat, ⟨0, _, rfl, by omega, lx⟩, ?_⟩
      rintro x7 g4 ⟨j, d, rfl, hj6, lx4⟩
      refine ⟨fun b60 g5 => g5 = g4 ∧ b60 = decide (j < sz ∧ j < 6), ?_, ?_⟩
      · refine addrK_of rfl (lx4.at_.load1 1 rfl rfl (asS_of ?_))
        refine ifB_dec (fun h1 => ⟨rfl, by simp only [decide_eq_decide]; omega⟩) (fun h1 => ⟨rfl, ?_⟩)
        rw [eq_comm, decide_eq_false_iff_not]; omega
      rintro b60 g5 ⟨rfl, rfl⟩
      refine ifB_dec (fun h1 => draw_ext ?_) (fun h1 => ?_)
      · refine addrK_of rfl (lx4.at_.loadS1 1 rfl rfl (asS_of ?_))
        rw [needK_true (by omega)]
        refine lx4.set rfl h1.1 _ (wrap8_isB _) fun g6 lx6 => ?_
        refine ⟨⟨j + 1, _, wrap64_id (by omega) (by omega), by omega, lx6⟩, ?_⟩
        rw [wrap64_id (by omega) (by omega)]
        dsimp only
        omega
      refine ⟨fun b84 g6 => ∃ d, Lx g' g6 b6 kk A50 sz d, ?_, ?_⟩
      · refine ⟨fun b84 g6 => g6 = g5 ∧ (b84 = true → 1 < sz), ?_, ?_⟩
        · refine addrK_of rfl (lx4.at_.load1 0 rfl rfl (asI_of ?_))
          refine ifB_eq (fun _ => ?_) (fun _ => ⟨rfl, fun h => absurd h (by decide)⟩)
          refine addrK_of rfl (lx4.at_.load1 1 rfl rfl (asS_of ?_))
          refine ifB_dec (fun h2 => ?_) (fun h2 => ⟨rfl, fun h => absurd h (by decide)⟩)
          rw [needK_true (by decide)]
          exact ⟨rfl, fun _ => by omega⟩
        rintro b84 g6 ⟨rfl, hb84⟩
        refine ifB_of (fun h2 => ?_) (fun h2 => ⟨d, lx4⟩)
        have hs1 := hb84 h2
        refine addrK_of rfl (lx4.at_.load1 1 rfl rfl (asS_of ?_))
        rw [needK_true (by decide)]
        refine lx4.set (j := 0) rfl (by omega) _ (wrap8_isB _) fun g7 lx7 => draw_ext ?_
        refine addrK_of rfl (lx7.at_.loadS1 1 rfl rfl (asS_of ?_))
        refine addrK_of rfl (lx7.at_.loadS1 1 rfl rfl (asS_of ?_))
        have hdl : (d.set 0 (IntKind.wrap .u8 (Int.tmod n 2))).length = sz := lx7.row.1
        refine row_loadS (f := bf) (Lst.row (f := bf) lx7.row) (j := 1) rfl (List.getElem?_eq_getElem (by omega)) (asI_of ?_)
        exact lx7.set (j := 1) rfl (by omega) _ (wrap8_isB _) fun g8 lx8 => ⟨_, lx8⟩
      rintro b84 g6 ⟨d6, lx6⟩
      have e6 := lx6.ext
      have kx6 := kx.grow e6
      have a46 : At g6 p4 0 [.slice A m c, .int .u8 0] := kx6.blk.at_
      refine addrK_of rfl (a46.load1 0 rfl rfl (asS_of ?_))
      refine lx6.blk.at_.loadN rfl ?_
      refine ex_fill ⟨kk, A50, sz, sz, d6⟩ (alloc_new fun p102 g7 y7 b7 x7 => src_blk b7 rfl ?_)
      have zg' := xg'.size
      have z6 := e6.size
      have z7 := x7.size
      refine (kx6.grow x7).push ⟨kk, A50, sz, sz, d6⟩ (Lst.weaken (lx6.row.ext x7) zg') lx6.byk lx6.byd (by have := lx6.small; dsimp only; omega) (by omega) (by omega) fun A' c' g8 m8 kx8 => ?_
      rw [needK_true (by decide)]
      have e7 : Go.Oct.Ext g g7 := xg'.trans (e6.trans x7)
      have e8 := e7.then m8 (fun i hi => by
        rcases hi with hi | hi
        · rw [hi]; exact kx.le
        · exact (kx6.grow x7).exts.2.base_le hi)
      have hw : IntKind.wrap .i64 (IntKind.wrap .i64 (IntKind.wrap .i64 (n * 31) + IntKind.wrap .i64 (7 * x5)) + 11) = n * 31 + 7 * x5 + 11 := by
        rw [wrap64_id (x := n * 31) (by omega) (by omega), wrap64_id (x := 7 * x5) (by omega) (by omega), wrap64_id (x := n * 31 + 7 * x5) (by omega) (by omega), wrap64_id (by omega) (by omega)]
      rw [hw, tm (by omega)]
      refine ⟨⟨A', m + 1, c', _, by omega, by omega, ?_, ?_, e8, kx8⟩, ?_⟩
      · rw [wrap64_id (by omega) (by omega)]; omega
      · rw [wrap64_id (by omega) (by omega)]; omega
      · rw [wrap64_id (x := x5 - 1) (by omega) (by omega)]
        dsimp only
        omega
    · -- the chain stands
      have e38 : ∃ j : Nat, Int.tmod (IntKind.wrap .i64 (Int.tdiv n 3)) 8 = j ∧ j < 8 := by
        rw [Int.tdiv_eq_ediv_of_nonneg hn0, wrap64_id (x := n / 3) (by omega) (by omega), tm (by omega)]
        exact ⟨(n / 3 % 8).toNat, by omega, by omega⟩
      have e28 : ∃ j : Nat, Int.tmod n 8 = j ∧ j < 8 := by
        rw [tm hn0]
        exact ⟨(n % 8).toNat, by omega, by omega⟩
      obtain ⟨j1, ej1, hj1⟩ := e38
      obtain ⟨j2, ej2, hj2⟩ := e28
      obtain ⟨pp, hpp, bpp⟩ := hkx j1 hj1
      obtain ⟨ff, hff, bff⟩ := hkx j2 hj2
      rw [needK_true (by decide), needK_true (by decide), ej1]
      refine row_load (f := bf) (rk g' (xg.trans xg')) rfl hpp (asI_of ?_)
      refine addrK_of rfl ?_
      refine store_blk kx.blk rfl (by simp [chv]) (by simp [OneCells, Value.cells, Value.oneCell']) fun g3 k3 m3 => ?_
      have k3 : Blk g3 p4 (chv A m c pp) 29 := k3
      have kx3 : Kx g3 g.size p4 A m c xs pp := ⟨k3, kx.le, kx.exts.mod m3 (fun i hi e => kx.exts.2.ne_blk kx.blk (by decide) i hi e), fun v hv => (kx.dat v hv).mod m3 (fun i hi e => (kx.dat v hv).2.ne_blk kx.blk (by decide) i hi e), kx.byk, kx.sml⟩
      have e3 := xg'.then m3 (fun i hi => by rw [hi]; exact kx.le)
      have a3 : At g3 p4 0 [.slice A m c, .int .u8 pp] := k3.at_
      have hml : xs.length = m := kx.exts.1
      refine a3.loadN rfl ?_
      have cc := kx3.ch bpp (by omega)
      have chf := cc.facts
      refine c10p (c := c) cc fun A121 c121 g4 x4 l121 => asT3_of (asS_of (asI_of (asI_of ?_)))
      have hPLb : ∀ y ∈ PL (pairs xs) pp, isB y := by
        unfold PL
        split
        · rename_i hr
          exact putL_isB _ _ (fun x hx => ⟨(rightB_iff.1 hr).all x hx, chf x hx⟩) bpp
        · simp
      have hPK : isB (PK (pairs xs) pp) := by
        unfold PK
        split
        · exact firstK_isB _ _ (fun x hx => (chf x hx).1) bpp
        · decide
      have hPLl : (PL (pairs xs) pp).length ≤ 40960 := by
        unfold PL
        split
        · rename_i hr
          have hR := rightB_iff.1 hr
          have h1 := putL_len _ pp hR.all
          have h2 := hR.few
          omega
        · simp
      generalize PK (pairs xs) pp = first at *
      generalize PL (pairs xs) pp = bs0 at *
      generalize hL : bs0.length = Ln at *
      have z3 := e3.size
      refine ⟨fun b132 g5 => ∃ bs : List Int, Go.Oct.Ext g4 g5 ∧ False ∨ (Go.Oct.Ext g3 g5 ∧ Byt g5 g3.size A121 Ln c121 bs ∧ ∀ y ∈ bs, isB y), ?_, ?_⟩
      · refine ⟨fun b132 g5 => g5 = g4 ∧ (b132 = true → 3 < Ln), ?_, ?_⟩
        · refine ifB_dec (fun h1 => ?_) (fun h1 => ⟨rfl, fun h => absurd h (by decide)⟩)
          rw [needK_true (by decide)]
          exact ⟨rfl, fun _ => by omega⟩
        rintro b132 g5 ⟨rfl, hb3⟩
        refine ifB_of (fun h1 => ?_) (fun h1 => ⟨bs0, .inr ⟨x4, l121, hPLb⟩⟩)
        have h3 := hb3 h1
        rw [needK_true (by omega), tm hn0]
        have hmod : 0 ≤ n % (Ln : Int) ∧ n % (Ln : Int) < Ln := ⟨Int.emod_nonneg _ (by omega), Int.emod_lt_of_pos _ (by omega)⟩
        refine Lst.put (f := bf) l121 (j := (n % (Ln : Int)).toNat) (by omega) (by omega) (IntKind.wrap .u8 n) rfl fun g6 l6 m6 => ⟨_, .inr ⟨x4.then m6 (fun i hi => l121.2.base_le hi), l6, fun z hz => ?_⟩⟩
        rcases List.mem_or_eq_of_mem_set hz with h4 | h4
        · exact hPLb z h4
        · rw [h4]; exact wrap8_isB _
      rintro b132 g5 ⟨bs, h5⟩
      obtain ⟨x35, l5, hbs⟩ : Go.Oct.Ext g3 g5 ∧ Byt g5 g3.size A121 Ln c121 bs ∧ ∀ y ∈ bs, isB y := by
        rcases h5 with ⟨_, hf⟩ | h5
        · exact hf.elim
        · exact h5
      have hbl : bs.length = Ln := l5.1
      have kx5 := kx3.grow x35
      have a5 := a3.ext x35
      have x05 := xg.trans (e3.trans x35)
      refine ⟨fun b187 g6 => b187 = false ∧ Go.Oct.Ext g5 g6, draw_ext ?_, ?_⟩
      · refine a5.loadSN rfl (addrK_of rfl (a5.loadS1 0 rfl rfl (asS_of ?_)))
        refine (show callK Try.prog 5 #[.agg (chv A m c pp), .agg (chv A m c 6)] g5 _ from c5 (kx5.ch0 bpp) (kx5.ch0 (by decide)) fun g6 x6 => asB_of ⟨x6, ?_⟩)
        rw [ifB_nt]
        refine a5.loadSN rfl ?_
        rw [needK_true (by decide), tm hn0]
        refine made_one (f := bf) (z := 0) (m := (n % 20).toNat) (by omega) (by omega) (by omega) fun b156 g7 l7 y7 x7 => ⟨x6.trans x7, ?_⟩
        have x67 := x6.trans x7
        have oh : (⟨IntKind.wrap .u8 n, IntKind.wrap .u32 n, 0, 0, 1, List.replicate 16 0, List.replicate 16 0⟩ : Hd).ok := by
          refine ⟨?_, ?_, (by dsimp only; omega), (by decide : isB 0), (by decide : isB 1), rfl, rfl, bz 16, bz 16⟩
          · have := wrap8_isB n; unfold isB at this; exact this
          · dsimp only; rw [IntKind.wrap_u32]; omega
        refine (show callK Try.prog 3 #[.agg (hcells ⟨IntKind.wrap .u8 n, IntKind.wrap .u32 n, 0, 0, 1, List.replicate 16 0, List.replicate 16 0⟩).toArray, .agg (chv A m c pp), .slice (some ⟨b156, 0, none⟩) (n % 20).toNat (n % 20).toNat, .int .u8 first, .slice A121 Ln c121] g7 _ from
          c3 oh (kx5.grow x67 |>.ch0 bpp) (Lst.row (f := bf) l7) (bz _) hPK (Lst.row (f := bf) (l5.ext x67)) l5.2.le hbs fun g8 x8 => asB_of ⟨x67.trans x8, ?_⟩)
        rw [ifB_nt, needK_true (by decide), needK_true (by simp)]
        have x68 := x67.trans x8
        have hmin : 0 ≤ n % 2 * minI 1 (Ln : Int) ∧ n % 2 * minI 1 (Ln : Int) ≤ Ln := by
          unfold minI
          have : n % 2 = 0 ∨ n % 2 = 1 := by omega
          rcases this with h | h <;> rw [h] <;> split <;> omega
        rw [tm hn0, wrap64_id (x := n % 2 * minI 1 (Ln : Int)) (by omega) (by omega), wrap64_id (by omega) (by omega)]
        refine row_slice (Lst.row (f := bf) (l5.ext x68)) l5.2.le (l := 0) (u := ((Ln : Int) - n % 2 * minI 1 (Ln : Int)).toNat) rfl (by simp only [Option.getD_some]; omega) (by omega) (by omega) fun A174 c174 r174 hc174 _ _ => ?_
        refine c6 hPK r174 hc174 (fun y hy => hbs y (List.mem_of_mem_drop (List.mem_of_mem_take hy))) fun g9 x9 => asB_of ⟨x68.trans x9, ?_⟩
        rw [ifB_nt, needK_true (by decide), ej2]
        refine row_loadS (f := bf) (rk g5 x05) rfl hff (asI_of ?_)
        refine c6 bff (Lst.row (f := bf) (l5.ext (x68.trans x9))) l5.2.le hbs fun g10 x10 => asB_of ⟨rfl, x68.trans (x9.trans x10)⟩
      rintro b187 g6 ⟨rfl, x6⟩
      rw [ifB_false]
      refine ⟨⟨i + 1, wrap64_id (by omega) (by omega), by omega, hn0, hn1, x05.trans x6⟩, ?_⟩
      rw [wrap64_id (by omega) (by omega)]
      dsimp only
      omega
  · refine newVr rfl rfl (by simp [OneCells, Value.oneCell']) fun p11 g2 y11 b11 x2g => ?_
    have b11 : Blk g2 p11 (chv none 0 0 6) 29 := b11
    have x02 := x0g.trans x2g
    -- seventeen headers more than may stand
    refine ⟨fun b0 x12 g' => ∃ (A : Option Addr) (m c : Nat) (xs : List Ex), x12 = m ∧ m ≤ 17 ∧ Go.Oct.Ext g g' ∧ Kx g' g.size p11 A m c xs 6, fun b0 x12 g' => (17 - x12).toNat, ⟨none, 0, 0, [], rfl, by omega, x2g, ⟨b11, y11, Lst.nil, by simp, by simp, by simp⟩⟩, ?_⟩
    rintro b0 x12 g3 ⟨A, m, c, xs, rfl, hm17, x3, kx⟩
    have a3 : At g3 p11 0 [.slice A m c, .int .u8 6] := kx.blk.at_
    refine ifB_dec (fun hlt => ?_) (fun hge2 => ?_)
    · refine ⟨fun b g' => b = false ∧ Go.Oct.Ext g3 g', ?_, ?_⟩
      · refine a3.loadN rfl (a3.loadN rfl ?_)
        refine (show callK Try.prog 5 #[.agg (chv A m c 6), .agg (chv A m c 6)] g3 _ from c5 (kx.ch0 (by decide)) (kx.ch0 (by decide)) fun g4 x4 => asB_of ?_)
        rw [ifB_nt]
        refine (a3.ext x4).loadN rfl ?_
        refine (show callK Try.prog 3 #[.agg (hcells zH).toArray, .agg (chv A m c 6), .slice none 0 0, .int .u8 60, .slice none 0 0] g4 _ from
          c3 zH_ok ((kx.grow x4).ch0 (by decide)) (A2 := none) (n2 := 0) (q2 := 0) (bh := []) ⟨rfl, fun h => absurd h (by decide)⟩ (by simp) (by decide) (A4 := none) (n4 := 0) (q4 := 0) (b := []) ⟨rfl, fun h => absurd h (by decide)⟩ (by omega) (by simp) fun g5 x5 => asB_of ⟨rfl, x4.trans x5⟩)
      rintro b g4 ⟨rfl, x4⟩
      rw [ifB_false]
      refine draw_ext ?_
      have kx4 := kx.grow x4
      refine addrK_of rfl ((a3.ext x4).loadS1 0 rfl rfl (asS_of ?_))
      refine made_one (f := bf) (z := 0) (m := 6) rfl (by omega) (by omega) fun b205 g5 l5 y5 x5 => ⟨x5, ?_⟩
      refine ex_fill ⟨60, some ⟨b205, 0, none⟩, 6, 6, List.replicate 6 0⟩ (alloc_new fun p207 g6 y6 b6 x6 => ⟨x5.trans x6, src_blk b6 rfl ?_⟩)
      have z3 := x3.size
      have z4 := x4.size
      have z5 := x5.size
      have z6 := x6.size
      refine (kx4.grow (x5.trans x6)).push ⟨60, some ⟨b205, 0, none⟩, 6, 6, List.replicate 6 0⟩ (Lst.weaken (l5.ext x6) (by omega)) (by decide : isB 60) (bz 6) (by dsimp only; omega) (by omega) (by omega) fun A' c' g7 m7 kx7 => ?_
      refine ⟨⟨A', m + 1, c', _, wrap64_id (by omega) (by omega), by omega, (x3.trans (x4.trans (x5.trans x6))).then m7 (fun i hi => ?_), kx7⟩, ?_⟩
      · rcases hi with hi | hi
        · rw [hi]; exact kx.le
        · exact (kx4.grow (x5.trans x6)).exts.2.base_le hi
      · rw [wrap64_id (by omega) (by omega)]
        dsimp only
        omega
    · refine made_one (f := bf) (z := 0) (m := 136) rfl (by omega) (by omega) fun b210 g4 l4 y4 x4 => ?_
      have x04 := x02
      refine ⟨fun x14 g' => ∃ (j : Nat) (d : List Int), x14 = 8 * j ∧ j ≤ 17 ∧ Go.Oct.Ext g3 g' ∧ Byt g' g3.size (some ⟨b210, 0, none⟩) 136 136 d ∧ ∀ y ∈ d, isB y, fun x14 g' => (136 - x14).toNat, ⟨0, _, by omega, by omega, x4, l4, bz 136⟩, ?_⟩
      rintro x14 g5 ⟨j, d, rfl, hj, x5, l5, hd5⟩
      refine ifB_dec (fun hlt => ?_) (fun hge3 => ?_)
      · have hdl : d.length = 136 := l5.1
        refine Lst.put (f := bf) l5 (j := 8 * j) (by omega) (by omega) 60 rfl fun g6 l6 m6 => ?_
        refine ⟨⟨j + 1, _, ?_, by omega, x5.then m6 (fun i hi => l5.2.base_le hi), l6, fun z hz => ?_⟩, ?_⟩
        · rw [wrap64_id (by omega) (by omega)]; omega
        · rcases List.mem_or_eq_of_mem_set hz with h4 | h4
          · exact hd5 z h4
          · rw [h4]; decide
        · rw [wrap64_id (by omega) (by omega)]
          dsimp only
          omega
      refine ⟨_, hd_fill (by rfl) (by rfl) (by rfl) rfl rfl rfl rfl rfl, ?_⟩
      have oT : (⟨255, 1048575, 7, 6, 9, 1 :: List.replicate 15 0, List.replicate 15 0 ++ [2]⟩ : Hd).ok := by
        refine ⟨by decide, by decide, by decide, by decide, by decide, rfl, rfl, isB_lit (by decide), isB_lit (by decide)⟩
      refine newVr rfl rfl (by simp [OneCells, Value.oneCell']) fun p15 g6 y15 b15 x6 => ?_
      have b15 : Blk g6 p15 (hcells ⟨255, 1048575, 7, 6, 9, 1 :: List.replicate 15 0, List.replicate 15 0 ++ [2]⟩).toArray 26 := b15
      generalize (⟨255, 1048575, 7, 6, 9, 1 :: List.replicate 15 0, List.replicate 15 0 ++ [2]⟩ : Hd) = hT at *
      have hTl := hcells_len oT
      refine b15.at_.loadN hTl ?_
      refine c14p hT oT fun A223 c223 g7 x7 l7 => asT2_of (asS_of (asI_of ?_))
      have hS : ∀ y ∈ putS hT, isB y := by
        unfold putS
        split
        · exact fun y hy => putH_isB oT y hy
        · simp
      have hSl : (putS hT).length ≤ 40 := by
        unfold putS
        split
        · rw [putH_len oT]; omega
        · simp
      generalize putS hT = bs at *
      generalize hn : bs.length = n at *
      have x37 := x5.trans (x6.trans x7)
      refine ⟨fun b x18 g' => ∃ j : Nat, x18 = j ∧ j ≤ n + 1 ∧ Go.Oct.Ext g7 g', fun b x18 g' => (n + 1 - x18).toNat, ⟨0, rfl, by omega, Go.Oct.Ext.refl _⟩, ?_⟩
      rintro b1 x18 g8 ⟨i, rfl, hi, x8⟩
      have r8 : RowH g8 A223 n (bs.map bf).toArray := Lst.row (f := bf) (l7.ext x8)
      have q8 : RowH g8 (some ⟨b210, 0, none⟩) 136 (d.map bf).toArray := Lst.row (f := bf) (l5.ext (x6.trans (x7.trans x8)))
      refine ifB_dec (fun hlt => ?_) (fun hge4 => ?_)
      · refine ⟨fun b g' => b = false ∧ Go.Oct.Ext g8 g', draw_ext ?_, ?_⟩
        · refine (b15.ext (x7.trans x8)).at_.loadSN hTl ?_
          rw [needK_true (by simp)]
          refine row_slice r8 l7.2.le (l := 0) (u := i) rfl (by simp only [Option.getD_some]) (by omega) (by omega) fun A235 c235 r235 hc235 _ _ => ?_
          refine c7 oT r235 hc235 (fun y hy => hS y (List.mem_of_mem_drop (List.mem_of_mem_take hy))) fun g9 x9 => asB_of ?_
          rw [ifB_nt, needK_true (by simp)]
          refine row_slice (r8.ext x9) l7.2.le (l := 0) (u := i) rfl (by simp only [Option.getD_some]) (by omega) (by omega) fun A241 c241 r241 hc241 _ _ => ?_
          rw [needK_true (by decide), needK_true (by simp)]
          have hi9 : Int.tmod (i : Int) 9 = ((i % 9 : Nat) : Int) := by rw [tm (by omega)]; omega
          rw [hi9]
          refine row_slice (q8.ext x9) (Nat.le_refl _) (l := 0) (u := i % 9) rfl (by simp only [Option.getD_some]) (by omega) (by omega) fun A246 c246 r246 hc246 _ _ => ?_
          refine c12 _ _ _ _ _ _ r241 (by omega) fun A242 c242 g10 x10 l10 => asS_of ?_
          refine src_one (r246.ext x10) ?_
          have z9 := x9.size
          have z10 := x10.size
          refine Lst.appends l10 _ (by rw [List.length_take, List.length_drop, l5.1]; omega) rfl bf_one (by omega) z10 (by omega) fun A247 c247 g11 l11 m11 d11 => ?_
          have x11 := (Go.Oct.Ext.trans x9 x10)
          refine c6 (by decide) (Lst.row (f := bf) l11) l11.2.le (fun y hy => ?_) fun g12 x12 => asB_of ⟨rfl, (x9.trans (x10.then m11 (fun i hi => l10.2.base_le hi))).trans x12⟩
          rcases List.mem_append.1 hy with h1 | h1
          · exact hS y (List.mem_of_mem_drop (List.mem_of_mem_take h1))
          · exact hd5 y (List.mem_of_mem_drop (List.mem_of_mem_take h1))
        rintro b g9 ⟨rfl, x9⟩
        rw [ifB_false]
        refine ⟨⟨i + 1, wrap64_id (by omega) (by omega), by omega, x8.trans x9⟩, ?_⟩
        rw [wrap64_id (by omega) (by omega)]
        dsimp only
        omega
      · have x38 := x37.trans x8
        refine (a3.ext x38).loadN rfl ?_
        refine (show callK Try.prog 5 #[.agg (chv A m c 6), .agg (chv none 0 0 0)] g8 _ from c5 ((kx.grow x38).ch0 (by decide)) (B := none) (m := 0) (d := 0) (zs := []) (p' := 0) ⟨⟨rfl, fun h => absurd h (by decide)⟩, rfl, by simp, by decide⟩ fun g9 x9 => asB_of ?_)
        rw [ifB_true]
        refine c6 (by decide) (q8.ext x9) (Nat.le_refl _) hd5 fun g10 x10 => asB_of ?_
        rw [ifB_true]
        refine alloc_new fun p260 g11 y11' b260 x11 => ?_
        have oF : (⟨0, 1048576, 0, 0, 0, List.replicate 16 0, List.replicate 16 0⟩ : Hd).ok := by
          refine ⟨by decide, by decide, by decide, by decide, by decide, rfl, rfl, bz 16, bz 16⟩
        refine (show callK Try.prog 7 #[.agg (hcells ⟨0, 1048576, 0, 0, 0, List.replicate 16 0, List.replicate 16 0⟩).toArray, .slice (some ⟨p260, 0, none⟩) 1 1] g11 _ from
          c7 oF (b := [96]) (litB (xs := [96]) b260 rfl) (Nat.le_refl _) (isB_lit (by decide)) fun g12 x12 => asB_of ?_)
        rw [ifB_true]
        refine c9 _ _ fun g13 x13 => asB_of (hk _ ?_)
        exact (x1.trans xg).trans (x3.trans (x38.trans (x9.trans (x10.trans (x11.trans (x12.trans x13))))))
end Go.Proofs.Ythfjpnabalkjkaa
