/- What is proved: contracts of functions that the law calls, and of the law itself, over any heap. Conditions stand in each theorem. -/
import Derived.Test.YthfjpnabalkjkaaXK06h
set_option linter.unusedSimpArgs false
set_option linter.unusedVariables false
namespace Go.Proofs.Ythfjpnabalkjkaa
open Go.Oct Go.Oct.L01 Go.Oct.L06
theorem putL_len : ∀ (xs : List L06.Ext) (p : Int), (∀ x ∈ xs, rightX x = true) → (putL xs p).length ≤ 2048 * xs.length
  | [], _, _ => by simp [putL]
  | x :: r, p, h => by
    have ih := putL_len r p (fun y hy => h y (by simp [hy]))
    have := rightX_len (kk := x.1) (d := x.2) (h x (by simp))
    simp only [putL, List.length_cons, List.length_append]
    omega
theorem firstK_isB : ∀ (xs : List L06.Ext) (p : Int), (∀ x ∈ xs, isB x.1) → isB p → isB (firstK xs p)
  | [], _, _, hp => hp
  | x :: r, _, h, _ => h x (by simp)
theorem putL_isB : ∀ (xs : List L06.Ext) (p : Int), (∀ x ∈ xs, rightX x = true ∧ isB x.1 ∧ ∀ y ∈ x.2, isB y) → isB p → ∀ y ∈ putL xs p, isB y
  | [], _, _, _ => by simp [putL]
  | x :: r, p, h, hp => by
    intro y hy
    have hx := h x (by simp)
    have := rightX_len (kk := x.1) (d := x.2) hx.1
    simp only [putL, List.mem_cons, List.mem_append] at hy
    rcases hy with rfl | rfl | hy | hy
    · exact firstK_isB r p (fun z hz => (h z (by simp [hz])).2.1) hp
    · unfold isB lenB; omega
    · exact hx.2.2 y hy
    · exact putL_isB r p (fun z hz => h z (by simp [hz])) hp y hy
theorem body_put {xs : List L06.Ext} {p : Int} {hh : Hd} {behind more : List Int} (hR : RightC xs p) (o : hh.ok) (hf : hh.flow < 1048576) (hn : hh.nx = firstK xs p) (hl : hh.len = (putL xs p).length + behind.length) :
    body (putH hh ++ putL xs p ++ behind ++ more) = .inl (hh, xs, p, behind) := by
  have h40 := putH_len o
  have e : putH hh ++ putL xs p ++ behind ++ more = putH hh ++ (putL xs p ++ behind ++ more) := by simp
  rw [e]
  unfold body
  rw [parseH_put o hf]
  dsimp only
  have ht : hh.len.toNat = (putL xs p ++ behind).length := by rw [List.length_append]; omega
  rw [if_neg (by simp only [List.length_append]; omega), List.drop_left' h40, ht, List.take_left' rfl, hn, parse_of_put hR]
  simp
theorem Ch.facts {h : H} {A : Option Addr} {n : Nat} {xs : List Ex} {p : Int} (ch : Ch h A n xs p) : ∀ x ∈ pairs xs, isB x.1 ∧ ∀ y ∈ x.2, isB y := by
  intro x hx
  obtain ⟨y, hy, rfl⟩ := List.mem_map.1 hx
  exact ⟨(ch.ok y hy).byk, (ch.ok y hy).byd⟩
set_option maxHeartbeats 2000000 in
/-- IpsixBack -/
theorem c3 {h : H} {k : Value → H → Prop} {hh : Hd} (o : hh.ok) {A1 : Option Addr} {n1 q1 : Nat} {xs : List Ex} {p : Int} (ch0 : Ch0 h A1 n1 xs p) {A2 : Option Addr} {n2 q2 : Nat} {bh : List Int} (r2 : RowH h A2 n2 (bh.map bf).toArray) (by2 : ∀ x ∈ bh, isB x)
    {x3 : Int} (hx3 : isB x3) {A4 : Option Addr} {n4 q4 : Nat} {b : List Int} (r4 : RowH h A4 n4 (b.map bf).toArray) (hq4 : n4 ≤ q4) (by4 : ∀ x ∈ b, isB x)
    (hk : ∀ h', Go.Oct.Ext h h' → k (.bool true) h') : callK Try.prog 3 #[.agg (hcells hh).toArray, .agg (chv A1 n1 q1 p), .slice A2 n2 q2, .int .u8 x3, .slice A4 n4 q4] h k := by
  refine call3 _ _ _ _ _ _ _ _ _ _ _ ?_
  unfold d3
  have hsz := hcells_len o
  have h2l : bh.length = n2 := by simpa using r2.1
  have h4l : b.length = n4 := by simpa using r4.1
  refine alloc_new fun p5 g1 y1 b1 x1 => alloc_new fun p6 g2 y2 b2 x2 => ?_
  have x12 := x1.trans x2
  have z1 := x1.size
  have l1 := b1.lt
  have b1 := b1.ext x2
  have b2 : Blk g2 p6 (chv A1 n1 q1 p) 29 := b2
  refine ⟨fun b g => Go.Oct.Ext g2 g ∧ (b = false → n1 ≤ 20 ∧ n2 ≤ 200 ∧ n4 ≤ 3000 ∧ ∀ x ∈ xs.take 21, x.n ≤ 2060), ?_, ?_⟩
  · refine b2.at_.loadN rfl ?_
    refine c8 (ch0.ext x12) (fun g x => asB_of ⟨x, by simp⟩) (fun hx0 g x => asB_of ?_)
    refine ifB_of (fun _ => ⟨x, by simp⟩) (fun h1 => ifB_dec (fun _ => ⟨x, by simp⟩) (fun h2 => ⟨x, fun h3 => ?_⟩))
    have h1 : ((n1 : Int) ≤ 20) := by simpa using h1
    have h3 := of_decide_eq_false h3
    exact ⟨by omega, by omega, by omega, hx0⟩
  rintro b41 g3 ⟨x3', hb⟩
  refine ifB_of (fun _ => c9 _ _ fun h' e => asB_of (hk h' (x12.trans (x3'.trans e)))) (fun hb' => ?_)
  obtain ⟨hn1, hn2, hn4, hx0⟩ := hb hb'
  have ch := ch0.ch hn1 hx0
  have x13 := x12.trans x3'
  have k5 := b1.ext x3'
  have k6 := b2.ext x3'
  have z3 := x3'.size
  have l2 := b2.lt
  refine k6.at_.loadN rfl ?_
  -- the second half
  have second : ∀ (b50 b10 : Bool) (g : H), Go.Oct.Ext h g → callK Try.prog 11 #[(.int .u8 x3), (.slice A4 n4 q4)] g (fun v138 h => asT3 v138 (fun v138_0 v138_1 v138_2 => asA 2 v138_0 (fun c138a => asI .i64 v138_1 (fun x138b => asI .i64 v138_2 (fun x138c => allocK (List.toArray [.slice none 0 0, .int .u8 0]) 29 h (fun p23 h => storeK 2 p23 c138a h (fun h => ifB (x138c != 0) (ifB (x138b == 0) (addrK p23 0 (fun p147 => load1 p147 h (fun v148 => asS v148 (fun A148 n148 c148 => ifB ((n148 : Int) == 0) (callK Try.prog 9 #[] h (fun v153 h => asB v153 (fun b153 => k (.bool b153) h))) (k (.bool false) h))))) (k (.bool false) h)) (loadN 2 p23 h (fun c156 => callK Try.prog 10 #[(.agg c156)] h (fun v157 h => asT3 v157 (fun v157_0 v157_1 v157_2 => asS v157_0 (fun A157a n157a c157a => asI .u8 v157_1 (fun x157b => asI .i64 v157_2 (fun x157c => loadN 2 p23 h (fun c161 => callK Try.prog 17 #[(.agg c161)] h (fun v162 h => asB v162 (fun b162 => ifB b162 (ifB (x157c == 0) (ifB (x157b == x3) (ifB (decide (x138b ≤ (n4 : Int))) (needK (Option.isSome (none : Option Int) = true → Option.isSome ((some x138b) : Option Int) = true) (sliceK 1 A4 n4 q4 none (some x138b) none (fun A182 n182 c182 => callK Try.prog 16 #[(.slice A157a n157a c157a), (.slice A182 n182 c182)] h (fun v183 h => asB v183 (fun b183 => ifB b183 (callK Try.prog 9 #[] h (fun v186 h => asB v186 (fun b186 => k (.bool b186) h))) (k (.bool false) h)))))) (k (.bool false) h)) (k (.bool false) h)) (k (.bool false) h)) (k (.bool false) h)))))))))))))))))) := by
    intro b50 b10 g xg
    refine c11 x3 A4 n4 q4 b hx3 (r4.ext xg) hq4 (by omega) by4 (fun e he g5 x5 => asT3_of (asA_of rfl (asI_of (asI_of ?_)))) (fun A n c ys p' u hp hpb g5 x5 cx => asT3_of (asA_of rfl (asI_of (asI_of ?_))))
    · refine newVr (by simp) rfl (by simp [OneCells, chv, Value.oneCell']) fun p23 g6 y6 b6 x6 => ?_
      have he0 : e ≠ 0 := by rcases pc_err he with h1 | h1 <;> omega
      refine ifB_ne (fun _ => ?_) (fun h1 => absurd h1 he0)
      refine ifB_eq (fun _ => ?_) (fun h => absurd rfl h)
      refine addrK_of rfl (b6.at_.load1 0 rfl rfl (asS_of ?_))
      refine ifB_eq (fun _ => ?_) (fun h => absurd rfl h)
      exact c9 _ _ fun h' e => asB_of (hk h' (xg.trans (x5.trans (x6.trans e))))
    · refine newVr (by simp) rfl (by simp [OneCells, chv, Value.oneCell']) fun p23 g6 y6 b6 x6 => ?_
      have a6 : At g6 p23 0 [.slice A n c, .int .u8 p'] := b6.at_
      obtain ⟨hR, hfk, hu, hput, -⟩ := put_of_parse by4 hp
      refine ifB_ne (fun h1 => absurd rfl h1) (fun _ => ?_)
      refine a6.loadN rfl ?_
      have chy := (cx.ext x6).ch hpb
      refine c10 (c := c) chy (fun hn => absurd hR hn) (fun _ A7 n7 c7 g7 x7 l7 => asT3_of (asS_of (asI_of (asI_of ?_))))
      refine (a6.ext x7).loadN rfl ?_
      refine c17 (c := c) (chy.ext x7) fun bb hbb g8 x8 => asB_of ?_
      rw [hbb.2 hR, ifB_true]
      refine ifB_eq (fun _ => ?_) (fun h => absurd rfl h)
      refine ifB_eq (fun _ => ?_) (fun h => absurd hfk h)
      refine ifB_dec (fun _ => ?_) (fun h => absurd (by omega) h)
      rw [needK_true (by simp)]
      have x58 := x5.trans (x6.trans (x7.trans x8))
      refine row_slice (r4.ext (xg.trans x58)) hq4 (l := 0) (u := u) rfl rfl (by omega) (by omega) fun A9 c9' r9 _ _ _ => ?_
      rw [List.drop_zero, Nat.sub_zero, ← hput] at r9
      rw [Nat.sub_zero]
      have hn7 : n7 = u := by
        have h1 := l7.1
        rw [hput, List.length_take] at h1
        omega
      refine c16 A7 n7 c7 _ A9 u _ _ g8 _ (Lst.row (f := bf) (l7.ext x8)) r9 (by omega) (asB_of ?_)
      rw [decide_eq_true rfl, ifB_true]
      exact c9 _ _ fun h' e => asB_of (hk h' (xg.trans (x58.trans e)))
  refine c10 (c := q1) (ch.ext x13) (fun hn g4 x4 => asT3_of (asS_of (asI_of (asI_of ?_)))) (fun hR A45 n45 c45 g4 x4 l45 => asT3_of (asS_of (asI_of (asI_of ?_))))
  · refine ⟨fun _ _ g => Go.Oct.Ext h g, ifB_eq (fun h => absurd h (by decide)) (fun _ => x13.trans x4), fun b50 b10 g xg => second b50 b10 g xg⟩
  refine ⟨fun _ _ g => Go.Oct.Ext h g, ifB_eq (fun _ => ?_) (fun h => absurd rfl h), fun b50 b10 g xg => second b50 b10 g xg⟩
  have hpl : (pairs xs).length = n1 := by simp [pairs, ch.len]
  have h45 : (putL (pairs xs) p).length = n45 := l45.1
  have hbound := putL_len (pairs xs) p hR.all
  have h16 := hR.few
  have chf := ch.facts
  have hsb : ∀ y ∈ putL (pairs xs) p, isB y := putL_isB _ _ (fun x hx => ⟨hR.all x hx, chf x hx⟩) ch.byp
  have hkb : isB (firstK (pairs xs) p) := firstK_isB _ _ (fun x hx => (chf x hx).1) ch.byp
  have x14 := x13.trans x4
  have z4 := x4.size
  refine c12 A45 n45 c45 _ g4 _ (Lst.row (f := bf) l45) (by omega) fun A54 c54 g5 x5 l54 => asS_of ?_
  have z5 := x5.size
  refine src_one (r2.ext (x14.trans x5)) ?_
  refine Lst.appends (f := bf) l54 bh h2l rfl bf_one (by omega) z5 (by omega) fun A56 c56 g6 l56 m6 d6 => ?_
  have e6 : Go.Oct.Ext g4 g6 := x5.then m6 (fun i hi => l54.2.base_le hi)
  have z6 := e6.size
  have hpp := parse_of_put hR bh
  refine c11 (firstK (pairs xs) p) A56 _ c56 _ hkb (Lst.row (f := bf) l56) l56.2.le (by omega) (fun y hy => ?_) (fun e he => by rw [hpp] at he; cases he) (fun A57 n57 c57 ys p' u hp hpb g7 x7 cx => asT3_of (asA_of rfl (asI_of (asI_of ?_))))
  · rcases List.mem_append.1 hy with hy | hy
    · exact hsb y hy
    · exact by2 y hy
  rw [hpp] at hp
  simp only [Sum.inl.injEq, Prod.mk.injEq] at hp
  obtain ⟨hys, rfl, rfl⟩ := hp
  refine newVr (by simp) rfl (by simp [OneCells, chv, Value.oneCell']) fun p14 g8 y8 b8 x8 => ?_
  have e8 := e6.trans (x7.trans x8)
  have z8 := e8.size
  have k58 := (k5.ext x4).ext e8
  have k68 := (k6.ext x4).ext e8
  refine ⟨fun b g => b = false ∧ Go.Oct.Ext g8 g, ?_, ?_⟩
  · refine ifB_ne (fun h => absurd rfl h) (fun _ => ifB_ne (fun h => absurd (by omega) h) (fun _ => ?_))
    have a8 : At g8 p14 0 [.slice A57 n57 c57, .int .u8 p] := b8.at_
    refine a8.loadN rfl (k68.at_.loadN rfl ?_)
    refine c13 (c := c57) (d := q1) ((cx.ext x8).ch hpb) (ch.ext (x14.trans e8)) fun g9 x9 => asB_of ⟨?_, x9⟩
    rw [decide_eq_true ⟨hys.symm, rfl⟩]; rfl
  rintro b74 g9 ⟨rfl, x9⟩
  rw [ifB_false]
  have e9 := e8.trans x9
  have k59 := k58.ext x9
  have k69 := k68.ext x9
  have hfl := o.flow
  refine addrK_of rfl (k59.at_.load1 1 rfl rfl (asI_of ?_))
  rw [needK_true (by decide)]
  have htm : Int.tmod hh.flow 1048576 = hh.flow % 1048576 := Int.tmod_eq_emod_of_nonneg hfl.1
  rw [htm]
  refine addrK_of rfl ?_
  refine store_blk k59 rfl (by rw [List.size_toArray]; omega) (by simp [OneCells, Value.cells, Value.oneCell']) fun g10 k10 m10 => ?_
  refine addrK_of rfl ?_
  refine store_blk k10 rfl (by rw [over_size, List.size_toArray]; omega) (by simp [OneCells, Value.cells, Value.oneCell']) fun g11 k11 m11 => ?_
  refine addrK_of rfl ?_
  have hmin : IntKind.wrap .u16 (minI 65535 (IntKind.wrap .i64 ((n45 : Int) + (n2 : Int)))) = (n45 : Int) + n2 := by
    rw [wrap64_id (by omega) (by omega)]
    unfold minI
    rw [IntKind.wrap_u16]
    split <;> omega
  rw [hmin]
  refine store_blk k11 rfl (by rw [over_size, over_size, List.size_toArray]; omega) (by simp [OneCells, Value.cells, Value.oneCell']) fun g12 k12 m12 => ?_
  have m912 : Go.Oct.Mod g9 g12 (· = p5) := m10.trans (m11.trans m12)
  let h2 : Hd := ⟨hh.cls, hh.flow % 1048576, (n45 : Int) + n2, firstK (pairs xs) p, hh.hops, hh.src, hh.dst⟩
  have o2 : h2.ok := ⟨o.cls, by show 0 ≤ hh.flow % 1048576 ∧ hh.flow % 1048576 < 4294967296; omega, by show 0 ≤ (n45 : Int) + n2 ∧ (n45 : Int) + n2 < 65536; omega, hkb, o.hops, o.src, o.dst, o.bsrc, o.bdst⟩
  have hsz2 := hcells_len o2
  have k12 : Blk g12 p5 (hcells h2).toArray 26 := by
    have e : over (over (over (hcells hh).toArray 1 [.int .u32 (hh.flow % 1048576)]) 3 [.int .u8 (firstK (pairs xs) p)]) 2 [.int .u16 ((n45 : Int) + n2)] = (hcells h2).toArray := by
      apply Array.ext'
      rw [over_list _ _ _ (by simp only [over_size, List.size_toArray, List.length_singleton]; omega), over_list _ _ _ (by simp only [over_size, List.size_toArray, List.length_singleton]; omega), over_list _ _ _ (by simp only [List.size_toArray, List.length_singleton]; omega)]
      rfl
    rw [← e]
    exact k12
  refine k12.at_.loadN hsz2 ?_
  have e12 : Go.Oct.Ext h g12 := (x14.trans e9).then m912 (fun i hi => by rw [hi]; exact y1)
  refine c14 h2 o2 g12 _ (fun hno => by have : h2.flow = hh.flow % 1048576 := rfl; omega) (fun hf2 A91 c91 g13 x13' l91 => asT2_of (asS_of (asI_of ?_)))
  have l45' : Byt g12 g3.size A45 n45 c45 (putL (pairs xs) p) := (l45.ext e9).mod m912 (fun i hi e => (l45.ext e9).2.ne_blk k59 (by decide) i hi e)
  refine src_one (Lst.row (f := bf) (l45'.ext x13')) ?_
  have z13 := x13'.size
  refine Lst.appends (f := bf) l91 _ h45 rfl bf_one (by omega) z13 (by omega) fun A97 c97 g14 l97 m14 d14 => ?_
  have e14 : Go.Oct.Ext g12 g14 := x13'.then m14 (fun i hi => l91.2.base_le hi)
  have z14 := e14.size
  refine src_one (r2.ext (e12.trans e14)) ?_
  refine Lst.appends (f := bf) l97 bh h2l rfl bf_one (by omega) z14 (by omega) fun A99 c99 g15 l99 m15 d15 => ?_
  have e15 : Go.Oct.Ext g12 g15 := e14.then m15 (fun i hi => l97.2.base_le hi)
  refine alloc_new fun p100 g16 y16 b16 x16 => ?_
  have r16 : RowH g16 (some ⟨p100, 0, none⟩) 3 (([1, 2, 3] : List Int).map bf).toArray := litB b16 rfl
  refine src_one r16 ?_
  have e16 := e15.trans x16
  have z16 := e16.size
  refine Lst.appends (f := bf) (l99.ext x16) [1, 2, 3] rfl rfl bf_one (by omega) z16 (by omega) fun A101 c101 g17 l101 m17 d17 => ?_
  have e17 : Go.Oct.Ext g12 g17 := e16.then m17 (fun i hi => (l99.ext x16).2.base_le hi)
  have hbody : body (putH h2 ++ putL (pairs xs) p ++ bh ++ [1, 2, 3]) = .inl (h2, pairs xs, p, bh) := body_put hR o2 hf2 rfl (by show (n45 : Int) + n2 = _; omega)
  have hTb : ∀ y ∈ putH h2 ++ putL (pairs xs) p ++ bh ++ [1, 2, 3], isB y := by
    intro y hy
    simp only [List.mem_append] at hy
    rcases hy with ((hy | hy) | hy) | hy
    · exact putH_isB o2 y hy
    · exact hsb y hy
    · exact by2 y hy
    · exact isB_lit (xs := [1, 2, 3]) (by decide) y hy
  refine c15 (Lst.row (f := bf) l101) l101.2.le (by omega) hTb (fun e he => by rw [hbody] at he; cases he) (fun hb A n c zs q rest he hqb hrb A18 c18 g18 x18 cx18 l18 _ => asT4_of (asA_of ?_ (asA_of rfl (asS_of (asI_of ?_)))))
  · rw [hbody] at he
    simp only [Sum.inl.injEq, Prod.mk.injEq] at he
    rw [← he.1, List.size_toArray]; exact hsz2
  rw [hbody] at he
  simp only [Sum.inl.injEq, Prod.mk.injEq] at he
  obtain ⟨rfl, hzs, rfl, rfl⟩ := he
  refine alloc_new fun p19 g19 y19 b19 x19 => alloc_new fun p20 g20 y20 b20 x20 => ?_
  have l19 := b19.lt
  refine store_all (b19.ext x20) (by rw [List.size_toArray]; exact hsz2) (by rfl) (hcells_one h2) fun g21 b21 m21 => ?_
  refine store_all (b20.mod m21 (fun e => by omega)) rfl (by rfl) (by simp [OneCells, chv, Value.oneCell']) fun g22 b22 m22 => ?_
  have b21' := b21.mod m22 (fun e => by omega)
  have mm : Go.Oct.Mod g20 g22 (fun i => i = p19 ∨ i = p20) := (m21.mono fun i _ hi => .inl hi).trans (m22.mono fun i _ hi => .inr hi)
  have z19 := x19.size
  have e22 : Go.Oct.Ext g18 g22 := (x19.trans x20).then mm (fun i hi => by rcases hi with hi | hi <;> omega)
  have k22 := (k12.ext (e17.trans x18)).ext e22
  have k622 := ((k69.mod m912 (fun e => by omega)).ext (e17.trans x18)).ext e22
  have hh22 : Go.Oct.Ext h g22 := e12.trans (e17.trans (x18.trans e22))
  have a22 : At g22 p20 0 [.slice A n c, .int .u8 p] := b22.at_
  refine ⟨fun b g => b = false ∧ Go.Oct.Ext g22 g, ?_, ?_⟩
  · refine ifB_ne (fun h => absurd rfl h) (fun _ => ifB_dec (fun _ => ifB_ne (fun h => absurd rfl h) (fun _ => ?_)) (fun _ => ⟨rfl, Go.Oct.Ext.refl _⟩))
    refine b21'.at_.loadN hsz2 (k22.at_.loadN hsz2 ?_)
    refine eq26 h2 h2 o2 o2 ?_
    rw [decide_eq_true rfl, ifB_nt]
    refine a22.loadN rfl (k622.at_.loadN rfl ?_)
    refine c13 (c := c) (d := q1) ((cx18.ext e22).ch hqb) (ch.ext hh22) fun g23 x23 => asB_of ?_
    rw [decide_eq_true ⟨hzs.symm, rfl⟩, ifB_nt]
    refine c16 A18 _ c18 bh A2 n2 q2 bh g23 _ (Lst.row (f := bf) ((l18.ext e22).ext x23)) (r2.ext (hh22.trans x23)) (by omega) (asB_of ⟨?_, x23⟩)
    rw [decide_eq_true rfl]; rfl
  rintro b134 g23 ⟨rfl, x23⟩
  rw [ifB_false]
  exact hh22.trans x23
end Go.Proofs.Ythfjpnabalkjkaa
