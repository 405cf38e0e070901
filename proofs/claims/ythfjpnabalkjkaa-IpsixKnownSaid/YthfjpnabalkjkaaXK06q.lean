/- What is proved: contracts of functions that the law calls, and of the law itself, over any heap. Conditions stand in each theorem. -/
import Derived.Test.YthfjpnabalkjkaaXK06p
set_option linter.unusedSimpArgs false
set_option linter.unusedVariables false
namespace Go.Proofs.Ythfjpnabalkjkaa
open Go.Oct Go.Oct.L01 Go.Oct.L06
/-- a chain's data is written over -/
theorem spoilX {h : H} {base p7 : Nat} {A : Option Addr} {n c : Nat} {xs : List Ex} {p : Int} {rest : H → Prop} (cx : Cx h base A n c xs) (k7 : Blk h p7 (chv A n c p) 29) (hk : ∀ h', Go.Oct.Mod h h' (fun i => ∃ x ∈ xs, blkOf x.A i) → rest h') :
    loopK [.int .i64] (fun (kN_1 : Int → H → Prop) (x21 : Int) (h : H) => addrK (some ⟨p7, 0, none⟩) 0 (fun p102 => load1 p102 h (fun v103 => asS v103 (fun A103 n103 c103 => ifB (decide (x21 < (n103 : Int))) (addrK (some ⟨p7, 0, none⟩) 0 (fun p108 => load1 p108 h (fun v109 => asS v109 (fun A109 n109 c109 => indexK 2 A109 n109 x21 (fun p111 => addrK p111 1 (fun p112 => load1 p112 h (fun v113 => asS v113 (fun A113 n113 c113 => callK Try.prog 28 #[(.slice A113 n113 c113)] h (fun v114 h => kN_1 (IntKind.wrap .i64 (x21 + 1)) h))))))))) (rest h))))) (fun I => I 0 h) := by
  have hxl : xs.length = n := cx.exts.1
  have hn := cx.few
  refine ⟨fun x g => ∃ j : Nat, x = j ∧ j ≤ n ∧ Lst g base 48 Ex.cells 2 A n c xs ∧ Blk g p7 (chv A n c p) 29 ∧ (∀ i v, j ≤ i → xs[i]? = some v → Byt g base v.A v.n v.c v.d) ∧ Go.Oct.Mod h g (fun i => ∃ x ∈ xs, blkOf x.A i), fun x g => (n - x).toNat,
    ⟨0, rfl, by omega, cx.exts, k7, fun i v _ hv => cx.dat v (List.mem_of_getElem? hv), Go.Oct.Mod.refl _ _⟩, ?_⟩
  rintro x g ⟨j, rfl, hj, l, kg, rows, mg⟩
  refine addrK_of rfl (kg.at_.load1 0 rfl rfl (asS_of ?_))
  refine ifB_dec (fun hlt => ?_) (fun hge => hk g mg)
  have hx : xs[j]? = some xs[j] := List.getElem?_eq_getElem (by omega)
  have hm := List.getElem_mem (show j < xs.length by omega)
  generalize xs[j] = v at *
  have hv := rows j v (Nat.le_refl _) hx
  have hs := cx.sml v hm
  refine addrK_of rfl (kg.at_.load1 0 rfl rfl (asS_of ?_))
  refine l.index Ex.len rfl hx fun b _ ha => addrK_of rfl (ha.load1 1 rfl rfl (asS_of ?_))
  refine c28 hv (by omega) fun g2 m2 => ?_
  refine ⟨⟨j + 1, wrap64_id (by omega) (by omega), by omega, l.mod m2 (l.2.disj hv.2 (by decide)), kg.mod m2 (fun e => hv.2.ne_blk kg (by decide) _ e rfl), fun i v' hi hv' => ?_, mg.trans (m2.mono fun i _ hi => ⟨v, hm, hi⟩)⟩, ?_⟩
  · exact (rows i v' (by omega) hv').mod m2 (fun b hb' hbv' => cx.dj j i v v' hx hv' (by omega) b hbv' hb')
  · rw [wrap64_id (by omega) (by omega)]
    dsimp only
    omega
set_option maxHeartbeats 2000000 in
/-- IpsixParses -/
theorem c6 {h : H} {k : Value → H → Prop} {x0 : Int} (hx0 : isB x0) {A1 : Option Addr} {n1 q1 : Nat} {b : List Int} (r1 : RowH h A1 n1 (b.map bf).toArray) (hq1 : n1 ≤ q1) (hb : ∀ x ∈ b, isB x)
    (hk : ∀ h', Go.Oct.Ext h h' → k (.bool true) h') : callK Try.prog 6 #[.int .u8 x0, .slice A1 n1 q1] h k := by
  refine call6 _ _ _ _ _ _ ?_
  unfold d6
  have hbl : b.length = n1 := by simpa using r1.1
  refine ifB_dec (fun _ => c9 _ _ fun h' e => asB_of (hk h' e)) (fun hn => ?_)
  refine c12 A1 n1 q1 b h _ r1 (by omega) fun A28 q28 g1 x1 l28 => asS_of ?_
  refine ⟨fun b4 x g => b4 = false ∧ ∃ t : Nat, x = t ∧ t ≤ 2 ∧ Go.Oct.Ext g1 g, fun b4 x g => (2 - x).toNat, ⟨rfl, 0, rfl, by omega, Go.Oct.Ext.refl _⟩, ?_⟩
  rintro b4 x gt ⟨rfl, t, rfl, ht, xt⟩
  have l28t := l28.ext xt
  have x0t := x1.trans xt
  have rA := r1.ext x0t
  have rB : RowH gt A28 n1 (b.map bf).toArray := Lst.row (f := bf) l28t
  have hq28 := l28.2.le
  refine ifB_dec (fun hlt => ?_) (fun hge => ?_)
  rotate_left
  · refine c16 A28 n1 q28 b A1 n1 q1 b gt _ rB rA (by omega) (asB_of ?_)
    rw [decide_eq_true rfl, ifB_true]
    exact c9 _ _ fun h' e => asB_of (hk h' (x0t.trans e))
  refine c11p x0 hx0 rA hq1 (by omega) hb fun A n c xs g2 x2 cx hxs hpb => asT3_of (asA_of rfl (asI_of (asI_of ?_)))
  refine newVr (by simp) rfl (by simp [OneCells, chv, Value.oneCell']) fun p7 g3 y3 b3 x3 => ?_
  have x23 := x2.trans x3
  refine c24p x0 hx0 (rB.ext x23) hq28 (by omega) hb fun L n' q' g4 x4 rc => asT3_of (asA_of rfl (asI_of (asI_of ?_)))
  refine newVr (by simp) rfl (by simp [OneCells, chv, Value.oneCell']) fun p10 g5 y5 b5 x5 => ?_
  have x35 := x4.trans x5
  have x25 := x23.trans x35
  have a7 : At g5 p7 0 [.slice A n c, .int .u8 (cP x0 b)] := (b3.ext x35).at_
  have a10 : At g5 p10 0 [.slice L n' q', .int .u8 (cP x0 b)] := b5.at_
  have ch5 := (cx.ext (x3.trans x35)).ch hpb
  have hn16 := cx.few
  refine ⟨fun b61 g => b61 = false ∧ Go.Oct.Ext g5 g, draw_ext ?_, ?_⟩
  · refine ifB_ne (fun h => absurd rfl h) (fun _ => ifB_ne (fun h => absurd rfl h) (fun _ => ?_))
    refine a7.loadSN rfl (a10.loadSN rfl ?_)
    refine c18 (c := c) ch5 (by omega) (fun x hx => by have := cx.sml x hx; omega) fun L2 q2 g6 x6 _ rr => asA_of rfl ⟨x6, ?_⟩
    rw [hxs] at rr
    refine c23 (q := q2) (q' := q') rr ((rc.ext x5).ext x6) fun g7 x7 => asB_of ⟨?_, x6.trans x7⟩
    rw [decide_eq_true ⟨rfl, rfl⟩]; rfl
  rintro b61 g6 ⟨rfl, x6⟩
  rw [ifB_false]
  have x26 := x25.trans x6
  refine c15p (rA.ext x26) hq1 (by omega) hb fun A2 n2 c2 zs A3 c3' g7 x7 dx hzs hpb2 hrb l3 dj3 => asT4_of (asA_of ?_ (asA_of rfl (asS_of (asI_of ?_))))
  · rw [List.size_toArray]
    refine hcells_len ?_
    unfold bH
    cases hbd : body b with
    | inl r => exact (body_hd hb hbd).2
    | inr e => exact zH_ok
  have obH : (bH b).ok := by
    unfold bH
    cases hbd : body b with
    | inl r => exact (body_hd hb hbd).2
    | inr e => exact zH_ok
  have hszH := hcells_len obH
  refine alloc_new fun p13 g8 y8 b8 x8 => alloc_new fun p14 g9 y9 b9 x9 => ?_
  have l8 := b8.lt
  refine store_all (b8.ext x9) (by rw [List.size_toArray]; exact hszH) (by rfl) (hcells_one _) fun g10 k10 m10 => ?_
  refine store_all (b9.mod m10 (fun e => by omega)) rfl (by rfl) (by simp [OneCells, chv, Value.oneCell']) fun g11 k11 m11 => ?_
  have k13 := k10.mod m11 (fun e => by omega)
  have mm1 : Go.Oct.Mod g9 g11 (fun i => i = p13 ∨ i = p14) := (m10.mono fun i _ hi => .inl hi).trans (m11.mono fun i _ hi => .inr hi)
  have z8 := x8.size
  have e711 : Go.Oct.Ext g7 g11 := (x8.trans x9).then mm1 (fun i hi => by rcases hi with hi | hi <;> omega)
  have x711 := x7.trans e711
  refine c25 (rB.ext (x26.trans x711)) hq28 (by omega) hb fun L4 n4 q4 A4 c4' g12 x12 rc4 r4 => asT4_of (asA_of rfl (asA_of rfl (asS_of (asI_of ?_))))
  refine alloc_new fun p17 g13 y13 b13 x13 => alloc_new fun p18 g14 y14 b14 x14 => ?_
  have l13 := b13.lt
  refine store_all (b13.ext x14) rfl (by rfl) (rcells_one _) fun g15 k15 m15 => ?_
  refine store_all (b14.mod m15 (fun e => by omega)) rfl (by rfl) (by simp [OneCells, chv, Value.oneCell']) fun g16 k16 m16 => ?_
  have k17 := k15.mod m16 (fun e => by omega)
  have mm2 : Go.Oct.Mod g14 g16 (fun i => i = p17 ∨ i = p18) := (m15.mono fun i _ hi => .inl hi).trans (m16.mono fun i _ hi => .inr hi)
  have z13 := x13.size
  have e1216 : Go.Oct.Ext g12 g16 := (x13.trans x14).then mm2 (fun i hi => by rcases hi with hi | hi <;> omega)
  have e1116 := x12.trans e1216
  have k13' := k13.ext e1116
  have k14' := k11.ext e1116
  have a14 : At g16 p14 0 [.slice A2 n2 c2, .int .u8 (bP b)] := k14'.at_
  have a18 : At g16 p18 0 [.slice L4 n4 q4, .int .u8 (bP b)] := k16.at_
  have dx16 := dx.ext (e711.trans e1116)
  have dch := dx16.ch hpb2
  have l316 := l3.ext (e711.trans e1116)
  have hrl : (bR b).length ≤ 3000 := by
    unfold bR
    cases hbd : body b with
    | inr e => simp
    | inl r =>
      dsimp only
      unfold body at hbd
      split at hbd
      · cases hbd
      · split at hbd
        · cases hbd
        · split at hbd
          · cases hbd
          · cases hbd
            dsimp only
            rw [List.length_drop, List.length_take, List.length_drop]
            omega
  refine ⟨fun b98 g => b98 = false ∧ Go.Oct.Ext g16 g, draw_ext ?_, ?_⟩
  · refine ifB_ne (fun h => absurd rfl h) (fun _ => ?_)
    refine k13'.at_.loadSN hszH (k17.at_.loadSN rfl ?_)
    refine c26 (bH b) obH fun g17 x17 => asA_of rfl ⟨x17, ?_⟩
    have hsrc : ∀ x ∈ (bHr b).src, isB x := by
      unfold bHr
      cases hbd : body b with
      | inl r => exact (body_hd hb hbd).2.bsrc
      | inr e => simp [zR]
    have heq : (if (bHr b).src = [] then zH else bHr b) = bH b := by
      unfold bHr bH
      cases hbd : body b with
      | inl r =>
        have := (body_hd hb hbd).2.src
        dsimp only
        rw [if_neg (by intro e; rw [e] at this; simp at this)]
      | inr e => rfl
    refine c27 (bHr b) hsrc fun g18 x18 => asA_of rfl ⟨x17.trans x18, ?_⟩
    rw [heq]
    refine eq64 _ ?_
    rw [ifB_nt]
    refine a14.loadSN rfl (a18.loadSN rfl ?_)
    have x1718 := x17.trans x18
    refine c18 (c := c2) (dch.ext x1718) (by have := dx.few; omega) (fun x hx => by have := dx.sml x hx; omega) fun L5 q5 g19 x19 _ rr => asA_of rfl ⟨x1718.trans x19, ?_⟩
    rw [hzs] at rr
    refine c23 (q := q5) (q' := q4) rr ((rc4.ext e1216).ext (x1718.trans x19)) fun g20 x20 => asB_of ?_
    rw [decide_eq_true ⟨rfl, rfl⟩, ifB_nt]
    have x1720 := x1718.trans (x19.trans x20)
    refine c16 A3 _ c3' (bR b) A4 _ c4' (bR b) g20 _ (Lst.row (f := bf) (l316.ext x1720)) ((r4.ext e1216).ext x1720) (by omega) (asB_of ⟨?_, x1720⟩)
    rw [decide_eq_true rfl]; rfl
  rintro b98 g17 ⟨rfl, x17⟩
  rw [ifB_false]
  have z2 := x2.size
  have z3 := x3.size
  have z4 := x4.size
  have z5 := x5.size
  have z6 := x6.size
  have z7 := x7.size
  have zz8 := x8.size
  have lp7 := b3.lt
  have e617 : Go.Oct.Ext g6 g17 := x711.trans (e1116.trans x17)
  have e217 : Go.Oct.Ext g2 g17 := x3.trans (x35.trans (x6.trans e617))
  have h3b := fun i (hi : blkOf A3 i) => l3.2.base_le hi
  have hcl := fun i (hi : blkOf A i) => cx.exts.2.lt hi
  have hcd := fun v hv i (hi : blkOf v.A i) => (cx.dat v hv).2.lt hi
  have hcb := fun v hv i (hi : blkOf v.A i) => (cx.dat v hv).2.base_le hi
  have hdb := fun v hv i (hi : blkOf v.A i) => (dx.dat v hv).2.base_le hi
  have hdl := fun i (hi : blkOf A2 i) => dx.exts.2.base_le hi
  refine c28 (l316.ext x17) (by omega) fun g18 m18 => ?_
  have cx18 := (cx.ext e217).mod m18 (fun i hi e => by have := h3b i e; have := hcl i hi; omega) (fun v hv i hi e => by have := h3b i e; have := hcd v hv i hi; omega)
  have k718 := ((b3.ext x35).ext (x6.trans e617)).mod m18 (fun e => by have := h3b _ e; omega)
  refine spoilX (p := cP x0 b) cx18 k718 fun g19 m19 => ?_
  have dx19 := ((dx16.ext x17).mod m18 (fun i hi e => dx.exts.2.disj l3.2 (by decide) i hi e) (fun v hv i hi e => dj3 v hv i hi e)).mod m19 (fun i hi e => by
    obtain ⟨v, hv, e⟩ := e
    have := hcd v hv i e
    have := hdl i hi
    omega) (fun w hw i hi e => by
    obtain ⟨v, hv, e⟩ := e
    have := hcd v hv i e
    have := hdb w hw i hi
    omega)
  have k1419 := ((k14'.ext x17).mod m18 (fun e => (l316.ext x17).2.ne_blk (k14'.ext x17) (by decide) _ e rfl)).mod m19 (fun e => by
    obtain ⟨v, hv, e⟩ := e
    have := hcd v hv _ e
    omega)
  refine spoilX (p := bP b) dx19 k1419 fun g20 m20 => ?_
  have et : Go.Oct.Ext gt g17 := x2.trans e217
  have e18 := et.then m18 (fun i hi => by have := h3b i hi; omega)
  have e19 := e18.then m19 (fun i hi => by obtain ⟨v, hv, e⟩ := hi; have := hcb v hv i e; omega)
  have e20 := e19.then m20 (fun i hi => by obtain ⟨v, hv, e⟩ := hi; have := hdb v hv i e; omega)
  refine ⟨⟨rfl, t + 1, wrap64_id (by omega) (by omega), by omega, xt.trans e20⟩, ?_⟩
  rw [wrap64_id (by omega) (by omega)]
  dsimp only
  omega
end Go.Proofs.Ythfjpnabalkjkaa
