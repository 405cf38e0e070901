/- What is proved: contracts of functions that the law calls, and of the law itself, over any heap. Conditions stand in each theorem. -/
import Derived.Test.YthfjpnabalkjkaaXK06f
set_option linter.unusedSimpArgs false
set_option linter.unusedVariables false
namespace Go.Proofs.Ythfjpnabalkjkaa
open Go.Oct Go.Oct.L01 Go.Oct.L06 Go.RowKit Go.Proofs.YthfjpnabalkjkaaW.PrintWords Go.Extern.Stop
/-! ### '==' of headers -/
def toU (xs : List Int) : List UInt8 := xs.map fun x => UInt8.ofNat x.toNat
theorem toU_cell {xs : List Int} (h : ∀ x ∈ xs, isB x) : ((toU xs).map cell).toArray = (xs.map bf).toArray := by
  congr 1
  unfold toU
  rw [List.map_map]
  refine List.map_congr_left fun x hx => ?_
  have := h x hx
  unfold isB at this
  simp only [Function.comp, cell, bf, UInt8.toNat_ofNat']
  congr 1
  rw [Nat.mod_eq_of_lt (by omega)]
  exact Int.toNat_of_nonneg this.1
theorem toU_eq {xs ys : List Int} (hx : ∀ x ∈ xs, isB x) (hy : ∀ x ∈ ys, isB x) : (toU xs == toU ys) = decide (xs = ys) := by
  have := str_beq hx hy
  have e : ∀ zs : List Int, ByteArray.toList (strOfNums zs) = toU zs := fun zs => by
    rw [ByteArray.toList_eq]; rfl
  rwa [e, e] at this
theorem eqM24 (d : Nat) (w : World) (xs ys : List Int) (hx : xs.length = 16) (hy : ys.length = 16) (bx : ∀ x ∈ xs, isB x) (by_ : ∀ x ∈ ys, isB x) : (Op.equalIn (d + 2) 24 (.agg (xs.map bf).toArray) (.agg (ys.map bf).toArray)).run Try.prog w = .ok (decide (xs = ys)) w := by
  have := run_equalIn_bytes (P := Try.prog) w d 24 5 16 Try.underlying24 Try.underlying5 (fun w => size_run (by kernel_rfl) w) (toU xs) (toU ys) (by simp [toU, hx]) (by simp [toU, hy])
  rw [toU_cell bx, toU_cell by_, toU_eq bx by_] at this
  exact this
theorem part24 {cs : Array Value} {o : Nat} {w : World} : (part 24 cs o).run Try.prog w = .ok (.agg (cs.extract o (o + 16))) w := by
  have h1 : (isAgg 24).run Try.prog w = .ok true w := agg_run (by kernel_rfl) w
  have h2 : (sizeOf 24).run Try.prog w = .ok 16 w := size_run (by kernel_rfl) w
  simp only [part, Sem.run_bind, h1, h2, Result.andThen_ok, if_true, Sem.run_pure]
theorem eqM26 (d : Nat) (w : World) (x y : Hd) (ox : x.ok) (oy : y.ok) : (Op.equalIn (d + 3) 26 (.agg (hcells x).toArray) (.agg (hcells y).toArray)).run Try.prog w = .ok (x.cls == y.cls && (x.flow == y.flow && (x.len == y.len && (x.nx == y.nx && (x.hops == y.hops && (decide (x.src = y.src) && decide (x.dst = y.dst))))))) w := by
  refine eqA_of Try.underlying26 (by kernel_rfl) ?_
  refine eqf_cons (by rfl) (by go_simp; rfl) (by go_simp; rfl) (by go_simp) ?_
  refine eqf_cons (by rfl) (by go_simp; rfl) (by go_simp; rfl) (by go_simp) ?_
  refine eqf_cons (by rfl) (by go_simp; rfl) (by go_simp; rfl) (by go_simp) ?_
  refine eqf_cons (by rfl) (by go_simp; rfl) (by go_simp; rfl) (by go_simp) ?_
  refine eqf_cons (by rfl) (by go_simp; rfl) (by go_simp; rfl) (by go_simp) ?_
  refine eqf_cons (by rfl) part24 part24 ?_ ?_
  · have h1 := hd_src ox
    have h2 := hd_src oy
    simp only [h1, h2]
    exact eqM24 d w _ _ ox.src oy.src ox.bsrc oy.bsrc
  refine eqf_last (by rfl) part24 part24 ?_
  have h1 := hd_dst ox
  have h2 := hd_dst oy
  simp only [h1, h2]
  exact eqM24 d w _ _ ox.dst oy.dst ox.bdst oy.bdst
theorem eq26 (x y : Hd) (ox : x.ok) (oy : y.ok) {k : Bool → Prop} (hk : k (decide (x = y))) : eqAggK Try.prog 26 (hcells x).toArray (hcells y).toArray k := by
  refine ⟨_, by kernel_rfl, fun z => eqM26 9997 z x y ox oy, ?_⟩
  have : (x.cls == y.cls && (x.flow == y.flow && (x.len == y.len && (x.nx == y.nx && (x.hops == y.hops && (decide (x.src = y.src) && decide (x.dst = y.dst))))))) = decide (x = y) := by
    obtain ⟨a, b, c, d, e, f, g⟩ := x
    obtain ⟨a', b', c', d', e', f', g'⟩ := y
    dsimp only
    rw [beq_dec, beq_dec, beq_dec, beq_dec, beq_dec]
    by_cases h1 : a = a' <;> by_cases h2 : b = b' <;> by_cases h3 : c = c' <;> by_cases h4 : d = d' <;> by_cases h5 : e = e' <;> by_cases h6 : f = f' <;> by_cases h7 : g = g' <;> simp [h1, h2, h3, h4, h5, h6, h7]
  rw [this]; exact hk
/-! ### a whole packet -/
def body (b : List Int) : (Hd × List L06.Ext × Int × List Int) ⊕ Int :=
  match parseH b with
  | .inr e => .inr e
  | .inl h =>
    if (b.length : Int) < 40 + h.len then .inr 10
    else match parse h.nx ((b.drop 40).take h.len.toNat) with
      | .inr e => .inr e
      | .inl (xs, p, u) => .inl (h, xs, p, ((b.drop 40).take h.len.toNat).drop u)
theorem body_err {b : List Int} {e : Int} (h : body b = .inr e) : e ≠ 0 := by
  unfold body at h
  split at h
  · rename_i e' h1
    cases h
    rcases parseH_err h1 with h2 | h2 <;> omega
  · split at h
    · cases h; decide
    · split at h
      · rename_i e' h1
        cases h
        rcases pc_err h1 with h2 | h2 <;> omega
      · cases h
section
variable {h : H} {k : Value → H → Prop} {B : Option Addr} {m d : Nat} {b : List Int}
set_option maxHeartbeats 1000000 in
/-- Body -/
theorem c15 (hr : RowH h B m (b.map bf).toArray) (hmd : m ≤ d) (hm : m ≤ 1000000) (hb : ∀ x ∈ b, isB x)
    (herr : ∀ e, body b = .inr e → ∀ h', Go.Oct.Ext h h' → k (.tuple #[.agg (hcells zH).toArray, .agg (chv none 0 0 0), .slice none 0 0, .int .i64 e]) h')
    (hk : ∀ (hh : Hd) (A : Option Addr) (n c : Nat) (xs : List Ex) (p : Int) (rest : List Int), body b = .inl (hh, pairs xs, p, rest) → isB p → (∀ x ∈ rest, isB x) → ∀ (A' : Option Addr) (c' : Nat) (h' : H), Go.Oct.Ext h h' → Cx h' h.size A n c xs → Byt h' h.size A' rest.length c' rest → (∀ x ∈ xs, ∀ i, blkOf x.A i → ¬ blkOf A' i) →
      k (.tuple #[.agg (hcells hh).toArray, .agg (chv A n c p), .slice A' rest.length c', .int .i64 0]) h') : callK Try.prog 15 #[.slice B m d] h k := by
  refine call15 _ _ _ _ _ ?_
  unfold d15
  have hbl : b.length = m := by simpa using hr.1
  refine alloc_new fun p2 g1 y2 b2 x1 => alloc_new fun p3 g2 y3 b3 x2 => ?_
  have x12 := x1.trans x2
  have z1 := x1.size
  have z2 := x2.size
  have l2 := b2.lt
  have l3 := b3.lt
  have b2 : Blk g2 p2 (hcells zH).toArray 26 := b2.ext x2
  have b3 : Blk g2 p3 (chv none 0 0 0) 29 := b3
  have zerr : ∀ (e : Int) (g' : H), Go.Oct.Ext g2 g' → (∀ h', Go.Oct.Ext h h' → k (.tuple #[.agg (hcells zH).toArray, .agg (chv none 0 0 0), .slice none 0 0, .int .i64 e]) h') →
      storeK 37 (some ⟨p2, 0, none⟩) (hcells zH).toArray g' (fun h => storeK 2 (some ⟨p3, 0, none⟩) (chv none 0 0 0) h (fun h => loadN 37 (some ⟨p2, 0, none⟩) h (fun c2 => loadN 2 (some ⟨p3, 0, none⟩) h (fun c3 => k (.tuple #[(.agg c2), (.agg c3), .slice none 0 0, (.int .i64 e)]) h)))) := by
    intro e g' xg hk
    refine store_all (b2.ext xg) rfl (by rfl) (hcells_one zH) fun g4 b4 m4 => ?_
    refine store_all ((b3.ext xg).mod m4 (fun e => by omega)) rfl (by rfl) (by simp [OneCells, chv, Value.oneCell']) fun g5 b5 m5 => ?_
    refine (b4.mod m5 (fun e => by omega)).at_.loadN rfl (b5.at_.loadN rfl (hk g5 (((x12.trans xg).then m4 (fun i hi => by rw [hi]; exact y2)).then m5 (fun i hi => by rw [hi]; omega))))
  unfold body at herr hk
  refine c30 (hr.ext x12) hmd hm hb (fun e he g3 x3 => asT2_of (asA_of rfl (asI_of ?_))) (fun hh he g3 x3 => asT2_of (asA_of ?_ (asI_of ?_)))
  · rw [he] at herr
    have he0 : e ≠ 0 := by rcases parseH_err he with h1 | h1 <;> omega
    refine newVr (by simp) rfl (hcells_one zH) fun p6 g4 y4 b4 x4 => ?_
    exact ifB_ne (fun _ => zerr e g4 (x3.trans x4) (herr e rfl)) (fun h1 => absurd h1 he0)
  · obtain ⟨oh, -, -⟩ := parseH_ok hb he
    rw [List.size_toArray]; exact hcells_len oh
  obtain ⟨oh, heq, h40⟩ := parseH_ok hb he
  have hsz := hcells_len oh
  rw [he] at herr hk
  dsimp only at herr hk
  have hlen := oh.len
  refine newVr (by simp) (by rw [List.size_toArray]; exact hsz) (hcells_one hh) fun p6 g4 y4 b4 x4 => ?_
  refine ifB_ne (fun h1 => absurd rfl h1) (fun _ => ?_)
  have x34 := x3.trans x4
  have a6 : At g4 p6 0 (hcells hh) := b4.at_
  refine addrK_of rfl (a6.load1 2 rfl rfl (asI_of ?_))
  rw [wrap64_id (x := hh.len) (by omega) (by omega), wrap64_id (by omega) (by omega)]
  refine ifB_dec (fun h1 => zerr 10 g4 x34 (herr 10 (by rw [if_pos (by omega)]))) (fun h1 => ?_)
  have h1' : ¬ (b.length : Int) < 40 + hh.len := by omega
  rw [if_neg h1'] at herr hk
  obtain ⟨n, hn⟩ := Int.eq_ofNat_of_zero_le hlen.1
  have x04 := x12.trans x34
  have r4 := hr.ext x04
  have hbb : ∀ x ∈ (b.drop 40).take n, isB x := fun x hx => hb x (List.mem_of_mem_drop (List.mem_of_mem_take hx))
  rw [hn, Int.toNat_natCast] at herr hk
  have z04 := x04.size
  -- the chain
  refine ⟨fun p9 x10 x7 g5 => ∃ (b9 : Nat) (A : Option Addr) (nn c : Nat) (xs : List Ex) (p : Int), p9 = some ⟨b9, 0, none⟩ ∧ Go.Oct.Ext g4 g5 ∧ g4.size ≤ b9 ∧ ((∃ u : Nat, parse hh.nx ((b.drop 40).take n) = .inl (pairs xs, p, u) ∧ isB p ∧ x10 = u ∧ x7 = 0 ∧ Cx g5 g4.size A nn c xs ∧ Blk g5 b9 (chv A nn c p) 29) ∨ (parse hh.nx ((b.drop 40).take n) = .inr x7 ∧ x7 ≠ 0)), draw_ext ?_, ?_⟩
  · refine addrK_of rfl (a6.loadS1 3 rfl rfl (asI_of ?_))
    rw [needK_true (by simp), hn]
    refine row_slice r4 hmd (l := 40) (u := 40 + n) rfl (by simp) (by omega) (by omega) fun A36 c36 r36 hc36 _ _ => ?_
    have e1 : 40 + n - 40 = n := by omega
    rw [e1] at r36 hc36 ⊢
    constructor
    · refine c11 hh.nx A36 n c36 ((b.drop 40).take n) oh.nx r36 hc36 (by omega) hbb (fun e hpe g5 x5 => asT3_of (asA_of rfl (asI_of (asI_of ⟨x5, ?_⟩)))) (fun A nn c xs p u hpo hpb g5 x5 cx => asT3_of (asA_of rfl (asI_of (asI_of ⟨x5, ?_⟩))))
      · refine alloc_new fun b9 g6 y6 b6 x6 => ⟨x5.trans x6, ?_⟩
        refine store_all b6 rfl (by rfl) (by simp [OneCells, chv, Value.oneCell']) fun g7 b7 m7 => ?_
        have z5 := x5.size
        refine ⟨b9, none, 0, 0, [], 0, rfl, (x5.trans x6).then m7 (fun i hi => by rw [hi]; omega), by omega, .inr ⟨hpe, by rcases pc_err hpe with h2 | h2 <;> omega⟩⟩
      · refine alloc_new fun b9 g6 y6 b6 x6 => ⟨x5.trans x6, ?_⟩
        refine store_all b6 rfl (by rfl) (by simp [OneCells, chv, Value.oneCell']) fun g7 b7 m7 => ?_
        have z5 := x5.size
        have cx6 := cx.ext x6
        refine ⟨b9, A, nn, c, xs, p, rfl, (x5.trans x6).then m7 (fun i hi => by rw [hi]; omega), by omega, .inl ⟨u, hpo, hpb, rfl, rfl, cx6.mod m7 (fun i hi e => ?_) (fun v hv i hi e => ?_), b7⟩⟩
        · have := cx.exts.2.lt hi; omega
        · have := (cx.dat v hv).2.lt hi; omega
    · refine alloc_new fun b9 g6 y6 b6 x6 => ⟨x6, ?_⟩
      have z6 := x6.size
      have l6 := b6.lt
      refine c11 hh.nx A36 n c36 ((b.drop 40).take n) oh.nx (r36.ext x6) hc36 (by omega) hbb (fun e hpe g5 x5 => asT3_of (asA_of rfl (asI_of (asI_of ⟨x6.trans x5, ?_⟩)))) (fun A nn c xs p u hpo hpb g5 x5 cx => asT3_of (asA_of rfl (asI_of (asI_of ⟨x6.trans x5, ?_⟩))))
      · refine store_all (b6.ext x5) rfl (by rfl) (by simp [OneCells, chv, Value.oneCell']) fun g7 b7 m7 => ?_
        refine ⟨b9, none, 0, 0, [], 0, rfl, (x6.trans x5).then m7 (fun i hi => by rw [hi]; omega), by omega, .inr ⟨hpe, by rcases pc_err hpe with h2 | h2 <;> omega⟩⟩
      · refine store_all (b6.ext x5) rfl (by rfl) (by simp [OneCells, chv, Value.oneCell']) fun g7 b7 m7 => ?_
        have cw : Cx g5 g4.size A nn c xs := { cx with exts := ⟨cx.exts.1, cx.exts.2.weaken z6⟩, dat := fun v hv => Lst.weaken (cx.dat v hv) z6 }
        refine ⟨b9, A, nn, c, xs, p, rfl, (x6.trans x5).then m7 (fun i hi => by rw [hi]; omega), by omega, .inl ⟨u, hpo, hpb, rfl, rfl, cw.mod m7 (fun i hi e => ?_) (fun v hv i hi e => ?_), b7⟩⟩
        · have := cx.exts.2.base_le hi; omega
        · have := (cx.dat v hv).2.base_le hi; omega
  rintro p9 x10 x7 g5 ⟨b9, A, nn, c, xs, p, rfl, x5, y9, h2⟩
  rcases h2 with ⟨u, hpo, hpb, rfl, rfl, cx, k9⟩ | ⟨hpe, h7⟩
  rotate_left
  · refine ifB_ne (fun _ => zerr x7 g5 (x34.trans x5) (herr x7 (by rw [hpe]))) (fun h1 => absurd h1 h7)
  refine ifB_ne (fun h1 => absurd rfl h1) (fun _ => ?_)
  rw [hpo] at hk
  dsimp only at hk
  obtain ⟨-, -, hul, -, -⟩ := put_of_parse hbb hpo
  have hnl : ((b.drop 40).take n).length = n := by rw [List.length_take, List.length_drop]; omega
  rw [hnl] at hul
  have z5 := x5.size
  have z3 := x34.size
  have a65 := a6.ext x5
  have a9 : At g5 b9 0 [.slice A nn c, .int .u8 p] := k9.at_
  have hp6 : p6 < g4.size := b4.lt
  refine ⟨fun g' => Go.Oct.Mod g5 g' (fun i => i = p2), Go.Oct.Mod.refl _ _, ?_⟩
  have z34 := x3.size
  have n62 : ¬ p6 = p2 := by omega
  have n92 : ¬ b9 = p2 := by omega
  refine At.loadSNm a65 n62 hsz (At.loadSNm a9 n92 rfl ?_)
  rw [needK_true (by simp), hn, wrap64_id (by omega) (by omega)]
  refine row_slice (r4.ext x5) hmd (l := 40 + u) (u := 40 + n) (by simp) (by simp) (by omega) (by omega) fun A52 c52 r52 _ _ _ => ?_
  have e2 : 40 + n - (40 + u) = n - u := by omega
  have e3 : (b.drop (40 + u)).take (n - u) = ((b.drop 40).take n).drop u := by rw [List.drop_take, List.drop_drop]
  rw [e2, e3] at r52
  rw [e2]
  have hrl : (((b.drop 40).take n).drop u).length = n - u := by rw [List.length_drop, hnl]
  refine c41 A52 (n - u) c52 _ g5 _ r52 (by omega) fun A53 c53 g6 x6 l53 => asS_of ⟨x6.mod, ?_⟩
  have z6 := x6.size
  refine store_all (b2.ext (x34.trans (x5.trans x6))) (by rw [List.size_toArray]; exact hsz) (by rfl) (hcells_one hh) fun g7 k7 m7 => ⟨x6.mod.trans m7, ?_⟩
  refine store_all ((b3.ext (x34.trans (x5.trans x6))).mod m7 (fun e => by omega)) rfl (by rfl) (by simp [OneCells, chv, Value.oneCell']) fun g8 k8 m8 => ?_
  refine (k7.mod m8 (fun e => by omega)).at_.loadN hsz (k8.at_.loadN rfl ?_)
  have mm : Go.Oct.Mod g6 g8 (fun i => i = p2 ∨ i = p3) := (m7.mono fun i _ hi => .inl hi).trans (m8.mono fun i _ hi => .inr hi)
  have e8 := (x04.trans (x5.trans x6)).then mm (fun i hi => by rcases hi with hi | hi <;> omega)
  have cx6 := cx.ext x6
  have cA := fun i (hi : blkOf A i) => cx.exts.2.base_le hi
  have cD := fun v hv i (hi : blkOf v.A i) => (cx.dat v hv).2.base_le hi
  have cxm := cx6.mod mm (fun i hi e => by have := cA i hi; rcases e with e | e <;> omega) (fun v hv i hi e => by have := cD v hv i hi; rcases e with e | e <;> omega)
  have cxw : Cx g8 h.size A nn c xs := { cxm with exts := ⟨cxm.exts.1, cxm.exts.2.weaken z04⟩, dat := fun v hv => Lst.weaken (cxm.dat v hv) z04 }
  have hk2 := hk hh A nn c xs p (((b.drop 40).take n).drop u) rfl hpb (fun x hx => hbb x (List.mem_of_mem_drop hx)) A53 c53 g8 e8 cxw
  rw [hrl] at hk2
  refine hk2 ?_ ?_
  · exact Lst.weaken (l53.mod mm (fun i hi e => by have := l53.2.base_le hi; rcases e with e | e <;> omega)) (by omega)
  · intro v hv i hi hi2
    have := l53.2.base_le hi2
    have := (cx.dat v hv).2.lt hi
    omega
end
end Go.Proofs.Ythfjpnabalkjkaa
