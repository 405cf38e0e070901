/- What is proved: contracts of functions that the law calls, and of the law itself, over any heap. Conditions stand in each theorem. -/
import Derived.Test.YtfeodnhklibegaaXK13i
set_option linter.unusedSimpArgs false
set_option linter.unusedVariables false
namespace Go.Proofs.Ytfeodnhklibegaa
open Go.Oct Go.Oct.L01
theorem RowH.lt {h : H} {A : Option Addr} {n : Nat} {cs : Array Value} (r : RowH h A n cs) (hn : 0 < n) : ∀ i, blkOf A i → i < h.size := by
  rintro i ⟨ad, rfl, rfl⟩
  obtain ⟨ad', e, hc⟩ := r.2 hn
  cases e
  have h1 := hc 0 hn
  have hs : 0 < cs.size := by rw [r.1]; exact hn
  rw [Array.getElem?_eq_getElem hs] at h1
  have := lt_of_cell h1
  rwa [add_block] at this
theorem litB {g : H} {b : Nat} {xs : List Int} {n : Nat} (hb : Blk g b (xs.map bf).toArray 5) (hn : xs.length = n) : RowH g (some ⟨b, 0, none⟩) n (xs.map bf).toArray := by
  subst hn
  have h1 := hb.row 0 xs.length (by simp)
  have e : ((xs.map bf).toArray).extract 0 (0 + xs.length) = (xs.map bf).toArray := by apply Array.ext'; simp [List.extract_eq_take_drop]; rw [List.take_of_length_le (by simp)]
  rwa [e] at h1
section
variable {h h' : H} {base base' pd : Nat} {S T : Nat → Prop} {D N : List Int} {U : List (Int × List Int)}
theorem Dk.weaken (d : Dk h base pd S D N U) (hb : base' ≤ base) : Dk h base' pd S D N U := by
  obtain ⟨A, n, c, B, m, d', C, u, e, ws, s, hU, hS⟩ := d
  exact ⟨A, n, c, B, m, d', C, u, e, ws, { s with
    le := Nat.le_trans hb s.le
    dur := Lst.weaken s.dur hb
    now := Lst.weaken s.now hb
    uns := ⟨s.uns.1, s.uns.2.weaken hb⟩
    wts := fun w hw => Lst.weaken (s.wts w hw) hb }, hU, hS⟩
structure DkF (D N : List Int) (U : List (Int × List Int)) : Prop where
  len : N.length = D.length
  byD : ∀ x ∈ D, isB x
  byN : ∀ x ∈ N, isB x
  byU : ∀ w ∈ U, ∀ x ∈ w.2, isB x
  inb : ∀ w ∈ U, 0 ≤ w.1 ∧ w.1 + w.2.length ≤ D.length
  small : D.length ≤ 65536
theorem Dk.facts (d : Dk h base pd S D N U) : DkF D N U := by
  obtain ⟨A, n, c, B, m, d', C, u, e, ws, s, hU, hS⟩ := d
  refine ⟨s.len, s.byD, s.byN, ?_, ?_, s.small⟩
  · intro v hv; rw [hU] at hv; obtain ⟨w, hw, rfl⟩ := List.mem_map.1 hv; exact s.byW w hw
  · intro v hv; rw [hU] at hv; obtain ⟨w, hw, rfl⟩ := List.mem_map.1 hv; exact s.inb w hw
/-- all of it -/
theorem part_all {X : List Int} {n : Int} (hn : n = X.length) : part X 0 n = X := by subst hn; simp [part]
theorem lies_all {z : Nat} : liesB z 0 z = true := by simp [liesB]
/-- Read and Durable, of the whole disk -/
theorem c12all (d : Dk h base pd S D N U) {z : Nat} (hz : D.length = z) (k : Value → H → Prop) (hk : ∀ A' c' h', Ext h h' → Byt h' h.size A' z c' N → k (.tuple #[.slice A' z c', .int .i64 0]) h') : callK Try.prog 12 #[.pointer (some ⟨pd, 0, none⟩), .int .i64 0, .int .i64 z] h k := by
  have f := d.facts
  refine c12 d 0 z k (by omega) (fun e => by rw [hz, lies_all] at e; cases e) fun _ A' c' h' x l => ?_
  rw [part_all (by rw [f.len]; omega), Int.toNat_natCast] at l
  exact hk A' c' h' x l
theorem c15all (d : Dk h base pd S D N U) {z : Nat} (hz : D.length = z) (k : Value → H → Prop) (hk : ∀ A' c' h', Ext h h' → Byt h' h.size A' z c' D → k (.tuple #[.slice A' z c', .int .i64 0]) h') : callK Try.prog 15 #[.pointer (some ⟨pd, 0, none⟩), .int .i64 0, .int .i64 z] h k := by
  refine c15 d 0 z k (by omega) (fun e => by rw [hz, lies_all] at e; cases e) fun _ A' c' h' x l => ?_
  rw [part_all (by omega), Int.toNat_natCast] at l
  exact hk A' c' h' x l
end
theorem fate_fill (f : Int × Int) {k : Array Value → Prop} (hk : k (fcells f).toArray) : fillK (fun i => some (i * 2, 2)) (List.toArray [.int .i64 0, .int .i64 0]) [(0, (.agg (fcells f).toArray))] k :=
  ⟨_, by simp [Instr.fill, Value.cells, fcells, List.zipIdx], hk⟩
theorem isB_lit {xs : List Int} (h : xs.all (fun x => decide (isB x)) = true) : ∀ x ∈ xs, isB x := by
  intro x hx
  have := List.all_eq_true.1 h x hx
  simpa using this
set_option maxRecDepth 4000 in
/-- works -/
theorem c8 (h : H) (k : Value → H → Prop) (hk : ∀ h', Ext h h' → k (.bool true) h') : callK Try.prog 8 #[] h k := by
  refine call8 _ _ ?_
  unfold d8
  refine c9 8 h _ (fun e => absurd e (by decide)) (fun e => absurd e (by decide)) fun _ _ pd S0 g0 e0 k0 => asT2_of (asP_of (asI_of ?_))
  refine alloc_new fun p20 g1 y1 b1 x1 => ?_
  have r1 : RowH g1 (some ⟨p20, 0, none⟩) 2 (([1, 2] : List Int).map bf).toArray := litB b1 rfl
  refine c13 (k0.ext x1) 0 _ 2 2 [1, 2] _ (by decide) r1 (by decide) (isB_lit (by decide)) (fun _ i hi hS => by obtain ⟨_, e, rfl⟩ := hi; cases e; have := (k0.base hS).2; dsimp only at this; omega) (by decide) (fun e => absurd e (by decide)) fun _ S2 g2 k2 s2 m2 => asI_of ?_
  have e1 := e0.trans x1
  have hb0 : ∀ i, S0 i → h.size ≤ i := fun i hi => (k0.base hi).1
  have e2 := e1.then m2 hb0
  refine c10 k2 _ fun S3 g3 k3 s3 m3 => asI_of ?_
  have hb2 : ∀ i, S2 i → h.size ≤ i := fun i hi => (k2.base hi).1
  have e3 := e2.then m3 hb2
  refine alloc_new fun p25 g4 y4 b4 x4 => ?_
  have r4 : RowH g4 (some ⟨p25, 0, none⟩) 3 (([3, 4, 5] : List Int).map bf).toArray := litB b4 rfl
  refine c13 (k3.ext x4) 1 _ 3 3 [3, 4, 5] _ (by decide) r4 (by decide) (isB_lit (by decide)) (fun _ i hi hS => by obtain ⟨_, e, rfl⟩ := hi; cases e; have := (k3.base hS).2; dsimp only at this; omega) (by decide) (fun e => absurd e (by decide)) fun _ S5 g5 k5 s5 m5 => asI_of ?_
  have e4 := e3.trans x4
  have hb3 : ∀ i, S3 i → h.size ≤ i := fun i hi => (k3.base hi).1
  have e5 := e4.then m5 hb3
  have hb5 : ∀ i, S5 i → h.size ≤ i := fun i hi => (k5.base hi).1
  refine c12 k5 0 4 _ (by decide) (fun e => absurd e (by decide)) fun _ A6 q6 g6 x6 l6 => asT2_of (asS_of (asI_of ?_))
  refine c15 (k5.ext x6) 0 4 _ (by decide) (fun e => absurd e (by decide)) fun _ A7 q7 g7 x7 l7 => asT2_of (asS_of (asI_of ?_))
  refine c17 (k5.ext (x6.trans x7)) (by decide) _ fun p8 S8 g8 x8 k8 => asP_of ?_
  refine fate_fill (2, 2) ?_
  refine alloc_new fun p9 g9 y9 b9 x9 => ?_
  have x69 := x6.trans (x7.trans (x8.trans x9))
  have r9 : RowH g9 (some ⟨p9, 0, none⟩) (1 * 2) (cellsOf fcells [(2, 2)]) := by
    have := b9.row 0 2 (by decide)
    exact this
  have hS5 := fun i (hi : S5 i) => (k5.base hi).2
  have z6 := x6.size
  have z7 := x7.size
  have z8 := x8.size
  have z9 := x9.size
  refine c11 (k5.ext x69) _ 1 1 [(2, 2)] _ r9 rfl (fun _ i hi hS => by obtain ⟨_, e, rfl⟩ := hi; cases e; have := hS5 _ hS; dsimp only at this; omega) (by decide) fun S10 g10 k10 s10 m10 => asI_of ?_
  have k8' := (k8.ext x9).mod m10 (fun i hi hS => by have := (k8.base hi).1; have := hS5 _ hS; omega)
  have e10 := (e5.trans x69).then m10 hb5
  have hb8 : ∀ i, S8 i → g7.size ≤ i := fun i hi => (k8.base hi).1
  refine c11 k8' none 0 0 [] _ ⟨rfl, fun h => absurd h (by decide)⟩ rfl (fun h => absurd h (by decide)) (by decide) fun S11 g11 k11 s11 m11 => asI_of ?_
  have e5z := e5.size
  have e11 := e10.then m11 (fun i hi => by have := hb8 i hi; omega)
  have k10' := k10.mod m11 (fun i hi hS => by have := hb8 i hS; have := hS5 i (s10 i hi); omega)
  refine c12 k10' 0 4 _ (by decide) (fun e => absurd e (by decide)) fun _ A12 q12 g12 x12 l12 => asT2_of (asS_of (asI_of ?_))
  refine c12 (k11.ext x12) 0 4 _ (by decide) (fun e => absurd e (by decide)) fun _ A13 q13 g13 x13 l13 => asT2_of (asS_of (asI_of ?_))
  have e13 := e11.trans (x12.trans x13)
  refine ifB_eq (fun _ => ?_) (fun h => absurd rfl h)
  refine ifB_eq (fun _ => ?_) (fun h => absurd rfl h)
  refine ifB_eq (fun _ => ?_) (fun h => absurd rfl h)
  refine ifB_eq (fun _ => ?_) (fun h => absurd rfl h)
  have l6' : Byt g11 g5.size A6 4 q6 _ := ((l6.ext (x7.trans (x8.trans x9))).mod m10 (fun i hi hS => by have := l6.2.base_le hi; have := hS5 i hS; omega)).mod m11 (fun i hi hS => by have := l6.2.lt hi; have := hb8 i hS; omega)
  have l7' : Byt g11 g6.size A7 4 q7 _ := ((l7.ext (x8.trans x9)).mod m10 (fun i hi hS => by have := l7.2.base_le hi; have := hS5 i hS; omega)).mod m11 (fun i hi hS => by have := l7.2.lt hi; have := hb8 i hS; omega)
  have x1213 := x12.trans x13
  refine alloc_new fun p71 g14 y14 b14 x14 => ?_
  have q14 : RowH g14 (some ⟨p71, 0, none⟩) 4 (([1, 3, 4, 5] : List Int).map bf).toArray := litB b14 rfl
  refine c14 _ _ _ _ _ _ _ [1, 3, 4, 5] _ _ (Lst.row (f := bf) (l6'.ext (x1213.trans x14))) q14 (isB_lit (by decide)) (isB_lit (by decide)) (asB_of ?_)
  refine ifB_dec (fun _ => ?_) (fun h => absurd (by decide) h)
  refine alloc_new fun p76 g15 y15 b15 x15 => ?_
  have q15 : RowH g15 (some ⟨p76, 0, none⟩) 4 (([1, 2, 0, 0] : List Int).map bf).toArray := litB b15 rfl
  refine c14 _ _ _ _ _ _ _ [1, 2, 0, 0] _ _ (Lst.row (f := bf) (l7'.ext (x1213.trans (x14.trans x15)))) q15 (isB_lit (by decide)) (isB_lit (by decide)) (asB_of ?_)
  refine ifB_dec (fun _ => ?_) (fun h => absurd (by decide) h)
  refine alloc_new fun p81 g16 y16 b16 x16 => ?_
  have q16 : RowH g16 (some ⟨p81, 0, none⟩) 4 (([1, 3, 4, 0] : List Int).map bf).toArray := litB b16 rfl
  refine c14 _ _ _ _ _ _ _ [1, 3, 4, 0] _ _ (Lst.row (f := bf) (l12.ext (x13.trans (x14.trans (x15.trans x16))))) q16 (isB_lit (by decide)) (isB_lit (by decide)) (asB_of ?_)
  refine ifB_dec (fun _ => ?_) (fun h => absurd (by decide) h)
  refine alloc_new fun p86 g17 y17 b17 x17 => ?_
  have q17 : RowH g17 (some ⟨p86, 0, none⟩) 4 (([1, 2, 0, 0] : List Int).map bf).toArray := litB b17 rfl
  refine c14 _ _ _ _ _ _ _ [1, 2, 0, 0] _ _ (Lst.row (f := bf) (l13.ext (x14.trans (x15.trans (x16.trans x17))))) q17 (isB_lit (by decide)) (isB_lit (by decide)) (asB_of ?_)
  refine ifB_dec (fun _ => ?_) (fun h => absurd (by decide) h)
  refine alloc_new fun p91 g18 y18 b18 x18 => ?_
  have q18 : RowH g18 (some ⟨p91, 0, none⟩) 2 (([1, 2] : List Int).map bf).toArray := litB b18 rfl
  have x1418 := x14.trans (x15.trans (x16.trans (x17.trans x18)))
  refine c13 (k10'.ext (x1213.trans x1418)) 7 _ 2 2 [1, 2] _ (by decide) q18 (by decide) (isB_lit (by decide)) (fun _ i hi hS => by obtain ⟨_, e, rfl⟩ := hi; cases e; have := ((k10'.ext (x1213.trans (x14.trans (x15.trans (x16.trans x17))))).base hS).2; dsimp only at this; omega) (by decide) (fun _ => asI_of ?_) (fun e => absurd e (by decide))
  exact hk g18 (e13.trans x1418)
end Go.Proofs.Ytfeodnhklibegaa
