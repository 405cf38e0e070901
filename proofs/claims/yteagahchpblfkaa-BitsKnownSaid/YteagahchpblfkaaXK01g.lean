/- What is proved: contracts of functions that the law calls, and of the law itself, over any heap. Conditions stand in each theorem. -/
import Derived.Test.YteagahchpblfkaaXK01e
set_option linter.unusedSimpArgs false
set_option linter.unusedVariables false
namespace Go.Proofs.Yteagahchpblfkaa
open Go.Oct Go.Oct.L01

/-- every byte of a row is written over -/
theorem bump {h : H} {base : Nat} {A : Option Addr} {n c : Nat} {xs : List Int} {rest : H → Prop} (l : Byt h base A n c xs) (hn : n ≤ 1099511627776) (hk : ∀ h', Go.Oct.Mod h h' (blkOf A) → rest h') :
    loopK [.int .i64] (fun (kN : Int → H → Prop) (x : Int) (h : H) => ifB (decide (x < (n : Int))) (indexK 1 A n x (fun p => load1 p h (fun v => asI .u8 v (fun y => indexK 1 A n x (fun q => storeK 1 q (Value.cells (.int .u8 (IntKind.wrap .u8 (y + 1)))) h (fun h => kN (IntKind.wrap .i64 (x + 1)) h)))))) (rest h)) (fun I => I 0 h) := by
  refine ⟨fun x g => ∃ (j : Nat) (ys : List Int), x = j ∧ j ≤ n ∧ Byt g base A n c ys ∧ Go.Oct.Mod h g (blkOf A), fun x g => (n - x).toNat, ⟨0, xs, rfl, by omega, l, Go.Oct.Mod.refl _ _⟩, ?_⟩
  rintro x g ⟨j, ys, rfl, hj, l2, m2⟩
  have hl : ys.length = n := l2.1
  refine ifB_dec (fun hlt => ?_) (fun hge => hk g m2)
  refine row_load l2.row rfl (List.getElem?_eq_getElem (by omega)) (asI_of ?_)
  refine Lst.put (f := bf) l2 rfl (by omega) (IntKind.wrap .u8 (ys[j] + 1)) rfl fun g3 l3 m3 => ?_
  refine ⟨⟨j + 1, _, wrap64_id (by omega) (by omega), by omega, l3, m2.trans m3⟩, ?_⟩
  rw [wrap64_id (by omega) (by omega)]
  dsimp only
  omega

/-- BitsReads -/
theorem c6 (A0 : Option Addr) (n0 q0 : Nat) (xs : List Int) (A1 : Option Addr) (n1 q1 : Nat) (ss : List Int) (h : H) (k : Value → H → Prop) (hr : RowH h A0 n0 (xs.map bf).toArray) (hq : n0 ≤ q0) (hs : RowH h A1 n1 (ss.map gf).toArray)
    (hb : ∀ x ∈ xs, isB x) (hss : ∀ x ∈ ss, -9223372036854775808 ≤ x) (hk : ∀ h', Ext h h' → k (.bool true) h') : callK Try.prog 6 #[.slice A0 n0 q0, .slice A1 n1 q1] h k := by
  refine call6 _ _ _ _ _ _ _ _ ?_
  unfold d6
  have hl0 : xs.length = n0 := by simpa using hr.1
  have hl1 : ss.length = n1 := by simpa using hs.1
  refine ⟨fun b g => g = h ∧ b = decide (300 < n0 ∨ 40 < n1), ?_, ?_⟩
  · refine ifB_dec (fun h1 => ⟨rfl, by simp; omega⟩) (fun h1 => ⟨rfl, by simp only [decide_eq_decide]; omega⟩)
  rintro b g ⟨rfl, rfl⟩
  refine ifB_dec (fun h1 => ?_) (fun h1 => ?_)
  · exact c9 _ _ fun h' e => asB_of (hk h' e)
  have hn0 : n0 ≤ 300 := by omega
  have hn1 : n1 ≤ 40 := by omega
  clear h1
  refine c18 none 0 0 [] A0 n0 q0 xs g _ RowH.nil hr (by omega) fun B q1 g1 x1 l1 => asS_of ?_
  rw [Nat.zero_add, List.nil_append] at *
  refine c25 B n0 q1 xs g1 _ l1.row (by omega) fun pr A3 q3 g2 x2 r2 => asP_of ?_
  refine bump (l1.ext x2) (by omega) fun g3 m3 => ?_
  have e3 : Ext g g3 := (x1.trans x2).then m3 (fun i hi => l1.2.base_le hi)
  have r3 := r2.mod m3 (fun i hi hB => by have h1 := r2.base hi; have h2 := l1.2.lt hB; omega)
  have hb1 := x1.size
  refine ⟨fun b x8 x9 g' => ∃ j : Nat, x9 = j ∧ j ≤ n1 ∧ Ext g g' ∧ Rd g' g1.size pr A3 n0 q3 xs x8, fun b x8 x9 g' => (n1 - x9).toNat, ⟨0, rfl, by omega, e3, r3⟩, ?_⟩
  clear r3 r2 e3 m3 l1
  rintro b4 x8 x9 g4 ⟨j, rfl, hj, e4, r4⟩
  have ha0 := r4.ge
  have ha1 := r4.le2
  refine ifB_dec (fun hlt => ?_) (fun hge => ?_)
  · have hx : ss[j]? = some ss[j] := List.getElem?_eq_getElem (by omega)
    have hsj := hss _ (List.getElem_mem (show j < ss.length by omega))
    generalize ss[j] = s at *
    refine row_load (hs.ext e4) rfl hx (asI_of ?_)
    refine ⟨fun b x10 b4 x8' g' => Ext g g' ∧ Rd g' g1.size pr A3 n0 q3 xs x8', ?_, ?_⟩
    · refine ifB_dec (fun h9 => ?_) (fun h9 => ?_)
      · have hw : IntKind.wrap .i64 (-10 - s) = -10 - s := wrap64_id (by omega) (by omega)
        have hw2 : IntKind.wrap .i64 ((n0 : Int) - x8) = n0 - x8 := wrap64_id (by omega) (by omega)
        rw [hw, hw2]
        generalize hm : -10 - s = m at *
        refine c28 g1.size pr A3 n0 q3 xs x8 m g4 _ r4 (fun hneg => by omega) (fun h0 hsh => asT2_of (asS_of (asI_of ?_))) (fun h0 hle A5 q5 g5 r5 m5 l5 => asT2_of (asS_of (asI_of ?_)))
        · refine ⟨fun b81 b4 x8' g' => x8' = x8 ∧ g' = g4, ifB_dec (fun h1 => ?_) (fun h1 => by omega), ?_⟩
          · refine ⟨fun b g' => b = false ∧ g' = g4, ifB_ne (fun hn => absurd rfl hn) (fun _ => ⟨by simp, rfl⟩), ?_⟩
            rintro b g' ⟨rfl, rfl⟩
            exact ⟨rfl, rfl⟩
          · rintro b81 b4 x8' g' ⟨rfl, rfl⟩
            refine bump (base := 0) (c := 0) (xs := []) Lst.nil (by omega) fun g6 m6 => ?_
            have e6 : Ext g' g6 := ⟨m6.size, fun i hi _ => m6.block i hi (by rintro ⟨_, e, _⟩; cases e)⟩
            exact ⟨e4.trans e6, r4.ext e6⟩
        · have e5 : Ext g g5 := e4.then m5 (fun i hi => by have := r4.le; omega)
          obtain ⟨m, rfl⟩ := Int.eq_ofNat_of_zero_le h0
          obtain ⟨a, rfl⟩ := Int.eq_ofNat_of_zero_le ha0
          simp only [Int.toNat_natCast] at l5 ⊢
          refine ⟨fun b81 b4 x8' g' => x8' = a + m ∧ g' = g5, ifB_dec (fun h1 => by omega) (fun h1 => ?_), ?_⟩
          · refine ⟨fun b g' => b = false ∧ g' = g5, ?_, ?_⟩
            · refine ifB_ne (fun hn => absurd rfl hn) (fun _ => ?_)
              rw [needK_true (by simp), wrap64_id (by omega) (by omega)]
              refine row_slice (hr.ext e5) hq (l := a) (u := a + m) (by simp) (by simp) (by omega) (by omega) fun A6 q6 r6 _ _ _ => ?_
              rw [show a + m - a = m by omega] at r6 ⊢
              have hbb : ∀ x ∈ (xs.drop a).take m, isB x := fun x hx => hb x (List.mem_of_mem_drop (List.mem_of_mem_take hx))
              exact c23 _ _ _ _ _ _ _ _ _ _ l5.row r6 hbb hbb (asB_of ⟨by simp, rfl⟩)
            · rintro b g' ⟨rfl, rfl⟩
              exact ⟨by rw [wrap64_id (by omega) (by omega)], rfl⟩
          · rintro b81 b4 x8' g' ⟨rfl, rfl⟩
            refine bump l5 (by omega) fun g6 m6 => ?_
            have hge := e4.size
            refine ⟨e5.then m6 (fun i hi => by have := l5.2.base_le hi; omega), r5.mod m6 (fun i hi h5 => ?_)⟩
            have h7 := l5.2.base_le h5
            rcases hi with rfl | hi
            · have := r4.blk.lt; omega
            · have := r4.row.2.lt hi; omega
      · refine c26 g1.size pr A3 n0 q3 xs x8 s g4 _ r4 hb fun g5 r5 m5 => asT2_of (asI_of (asI_of ?_))
        have e5 : Ext g g5 := e4.then m5 (fun i hi => by have := r4.le; omega)
        refine c11 A0 n0 q0 xs x8 s g5 _ (hr.ext e5) hq (by omega) (by omega) hb (asT2_of (asI_of (asI_of ?_)))
        refine ⟨fun b g' => b = false ∧ g' = g5, ifB_ne (fun hn => absurd rfl hn) (fun _ => ⟨by simp, rfl⟩), ?_⟩
        rintro b g' ⟨rfl, rfl⟩
        refine ifB_eq (fun he => ?_) (fun he => ?_)
        · rw [if_pos he] at r5
          have h1 := r5.ge
          have h2 := r5.le2
          rw [wrap64_id (by omega) (by omega)]
          exact ⟨e5, r5⟩
        · rw [if_neg he] at r5
          exact ⟨e5, r5⟩
    · rintro b56 x10 b4 x8' g5 ⟨e5, r5⟩
      have h1 := r5.ge
      have h2 := r5.le2
      refine ⟨fun b g' => b = false ∧ g' = g5, ?_, ?_⟩
      · refine c29 _ _ _ _ _ _ _ _ _ r5 (asI_of (ifB_ne (fun hn => absurd rfl hn) (fun _ => ?_)))
        refine c27 _ _ _ _ _ _ _ _ _ r5 (asI_of ⟨?_, rfl⟩)
        rw [wrap64_id (by omega) (by omega)]
        simp
      · rintro b g' ⟨rfl, rfl⟩
        refine ⟨⟨j + 1, wrap64_id (by omega) (by omega), by omega, e5, r5⟩, ?_⟩
        rw [wrap64_id (by omega) (by omega)]
        dsimp only
        omega
  · refine c28 g1.size pr A3 n0 q3 xs x8 (-1) g4 _ r4 (fun _ => asT2_of (asS_of (asI_of ?_))) (fun h0 _ => by omega) (fun h0 => by omega)
    exact c9 _ _ fun h' e => asB_of (hk h' (e4.trans e))
end Go.Proofs.Yteagahchpblfkaa
