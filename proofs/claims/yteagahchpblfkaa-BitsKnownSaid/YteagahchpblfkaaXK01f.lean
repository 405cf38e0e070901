/- What is proved: contracts of functions that the law calls, and of the law itself, over any heap. Conditions stand in each theorem. -/
import Derived.Test.YteagahchpblfkaaXK01e
import Derived.Test.YteagahchpblfkaaXL01b
set_option linter.unusedSimpArgs false
set_option linter.unusedVariables false
namespace Go.Proofs.Yteagahchpblfkaa
open Go.Oct Go.Oct.L01

theorem least_fits {v : Int} (h0 : 0 ≤ v) (hv : v < 18446744073709551616) : fitsB v (least v) = true := by
  rw [fits_least hv]
  have := least_range v
  simp; omega
theorem put_ok {v n : Int} (hv : v < 18446744073709551616) : fitsB v n = (decide (n ≤ 8) && decide (least v ≤ n)) := by
  rw [fits_least hv]
  have := least_range v
  by_cases h : least v ≤ n
  · rw [decide_eq_true (by omega : 1 ≤ n), Bool.true_and]
  · simp [h]

/-- BitsBack -/
theorem c5 (A0 : Option Addr) (n0 q0 : Nat) (ls : List Int) (A1 : Option Addr) (n1 q1 : Nat) (ss : List Int) (at_ v : Int) (h : H) (k : Value → H → Prop) (hr : RowH h A0 n0 (ls.map uf).toArray) (hs : RowH h A1 n1 (ss.map gf).toArray)
    (hb : ∀ x ∈ ls, 0 ≤ x ∧ x < 18446744073709551616) (ha : at_ ≤ 9223372036854775807) (h0 : 0 ≤ v) (hv : v < 18446744073709551616)
    (hk : ∀ h', Ext h h' → k (.bool true) h') : callK Try.prog 5 #[.slice A0 n0 q0, .slice A1 n1 q1, .int .i64 at_, .int .u64 v] h k := by
  refine call5 _ _ _ _ _ _ _ _ _ _ ?_
  unfold d5
  have hl0 : ls.length = n0 := by simpa using hr.1
  have hl1 : ss.length = n1 := by simpa using hs.1
  refine ⟨fun b g => g = h ∧ b = decide (40 < n0 ∨ n1 < n0), ?_, ?_⟩
  · refine ifB_dec (fun h1 => ⟨rfl, by simp; omega⟩) (fun h1 => ⟨rfl, by simp only [decide_eq_decide]; omega⟩)
  rintro b g ⟨rfl, rfl⟩
  refine ifB_dec (fun h1 => ?_) (fun h1 => ?_)
  · exact c9 _ _ fun h' e => asB_of (hk h' e)
  have hn0 : n0 ≤ 40 := by omega
  have hn1 : n0 ≤ n1 := by omega
  clear h1
  generalize hps : ls.zip ss = ps
  have hpl : ps.length = n0 := by rw [← hps, List.length_zip]; omega
  have hget : ∀ j, j < n0 → ∃ l s, ls[j]? = some l ∧ ss[j]? = some s ∧ ps[j]? = some (l, s) ∧ 0 ≤ l ∧ l < 18446744073709551616 := by
    intro j hj
    refine ⟨ls[j], ss[j], List.getElem?_eq_getElem (by omega), List.getElem?_eq_getElem (by omega), ?_, hb _ (List.getElem_mem _)⟩
    have hz : j < (ls.zip ss).length := by rw [hps]; omega
    have key : (ls.zip ss)[j]? = some (ls.zip ss)[j] := List.getElem?_eq_getElem _
    rw [List.getElem_zip] at key
    rw [← key, hps]
  have hlen : ∀ j, (encs (ps.take j)).length ≤ 8 * n0 := by
    intro j
    have h1 := encs_length (ps.take j)
    have h2 : (ps.take j).length ≤ n0 := by rw [List.length_take]; omega
    omega
  refine alloc_new fun p9 h1 lp bp e1 => ?_
  refine ⟨fun b x g' => ∃ j A n c, x = (j : Nat) ∧ j ≤ n0 ∧ Ext g g' ∧ Wr g' g.size p9 A n c (encs (ps.take j)), fun b x g' => (n0 - x).toNat, ⟨0, none, 0, 0, rfl, by omega, e1, bp, lp, Lst.nil⟩, ?_⟩
  rintro bb x g1 ⟨j, A, n, c, rfl, hj, e2, w⟩
  have hnl0 := w.row.1
  refine ifB_dec (fun hlt => ?_) (fun hge => ?_)
  · obtain ⟨l, s, el, es, ep, hl0', hl1'⟩ := hget j (by omega)
    refine row_load (hs.ext e2) rfl es (asI_of ?_)
    refine row_load (hr.ext e2) rfl el (asI_of ?_)
    have hbnd := hlen j
    have next : ∀ (x49 : Int) g2, (fitsB l s = (x49 == 0)) → (∃ A n c, Ext g g2 ∧ Wr g2 g.size p9 A n c (encs (ps.take (j + 1)))) →
        joinK [.bool] (fun (J_1 : Bool → H → Prop) => ifB (decide (s ≤ 8)) (indexK 1 A0 n0 (j : Int) (fun p57 => load1 p57 g2 (fun v58 => asI .u64 v58 (fun x58 => callK Try.prog 12 #[(.int .u64 x58)] g2 (fun v59 h => asI .i64 v59 (fun x59 => J_1 (!((x49 == 0) == (decide (x59 ≤ s)))) h)))))) (J_1 (!((x49 == 0) == false)) g2))
          (fun (b63 : Bool) (h : H) => ifB b63 (k (.bool false) h) (andT [.bool, .int .i64] (fun (b : Bool) (x : Int) g' => ∃ j A n c, x = (j : Nat) ∧ j ≤ n0 ∧ Ext g g' ∧ Wr g' g.size p9 A n c (encs (ps.take j))) (fun (b : Bool) x g' => (n0 - x).toNat) (n0 - j : Int).toNat bb (IntKind.wrap .i64 ((j : Int) + 1)) h)) := by
      rintro x49 g2 hx ⟨A, n, c, e3, w3⟩
      refine ⟨fun b g' => b = false ∧ g' = g2, ?_, ?_⟩
      · rw [put_ok hl1'] at hx
        refine ifB_dec (fun h8 => ?_) (fun h8 => ⟨?_, rfl⟩)
        · refine row_load (hr.ext e3) rfl el (asI_of ?_)
          refine c12 l hl0' hl1' _ _ (asI_of ⟨?_, rfl⟩)
          rw [← hx, decide_eq_true h8]; simp
        · rw [← hx, decide_eq_false h8]; rfl
      · rintro b g' ⟨rfl, rfl⟩
        refine ⟨⟨j + 1, A, n, c, wrap64_id (by omega) (by omega), by omega, e3, w3⟩, ?_⟩
        rw [wrap64_id (by omega) (by omega)]
        dsimp only
        omega
    refine c17 g.size p9 A n c _ l s g1 _ w hl0' hl1' (by omega) (fun hf => asI_of (next 2 g1 hf ⟨A, n, c, e2, ?_⟩)) (fun hf A' c' h' w' m' d' => asI_of (next 0 h' hf ⟨A', n + s.toNat, c', e2.then m' (fun i hi => w.base hi), ?_⟩))
    · rw [encs_take ep]
      have : encOne (l, s) = [] := by unfold encOne; rw [if_neg (by rw [hf]; decide)]
      rw [this, List.append_nil]
      exact w
    · rw [encs_take ep]
      have : encOne (l, s) = bytesOf l s.toNat := by unfold encOne; rw [if_pos hf]
      rw [this]
      exact w'
  have hjn : j = n0 := by omega
  subst hjn
  have htk : ps.take j = ps := by rw [← hpl]; exact List.take_length
  have hbnd := hlen j
  rw [htk] at w hbnd
  have hnl : (encs ps).length = n := w.row.1
  refine c22 g.size p9 A n c _ g1 _ w (by omega) fun A2 q2 g2 x2 l2 => asS_of ?_
  refine c25 A2 n q2 _ g2 _ l2.row (by omega) fun pr A3 q3 g3 x3 r3 => asP_of ?_
  have hfl : ∀ i, wfoot p9 A i → i < g2.size := by
    intro i hi
    have h1 := w.lt hi
    have h2 := x2.size
    omega
  have hfr : ∀ i, wfoot p9 A i → i ≠ pr := by
    intro i hi e
    have h1 := hfl i hi
    have h3 := r3.le
    omega
  have w := w.ext (x2.trans x3)
  have hbase : g.size ≤ g2.size := (e2.trans x2).size
  refine ⟨fun b x g' => ∃ j' : Nat, x = j' ∧ j' ≤ j ∧ Ext g g' ∧ Wr g' g.size p9 A n c (encs ps) ∧ Rd g' g2.size pr A3 n q3 (encs ps) (encs (ps.take j')).length, fun b x g' => (j - x).toNat, ⟨0, rfl, by omega, e2.trans (x2.trans x3), w, by simpa [encs] using r3⟩, ?_⟩
  clear w r3
  rintro bb x g4 ⟨i, rfl, hi, e4, w, r⟩
  refine ifB_dec (fun hlt => ?_) (fun hge => ?_)
  · obtain ⟨l, s, el, es, ep, hl0', hl1'⟩ := hget i (by omega)
    have step : ∀ b g', Ext g g' → Wr g' g.size p9 A n c (encs ps) → Rd g' g2.size pr A3 n q3 (encs ps) (encs (ps.take (i + 1))).length →
        andT [.bool, .int .i64] (fun (b : Bool) (x : Int) g' => ∃ j' : Nat, x = j' ∧ j' ≤ j ∧ Ext g g' ∧ Wr g' g.size p9 A n c (encs ps) ∧ Rd g' g2.size pr A3 n q3 (encs ps) (encs (ps.take j')).length) (fun (b : Bool) x g' => (j - x).toNat) (j - i : Int).toNat b (IntKind.wrap .i64 ((i : Int) + 1)) g' := by
      intro b g' e5 w5 r5
      refine ⟨⟨i + 1, wrap64_id (by omega) (by omega), by omega, e5, w5, r5⟩, ?_⟩
      rw [wrap64_id (by omega) (by omega)]
      dsimp only
      omega
    refine ⟨fun b b8 g' => Ext g g' ∧ Wr g' g.size p9 A n c (encs ps) ∧ Rd g' g2.size pr A3 n q3 (encs ps) (encs (ps.take (i + 1))).length, ?_, fun b b8 g' hg => step b8 g' hg.1 hg.2.1 hg.2.2⟩
    refine ⟨fun b g' => b = !fitsB l s ∧ g' = g4, ?_, ?_⟩
    · refine draw_ext (row_loadS (hs.ext e4) rfl es (asI_of ?_))
      refine ifB_dec (fun h1 => ⟨by unfold fitsB; rw [decide_eq_false (by omega)]; rfl, rfl⟩) (fun h1 => ?_)
      refine row_loadS (hs.ext e4) rfl es (asI_of ?_)
      refine ifB_dec (fun h2 => ⟨by unfold fitsB; rw [decide_eq_false (by omega : ¬ s ≤ 8)]; simp, rfl⟩) (fun h2 => ?_)
      refine row_loadS (hr.ext e4) rfl el (asI_of ?_)
      refine row_loadS (hs.ext e4) rfl es (asI_of ?_)
      exact c15 l s _ _ (asB_of ⟨rfl, rfl⟩)
    · rintro b g' ⟨rfl, rfl⟩
      refine ifB_of (fun hf => ?_) (fun hf => ?_)
      · refine ⟨e4, w, ?_⟩
        have hf : fitsB l s = false := by simpa using hf
        have e1 : encOne (l, s) = [] := by unfold encOne; rw [if_neg (by rw [hf]; decide)]
        rw [encs_take ep, e1, List.append_nil]
        exact r
      · have hf : fitsB l s = true := by simpa using hf
        obtain ⟨hg1, hg2⟩ := get_encs ep hl0' hf
        refine row_load (hs.ext e4) rfl es (asI_of ?_)
        refine c26 g2.size pr A3 n q3 _ _ s g' _ r (encs_isB ps) fun g5 r5 m5 => asT2_of (asI_of (asI_of ?_))
        rw [hg1] at r5 ⊢
        rw [if_pos rfl, hg2] at r5
        refine ⟨fun b g6 => b = false ∧ g6 = g5, ?_, ?_⟩
        · refine ifB_ne (fun hn => absurd rfl hn) (fun _ => ?_)
          refine row_load (hr.ext (e4.then m5 (fun i hi => ?_))) rfl el (asI_of ⟨by simp, rfl⟩)
          have := r.le
          omega
        · rintro b g6 ⟨rfl, rfl⟩
          exact ⟨e4.then m5 (fun i hi => by have := r.le; omega), w.mod m5 (fun i hi => hfr i hi), r5⟩
  have hij : i = j := by omega
  subst hij
  rw [htk, hnl] at r
  have htb : ∀ x ∈ encs ps, isB x := encs_isB ps
  clear hget
  generalize encs ps = xs at *
  refine c22 g.size p9 A n c _ g4 _ w (by omega) fun B q5 g5 x5 l5 => asS_of ?_
  refine c12 v h0 hv _ _ (asI_of ?_)
  have hdis : ∀ i, wfoot p9 A i → ¬ blkOf B i := by
    intro i h1 h2
    have h3 := w.lt h1
    have h4 := l5.2.base_le h2
    omega
  have w5 := w.ext x5
  have r5 := r.ext x5
  have e5 := e4.trans x5
  have hlr := least_range v
  refine ⟨fun b g' => Ext g g' ∧ Byt g' g4.size B n q5 xs ∧ Rd g' g2.size pr A3 n q3 xs n ∧ ((b = true ∧ Wr g' g.size p9 A n c xs) ∨ (b = false ∧ may n at_ v (least v) ∧ Wr g' g.size p9 A n c (patch xs at_ v (least v)))), ?_, ?_⟩
  · refine c27 _ _ _ _ _ _ _ _ _ r5 (asI_of (ifB_ne (fun hn => by omega) (fun _ => ?_)))
    refine c21 g.size p9 A n c xs at_ v (least v) g5 _ w5 h0 hv (by omega) (fun hm => asI_of ⟨e5, l5, r5, .inl ⟨rfl, w5⟩⟩) (fun hm g6 w6 m6 => asI_of ⟨e5.then m6 (fun i hi => w5.base hi), l5.mod m6 (fun i hi hf => hdis i hf hi), r5.mod m6 (fun i hi hf => by have h1 := hfl i hf; have h2 := r5.base hi; omega), .inr ⟨rfl, hm, w6⟩⟩)
  · rintro b g6 ⟨e6, l6, r6, ⟨rfl, w6⟩ | ⟨rfl, hm, w6⟩⟩
    · refine c27 _ _ _ _ _ _ _ _ _ r6 (asI_of (ifB_eq (fun _ => ?_) (fun hn => absurd (by omega) hn)))
      refine c22 g.size p9 A n c _ g6 _ w6 (by omega) fun B7 q7 g7 x7 l7 => asS_of ?_
      refine c23 _ _ _ xs _ _ _ xs _ _ l7.row (l6.ext x7).row htb htb (asB_of ?_)
      rw [decide_eq_true rfl, ifB_true]
      exact c9 _ _ fun h' e => asB_of (hk h' (e6.trans (x7.trans e)))
    · refine c22 g.size p9 A n c _ g6 _ w6 (by omega) fun B7 q7 g7 x7 l7 => asS_of ?_
      have l6 := l6.ext x7
      have hpb : ∀ x ∈ patch xs at_ v (least v), isB x := patch_isB htb _ _ _
      have hnl' : xs.length = n := l6.1
      obtain ⟨hp1, hp2, hp3⟩ := patch_get (xs := xs) hm.1 h0 hm.2.1 (by have := hm.2.2.2; omega)
      refine c10 B7 n q7 _ at_ (least v) g7 _ l7.row l7.2.le (by omega) ha hpb (asT2_of (asI_of (asI_of ?_)))
      rw [hp2]
      refine ⟨fun b g => b = false ∧ g = g7, ?_, ?_⟩
      · exact ifB_ne (fun hn => absurd rfl hn) (fun _ => ifB_ne (fun hn => absurd rfl hn) (fun _ => ⟨by simp, rfl⟩))
      rintro b g8 ⟨rfl, rfl⟩
      refine ⟨fun b x g' => ∃ i : Nat, x = i ∧ i ≤ n ∧ g' = g8, fun b x g' => (n - x).toNat, ⟨0, rfl, by omega, rfl⟩, ?_⟩
      rintro bb x g9 ⟨i, rfl, hi, rfl⟩
      have hat := hm.2.1
      have hsz := hm.2.2.2
      refine ifB_dec (fun hlt => ?_) (fun hge => ?_)
      · refine ⟨fun b g => b = false ∧ g = g9, ?_, ?_⟩
        · have hx : xs[i]? = some xs[i] := List.getElem?_eq_getElem (by omega)
          refine draw_ext (ifB_dec (fun h1 => ?_) (fun h1 => ifB_dec (fun h2 => ?_) (fun h2 => ⟨rfl, rfl⟩)))
          · refine row_loadS l7.row rfl (hp3 i (.inl h1) ▸ hx) (asI_of (row_loadS l6.row rfl hx (asI_of ⟨by simp, rfl⟩)))
          · rw [wrap64_id (by omega) (by omega)] at h2
            refine row_loadS l7.row rfl (hp3 i (.inr (by omega)) ▸ hx) (asI_of (row_loadS l6.row rfl hx (asI_of ⟨by simp, rfl⟩)))
        · rintro b g ⟨rfl, rfl⟩
          refine ⟨⟨i + 1, wrap64_id (by omega) (by omega), by omega, rfl⟩, ?_⟩
          rw [wrap64_id (by omega) (by omega)]
          dsimp only
          omega
      · exact c9 _ _ fun h' e => asB_of (hk h' (e6.trans (x7.trans e)))
end Go.Proofs.Yteagahchpblfkaa
