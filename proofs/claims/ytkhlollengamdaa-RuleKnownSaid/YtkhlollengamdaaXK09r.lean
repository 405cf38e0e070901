/- What is proved: contracts of functions that the law calls, and of the law itself, over any heap. Conditions stand in each theorem. -/
import Derived.Test.YtkhlollengamdaaXK09q
set_option linter.unusedSimpArgs false
set_option linter.unusedVariables false
namespace Go.Proofs.Ytkhlollengamdaa
open Go.Oct Go.Oct.L09
/-- the place that is counted -/
def atP (xs : List RS) (y : Ky) (n j : Nat) : Prop := (idxI xs (fun r => fits r.1 y) = -1 ∧ j = n) ∨ idxI xs (fun r => fits r.1 y) = (j : Int)
theorem atP_inj {xs : List RS} {y : Ky} {n i j : Nat} (h1 : atP xs y n i) (h2 : atP xs y n j) : i = j := by
  unfold atP at h1 h2
  omega
section
variable {h : H} {k : Value → H → Prop}
set_option maxHeartbeats 1000000 in
/-- Class, and the place that is counted -/
theorem c8x {base p hb : Nat} {A : Option Addr} {n c : Nat} {xs : List RS} {ot : Ru} {hs : List Int} (s : Cl h base p hb A n c xs ot hs) {y : Ky} (oy : y.ok)
    (hk : ∀ hs' h', (∀ j v, atP xs y n j → hs[j]? = some v → v < 18446744073709551615 → hs' = hs.set j (IntKind.wrap .u64 (v + 1))) → Go.Oct.Mod h h' (· = hb) → Cl h' base p hb A n c xs ot hs' → k (.tuple #[.int .i64 (tellsR xs ot y).1, .int .i64 (tellsR xs ot y).2]) h') : callK Try.prog 8 #[.pointer (some ⟨p, 0, none⟩), .agg y.cells.toArray] h k := by
  refine call8 _ _ _ _ ?_
  unfold d8
  refine alloc_new fun p3 g1 y3 b3 x1 => ?_
  rw [needK_true (by simp)]
  refine (show ifB false _ _ from ?_)
  rw [ifB_false]
  have hsm := s.small
  have hn := s.rules.1
  have lot := Ru.len44 s.ot
  have zz : ∀ r : Ru, r.ok → r.cells.toArray.size = 44 := fun r o => by simpa using Ru.len44 o
  have s1 := s.ext x1
  refine ⟨fun p7 x6 g => ∃ b7, p7 = some ⟨b7, 0, none⟩ ∧ Go.Oct.Ext g1 g ∧ g1.size ≤ b7 ∧ Blk g b7 ot.cells.toArray 43 ∧ x6 = idxI xs (fun r => fits r.1 y), draw_ext ?_, ?_⟩
  · refine b3.at_.loadSN (Ky.len37 oy) (nilK_of (addrK_of rfl (s1.others.loadSN lot ⟨?_, ?_⟩)))
    · refine c13 s1.rules.rowL hn (by omega) s1.sl oy fun g2 x2 => asI_of ⟨x2, ?_⟩
      refine alloc_new fun b7 g3 y7 b7' x3 => ⟨x2.trans x3, ?_⟩
      refine store_all b7' (zz ot s.ot) rfl (Ru.one _) fun g4 k4 m4 => ?_
      have z2 := x2.size
      exact ⟨b7, rfl, (x2.trans x3).then m4 (by rintro i rfl; omega), by omega, k4, rfl⟩
    · refine alloc_new fun b7 g2 y7 b7' x2 => ⟨x2, ?_⟩
      have s2 := s1.ext x2
      refine c13 s2.rules.rowL hn (by omega) s2.sl oy fun g3 x3 => asI_of ⟨x2.trans x3, ?_⟩
      refine store_all (b7'.ext x3) (zz ot s.ot) rfl (Ru.one _) fun g4 k4 m4 => ?_
      exact ⟨b7, rfl, (x2.trans x3).then m4 (by rintro i rfl; exact y7), y7, k4, rfl⟩
  rintro p7 x6 g2 ⟨b7, rfl, x2, y7, k7, rfl⟩
  have s2 := s1.ext x2
  have z1 := x1.size
  generalize hr : ((xs.find? fun r => fits r.1 y).map Subtype.val).getD ot = r
  refine ⟨fun b x6 g => ∃ j : Nat, x6 = j ∧ j ≤ n ∧ atP xs y n j ∧ r.ok ∧ Go.Oct.Ext h g ∧ Cl g base p hb A n c xs ot hs ∧ Blk g b7 r.cells.toArray 43, ?_, ?_⟩
  · rcases idx_cases xs (fun r => fits r.1 y) with ⟨e1, e2⟩ | ⟨j, x, e1, e2, e3⟩
    · rw [e2] at hr
      rw [e1]
      have hr : ot = r := hr
      subst hr
      refine ifB_dec (fun h1 => absurd h1 (by decide)) (fun h1 => ?_)
      exact nilK_of (addrK_of rfl (s2.sl.load1 0 rfl rfl (asS_of ⟨n, rfl, Nat.le_refl _, .inl ⟨e1, rfl⟩, s.ot, x1.trans x2, s2, k7⟩)))
    · rw [e3] at hr
      rw [e1]
      have hr : x.1 = r := hr
      subst hr
      have hj : j < n := by have := (List.getElem?_eq_some_iff.1 e2).1; omega
      refine ifB_dec (fun h1 => ?_) (fun h1 => absurd (show (j : Int) ≥ 0 by omega) h1)
      refine nilK_of (addrK_of rfl (s2.sl.load1 0 rfl rfl (asS_of ?_)))
      refine rowL_index RS.len (by decide) s2.rules.rowL rfl e2 fun b q _ ha => ha.loadN (RS.len x) ?_
      refine store_all k7 (zz x.1 x.2) (zz ot s.ot) (Ru.one _) fun g3 k3 m3 => ?_
      have x13 : Go.Oct.Ext h g3 := (x1.trans x2).then m3 (by rintro i rfl; omega)
      exact ⟨j, rfl, by omega, .inr e1, x.2, x13, s.ext x13, k3⟩
  rintro b18 x6 g3 ⟨j, rfl, hj, hat, or, x3, s3, k3⟩
  have hatu : ∀ j', atP xs y n j' → j' = j := fun j' h' => atP_inj h' hat
  refine ⟨fun b g => ∃ hs', (∀ j v, atP xs y n j → hs[j]? = some v → v < 18446744073709551615 → hs' = hs.set j (IntKind.wrap .u64 (v + 1))) ∧ Go.Oct.Mod h g (· = hb) ∧ Cl g base p hb A n c xs ot hs' ∧ Blk g b7 r.cells.toArray 43, ?_, ?_⟩
  · have hl : hs.length = n + 1 := s3.hits.1
    obtain ⟨v, hv⟩ : ∃ v, hs[j]? = some v := ⟨_, List.getElem?_eq_getElem (by omega)⟩
    have rw3 := Lst.row (f := uf) s3.hits
    refine nilK_of (addrK_of rfl (s3.hsl.load1 0 rfl rfl (asS_of ?_)))
    refine row_load (f := uf) rw3 rfl hv (asI_of ?_)
    refine ifB_dec (fun h1 => ?_) (fun h1 => ⟨hs, fun j' v' ha' hv' hlt' => by
      have := hatu j' ha'
      subst this
      rw [hv] at hv'
      cases hv'
      exact absurd hlt' h1, x3.mod, s3, k3⟩)
    refine nilK_of (addrK_of rfl (s3.hsl.load1 0 rfl rfl (asS_of ?_)))
    refine row_load (f := uf) rw3 rfl hv (asI_of ?_)
    refine Lst.put (f := uf) s3.hits rfl (by omega) (IntKind.wrap .u64 (v + 1)) rfl fun g4 l4 m4 => ?_
    have m4' : Go.Oct.Mod g3 g4 (· = hb) := m4.mono fun i _ hi => by obtain ⟨ad, e, e2⟩ := hi; cases e; exact e2.symm
    refine ⟨_, fun j' v' ha' hv' hlt' => by
      have := hatu j' ha'
      subst this
      rw [hv] at hv'
      cases hv'
      rfl, x3.mod.trans m4', { s3 with blk := s3.blk.mod m4 (fun hi => s3.hits.2.ne_blk s3.blk (by decide) _ hi rfl), rules := s3.rules.mod m4 (fun i hi => s3.rules.2.disj s3.hits.2 (by decide) i hi), hits := l4 }, k3.mod m4 (fun hi => s3.hits.2.ne_blk k3 (by decide) _ hi rfl)⟩
  rintro b38 g4 ⟨hs', hat4, m4, s4, k4⟩
  have a4 := At.rtl or k4.at_ rfl
  have hk := hk hs' g4 hat4 m4 s4
  unfold tellsR at hk
  rw [hr] at hk
  unfold told at hk
  refine addrK_of rfl (a4.load1 4 rfl rfl (asB_of ?_))
  refine ifB_of (fun h1 => ?_) (fun h1 => ?_)
  · rw [if_pos h1] at hk; exact hk
  · rw [if_neg (by rw [h1]; decide)] at hk
    exact addrK_of rfl (a4.load1 5 rfl rfl (asI_of hk))
/-- slices.Clone, of counts -/
theorem c31 {b n c : Nat} {xs : List Int} (hr : RowH h (some ⟨b, 0, none⟩) n (xs.map uf).toArray) (hn : n ≤ 1000000)
    (hk : ∀ A' c' h', Go.Oct.Ext h h' → Lst h' h.size 62 (fun x => [uf x]) 1 A' n c' xs → k (.slice A' n c') h') : callK Try.prog 31 #[.slice (some ⟨b, 0, none⟩) n c] h k := by
  refine call31 _ _ _ _ _ ?_
  unfold d31
  rw [needK_true rfl]
  have hl : xs.length = n := by simpa using hr.1
  refine (show ifB false _ _ from ?_)
  rw [ifB_false]
  refine alloc_new fun b h1 l1 hb e1 => src_one (hr.ext e1) ?_
  have o : Lst h1 h.size 62 (fun x => [uf x]) 1 (some ⟨b, 0, none⟩) 0 0 [] := ⟨rfl, Own.of_blk l1 hb rfl⟩
  refine Lst.appends o xs hl rfl (fun _ => rfl) (by omega) e1.size (by omega) fun A' c' h2 l2 m2 d2 => ?_
  rw [Nat.zero_add] at l2 ⊢
  exact hk A' c' h2 (e1.then m2 (by rintro i ⟨ad, e, rfl⟩; cases e; exact l1)) l2
/-- Hits -/
theorem c14 {base p hb : Nat} {A : Option Addr} {n c : Nat} {xs : List RS} {ot : Ru} {hs : List Int} (s : Cl h base p hb A n c xs ot hs)
    (hk : ∀ A' c' h', Go.Oct.Ext h h' → Lst h' h.size 62 (fun x => [uf x]) 1 A' (n + 1) c' hs → k (.slice A' (n + 1) c') h') : callK Try.prog 14 #[.pointer (some ⟨p, 0, none⟩)] h k := by
  refine call14 _ _ _ ?_
  unfold d14
  rw [needK_true (by simp)]
  refine (show ifB false _ _ from ?_)
  rw [ifB_false]
  have hsm := s.small
  refine nilK_of (addrK_of rfl (s.hsl.load1 0 rfl rfl (asS_of ?_)))
  exact c31 (Lst.row (f := uf) s.hits) (by omega) fun A' c' g e l => asS_of (hk A' c' g e l)
end
end Go.Proofs.Ytkhlollengamdaa
