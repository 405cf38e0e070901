/- What is proved: contracts of functions that the law calls, and of the law itself, over any heap. Conditions stand in each theorem. -/
import Derived.Test.YtkhlollengamdaaXK09g
set_option linter.unusedSimpArgs false
set_option linter.unusedVariables false
namespace Go.Proofs.Ytkhlollengamdaa
open Go.Oct Go.Oct.L09
theorem idx_cases {α : Type} (xs : List α) (pr : α → Bool) : (idxI xs pr = -1 ∧ xs.find? pr = none) ∨ ∃ j x, idxI xs pr = (j : Nat) ∧ xs[j]? = some x ∧ xs.find? pr = some x := by
  unfold idxI
  cases h : xs.findIdx? pr with
  | none =>
    rw [List.findIdx?_eq_none_iff] at h
    exact .inl ⟨rfl, List.find?_eq_none.2 (fun x hx => by simp [h x hx])⟩
  | some j =>
    rw [List.findIdx?_eq_some_iff_getElem] at h
    obtain ⟨hj, hp, hl⟩ := h
    refine .inr ⟨j, xs[j], rfl, List.getElem?_eq_getElem hj, ?_⟩
    rw [List.find?_eq_some_iff_getElem]
    exact ⟨hp, j, hj, rfl, fun i hi => by have := hl i hi; simpa using this⟩
/-- a packet's class -/
def tellsR (xs : List RS) (ot : Ru) (y : Ky) : Int × Int := told (((xs.find? fun r => fits r.1 y).map Subtype.val).getD ot)
section
variable {h : H} {k : Value → H → Prop}
theorem Cl.sl {h : H} {base p hb : Nat} {A : Option Addr} {n c : Nat} {xs : List RS} {ot : Ru} {hs : List Int} (s : Cl h base p hb A n c xs ot hs) : At h p 0 [.slice A n c] := s.blk.at_.mid (pre := []) rfl rfl
theorem Cl.others {h : H} {base p hb : Nat} {A : Option Addr} {n c : Nat} {xs : List RS} {ot : Ru} {hs : List Int} (s : Cl h base p hb A n c xs ot hs) : At h p 1 ot.cells := s.blk.at_.mid (pre := [.slice A n c]) rfl rfl
theorem Cl.hsl {h : H} {base p hb : Nat} {A : Option Addr} {n c : Nat} {xs : List RS} {ot : Ru} {hs : List Int} (s : Cl h base p hb A n c xs ot hs) : At h p 45 [.slice (some ⟨hb, 0, none⟩) (n + 1) (n + 1)] :=
  s.blk.at_.mid (pre := .slice A n c :: ot.cells) (post := []) (by simp) (by simp [Ru.len44 s.ot])
set_option maxHeartbeats 1000000 in
/-- Class -/
theorem c8 {base p hb : Nat} {A : Option Addr} {n c : Nat} {xs : List RS} {ot : Ru} {hs : List Int} (s : Cl h base p hb A n c xs ot hs) {y : Ky} (oy : y.ok)
    (hk : ∀ hs' h', Go.Oct.Mod h h' (· = hb) → Cl h' base p hb A n c xs ot hs' → k (.tuple #[.int .i64 (tellsR xs ot y).1, .int .i64 (tellsR xs ot y).2]) h') : callK Try.prog 8 #[.pointer (some ⟨p, 0, none⟩), .agg y.cells.toArray] h k := by
  refine call8 _ _ _ _ ?_
  unfold d8
  refine alloc_new fun p3 g1 y3 b3 x1 => ?_
  rw [needK_true (by simp)]
  refine (show ifB false _ _ from ?_)
  rw [ifB_false]
  have hsm := s.small
  have hn := s.rules.1
  have lot := Ru.len44 s.ot
  have zz : ∀ r : Ru, r.ok → r.cells.toArray.size = 44 := fun r o => by simpa using Ru.len44 o
  have s1 := s.ext x1
  refine ⟨fun p7 x6 g => ∃ b7, p7 = some ⟨b7, 0, none⟩ ∧ Go.Oct.Ext g1 g ∧ g1.size ≤ b7 ∧ Blk g b7 ot.cells.toArray 43 ∧ x6 = idxI xs (fun r => fits r.1 y), draw_ext ?_, ?_⟩
  · refine b3.at_.loadSN (Ky.len37 oy) (nilK_of (addrK_of rfl (s1.others.loadSN lot ⟨?_, ?_⟩)))
    · refine c13 s1.rules.rowL hn (by omega) s1.sl oy fun g2 x2 => asI_of ⟨x2, ?_⟩
      refine alloc_new fun b7 g3 y7 b7' x3 => ⟨x2.trans x3, ?_⟩
      refine store_all b7' (zz ot s.ot) rfl (Ru.one _) fun g4 k4 m4 => ?_
      have z2 := x2.size
      exact ⟨b7, rfl, (x2.trans x3).then m4 (by rintro i rfl; omega), by omega, k4, rfl⟩
    · refine alloc_new fun b7 g2 y7 b7' x2 => ⟨x2, ?_⟩
      have s2 := s1.ext x2
      refine c13 s2.rules.rowL hn (by omega) s2.sl oy fun g3 x3 => asI_of ⟨x2.trans x3, ?_⟩
      refine store_all (b7'.ext x3) (zz ot s.ot) rfl (Ru.one _) fun g4 k4 m4 => ?_
      exact ⟨b7, rfl, (x2.trans x3).then m4 (by rintro i rfl; exact y7), y7, k4, rfl⟩
  rintro p7 x6 g2 ⟨b7, rfl, x2, y7, k7, rfl⟩
  have s2 := s1.ext x2
  have z1 := x1.size
  generalize hr : ((xs.find? fun r => fits r.1 y).map Subtype.val).getD ot = r
  refine ⟨fun b x6 g => ∃ j : Nat, x6 = j ∧ j ≤ n ∧ r.ok ∧ Go.Oct.Ext h g ∧ Cl g base p hb A n c xs ot hs ∧ Blk g b7 r.cells.toArray 43, ?_, ?_⟩
  · rcases idx_cases xs (fun r => fits r.1 y) with ⟨e1, e2⟩ | ⟨j, x, e1, e2, e3⟩
    · rw [e2] at hr
      rw [e1]
      have hr : ot = r := hr
      subst hr
      refine ifB_dec (fun h1 => absurd h1 (by decide)) (fun h1 => ?_)
      exact nilK_of (addrK_of rfl (s2.sl.load1 0 rfl rfl (asS_of ⟨n, rfl, Nat.le_refl _, s.ot, x1.trans x2, s2, k7⟩)))
    · rw [e3] at hr
      rw [e1]
      have hr : x.1 = r := hr
      subst hr
      have hj : j < n := by have := (List.getElem?_eq_some_iff.1 e2).1; omega
      refine ifB_dec (fun h1 => ?_) (fun h1 => absurd (show (j : Int) ≥ 0 by omega) h1)
      refine nilK_of (addrK_of rfl (s2.sl.load1 0 rfl rfl (asS_of ?_)))
      refine rowL_index RS.len (by decide) s2.rules.rowL rfl e2 fun b q _ ha => ha.loadN (RS.len x) ?_
      refine store_all k7 (zz x.1 x.2) (zz ot s.ot) (Ru.one _) fun g3 k3 m3 => ?_
      have x13 : Go.Oct.Ext h g3 := (x1.trans x2).then m3 (by rintro i rfl; omega)
      exact ⟨j, rfl, by omega, x.2, x13, s.ext x13, k3⟩
  rintro b18 x6 g3 ⟨j, rfl, hj, or, x3, s3, k3⟩
  refine ⟨fun b g => ∃ hs', Go.Oct.Mod h g (· = hb) ∧ Cl g base p hb A n c xs ot hs' ∧ Blk g b7 r.cells.toArray 43, ?_, ?_⟩
  · have hl : hs.length = n + 1 := s3.hits.1
    obtain ⟨v, hv⟩ : ∃ v, hs[j]? = some v := ⟨_, List.getElem?_eq_getElem (by omega)⟩
    have rw3 := Lst.row (f := uf) s3.hits
    refine nilK_of (addrK_of rfl (s3.hsl.load1 0 rfl rfl (asS_of ?_)))
    refine row_load (f := uf) rw3 rfl hv (asI_of ?_)
    refine ifB_dec (fun h1 => ?_) (fun h1 => ⟨hs, x3.mod, s3, k3⟩)
    refine nilK_of (addrK_of rfl (s3.hsl.load1 0 rfl rfl (asS_of ?_)))
    refine row_load (f := uf) rw3 rfl hv (asI_of ?_)
    refine Lst.put (f := uf) s3.hits rfl (by omega) (IntKind.wrap .u64 (v + 1)) rfl fun g4 l4 m4 => ?_
    have m4' : Go.Oct.Mod g3 g4 (· = hb) := m4.mono fun i _ hi => by obtain ⟨ad, e, e2⟩ := hi; cases e; exact e2.symm
    refine ⟨_, x3.mod.trans m4', { s3 with blk := s3.blk.mod m4 (fun hi => s3.hits.2.ne_blk s3.blk (by decide) _ hi rfl), rules := s3.rules.mod m4 (fun i hi => s3.rules.2.disj s3.hits.2 (by decide) i hi), hits := l4 }, k3.mod m4 (fun hi => s3.hits.2.ne_blk k3 (by decide) _ hi rfl)⟩
  rintro b38 g4 ⟨hs', m4, s4, k4⟩
  have a4 := At.rtl or k4.at_ rfl
  have hk := hk hs' g4 m4 s4
  unfold tellsR at hk
  rw [hr] at hk
  unfold told at hk
  refine addrK_of rfl (a4.load1 4 rfl rfl (asB_of ?_))
  refine ifB_of (fun h1 => ?_) (fun h1 => ?_)
  · rw [if_pos h1] at hk; exact hk
  · rw [if_neg (by rw [h1]; decide)] at hk
    exact addrK_of rfl (a4.load1 5 rfl rfl (asI_of hk))
def deadB (xs : List RS) (i : Nat) : Bool := match xs[i]? with
  | some s => (xs.take i).any fun r => covers r.1 s.1
  | none => false
/-- the dead rules' places -/
def deadR (xs : List RS) : List Nat := (List.range xs.length).filter (deadB xs)
def nI (x : Nat) : Value := .int .i64 x
set_option maxHeartbeats 1000000 in
/-- Dead -/
theorem c9 {base p hb : Nat} {A : Option Addr} {n c : Nat} {xs : List RS} {ot : Ru} {hs : List Int} (s : Cl h base p hb A n c xs ot hs)
    (hk : ∀ A' c' h', Go.Oct.Ext h h' → Lst h' h.size 3 (fun x => [nI x]) 1 A' (deadR xs).length c' (deadR xs) → k (.slice A' (deadR xs).length c') h') : callK Try.prog 9 #[.pointer (some ⟨p, 0, none⟩)] h k := by
  refine call9 _ _ _ ?_
  unfold d9
  rw [needK_true (by simp)]
  refine (show ifB false _ _ from ?_)
  rw [ifB_false]
  have hsm := s.small
  have hn := s.rules.1
  refine c24 fun pv Av g1 x1 al => asS_of ?_
  refine nilK_of (addrK_of rfl ((s.ext x1).sl.load1 0 rfl rfl (asS_of ?_)))
  refine ⟨fun A2 n2 c2 x16 g => ∃ i : Nat, x16 = i ∧ i ≤ n ∧ Go.Oct.Ext g1 g ∧ n2 = ((List.range i).filter (deadB xs)).length ∧ Lst g g1.size 3 (fun x => [nI x]) 1 A2 n2 c2 ((List.range i).filter (deadB xs)), fun A2 n2 c2 x16 g => (n - x16).toNat, ⟨0, rfl, by omega, Go.Oct.Ext.refl _, rfl, Lst.nil⟩, ?_⟩
  rintro A2 n2 c2 x16 g2 ⟨i, rfl, hi, x2, hn2, l2⟩
  have z1 := x1.size
  have z2 := x2.size
  have s2 := s.ext (x1.trans x2)
  refine ifB_dec (fun hlt => ?_) (fun hge => ?_)
  · obtain ⟨t, ht⟩ : ∃ t, xs[i]? = some t := ⟨_, List.getElem?_eq_getElem (by omega)⟩
    have hfl : ((List.range i).filter (deadB xs)).length ≤ i := by
      have := List.length_filter_le (deadB xs) (List.range i)
      simpa using this
    have hdB : deadB xs i = (xs.take i).any fun r => covers r.1 t.1 := by unfold deadB; rw [ht]
    have hstep : (List.range (i + 1)).filter (deadB xs) = (List.range i).filter (deadB xs) ++ if deadB xs i then [i] else [] := by
      rw [List.range_succ, List.filter_append]
      cases hd : deadB xs i <;> simp [hd]
    refine ⟨fun _ _ _ _ _ _ _ _ A3 n3 c3 g => Go.Oct.Ext g1 g ∧ n3 = ((List.range (i + 1)).filter (deadB xs)).length ∧ Lst g g1.size 3 (fun x => [nI x]) 1 A3 n3 c3 ((List.range (i + 1)).filter (deadB xs)), ?_, ?_⟩
    · refine rowL_index RS.len (by decide) s2.rules.rowL rfl ht fun b q _ ha => ha.loadN (RS.len t) ?_
      refine newVr rfl (by simpa using RS.len t) (RS.one t) fun p5 g3 y5 b5 x3 => ?_
      have b5 : Blk g3 p5 t.1.cells.toArray 43 := b5
      have s3 := s2.ext x3
      refine nilK_of (addrK_of rfl (s3.sl.load1 0 rfl rfl (asS_of ?_)))
      rw [needK_true (by simp)]
      refine Lst.take RS.len s3.rules rfl (by omega) fun l26 => ?_
      have l2' := l2.ext x3
      refine ⟨fun A3 n3 c3 x28 g => A3 = A2 ∧ n3 = n2 ∧ c3 = c2 ∧ ∃ j : Nat, x28 = j ∧ j ≤ i ∧ Go.Oct.Ext g3 g ∧ ∀ (m : Nat) (r : RS), m < j → xs[m]? = some r → covers r.1 t.1 = false, fun A3 n3 c3 x28 g => (i - x28).toNat, ⟨rfl, rfl, rfl, 0, rfl, by omega, Go.Oct.Ext.refl _, fun m r hm => by omega⟩, ?_⟩
      rintro A3 n3 c3 x28 g4 ⟨rfl, rfl, rfl, j, rfl, hj, x4, hall⟩
      have x34 := x3.trans x4
      refine ifB_dec (fun hlt2 => ?_) (fun hge2 => ?_)
      · obtain ⟨r, hr⟩ : ∃ r, xs[j]? = some r := ⟨_, List.getElem?_eq_getElem (by omega)⟩
        have hr' : (xs.take i)[j]? = some r := by rw [List.getElem?_take, if_pos (by omega)]; exact hr
        refine rowL_index RS.len (by decide) (l26.ext x4).rowL rfl hr' fun b q _ ha => ha.loadN (RS.len r) ?_
        refine newVr rfl (by simpa using RS.len r) (RS.one r) fun p7 g5 y7 b7 x5 => ?_
        have b7 : Blk g5 p7 r.1.cells.toArray 43 := b7
        have al5 := al.ext (x2.trans (x34.trans x5))
        refine c25 (askC_len pv) al5.row rfl (by decide) (pr := fun i => !hI i r.1 t.1) (fun a hia g k eg hk' => ?_) fun g6 x6 => asB_of ?_
        · exact c26 r.2 t.2 (b7.ext eg) (b5.ext (x4.trans (x5.trans eg))) hia hk'
        rw [any_holds]
        have x46 := x4.trans (x5.trans x6)
        refine ifB_of (fun h1 => ?_) (fun h1 => ?_)
        · -- it is dead
          have hd : deadB xs i = true := by
            rw [hdB, List.any_eq_true]
            exact ⟨r, List.mem_of_getElem? hr', h1⟩
          refine alloc_new fun p38 g7 y38 b38 x7 => src_blk b38 rfl ?_
          have x27 := x3.trans (x46.trans x7)
          have l7 := l2.ext x27
          have z27 := x27.size
          refine Lst.push (f := fun x => [nI x]) (fun _ => rfl) l7 i rfl (by simp [OneCells, nI, Value.oneCell']) (by omega) (by omega) (by omega) fun A' c' g8 l8 m8 d8 => ?_
          rw [hstep, hd]
          exact ⟨(x2.trans x27).then m8 (fun i hi => l7.2.base_le hi), by rw [List.length_append, ← hn2]; rfl, l8⟩
        · refine ⟨⟨rfl, rfl, rfl, j + 1, wrap64_id (by omega) (by omega), by omega, x46, fun m q hm hq => ?_⟩, ?_⟩
          · rcases Nat.lt_or_ge m j with h3 | h3
            · exact hall m q h3 hq
            · have : m = j := by omega
              subst this
              rw [hr] at hq
              cases hq
              simpa using h1
          · rw [wrap64_id (by omega) (by omega)]; dsimp only; omega
      · have hd : deadB xs i = false := by
          rw [hdB, List.any_eq_false]
          intro q hq
          obtain ⟨m, hm, rfl⟩ := List.getElem_of_mem hq
          rw [List.length_take] at hm
          rw [List.getElem_take]
          have := hall m _ (by omega) (List.getElem?_eq_getElem (by omega))
          simp [this]
        rw [hstep, hd]
        refine ⟨x2.trans x34, by simpa using hn2, ?_⟩
        simpa using l2.ext x34
    rintro _ _ _ _ _ _ _ _ A3 n3 c3 g3 ⟨x3, hn3, l3⟩
    refine ⟨⟨i + 1, wrap64_id (by omega) (by omega), by omega, x3, hn3, l3⟩, ?_⟩
    rw [wrap64_id (by omega) (by omega)]; dsimp only; omega
  · have hin : i = xs.length := by omega
    subst hin
    rw [hn2] at l2 ⊢
    exact hk A2 c2 g2 (x1.trans x2) ⟨l2.1, l2.2.weaken z1⟩
end
end Go.Proofs.Ytkhlollengamdaa
