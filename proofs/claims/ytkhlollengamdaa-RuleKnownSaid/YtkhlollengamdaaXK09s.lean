/- What is proved: contracts of functions that the law calls, and of the law itself, over any heap. Conditions stand in each theorem. -/
import Derived.Test.YtkhlollengamdaaXK09r
set_option linter.unusedSimpArgs false
set_option linter.unusedVariables false
namespace Go.Proofs.Ytkhlollengamdaa
open Go.Oct Go.Oct.L09
/-- keys of right ranges -/
abbrev KS := {y : Ky // y.ok}
def KS.cells (y : KS) : List Value := y.1.cells
theorem KS.len (y : KS) : y.cells.length = 37 := Ky.len37 y.2
theorem KS.one (y : KS) : OneCells y.cells := Ky.one y.1
def zRu : Ru := ⟨0, 0, zP, zP, 0, 0, 0, 0, false, 0⟩
theorem zRu_ok : zRu.ok := ⟨(by decide : isL 0), (by decide : isL 0), zP_ok, zP_ok, (by decide : isW 0), (by decide : isW 0), (by decide : isW 0), (by decide : isW 0), (by decide : isL 0)⟩
def zRS : RS := ⟨zRu, zRu_ok⟩
/-- what is changed lies below the classifier -/
theorem Cl.low {h h' : H} {base p hb : Nat} {A : Option Addr} {n c : Nat} {xs : List RS} {ot : Ru} {hs : List Int} (s : Cl h base p hb A n c xs ot hs) {S : Nat → Prop} (m : Go.Oct.Mod h h' S) (hlt : ∀ i, S i → i < base) : Cl h' base p hb A n c xs ot hs :=
  { s with
    blk := s.blk.mod m (fun e => by have := s.le; have := hlt _ e; omega)
    rules := s.rules.mod m (fun i hi e => by have := s.rules.2.base_le hi; have := hlt _ e; omega)
    hits := s.hits.mod m (fun i hi e => by have := s.hits.2.base_le hi; have := hlt _ e; omega) }
section
variable {h : H} {k : Value → H → Prop}
set_option maxRecDepth 8000 in
set_option maxHeartbeats 4000000 in
/-- RulePlays -/
theorem c17 {b0 : Bool} {x1 : Int} (hx1 : isL x1) {A2 : Option Addr} {n2 c2 : Nat} {xs : List RS} (hr : RowH h A2 (n2 * 44) (cellsOf RS.cells xs)) (hn : xs.length = n2) (hsm : n2 ≤ 1000)
    {A3 : Option Addr} {n3 c3 : Nat} {ys : List KS} (hr3 : RowH h A3 (n3 * 37) (cellsOf KS.cells ys)) (hn3 : ys.length = n3) (hsm3 : n3 ≤ 1000)
    (hk : ∀ h', Go.Oct.Ext h h' → k (.bool true) h') : callK Try.prog 17 #[.bool b0, .int .i64 x1, .slice A2 n2 c2, .slice A3 n3 c3] h k := by
  refine call17 _ _ _ _ _ _ _ _ _ _ ?_
  unfold d17
  refine ⟨fun b g => g = h ∧ (b = false → n3 ≤ 20), ?_, ?_⟩
  · refine ifB_dec (fun h1 => ?_) (fun h1 => ⟨rfl, fun h => by have := of_decide_eq_false h; omega⟩)
    refine ifB_dec (fun h2 => ⟨rfl, fun h => absurd h (by decide)⟩) (fun h2 => ⟨rfl, fun h => by have := of_decide_eq_false h; omega⟩)
  rintro b41 g ⟨hg, h3⟩
  rw [hg]
  clear hg g
  refine ifB_of (fun h1 => c6 fun g e => asB_of (hk g e)) (fun h1 => ?_)
  have hn20 := h3 h1
  refine c33 hr hn (by omega) fun A44 c44 g1 e1 l44 => asS_of ?_
  refine src_row (hr.ext e1) ?_
  have o0 : Lst g1 g1.size 43 RS.cells 44 none 0 0 [] := Lst.nil
  refine append_own (m := n2) o0.2 rfl (cells_one RS.one xs) (by rw [cellsOf_size RS.len, hn]) (by decide) (Nat.le_refl _) (by omega) fun A47 c47 g2 o47 m2 d2 => ?_
  have l47 : Lst g2 g1.size 43 RS.cells 44 A47 (0 + n2) c47 xs := ⟨by omega, by simpa [cellsOf] using o47⟩
  rw [Nat.zero_add] at l47
  have e2 : Go.Oct.Ext g1 g2 := ⟨m2.size, fun i hi _ => m2.block i hi (by rintro ⟨ad, e, _⟩; cases e)⟩
  rw [Nat.zero_add]
  have e02 := e1.trans e2
  have z1 := e1.size
  have z2 := e2.size
  refine c7 hx1 (fun _ => l47.rowL) hn (fun hE g3 e3 => asT2_of (asP_of (asI_of ?_))) (fun hE p hb A c g3 e3 cl => asT2_of (asP_of (asI_of ?_)))
  · refine c34 (l44.ext (e2.trans e3)).rowL hn (by omega) fun g4 e4 => asI_of ?_
    refine ⟨fun b g => g = g4 ∧ b = false, ?_, ?_⟩
    · refine ifB_ne (fun h2 => absurd rfl h2) (fun _ => ?_)
      rw [needK_true (by simp)]
      refine ⟨rfl, ?_⟩
      have : (newE (othersOf b0 x1) xs != 0) = true := by simpa using hE
      rw [this]; rfl
    rintro b68 g ⟨rfl, rfl⟩
    rw [ifB_false]
    refine ifB_ne (fun _ => ?_) (fun h2 => absurd h2 hE)
    exact c6 fun g e => asB_of (hk g (e02.trans (e3.trans (e4.trans e))))
  · refine c34 (l44.ext (e2.trans e3)).rowL hn (by omega) fun g4 e4 => asI_of ?_
    rw [hE]
    refine ⟨fun b g => g = g4 ∧ b = false, ?_, ?_⟩
    · refine ifB_ne (fun h2 => absurd rfl h2) (fun _ => ?_)
      rw [needK_true (by simp)]
      exact ⟨rfl, rfl⟩
    rintro b68 g ⟨rfl, rfl⟩
    rw [ifB_false]
    refine ifB_ne (fun h2 => absurd rfl h2) (fun _ => ?_)
    have e04 := e02.trans (e3.trans e4)
    have hlow : ∀ i, blkOf A47 i → i < g2.size := fun i hi => l47.2.lt hi
    have hh47 : ∀ i, blkOf A47 i → h.size ≤ i := fun i hi => by have := l47.2.base_le hi; exact Nat.le_trans z1 this
    -- what was handed in is written over
    refine ⟨fun x14 g' => ∃ (j : Nat) (zs : List RS), x14 = j ∧ j ≤ n2 ∧ zs.length = n2 ∧ Go.Oct.Ext h g' ∧ Lst g' g1.size 43 RS.cells 44 A47 n2 c47 zs ∧ Lst g' h.size 88 RS.cells 44 A44 n2 c44 xs ∧ Cl g' g2.size p hb A n2 c xs (othersOf b0 x1) (List.replicate (n2 + 1) 0), fun x14 g' => (n2 - x14).toNat, ⟨0, xs, rfl, by omega, hn, e04, l47.ext (e3.trans e4), l44.ext (e2.trans (e3.trans e4)), cl.ext e4⟩, ?_⟩
    rintro x14 g5 ⟨j, zs, rfl, hj, hzl, e5, lz, l44z, clz⟩
    refine ifB_dec (fun hlt => ?_) (fun hge => ?_)
    · refine Lst.putL RS.len (by decide) lz rfl (by omega) zRS (RS.one zRS) fun g6 l6 m6 => ?_
      refine ⟨⟨j + 1, _, wrap64_id (by omega) (by omega), by omega, by rw [List.length_set]; exact hzl, e5.then m6 hh47, l6, l44z.mod m6 (fun i hi => l44z.2.disj lz.2 (by decide) i hi), clz.low m6 hlow⟩, ?_⟩
      rw [wrap64_id (by omega) (by omega)]; dsimp only; omega
    -- the counts
    have hw1 : IntKind.wrap .i64 ((n2 : Int) + 1) = ((n2 + 1 : Nat) : Int) := wrap64_id (by omega) (by omega)
    refine made_one (f := uf) (z := 0) (m := n2 + 1) hw1 (by omega) (by omega) fun b85 g6 l85 y85 e6 => ?_
    have e06 := e5.trans e6
    have z06 := e5.size
    have cl6 := clz.ext e6
    have hbg : hb < g5.size := clz.hb_lt
    have hbl : h.size ≤ hb := by have := clz.hb_le; omega
    refine ⟨fun b8 x16 g' => ∃ (j : Nat) (hs : List Int), x16 = j ∧ j ≤ n3 ∧ Go.Oct.Ext h g' ∧ Lst g' g5.size 62 (fun x => [uf x]) 1 (some ⟨b85, 0, none⟩) (n2 + 1) (n2 + 1) hs ∧ Lst g' h.size 88 RS.cells 44 A44 n2 c44 xs ∧ Cl g' g2.size p hb A n2 c xs (othersOf b0 x1) hs ∧ ∀ v ∈ hs, 0 ≤ v ∧ v ≤ j, fun b8 x16 g' => (n3 - x16).toNat, ⟨0, _, rfl, by omega, e06, l85, l44z.ext e6, cl6, fun v hv => by rw [(List.mem_replicate.1 hv).2]; omega⟩, ?_⟩
    rintro b8 x16 g7 ⟨j, hs, rfl, hj, e7, l85, l44g, clg, hbd⟩
    have hsl : hs.length = n2 + 1 := l85.1
    refine ifB_dec (fun hlt => ?_) (fun hge => ?_)
    · obtain ⟨y, hy⟩ : ∃ y, ys[j]? = some y := ⟨_, List.getElem?_eq_getElem (by omega)⟩
      have hyl := Ky.len37 y.2
      refine rowL_index KS.len (by decide) (hr3.ext e7) rfl hy fun b q _ ha => ha.loadN (KS.len y) ?_
      refine (show callK Try.prog 35 #[.agg y.1.cells.toArray] g7 _ from c35 y.2 fun g8 e8 => asA_of (by simpa using hyl) ?_)
      refine newVr rfl (by simpa using hyl) (Ky.one _) fun p17 g9 y17 b17 e9 => ?_
      have e79 := e8.trans e9
      have e09 := e7.trans e79
      have z8 := e8.size
      have clg9 := clg.ext e79
      have hne17 : p17 ≠ hb := by have := clg.hb_lt; omega
      refine rowL_index KS.len (by decide) (hr3.ext e09) rfl hy fun b q _ ha => ha.loadN (KS.len y) ?_
      refine (show callK Try.prog 8 #[.pointer (some ⟨p, 0, none⟩), .agg y.1.cells.toArray] g9 _ from c8x clg9 y.2 fun hs' g10 hat m10 cl10 => asT2_of (asI_of (asI_of ?_)))
      have e0_10 := e09.then m10 (by rintro i rfl; exact hbl)
      have b17a := b17.mod m10 hne17
      have l44a := (l44g.ext e79).mod m10 (fun i hi e => (l44g.ext e79).2.disj clg9.hits.2 (by decide) i hi ⟨_, rfl, e.symm⟩)
      have l85a := (l85.ext e79).mod m10 (fun i hi e => by have := l85.2.base_le hi; omega)
      refine b17a.at_.loadN hyl ?_
      refine c36 l44a.rowL hn (by omega) y.2 fun g11 e11 => asT2_of (asI_of (asI_of ?_))
      refine (b17a.ext e11).at_.loadN hyl ?_
      refine c37 (l44a.ext e11).rowL hn (by omega) y.2 fun g12 e12 => asI_of ?_
      have e1012 := e11.trans e12
      have cl12 := cl10.ext e1012
      refine ⟨fun b g => Go.Oct.Ext g12 g ∧ b = false, ?_, ?_⟩
      · refine ifB_ne (fun h2 => absurd rfl h2) (fun _ => ?_)
        refine ifB_ne (fun h2 => absurd rfl h2) (fun _ => ?_)
        refine rowL_index KS.len (by decide) (hr3.ext (e0_10.trans e1012)) rfl hy fun b q _ ha => ha.loadN (KS.len y) ?_
        refine (show callK Try.prog 13 #[.pointer (some ⟨p, 0, none⟩), .agg y.1.cells.toArray] g12 _ from c13 cl12.rules.rowL hn (by omega) cl12.sl y.2 fun g13 e13 => asI_of ⟨e13, ?_⟩)
        simp
      rintro b134 g13 ⟨e13, rfl⟩
      rw [ifB_false]
      have e1013 := e1012.trans e13
      have e0_13 := e0_10.trans e1013
      have l85b := l85a.ext e1013
      refine ⟨fun b x22 g => g = g13 ∧ ∃ i : Nat, x22 = i ∧ i ≤ n2 ∧ atP xs y.1 n2 i, ?_, ?_⟩
      · rcases idx_cases xs (fun r => fits r.1 y.1) with ⟨e1', e2'⟩ | ⟨i, x, e1', e2', e3'⟩
        · refine ifB_dec (fun h1 => ⟨rfl, n2, rfl, Nat.le_refl _, .inl ⟨e1', rfl⟩⟩) (fun h1 => absurd (by rw [e1']; decide) h1)
        · refine ifB_dec (fun h1 => absurd h1 (by rw [e1']; omega)) (fun h1 => ⟨rfl, i, e1', by have := (List.getElem?_eq_some_iff.1 e2').1; omega, .inr e1'⟩)
      rintro b136 x22 g ⟨rfl, i, rfl, hi, hati⟩
      obtain ⟨v, hv⟩ : ∃ v, hs[i]? = some v := ⟨_, List.getElem?_eq_getElem (by omega)⟩
      have hvb := hbd v (List.mem_of_getElem? hv)
      have hs'e := hat i v hati hv (by omega)
      refine row_load (f := uf) (Lst.row (f := uf) l85b) rfl hv (asI_of ?_)
      refine Lst.put (f := uf) l85b rfl (by omega) (IntKind.wrap .u64 (v + 1)) rfl fun g14 l14 m14 => ?_
      have m14' : Go.Oct.Mod g g14 (· = b85) := m14.mono fun i _ hi => by obtain ⟨ad, e, e2⟩ := hi; cases e; exact e2.symm
      subst hs'e
      refine ⟨⟨j + 1, _, wrap64_id (by omega) (by omega), by omega, e0_13.then m14' (by rintro i rfl; omega), l14, (l44a.ext e1013).mod m14 (fun i hi e => (l44a.ext e1013).2.disj l85b.2 (by decide) i hi e), clz.after (cl10.ext e1013) m14' y85, fun w hw => ?_⟩, ?_⟩
      · rcases List.mem_or_eq_of_mem_set hw with h4 | h4
        · have := hbd w h4; omega
        · rw [h4, IntKind.wrap_u64]; omega
      · rw [wrap64_id (by omega) (by omega)]; dsimp only; omega
    -- the dead, and all that is answered
    refine c38 l44g.rowL hn (by omega) fun A148 c148 g8 e8 l148 => asS_of ?_
    have hdl : (deadR xs).length ≤ n2 := by
      have := List.length_filter_le (deadB xs) (List.range xs.length)
      rw [List.length_range] at this
      unfold deadR
      omega
    have cl8 := clg.ext e8
    have l85c := l85.ext e8
    refine ⟨fun b x24 g => ∃ t : Nat, x24 = t ∧ t ≤ 2 ∧ Go.Oct.Ext g8 g, fun b x24 g => (2 - x24).toNat, ⟨0, rfl, by omega, Go.Oct.Ext.refl _⟩, ?_⟩
    rintro b81 x24 g9 ⟨t, rfl, ht, e9⟩
    refine ifB_dec (fun hlt => ?_) (fun hge2 => c6 fun g e => asB_of (hk g (e7.trans (e8.trans (e9.trans e)))))
    refine c14 (cl8.ext e9) fun A154 c154 g10 e10 l154 => asS_of ?_
    refine c9 (cl8.ext (e9.trans e10)) fun A156 c156 g11 e11 l156 => asS_of ?_
    have z9 := e9.size
    have z10 := e10.size
    have z11 := e11.size
    refine ⟨fun b g => g = g11 ∧ b = false, ?_, ?_⟩
    · refine ifB_ne (fun h2 => absurd rfl h2) (fun _ => ?_)
      exact c39 (Lst.row (f := nI) l156) (Lst.row (f := nI) (l148.ext (e9.trans (e10.trans e11)))) (by omega) (asB_of ⟨rfl, rfl⟩)
    rintro b167 g ⟨rfl, rfl⟩
    rw [ifB_false]
    refine ⟨fun b x27 g' => ∃ (i : Nat) (d : List Int), x27 = i ∧ i ≤ n2 + 1 ∧ Go.Oct.Ext g9 g' ∧ Lst g' g9.size 62 (fun x => [uf x]) 1 A154 (n2 + 1) c154 d ∧ Lst g' g10.size 3 (fun x => [nI x]) 1 A156 (deadR xs).length c156 (deadR xs) ∧ ∀ m, i ≤ m → d[m]? = hs[m]?, fun b x27 g' => (n2 + 1 - x27).toNat, ⟨0, hs, rfl, by omega, e10.trans e11, l154.ext e11, l156, fun m _ => rfl⟩, ?_⟩
    rintro b8_2 x27 g12 ⟨i, d, rfl, hi, e12, ld, li, hsame⟩
    have hdl2 : d.length = n2 + 1 := ld.1
    refine ifB_dec (fun hlt3 => draw_ext ?_) (fun hge3 => ?_)
    · obtain ⟨v, hv⟩ : ∃ v, hs[i]? = some v := ⟨_, List.getElem?_eq_getElem (by omega)⟩
      have hv2 : d[i]? = some v := by rw [hsame i (Nat.le_refl _), hv]
      refine row_loadS (f := uf) (Lst.row (f := uf) ld) rfl hv2 (asI_of ?_)
      refine row_loadS (f := uf) (Lst.row (f := uf) (l85c.ext (e9.trans e12))) rfl hv (asI_of ?_)
      refine ifB_ne (fun h2 => absurd rfl h2) (fun _ => ?_)
      refine Lst.put (f := uf) ld rfl (by omega) 77 rfl fun g13 l13 m13 => ?_
      refine ⟨⟨i + 1, _, wrap64_id (by omega) (by omega), by omega, e12.then m13 (fun i hi => ld.2.base_le hi), l13, li.mod m13 (fun i hi e => li.2.disj ld.2 (by decide) i hi e), fun m hm => ?_⟩, ?_⟩
      · rw [List.getElem?_set, if_neg (by omega)]
        exact hsame m (by omega)
      · rw [wrap64_id (by omega) (by omega)]; dsimp only; omega
    · refine ⟨fun x28 g' => ∃ (i : Nat) (d : List Nat), x28 = i ∧ i ≤ (deadR xs).length ∧ Go.Oct.Ext g9 g' ∧ Lst g' g10.size 3 (fun x => [nI x]) 1 A156 (deadR xs).length c156 d, fun x28 g' => ((deadR xs).length - x28).toNat, ⟨0, _, rfl, by omega, e12, li⟩, ?_⟩
      rintro x28 g13 ⟨i, d', rfl, hi', e13, ld'⟩
      have hdl3 : d'.length = (deadR xs).length := ld'.1
      refine ifB_dec (fun hlt4 => ?_) (fun hge4 => ?_)
      · refine Lst.put (f := nI) ld' rfl (by omega) 77 rfl fun g14 l14 m14 => ?_
        refine ⟨⟨i + 1, _, wrap64_id (by omega) (by omega), by omega, e13.then m14 (fun i hi => by have := ld'.2.base_le hi; omega), l14⟩, ?_⟩
        rw [wrap64_id (by omega) (by omega)]; dsimp only; omega
      · refine ⟨⟨t + 1, wrap64_id (by omega) (by omega), by omega, e9.trans e13⟩, ?_⟩
        rw [wrap64_id (by omega) (by omega)]; dsimp only; omega
end
end Go.Proofs.Ytkhlollengamdaa
