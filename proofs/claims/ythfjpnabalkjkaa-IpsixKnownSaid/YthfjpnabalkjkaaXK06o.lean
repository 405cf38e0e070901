/- What is proved: contracts of functions that the law calls, and of the law itself, over any heap. Conditions stand in each theorem. -/
import Derived.Test.YthfjpnabalkjkaaXK06n
set_option linter.unusedSimpArgs false
set_option linter.unusedVariables false
namespace Go.Proofs.Ythfjpnabalkjkaa
open Go.Oct Go.Oct.L01 Go.Oct.L06
section
variable {h : H} {k : Value → H → Prop}
/-- Spoil -/
theorem c28 {base : Nat} {A : Option Addr} {n c : Nat} {xs : List Int} (l : Byt h base A n c xs) (hn : n ≤ 1099511627776) (hk : ∀ h', Go.Oct.Mod h h' (blkOf A) → k (.tuple #[]) h') : callK Try.prog 28 #[.slice A n c] h k := by
  refine call28 _ _ _ _ _ ?_
  unfold d28
  refine ⟨fun x g => ∃ (j : Nat) (ys : List Int), x = j ∧ j ≤ n ∧ Byt g base A n c ys ∧ Go.Oct.Mod h g (blkOf A), fun x g => (n - x).toNat, ⟨0, xs, rfl, by omega, l, Go.Oct.Mod.refl _ _⟩, ?_⟩
  rintro x g ⟨j, ys, rfl, hj, l2, m2⟩
  have hl : ys.length = n := l2.1
  refine ifB_dec (fun hlt => ?_) (fun hge => hk g m2)
  refine Lst.put (f := bf) l2 rfl (by omega) 165 rfl fun g3 l3 m3 => ?_
  refine ⟨⟨j + 1, _, wrap64_id (by omega) (by omega), by omega, l3, m2.trans m3⟩, ?_⟩
  rw [wrap64_id (by omega) (by omega)]
  dsimp only
  omega
theorem rightX_isB {x : L06.Ext} (h : beh x.1 = true) : isB x.1 := by
  unfold beh at h
  have := of_decide_eq_true h
  unfold isB
  omega
set_option maxHeartbeats 1000000 in
/-- the reference's ParseChain -/
theorem c24 (first : Int) (B : Option Addr) (m d : Nat) (b : List Int) (hf : isB first) (hr : RowH h B m (b.map bf).toArray) (hmd : m ≤ d) (hm : m ≤ 1000000) (hb : ∀ x ∈ b, isB x)
    (herr : ∀ e, parse first b = .inr e → ∀ h', Go.Oct.Ext h h' → k (.tuple #[.agg (chv none 0 0 0), .int .i64 0, .int .i64 e]) h')
    (hk : ∀ (L : Option Addr) (n q : Nat) (ys : List L06.Ext) (p : Int) (u : Nat), parse first b = .inl (ys, p, u) → ∀ h', Go.Oct.Ext h h' → RC h' L n ys p → (∀ i, blkOf L i → h.size ≤ i) → k (.tuple #[.agg (chv L n q p), .int .i64 u, .int .i64 0]) h') : callK Try.prog 24 #[.int .u8 first, .slice B m d] h k := by
  refine call24 _ _ _ _ _ _ ?_
  unfold d24
  have hbl : b.length = m := by simpa using hr.1
  refine alloc_new fun p4 g1 y1 b1 x1 => alloc_new fun p7 g2 y2 b2 x2 => ?_
  have x12 := x1.trans x2
  have z1 := x1.size
  have l1 := b1.lt
  have b1 : Blk g2 p4 (chv none 0 0 0) 53 := b1.ext x2
  have zerr : ∀ (e : Int) (g : H), Go.Oct.Ext h g → Blk g p4 (chv none 0 0 0) 53 → parse first b = .inr e → storeK 2 (some ⟨p4, 0, none⟩) (List.toArray [.slice none 0 0, .int .u8 0]) g (fun h => loadN 2 (some ⟨p4, 0, none⟩) h (fun c4 => k (.tuple #[(.agg c4), (.int .i64 0), (.int .i64 e)]) h)) := by
    intro e g xg kg he
    refine store_all kg rfl (by rfl) (by simp [OneCells, Value.oneCell']) fun g4 b5 m5 => ?_
    have b5 : Blk g4 p4 (chv none 0 0 0) 53 := b5
    exact b5.at_.loadN rfl (herr e he g4 (xg.then m5 (fun i hi => by rw [hi]; exact y1)))
  refine ⟨fun x5 x6 b9 x0 x8 g => ∃ (L : Option Addr) (n q : Nat) (ys : List L06.Ext) (u : Nat), x8 = u ∧ u ≤ m ∧ isB x0 ∧ Go.Oct.Ext h g ∧ Blk g p4 (chv none 0 0 0) 53 ∧ Blk g p7 (chv L n q 0) 53 ∧ Lst g h.size 92 ycells 2 L n q ys ∧ n ≤ 16 ∧ (∀ y ∈ ys, isB y.1 ∧ (∀ z ∈ y.2, isB z) ∧ y.2.length ≤ 1000000) ∧
      ((b9 = false ∧ ∃ f, f + n = 17 ∧ parse first b = pc f ys x0 (b.drop u) u) ∨ (b9 = true ∧ parse first b = .inl (ys, x0, u))), fun x5 x6 b9 x0 x8 g => (m + 1 - x8).toNat,
    ⟨none, 0, 0, [], 0, rfl, by omega, hf, x12, b1, b2, Lst.nil, by omega, by simp, .inl ⟨rfl, 17, rfl, by simp [parse]⟩⟩, ?_⟩
  rintro x5 x6 b9 x0 x8 g ⟨L, n, q, ys, u, rfl, hu, h0, xg, k4, k7, l, hn16, hys, hst⟩
  have a7 : At g p7 0 [.slice L n q, .int .u8 0] := k7.at_
  have hyl : ys.length = n := l.1
  refine ⟨fun b17 g' => g' = g ∧ b17 = (beh x0 && !b9), ?_, ?_⟩
  · refine c52 x0 (asB_of (ifB_of (fun h1 => ⟨rfl, by rw [h1]; rfl⟩) (fun h1 => ⟨rfl, by rw [h1]; rfl⟩)))
  rintro b17 g' ⟨rfl, rfl⟩
  refine ifB_of (fun h17 => ?_) (fun h17 => ?_)
  rotate_left
  · -- done
    have hp : parse first b = .inl (ys, x0, u) := by
      rcases hst with ⟨h9, f, hfn, hp⟩ | ⟨h9, hp⟩
      · rw [h9] at h17
        have hbe : beh x0 = false := by simpa using h17
        obtain ⟨f, rfl⟩ : ∃ f', f = f' + 1 := ⟨f - 1, by omega⟩
        unfold pc at hp
        rw [if_neg (by rw [hbe]; decide)] at hp
        exact hp
      · exact hp
    refine addrK_of rfl ?_
    refine store_blk k7 rfl (by simp [chv]) (by simp [OneCells, Value.cells, Value.oneCell']) fun g3 k3 m3 => ?_
    have k3 : Blk g3 p7 (chv L n q x0) 53 := k3
    refine k3.at_.loadN rfl ?_
    refine store_all (k4.mod m3 (fun e => by omega)) rfl (by rfl) (by simp [OneCells, chv, Value.oneCell']) fun g5 k5 m5 => ?_
    have mm : Go.Oct.Mod g' g5 (fun i => i = p7 ∨ i = p4) := (m3.mono fun i _ hi => .inl hi).trans (m5.mono fun i _ hi => .inr hi)
    have l5 := l.mod mm (fun i hi e => by
      rcases e with e | e
      · exact l.2.ne_blk k7 (by decide) i hi e
      · exact l.2.ne_blk k4 (by decide) i hi e)
    exact k5.at_.loadN rfl (hk L n q ys x0 u hp g5 (xg.then mm (fun i hi => by rcases hi with hi | hi <;> omega)) ⟨l5.2.row, l5.1, hys, h0, by omega⟩ (fun i hi => l5.2.base_le hi))
  simp only [Bool.and_eq_true, Bool.not_eq_true'] at h17
  obtain ⟨hbe, h9⟩ := h17
  obtain ⟨f, hfn, hp⟩ : ∃ f, f + n = 17 ∧ parse first b = pc f ys x0 (b.drop u) u := by
    rcases hst with ⟨_, f, h1, h2⟩ | ⟨h1, _⟩
    · exact ⟨f, h1, h2⟩
    · rw [h9] at h1; cases h1
  obtain ⟨f, rfl⟩ : ∃ f', f = f' + 1 := ⟨f - 1, by omega⟩
  unfold pc at hp
  rw [if_pos hbe] at hp
  refine ⟨fun b31 g3 => g3 = g' ∧ b31 = decide (ys.length = 16 ∨ (x0 = 0 ∧ 0 < ys.length)), ?_, ?_⟩
  · refine addrK_of rfl (a7.load1 0 rfl rfl (asS_of ?_))
    refine ifB_eq (fun h1 => ⟨rfl, ?_⟩) (fun h1 => ifB_eq (fun h2 => ?_) (fun h2 => ⟨rfl, ?_⟩))
    · rw [eq_comm, decide_eq_true_iff]; omega
    · refine addrK_of rfl (a7.load1 0 rfl rfl (asS_of ⟨rfl, ?_⟩))
      simp only [decide_eq_decide]; omega
    · rw [eq_comm, decide_eq_false_iff_not]; omega
  rintro b31 g3 ⟨rfl, rfl⟩
  refine ifB_dec (fun h1 => zerr 60 g3 xg k4 (by rw [hp, one_60 h1])) (fun h1 => ?_)
  rw [wrap64_id (x := (u : Int) + 2) (by omega) (by omega)]
  have hrl : (b.drop u).length = m - u := by rw [List.length_drop]; omega
  have hby : ∀ x ∈ b.drop u, isB x := fun x hx => hb x (List.mem_of_mem_drop hx)
  refine ifB_dec (fun h2 => zerr 10 g3 xg k4 (by rw [hp, one_s h1 (by omega)])) (fun h2 => ?_)
  have g0 : b[u]? = (b.drop u)[0]? := by rw [List.getElem?_drop]; rfl
  have g1' : b[u + 1]? = (b.drop u)[1]? := by rw [List.getElem?_drop]
  generalize hrest : b.drop u = rest at *
  obtain ⟨r0, r1, t, rfl⟩ : ∃ r0 r1 t, rest = r0 :: r1 :: t := by
    rcases rest with _ | ⟨a, _ | ⟨b', t⟩⟩
    · simp at hrl; omega
    · simp at hrl; omega
    · exact ⟨a, b', t, rfl⟩
  rw [one_m h1] at hp
  have b1' : isB r1 := hby r1 (by simp)
  unfold isB at b1'
  rw [wrap64_id (x := (u : Int) + 1) (by omega) (by omega)]
  refine row_load (f := bf) (hr.ext xg) (j := u + 1) (by omega) g1' (asI_of ?_)
  refine ⟨fun b' x g' => g' = g3 ∧ x = (sizeOf1 x0 r1 : Int), ?_, ?_⟩
  · unfold sizeOf1
    refine ifB_eq (fun h3 => ⟨rfl, by rw [if_pos h3]; rfl⟩) (fun h3 => ⟨rfl, ?_⟩)
    rw [if_neg h3, wrap64_id (x := r1) (by omega) (by omega), wrap64_id (x := r1 + 1) (by omega) (by omega), wrap64_id (by omega) (by omega)]
    omega
  rintro b48 x g4 ⟨rfl, rfl⟩
  have hs8 : 8 ≤ sizeOf1 x0 r1 ∧ sizeOf1 x0 r1 ≤ 2048 := by unfold sizeOf1; split <;> omega
  rw [wrap64_id (x := (u : Int) + (sizeOf1 x0 r1 : Int)) (by omega) (by omega)]
  refine ifB_dec (fun h3 => zerr 10 g4 xg k4 (by rw [hp, if_pos (by omega)])) (fun h3 => ?_)
  have h3' : ¬ (r0 :: r1 :: t).length < sizeOf1 x0 r1 := by omega
  rw [if_neg h3'] at hp
  generalize hsz : sizeOf1 x0 r1 = sz at *
  have hdd : ((r0 :: r1 :: t).take sz).drop 2 = ((r0 :: r1 :: t).drop 2).take (sz - 2) := by rw [List.drop_take]
  have hdb2 : (b.drop (u + 2)).take (sz - 2) = ((r0 :: r1 :: t).drop 2).take (sz - 2) := by rw [← hrest, List.drop_drop]
  generalize hdat : ((r0 :: r1 :: t).take sz).drop 2 = dat at *
  have hdl : dat.length = sz - 2 := by rw [← hdat, List.length_drop, List.length_take]; omega
  have hdb : ∀ y ∈ dat, isB y := fun y hy => hby y (by rw [← hdat] at hy; exact List.mem_of_mem_take (List.mem_of_mem_drop hy))
  rw [needK_true (by simp)]
  refine row_slice (hr.ext xg) hmd (l := u + 2) (u := u + sz) (by simp) (by simp) (by omega) (by omega) fun A63 c63 r63 _ _ _ => ?_
  have e63 : u + sz - (u + 2) = sz - 2 := by omega
  rw [e63, hdb2, ← hdd] at r63
  rw [e63]
  refine strK_of (xs := dat) r63 ?_
  refine newVr (by simp) rfl (ycells_one (x0, dat)) fun p11 g5 y5 b5 x5 => ?_
  have a5 : At g5 p11 0 (ycells (x0, dat)) := b5.at_
  refine ⟨fun b' g6 => Go.Oct.Ext g5 g6 ∧ b' = decide (x0 = 44 ∧ (r1 ≠ 0 ∨ rightX (x0, dat) = false)), ?_, ?_⟩
  · refine ifB_eq (fun h4 => ?_) (fun h4 => ⟨Go.Oct.Ext.refl _, by rw [eq_comm, decide_eq_false_iff_not]; exact fun h => h4 h.1⟩)
    refine row_load (f := bf) ((hr.ext xg).ext x5) (j := u + 1) (by omega) g1' (asI_of ?_)
    refine ifB_ne (fun h5 => ⟨Go.Oct.Ext.refl _, by rw [eq_comm, decide_eq_true_iff]; exact ⟨h4, .inl h5⟩⟩) (fun h5 => ?_)
    refine a5.loadN rfl ?_
    refine c50 (x0, dat) hdb (by dsimp only; omega) fun g6 x6 => asB_of ⟨x6, ?_⟩
    cases h6 : rightX (x0, dat)
    · rw [eq_comm]; simp [h4]
    · rw [eq_comm]; simp [h5]
  rintro b80 g6 ⟨x6', rfl⟩
  have x56 := x5.trans x6'
  refine ifB_dec (fun h4 => zerr 60 g6 (xg.trans x56) (k4.ext x56) (by rw [hp, if_pos h4])) (fun h4 => ?_)
  rw [if_neg h4] at hp
  dsimp only at hp
  have z6 := (xg.trans x56).size
  have a76 := a7.ext x56
  refine addrK_of rfl (a76.load1 0 rfl rfl (asS_of ?_))
  refine (a5.ext x6').loadN rfl ?_
  refine y_fill (x0, dat) (alloc_new fun p85 g7 y7 b7 x7 => src_blk b7 rfl ?_)
  have x57 := x56.trans x7
  have l7 := l.ext x57
  have z7 := (xg.trans x57).size
  have hn15 : n < 16 := by
    have : ¬ n = 16 := fun e => h1 (.inl (by omega))
    omega
  refine Lst.push (f := ycells) ycells_len l7 (x0, dat) rfl (ycells_one _) (by omega) z7 (by omega) fun L' q' g8 l8 m8 d8 => ?_
  have k78 := (k7.ext x57).mod m8 (fun hi => l7.2.ne_blk (k7.ext x57) (by decide) _ hi rfl)
  have k48 := (k4.ext x57).mod m8 (fun hi => l7.2.ne_blk (k4.ext x57) (by decide) _ hi rfl)
  have e8 := (xg.trans x57).then m8 (fun i hi => l7.2.base_le hi)
  have h11 : ∀ i, blkOf L i → i ≠ p11 := fun i hi e => by have := l.2.lt hi; omega
  have a118 : At g8 p11 0 (ycells (x0, dat)) := (a5.ext (x6'.trans x7)).mod m8 (fun hi => h11 _ hi rfl)
  refine addrK_of rfl ?_
  refine store_blk k78 rfl (by simp [chv]) (by simp [OneCells, Value.cells, Value.oneCell']) fun g9 k9 m9 => ?_
  have k9 : Blk g9 p7 (chv L' (n + 1) q' 0) 53 := k9
  have lp7 := k7.lt
  have a119 := a118.mod m9 (fun e => by omega)
  have hp7 : h.size ≤ p7 := by omega
  have e9 := e8.then m9 (fun i hi => by rw [hi]; exact hp7)
  refine a119.loadN rfl ?_
  refine c51 (x0, dat) hdb fun g10 x10 => asB_of ?_
  refine row_load (f := bf) (hr.ext (e9.trans x10)) (j := u) rfl (by rw [g0]; rfl) (asI_of ?_)
  have k49 : Blk g9 p4 (chv none 0 0 0) 53 := k48.mod m9 (fun e => by omega)
  have l9 := l8.mod m9 (fun i hi e => l8.2.ne_blk k78 (by decide) i hi e)
  refine ⟨⟨L', n + 1, q', ys ++ [(x0, dat)], u + sz, by omega, by omega, hby r0 (by simp), e9.trans x10, k49.ext x10, k9.ext x10, l9.ext x10, by omega, ?_, ?_⟩, ?_⟩
  · intro y hy
    rcases List.mem_append.1 hy with hy | hy
    · exact hys y hy
    · rw [List.mem_singleton.1 hy]; exact ⟨h0, hdb, by dsimp only; omega⟩
  · cases hl : laterX (x0, dat)
    · rw [if_neg (by rw [hl]; decide)] at hp
      refine .inl ⟨rfl, f, by omega, ?_⟩
      rw [hp]
      congr 1
      rw [← hrest, List.drop_drop]
    · rw [if_pos hl] at hp
      exact .inr ⟨rfl, hp⟩
  · dsimp only
    omega
end
end Go.Proofs.Ythfjpnabalkjkaa
