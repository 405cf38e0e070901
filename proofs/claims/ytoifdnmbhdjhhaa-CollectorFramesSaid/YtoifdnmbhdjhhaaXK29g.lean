/- What is proved: contracts of functions that the law calls, and of the law itself, over any heap. Conditions stand in each theorem. -/
import Derived.Test.YtoifdnmbhdjhhaaXK29f
set_option linter.unusedSimpArgs false
set_option linter.unusedVariables false
namespace Go.Proofs.Ytoifdnmbhdjhhaa
open Go.Oct Go.Oct.L01

/-- ParseData -/
theorem c13 (A : Option Addr) (n c : Nat) (bs : List Int) (h : H) (k : Value → H → Prop) (hr : RowH h A n (bs.map bf).toArray) (hc : n ≤ c) (hn : n ≤ 4096) (hb : ∀ x ∈ bs, isB x)
    (hno : pOk bs = false → ∀ h', Ext h h' → k (.tuple #[.agg zeroE, .int .i64 290]) h')
    (hk : pOk bs = true → ∀ A' c' h', Ext h h' → Byt h' h.size A' (n - 17) c' (bs.drop 17) → k (.tuple #[.agg (ent (pE bs) (pN bs) (pP bs) (.slice A' (n - 17) c')), .int .i64 0]) h') : callK Try.prog 13 #[.slice A n c] h k := by
  refine call13 _ _ _ _ _ ?_
  unfold d13
  have hl : bs.length = n := by simpa using hr.1
  refine alloc_new fun p2 h1 y2 b2 e1 => ?_
  have fail : pOk bs = false → ∀ g, Ext h g → Blk g p2 zeroE 32 → storeK 4 (some ⟨p2, 0, none⟩) (List.toArray [.int .u32 0, .int .u64 0, .int .u32 0, .slice none 0 0]) g (fun h => loadN 4 (some ⟨p2, 0, none⟩) h (fun c2 => k (.tuple #[(.agg c2), (.int .i64 290)]) h)) := by
    intro hf g eg bg
    refine store_blk bg rfl (by simp [zeroE, ent]) (by simp [OneCells, Value.oneCell']) fun g' bg' m => ?_
    refine bg'.at_.loadN (by simp [over, zeroE, ent]) ?_
    simp only [over, zeroE, ent]
    exact hno hf g' (eg.then m (fun i hi => by omega))
  have main : ∀ (l0 l1 l2 : Int) (ok : Bool) g, Ext h1 g → ok = okN bs 1 → (ok = true → l0 = pE bs ∧ l1 = pN bs ∧ l2 = pP bs) →
      allocK (List.toArray [.int .u64 0, .int .u64 0, .int .u64 0]) 79 g (fun p4 h => storeK 3 p4 (l3 l0 l1 l2) h (fun h => indexK 1 p4 3 0 (fun p13 => load1 p13 h (fun v14 => asI .u64 v14 (fun x14 => indexK 1 p4 3 1 (fun p16 => load1 p16 h (fun v17 => asI .u64 v17 (fun x17 => indexK 1 p4 3 2 (fun p18 => load1 p18 h (fun v19 => asI .u64 v19 (fun x19 => allocK (List.toArray [.int .u32 0, .int .u64 0, .int .u32 0, .slice none 0 0]) 32 h (fun p6 h => storeK 4 p6 (List.toArray [(.int .u32 (IntKind.wrap .u32 x14)), (.int .u64 x17), (.int .u32 (IntKind.wrap .u32 x19)), .slice none 0 0]) h (fun h => joinK [.bool] (fun (J : Bool → H → Prop) => ifB (!ok) (J true h) (loadN 4 p6 h (fun c25 => callK Try.prog 30 #[(.agg c25)] h (fun v26 h => asB v26 (fun b26 => J (!b26) h))))) (fun (b28 : Bool) (h : H) => ifB b28 (storeK 4 (some ⟨p2, 0, none⟩) (List.toArray [.int .u32 0, .int .u64 0, .int .u32 0, .slice none 0 0]) h (fun h => loadN 4 (some ⟨p2, 0, none⟩) h (fun c2 => k (.tuple #[(.agg c2), (.int .i64 290)]) h))) (needK (Option.isSome (none : Option Int) = true → Option.isSome (none : Option Int) = true) (sliceK 1 A n c (some 17) none none (fun A31 n31 c31 => callK Try.prog 35 #[(.slice A31 n31 c31)] h (fun v32 h => asS v32 (fun A32 n32 c32 => addrK p6 3 (fun p33 => storeK 1 p33 (Value.cells (.slice A32 n32 c32)) h (fun h => loadN 4 p6 h (fun c34 => storeK 4 (some ⟨p2, 0, none⟩) c34 h (fun h => loadN 4 (some ⟨p2, 0, none⟩) h (fun c2 => k (.tuple #[(.agg c2), (.int .i64 0)]) h)))))))))))))))))))))))) := by
    intro l0 l1 l2 ok g eg hok hvals
    refine alloc_new fun p4 g1 y4 b4 x1 => ?_
    refine store_blk b4 rfl (by simp [l3]) (l3_one _ _ _) fun g2 b4 m2 => ?_
    have x2 : Ext g g2 := x1.then m2 (fun i hi => by omega)
    have b4 : Blk g2 p4 (l3 l0 l1 l2) 79 := b4
    rw [indexK_some]
    refine ⟨by omega, by omega, b4.at_.load1 0 rfl rfl (asI_of ?_)⟩
    rw [indexK_some]
    refine ⟨by omega, by omega, b4.at_.load1 1 rfl rfl (asI_of ?_)⟩
    rw [indexK_some]
    refine ⟨by omega, by omega, b4.at_.load1 2 rfl rfl (asI_of ?_)⟩
    refine alloc_new fun p6 g3 y6 b6 x3 => ?_
    refine store_blk b6 rfl (by simp) (by simp [OneCells, Value.oneCell']) fun g4 b6 m4 => ?_
    have x4 : Ext g2 g4 := x3.then m4 (fun i hi => by omega)
    have b6 : Blk g4 p6 (ent (IntKind.wrap .u32 l0) l1 (IntKind.wrap .u32 l2) (.slice none 0 0)) 32 := b6
    have z4 : Ext h1 g4 := eg.trans (x2.trans x4)
    have hs1 := eg.size
    have hs2 := x2.size
    have hb2 := b2.lt
    refine ⟨fun b g' => b = !pOk bs ∧ Ext g4 g' ∧ (pOk bs = true → IntKind.wrap .u32 l0 = pE bs ∧ l1 = pN bs ∧ IntKind.wrap .u32 l2 = pP bs ∧ 17 ≤ n), ?_, ?_⟩
    · refine ifB_of (fun e => ?_) (fun e => ?_)
      · have : okN bs 1 = false := by rw [← hok]; simpa using e
        exact ⟨by unfold pOk; rw [this]; rfl, Ext.refl _, fun e' => by unfold pOk at e'; rw [this] at e'; cases e'⟩
      · have hk1 : okN bs 1 = true := by rw [← hok]; simpa using e
        have h17 : 17 ≤ n := by unfold okN at hk1; simp at hk1; omega
        obtain ⟨f0, f1, f2⟩ := hvals (by rw [hok]; exact hk1)
        have w0 : IntKind.wrap .u32 l0 = pE bs := by rw [f0]; exact (wrap32 hb (a := 1) (by omega) (by omega)).1
        have w2 : IntKind.wrap .u32 l2 = pP bs := by rw [f2]; exact (wrap32 hb (a := 13) (by omega) (by omega)).1
        rw [w0, w2, f1] at b6
        refine b6.at_.loadN rfl ?_
        refine c30 (pE bs) (pN bs) (pP bs) _ g4 _ fun g5 x5 => asB_of ⟨?_, x5, fun _ => ⟨w0, f1, w2, h17⟩⟩
        unfold pOk; rw [hk1]; rfl
    · rintro b g5 ⟨hbk, x5, hv⟩
      have z5 := z4.trans x5
      refine ifB_of (fun e => fail (by rw [hbk] at e; simpa using e) g5 (e1.trans z5) (b2.ext z5)) (fun e => ?_)
      have hp : pOk bs = true := by rw [hbk] at e; simpa using e
      obtain ⟨w0, f1, w2, h17⟩ := hv hp
      rw [w0, w2, f1] at b6
      rw [needK_true (by simp)]
      refine row_slice (hr.ext (e1.trans z5)) hc (l := 17) (u := n) rfl rfl (by omega) (by omega) fun A5 q5 r5 _ _ _ => ?_
      rw [List.take_of_length_le (by rw [List.length_drop]; omega)] at r5
      refine c35 A5 (n - 17) q5 _ g5 _ r5 (by omega) fun A6 q6 g6 e6 l6 => asS_of ?_
      have b6 := b6.ext (x5.trans e6)
      have z6 := z5.trans e6
      have b2 := b2.ext z6
      have h62 : p6 ≠ p2 := by omega
      have hb6 := b6.lt
      have hs5 := x5.size
      have hb6' : p6 < g4.size := (Blk.lt (h := g4) (by assumption : Blk g4 p6 _ _))
      refine addrK_of rfl ?_
      refine store_blk b6 rfl (by simp [ent]) (by simp [OneCells, Value.cells, Value.oneCell']) fun g7 b7 m7 => ?_
      have b7 : Blk g7 p6 (ent (pE bs) (pN bs) (pP bs) (.slice A6 (n - 17) q6)) 32 := b7
      have b2 := b2.mod m7 (fun e => h62 e.symm)
      have l7 := l6.mod m7 (fun i hi e => by have h1 := l6.2.base_le hi; omega)
      refine b7.at_.loadN rfl ?_
      refine store_blk b2 rfl (by simp [ent]) (by simp [OneCells, ent, Value.oneCell']) fun g8 b8 m8 => ?_
      have b8 : Blk g8 p2 (ent (pE bs) (pN bs) (pP bs) (.slice A6 (n - 17) q6)) 32 := b8
      have hs5' := z5.size
      have l8 := l7.mod m8 (fun i hi e => by have h1 := l7.2.base_le hi; omega)
      refine b8.at_.loadN rfl ?_
      have hs0 := e1.size
      have hs4 := z4.size
      exact hk hp A6 q6 g8 (((e1.trans z6).then m7 (fun i hi => by omega)).then m8 (fun i hi => by omega)) (Lst.weaken l8 (e1.trans z5).size)
  refine c34 A n c bs 1 4 8 4 h1 _ (hr.ext e1) hn hb (by omega) (by omega) (by omega) (by omega) (fun hf a b c g eg => asT2_of (asA_of rfl (asB_of ?_))) (fun hf g eg => asT2_of (asA_of rfl (asB_of ?_)))
  · exact main a b c false g eg hf.symm (fun e => by cases e)
  · exact main _ _ _ true g eg hf.symm (fun _ => ⟨rfl, rfl, rfl⟩)

/-- the reference's ParseAck -/
theorem c11 (A : Option Addr) (n c : Nat) (bs : List Int) (h : H) (k : Value → H → Prop) (hr : RowH h A n (bs.map bf).toArray) (hc : n ≤ c) (hn : n ≤ 4096) (hb : ∀ x ∈ bs, isB x)
    (hno : aOk bs = false → ∀ h', Ext h h' → k (.tuple #[.agg (ack 0 0 0), .int .i64 290]) h')
    (hk : aOk bs = true → ∀ h', Ext h h' → k (.tuple #[.agg (ack (num bs 1 4) (num bs 5 4) (num bs 9 8)), .int .i64 0]) h') : callK Try.prog 11 #[.slice A n c] h k := by
  refine call11 _ _ _ _ _ ?_
  unfold d11
  have hl : bs.length = n := by simpa using hr.1
  refine alloc_new fun p2 h1 y2 b2 e1 => ?_
  refine ⟨fun b g => g = h1 ∧ b = !aOk bs, ?_, ?_⟩
  · refine ifB_ne (fun h17 => ⟨rfl, ?_⟩) (fun h17 => ?_)
    · unfold aOk; rw [decide_eq_false (by omega)]; rfl
    · refine row_load (hr.ext e1) (j := 0) rfl (List.getElem?_eq_getElem (by omega)) (asI_of ⟨rfl, ?_⟩)
      have e0 : num bs 0 1 = bs[0] := num_one (by omega)
      unfold aOk
      rw [e0, bne_dec]
      by_cases hb1 : bs[0] = 2
      · simp [hb1]; omega
      · simp [hb1]
  rintro b g ⟨rfl, hbk⟩
  refine ifB_of (fun e => ?_) (fun e => ?_)
  · refine store_blk b2 rfl (by simp) (by simp [OneCells, Value.oneCell']) fun g' bg' m => ?_
    refine bg'.at_.loadN (by simp [over]) ?_
    simp only [over]
    exact hno (by rw [hbk] at e; simpa using e) g' (e1.then m (fun i hi => by omega))
  have hok : aOk bs = true := by rw [hbk] at e; simpa using e
  have h17 : n = 17 := by unfold aOk at hok; simp at hok; omega
  refine c29 A n c bs 1 4 g _ (hr.ext e1) hc hn hb (by omega) (by omega) (by omega) (by omega) (by omega) (asI_of ?_)
  refine c29 A n c bs 5 4 g _ (hr.ext e1) hc hn hb (by omega) (by omega) (by omega) (by omega) (by omega) (asI_of ?_)
  refine c29 A n c bs 9 8 g _ (hr.ext e1) hc hn hb (by omega) (by omega) (by omega) (by omega) (by omega) (asI_of ?_)
  rw [(wrap32 hb (a := 1) (by omega) (by omega)).1, (wrap32 hb (a := 5) (by omega) (by omega)).1]
  refine ack_fill _ _ _ ?_
  refine store_blk b2 rfl (by simp) (by simp [OneCells, ack, Value.oneCell']) fun g' b' m => ?_
  have b' : Blk g' p2 (ack (num bs 1 4) (num bs 5 4) (num bs 9 8)) 46 := b'
  refine b'.at_.loadN rfl ?_
  exact hk hok g' (e1.then m (fun i hi => by omega))

/-- ParseAck -/
theorem c14 (A : Option Addr) (n c : Nat) (bs : List Int) (h : H) (k : Value → H → Prop) (hr : RowH h A n (bs.map bf).toArray) (hc : n ≤ c) (hn : n ≤ 4096) (hb : ∀ x ∈ bs, isB x)
    (hno : aOk bs = false → ∀ h', Ext h h' → k (.tuple #[.agg (ack 0 0 0), .int .i64 290]) h')
    (hk : aOk bs = true → ∀ h', Ext h h' → k (.tuple #[.agg (ack (num bs 1 4) (num bs 5 4) (num bs 9 8)), .int .i64 0]) h') : callK Try.prog 14 #[.slice A n c] h k := by
  refine call14 _ _ _ _ _ ?_
  unfold d14
  have hl : bs.length = n := by simpa using hr.1
  refine alloc_new fun p2 h1 y2 b2 e1 => ?_
  have main : ∀ (l0 l1 l2 : Int) (ok : Bool) g, Ext h1 g → ok = okN bs 2 → (ok = true → l0 = num bs 1 4 ∧ l1 = num bs 5 4 ∧ l2 = num bs 9 8) →
      allocK (List.toArray [.int .u64 0, .int .u64 0, .int .u64 0]) 79 g (fun p4 h => storeK 3 p4 (l3 l0 l1 l2) h (fun h => joinK [.bool] (fun (J : Bool → H → Prop) => ifB (!ok) (J true h) (J ((n : Int) != 17) h)) (fun (b18 : Bool) (h : H) => ifB b18 (storeK 3 (some ⟨p2, 0, none⟩) (List.toArray [.int .u32 0, .int .u32 0, .int .u64 0]) h (fun h => loadN 3 (some ⟨p2, 0, none⟩) h (fun c2 => k (.tuple #[(.agg c2), (.int .i64 290)]) h))) (indexK 1 p4 3 0 (fun p20 => load1 p20 h (fun v21 => asI .u64 v21 (fun x21 => indexK 1 p4 3 1 (fun p23 => load1 p23 h (fun v24 => asI .u64 v24 (fun x24 => indexK 1 p4 3 2 (fun p26 => load1 p26 h (fun v27 => asI .u64 v27 (fun x27 => fillK (placeL [(0, 1), (1, 2)]) (List.toArray [.int .u32 0, .int .u32 0, .int .u64 0]) [(0, (.int .u32 (IntKind.wrap .u32 x21))), (1, (.agg (List.toArray [(.int .u32 (IntKind.wrap .u32 x24)), (.int .u64 x27)])))] (fun c29 => storeK 3 (some ⟨p2, 0, none⟩) c29 h (fun h => loadN 3 (some ⟨p2, 0, none⟩) h (fun c2 => k (.tuple #[(.agg c2), (.int .i64 0)]) h)))))))))))))))) := by
    intro l0 l1 l2 ok g eg hok hvals
    refine alloc_new fun p4 g1 y4 b4 x1 => ?_
    refine store_blk b4 rfl (by simp [l3]) (l3_one _ _ _) fun g2 b4 m2 => ?_
    have x2 : Ext g g2 := x1.then m2 (fun i hi => by omega)
    have b4 : Blk g2 p4 (l3 l0 l1 l2) 79 := b4
    have z2 : Ext h1 g2 := eg.trans x2
    have b2 := b2.ext z2
    have haok : aOk bs = (okN bs 2 && decide (n = 17)) := by
      unfold aOk okN
      rw [hl]
      by_cases h17 : n = 17
      · simp [h17]
      · simp [h17]
    refine ⟨fun b g' => b = !aOk bs ∧ g' = g2, ?_, ?_⟩
    · refine ifB_of (fun e => ⟨?_, rfl⟩) (fun e => ⟨?_, rfl⟩)
      · have : okN bs 2 = false := by rw [← hok]; simpa using e
        rw [haok, this]; rfl
      · have : okN bs 2 = true := by rw [← hok]; simpa using e
        rw [haok, this, bne_dec]
        simp only [Bool.true_and]
        by_cases h17 : n = 17
        · simp [h17]
        · have : ¬ (n : Int) = 17 := by omega
          simp [h17, this]
    rintro b g3 ⟨hbk, rfl⟩
    refine ifB_of (fun e => ?_) (fun e => ?_)
    · refine store_blk b2 rfl (by simp) (by simp [OneCells, Value.oneCell']) fun g' bg' m => ?_
      refine bg'.at_.loadN (by simp [over]) ?_
      simp only [over]
      exact hno (by rw [hbk] at e; simpa using e) g' ((e1.trans z2).then m (fun i hi => by omega))
    have hao : aOk bs = true := by rw [hbk] at e; simpa using e
    have h17 : n = 17 := by rw [haok] at hao; simp at hao; exact hao.2
    obtain ⟨rfl, rfl, rfl⟩ := hvals (by rw [hok]; rw [haok] at hao; simp at hao; exact hao.1)
    rw [indexK_some]
    refine ⟨by omega, by omega, b4.at_.load1 0 rfl rfl (asI_of ?_)⟩
    rw [indexK_some]
    refine ⟨by omega, by omega, b4.at_.load1 1 rfl rfl (asI_of ?_)⟩
    rw [indexK_some]
    refine ⟨by omega, by omega, b4.at_.load1 2 rfl rfl (asI_of ?_)⟩
    rw [(wrap32 hb (a := 1) (by omega) (by omega)).1, (wrap32 hb (a := 5) (by omega) (by omega)).1]
    refine ack_fill _ _ _ ?_
    refine store_blk b2 rfl (by simp) (by simp [OneCells, ack, Value.oneCell']) fun g' b' m => ?_
    have b' : Blk g' p2 (ack (num bs 1 4) (num bs 5 4) (num bs 9 8)) 36 := b'
    refine b'.at_.loadN rfl ?_
    exact hk hao g' ((e1.trans z2).then m (fun i hi => by omega))
  refine c34 A n c bs 2 4 4 8 h1 _ (hr.ext e1) hn hb (by omega) (by omega) (by omega) (by omega) (fun hf a b c g eg => asT2_of (asA_of rfl (asB_of ?_))) (fun hf g eg => asT2_of (asA_of rfl (asB_of ?_)))
  · exact main a b c false g eg hf.symm (fun e => by cases e)
  · exact main _ _ _ true g eg hf.symm (fun _ => ⟨rfl, rfl, rfl⟩)

/-- the reference's Verdict -/
theorem c21 (E N P E2 M : Int) (s : Value) (h : H) (k : Value → H → Prop) (hk : ∀ h', Ext h h' → k (.int .i64 (verdict E N P E2 M)) h') : callK Try.prog 21 #[.agg (ent E N P s), .agg #[.int .u32 E2, .int .u64 M]] h k := by
  refine call21 _ _ _ _ ?_
  unfold d21
  refine alloc_new fun p2 g1 _ b1 e1 => alloc_new fun p3 g2 _ b2 e2 => ?_
  have a1 := (b1.ext e2).at_
  have a2 := b2.at_
  have hk := hk g2 (e1.trans e2)
  unfold verdict vold veq vnew at hk
  refine addrK_of rfl (a1.load1 0 rfl rfl (asI_of (addrK_of rfl (a2.load1 0 rfl rfl (asI_of ?_)))))
  refine ifB_dec (fun h1 => ?_) (fun h1 => ?_)
  · rw [if_pos (by simp [h1])] at hk; exact hk
  refine addrK_of rfl (a1.load1 0 rfl rfl (asI_of (addrK_of rfl (a2.load1 0 rfl rfl (asI_of ?_)))))
  refine ifB_eq (fun h2 => ?_) (fun h2 => ?_)
  · refine addrK_of rfl (a1.load1 1 rfl rfl (asI_of (addrK_of rfl (a2.load1 1 rfl rfl (asI_of ?_)))))
    refine ifB_dec (fun h3 => ?_) (fun h3 => ?_)
    · rw [if_pos (by simp [h2, h3])] at hk; exact hk
    refine addrK_of rfl (a1.load1 1 rfl rfl (asI_of (addrK_of rfl (a2.load1 1 rfl rfl (asI_of ?_)))))
    rw [if_neg (by simp; omega)] at hk
    refine ifB_eq (fun h4 => ?_) (fun h4 => ?_)
    · rw [if_pos (by simp [h2, h4])] at hk; exact hk
    · rw [if_neg (by simp [h4]), if_neg (by simp; omega)] at hk; exact hk
  · rw [if_neg (by simp; omega), if_neg (by simp [h2])] at hk
    have hgt : E2 < E := by omega
    refine ⟨fun b g => g = g2 ∧ b = (decide (P < E2) || (decide (P = E2) && decide (N ≤ M))), ?_, ?_⟩
    · refine addrK_of rfl (a1.load1 2 rfl rfl (asI_of (addrK_of rfl (a2.load1 0 rfl rfl (asI_of ?_)))))
      refine ifB_dec (fun h5 => ⟨rfl, by simp [h5]⟩) (fun h5 => ?_)
      refine addrK_of rfl (a1.load1 2 rfl rfl (asI_of (addrK_of rfl (a2.load1 0 rfl rfl (asI_of ?_)))))
      refine ifB_eq (fun h6 => ?_) (fun h6 => ⟨rfl, by simp [h5, h6]⟩)
      refine addrK_of rfl (a1.load1 1 rfl rfl (asI_of (addrK_of rfl (a2.load1 1 rfl rfl (asI_of ⟨rfl, ?_⟩)))))
      simp [h6]
    · rintro b g ⟨rfl, hb⟩
      rw [← hb, decide_eq_true hgt, Bool.true_and] at hk
      exact ifB_of (fun e => by rw [if_pos e] at hk; exact hk) (fun e => by rw [if_neg (by rw [e]; decide)] at hk; exact hk)
end Go.Proofs.Ytoifdnmbhdjhhaa
