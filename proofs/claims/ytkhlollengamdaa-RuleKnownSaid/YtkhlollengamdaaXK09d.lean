/- What is proved: contracts of functions that the law calls, and of the law itself, over any heap. Conditions stand in each theorem. -/
import Derived.Test.YtkhlollengamdaaXK09c
set_option linter.unusedSimpArgs false
set_option linter.unusedVariables false
namespace Go.Proofs.Ytkhlollengamdaa
open Go.Oct Go.Oct.L09
/-! ### parts of rules and keys -/
theorem At.rhd {h : H} {b o : Nat} {r : Ru} (x : At h b o r.cells) : At h b o [.int .i64 r.ver, .int .i64 r.pro] := x.mid (pre := []) rfl rfl
theorem At.rsrc {h : H} {b o : Nat} {r : Ru} (x : At h b o r.cells) {q : Nat} (hq : q = o + 2) : At h b q r.src.cells := x.mid (pre := [.int .i64 r.ver, .int .i64 r.pro]) (post := r.dst.cells ++ r.tl) rfl hq
theorem At.rdst {h : H} {b o : Nat} {r : Ru} (ok : r.ok) (x : At h b o r.cells) {q : Nat} (hq : q = o + 20) : At h b q r.dst.cells := x.mid (pre := [.int .i64 r.ver, .int .i64 r.pro] ++ r.src.cells) (post := r.tl) (by simp [Ru.cells]) (by rw [List.length_append, Pf.len18 ok.src]; exact hq)
theorem At.rtl {h : H} {b o : Nat} {r : Ru} (ok : r.ok) (x : At h b o r.cells) {q : Nat} (hq : q = o + 38) : At h b q r.tl := x.mid (pre := [.int .i64 r.ver, .int .i64 r.pro] ++ (r.src.cells ++ r.dst.cells)) (post := []) (by simp [Ru.cells]) (by rw [List.length_append, List.length_append, Pf.len18 ok.src, Pf.len18 ok.dst]; exact hq)
theorem At.ksrc {h : H} {b o : Nat} {r : Ky} (x : At h b o r.cells) {q : Nat} (hq : q = o) : At h b q r.src.cells := x.mid (pre := []) rfl hq
theorem At.kdst {h : H} {b o : Nat} {r : Ky} (ok : r.ok) (x : At h b o r.cells) {q : Nat} (hq : q = o + 17) : At h b q r.dst.cells := x.mid (pre := r.src.cells) rfl (by rw [Ad.len17 ok.src]; exact hq)
theorem At.ktl {h : H} {b o : Nat} {r : Ky} (ok : r.ok) (x : At h b o r.cells) {q : Nat} (hq : q = o + 34) : At h b q [.int .u8 r.pro, .int .u16 r.sp, .int .u16 r.dp] := x.mid (pre := r.src.cells ++ r.dst.cells) (post := []) (by simp [Ky.cells]) (by rw [List.length_append, Ad.len17 ok.src, Ad.len17 ok.dst]; exact hq)
section
variable {h : H} {k : Value → H → Prop}
/-- every -/
theorem c27 (hk : ∀ h', Go.Oct.Ext h h' → k (.agg (List.toArray [.int .u16 0, .int .u16 65535])) h') : callK Try.prog 27 #[] h k := by
  refine call27 _ _ ?_
  unfold d27
  refine newVr rfl rfl (by simp [OneCells, Value.oneCell']) fun p g y b x => ?_
  exact b.at_.loadN rfl (hk g x)
/-- has -/
theorem c73 (lo hi n : Int) (hk : ∀ h', Go.Oct.Ext h h' → k (.bool (decide (lo ≤ n) && decide (n ≤ hi))) h') : callK Try.prog 73 #[.agg (List.toArray [.int .u16 lo, .int .u16 hi]), .int .u16 n] h k := by
  refine call73 _ _ _ _ ?_
  unfold d73
  refine alloc_new fun p2 g y b x => ?_
  have a : At g p2 0 [.int .u16 lo, .int .u16 hi] := b.at_
  refine addrK_of rfl (a.load1 0 rfl rfl (asI_of ?_))
  refine ifB_dec (fun h1 => ?_) (fun h1 => ?_)
  · rw [decide_eq_true h1, Bool.true_and] at hk
    exact addrK_of rfl (a.load1 1 rfl rfl (asI_of (hk g x)))
  · rw [decide_eq_false h1, Bool.false_and] at hk
    exact hk g x
/-- ported -/
theorem c58 (lo hi : Int) {y : Ky} (o : y.ok) (n : Int) (hk : ∀ h', Go.Oct.Ext h h' → k (.bool (ported lo hi y n)) h') : callK Try.prog 58 #[.agg (List.toArray [.int .u16 lo, .int .u16 hi]), .agg y.cells.toArray, .int .u16 n] h k := by
  refine call58 _ _ _ _ _ ?_
  unfold d58
  refine alloc_new fun p3 g1 y3 b3 x1 => alloc_new fun p4 g2 y4 b4 x2 => draw_ext ?_
  have k3 := b3.ext x2
  have x12 := x1.trans x2
  have a3 : At g2 p3 0 [.int .u16 lo, .int .u16 hi] := k3.at_
  have a4 := At.ktl o b4.at_ rfl
  refine a3.loadSN rfl ?_
  refine c27 fun g3 x3 => asA_of rfl ⟨x3, ?_⟩
  refine eq41 _ _ _ _ ?_
  unfold ported at hk
  refine ifB_of (fun h1 => ?_) (fun h1 => ?_)
  · rw [h1, Bool.true_or] at hk
    exact hk g3 (x12.trans x3)
  rw [h1, Bool.false_or] at hk
  refine addrK_of rfl (a4.loadS1 0 rfl rfl (asI_of ?_))
  refine ifB_eq (fun h2 => ?_) (fun h2 => ?_)
  · rw [decide_eq_true h2, Bool.true_or, Bool.true_and] at hk
    exact a3.loadSN rfl (c73 _ _ _ fun g4 x4 => asB_of (hk g4 (x12.trans (x3.trans x4))))
  rw [decide_eq_false h2, Bool.false_or] at hk
  refine addrK_of rfl (a4.loadS1 0 rfl rfl (asI_of ?_))
  refine ifB_eq (fun h3 => ?_) (fun h3 => ?_)
  · rw [decide_eq_true h3, Bool.true_and] at hk
    exact a3.loadSN rfl (c73 _ _ _ fun g4 x4 => asB_of (hk g4 (x12.trans (x3.trans x4))))
  · rw [decide_eq_false h3, Bool.false_and] at hk
    exact hk g3 (x12.trans x3)
/-- of -/
theorem c46 {a : Ad} (o : a.ok) (hk : ∀ h', Go.Oct.Ext h h' → k (.int .i64 (kver a)) h') : callK Try.prog 46 #[.agg a.cells.toArray] h k := by
  refine call46 _ _ _ ?_
  unfold d46
  refine alloc_new fun p1 g1 y1 b1 x1 => b1.at_.loadN (Ad.len17 o) ?_
  refine ⟨(Pf.cells ⟨a, 0⟩).toArray, ?_, ?_⟩
  · have hl := Ad.len17 o
    rw [fill_cons (off := 0) (size := 17) rfl (by simp [Value.cells, hl]) (by simp), fill_nil]
    congr 1
    apply Array.ext'
    rw [over_list _ _ _ (by simp [Value.cells, hl])]
    simp [Value.cells, hl, Pf.cells]
  · refine c45 (p := ⟨a, 0⟩) fun g2 x2 => asI_of ?_
    exact hk g2 (x1.trans x2)
/-- a rule's ports -/
theorem At.rsp {h : H} {b o : Nat} {r : Ru} (ok : r.ok) (x : At h b o r.cells) {q : Nat} (hq : q = o + 38) : At h b q [.int .u16 r.slo, .int .u16 r.shi] := (At.rtl ok x hq).mid (pre := []) (mid := [.int .u16 r.slo, .int .u16 r.shi]) (post := [.int .u16 r.dlo, .int .u16 r.dhi, .bool r.deny, .int .i64 r.cls]) rfl rfl
theorem At.rdp {h : H} {b o : Nat} {r : Ru} (ok : r.ok) (x : At h b o r.cells) {q : Nat} (hq : q = o + 40) : At h b q [.int .u16 r.dlo, .int .u16 r.dhi] := (At.rtl ok x rfl).mid (pre := [.int .u16 r.slo, .int .u16 r.shi]) (mid := [.int .u16 r.dlo, .int .u16 r.dhi]) (post := [.bool r.deny, .int .i64 r.cls]) rfl hq
theorem c47 {r : Ru} (or : r.ok) {y : Ky} (oy : y.ok) {p : Nat} (hp : Blk h p (List.toArray [.func (.func 46) #[] #[]]) 95) (hk : ∀ h', Go.Oct.Ext h h' → k (.bool (f0 r y)) h') : callK Try.prog 47 #[.agg r.cells.toArray, .agg y.cells.toArray, .pointer (some ⟨p, 0, none⟩)] h k := by
  refine call47 _ _ _ _ _ ?_
  unfold d47
  refine alloc_new fun p3 g1 y3 b3 x1 => alloc_new fun p4 g2 y4 b4 x2 => draw_ext ?_
  have k3 := b3.ext x2
  have x12 := x1.trans x2
  have a3 := At.rhd k3.at_
  unfold f0 at hk
  refine addrK_of rfl (a3.loadS1 0 rfl rfl (asI_of ?_))
  refine ifB_eq (fun h1 => ?_) (fun h1 => ?_)
  · rw [decide_eq_true h1, Bool.true_or] at hk
    exact hk g2 x12
  rw [decide_eq_false h1, Bool.false_or] at hk
  refine addrK_of rfl (a3.loadS1 0 rfl rfl (asI_of ?_))
  have ap : At g2 p 0 [.func (.func 46) #[] #[]] := (hp.ext x12).at_
  refine ap.loadS1 0 rfl rfl ⟨_, _, _, rfl, ?_⟩
  refine addrK_of rfl ((At.ksrc b4.at_ rfl).loadSN (Ad.len17 oy.src) ?_)
  refine (show callK Try.prog 46 #[.agg y.src.cells.toArray] g2 _ from c46 oy.src fun g3 x3 => asI_of ⟨x3, ?_⟩)
  rw [beq_dec]
  exact hk g3 (x12.trans x3)
theorem c48 {r s : Ru} (hk : ∀ h', Go.Oct.Ext h h' → k (.bool (h0 r s)) h') : callK Try.prog 48 #[.agg r.cells.toArray, .agg s.cells.toArray] h k := by
  refine call48 _ _ _ _ ?_
  unfold d48
  refine alloc_new fun p2 g1 y2 b2 x1 => alloc_new fun p3 g2 y3 b3 x2 => ?_
  have x12 := x1.trans x2
  have a2 := At.rhd (b2.ext x2).at_
  have a3 := At.rhd b3.at_
  unfold h0 at hk
  refine addrK_of rfl (a2.load1 0 rfl rfl (asI_of ?_))
  refine ifB_eq (fun h1 => ?_) (fun h1 => ?_)
  · rw [decide_eq_true h1, Bool.true_or] at hk
    exact hk g2 x12
  rw [decide_eq_false h1, Bool.false_or] at hk
  refine addrK_of rfl (a2.load1 0 rfl rfl (asI_of ?_))
  refine addrK_of rfl (a3.load1 0 rfl rfl (asI_of ?_))
  rw [beq_dec]
  exact hk g2 x12
theorem c49 {r : Ru} {y : Ky} (oy : y.ok) (hk : ∀ h', Go.Oct.Ext h h' → k (.bool (f1 r y)) h') : callK Try.prog 49 #[.agg r.cells.toArray, .agg y.cells.toArray] h k := by
  refine call49 _ _ _ _ ?_
  unfold d49
  refine alloc_new fun p2 g1 y2 b2 x1 => alloc_new fun p3 g2 y3 b3 x2 => ?_
  have x12 := x1.trans x2
  have a2 := At.rhd (b2.ext x2).at_
  have a3 := At.ktl oy b3.at_ rfl
  unfold f1 at hk
  refine addrK_of rfl (a2.load1 1 rfl rfl (asI_of ?_))
  refine ifB_dec (fun h1 => ?_) (fun h1 => ?_)
  · rw [decide_eq_true h1, Bool.true_or] at hk
    exact hk g2 x12
  rw [decide_eq_false h1, Bool.false_or] at hk
  refine addrK_of rfl (a2.load1 1 rfl rfl (asI_of ?_))
  refine addrK_of rfl (a3.load1 0 rfl rfl (asI_of ?_))
  have := oy.pro
  unfold isB at this
  rw [beq_dec, wrap64_id (by omega) (by omega)]
  exact hk g2 x12
theorem c50 {r s : Ru} (hk : ∀ h', Go.Oct.Ext h h' → k (.bool (L09.h1 r s)) h') : callK Try.prog 50 #[.agg r.cells.toArray, .agg s.cells.toArray] h k := by
  refine call50 _ _ _ _ ?_
  unfold d50
  refine alloc_new fun p2 g1 y2 b2 x1 => alloc_new fun p3 g2 y3 b3 x2 => ?_
  have x12 := x1.trans x2
  have a2 := At.rhd (b2.ext x2).at_
  have a3 := At.rhd b3.at_
  unfold L09.h1 at hk
  refine addrK_of rfl (a2.load1 1 rfl rfl (asI_of ?_))
  refine ifB_dec (fun h1 => ?_) (fun h1 => ?_)
  · rw [decide_eq_true h1, Bool.true_or] at hk
    exact hk g2 x12
  rw [decide_eq_false h1, Bool.false_or] at hk
  refine addrK_of rfl (a2.load1 1 rfl rfl (asI_of ?_))
  refine addrK_of rfl (a3.load1 1 rfl rfl (asI_of ?_))
  rw [beq_dec]
  exact hk g2 x12
theorem c51 {r : Ru} (or : r.ok) {y : Ky} (oy : y.ok) (hk : ∀ h', Go.Oct.Ext h h' → k (.bool (f2 r y)) h') : callK Try.prog 51 #[.agg r.cells.toArray, .agg y.cells.toArray] h k := by
  refine call51 _ _ _ _ ?_
  unfold d51
  refine alloc_new fun p2 g1 y2 b2 x1 => alloc_new fun p3 g2 y3 b3 x2 => ?_
  have x12 := x1.trans x2
  have k2 := b2.ext x2
  unfold f2 at hk
  refine addrK_of rfl ((At.rsrc k2.at_ rfl).loadN (Pf.len18 or.src) ?_)
  refine c44 or.src fun g3 x3 => asB_of ?_
  refine ifB_of (fun h1 => ?_) (fun h1 => ?_)
  · rw [h1, Bool.true_or] at hk
    exact hk g3 (x12.trans x3)
  rw [h1, Bool.false_or] at hk
  refine addrK_of rfl ((At.rsrc (k2.ext x3).at_ rfl).loadN (Pf.len18 or.src) ?_)
  refine addrK_of rfl ((At.ksrc (b3.ext x3).at_ rfl).loadN (Ad.len17 oy.src) ?_)
  exact c52 or.src oy.src fun g4 x4 => asB_of (hk g4 (x12.trans (x3.trans x4)))
theorem c53 {r s : Ru} (or : r.ok) (os : s.ok) (hk : ∀ h', Go.Oct.Ext h h' → k (.bool (h2 r s)) h') : callK Try.prog 53 #[.agg r.cells.toArray, .agg s.cells.toArray] h k := by
  refine call53 _ _ _ _ ?_
  unfold d53
  refine alloc_new fun p2 g1 y2 b2 x1 => alloc_new fun p3 g2 y3 b3 x2 => ?_
  have x12 := x1.trans x2
  refine addrK_of rfl ((At.rsrc (b2.ext x2).at_ rfl).loadN (Pf.len18 or.src) ?_)
  refine addrK_of rfl ((At.rsrc b3.at_ rfl).loadN (Pf.len18 os.src) ?_)
  exact c54 or.src os.src fun g4 x4 => asB_of (hk g4 (x12.trans x4))
theorem c55 {r : Ru} (or : r.ok) {y : Ky} (oy : y.ok) (hk : ∀ h', Go.Oct.Ext h h' → k (.bool (f3 r y)) h') : callK Try.prog 55 #[.agg r.cells.toArray, .agg y.cells.toArray] h k := by
  refine call55 _ _ _ _ ?_
  unfold d55
  refine alloc_new fun p2 g1 y2 b2 x1 => alloc_new fun p3 g2 y3 b3 x2 => ?_
  have x12 := x1.trans x2
  have k2 := b2.ext x2
  unfold f3 at hk
  refine addrK_of rfl ((At.rdst or k2.at_ rfl).loadN (Pf.len18 or.dst) ?_)
  refine c44 or.dst fun g3 x3 => asB_of ?_
  refine ifB_of (fun h1 => ?_) (fun h1 => ?_)
  · rw [h1, Bool.true_or] at hk
    exact hk g3 (x12.trans x3)
  rw [h1, Bool.false_or] at hk
  refine addrK_of rfl ((At.rdst or (k2.ext x3).at_ rfl).loadN (Pf.len18 or.dst) ?_)
  refine addrK_of rfl ((At.kdst oy (b3.ext x3).at_ rfl).loadN (Ad.len17 oy.dst) ?_)
  exact c52 or.dst oy.dst fun g4 x4 => asB_of (hk g4 (x12.trans (x3.trans x4)))
theorem c56 {r s : Ru} (or : r.ok) (os : s.ok) (hk : ∀ h', Go.Oct.Ext h h' → k (.bool (h3 r s)) h') : callK Try.prog 56 #[.agg r.cells.toArray, .agg s.cells.toArray] h k := by
  refine call56 _ _ _ _ ?_
  unfold d56
  refine alloc_new fun p2 g1 y2 b2 x1 => alloc_new fun p3 g2 y3 b3 x2 => ?_
  have x12 := x1.trans x2
  refine addrK_of rfl ((At.rdst or (b2.ext x2).at_ rfl).loadN (Pf.len18 or.dst) ?_)
  refine addrK_of rfl ((At.rdst os b3.at_ rfl).loadN (Pf.len18 os.dst) ?_)
  exact c54 or.dst os.dst fun g4 x4 => asB_of (hk g4 (x12.trans x4))
theorem c57 {r : Ru} (or : r.ok) {y : Ky} (oy : y.ok) (hk : ∀ h', Go.Oct.Ext h h' → k (.bool (f4 r y)) h') : callK Try.prog 57 #[.agg r.cells.toArray, .agg y.cells.toArray] h k := by
  refine call57 _ _ _ _ ?_
  unfold d57
  refine alloc_new fun p2 g1 y2 b2 x1 => alloc_new fun p3 g2 y3 b3 x2 => ?_
  have x12 := x1.trans x2
  refine addrK_of rfl ((At.rsp or (b2.ext x2).at_ rfl).loadN rfl ?_)
  refine b3.at_.loadN (Ky.len37 oy) ?_
  refine addrK_of rfl ((At.ktl oy b3.at_ rfl).load1 1 rfl rfl (asI_of ?_))
  exact c58 _ _ oy _ fun g4 x4 => asB_of (hk g4 (x12.trans x4))
theorem c60 {r : Ru} (or : r.ok) {y : Ky} (oy : y.ok) (hk : ∀ h', Go.Oct.Ext h h' → k (.bool (f5 r y)) h') : callK Try.prog 60 #[.agg r.cells.toArray, .agg y.cells.toArray] h k := by
  refine call60 _ _ _ _ ?_
  unfold d60
  refine alloc_new fun p2 g1 y2 b2 x1 => alloc_new fun p3 g2 y3 b3 x2 => ?_
  have x12 := x1.trans x2
  refine addrK_of rfl ((At.rdp or (b2.ext x2).at_ rfl).loadN rfl ?_)
  refine b3.at_.loadN (Ky.len37 oy) ?_
  refine addrK_of rfl ((At.ktl oy b3.at_ rfl).load1 2 rfl rfl (asI_of ?_))
  exact c58 _ _ oy _ fun g4 x4 => asB_of (hk g4 (x12.trans x4))
theorem c59 {r s : Ru} (or : r.ok) (os : s.ok) (hk : ∀ h', Go.Oct.Ext h h' → k (.bool (h4 r s)) h') : callK Try.prog 59 #[.agg r.cells.toArray, .agg s.cells.toArray] h k := by
  refine call59 _ _ _ _ ?_
  unfold d59
  refine alloc_new fun p2 g1 y2 b2 x1 => alloc_new fun p3 g2 y3 b3 x2 => ?_
  have x12 := x1.trans x2
  have a2 := At.rsp or (b2.ext x2).at_ rfl
  have a3 := At.rsp os b3.at_ rfl
  unfold h4 at hk
  refine addrK_of rfl (addrK_of rfl (a2.load1 0 rfl rfl (asI_of ?_)))
  refine addrK_of rfl (addrK_of rfl (a3.load1 0 rfl rfl (asI_of ?_)))
  refine ifB_dec (fun h1 => ?_) (fun h1 => ?_)
  · rw [decide_eq_true h1, Bool.true_and] at hk
    refine addrK_of rfl (addrK_of rfl (a3.load1 1 rfl rfl (asI_of ?_)))
    exact addrK_of rfl (addrK_of rfl (a2.load1 1 rfl rfl (asI_of (hk g2 x12))))
  · rw [decide_eq_false h1, Bool.false_and] at hk
    exact hk g2 x12
theorem c61 {r s : Ru} (or : r.ok) (os : s.ok) (hk : ∀ h', Go.Oct.Ext h h' → k (.bool (h5 r s)) h') : callK Try.prog 61 #[.agg r.cells.toArray, .agg s.cells.toArray] h k := by
  refine call61 _ _ _ _ ?_
  unfold d61
  refine alloc_new fun p2 g1 y2 b2 x1 => alloc_new fun p3 g2 y3 b3 x2 => ?_
  have x12 := x1.trans x2
  have a2 := At.rdp or (b2.ext x2).at_ rfl
  have a3 := At.rdp os b3.at_ rfl
  unfold h5 at hk
  refine addrK_of rfl (addrK_of rfl (a2.load1 0 rfl rfl (asI_of ?_)))
  refine addrK_of rfl (addrK_of rfl (a3.load1 0 rfl rfl (asI_of ?_)))
  refine ifB_dec (fun h1 => ?_) (fun h1 => ?_)
  · rw [decide_eq_true h1, Bool.true_and] at hk
    refine addrK_of rfl (addrK_of rfl (a3.load1 1 rfl rfl (asI_of ?_)))
    exact addrK_of rfl (addrK_of rfl (a2.load1 1 rfl rfl (asI_of (hk g2 x12))))
  · rw [decide_eq_false h1, Bool.false_and] at hk
    exact hk g2 x12
end
end Go.Proofs.Ytkhlollengamdaa
