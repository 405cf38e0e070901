/- What is proved: contracts of functions that the law calls, and of the law itself, over any heap. Conditions stand in each theorem. -/
import Derived.Test.YthfjpnabalkjkaaXK06i
set_option linter.unusedSimpArgs false
set_option linter.unusedVariables false
namespace Go.Proofs.Ythfjpnabalkjkaa
open Go.Oct Go.Oct.L01 Go.Oct.L06 Go.RowKit Go.Proofs.YthfjpnabalkjkaaW.PrintWords
/-- the reference's header -/
def rcells (h : Hd) : List Value := [.int .u8 h.cls, .int .u32 h.flow, .int .u16 h.len, .int .u8 h.nx, .int .u8 h.hops, sv h.src, sv h.dst]
theorem rcells_one (h : Hd) : OneCells (rcells h) := by simp [OneCells, rcells, sv, Value.oneCell']
/-- none of the reference's -/
def zR : Hd := ⟨0, 0, 0, 0, 0, [], []⟩
/-- what is put, what is parsed, and the errors -/
def putS (h : Hd) : List Int := if h.flow < 1048576 then putH h else []
def putE (h : Hd) : Int := if h.flow < 1048576 then 0 else 51
def prE (b : List Int) : Int := match parseH b with
  | .inl _ => 0
  | .inr e => e
def prH (b : List Int) : Hd := match parseH b with
  | .inl h => h
  | .inr _ => zH
def prR (b : List Int) : Hd := match parseH b with
  | .inl h => h
  | .inr _ => zR
theorem zH_ok : zH.ok := by
  refine ⟨by decide, by decide, by decide, by decide, by decide, rfl, rfl, bz 16, bz 16⟩
theorem prH_ok {b : List Int} (hb : ∀ x ∈ b, isB x) : (prH b).ok := by
  unfold prH
  cases h : parseH b with
  | inl hh => exact (parseH_ok hb h).1
  | inr e => exact zH_ok
section
variable {h : H} {k : Value → H → Prop}
theorem c14p (hh : Hd) (o : hh.ok) (hk : ∀ A c h', Go.Oct.Ext h h' → Byt h' h.size A (putS hh).length c (putS hh) → k (.tuple #[.slice A (putS hh).length c, .int .i64 (putE hh)]) h') : callK Try.prog 14 #[.agg (hcells hh).toArray] h k := by
  unfold putS putE at hk
  refine c14 hh o h k (fun hf h' x => ?_) (fun hf A c h' x l => ?_)
  · have hn : ¬ hh.flow < 1048576 := by omega
    simp only [if_neg hn] at hk
    exact hk none 0 h' x Lst.nil
  · simp only [if_pos hf] at hk
    rw [putH_len o] at hk
    exact hk A c h' x l
theorem c30p {B : Option Addr} {m d : Nat} {b : List Int} (hr : RowH h B m (b.map bf).toArray) (hmd : m ≤ d) (hm : m ≤ 1000000) (hb : ∀ x ∈ b, isB x)
    (hk : ∀ h', Go.Oct.Ext h h' → k (.tuple #[.agg (hcells (prH b)).toArray, .int .i64 (prE b)]) h') : callK Try.prog 30 #[.slice B m d] h k := by
  unfold prH prE at hk
  refine c30 hr hmd hm hb (fun e he h' x => ?_) (fun hh he h' x => ?_)
  · simp only [he] at hk; exact hk h' x
  · simp only [he] at hk; exact hk h' x
/-- Ipsix -/
theorem c26 (hh : Hd) (o : hh.ok) (hk : ∀ h', Go.Oct.Ext h h' → k (.agg (rcells hh).toArray) h') : callK Try.prog 26 #[.agg (hcells hh).toArray] h k := by
  refine call26 _ _ _ ?_
  unfold d26
  refine alloc_new fun p1 g1 y1 b1 x1 => alloc_new fun p2 g2 y2 b2 x2 => draw_ext ?_
  have x12 := x1.trans x2
  have k1 := b1.ext x2
  have a1 : At g2 p1 0 (hcells hh) := k1.at_
  have rs : RowH g2 (some ⟨p1, 5, none⟩) 16 (hh.src.map bf).toArray := by
    have := k1.row 5 16 (by rw [List.size_toArray, hcells_len o]; decide)
    rwa [hd_src o] at this
  have rd : RowH g2 (some ⟨p1, 21, none⟩) 16 (hh.dst.map bf).toArray := by
    have := k1.row 21 16 (by rw [List.size_toArray, hcells_len o]; decide)
    rwa [hd_dst o] at this
  refine addrK_of rfl (a1.loadS1 0 rfl rfl (asI_of ?_))
  refine addrK_of rfl (a1.loadS1 1 rfl rfl (asI_of ?_))
  refine addrK_of rfl (a1.loadS1 2 rfl rfl (asI_of ?_))
  refine addrK_of rfl (a1.loadS1 3 rfl rfl (asI_of ?_))
  refine addrK_of rfl (a1.loadS1 4 rfl rfl (asI_of ?_))
  refine addrK_of rfl ⟨_, rfl, by simp, by simp, by simp, ?_⟩
  refine addrK_of rfl ⟨_, rfl, by simp, by simp, by simp, ?_⟩
  simp only [Option.getD_none]
  have fin : storeK 7 (some ⟨p2, 0, none⟩) (rcells hh).toArray g2 (fun h => loadN 7 (some ⟨p2, 0, none⟩) h (fun c2 => k (.agg c2) h)) := by
    refine store_all b2 rfl (by rfl) (rcells_one hh) fun g4 b4 m4 => ?_
    exact b4.at_.loadN rfl (hk g4 (x12.then m4 (fun i hi => by have := x1.size; omega)))
  constructor
  · refine strK_of (xs := hh.src) (show RowH _ _ 16 (hh.src.map bf).toArray from by simpa [Addr.add] using rs) ⟨Go.Oct.Ext.refl _, strK_of (xs := hh.dst) (show RowH _ _ 16 (hh.dst.map bf).toArray from by simpa [Addr.add] using rd) ⟨Go.Oct.Ext.refl _, fin⟩⟩
  · refine strK_of (xs := hh.dst) (show RowH _ _ 16 (hh.dst.map bf).toArray from by simpa [Addr.add] using rd) ⟨Go.Oct.Ext.refl _, strK_of (xs := hh.src) (show RowH _ _ 16 (hh.src.map bf).toArray from by simpa [Addr.add] using rs) ⟨Go.Oct.Ext.refl _, fin⟩⟩
/-- NoIpsix -/
theorem c27 (hh : Hd) (hb : ∀ x ∈ hh.src, isB x) (hk : ∀ h', Go.Oct.Ext h h' → k (.agg (rcells (if hh.src = [] then zH else hh)).toArray) h') : callK Try.prog 27 #[.agg (rcells hh).toArray] h k := by
  refine call27 _ _ _ ?_
  unfold d27
  refine alloc_new fun p1 g1 y1 b1 x1 => alloc_new fun p2 g2 y2 b2 x2 => ?_
  have x12 := x1.trans x2
  have a1 : At g2 p1 0 (rcells hh) := (b1.ext x2).at_
  have z1 := x1.size
  refine addrK_of rfl (a1.load1 5 rfl rfl (asStr_of ?_))
  rw [sv_nil, str_beq hb (by simp)]
  refine ifB_dec (fun h1 => ?_) (fun h1 => ?_)
  · simp only [if_pos h1] at hk
    refine (show callK Try.prog 26 #[.agg (hcells zH).toArray] g2 _ from c26 zH zH_ok fun g3 x3 => asA_of rfl ?_)
    refine store_all (b2.ext x3) rfl (by rfl) (rcells_one zH) fun g4 b4 m4 => ?_
    exact b4.at_.loadN rfl (hk g4 ((x12.trans x3).then m4 (fun i hi => by omega)))
  · simp only [if_neg h1] at hk
    refine a1.loadN rfl ?_
    refine store_all b2 rfl (by rfl) (rcells_one hh) fun g4 b4 m4 => ?_
    exact b4.at_.loadN rfl (hk g4 (x12.then m4 (fun i hi => by omega)))
/-- the reference's Put -/
theorem c29 (hh : Hd) (o : hh.ok) (hk : ∀ A c h', Go.Oct.Ext h h' → Byt h' h.size A (putS hh).length c (putS hh) → k (.tuple #[.slice A (putS hh).length c, .int .i64 (putE hh)]) h') : callK Try.prog 29 #[.agg (rcells hh).toArray] h k := by
  refine call29 _ _ _ ?_
  unfold d29
  unfold putS putE at hk
  have hc := o.cls
  have hfl := o.flow
  have hln := o.len
  refine alloc_new fun p1 g1 y1 b1 x1 => ?_
  have a1 : At g1 p1 0 (rcells hh) := b1.at_
  refine addrK_of rfl (a1.load1 1 rfl rfl (asI_of ?_))
  refine ifB_dec (fun hf => ?_) (fun hf => ?_)
  · have hn : ¬ hh.flow < 1048576 := by omega
    simp only [if_neg hn] at hk
    exact hk none 0 g1 x1 Lst.nil
  have hf : hh.flow < 1048576 := by omega
  simp only [if_pos hf] at hk
  rw [putH_len o] at hk
  have z1 := x1.size
  refine addrK_of rfl (a1.load1 0 rfl rfl (asI_of ?_))
  refine addrK_of rfl (a1.load1 1 rfl rfl (asI_of ?_))
  have hnum : IntKind.wrap .u64 (IntKind.wrap .u64 (1610612736 + IntKind.wrap .u64 (IntKind.wrap .u64 hh.cls * 1048576)) + IntKind.wrap .u64 hh.flow) = num hh := by
    unfold num
    rw [wrapu64_id (x := hh.cls) (by omega) (by omega), wrapu64_id (x := hh.flow) (by omega) (by omega), wrapu64_id (x := hh.cls * 1048576) (by omega) (by omega), wrapu64_id (x := 1610612736 + hh.cls * 1048576) (by omega) (by omega), wrapu64_id (by omega) (by omega)]
  rw [hnum]
  have hnb : 0 ≤ num hh ∧ num hh < 1879048192 := by unfold num; omega
  refine c53 4 (num hh) g1 _ (by decide) hnb.1 (by omega) ?_
  intro A17 c17 g2 x2 l2
  refine asS_of ?_
  have a2 := a1.ext x2
  refine addrK_of rfl (a2.load1 2 rfl rfl (asI_of ?_))
  rw [wrapu64_id (x := hh.len) (by omega) (by omega)]
  refine c53 2 hh.len g2 _ (by decide) hln.1 (by omega) ?_
  intro A22 c22 g3 x3 l3
  refine asS_of ?_
  have z2 := x2.size
  have z3 := x3.size
  refine src_one (Lst.row (f := bf) l3) ?_
  refine Lst.appends (f := bf) (l2.ext x3) _ l3.1 rfl bf_one (by omega) (by omega) (by omega) fun A23 c23 g4 l4 m4 d4 => ?_
  have e4 : Go.Oct.Ext g1 g4 := (x2.trans x3).then m4 (fun i hi => l2.2.base_le hi)
  have z4 := e4.size
  have a4 := a1.ext e4
  refine addrK_of rfl (a4.load1 3 rfl rfl (asI_of ?_))
  refine addrK_of rfl (a4.load1 4 rfl rfl (asI_of ?_))
  refine alloc_new fun p29 g5 y5 b5 x5 => ?_
  have r5 : RowH g5 (some ⟨p29, 0, none⟩) 2 (([hh.nx, hh.hops] : List Int).map bf).toArray := litB b5 rfl
  refine src_one r5 ?_
  have z5 := x5.size
  refine Lst.appends (f := bf) (l4.ext x5) _ rfl rfl bf_one (by omega) (by omega) (by omega) fun A30 c30 g6 l6 m6 d6 => ?_
  have e6 : Go.Oct.Ext g1 g6 := (e4.trans x5).then m6 (fun i hi => l4.2.base_le hi)
  have z6 := e6.size
  refine addrK_of rfl ((a1.ext e6).load1 5 rfl rfl (asStr_of ?_))
  refine bytesK_of o.bsrc fun A34 c34 g7 x7 r7 _ _ => ?_
  refine src_one (f := bf) r7 ?_
  have z7 := x7.size
  refine Lst.appends (f := bf) (l6.ext x7) _ rfl rfl bf_one (by omega) (by omega) (by have := o.src; omega) fun A35 c35 g8 l8 m8 d8 => ?_
  have e8 : Go.Oct.Ext g1 g8 := (e6.trans x7).then m8 (fun i hi => l6.2.base_le hi)
  have z8 := e8.size
  refine addrK_of rfl ((a1.ext e8).load1 6 rfl rfl (asStr_of ?_))
  refine bytesK_of o.bdst fun A39 c39 g9 x9 r9 _ _ => ?_
  refine src_one (f := bf) r9 ?_
  have z9 := x9.size
  have hs := o.src
  have hd := o.dst
  refine Lst.appends (f := bf) (l8.ext x9) _ rfl rfl bf_one (by omega) (by omega) (by omega) fun A40 c40 g10 l10 m10 d10 => ?_
  have e10 : Go.Oct.Ext g1 g10 := (e8.trans x9).then m10 (fun i hi => l8.2.base_le hi)
  have hlen : 4 + 2 + 2 + hh.src.length + hh.dst.length = 40 := by omega
  rw [hlen] at l10 ⊢
  refine hk A40 c40 g10 (x1.trans e10) (Lst.weaken (base' := h.size) ?_ z1)
  exact l10
/-- the reference's Parse -/
theorem c31 {B : Option Addr} {m d : Nat} {b : List Int} (hr : RowH h B m (b.map bf).toArray) (hmd : m ≤ d) (hm : m ≤ 1000000) (hb : ∀ x ∈ b, isB x)
    (hk : ∀ h', Go.Oct.Ext h h' → k (.tuple #[.agg (rcells (prR b)).toArray, .int .i64 (prE b)]) h') : callK Try.prog 31 #[.slice B m d] h k := by
  refine call31 _ _ _ _ _ ?_
  unfold d31
  have hbl : b.length = m := by simpa using hr.1
  refine alloc_new fun p2 g y2 b2 x2 => ?_
  have r2 := hr.ext x2
  have zerr : ∀ (e : Int), prR b = zR → prE b = e → storeK 7 (some ⟨p2, 0, none⟩) (rcells zR).toArray g (fun h => loadN 7 (some ⟨p2, 0, none⟩) h (fun c2 => k (.tuple #[(.agg c2), (.int .i64 e)]) h)) := by
    intro e h1 h2
    rw [h1, h2] at hk
    refine store_all b2 rfl (by rfl) (rcells_one zR) fun g4 b4 m4 => ?_
    exact b4.at_.loadN rfl (hk g4 (x2.then m4 (fun i hi => by rw [hi]; exact y2)))
  refine ifB_dec (fun h1 => ?_) (fun h1 => ?_)
  · have hp : parseH b = .inr 10 := by unfold parseH; rw [if_pos (by omega)]
    exact zerr 10 (by unfold prR; rw [hp]) (by unfold prE; rw [hp])
  have h1' : ¬ b.length < 40 := by omega
  have g04 : getR b 0 4 = (val (b.take 4), 0) := by
    unfold getR
    rw [if_neg (by omega), if_neg (by omega)]
    simp
  have g42 : getR b 4 2 = (val ((b.drop 4).take 2), 0) := by
    unfold getR
    rw [if_neg (by omega), if_neg (by omega)]
    simp
  have v4 := val_bound 4 (b.take 4) (by rw [List.length_take]; omega) (fun x hx => hb x (List.mem_of_mem_take hx))
  have v2 := val_bound 2 ((b.drop 4).take 2) (by rw [List.length_take, List.length_drop]; omega) (fun x hx => hb x (List.mem_of_mem_drop (List.mem_of_mem_take hx)))
  refine c49 B m d b 0 4 g _ r2 hmd (by omega) (by decide) hb (asT2_of (asI_of (asI_of ?_)))
  rw [g04, needK_true (by decide)]
  dsimp only
  have e28 : IntKind.wrap .u64 (Int.tdiv (val (b.take 4)) 268435456) = val (b.take 4) / 268435456 := by
    rw [Int.tdiv_eq_ediv_of_nonneg v4.1, wrapu64_id (by omega) (by omega)]
  have e20 : IntKind.wrap .u64 (Int.tdiv (val (b.take 4)) 1048576) = val (b.take 4) / 1048576 := by
    rw [Int.tdiv_eq_ediv_of_nonneg v4.1, wrapu64_id (by omega) (by omega)]
  rw [e28]
  refine ifB_ne (fun h2 => ?_) (fun h2 => ?_)
  · have hp : parseH b = .inr 50 := by unfold parseH; rw [if_neg h1', if_pos h2]
    exact zerr 50 (by unfold prR; rw [hp]) (by unfold prE; rw [hp])
  have h2' : ¬ val (b.take 4) / 268435456 ≠ 6 := fun h => h h2
  have hp : parseH b = .inl (hdOf b) := by unfold parseH; rw [if_neg h1', if_neg h2']
  have e1 : prR b = hdOf b := by unfold prR; rw [hp]
  have e2 : prE b = 0 := by unfold prE; rw [hp]
  rw [e1, e2] at hk
  refine c49 B m d b 4 2 g _ r2 hmd (by omega) (by decide) hb (asT2_of (asI_of (asI_of (draw_ext ?_))))
  rw [g42, needK_true (by decide), needK_true (by decide), needK_true (by decide)]
  dsimp only
  have g6 : b[6]? = some (b.getD 6 0) := by rw [List.getD_eq_getElem?_getD, List.getElem?_eq_getElem (by omega)]; rfl
  have g7 : b[7]? = some (b.getD 7 0) := by rw [List.getD_eq_getElem?_getD, List.getElem?_eq_getElem (by omega)]; rfl
  refine row_loadS (f := bf) r2 (j := 6) rfl g6 (asI_of ?_)
  refine row_loadS (f := bf) r2 (j := 7) rfl g7 (asI_of ?_)
  rw [needK_true (by simp)]
  refine row_slice r2 hmd (l := 8) (u := 24) rfl rfl (by omega) (by omega) fun A42 c42 r42 _ _ _ => ?_
  rw [needK_true (by simp)]
  refine row_slice r2 hmd (l := 24) (u := 40) rfl rfl (by omega) (by omega) fun A45 c45 r45 _ _ _ => ?_
  have w1 : IntKind.wrap .u8 (Int.tmod (IntKind.wrap .u64 (Int.tdiv (val (b.take 4)) 1048576)) 256) = val (b.take 4) / 1048576 % 256 := by
    rw [e20, Int.tmod_eq_emod_of_nonneg (by omega), IntKind.wrap_u8]; omega
  have w2 : IntKind.wrap .u32 (Int.tmod (val (b.take 4)) 1048576) = val (b.take 4) % 1048576 := by
    rw [Int.tmod_eq_emod_of_nonneg v4.1, IntKind.wrap_u32]; omega
  have w3 : IntKind.wrap .u16 (val ((b.drop 4).take 2)) = val ((b.drop 4).take 2) := by rw [IntKind.wrap_u16]; omega
  rw [w1, w2, w3]
  have fin : storeK 7 (some ⟨p2, 0, none⟩) (rcells (hdOf b)).toArray g (fun h => loadN 7 (some ⟨p2, 0, none⟩) h (fun c2 => k (.tuple #[(.agg c2), (.int .i64 0)]) h)) := by
    refine store_all b2 rfl (by rfl) (rcells_one _) fun g4 b4 m4 => ?_
    exact b4.at_.loadN rfl (hk g4 (x2.then m4 (fun i hi => by rw [hi]; exact y2)))
  constructor
  · exact strK_of (xs := (b.drop 8).take 16) r42 ⟨Go.Oct.Ext.refl _, strK_of (xs := (b.drop 24).take 16) r45 ⟨Go.Oct.Ext.refl _, fin⟩⟩
  · exact strK_of (xs := (b.drop 24).take 16) r45 ⟨Go.Oct.Ext.refl _, strK_of (xs := (b.drop 8).take 16) r42 ⟨Go.Oct.Ext.refl _, fin⟩⟩
theorem eqM64 (d : Nat) (w : World) (x y : Hd) : (Op.equalIn (d + 2) 64 (.agg (rcells x).toArray) (.agg (rcells y).toArray)).run Try.prog w = .ok (x.cls == y.cls && (x.flow == y.flow && (x.len == y.len && (x.nx == y.nx && (x.hops == y.hops && ((strOfNums x.src).toList == (strOfNums y.src).toList && (strOfNums x.dst).toList == (strOfNums y.dst).toList)))))) w := by
  refine eqA_of Try.underlying64 (by kernel_rfl) ?_
  refine eqf_cons (by rfl) (by go_simp; rfl) (by go_simp; rfl) (by go_simp) ?_
  refine eqf_cons (by rfl) (by go_simp; rfl) (by go_simp; rfl) (by go_simp) ?_
  refine eqf_cons (by rfl) (by go_simp; rfl) (by go_simp; rfl) (by go_simp) ?_
  refine eqf_cons (by rfl) (by go_simp; rfl) (by go_simp; rfl) (by go_simp) ?_
  refine eqf_cons (by rfl) (by go_simp; rfl) (by go_simp; rfl) (by go_simp) ?_
  refine eqf_cons (by rfl) (by go_simp; rfl) (by go_simp; rfl) (by unfold sv; go_simp) ?_
  exact eqf_last (by rfl) (by go_simp; rfl) (by go_simp; rfl) (by unfold sv; go_simp)
theorem eq64 (x : Hd) {k : Bool → Prop} (hk : k true) : eqAggK Try.prog 64 (rcells x).toArray (rcells x).toArray k := by
  refine ⟨_, by kernel_rfl, fun z => eqM64 9998 z x x, ?_⟩
  simpa using hk
end
set_option maxHeartbeats 1000000 in
/-- IpsixHeads -/
theorem c7 {h : H} {k : Value → H → Prop} {hh : Hd} (o : hh.ok) {A1 : Option Addr} {n1 q1 : Nat} {b : List Int} (r1 : RowH h A1 n1 (b.map bf).toArray) (hq1 : n1 ≤ q1) (hb : ∀ x ∈ b, isB x)
    (hk : ∀ h', Go.Oct.Ext h h' → k (.bool true) h') : callK Try.prog 7 #[.agg (hcells hh).toArray, .slice A1 n1 q1] h k := by
  refine call7 _ _ _ _ _ _ ?_
  unfold d7
  have hbl : b.length = n1 := by simpa using r1.1
  have hsz := hcells_len o
  refine alloc_new fun p2 g1 y1 b1 x1 => ?_
  refine ifB_dec (fun _ => c9 _ _ fun h' e => asB_of (hk h' (x1.trans e))) (fun hn => ?_)
  have a1 : At g1 p2 0 (hcells hh) := b1.at_
  refine a1.loadN hsz ?_
  refine c26 hh o fun g2 x2 => asA_of rfl ?_
  refine newVr (by simp) rfl (rcells_one hh) fun p5 g3 y3 b3 x3 => ?_
  have a3 : At g3 p5 0 (rcells hh) := b3.at_
  have e3 := x2.trans x3
  refine (a1.ext e3).loadN hsz ?_
  refine c14p hh o fun A4 c4 g4 x4 l4 => asT2_of (asS_of (asI_of ?_))
  refine (a3.ext x4).loadN rfl ?_
  refine c29 hh o fun A5 c5 g5 x5 l5 => asT2_of (asS_of (asI_of ?_))
  have e5 := e3.trans (x4.trans x5)
  refine c30p (r1.ext (x1.trans e5)) hq1 (by omega) hb fun g6 x6 => asT2_of (asA_of ?_ (asI_of ?_))
  · rw [List.size_toArray]; exact hcells_len (prH_ok hb)
  have hsz6 := hcells_len (prH_ok hb)
  refine newVr (by simp) (by rw [List.size_toArray]; exact hsz6) (hcells_one _) fun p10 g7 y7 b7 x7 => ?_
  have a7 : At g7 p10 0 (hcells (prH b)) := b7.at_
  have e7 := e5.trans (x6.trans x7)
  refine c12 A1 n1 q1 b g7 _ (r1.ext (x1.trans e7)) (by omega) fun A8 c8 g8 x8 l8 => asS_of ?_
  refine c31 (Lst.row (f := bf) l8) l8.2.le (by omega) hb fun g9 x9 => asT2_of (asA_of rfl (asI_of ?_))
  refine newVr (by simp) rfl (rcells_one _) fun p12 g10 y10 b10 x10 => ?_
  have a10 : At g10 p12 0 (rcells (prR b)) := b10.at_
  have x810 := x8.trans (x9.trans x10)
  have e10 := e7.trans x810
  have x510 := x6.trans (x7.trans x810)
  have hpl : (putS hh).length ≤ 40 := by
    unfold putS
    split
    · rw [putH_len o]; omega
    · simp
  refine ⟨fun bb g => bb = false ∧ Go.Oct.Ext g10 g, draw_ext ?_, ?_⟩
  · refine ifB_ne (fun h => absurd rfl h) (fun _ => ?_)
    refine c16 _ _ _ (putS hh) _ _ _ (putS hh) g10 _ (Lst.row (f := bf) (l4.ext (x5.trans x510))) (Lst.row (f := bf) (l5.ext x510)) (by omega) (asB_of ⟨Go.Oct.Ext.refl _, ?_⟩)
    rw [decide_eq_true rfl, ifB_nt]
    refine ifB_ne (fun h => absurd rfl h) (fun _ => ?_)
    refine At.loadSN (a7.ext x810) hsz6 (a10.loadSN rfl ?_)
    refine c26 (prH b) (prH_ok hb) fun g11 x11 => asA_of rfl ⟨x11, ?_⟩
    have hsrc : ∀ x ∈ (prR b).src, isB x := by
      unfold prR
      cases hp : parseH b with
      | inl q => exact (parseH_ok hb hp).1.bsrc
      | inr e => simp [zR]
    have heq : (if (prR b).src = [] then zH else prR b) = prH b := by
      unfold prR prH
      cases hp : parseH b with
      | inl q =>
        have := (parseH_ok hb hp).1.src
        dsimp only
        rw [if_neg (by intro e; rw [e] at this; simp at this)]
      | inr e => rfl
    refine c27 (prR b) hsrc fun g12 x12 => asA_of rfl ?_
    rw [heq]
    refine eq64 _ ⟨rfl, x11.trans x12⟩
  rintro bb g11 ⟨rfl, x11⟩
  rw [ifB_false]
  have e11 := x1.trans (e10.trans x11)
  refine ifB_eq (fun h0 => ?_) (fun _ => c9 _ _ fun h' e => asB_of (hk h' (e11.trans e)))
  have hf : hh.flow < 1048576 := by
    unfold putE at h0
    split at h0
    · assumption
    · omega
  have hpS : putS hh = putH hh := by unfold putS; rw [if_pos hf]
  rw [hpS] at l4 hpl ⊢
  refine src_one (r1.ext e11) ?_
  have l4' := (l4.ext (x5.trans x510)).ext x11
  have z3 := ((x4.trans x5).trans (x510.trans x11)).size
  refine Lst.appends (f := bf) l4' b hbl rfl bf_one (by omega) z3 (by omega) fun A12 c12' g12 l12 m12 d12 => ?_
  have z31 := (x1.trans e3).size
  have e12 := e11.then m12 (fun i hi => by have := l4.2.base_le hi; omega)
  have hTb : ∀ y ∈ putH hh ++ b, isB y := by
    intro y hy
    rcases List.mem_append.1 hy with hy | hy
    · exact putH_isB o y hy
    · exact hb y hy
  have hpp := parseH_put o hf b
  have e1 : prH (putH hh ++ b) = hh := by unfold prH; rw [hpp]
  have e2 : prE (putH hh ++ b) = 0 := by unfold prE; rw [hpp]
  refine c30p (Lst.row (f := bf) l12) l12.2.le (by omega) hTb fun g13 x13 => asT2_of (asA_of ?_ (asI_of ?_))
  · rw [e1, List.size_toArray]; exact hsz
  rw [e1, e2]
  refine newVr (by simp) (by rw [List.size_toArray]; exact hsz) (hcells_one _) fun p14 g14 y14 b14 x14 => ?_
  have a14 : At g14 p14 0 (hcells hh) := b14.at_
  refine ifB_eq (fun _ => ?_) (fun h => absurd rfl h)
  refine a14.loadN hsz ?_
  have lp2 := b1.lt
  have a12 : At g12 p2 0 (hcells hh) := (a1.ext (e10.trans x11)).mod m12 (fun hi => by have := l4.2.base_le hi; have := e3.size; omega)
  refine (a12.ext (x13.trans x14)).loadN hsz ?_
  refine eq26 hh hh o o ?_
  rw [decide_eq_true rfl, ifB_true]
  exact c9 _ _ fun h' e => asB_of (hk h' (e12.trans (x13.trans (x14.trans e))))
end Go.Proofs.Ythfjpnabalkjkaa
