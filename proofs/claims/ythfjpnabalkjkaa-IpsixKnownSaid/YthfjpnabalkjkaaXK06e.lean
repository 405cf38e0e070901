/- What is proved: contracts of functions that the law calls, and of the law itself, over any heap. Conditions stand in each theorem. -/
import Derived.Test.YthfjpnabalkjkaaXK06d
import Derived.Test.YthfjpnabalkjkaaXL06b
import Derived.Test.YthfjpnabalkjkaaWEqStruct
import Derived.Stop.BytesEq
set_option linter.unusedSimpArgs false
set_option linter.unusedVariables false
namespace Go.Proofs.Ythfjpnabalkjkaa
open Go.Oct Go.Oct.L01 Go.Oct.L06 Go.RowKit Go.Proofs.YthfjpnabalkjkaaW.PrintWords
def hcells (h : Hd) : List Value := [.int .u8 h.cls, .int .u32 h.flow, .int .u16 h.len, .int .u8 h.nx, .int .u8 h.hops] ++ (h.src.map bf ++ h.dst.map bf)
theorem hcells_len {h : Hd} (o : h.ok) : (hcells h).length = 37 := by simp [hcells, o.src, o.dst]
theorem hcells_one (h : Hd) : OneCells (hcells h) := by
  intro v hv
  simp only [hcells, List.mem_append, List.mem_cons, List.not_mem_nil, or_false, List.mem_map] at hv
  rcases hv with (rfl | rfl | rfl | rfl | rfl) | (⟨x, _, rfl⟩ | ⟨x, _, rfl⟩) <;> rfl
theorem hd_src {h : Hd} (o : h.ok) : (hcells h).toArray.extract 5 (5 + 16) = (h.src.map bf).toArray := by
  apply Array.ext'
  have hs : (h.src.map bf).length = 16 := by rw [List.length_map]; exact o.src
  simp only [List.extract_toArray, List.extract_eq_take_drop]
  show (((hcells h).drop 5).take 16) = _
  have : (hcells h).drop 5 = h.src.map bf ++ h.dst.map bf := rfl
  rw [this, List.take_left' hs]
theorem hd_dst {h : Hd} (o : h.ok) : (hcells h).toArray.extract 21 (21 + 16) = (h.dst.map bf).toArray := by
  apply Array.ext'
  have hs : (h.src.map bf).length = 16 := by rw [List.length_map]; exact o.src
  have ht : (h.dst.map bf).length = 16 := by rw [List.length_map]; exact o.dst
  simp only [List.extract_toArray, List.extract_eq_take_drop]
  show (((hcells h).drop 21).take 16) = _
  have : (hcells h).drop 21 = (h.src.map bf ++ h.dst.map bf).drop 16 := by
    show ((hcells h).drop (5 + 16)) = _
    rw [← List.drop_drop]; rfl
  rw [this, List.drop_left' hs, List.take_of_length_le (by omega)]
theorem or_lt {a b : Nat} {i : Nat} (hb : b < 2 ^ i) (hab : a * 2 ^ i + b < 18446744073709551616) : bitK .or .u64 ((a * 2 ^ i : Nat) : Int) (b : Int) = ((a * 2 ^ i + b : Nat) : Int) := by
  unfold bitK
  have e : (BitVec.ofInt (IntKind.bits .u64) ((a * 2 ^ i : Nat) : Int) ||| BitVec.ofInt (IntKind.bits .u64) (b : Int)).toNat = a * 2 ^ i + b := by
    rw [BitVec.toNat_or, BitVec.toNat_ofInt, BitVec.toNat_ofInt]
    have k : ((2 ^ IntKind.bits .u64 : Nat) : Int) = 18446744073709551616 := rfl
    have e1 : (((a * 2 ^ i : Nat) : Int) % ((2 ^ IntKind.bits .u64 : Nat) : Int)).toNat = a * 2 ^ i := by rw [k]; omega
    have e2 : ((b : Int) % ((2 ^ IntKind.bits .u64 : Nat) : Int)).toNat = b := by rw [k]; omega
    rw [e1, e2]
    have := Nat.shiftLeft_add_eq_or_of_lt hb a
    rw [Nat.shiftLeft_eq] at this
    exact this.symm
  simp only [e]
  rw [IntKind.wrap_u64]
  omega
theorem num_bits {h : Hd} (o : h.ok) (hf : h.flow < 1048576) : bitK .or .u64 (bitK .or .u64 1610612736 (shlK .u64 (IntKind.wrap .u64 h.cls) 20)) (IntKind.wrap .u64 h.flow) = num h := by
  have hc := o.cls
  have hfl := o.flow
  unfold num
  generalize h.cls = cc at *
  generalize h.flow = ff at *
  obtain ⟨c, rfl⟩ := Int.eq_ofNat_of_zero_le hc.1
  obtain ⟨f, rfl⟩ := Int.eq_ofNat_of_zero_le hfl.1
  rw [wrapu64_id (x := (c : Int)) (by omega) (by omega), wrapu64_id (x := (f : Int)) (by omega) (by omega)]
  have s20 : shlK .u64 (c : Int) 20 = ((c * 1048576 : Nat) : Int) := by
    unfold shlK
    rw [show (2 : Int) ^ min (Int.toNat 20) (IntKind.bits .u64) = 1048576 from rfl, IntKind.wrap_u64]
    omega
  rw [s20]
  have h1 := or_lt (a := 6) (b := c * 1048576) (i := 28) (by omega) (by omega)
  have h2 := or_lt (a := 1536 + c) (b := f) (i := 20) (by omega) (by omega)
  have e1 : ((6 * 2 ^ 28 : Nat) : Int) = 1610612736 := rfl
  rw [e1] at h1
  rw [h1]
  have e2 : 6 * 2 ^ 28 + c * 1048576 = (1536 + c) * 2 ^ 20 := by omega
  rw [e2, h2]
  omega
theorem fits_of {v : Int} {n : Nat} (h1 : 1 ≤ n) (h8 : n ≤ 8) (hv : v < 256 ^ n) : fitsB v n = true := by
  unfold fitsB
  simp [h1, hv]
  omega
/-- Put -/
theorem c14 (hh : Hd) (o : hh.ok) (h : H) (k : Value → H → Prop) (hno : 1048576 ≤ hh.flow → ∀ h', Go.Oct.Ext h h' → k (.tuple #[.slice none 0 0, .int .i64 51]) h')
    (hk : hh.flow < 1048576 → ∀ A c h', Go.Oct.Ext h h' → Byt h' h.size A 40 c (putH hh) → k (.tuple #[.slice A 40 c, .int .i64 0]) h') : callK Try.prog 14 #[.agg (hcells hh).toArray] h k := by
  refine call14 _ _ _ ?_
  unfold d14
  refine alloc_new fun p1 g1 y1 b1 x1 => ?_
  have a1 : At g1 p1 0 (hcells hh) := b1.at_
  refine addrK_of rfl (a1.load1 1 rfl rfl (asI_of ?_))
  refine ifB_dec (fun hf => hno hf g1 x1) (fun hf => ?_)
  have hf : hh.flow < 1048576 := by omega
  have hc := o.cls
  have hfl := o.flow
  have hln := o.len
  have z1 := x1.size
  have lp1 := b1.lt
  refine alloc_new fun p4 g2 y2 b2 x2 => ?_
  have w2 : Wr g2 g1.size p4 none 0 0 [] := ⟨b2, y2, Lst.nil⟩
  have a2 := a1.ext x2
  refine addrK_of rfl (a2.load1 0 rfl rfl (asI_of ?_))
  rw [needK_true (by decide)]
  refine addrK_of rfl (a2.load1 1 rfl rfl (asI_of ?_))
  rw [num_bits o hf]
  have hnum : 0 ≤ num hh ∧ num hh < 1879048192 := by unfold num; omega
  refine c38 g1.size p4 none 0 0 [] (num hh) 4 g2 _ w2 hnum.1 (by omega) (by omega) (fun hno2 => ?_) (fun _ A3 c3 g3 w3 m3 d3 => asI_of ?_)
  · have h4 : fitsB (num hh) 4 = true := fits_of (n := 4) (by omega) (by omega) (by simp; omega)
    rw [h4] at hno2; cases hno2
  have e3 : Go.Oct.Ext g1 g3 := x2.then m3 (fun i hi => w2.base hi)
  have a3 := a1.ext e3
  refine addrK_of rfl (a3.load1 2 rfl rfl (asI_of ?_))
  rw [wrapu64_id (x := hh.len) (by omega) (by omega)]
  refine c38 g1.size p4 A3 _ c3 _ hh.len 2 g3 _ w3 hln.1 (by omega) (by decide) (fun hno2 => ?_) (fun _ A4 c4 g4 w4 m4 d4 => asI_of ?_)
  · have h2 : fitsB hh.len 2 = true := fits_of (n := 2) (by omega) (by omega) (by simp; omega)
    rw [h2] at hno2; cases hno2
  have e4 : Go.Oct.Ext g1 g4 := e3.then m4 (fun i hi => w3.base hi)
  have a4 := a1.ext e4
  refine addrK_of rfl (a4.load1 3 rfl rfl (asI_of ?_))
  refine addrK_of rfl (a4.load1 4 rfl rfl (asI_of ?_))
  refine alloc_new fun p26 g5 y5 b5 x5 => ?_
  have r5 : RowH g5 (some ⟨p26, 0, none⟩) 2 (([hh.nx, hh.hops] : List Int).map bf).toArray := litB b5 rfl
  refine c39 g1.size p4 A4 _ c4 _ _ 2 2 [hh.nx, hh.hops] g5 _ (w4.ext x5) r5 (by decide) fun A6 c6 g6 w6 m6 d6 => asI_of ?_
  have e6 : Go.Oct.Ext g1 g6 := (e4.trans x5).then m6 (fun i hi => (w4.ext x5).base hi)
  have k6 := b1.ext e6
  have rs : RowH g6 (some ⟨p1, 5, none⟩) 16 (hh.src.map bf).toArray := by
    have := k6.row 5 16 (by rw [List.size_toArray, hcells_len o]; decide)
    rwa [hd_src o] at this
  refine addrK_of rfl ?_
  refine ⟨_, rfl, by simp, by simp, by simp, ?_⟩
  simp only [Option.getD_none]
  refine c39 g1.size p4 A6 _ c6 _ _ 16 16 hh.src g6 _ w6 (by simpa [Addr.add] using rs) (by decide) fun A7 c7 g7 w7 m7 d7 => asI_of ?_
  have e7 : Go.Oct.Ext g1 g7 := e6.then m7 (fun i hi => w6.base hi)
  have k7 := b1.ext e7
  have rd : RowH g7 (some ⟨p1, 21, none⟩) 16 (hh.dst.map bf).toArray := by
    have := k7.row 21 16 (by rw [List.size_toArray, hcells_len o]; decide)
    rwa [hd_dst o] at this
  refine addrK_of rfl ?_
  refine ⟨_, rfl, by simp, by simp, by simp, ?_⟩
  simp only [Option.getD_none]
  refine c39 g1.size p4 A7 _ c7 _ _ 16 16 hh.dst g7 _ w7 (by simpa [Addr.add] using rd) (by decide) fun A8 c8 g8 w8 m8 d8 => asI_of ?_
  have e8 : Go.Oct.Ext g1 g8 := e7.then m8 (fun i hi => w7.base hi)
  refine c40 g1.size p4 A8 _ c8 _ g8 _ w8 (by decide) fun A9 c9 g9 x9 l9 => asS_of ?_
  have hn : 0 + Int.toNat 4 + Int.toNat 2 + 2 + 16 + 16 = 40 := rfl
  rw [hn] at l9 ⊢
  refine hk hf A9 c9 g9 (x1.trans (e8.trans x9)) (Lst.weaken (base' := h.size) ?_ (Nat.le_trans z1 e8.size))
  have : [] ++ bytesOf (num hh) (Int.toNat 4) ++ bytesOf hh.len (Int.toNat 2) ++ [hh.nx, hh.hops] ++ hh.src ++ hh.dst = putH hh := by simp [putH]
  rw [this] at l9
  exact l9
end Go.Proofs.Ythfjpnabalkjkaa
