/- What is proved: contracts of functions that the law calls, and of the law itself, over any heap. Conditions stand in each theorem. -/
import Derived.Test.YtoifdnmbhdjhhaaXK29c
set_option linter.unusedSimpArgs false
set_option linter.unusedVariables false
namespace Go.Proofs.Ytoifdnmbhdjhhaa
open Go.Oct Go.Oct.L01

theorem fits4 {x : Int} (h : u32B x) : fitsB x 4 = true := by unfold fitsB u32B at *; simp; omega
theorem fits8 {x : Int} (h : u64B x) : fitsB x 8 = true := by unfold fitsB u64B at *; simp; omega
theorem wrap_of_u32 {x : Int} (h : u32B x) : IntKind.wrap .u64 x = x := by unfold u32B at h; exact wrapu64_id h.1 (by omega)
def dataB (E N P : Int) (bs : List Int) : List Int := [1] ++ bytesOf E 4 ++ bytesOf N 8 ++ bytesOf P 4 ++ bs
def ackB (D E N : Int) : List Int := [2] ++ bytesOf D 4 ++ bytesOf E 4 ++ bytesOf N 8
theorem dataB_isB {E N P : Int} {bs : List Int} (h : ∀ x ∈ bs, isB x) : ∀ x ∈ dataB E N P bs, isB x := by
  intro x hx
  simp only [dataB, List.mem_append, List.mem_singleton] at hx
  rcases hx with (((rfl | hx) | hx) | hx) | hx
  · decide
  · exact bytesOf_isB _ _ x hx
  · exact bytesOf_isB _ _ x hx
  · exact bytesOf_isB _ _ x hx
  · exact h x hx
theorem ackB_isB {D E N : Int} : ∀ x ∈ ackB D E N, isB x := by
  intro x hx
  simp only [ackB, List.mem_append, List.mem_singleton] at hx
  rcases hx with ((rfl | hx) | hx) | hx
  · decide
  · exact bytesOf_isB _ _ x hx
  · exact bytesOf_isB _ _ x hx
  · exact bytesOf_isB _ _ x hx

/-- the reference's PutData -/
theorem c9 (E N P : Int) (A : Option Addr) (n c : Nat) (bs : List Int) (h : H) (k : Value → H → Prop) (hE : u32B E) (hN : u64B N) (hP : u32B P) (hr : RowH h A n (bs.map bf).toArray) (hn : n ≤ 4096)
    (hno : mayB E N P = false → ∀ h', Ext h h' → k (.tuple #[.slice none 0 0, .int .i64 290]) h')
    (hk : mayB E N P = true → ∀ A' c' h', Ext h h' → Byt h' h.size A' (17 + n) c' (dataB E N P bs) → k (.tuple #[.slice A' (17 + n) c', .int .i64 0]) h') : callK Try.prog 9 #[.agg (ent E N P (.slice A n c))] h k := by
  refine call9 _ _ _ ?_
  unfold d9
  refine alloc_new fun p1 h1 _ b1 e1 => b1.at_.loadN rfl ?_
  refine c26 E N P _ _ _ fun h2 e2 => asB_of ?_
  have e12 := e1.trans e2
  refine ifB_of (fun hm => hno (by simpa using hm) h2 e12) (fun hm => ?_)
  have hm : mayB E N P = true := by simpa using hm
  refine alloc_new fun p8 h3 _ b8 e3 => ?_
  have r8 : RowH h3 (some ⟨p8, 0, none⟩) 1 (([1] : List Int).map bf).toArray := b8.row 0 1 (by decide)
  have x3 := e12.trans e3
  have a1 := (b1.ext (e2.trans e3)).at_
  refine addrK_of rfl (a1.load1 0 rfl rfl (asI_of ?_))
  rw [wrap_of_u32 hE]
  unfold u32B at hE hP
  unfold u64B at hN
  refine c28 4 E h3 _ (by omega) hE.1 (by omega) fun B4 q4 h4 e4 l4 => asS_of ?_
  refine c27 _ _ _ [1] _ _ _ _ h4 _ (r8.ext e4) l4.row (by omega) fun B5 q5 h5 e5 l5 => asS_of ?_
  have a1 := a1.ext (e4.trans e5)
  refine addrK_of rfl (a1.load1 1 rfl rfl (asI_of ?_))
  refine c28 8 N h5 _ (by omega) hN.1 hN.2 fun B6 q6 h6 e6 l6 => asS_of ?_
  refine c27 _ _ _ _ _ _ _ _ h6 _ (Lst.row (f := bf) (l5.ext e6)) l6.row (by omega) fun B7 q7 h7 e7 l7 => asS_of ?_
  have a1 := a1.ext (e6.trans e7)
  refine addrK_of rfl (a1.load1 2 rfl rfl (asI_of ?_))
  rw [wrap_of_u32 ⟨hP.1, hP.2⟩]
  refine c28 4 P h7 _ (by omega) hP.1 (by omega) fun B8 q8 h8 e8 l8 => asS_of ?_
  refine c27 _ _ _ _ _ _ _ _ h8 _ (Lst.row (f := bf) (l7.ext e8)) l8.row (by omega) fun B9 q9 h9 e9 l9 => asS_of ?_
  have a1 := a1.ext (e8.trans e9)
  refine addrK_of rfl (a1.load1 3 rfl rfl (asS_of ?_))
  have x9 := x3.trans (e4.trans (e5.trans (e6.trans (e7.trans (e8.trans e9)))))
  refine c27 _ _ _ _ _ _ _ bs h9 _ (Lst.row (f := bf) l9) (hr.ext x9) (by omega) fun B10 q10 h10 e10 l10 => asS_of ?_
  exact hk hm B10 q10 h10 (x9.trans e10) (Lst.weaken l10 x9.size)

/-- PutData -/
theorem c12 (E N P : Int) (A : Option Addr) (n c : Nat) (bs : List Int) (h : H) (k : Value → H → Prop) (hE : u32B E) (hN : u64B N) (hP : u32B P) (hr : RowH h A n (bs.map bf).toArray) (hn : n ≤ 4096)
    (hno : mayB E N P = false → ∀ h', Ext h h' → k (.tuple #[.slice none 0 0, .int .i64 290]) h')
    (hk : mayB E N P = true → ∀ A' c' h', Ext h h' → Byt h' h.size A' (17 + n) c' (dataB E N P bs) → k (.tuple #[.slice A' (17 + n) c', .int .i64 0]) h') : callK Try.prog 12 #[.agg (ent E N P (.slice A n c))] h k := by
  refine call12 _ _ _ ?_
  unfold d12
  refine alloc_new fun p1 h1 _ b1 e1 => b1.at_.loadN rfl ?_
  refine c30 E N P _ _ _ fun h2 e2 => asB_of ?_
  have e12 := e1.trans e2
  refine ifB_of (fun hm => hno (by simpa using hm) h2 e12) (fun hm => ?_)
  have hm : mayB E N P = true := by simpa using hm
  refine alloc_new fun p4 h3 y4 b4 e3 => ?_
  have x3 := e12.trans e3
  have w3 : Wr h3 h2.size p4 none 0 0 [] := ⟨b4, y4, Lst.nil⟩
  have a1 := (b1.ext (e2.trans e3)).at_
  have hp1 : p1 < h2.size := (b1.ext e2).lt
  refine c31 h2.size p4 none 0 0 [] 1 1 h3 _ w3 (by omega) (by omega) (by omega) (fun hf => absurd hf (by decide)) fun _ A4 q4 h4 w4 m4 d4 => asI_of ?_
  have a1 := a1.mod m4 (fun hi => by have := w3.base hi; omega)
  have x4 := x3.then m4 (fun i hi => by have h1 := w3.base hi; have := e12.size; omega)
  refine addrK_of rfl (a1.load1 0 rfl rfl (asI_of ?_))
  rw [wrap_of_u32 hE]
  refine c31 h2.size p4 A4 _ q4 _ E 4 h4 _ w4 hE.1 (by unfold u32B at hE; omega) (by simp) (fun hf => by rw [fits4 hE] at hf; cases hf) fun _ A5 q5 h5 w5 m5 d5 => asI_of ?_
  have a1 := a1.mod m5 (fun hi => by have := w4.base hi; omega)
  have x5 := x4.then m5 (fun i hi => by have h1 := w4.base hi; have := e12.size; omega)
  refine addrK_of rfl (a1.load1 1 rfl rfl (asI_of ?_))
  refine c31 h2.size p4 A5 _ q5 _ N 8 h5 _ w5 hN.1 hN.2 (by simp) (fun hf => by rw [fits8 hN] at hf; cases hf) fun _ A6 q6 h6 w6 m6 d6 => asI_of ?_
  have a1 := a1.mod m6 (fun hi => by have := w5.base hi; omega)
  have x6 := x5.then m6 (fun i hi => by have h1 := w5.base hi; have := e12.size; omega)
  refine addrK_of rfl (a1.load1 2 rfl rfl (asI_of ?_))
  rw [wrap_of_u32 hP]
  refine c31 h2.size p4 A6 _ q6 _ P 4 h6 _ w6 hP.1 (by unfold u32B at hP; omega) (by simp) (fun hf => by rw [fits4 hP] at hf; cases hf) fun _ A7 q7 h7 w7 m7 d7 => asI_of ?_
  have a1 := a1.mod m7 (fun hi => by have := w6.base hi; omega)
  have x7 := x6.then m7 (fun i hi => by have h1 := w6.base hi; have := e12.size; omega)
  refine addrK_of rfl (a1.load1 3 rfl rfl (asS_of ?_))
  refine c32 h2.size p4 A7 _ q7 _ A n c bs h7 _ w7 (hr.ext x7) (by simp; omega) fun A8 q8 h8 w8 m8 d8 => asI_of ?_
  have x8 := x7.then m8 (fun i hi => by have h1 := w7.base hi; have := e12.size; omega)
  refine c33 h2.size p4 A8 _ q8 _ h8 _ w8 (by simp; omega) fun A9 q9 h9 e9 l9 => asS_of ?_
  have e : ([] : List Int) ++ bytesOf 1 (Int.toNat 1) ++ bytesOf E (Int.toNat 4) ++ bytesOf N (Int.toNat 8) ++ bytesOf P (Int.toNat 4) ++ bs = dataB E N P bs := by
    have : bytesOf 1 (Int.toNat 1) = [1] := by decide
    rw [this]; rfl
  rw [e] at l9
  exact hk hm A9 q9 h9 (x8.trans e9) (Lst.weaken l9 x8.size)

/-- the reference's PutAck -/
theorem c19 (D E N : Int) (h : H) (k : Value → H → Prop) (hD : u32B D) (hE : u32B E) (hN : u64B N)
    (hk : ∀ A' c' h', Ext h h' → Byt h' h.size A' 17 c' (ackB D E N) → k (.slice A' 17 c') h') : callK Try.prog 19 #[.agg (ack D E N)] h k := by
  refine call19 _ _ _ ?_
  unfold d19
  refine alloc_new fun p1 h1 _ b1 e1 => alloc_new fun p8 h3 _ b8 e3 => ?_
  have r8 : RowH h3 (some ⟨p8, 0, none⟩) 1 (([2] : List Int).map bf).toArray := b8.row 0 1 (by decide)
  have x3 := e1.trans e3
  have a1 := (b1.ext e3).at_
  refine addrK_of rfl (a1.load1 0 rfl rfl (asI_of ?_))
  rw [wrap_of_u32 hD]
  unfold u32B at hD hE
  unfold u64B at hN
  refine c28 4 D h3 _ (by omega) hD.1 (by omega) fun B4 q4 h4 e4 l4 => asS_of ?_
  refine c27 _ _ _ [2] _ _ _ _ h4 _ (r8.ext e4) l4.row (by omega) fun B5 q5 h5 e5 l5 => asS_of ?_
  have a1 := a1.ext (e4.trans e5)
  refine addrK_of rfl (addrK_of rfl (a1.load1 1 rfl rfl (asI_of ?_)))
  rw [wrap_of_u32 ⟨hE.1, hE.2⟩]
  refine c28 4 E h5 _ (by omega) hE.1 (by omega) fun B6 q6 h6 e6 l6 => asS_of ?_
  refine c27 _ _ _ _ _ _ _ _ h6 _ (Lst.row (f := bf) (l5.ext e6)) l6.row (by omega) fun B7 q7 h7 e7 l7 => asS_of ?_
  have a1 := a1.ext (e6.trans e7)
  refine addrK_of rfl (addrK_of rfl (a1.load1 2 rfl rfl (asI_of ?_)))
  refine c28 8 N h7 _ (by omega) hN.1 (by omega) fun B8 q8 h8 e8 l8 => asS_of ?_
  refine c27 _ _ _ _ _ _ _ _ h8 _ (Lst.row (f := bf) (l7.ext e8)) l8.row (by omega) fun B9 q9 h9 e9 l9 => asS_of ?_
  have x8 := x3.trans (e4.trans (e5.trans (e6.trans (e7.trans e8))))
  exact hk B9 q9 h9 (x8.trans e9) (Lst.weaken l9 x8.size)

/-- PutAck -/
theorem c15 (D E N : Int) (h : H) (k : Value → H → Prop) (hD : u32B D) (hE : u32B E) (hN : u64B N)
    (hk : ∀ A' c' h', Ext h h' → Byt h' h.size A' 17 c' (ackB D E N) → k (.slice A' 17 c') h') : callK Try.prog 15 #[.agg (ack D E N)] h k := by
  refine call15 _ _ _ ?_
  unfold d15
  refine alloc_new fun p1 h1 _ b1 e1 => alloc_new fun p4 h3 y4 b4 e3 => ?_
  have x3 := e1.trans e3
  have w3 : Wr h3 h1.size p4 none 0 0 [] := ⟨b4, y4, Lst.nil⟩
  have a1 := (b1.ext e3).at_
  have hp1 : p1 < h1.size := b1.lt
  have hs1 := e1.size
  refine c31 h1.size p4 none 0 0 [] 2 1 h3 _ w3 (by omega) (by omega) (by omega) (fun hf => absurd hf (by decide)) fun _ A4 q4 h4 w4 m4 d4 => asI_of ?_
  have a1 := a1.mod m4 (fun hi => by have := w3.base hi; omega)
  have x4 := x3.then m4 (fun i hi => by have h1 := w3.base hi; omega)
  refine addrK_of rfl (a1.load1 0 rfl rfl (asI_of ?_))
  rw [wrap_of_u32 hD]
  refine c31 h1.size p4 A4 _ q4 _ D 4 h4 _ w4 hD.1 (by unfold u32B at hD; omega) (by simp) (fun hf => by rw [fits4 hD] at hf; cases hf) fun _ A5 q5 h5 w5 m5 d5 => asI_of ?_
  have a1 := a1.mod m5 (fun hi => by have := w4.base hi; omega)
  have x5 := x4.then m5 (fun i hi => by have h1 := w4.base hi; omega)
  refine addrK_of rfl (addrK_of rfl (a1.load1 1 rfl rfl (asI_of ?_)))
  rw [wrap_of_u32 hE]
  refine c31 h1.size p4 A5 _ q5 _ E 4 h5 _ w5 hE.1 (by unfold u32B at hE; omega) (by simp) (fun hf => by rw [fits4 hE] at hf; cases hf) fun _ A6 q6 h6 w6 m6 d6 => asI_of ?_
  have a1 := a1.mod m6 (fun hi => by have := w5.base hi; omega)
  have x6 := x5.then m6 (fun i hi => by have h1 := w5.base hi; omega)
  refine addrK_of rfl (addrK_of rfl (a1.load1 2 rfl rfl (asI_of ?_)))
  refine c31 h1.size p4 A6 _ q6 _ N 8 h6 _ w6 hN.1 hN.2 (by simp) (fun hf => by rw [fits8 hN] at hf; cases hf) fun _ A7 q7 h7 w7 m7 d7 => asI_of ?_
  have x7 := x6.then m7 (fun i hi => by have h1 := w6.base hi; omega)
  refine c33 h1.size p4 A7 _ q7 _ h7 _ w7 (by simp) fun A9 q9 h9 e9 l9 => asS_of ?_
  have e : ([] : List Int) ++ bytesOf 2 (Int.toNat 1) ++ bytesOf D (Int.toNat 4) ++ bytesOf E (Int.toNat 4) ++ bytesOf N (Int.toNat 8) = ackB D E N := by
    have : bytesOf 2 (Int.toNat 1) = [2] := by decide
    rw [this]; rfl
  rw [e] at l9
  exact hk A9 q9 h9 (x7.trans e9) (Lst.weaken l9 x7.size)
end Go.Proofs.Ytoifdnmbhdjhhaa
