/- What is proved: the plain law, with no program in sight. Conditions stand in each theorem. -/
import Derived.Test.YtkhlollengamdaaXOctN
set_option linter.unusedSimpArgs false
set_option linter.unusedVariables false
namespace Go.Oct.L09
open Go.Oct
def bf (x : Int) : Value := .int .u8 x
def gf (x : Int) : Value := .int .i64 x
def uf (x : Int) : Value := .int .u64 x
structure Ad where
  six : Bool
  b : List Int
deriving DecidableEq
structure Pf where
  a : Ad
  n : Int
deriving DecidableEq
structure Ru where
  ver : Int
  pro : Int
  src : Pf
  dst : Pf
  slo : Int
  shi : Int
  dlo : Int
  dhi : Int
  deny : Bool
  cls : Int
deriving DecidableEq
structure Ky where
  src : Ad
  dst : Ad
  pro : Int
  sp : Int
  dp : Int
def isW (x : Int) : Prop := 0 ≤ x ∧ x < 65536
def isL (x : Int) : Prop := -9223372036854775808 ≤ x ∧ x ≤ 9223372036854775807
instance (x : Int) : Decidable (isW x) := inferInstanceAs (Decidable (_ ∧ _))
instance (x : Int) : Decidable (isL x) := inferInstanceAs (Decidable (_ ∧ _))
structure Ad.ok (a : Ad) : Prop where
  len : a.b.length = 16
  by_ : ∀ x ∈ a.b, isB x
structure Pf.ok (p : Pf) : Prop where
  a : p.a.ok
  n : isL p.n
structure Ru.ok (r : Ru) : Prop where
  ver : isL r.ver
  pro : isL r.pro
  src : r.src.ok
  dst : r.dst.ok
  slo : isW r.slo
  shi : isW r.shi
  dlo : isW r.dlo
  dhi : isW r.dhi
  cls : isL r.cls
structure Ky.ok (k : Ky) : Prop where
  src : k.src.ok
  dst : k.dst.ok
  pro : isB k.pro
  sp : isW k.sp
  dp : isW k.dp
def Ad.cells (a : Ad) : List Value := .bool a.six :: a.b.map bf
def Pf.cells (p : Pf) : List Value := p.a.cells ++ [.int .i64 p.n]
def Ru.tl (r : Ru) : List Value := [.int .u16 r.slo, .int .u16 r.shi, .int .u16 r.dlo, .int .u16 r.dhi, .bool r.deny, .int .i64 r.cls]
def Ru.cells (r : Ru) : List Value := [.int .i64 r.ver, .int .i64 r.pro] ++ (r.src.cells ++ (r.dst.cells ++ r.tl))
def Ky.cells (k : Ky) : List Value := k.src.cells ++ (k.dst.cells ++ [.int .u8 k.pro, .int .u16 k.sp, .int .u16 k.dp])
theorem Ad.len17 {a : Ad} (o : a.ok) : a.cells.length = 17 := by simp [Ad.cells, o.len]
theorem Pf.len18 {p : Pf} (o : p.ok) : p.cells.length = 18 := by simp [Pf.cells, Ad.len17 o.a]
theorem Ru.len44 {r : Ru} (o : r.ok) : r.cells.length = 44 := by simp [Ru.cells, Ru.tl, Pf.len18 o.src, Pf.len18 o.dst]
theorem Ky.len37 {k : Ky} (o : k.ok) : k.cells.length = 37 := by simp [Ky.cells, Ad.len17 o.src, Ad.len17 o.dst]
theorem Ad.one (a : Ad) : OneCells a.cells := by
  intro v hv
  simp only [Ad.cells, List.mem_cons, List.mem_map] at hv
  rcases hv with rfl | ⟨x, _, rfl⟩ <;> rfl
theorem Pf.one (p : Pf) : OneCells p.cells := by
  intro v hv
  simp only [Pf.cells, List.mem_append, List.mem_singleton] at hv
  rcases hv with hv | rfl
  · exact Ad.one _ v hv
  · rfl
theorem Ru.one (r : Ru) : OneCells r.cells := by
  intro v hv
  simp only [Ru.cells, Ru.tl, List.mem_append, List.mem_cons, List.not_mem_nil, or_false] at hv
  rcases hv with (rfl | rfl) | hv | hv | rfl | rfl | rfl | rfl | rfl | rfl
  · rfl
  · rfl
  · exact Pf.one _ v hv
  · exact Pf.one _ v hv
  all_goals rfl
theorem Ky.one (k : Ky) : OneCells k.cells := by
  intro v hv
  simp only [Ky.cells, List.mem_append, List.mem_cons, List.not_mem_nil, or_false] at hv
  rcases hv with hv | hv | rfl | rfl | rfl
  · exact Ad.one _ v hv
  · exact Ad.one _ v hv
  all_goals rfl
/-! ### what the program computes -/
def Ad.size (a : Ad) : Nat := if a.six then 16 else 4
def Ad.right (a : Ad) : Bool := decide (a.b = a.b.take a.size ++ List.replicate (16 - a.size) 0)
def clip (a : Ad) (n : Int) : Int := maxI 0 (minI n (8 * a.size))
def mk (m : Int) (i : Nat) : Int := IntKind.wrap .u8 (shrK .u16 65280 (maxI 0 (minI (m - 8 * i) 8)))
def mB (m : Int) (i : Nat) (x : Int) : Int := bitK .and .u8 x (mk m i)
def cutB (b : List Int) (m : Int) : List Int := b.mapIdx (mB m)
def zA : Ad := ⟨false, List.replicate 16 0⟩
def zP : Pf := ⟨zA, 0⟩
def cut (a : Ad) (n : Int) : Pf := if a.right then ⟨⟨a.six, cutB a.b (clip a n)⟩, clip a n⟩ else zP
def Pf.right (p : Pf) : Bool := p.a.right && decide (cut p.a p.n = p)
def Pf.none (p : Pf) : Bool := decide (p = zP)
def Pf.ver (p : Pf) : Int := if p.a.six then 6 else 4
def Pf.has (p : Pf) (a : Ad) : Bool := p.right && (a.right && decide (cut a p.n = p))
def within (p q : Pf) : Bool := p.right && (decide (p.n ≥ q.n) && q.has p.a)
def prefixed (p q : Pf) : Bool := p.none || (!q.none && within q p)
def Ru.pok (r : Ru) (p : Pf) : Bool := p.right && (p.none || (decide (r.ver = 0) || decide (r.ver = p.ver)))
def Ru.right (r : Ru) : Bool :=
  (decide (r.ver = 0) || (decide (r.ver = 4) || decide (r.ver = 6))) && (decide (-1 ≤ r.pro) && (decide (r.pro ≤ 255) && (r.pok r.src && (r.pok r.dst &&
    (decide (r.slo ≤ r.shi) && (decide (r.dlo ≤ r.dhi) && (decide (0 ≤ r.cls) && (decide (r.cls < 8) && (!r.deny || decide (r.cls = 0))))))))))
def ported (lo hi : Int) (k : Ky) (n : Int) : Bool := (decide (lo = 0) && decide (hi = 65535)) || ((decide (k.pro = 6) || decide (k.pro = 17)) && (decide (lo ≤ n) && decide (n ≤ hi)))
def kver (a : Ad) : Int := if a.six then 6 else 4
def f0 (r : Ru) (k : Ky) : Bool := decide (r.ver = 0) || decide (r.ver = kver k.src)
def f1 (r : Ru) (k : Ky) : Bool := decide (r.pro < 0) || decide (r.pro = k.pro)
def f2 (r : Ru) (k : Ky) : Bool := r.src.none || r.src.has k.src
def f3 (r : Ru) (k : Ky) : Bool := r.dst.none || r.dst.has k.dst
def f4 (r : Ru) (k : Ky) : Bool := ported r.slo r.shi k k.sp
def f5 (r : Ru) (k : Ky) : Bool := ported r.dlo r.dhi k k.dp
def h0 (r s : Ru) : Bool := decide (r.ver = 0) || decide (r.ver = s.ver)
def h1 (r s : Ru) : Bool := decide (r.pro < 0) || decide (r.pro = s.pro)
def h2 (r s : Ru) : Bool := prefixed r.src s.src
def h3 (r s : Ru) : Bool := prefixed r.dst s.dst
def h4 (r s : Ru) : Bool := decide (r.slo ≤ s.slo) && decide (s.shi ≤ r.shi)
def h5 (r s : Ru) : Bool := decide (r.dlo ≤ s.dlo) && decide (s.dhi ≤ r.dhi)
def fI (i : Nat) (r : Ru) (k : Ky) : Bool := match i with
  | 0 => f0 r k | 1 => f1 r k | 2 => f2 r k | 3 => f3 r k | 4 => f4 r k | _ => f5 r k
def hI (i : Nat) (r s : Ru) : Bool := match i with
  | 0 => h0 r s | 1 => h1 r s | 2 => h2 r s | 3 => h3 r s | 4 => h4 r s | _ => h5 r s
def fitsAll (r : Ru) (k : Ky) : Bool := f0 r k && (f1 r k && (f2 r k && (f3 r k && (f4 r k && f5 r k))))
def covers (r s : Ru) : Bool := h0 r s && (h1 r s && (h2 r s && (h3 r s && (h4 r s && h5 r s))))
def fits (r : Ru) (k : Ky) : Bool := r.right && fitsAll r k
def anyR (d : Bool) (c : Int) : Ru := ⟨0, -1, zP, zP, 0, 65535, 0, 65535, d, c⟩
/-- the class, out of the rule that tells -/
def told (r : Ru) : Int × Int := if r.deny then (0, 90) else (r.cls, 0)
def which (rs : List Ru) (k : Ky) : Option Nat := rs.findIdx? (fun r => fits r k)
def tells (rs : List Ru) (ot : Ru) (k : Ky) : Int × Int := told ((rs.find? (fun r => fits r k)).getD ot)
/-- the dead rules' places, from place i on -/
def deadFrom (before : List Ru) : List Ru → List Nat
  | [] => []
  | s :: r => (if before.any (fun q => covers q s) then [before.length] else []) ++ deadFrom (before ++ [s]) r
def dead (rs : List Ru) : List Nat := deadFrom [] rs
theorem mB_isB (m : Int) (i : Nat) (x : Int) : isB (mB m i x) := by
  unfold mB bitK isB
  simp only
  rw [IntKind.wrap_u8]
  omega
theorem cutB_len (b : List Int) (m : Int) : (cutB b m).length = b.length := by simp [cutB]
theorem zA_ok : zA.ok := ⟨rfl, fun x hx => by
  rw [(List.mem_replicate.1 hx).2]; decide⟩
theorem zP_ok : zP.ok := ⟨zA_ok, by decide⟩
theorem clip_ok (a : Ad) (n : Int) : 0 ≤ clip a n ∧ clip a n ≤ 128 := by
  unfold clip maxI minI Ad.size
  split <;> split <;> split <;> simp_all <;> omega
theorem cut_ok {a : Ad} (o : a.ok) (n : Int) : (cut a n).ok := by
  unfold cut
  split
  · refine ⟨⟨by rw [cutB_len]; exact o.len, fun x hx => ?_⟩, ?_⟩
    · obtain ⟨i, hi, rfl⟩ := List.mem_iff_getElem.1 hx
      simp only [cutB, List.getElem_mapIdx]
      exact mB_isB _ _ _
    · have := clip_ok a n
      unfold isL; dsimp only; omega
  · exact zP_ok
theorem anyR_ok (d : Bool) {c : Int} (hc : isL c) : (anyR d c).ok := ⟨(by decide : isL 0), (by decide : isL (-1)), zP_ok, zP_ok, (by decide : isW 0), (by decide : isW 65535), (by decide : isW 0), (by decide : isW 65535), hc⟩
end Go.Oct.L09
