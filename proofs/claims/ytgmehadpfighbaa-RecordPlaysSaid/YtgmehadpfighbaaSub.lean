/- Subscribers in memory. -/
import Derived.Test.YtgmehadpfighbaaFns
import Derived.Test.YtgmehadpfighbaaRe
set_option linter.unusedVariables false
set_option linter.unusedSimpArgs false
namespace Go.Proofs.Ytgmehadpfighbaa
open Go Go.RowKit

theorem wrap_i64 {n : Int} (h1 : -9223372036854775808 ≤ n) (h2 : n < 9223372036854775808) : IntKind.wrap .i64 n = n := by
  simp [IntKind.wrap, IntKind.bits, IntKind.signed]; omega
theorem wrap_u64 {n : Int} (h1 : 0 ≤ n) (h2 : n < 18446744073709551616) : IntKind.wrap .u64 n = n := by
  simp [IntKind.wrap, IntKind.bits, IntKind.signed]; omega
theorem wrap_u32 {n : Int} (h1 : 0 ≤ n) (h2 : n < 4294967296) : IntKind.wrap .u32 n = n := by
  simp [IntKind.wrap, IntKind.bits, IntKind.signed]; omega
theorem wrap_u8 {n : Int} (h1 : 0 ≤ n) (h2 : n < 256) : IntKind.wrap .u8 n = n := by
  simp [IntKind.wrap, IntKind.bits, IntKind.signed]; omega
theorem add_eq (g off i : Nat) : (⟨g, off, none⟩ : Addr).add i = ⟨g, off + i, none⟩ := addr_eq g off i
theorem nat_wrap' {i : Nat} (h : i < 2 ^ 62) : IntKind.wrap .i64 ((i : Int) + 1) = ((i + 1 : Nat) : Int) := by rw [wrap_i64 (by omega) (by omega)]; rfl
structure SubV where
  name : ByteArray
  secret : ByteArray
  plan : ByteArray
  addr : Int
  susp : Bool
  deriving DecidableEq
abbrev eB : ByteArray := { data := #[] }
def SubV.zero : SubV := ⟨eB, eB, eB, 0, false⟩
instance : Inhabited SubV := ⟨SubV.zero⟩
def SubV.cells (x : SubV) : List Value := [.string x.name, .string x.secret, .string x.plan, .int .u32 x.addr, .bool x.susp]
def SubV.enc (x : SubV) : Value := .agg x.cells.toArray
def encSub : EncT Try.prog 33 5 SubV where
  cells := SubV.cells
  zero := SubV.zero
  len _ := rfl
  one _ := rfl
  zeroOk := by kernel_rfl
  size := by kernel_rfl
theorem elemSub : ElemT Try.prog 24 33 5 56 := elemT_of Try.underlying24 (by kernel_rfl) (by decide)
def strV (s : ByteArray) : Value := .string s
def u32V (n : Int) : Value := .int .u32 n
theorem keyStr : KeyT Try.prog 9 strV := keyT_str Try.underlying9
theorem keyU32 : KeyT Try.prog 31 u32V := keyT_int Try.underlying31
/-- Rows of subscribers. -/
abbrev subsC (A : Option Addr) (n c : Nat) (l : List SubV) : Assn := rowS encSub A n c l
section
variable {w0 w : World} {O : Nat → Prop} {L R : List Assn} {g : Nat}
theorem allocSub {K : Nat → World → Prop} (h : St w0 O L w) (k : ∀ g w', St w0 O (blk g (.cells SubV.zero.cells.toArray 33) :: L) w' → K g w') : newW Try.prog (Instr.alloc 33 true (.tuple #[])) w K :=
  allocE encSub h k
theorem stSub {K : World → Prop} {y : SubV} (x : SubV) (h : St w0 O L w) (p : Pick (blk g (.cells y.cells.toArray 33)) L R) (k : ∀ w', St w0 O (blk g (.cells x.cells.toArray 33) :: R) w' → K w') :
    stW Try.prog 33 ⟨g, 0, none⟩ x.enc w K := stE encSub (cs := y.cells) rfl h p x k
end
end Go.Proofs.Ytgmehadpfighbaa
