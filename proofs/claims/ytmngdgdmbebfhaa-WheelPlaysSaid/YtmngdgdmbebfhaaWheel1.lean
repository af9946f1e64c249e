/- The wheel's state, and what its small functions do to it. -/
import Derived.Test.YtmngdgdmbebfhaaWheelF
import Derived.Test.YtmngdgdmbebfhaaIterMem
set_option linter.unusedVariables false
set_option linter.unusedSimpArgs false
namespace Go.Proofs.Ytmngdgdmbebfhaa
open Go Go.RowKit

/-! ### 1. The memory -/
theorem perm_eraseIdx {α : Type} : ∀ {l : List α} {i : Nat} (h : i < l.length), (l[i] :: l.eraseIdx i).Perm l
  | x :: r, 0, _ => by simp
  | x :: r, i + 1, h => by
    have := perm_eraseIdx (l := r) (i := i) (by simpa using h)
    exact (List.Perm.swap _ _ _).trans (this.cons x)
structure Al where
  key : Int
  at_ : Int
  seq : Int
  deriving DecidableEq, Inhabited
def Al.cells (x : Al) : List Value := [.int .u64 x.key, .int .i64 x.at_, .int .u64 x.seq]
def Al.enc (x : Al) : Value := .agg x.cells.toArray
def u64V (n : Int) : Value := .int .u64 n
def slV (v : Option Addr × Nat × Nat) : Value := .slice v.1 v.2.1 v.2.2
abbrev RV := (Option Addr × Nat × Nat) × List Al
def wtail (gm : Nat) (now seq : Int) : List Value := [.map (some gm), .int .i64 now, .int .u64 seq]
def wcells (Rs : List RV) (gm : Nat) (now seq : Int) : Array Value := (Rs.map (fun r => slV r.1) ++ wtail gm now seq).toArray
def rC (r : RV) : Assn := rowC 60 3 r.1.1 r.1.2.1 r.1.2.2 (r.2.flatMap Al.cells)
/-- A wheel's block, and its rows. -/
def wM (g gm : Nat) (now seq : Int) (rows : List (List Al)) : Assn := fun h => ∃ Rs : List RV, (Rs.length = 320 ∧ Rs.map (·.2) = rows) ∧ stars (blk g (.cells (wcells Rs gm now seq) 58) :: Rs.map rC) h
attribute [irreducible] wM
section
variable {w0 w : World} {O : Nat → Prop} {L : List Assn} {g gm : Nat} {now seq : Int} {rows : List (List Al)} {Rs : List RV}
theorem wM_open (h : St w0 O (wM g gm now seq rows :: L) w) : ∃ Rs : List RV, (Rs.length = 320 ∧ Rs.map (·.2) = rows) ∧ St w0 O (blk g (.cells (wcells Rs gm now seq) 58) :: (Rs.map rC ++ L)) w := by
  unfold wM at h
  obtain ⟨Rs, h⟩ := h.ex
  obtain ⟨hp, h⟩ := h.pure
  exact ⟨Rs, hp, h.flat⟩
theorem wM_shut (hp : Rs.length = 320) (hr : Rs.map (·.2) = rows) (h : St w0 O (blk g (.cells (wcells Rs gm now seq) 58) :: (Rs.map rC ++ L)) w) : St w0 O (wM g gm now seq rows :: L) w :=
  St.make (M := blk g (.cells (wcells Rs gm now seq) 58) :: Rs.map rC) h fun k hk => by unfold wM; exact ⟨Rs, ⟨hp, hr⟩, hk⟩
theorem wM_len (h : St w0 O (wM g gm now seq rows :: L) w) : rows.length = 320 := by
  obtain ⟨Rs, ⟨h1, rfl⟩, _⟩ := wM_open h
  simpa using h1
theorem wcells_by (h : Rs.length = 320) : (wcells Rs gm now seq)[320]? = some (.map (some gm)) := by simp [wcells, wtail, h]
theorem wcells_now (h : Rs.length = 320) : (wcells Rs gm now seq)[321]? = some (.int .i64 now) := by simp [wcells, wtail, h]
theorem wcells_seq (h : Rs.length = 320) : (wcells Rs gm now seq)[322]? = some (.int .u64 seq) := by simp [wcells, wtail, h]
theorem wcells_row {i : Nat} {r : RV} (hi : Rs[i]? = some r) : (wcells Rs gm now seq)[i]? = some (slV r.1) := by
  obtain ⟨hlt, rfl⟩ := List.getElem?_eq_some_iff.1 hi
  simp [wcells, List.getElem?_append, hlt]
theorem wcells_size : (wcells Rs gm now seq).size = Rs.length + 3 := by simp [wcells, wtail]
theorem putAt_now (h : Rs.length = 320) (n : Int) : putAt (wcells Rs gm now seq) 321 [.int .i64 n] = wcells Rs gm n seq := by
  have := putAt_splice (off := 321) (Rs.map (fun r => slV r.1) ++ [.map (some gm)]) [.int .i64 now] [.int .u64 seq] [.int .i64 n] rfl (by simp [h])
  simpa [wcells, wtail] using this
theorem putAt_seq (h : Rs.length = 320) (n : Int) : putAt (wcells Rs gm now seq) 322 [.int .u64 n] = wcells Rs gm now n := by
  have := putAt_splice (off := 322) (Rs.map (fun r => slV r.1) ++ [.map (some gm), .int .i64 now]) [.int .u64 seq] [] [.int .u64 n] rfl (by simp [h])
  simpa [wcells, wtail] using this
theorem putAt_row {i : Nat} (hi : i < Rs.length) (v : Option Addr × Nat × Nat) (r : List Al) : putAt (wcells Rs gm now seq) i [slV v] = wcells (Rs.set i (v, r)) gm now seq := by
  rw [putAt_one, wcells, wcells, List.map_set, List.setIfInBounds_toArray, List.set_append_left _ _ (by simpa using hi)]
theorem putAt_all (Rs' : List RV) (h : Rs'.length = Rs.length) : putAt (wcells Rs gm now seq) 0 (Rs'.map fun r => slV r.1) = wcells Rs' gm now seq := by
  have := putAt_splice (off := 0) [] (Rs.map (fun r => slV r.1)) (wtail gm now seq) (Rs'.map fun r => slV r.1) (by simp [h]) rfl
  simpa [wcells] using this
/-- One row is taken out of the state. -/
theorem row_out {i : Nat} {r : RV} {c : Assn} (hi : Rs[i]? = some r) (h : St w0 O (c :: (Rs.map rC ++ L)) w) : St w0 O (rC r :: c :: ((Rs.eraseIdx i).map rC ++ L)) w := by
  obtain ⟨hlt, rfl⟩ := List.getElem?_eq_some_iff.1 hi
  refine h.perm ?_
  have h1 : (Rs.map rC).Perm (rC Rs[i] :: (Rs.eraseIdx i).map rC) := by
    have := (perm_eraseIdx hlt).map rC
    simpa using this.symm
  exact ((h1.append_right L).cons c).trans (List.Perm.swap _ _ _)
theorem row_in {i : Nat} {r : RV} {c : Assn} (hi : i < Rs.length) (h : St w0 O (rC r :: c :: ((Rs.eraseIdx i).map rC ++ L)) w) : St w0 O (c :: ((Rs.set i r).map rC ++ L)) w := by
  refine h.perm ?_
  have h1 : ((Rs.set i r).map rC).Perm (rC r :: (Rs.eraseIdx i).map rC) := by
    have := (perm_eraseIdx (l := Rs.set i r) (i := i) (by simpa using hi)).map rC
    rw [List.getElem_set_self, List.eraseIdx_set_eq] at this
    simpa using this.symm
  exact (List.Perm.swap _ _ _).trans ((h1.append_right L).cons c).symm
end
theorem keyU64 : KeyT Try.prog 27 u64V := keyT_int Try.underlying27
theorem elemAl : ElemT Try.prog 54 60 3 24 := elemT_of Try.underlying54 (by kernel_rfl) (by decide)
end Go.Proofs.Ytmngdgdmbebfhaa
