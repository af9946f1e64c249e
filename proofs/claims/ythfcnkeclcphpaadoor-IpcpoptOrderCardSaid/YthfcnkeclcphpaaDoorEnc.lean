/- Structs in cells, in one form for all: boxes of them, rows of them. -/
import Derived.Test.YthfcnkeclcphpaaDoorRowGen
import Derived.Test.YthfcnkeclcphpaaDoorRis
set_option linter.unusedVariables false
set_option linter.unusedSimpArgs false
namespace Go.Proofs.YthfcnkeclcphpaaDoor
open Go Go.RowKit

structure EncT (P : Program) (t sz : Nat) (α : Type) where
  cells : α → List Value
  zero : α
  len : ∀ x, (cells x).length = sz
  one : ∀ x, (cells x).all Value.oneCell' = true
  zeroOk : zeroOf P t = some (.agg (cells zero).toArray)
  size : sizeIs P t sz = true
section
variable {P : Program} {w0 w : World} {O : Nat → Prop} {L R : List Assn} {g n c m d : Nat} {A B : Option Addr} {t ts sz bytes : Nat} {α : Type}
theorem allocE {K : Nat → World → Prop} (E : EncT P t sz α) (h : St w0 O L w) (k : ∀ g w', St w0 O (blk g (.cells (E.cells E.zero).toArray t) :: L) w' → K g w') : newW P (Instr.alloc t true (.tuple #[])) w K :=
  new_alloc h E.zeroOk k
theorem boxE {K : Nat → World → Prop} (E : EncT P t sz α) (x : α) (h : St w0 O L w) (k : ∀ g w', St w0 O (blk g (.cells (E.cells x).toArray t) :: L) w' → K g w') : newW P (Instr.box t (.agg (E.cells x).toArray)) w K :=
  new_box h k
theorem putAt_whole (a b : List Value) (h : b.length = a.length) : putAt a.toArray 0 b = b.toArray := by
  have := putAt_splice (off := 0) [] a [] b h rfl
  simpa using this
theorem stE {K : World → Prop} (E : EncT P t sz α) {cs : List Value} (hc : cs.length = sz) (h : St w0 O L w) (p : Pick (blk g (.cells cs.toArray t)) L R) (x : α) (k : ∀ w', St w0 O (blk g (.cells (E.cells x).toArray t) :: R) w' → K w') :
    stW P t ⟨g, 0, none⟩ (.agg (E.cells x).toArray) w K := by
  refine st_W h p t ?_ (by simpa [Value.cells] using E.one x) (by simp [Value.cells, E.len, hc]) (fun w' h' => k w' ?_)
  · simpa [Value.cells, E.len] using E.size
  · have e : (Value.agg (E.cells x).toArray).cells.toList = E.cells x := rfl
    rw [e, putAt_whole _ _ (by rw [E.len, hc])] at h'
    exact h'
/-- A row of structs. -/
abbrev rowS (E : EncT P t sz α) (A : Option Addr) (n c : Nat) (l : List α) : Assn := rowC t sz A n c (l.flatMap E.cells)
theorem rowS_len (E : EncT P t sz α) (hp : 0 < sz) {l : List α} (h : St w0 O (rowS E A n c l :: L) w) : l.length = n ∧ n ≤ c := rowE_len E.len hp h
theorem rowS_nil (E : EncT P t sz α) (h : St w0 O L w) : St w0 O (rowS E none 0 0 [] :: L) w := rowC_nil h t sz
/-- Element j, as it lies. -/
theorem rowS_at (E : EncT P t sz α) (hp : 0 < sz) {l : List α} (h : St w0 O L w) (p : Pick (rowS E A n c l) L R) {j : Nat} {x : α} (hx : l[j]? = some x) :
    ∃ gr, A = some ⟨gr, 0, none⟩ ∧ j < n ∧ cellsAt w ⟨gr, j * sz, none⟩ 0 (E.cells x) := rowE E.len hp (h.pick p) hx
theorem fill_rows (E : EncT P t sz α) : ∀ (xs : List α) (i : Nat) (pre mid : List Value), pre.length = i * sz → mid.length = xs.length * sz →
    Instr.fill (fun i => some (i * sz, sz)) (pre ++ mid).toArray ((xs.zipIdx i).map fun p => (p.2, .agg (E.cells p.1).toArray)) = some (pre ++ xs.flatMap E.cells).toArray
  | [], i, pre, mid, _, h2 => by
    obtain rfl : mid = [] := List.eq_nil_of_length_eq_zero (by simpa using h2)
    rfl
  | x :: r, i, pre, mid, h1, h2 => by
    have hs : (Value.agg (E.cells x).toArray).cells.size = sz := by simp [Value.cells, E.len]
    rw [List.length_cons, Nat.add_mul, Nat.one_mul] at h2
    have hm : ¬ ((Value.agg (E.cells x).toArray).cells.size ≠ sz ∨ i * sz + (Value.agg (E.cells x).toArray).cells.size > (pre ++ mid).toArray.size) := by
      rw [hs]; simp [h1]; omega
    simp only [List.zipIdx_cons, List.map_cons, Instr.fill]
    rw [if_neg (by simpa using hm)]
    have e : (Value.agg (E.cells x).toArray).cells.zipIdx.foldl (fun cs (p : Value × Nat) => cs.setIfInBounds (i * sz + p.2) p.1) (pre ++ mid).toArray = putAt (pre ++ mid).toArray (i * sz) (E.cells x) := by
      unfold putAt
      rw [← Array.foldl_toList, Array.toList_zipIdx]
      rfl
    have e2 := putAt_splice (off := i * sz) pre (mid.take sz) (mid.drop sz) (E.cells x) (by rw [E.len, List.length_take]; omega) h1.symm
    rw [List.append_assoc, List.take_append_drop] at e2
    have h3 := fill_rows E r (i + 1) (pre ++ E.cells x) (mid.drop sz) (by rw [List.length_append, h1, E.len, Nat.add_mul, Nat.one_mul]) (by rw [List.length_drop]; omega)
    rw [List.flatMap_cons, ← List.append_assoc]
    rw [← h3]
    congr 1
    exact e.trans e2
/-- Some things, in a short row of their own. -/
theorem bslE {K : Nat → World → Prop} (E : EncT P t sz α) (ET : ElemT P ts t sz bytes) (xs : List α) {parts : Array (Nat × Value)} (hp : parts.toList = xs.zipIdx.map fun p => (p.2, .agg (E.cells p.1).toArray)) (h0 : xs ≠ []) (hm : xs.length * sz ≤ 2 ^ 24) (h : St w0 O L w)
    (k : ∀ g w', St w0 O (blk g (.cells (xs.flatMap E.cells).toArray t) :: L) w' → K g w') : bslW P xs.length (Instr.buildSlice ts xs.length parts) w K := by
  have hlen : 0 < xs.length := List.length_pos_iff.2 h0
  refine bsl_W (e := t) (sz := sz) (z := .agg (E.cells E.zero).toArray) h ET.slice E.size E.zeroOk (by have := Nat.mul_pos hlen ET.pos; omega) hm ?_ k
  rw [hp]
  generalize hz : (Array.range (xs.length * sz)).map _ = arr
  have ha : arr.toList.length = xs.length * sz := by rw [← hz]; simp
  have := fill_rows E xs 0 [] arr.toList (by simp) ha
  simpa using this
theorem bslE1 {K : Nat → World → Prop} (E : EncT P t sz α) (ET : ElemT P ts t sz bytes) (x : α) (hm : sz ≤ 2 ^ 24) (h : St w0 O L w)
    (k : ∀ g w', St w0 O (blk g (.cells (E.cells x).toArray t) :: L) w' → K g w') : bslW P 1 (Instr.buildSlice ts 1 #[(0, .agg (E.cells x).toArray)]) w K := by
  refine bslE E ET [x] (parts := #[(0, .agg (E.cells x).toArray)]) rfl (by simp) (by simpa using hm) h (fun g w' h' => k g w' ?_)
  rw [show [x].flatMap E.cells = E.cells x from by simp] at h'
  exact h'
/-- One thing is appended. -/
theorem appE {K : Option Addr → Nat → Nat → World → Prop} {gb : Nat} {l : List α} (E : EncT P t sz α) (ET : ElemT P ts t sz bytes) (u : TypeId) (x : α) (h : St w0 O L w) (p : Pick (rowS E A n c l) L R)
    (hb : cellsAt w ⟨gb, 0, none⟩ 0 (E.cells x)) (hn : n < 2 ^ 30) (hby : bytes ≤ 65536) (k : ∀ A' c' w', St w0 O (rowS E A' (n + 1) c' (l ++ [x]) :: R) w' → K A' (n + 1) c' w') :
    slW P (Builtin.append_ #[ts, ts] u #[.slice A n c, .slice (some ⟨gb, 0, none⟩) 1 1]) w K :=
  appendE ET E.len E.one u x h p hb hn hby k
/-- A short row that was just built, as a row. -/
theorem rowS_of (E : EncT P t sz α) {xs : List α} {k : Nat} (hk : xs.length = k) (hmax : k ≤ 2 ^ 20) (h : St w0 O L w) (p : Pick (blk g (.cells (xs.flatMap E.cells).toArray t)) L R) : St w0 O (rowS E (some ⟨g, 0, none⟩) k k xs :: R) w := by
  have hl : (xs.flatMap E.cells).length = k * sz := by rw [flatE_len E.len, hk]
  refine rowC_shut rfl (Nat.le_refl _) (by simp [maxLen]; omega) (by simpa using hl) ?_ hl (h.pick p)
  show (xs.flatMap E.cells).take (k * sz) = _
  rw [← hl, List.take_length]
end
end Go.Proofs.YthfcnkeclcphpaaDoor
