/- Steps of memory: what each printed form asks of the state, and what it leaves. -/
import Derived.Test.YthfcnkeclcphpaaDoorSep
set_option linter.unusedVariables false
set_option linter.unusedSimpArgs false
namespace Go.Proofs.YthfcnkeclcphpaaDoor
open Go Go.RowKit

section
variable {P : Program} {w0 w : World} {O : Nat → Prop} {L R : List Assn} {g off : Nat} {t : TypeId} {cs cs' : Array Value} {fr : Nat × Nat} {v : Value}
/-! ### 1. Cells -/
theorem St.cell (h : St w0 O L w) (p : Pick (blk g (.cells cs t fr)) L R) (hv : cs[off]? = some v) : w.cell? ⟨g, off, none⟩ = some v := by
  unfold World.cell?
  rw [(h.pick p).get.1]
  simpa using hv
/-- A cell of what lay there when the call began. -/
theorem St.cell_old (h : St w0 O L w) (hO : O g) (hv : w0.cell? ⟨g, off, none⟩ = some v) : w.cell? ⟨g, off, none⟩ = some v := by
  rw [← hv]
  exact World.cell?_of_block (w := w0) (h.old g hO).2
theorem cellsAt_of {g off : Nat} : ∀ {vs : List Value} {i : Nat}, (∀ j v, vs[j]? = some v → w.cell? ⟨g, off + (i + j), none⟩ = some v) → cellsAt w ⟨g, off, none⟩ i vs
  | [], _, _ => trivial
  | v :: r, i, h => by
    refine ⟨?_, cellsAt_of (fun j u hj => ?_)⟩
    · have h0 := h 0 v rfl
      unfold Addr.add
      split
      · rename_i hi
        subst hi
        simpa using h0
      · simpa using h0
    · have := h (j + 1) u (by simpa using hj)
      rw [show i + 1 + j = i + (j + 1) from by omega]
      exact this
theorem St.cells {vs : List Value} (h : St w0 O L w) (p : Pick (blk g (.cells cs t fr)) L R) (hv : ∀ j v, vs[j]? = some v → cs[off + j]? = some v) : cellsAt w ⟨g, off, none⟩ 0 vs :=
  cellsAt_of fun j v hj => by rw [Nat.zero_add]; exact h.cell p (hv j v hj)
/-- A whole block is read. -/
theorem St.cells0 {vs : List Value} (h : St w0 O L w) (p : Pick (blk g (.cells vs.toArray t fr)) L R) : cellsAt w ⟨g, 0, none⟩ 0 vs :=
  h.cells p fun j v hj => by rw [Nat.zero_add]; simpa using hj

/-! ### 2. New blocks -/
theorem newW_of {s : Sem Value} {K : Nat → World → Prop} {o : Obj} (h : St w0 O L w) (hr : s.run P w = .ok (.pointer (some ⟨w.heap.size, 0, none⟩)) (w.alloc o))
    (k : ∀ g w', St w0 O (blk g o :: L) w' → K g w') : newW P s w K := ⟨_, _, hr, k _ _ (h.alloc o)⟩
theorem run_box (t : TypeId) (v : Value) : (Instr.box t v).run P w = .ok (.pointer (some ⟨w.heap.size, 0, none⟩)) (w.alloc (.cells v.cells t)) := rfl
theorem new_box {K : Nat → World → Prop} (h : St w0 O L w) (k : ∀ g w', St w0 O (blk g (.cells v.cells t) :: L) w' → K g w') : newW P (Instr.box t v) w K :=
  newW_of h (run_box t v) k
def zeroOf (P : Program) (t : TypeId) : Option Value := match P.info? t with
  | some i => i.zero
  | none => none
theorem run_zero {z : Value} (hz : zeroOf P t = some z) (w : World) : (zeroValue t).run P w = .ok z w := by
  unfold zeroOf at hz
  split at hz
  · rename_i i hi
    simp [zeroValue, typeInfo, run_program, hi, hz]
  · cases hz
theorem run_alloc {z : Value} (hz : zeroOf P t = some z) : (Instr.alloc t true (.tuple #[])).run P w = .ok (.pointer (some ⟨w.heap.size, 0, none⟩)) (w.alloc (.cells z.cells t)) := by
  simp only [Instr.alloc, Sem.run_bind, run_zero hz, Result.andThen_ok]
  rfl
theorem new_alloc {z : Value} {K : Nat → World → Prop} (h : St w0 O L w) (hz : zeroOf P t = some z) (k : ∀ g w', St w0 O (blk g (.cells z.cells t) :: L) w' → K g w') : newW P (Instr.alloc t true (.tuple #[])) w K :=
  newW_of h (run_alloc hz) k
theorem new_map {K : Nat → World → Prop} (h : St w0 O L w) (k : ∀ g w', St w0 O (blk g (.map #[] 0) :: L) w' → K g w') : mkmW P (Instr.makeMap t none) w K :=
  ⟨_, _, rfl, k _ _ (h.alloc _)⟩

/-! ### 3. Stores -/
theorem run_storeCells : ∀ (vs : List Value) (i : Nat) (w : World) (cs : Array Value), w.heap[g]? = some (.cells cs t (0, 0)) → off + i + vs.length ≤ cs.size → (∀ v ∈ vs, v.oneCell' = true) →
    ∃ w', (storeCells ⟨g, off, none⟩ vs i).run P w = .ok () w' ∧ w'.os = w.os ∧ w'.tape = w.tape ∧ w'.output = w.output ∧ w'.heap.size = w.heap.size ∧
      w'.heap[g]? = some (.cells (vs.zipIdx.foldl (fun c p => c.setIfInBounds (off + i + p.2) p.1) cs) t (0, 0)) ∧ ∀ b, b ≠ g → w'.heap[b]? = w.heap[b]?
  | [], i, w, cs, hg, _, _ => ⟨w, rfl, rfl, rfl, rfl, rfl, by simpa using hg, fun _ _ => rfl⟩
  | v :: r, i, w, cs, hg, hlen, h1 => by
    have hadd : (⟨g, off, none⟩ : Addr).add i = ⟨g, off + i, none⟩ := by unfold Addr.add; split <;> simp_all
    have hc : ∃ u, w.cell? ⟨g, off + i, none⟩ = some u := by
      have : off + i < cs.size := by simp at hlen; omega
      exact ⟨cs[off + i], by unfold World.cell?; rw [hg]; simp [this]⟩
    obtain ⟨u, hu⟩ := hc
    have hf : w.frozen? ⟨g, off + i, none⟩ = false := by unfold World.frozen?; rw [hg]; simp
    have hst : (store ⟨g, off + i, none⟩ v).run P w = .ok () (w.setCell ⟨g, off + i, none⟩ v) := by
      rw [run_store P w _ v .plain (h1 v List.mem_cons_self), hu]
      simp [hf]
    have hg1 : (w.setCell ⟨g, off + i, none⟩ v).heap[g]? = some (.cells (cs.setIfInBounds (off + i) v) t (0, 0)) := by
      simp only [World.setCell, Array.getElem?_modify, if_true, hg, Option.map_some]
      rfl
    obtain ⟨w', hr, e1, e2, e3, e4, e5, e6⟩ := run_storeCells r (i + 1) (w.setCell ⟨g, off + i, none⟩ v) _ hg1 (by simp at hlen ⊢; omega) (fun x hx => h1 x (List.mem_cons_of_mem _ hx))
    refine ⟨w', ?_, e1, e2, e3, by rw [e4]; simp [World.setCell], ?_, fun b hb => (e6 b hb).trans (Below.heap_setCell _ _ _ _ hb)⟩
    · simp only [storeCells, hadd, Sem.run_bind, hst, Result.andThen_ok]
      exact hr
    · rw [e5]
      congr 2
      simp only [List.zipIdx_cons, List.foldl_cons, Nat.add_zero, Nat.zero_add]
      rw [show (r.zipIdx 1) = (r.zipIdx 0).map (fun p => (p.1, p.2 + 1)) from by rw [← List.zipIdx_succ]]
      rw [List.foldl_map]
      congr 1
      funext c p
      rw [show off + (i + 1) + p.2 = off + i + (p.2 + 1) from by omega]
def putAt (cs : Array Value) (off : Nat) (vs : List Value) : Array Value := vs.zipIdx.foldl (fun c p => c.setIfInBounds (off + p.2) p.1) cs
theorem st_W {K : World → Prop} (h : St w0 O L w) (p : Pick (blk g (.cells cs t (0, 0))) L R) (u : TypeId) (hs : sizeIs P u v.cells.size = true) (hone : v.cells.toList.all Value.oneCell' = true) (hlen : off + v.cells.size ≤ cs.size)
    (k : ∀ w', St w0 O (blk g (.cells (putAt cs off v.cells.toList) t (0, 0)) :: R) w' → K w') : stW P u ⟨g, off, none⟩ v w K := by
  have h1 := h.pick p
  obtain ⟨w', hr, e1, e2, e3, e4, e5, e6⟩ := run_storeCells (P := P) (g := g) (off := off) (t := t) v.cells.toList 0 w cs h1.get.1 (by simpa using hlen) (fun x hx => List.all_eq_true.1 hone x hx)
  refine ⟨w', ?_, k w' (h1.write e1 e2 e3 e4 (by simpa [putAt] using e5) e6)⟩
  simp only [Instr.storeAt, Instr.sureAddr, Sem.run_bind, Sem.run_pure, Result.andThen_ok, storeVar, run_sizeOf_is hs, ne_eq, not_true_eq_false, if_false]
  exact hr
/-! ### 4. Short rows that are built at once, and stores as splices -/
theorem run_bsl {e : TypeId} {n sz : Nat} {z : Value} {parts : Array (Nat × Value)} {cells : Array Value} (hu : P.underlying t = some (.slice e)) (hs : sizeIs P e sz = true) (hz : zeroOf P e = some z)
    (hn : n * sz ≠ 0) (hmax : n * sz ≤ 2 ^ 24) (hf : Instr.fill (fun i => some (i * sz, sz)) ((Array.range (n * sz)).map (z.cells[· % z.cells.size]!)) parts.toList = some cells) (w : World) :
    (Instr.buildSlice t n parts).run P w = .ok (.slice (some ⟨w.heap.size, 0, none⟩) n n) (w.alloc (.cells cells e)) := by
  have hm : ¬ n * sz > 2 ^ 24 := by omega
  simp only [Instr.buildSlice, Sem.run_bind, run_underlying hu, Result.andThen_ok, run_sizeOf_is hs, hm, if_false, hn, run_zero hz, Sem.run_pure, hf]
  rfl
theorem bsl_W {K : Nat → World → Prop} {e : TypeId} {n sz : Nat} {z : Value} {parts : Array (Nat × Value)} {cells : Array Value} (h : St w0 O L w) (hu : P.underlying t = some (.slice e)) (hs : sizeIs P e sz = true) (hz : zeroOf P e = some z)
    (hn : n * sz ≠ 0) (hmax : n * sz ≤ 2 ^ 24) (hf : Instr.fill (fun i => some (i * sz, sz)) ((Array.range (n * sz)).map (z.cells[· % z.cells.size]!)) parts.toList = some cells)
    (k : ∀ g w', St w0 O (blk g (.cells cells e) :: L) w' → K g w') : bslW P n (Instr.buildSlice t n parts) w K :=
  ⟨w.heap.size, w.alloc (.cells cells e), run_bsl hu hs hz hn hmax hf w, k _ _ (h.alloc _)⟩
theorem setIf_append (pre mid post : List Value) (v u : Value) : ((pre ++ u :: post).toArray.setIfInBounds pre.length v) = (pre ++ v :: post).toArray := by
  simp
theorem putAt_go : ∀ (vs pre mid post : List Value) (i : Nat), vs.length = mid.length → off + i = pre.length →
    (vs.zipIdx i).foldl (fun c p => c.setIfInBounds (off + p.2) p.1) (pre ++ mid ++ post).toArray = (pre ++ vs ++ post).toArray
  | [], pre, [], post, i, _, _ => by simp
  | v :: r, pre, u :: mid, post, i, hl, hi => by
    have h1 := putAt_go r (pre ++ [v]) mid post (i + 1) (by simpa using hl) (by simp; omega)
    simp only [List.zipIdx_cons, List.foldl_cons]
    rw [show (pre ++ u :: mid ++ post) = pre ++ u :: (mid ++ post) from by simp]
    rw [show off + i = pre.length from hi, setIf_append pre mid (mid ++ post) v u]
    rw [show (pre ++ v :: (mid ++ post)) = pre ++ [v] ++ mid ++ post from by simp, h1]
    simp
/-- A store, as a splice. -/
theorem putAt_splice (pre mid post vs : List Value) (hl : vs.length = mid.length) (ho : off = pre.length) : putAt (pre ++ mid ++ post).toArray off vs = (pre ++ vs ++ post).toArray :=
  putAt_go vs pre mid post 0 hl (by omega)
theorem putAt_one (cs : Array Value) (off : Nat) (v : Value) : putAt cs off [v] = cs.setIfInBounds off v := rfl
end
end Go.Proofs.YthfcnkeclcphpaaDoor
