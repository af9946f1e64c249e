/- Alarms are sorted by slices.SortFunc. -/
import Derived.Test.YtmngdgdmbebfhaaWSort
import Derived.Test.YtmngdgdmbebfhaaWheel5
import Derived.Shelf.SlSortCmp.NoneTotal
set_option linter.unusedVariables false
set_option linter.unusedSimpArgs false
namespace Go.Proofs.Ytmngdgdmbebfhaa
open Go Go.RowKit Go.Sort

/-! ### 1. The comparison -/
/-- Draws and new blocks alone. -/
def Grew (w w' : World) : Prop := ∃ q os, w' = grow (w.drewN q) os
theorem Grew.refl (w : World) : Grew w w := ⟨0, #[], by rw [grow_empty]; rfl⟩
theorem Grew.drew {w w' : World} (h : Grew w w') : Grew w w'.drew := by
  obtain ⟨q, os, rfl⟩ := h
  exact ⟨q + 1, os, rfl⟩
theorem Grew.alloc {w w' : World} (h : Grew w w') (o : Obj) : Grew w (w'.alloc o) := by
  obtain ⟨q, os, rfl⟩ := h
  exact ⟨q, os ++ #[o], by rw [alloc_eq_grow, grow_grow]⟩
def cmpI (a b : Int) : Int := if a < b then -1 else if a > b then 1 else 0
theorem cmp38 (a b : Int) (w : World) : Calls Try.prog 38 #[.int .i64 a, .int .i64 b] w fun e w' => e = .returned (.int .i64 (cmpI a b)) ∧ w' = w := by
  have nan : ∀ (a : Int) (w : World), Calls Try.prog 43 #[.int .i64 a] w fun e w' => e = .returned (.bool false) ∧ w' = w := fun a w =>
    F43.calls ⟨by rw [show (a != a) = false from by simp], rfl⟩
  refine F38.calls ?_
  unfold F38.main
  refine (nan a w).mono ?_
  rintro e w1 ⟨rfl, rfl⟩
  refine .inl ⟨_, rfl, ?_⟩
  refine (nan b _).mono ?_
  rintro e w1 ⟨rfl, rfl⟩
  refine .inl ⟨_, rfl, ?_⟩
  simp only [cond_false]
  unfold cmpI
  by_cases h1 : a < b
  · simp [h1]
  · by_cases h2 : a > b
    · simp [h1, h2]
    · simp [h1, h2]
theorem cmp39 (a b : Int) (w : World) : Calls Try.prog 39 #[.int .u64 a, .int .u64 b] w fun e w' => e = .returned (.int .i64 (cmpI a b)) ∧ w' = w := by
  have nan : ∀ (a : Int) (w : World), Calls Try.prog 44 #[.int .u64 a] w fun e w' => e = .returned (.bool false) ∧ w' = w := fun a w =>
    F44.calls ⟨by rw [show (a != a) = false from by simp], rfl⟩
  refine F39.calls ?_
  unfold F39.main
  refine (nan a w).mono ?_
  rintro e w1 ⟨rfl, rfl⟩
  refine .inl ⟨_, rfl, ?_⟩
  refine (nan b _).mono ?_
  rintro e w1 ⟨rfl, rfl⟩
  refine .inl ⟨_, rfl, ?_⟩
  simp only [cond_false]
  unfold cmpI
  by_cases h1 : a < b
  · simp [h1]
  · by_cases h2 : a > b
    · simp [h1, h2]
    · simp [h1, h2]
theorem cmpOr (a b : Int) (g : Nat) (w : World) (h1 : w.cell? ⟨g, 0, none⟩ = some (.int .i64 a)) (h2 : w.cell? ⟨g, 1, none⟩ = some (.int .i64 b)) :
    Calls Try.prog 37 #[.slice (some ⟨g, 0, none⟩) 2 2] w fun e w' => e = .returned (.int .i64 (if a ≠ 0 then a else b)) ∧ w' = w := by
  refine F37.calls ?_
  unfold F37.main
  refine F37.p3_ok ?_
  unfold F37.p3
  rw [decide_eq_true (by decide), cond_true]
  refine ⟨⟨by decide, by decide⟩, a, h1, ?_⟩
  by_cases ha : a = 0
  · subst ha
    rw [show ((0 : Int) != 0) = false from rfl, cond_false]
    refine F37.p3_ok ?_
    unfold F37.p3
    rw [decide_eq_true (by decide), cond_true]
    refine ⟨⟨by decide, by decide⟩, b, h2, ?_⟩
    by_cases hb : b = 0
    · subst hb
      rw [show ((0 : Int) != 0) = false from rfl, cond_false]
      refine F37.p3_ok ?_
      unfold F37.p3
      rw [decide_eq_false (by decide), cond_false]
      exact ⟨rfl, rfl⟩
    · rw [show (b != 0) = true from by simpa using hb, cond_true]
      exact ⟨rfl, rfl⟩
  · rw [show (a != 0) = true from by simpa using ha, cond_true, if_pos ha]
    exact ⟨rfl, rfl⟩
def cfA (x y : Al) : Int := if cmpI x.at_ y.at_ ≠ 0 then cmpI x.at_ y.at_ else cmpI x.seq y.seq
theorem earlier_ok (x y : Al) (w : World) : Calls Try.prog 30 #[.agg x.cells.toArray, .agg y.cells.toArray] w fun e w' => e = .returned (.int .i64 (cfA x y)) ∧ Grew w w' := by
  refine F30.calls ?_
  unfold F30.main
  have s0 := St.refl w
  refine ⟨_, _, run_box _ _, ?_⟩
  have s1 := s0.alloc (.cells x.cells.toArray 60)
  refine ⟨_, _, run_box _ _, ?_⟩
  have s2 := (s1.alloc (.cells y.cells.toArray 60)).drew
  have g2 : Grew w ((w.alloc (.cells x.cells.toArray 60)).alloc (.cells y.cells.toArray 60)).drew := (((Grew.refl w).alloc _).alloc _).drew
  refine ⟨x.at_, s2.cell (.there .here) rfl, y.at_, s2.cell .here rfl, x.seq, s2.cell (.there .here) rfl, y.seq, s2.cell .here rfl, ?_⟩
  refine (cmp38 _ _ _).mono ?_
  rintro e w1 ⟨rfl, rfl⟩
  refine .inl ⟨_, rfl, id, id, ?_⟩
  refine (cmp39 _ _ _).mono ?_
  rintro e w1 ⟨rfl, rfl⟩
  refine .inl ⟨_, rfl, ?_⟩
  refine ⟨_, _, run_bsl (e := 3) (sz := 1) (z := .int .i64 0) (cells := #[.int .i64 (cmpI x.at_ y.at_), .int .i64 (cmpI x.seq y.seq)]) Try.underlying87 (by kernel_rfl) (by kernel_rfl) (by decide) (by decide) (by kernel_rfl) _, ?_⟩
  have s3 := s2.alloc (.cells #[.int .i64 (cmpI x.at_ y.at_), .int .i64 (cmpI x.seq y.seq)] 3)
  refine (cmpOr _ _ _ _ (s3.cell .here rfl) (s3.cell .here rfl)).mono ?_
  rintro e w1 ⟨rfl, rfl⟩
  exact .inl ⟨_, rfl, rfl, g2.alloc _⟩
/-! ### 2. The order -/
theorem ltOf_cfA (x y : Al) : Go.Proofs.ltOf cfA x y = decide (ltA x y) := by
  unfold Go.Proofs.ltOf cfA cmpI ltA
  by_cases h1 : x.at_ < y.at_
  · simp [h1]
  · by_cases h2 : x.at_ > y.at_
    · have : x.at_ ≠ y.at_ := by omega
      simp [h1, h2, this]
    · have : x.at_ = y.at_ := by omega
      by_cases h3 : x.seq < y.seq
      · simp [this, h3]
      · by_cases h4 : x.seq > y.seq <;> simp [this, h3, h4]
theorem swoA : SWO (Go.Proofs.ltOf cfA) where
  irrefl x := by rw [ltOf_cfA]; exact decide_eq_false (by unfold ltA; omega)
  trans x y z h1 h2 := by
    rw [ltOf_cfA] at *
    have h1 := of_decide_eq_true h1
    have h2 := of_decide_eq_true h2
    exact decide_eq_true (by unfold ltA at *; omega)
  ntrans x y z h1 h2 := by
    rw [ltOf_cfA] at *
    have h1 := of_decide_eq_false h1
    have h2 := of_decide_eq_false h2
    exact decide_eq_false (by unfold ltA at *; omega)
/-! ### 3. The call -/
theorem cells_at : ∀ (l : List Al) (j : Nat), j < l.length * 3 → (l.flatMap Al.cells)[j]? = some ((Al.cells l[j / 3]!)[j % 3]!)
  | [], j, h => by simp at h
  | x :: r, j, h => by
    rw [List.flatMap_cons]
    by_cases h3 : j < 3
    · have : j = 0 ∨ j = 1 ∨ j = 2 := by omega
      rcases this with rfl | rfl | rfl <;> rfl
    · obtain ⟨i, rfl⟩ : ∃ i, j = i + 3 := ⟨j - 3, by omega⟩
      have ih := cells_at r i (by simp at h; omega)
      rw [List.getElem?_append_right (by show 3 ≤ _; omega), show i + 3 - x.cells.length = i from by show i + 3 - 3 = i; omega, ih]
      rw [show (i + 3) / 3 = i / 3 + 1 from by omega, show (i + 3) % 3 = i % 3 from by omega]
      simp
theorem flat_list (d : Array Al) : (flatK Al.cells 3 d).toList = d.toList.flatMap Al.cells := by
  apply List.ext_getElem?
  intro j
  by_cases h : j < d.size * 3
  · rw [cells_at d.toList j (by simpa using h), Array.getElem?_toList]
    have h2 : j < (flatK Al.cells 3 d).size := by simpa using h
    rw [Array.getElem?_eq_getElem h2, ← getElem!_pos _ j h2, get_flatK _ _ _ _ h]
    have h3 : j / 3 < d.size := by omega
    rw [getElem!_pos d (j / 3) h3, getElem!_pos d.toList (j / 3) (by simpa using h3), Array.getElem_toList]
  · rw [List.getElem?_eq_none (by simp; omega), List.getElem?_eq_none (by rw [flat_len]; simp; omega)]
theorem St.growW {w0 w : World} {O : Nat → Prop} {L : List Assn} (h : St w0 O L w) (os : Array Obj) : St w0 O L (grow w os) := by
  refine ⟨h.os, h.tape, h.output, by rw [size_grow]; have := h.size; omega, fun b hb => ?_, ?_⟩
  · have h1 := h.old b hb
    have h2 := h.size
    refine ⟨h1.1, Eq.trans ?_ h1.2⟩
    show (w.heap ++ os)[b]? = _
    rw [Array.getElem?_append_left (by omega)]
  · obtain ⟨k, hl, hk⟩ := h.parts
    refine ⟨k, hl, fun b o hb => ?_⟩
    have h1 := hk b o hb
    have h2 := (Array.getElem?_eq_some_iff.1 h1.2).1
    refine ⟨h1.1, Eq.trans ?_ h1.2⟩
    show (w.heap ++ os)[b]? = _
    rw [Array.getElem?_append_left h2]
theorem St.ahead {w0 w : World} {O : Nat → Prop} {L : List Assn} (h : St w0 O L w) (n : Nat) : St w0 O L (Go.Sort.ahead w n) := ⟨h.os, h.tape, h.output, h.size, h.old, h.parts⟩
section
variable {w0 w : World} {O : Nat → Prop} {L M : List Assn} {A : Option Addr} {n c : Nat} {l : List Al}
theorem sort_ok (h : St w0 O (rowC 60 3 A n c (l.flatMap Al.cells) :: L) w) (hn : n < 2 ^ 32) (hd : (l.map (·.seq)).Nodup) :
    Calls Try.prog 27 #[.slice A n c, .func (.func 30) #[] #[]] w fun e w' => e = .returned (.slice A n c) ∧ St w0 O (rowC 60 3 A n c ((ord l).flatMap Al.cells) :: L) w' := by
  have hlen := (rowC_len h).1
  rw [flat_len] at hlen
  have hln : l.length = n := by omega
  refine F27.calls ?_
  unfold F27.main
  rcases rowC_open h with ⟨⟨rfl, rfl, rfl, hnil⟩, h1⟩ | ⟨g, cur, ⟨rfl, h2, h3, h4, h5, h6⟩, h1⟩
  · obtain rfl : l = [] := List.eq_nil_of_length_eq_zero hln
    have hc := AnyF.slices_SortFunc_none sortA none 0 (.func (.func 30) #[] #[]) w
    refine Calls.mono (show Calls Try.prog 34 _ _ _ from hc) ?_
    rintro e w1 ⟨rfl, rfl⟩
    exact .inl ⟨rfl, rfl, h⟩
  · have hds : l.toArray.size = n := by simpa using hln
    have hH : HoldsK Al.cells 3 w g 0 l.toArray := by
      intro j hj
      have hj' : j < n * 3 := by rw [size_flatK, hds] at hj; exact hj
      refine ⟨?_, ?_⟩
      · refine h1.cell .here ?_
        have h7 : (l.flatMap Al.cells)[j]? = some (id (flatK Al.cells 3 l.toArray)[j]!) := by
          rw [cells_at l j (by omega), get_flatK _ _ _ _ (by rw [hds]; exact hj')]
          simp
        rw [← h5, List.getElem?_take, if_pos hj'] at h7
        rw [Nat.zero_add]
        simpa using h7
      · unfold World.frozen?
        rw [h1.get.1]
        simp
    have hc := AnyQ.slices_SortFunc sortA 3 Try.isAgg60 Try.sizeOf60 Al.cells (fun _ => rfl) (fun x v hv => by simp [Al.cells] at hv; rcases hv with rfl | rfl | rfl <;> rfl) cfA swoA 30 #[] g 0 c l.toArray w
      (enters_of Try.func30 (by kernel_rfl) rfl) (fun m os dk _ x y => earlier_ok x y _) hH h1.lt (by rw [hds]; omega)
    rw [hds] at hc
    refine Calls.mono (show Calls Try.prog 34 _ _ _ from hc) ?_
    rintro e w1 ⟨rfl, d', m, os, hp, hso, rfl⟩
    refine .inl ⟨rfl, rfl, ?_⟩
    have hsz : d'.size = n := by rw [hp.1, hds]
    have hperm : d'.toList.Perm l := by
      have := hp.2.2
      rw [show d'.extract 0 n = d' from by rw [← hsz, Array.extract_size], show l.toArray.extract 0 n = l.toArray from by rw [← hds, Array.extract_size]] at this
      exact this
    have hsrt : Srt d'.toList := by
      refine List.pairwise_iff_getElem.2 fun i j hi hj hij => ?_
      have := hso i j (Nat.zero_le _) hij (by simpa [hsz] using hj)
      rw [ltOf_cfA] at this
      have := of_decide_eq_false this
      have hi' : i < d'.size := by simpa using hi
      have hj' : j < d'.size := by simpa using hj
      rw [getElem!_pos d' i hi', getElem!_pos d' j hj'] at this
      simpa using this
    have hord : d'.toList = ord l := ord_of hperm hsrt hd
    have hg := h1.get.1
    have hw : St w0 O (blk g (.cells (putCells id 0 (flatK Al.cells 3 d') cur) 60 (0, 0)) :: L) (putRowK Al.cells 3 (Go.Sort.ahead w m) g 0 d') := by
      refine (h1.ahead m).write rfl rfl rfl ?_ ?_ ?_
      · exact size_putRow _ _ _ _ _
      · show (mapBlock _ _ _).heap[g]? = _
        unfold mapBlock
        simp only [Array.getElem?_modify, if_true]
        rw [show (Go.Sort.ahead w m).heap = w.heap from rfl, hg]
        rfl
      · intro b hb
        show (mapBlock _ _ _).heap[b]? = _
        unfold mapBlock
        simp only [Array.getElem?_modify, if_neg (Ne.symm hb)]
    refine rowC_shut rfl h2 h3 (by simpa [putCells] using h4) ?_ (by rw [flat_len, (ord_perm l).length_eq, hln]) (hw.growW os)
    rw [← hord, ← flat_list]
    have hfs : (flatK Al.cells 3 d').size = n * 3 := by rw [size_flatK, hsz]
    have hcur : n * 3 ≤ cur.size := by rw [h4]; exact Nat.mul_le_mul_right 3 h2
    apply List.ext_getElem?
    intro j
    rw [List.getElem?_take]
    split
    · rename_i hj
      rw [Array.getElem?_toList, Array.getElem?_toList]
      unfold putCells
      rw [Array.getElem?_mapIdx, Array.getElem?_eq_getElem (by omega), Option.map_some, if_pos ⟨by omega, by omega⟩, Array.getElem?_eq_getElem (by omega), ← getElem!_pos (flatK Al.cells 3 d') j (by omega)]
      simp
    · rw [List.getElem?_eq_none (by simp [hfs]; omega)]
end
end Go.Proofs.Ytmngdgdmbebfhaa
