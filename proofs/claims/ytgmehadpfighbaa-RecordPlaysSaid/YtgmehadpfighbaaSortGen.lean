/- slices.SortFunc at structs, by a key of a linear order. -/
import Derived.Test.YtgmehadpfighbaaEnc
import Derived.Shelf.SlGeneric
import Derived.Shelf.SlSortCmp.NoneTotal
set_option linter.unusedVariables false
set_option linter.unusedSimpArgs false
namespace Go.Proofs.Ytgmehadpfighbaa
open Go Go.RowKit Go.Sort Go.Shelf

/-- Draws and new blocks alone. -/
def Grew (w w' : World) : Prop := ∃ q os, w' = grow (w.drewN q) os
theorem Grew.refl (w : World) : Grew w w := ⟨0, #[], by rw [grow_empty]; rfl⟩
theorem Grew.drew {w w' : World} (h : Grew w w') : Grew w w'.drew := by
  obtain ⟨q, os, rfl⟩ := h
  exact ⟨q + 1, os, rfl⟩
theorem Grew.alloc {w w' : World} (h : Grew w w') (o : Obj) : Grew w (w'.alloc o) := by
  obtain ⟨q, os, rfl⟩ := h
  exact ⟨q, os ++ #[o], by rw [alloc_eq_grow, grow_grow]⟩
theorem St.growW {w0 w : World} {O : Nat → Prop} {L : List Assn} (h : St w0 O L w) (os : Array Obj) : St w0 O L (grow w os) := by
  refine ⟨h.os, h.tape, h.output, by rw [size_grow]; have := h.size; omega, fun b hb => ?_, ?_⟩
  · have h1 := h.old b hb
    have h2 := h.size
    refine ⟨h1.1, Eq.trans ?_ h1.2⟩
    show (w.heap ++ os)[b]? = _
    rw [Array.getElem?_append_left (by omega)]
  · obtain ⟨k, hl, hk⟩ := h.parts
    refine ⟨k, hl, fun b o hb => ?_⟩
    have h1 := hk b o hb
    have h2 := (Array.getElem?_eq_some_iff.1 h1.2).1
    refine ⟨h1.1, Eq.trans ?_ h1.2⟩
    show (w.heap ++ os)[b]? = _
    rw [Array.getElem?_append_left h2]
theorem St.ahead {w0 w : World} {O : Nat → Prop} {L : List Assn} (h : St w0 O L w) (n : Nat) : St w0 O L (Go.Sort.ahead w n) := ⟨h.os, h.tape, h.output, h.size, h.old, h.parts⟩
theorem swo_of {α κ : Type} {lt : κ → κ → Bool} (H : Lin lt) (key : α → κ) {cf : α → α → Int} (hcf : ∀ x y, Go.Proofs.ltOf cf x y = lt (key x) (key y)) : SWO (Go.Proofs.ltOf cf) where
  irrefl x := by rw [hcf, H.irr]
  trans x y z h1 h2 := by
    rw [hcf] at *
    exact H.tr _ _ _ h1 h2
  ntrans x y z h1 h2 := by
    rw [hcf] at *
    rcases H.tri (key x) (key z) with h | h | h
    · rcases H.tri (key x) (key y) with h3 | h3 | h3
      · rw [h1] at h3; cases h3
      · rw [← h3, h] at h2; cases h2
      · have := H.tr _ _ _ h3 h; rw [h2] at this; cases this
    · rw [h, H.irr]
    · exact H.asym h
section
variable {α : Type} [Inhabited α] {cells : α → List Value} {sz : Nat}
theorem cells_atE (hlen : ∀ x, (cells x).length = sz) (hp : 0 < sz) : ∀ (l : List α) (j : Nat), j < l.length * sz → (l.flatMap cells)[j]? = some ((cells l[j / sz]!)[j % sz]!)
  | [], j, h => by simp at h
  | x :: r, j, h => by
    rw [List.flatMap_cons]
    by_cases h3 : j < sz
    · rw [List.getElem?_append_left (by rw [hlen]; exact h3), Nat.div_eq_of_lt h3, Nat.mod_eq_of_lt h3]
      rw [List.getElem?_eq_getElem (by rw [hlen]; exact h3)]
      congr 1
      show _ = (cells x)[j]!
      rw [getElem!_pos (cells x) j (by rw [hlen]; exact h3)]
    · obtain ⟨i, rfl⟩ : ∃ i, j = i + sz := ⟨j - sz, by omega⟩
      have ih := cells_atE hlen hp r i (by rw [List.length_cons, Nat.add_mul, Nat.one_mul] at h; omega)
      rw [List.getElem?_append_right (by rw [hlen]; omega), hlen, show i + sz - sz = i from by omega, ih]
      rw [Nat.add_div_right _ hp, Nat.add_mod_right]
      simp
theorem flat_listE (hlen : ∀ x, (cells x).length = sz) (hp : 0 < sz) (d : Array α) : (flatK cells sz d).toList = d.toList.flatMap cells := by
  apply List.ext_getElem?
  intro j
  by_cases h : j < d.size * sz
  · rw [cells_atE hlen hp d.toList j (by simpa using h), Array.getElem?_toList]
    have h2 : j < (flatK cells sz d).size := by simpa using h
    rw [Array.getElem?_eq_getElem h2, ← getElem!_pos _ j h2, get_flatK _ _ _ _ h]
    have h3 : j / sz < d.size := (Nat.div_lt_iff_lt_mul hp).2 h
    rw [getElem!_pos d (j / sz) h3, getElem!_pos d.toList (j / sz) (by simpa using h3), Array.getElem_toList]
  · rw [List.getElem?_eq_none (by simp; omega), List.getElem?_eq_none (by rw [flatE_len hlen]; simp; omega)]
end
section
variable {P : Program} {ρ : Ren} {w0 w : World} {O : Nat → Prop} {L R : List Assn} {A : Option Addr} {n c t sz : Nat} {α κ : Type} [Inhabited α] {l : List α} {lt : κ → κ → Bool} {key : α → κ} {cf : α → α → Int}
theorem sortE (LA : Go.Proofs.SlLaysF0.n6 P ρ) (E : EncT P t sz α) (hp : 0 < sz) (aE : ∀ w, (isAgg (ρ.t 24)).run P w = .ok true w) (zE : ∀ w, (Go.sizeOf (ρ.t 24)).run P w = .ok sz w) (H : Lin lt) (hcf : ∀ x y, Go.Proofs.ltOf cf x y = lt (key x) (key y)) (fn : Nat) (cb : Array Value)
    (eg : ∀ args w, (callFunc fn args).run P w = .ok (.enter fn args) w) (h : St w0 O (rowS E A n c l :: L) w) (hn : n < 2 ^ 32) (hd : (l.map key).Nodup)
    (hcmp : ∀ w', St w0 O L w' → ∀ x y, Calls P fn (#[.agg (E.cells x).toArray, .agg (E.cells y).toArray] ++ cb) w' fun e w'' => e = .returned (.int .i64 (cf x y)) ∧ Grew w' w'') :
    Calls P (ρ.f 6) #[.slice A n c, .func (.func fn) #[] cb] w fun e w' => e = .returned (.tuple #[]) ∧ ∃ l', Ris lt key l' ∧ l'.Perm l ∧ St w0 O (rowS E A n c l' :: L) w' := by
  have hln := (rowS_len E hp h).1
  rcases rowC_open h with ⟨⟨rfl, rfl, rfl, hnil⟩, h1⟩ | ⟨g, cur, ⟨rfl, h2, h3, h4, h5, h6⟩, h1⟩
  · obtain rfl : l = [] := List.eq_nil_of_length_eq_zero hln
    refine Calls.mono (AnyF.slices_SortFunc_none LA none 0 (.func (.func fn) #[] cb) w) ?_
    rintro e w1 ⟨rfl, rfl⟩
    exact ⟨rfl, [], ris_nil, .refl _, h⟩
  · have hds : l.toArray.size = n := by simpa using hln
    have hH : HoldsK E.cells sz w g 0 l.toArray := by
      intro j hj
      have hj' : j < n * sz := by rw [size_flatK, hds] at hj; exact hj
      refine ⟨?_, ?_⟩
      · refine h1.cell .here ?_
        have h7 : (l.flatMap E.cells)[j]? = some (id (flatK E.cells sz l.toArray)[j]!) := by
          rw [cells_atE E.len hp l j (by rw [hln]; exact hj'), get_flatK _ _ _ _ (by rw [hds]; exact hj')]
          simp
        rw [← h5, List.getElem?_take, if_pos hj'] at h7
        rw [Nat.zero_add]
        simpa using h7
      · unfold World.frozen?
        rw [h1.get.1]
        simp
    have hg := h1.get.1
    have hput : ∀ (m : Nat) (dk : Array α) (os : Array Obj), St w0 O (blk g (.cells (putCells id 0 (flatK E.cells sz dk) cur) t (0, 0)) :: L) (grow (putRowK E.cells sz (Go.Sort.ahead w m) g 0 dk) os) := by
      intro m dk os
      refine St.growW ?_ os
      refine (h1.ahead m).write rfl rfl rfl ?_ ?_ ?_
      · exact size_putRow _ _ _ _ _
      · show (mapBlock _ _ _).heap[g]? = _
        unfold mapBlock
        simp only [Array.getElem?_modify, if_true]
        rw [show (Go.Sort.ahead w m).heap = w.heap from rfl, hg]
        rfl
      · intro b hb
        show (mapBlock _ _ _).heap[b]? = _
        unfold mapBlock
        simp only [Array.getElem?_modify, if_neg (Ne.symm hb)]
    have hc := AnyQ.slices_SortFunc LA sz aE zE E.cells E.len (fun x v hv => List.all_eq_true.1 (E.one x) v hv) cf (swo_of H key hcf) fn cb g 0 c l.toArray w
      eg (fun m os dk _ x y => hcmp _ (hput m dk os).drop x y) hH h1.lt (by rw [hds]; omega)
    rw [hds] at hc
    refine Calls.mono hc ?_
    rintro e w1 ⟨rfl, d', m, os, hp', hso, rfl⟩
    have hsz : d'.size = n := by rw [hp'.1, hds]
    have hperm : d'.toList.Perm l := by
      have := hp'.2.2
      rw [show d'.extract 0 n = d' from by rw [← hsz, Array.extract_size], show l.toArray.extract 0 n = l.toArray from by rw [← hds, Array.extract_size]] at this
      exact this
    have hsrt : Ris lt key d'.toList := by
      have hnd : (d'.toList.map key).Nodup := (hperm.map key).nodup_iff.2 hd
      refine List.pairwise_iff_getElem.2 fun i j hi hj hij => ?_
      have h8 := hso i j (Nat.zero_le _) hij (by simpa [hsz] using hj)
      rw [hcf] at h8
      have hi' : i < d'.size := by simpa using hi
      have hj' : j < d'.size := by simpa using hj
      rw [getElem!_pos d' i hi', getElem!_pos d' j hj'] at h8
      rcases H.tri (key d'[i]) (key d'[j]) with h9 | h9 | h9
      · simpa using h9
      · exfalso
        have := (List.getElem_inj (h₀ := by simpa using hi') (h₁ := by simpa using hj') hnd).1 (show (d'.toList.map key)[i]'(by simpa using hi') = (d'.toList.map key)[j]'(by simpa using hj') by simpa using h9)
        omega
      · rw [h8] at h9; cases h9
    refine ⟨rfl, d'.toList, hsrt, hperm, ?_⟩
    refine rowC_shut rfl h2 h3 (by simpa [putCells] using h4) ?_ (by rw [flatE_len E.len, hperm.length_eq, hln]) (hput m d' os)
    rw [← flat_listE E.len hp]
    have hfs : (flatK E.cells sz d').size = n * sz := by rw [size_flatK, hsz]
    have hcur : n * sz ≤ cur.size := by rw [h4]; exact Nat.mul_le_mul_right sz h2
    apply List.ext_getElem?
    intro j
    rw [List.getElem?_take]
    split
    · rename_i hj
      rw [Array.getElem?_toList, Array.getElem?_toList]
      unfold putCells
      rw [Array.getElem?_mapIdx, Array.getElem?_eq_getElem (by omega), Option.map_some, if_pos ⟨by omega, by omega⟩, Array.getElem?_eq_getElem (by omega), ← getElem!_pos (flatK E.cells sz d') j (by omega)]
      simp
    · rw [List.getElem?_eq_none (by simp [hfs]; omega)]
end
end Go.Proofs.Ytgmehadpfighbaa
