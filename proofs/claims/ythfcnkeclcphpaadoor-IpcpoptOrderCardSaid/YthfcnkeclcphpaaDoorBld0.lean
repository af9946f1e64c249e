/- strings.Builder. -/
import Derived.Test.YthfcnkeclcphpaaDoorBytesMem
import Derived.Test.YthfcnkeclcphpaaDoorShBld
import Derived.Test.YthfcnkeclcphpaaDoorWraps
import Derived.Shelf.Strings.Builder1
import Derived.Lib.Strings
import Derived.Lib.Walk
set_option linter.unusedVariables false
set_option linter.unusedSimpArgs false
namespace Go.Proofs.YthfcnkeclcphpaaDoor
open Go Go.RowKit

/-! ### 1. copyCheck -/
set_option maxHeartbeats 1000000 in
set_option maxRecDepth 100000 in
theorem copyCheck_fresh (b : Nat) (w : World) (h0 : w.cell? ⟨b, 0, none⟩ = some (.pointer none)) (hsh : w.shape? b = some (75, 2)) (hfz : w.frozen? ⟨b, 0, none⟩ = false) :
    Calls Tryd.prog 46 #[.pointer (some ⟨b, 0, none⟩)] w fun e w' => e = .returned (.tuple #[]) ∧ w' = w.setCell ⟨b, 0, none⟩ (.pointer (some ⟨b, 0, none⟩)) := by
  obtain ⟨j, hj, hjs⟩ := Option.map_eq_some_iff.1 Sh.Builder_Extra_169.sizeBuilder
  have t164 := Tryd.underlying100
  have t70 := Tryd.underlying73
  go_enter Tryd.func46, Tryd.ntmps46
  go_wp2
  rw [Lib.run_to_unsafe w ⟨b, 0, none⟩ t70 t164 hj (by rw [hjs]; decide) hsh (Nat.zero_lt_succ 1)]
  simp only [Result.andThen]
  rw [Oper.upon_value]
  go_wp2
  rw [run_callFunc_extern Tryd.func59 (by kernel_rfl) (by kernel_rfl) (by kernel_rfl) (e := Extern.AbiNoEscape.same) (by kernel_rfl)]
  rw [Lib.run_noEscape]
  simp only [Result.andThen]
  rw [Oper.upon_value]
  go_wp2
  rw [Lib.run_from_unsafe w ⟨b, 0, none⟩ t164 t70 hj hsh Sh.Builder_Extra_169.liesBuilder]
  simp only [Result.andThen]
  rw [Oper.upon_value]
  go_wp2
  go_end0
  exact ⟨rfl, rfl⟩
set_option maxHeartbeats 1000000 in
set_option maxRecDepth 100000 in
theorem copyCheck_used (b : Nat) (w : World) (h0 : w.cell? ⟨b, 0, none⟩ = some (.pointer (some ⟨b, 0, none⟩))) :
    Calls Tryd.prog 46 #[.pointer (some ⟨b, 0, none⟩)] w fun e w' => e = .returned (.tuple #[]) ∧ w' = w := by
  have t70 := Tryd.underlying73
  obtain ⟨j, hj, _⟩ := Option.map_eq_some_iff.1 Sh.Builder_Extra_169.sizeBuilder
  go_enter Tryd.func46, Tryd.ntmps46
  go_wp2
  rw [Lib.run_neq_ptr_same w _ t70 hj]
  go_wp2
  go_end0
  exact ⟨rfl, rfl⟩
/-! ### 2. A builder -/
def sbC (g : Nat) (s : ByteArray) : Assn := fun h => ∃ p A n c, (p = none ∨ p = some (⟨g, 0, none⟩ : Addr)) ∧ stars [blk g (.cells #[.pointer p, .slice A n c] 75), rowC 5 1 A n c (bytesV s)] h
attribute [irreducible] sbC
section
variable {w0 w : World} {O : Nat → Prop} {L R : List Assn} {g : Nat} {s : ByteArray}
theorem sbC_open (h : St w0 O (sbC g s :: L) w) : ∃ p A n c, (p = none ∨ p = some (⟨g, 0, none⟩ : Addr)) ∧ St w0 O (blk g (.cells #[.pointer p, .slice A n c] 75) :: rowC 5 1 A n c (bytesV s) :: L) w := by
  unfold sbC at h
  obtain ⟨p, h⟩ := h.ex
  obtain ⟨A, h⟩ := h.ex
  obtain ⟨n, h⟩ := h.ex
  obtain ⟨c, h⟩ := h.ex
  obtain ⟨hp, h⟩ := h.pure
  exact ⟨p, A, n, c, hp, h.flat⟩
theorem sbC_shut {p : Option Addr} {A : Option Addr} {n c : Nat} (hp : p = none ∨ p = some (⟨g, 0, none⟩ : Addr)) (h : St w0 O (blk g (.cells #[.pointer p, .slice A n c] 75) :: rowC 5 1 A n c (bytesV s) :: L) w) : St w0 O (sbC g s :: L) w :=
  St.make (M := [blk g (.cells #[.pointer p, .slice A n c] 75), rowC 5 1 A n c (bytesV s)]) h fun k hk => by unfold sbC; exact ⟨p, A, n, c, hp, hk⟩
theorem sb_new {K : Nat → World → Prop} (h : St w0 O L w) (k : ∀ g w', St w0 O (sbC g eB :: L) w' → K g w') : newW Tryd.prog (Instr.alloc 75 true (.tuple #[])) w K :=
  new_alloc (z := .agg #[.pointer none, .slice none 0 0]) h (by kernel_rfl) fun g w' h' => k g w' (sbC_shut (p := none) (.inl rfl) ((rowC_nil h' 5 1).pick (.there .here)))
theorem copyCheck_ok {p : Option Addr} {v : Value} (hp : p = none ∨ p = some (⟨g, 0, none⟩ : Addr)) (h : St w0 O (blk g (.cells #[.pointer p, v] 75) :: L) w) :
    Calls Tryd.prog 46 #[.pointer (some ⟨g, 0, none⟩)] w fun e w' => e = .returned (.tuple #[]) ∧ St w0 O (blk g (.cells #[.pointer (some ⟨g, 0, none⟩), v] 75) :: L) w' := by
  have hg := h.get.1
  rcases hp with rfl | rfl
  · refine (copyCheck_fresh g w (h.cell .here rfl) (by simp [World.shape?, hg]) (by unfold World.frozen?; rw [hg]; simp)).mono ?_
    rintro e w' ⟨rfl, rfl⟩
    refine ⟨rfl, h.write rfl rfl rfl (by simp [World.setCell]) ?_ (fun b hb => Below.heap_setCell _ _ _ _ hb)⟩
    simp only [World.setCell, Array.getElem?_modify, if_true, hg, Option.map_some]
    rfl
  · refine (copyCheck_used g w (h.cell .here rfl)).mono ?_
    rintro e w' ⟨rfl, rfl⟩
    exact ⟨rfl, h⟩
theorem infoU8 : ∃ i, Tryd.prog.info? 5 = some i ∧ i.zero = some (.int .u8 0) ∧ i.size = 1 ∧ i.bytes = 1 := by
  obtain ⟨i, hi, h⟩ := Option.map_eq_some_iff.1 (show (Tryd.prog.info? 5).map (fun i => (i.zero, i.size, i.bytes)) = some (some (.int .u8 0), 1, 1) from by kernel_rfl)
  simp only [Prod.mk.injEq] at h
  exact ⟨i, hi, h.1, h.2.1, h.2.2⟩
theorem WriteString_ok (h : St w0 O (sbC g s :: L) w) (t : ByteArray) (hlen : s.size + t.size < 2 ^ 40) :
    Calls Tryd.prog 35 #[.pointer (some ⟨g, 0, none⟩), .string t] w fun e w' => e = .returned (.tuple #[.int .i64 (t.size : Int), .nilIface]) ∧ St w0 O (sbC g (s ++ t) :: L) w' := by
  obtain ⟨p, A, n, c, hp, h1⟩ := sbC_open h
  refine F35.calls ?_
  unfold F35.main
  refine (copyCheck_ok hp h1).mono ?_
  rintro e w2 ⟨rfl, h2⟩
  refine .inl ⟨rfl, ?_⟩
  simp only [nilck, add_eq]
  have hn := (rowC_len (h2.pick (.there .here))).1
  rw [bytesV_len, Nat.mul_one] at hn
  refine ⟨A, n, c, h2.cell .here rfl, ?_⟩
  obtain ⟨i, hi, hz, hs, hb⟩ := infoU8
  refine append_str_W Tryd.underlying57 Tryd.underlying9 hi hz hs hb _ t h2 (.there .here) (by omega) (fun A' c' w3 h3 => ?_)
  refine st_W h3 (.there .here) _ (by kernel_rfl) rfl (Nat.le_refl 2) (fun w4 h4 => ?_)
  refine ⟨by trivial, ?_⟩
  refine sbC_shut (p := some ⟨g, 0, none⟩) (A := A') (n := n + t.size) (c := c') (.inr rfl) ?_
  rw [bytesV_append]
  exact h4
theorem String_ok (h : St w (World.all w) (sbC g s :: L) w0) :
    Calls Tryd.prog 36 #[.pointer (some ⟨g, 0, none⟩)] w0 fun e w' => e = .returned (.string s) ∧ St w (World.all w) [] w' := by
  obtain ⟨p, A, n, c, hp, h1⟩ := sbC_open h
  have hsz := h1.size
  have hB : Lib.IsBuilder 75 5 w.heap.size g (Lib.byteCells s.data.toList) w0 := by
    have hat : ∀ q, p = q → Lib.BuilderAt 75 5 w.heap.size g (.pointer q) (Lib.byteCells s.data.toList) w0 := by
      rintro q rfl
      have hg := h1.get
      have hge : w.heap.size ≤ g := Nat.le_of_not_lt hg.2
      refine ⟨hge, .slice A n c, hg.1, ?_, ?_⟩
      · have h2 := h1.pick (.there .here)
        have hl := (rowC_len h2).1
        rw [bytesV_len, Nat.mul_one] at hl
        have hl2 : (Lib.byteCells s.data.toList).length = n := by rw [Lib.byteCells_length, Array.length_toList]; exact hl
        rw [hl2]
        rcases rowC_open h2 with ⟨⟨rfl, rfl, rfl, hnil⟩, h3⟩ | ⟨g2, cur, ⟨rfl, c1, c2, c3, c4, c5⟩, h3⟩
        · exact ⟨by rw [hl2], .inl ⟨rfl, rfl⟩⟩
        · exact ⟨by rw [hl2, Nat.mul_one], .inr ⟨g2, c, cur, rfl, Nat.le_of_not_lt h3.get.2, h3.get.1, c1, c2, c3, c4⟩⟩
      · have h2 := h1.pick (.there .here)
        rcases rowC_open h2 with ⟨⟨rfl, rfl, rfl, hnil⟩, h3⟩ | ⟨g2, cur, ⟨rfl, _⟩, h3⟩
        · simp [Value.ownBlock]
        · simp only [Value.ownBlock]
          intro e
          cases e
          exact h3.ne rfl
    rcases hp with e | e
    · exact .inl (hat _ e)
    · exact .inr (hat _ e)
  refine (Sh.Builder_String_any w.heap.size g s.data.toList w0 hB hsz).mono ?_
  rintro e w' ⟨rfl, hb⟩
  refine ⟨?_, h.shed hb⟩
  obtain ⟨⟨l⟩⟩ := s
  rfl
end
theorem app_nil (s : ByteArray) : s ++ eB = s := by
  obtain ⟨a⟩ := s
  simp [ByteArray.ext_iff]
theorem nil_app (s : ByteArray) : eB ++ s = s := by
  obtain ⟨a⟩ := s
  simp [ByteArray.ext_iff]
end Go.Proofs.YthfcnkeclcphpaaDoor
