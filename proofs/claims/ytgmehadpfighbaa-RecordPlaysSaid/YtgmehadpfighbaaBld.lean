/- strings.Builder; octet.Text8, Join8. -/
import Derived.Test.YtgmehadpfighbaaBytesMem
import Derived.Test.YtgmehadpfighbaaShBld
import Derived.Test.YtgmehadpfighbaaSub
import Derived.Shelf.Strings.Builder1
import Derived.Lib.Strings
import Derived.Lib.Walk
set_option linter.unusedVariables false
set_option linter.unusedSimpArgs false
namespace Go.Proofs.Ytgmehadpfighbaa
open Go Go.RowKit

/-! ### 1. copyCheck -/
set_option maxHeartbeats 1000000 in
set_option maxRecDepth 100000 in
theorem copyCheck_fresh (b : Nat) (w : World) (h0 : w.cell? ⟨b, 0, none⟩ = some (.pointer none)) (hsh : w.shape? b = some (90, 2)) (hfz : w.frozen? ⟨b, 0, none⟩ = false) :
    Calls Try.prog 49 #[.pointer (some ⟨b, 0, none⟩)] w fun e w' => e = .returned (.tuple #[]) ∧ w' = w.setCell ⟨b, 0, none⟩ (.pointer (some ⟨b, 0, none⟩)) := by
  obtain ⟨j, hj, hjs⟩ := Option.map_eq_some_iff.1 Sh.Builder_Extra_169.sizeBuilder
  have t164 := Try.underlying107
  have t70 := Try.underlying87
  go_enter Try.func49, Try.ntmps49
  go_wp2
  rw [Lib.run_to_unsafe w ⟨b, 0, none⟩ t70 t164 hj (by rw [hjs]; decide) hsh (Nat.zero_lt_succ 1)]
  simp only [Result.andThen]
  rw [Oper.upon_value]
  go_wp2
  rw [run_callFunc_extern Try.func54 (by kernel_rfl) (by kernel_rfl) (by kernel_rfl) (e := Extern.AbiNoEscape.same) (by kernel_rfl)]
  rw [Lib.run_noEscape]
  simp only [Result.andThen]
  rw [Oper.upon_value]
  go_wp2
  rw [Lib.run_from_unsafe w ⟨b, 0, none⟩ t164 t70 hj hsh Sh.Builder_Extra_169.liesBuilder]
  simp only [Result.andThen]
  rw [Oper.upon_value]
  go_wp2
  go_end0
  exact ⟨rfl, rfl⟩
set_option maxHeartbeats 1000000 in
set_option maxRecDepth 100000 in
theorem copyCheck_used (b : Nat) (w : World) (h0 : w.cell? ⟨b, 0, none⟩ = some (.pointer (some ⟨b, 0, none⟩))) :
    Calls Try.prog 49 #[.pointer (some ⟨b, 0, none⟩)] w fun e w' => e = .returned (.tuple #[]) ∧ w' = w := by
  have t70 := Try.underlying87
  obtain ⟨j, hj, _⟩ := Option.map_eq_some_iff.1 Sh.Builder_Extra_169.sizeBuilder
  go_enter Try.func49, Try.ntmps49
  go_wp2
  rw [Lib.run_neq_ptr_same w _ t70 hj]
  go_wp2
  go_end0
  exact ⟨rfl, rfl⟩
/-! ### 2. A builder -/
def sbC (g : Nat) (s : ByteArray) : Assn := fun h => ∃ p A n c, (p = none ∨ p = some (⟨g, 0, none⟩ : Addr)) ∧ stars [blk g (.cells #[.pointer p, .slice A n c] 90), rowC 5 1 A n c (bytesV s)] h
attribute [irreducible] sbC
section
variable {w0 w : World} {O : Nat → Prop} {L R : List Assn} {g : Nat} {s : ByteArray}
theorem sbC_open (h : St w0 O (sbC g s :: L) w) : ∃ p A n c, (p = none ∨ p = some (⟨g, 0, none⟩ : Addr)) ∧ St w0 O (blk g (.cells #[.pointer p, .slice A n c] 90) :: rowC 5 1 A n c (bytesV s) :: L) w := by
  unfold sbC at h
  obtain ⟨p, h⟩ := h.ex
  obtain ⟨A, h⟩ := h.ex
  obtain ⟨n, h⟩ := h.ex
  obtain ⟨c, h⟩ := h.ex
  obtain ⟨hp, h⟩ := h.pure
  exact ⟨p, A, n, c, hp, h.flat⟩
theorem sbC_shut {p : Option Addr} {A : Option Addr} {n c : Nat} (hp : p = none ∨ p = some (⟨g, 0, none⟩ : Addr)) (h : St w0 O (blk g (.cells #[.pointer p, .slice A n c] 90) :: rowC 5 1 A n c (bytesV s) :: L) w) : St w0 O (sbC g s :: L) w :=
  St.make (M := [blk g (.cells #[.pointer p, .slice A n c] 90), rowC 5 1 A n c (bytesV s)]) h fun k hk => by unfold sbC; exact ⟨p, A, n, c, hp, hk⟩
theorem sb_new {K : Nat → World → Prop} (h : St w0 O L w) (k : ∀ g w', St w0 O (sbC g eB :: L) w' → K g w') : newW Try.prog (Instr.alloc 90 true (.tuple #[])) w K :=
  new_alloc (z := .agg #[.pointer none, .slice none 0 0]) h (by kernel_rfl) fun g w' h' => k g w' (sbC_shut (p := none) (.inl rfl) ((rowC_nil h' 5 1).pick (.there .here)))
theorem copyCheck_ok {p : Option Addr} {v : Value} (hp : p = none ∨ p = some (⟨g, 0, none⟩ : Addr)) (h : St w0 O (blk g (.cells #[.pointer p, v] 90) :: L) w) :
    Calls Try.prog 49 #[.pointer (some ⟨g, 0, none⟩)] w fun e w' => e = .returned (.tuple #[]) ∧ St w0 O (blk g (.cells #[.pointer (some ⟨g, 0, none⟩), v] 90) :: L) w' := by
  have hg := h.get.1
  rcases hp with rfl | rfl
  · refine (copyCheck_fresh g w (h.cell .here rfl) (by simp [World.shape?, hg]) (by unfold World.frozen?; rw [hg]; simp)).mono ?_
    rintro e w' ⟨rfl, rfl⟩
    refine ⟨rfl, h.write rfl rfl rfl (by simp [World.setCell]) ?_ (fun b hb => Below.heap_setCell _ _ _ _ hb)⟩
    simp only [World.setCell, Array.getElem?_modify, if_true, hg, Option.map_some]
    rfl
  · refine (copyCheck_used g w (h.cell .here rfl)).mono ?_
    rintro e w' ⟨rfl, rfl⟩
    exact ⟨rfl, h⟩
theorem infoU8 : ∃ i, Try.prog.info? 5 = some i ∧ i.zero = some (.int .u8 0) ∧ i.size = 1 ∧ i.bytes = 1 := by
  obtain ⟨i, hi, h⟩ := Option.map_eq_some_iff.1 (show (Try.prog.info? 5).map (fun i => (i.zero, i.size, i.bytes)) = some (some (.int .u8 0), 1, 1) from by kernel_rfl)
  simp only [Prod.mk.injEq] at h
  exact ⟨i, hi, h.1, h.2.1, h.2.2⟩
theorem WriteString_ok (h : St w0 O (sbC g s :: L) w) (t : ByteArray) (hlen : s.size + t.size < 2 ^ 40) :
    Calls Try.prog 42 #[.pointer (some ⟨g, 0, none⟩), .string t] w fun e w' => e = .returned (.tuple #[.int .i64 (t.size : Int), .nilIface]) ∧ St w0 O (sbC g (s ++ t) :: L) w' := by
  obtain ⟨p, A, n, c, hp, h1⟩ := sbC_open h
  refine F42.calls ?_
  unfold F42.main
  refine (copyCheck_ok hp h1).mono ?_
  rintro e w2 ⟨rfl, h2⟩
  refine .inl ⟨rfl, ?_⟩
  simp only [nilck, add_eq]
  have hn := (rowC_len (h2.pick (.there .here))).1
  rw [bytesV_len, Nat.mul_one] at hn
  refine ⟨A, n, c, h2.cell .here rfl, ?_⟩
  obtain ⟨i, hi, hz, hs, hb⟩ := infoU8
  refine append_str_W Try.underlying88 Try.underlying9 hi hz hs hb _ t h2 (.there .here) (by omega) (fun A' c' w3 h3 => ?_)
  refine st_W h3 (.there .here) _ (by kernel_rfl) rfl (Nat.le_refl 2) (fun w4 h4 => ?_)
  refine ⟨by trivial, ?_⟩
  refine sbC_shut (p := some ⟨g, 0, none⟩) (A := A') (n := n + t.size) (c := c') (.inr rfl) ?_
  rw [bytesV_append]
  exact h4
theorem String_ok (h : St w (World.all w) (sbC g s :: L) w0) :
    Calls Try.prog 43 #[.pointer (some ⟨g, 0, none⟩)] w0 fun e w' => e = .returned (.string s) ∧ St w (World.all w) [] w' := by
  obtain ⟨p, A, n, c, hp, h1⟩ := sbC_open h
  have hsz := h1.size
  have hB : Lib.IsBuilder 90 5 w.heap.size g (Lib.byteCells s.data.toList) w0 := by
    have hat : ∀ q, p = q → Lib.BuilderAt 90 5 w.heap.size g (.pointer q) (Lib.byteCells s.data.toList) w0 := by
      rintro q rfl
      have hg := h1.get
      have hge : w.heap.size ≤ g := Nat.le_of_not_lt hg.2
      refine ⟨hge, .slice A n c, hg.1, ?_, ?_⟩
      · have h2 := h1.pick (.there .here)
        have hl := (rowC_len h2).1
        rw [bytesV_len, Nat.mul_one] at hl
        have hl2 : (Lib.byteCells s.data.toList).length = n := by rw [Lib.byteCells_length, Array.length_toList]; exact hl
        rw [hl2]
        rcases rowC_open h2 with ⟨⟨rfl, rfl, rfl, hnil⟩, h3⟩ | ⟨g2, cur, ⟨rfl, c1, c2, c3, c4, c5⟩, h3⟩
        · exact ⟨by rw [hl2], .inl ⟨rfl, rfl⟩⟩
        · exact ⟨by rw [hl2, Nat.mul_one], .inr ⟨g2, c, cur, rfl, Nat.le_of_not_lt h3.get.2, h3.get.1, c1, c2, c3, c4⟩⟩
      · have h2 := h1.pick (.there .here)
        rcases rowC_open h2 with ⟨⟨rfl, rfl, rfl, hnil⟩, h3⟩ | ⟨g2, cur, ⟨rfl, _⟩, h3⟩
        · simp [Value.ownBlock]
        · simp only [Value.ownBlock]
          intro e
          cases e
          exact h3.ne rfl
    rcases hp with e | e
    · exact .inl (hat _ e)
    · exact .inr (hat _ e)
  refine (Sh.Builder_String_any w.heap.size g s.data.toList w0 hB hsz).mono ?_
  rintro e w' ⟨rfl, hb⟩
  refine ⟨?_, h.shed hb⟩
  obtain ⟨⟨l⟩⟩ := s
  rfl
/-! ### 3. Text8, Join8 -/
def text8 (s : ByteArray) : ByteArray := ⟨#[UInt8.ofNat s.size]⟩ ++ s
theorem text8_size (s : ByteArray) : (text8 s).size = 1 + s.size := by rw [text8, ByteArray.size_append]; rfl
theorem Text8_ok (h : St w0 O L w) (s : ByteArray) : Calls Try.prog 41 #[.string s] w fun e w' =>
    (s.size ≤ 255 ∧ e = .returned (.tuple #[.string (text8 s), .int .i64 0]) ∨ 255 < s.size ∧ e = .returned (.tuple #[.string eB, .int .i64 5])) ∧ St w0 O L w' := by
  refine F41.calls ?_
  unfold F41.main
  by_cases hs : (s.size : Int) > 255
  · rw [decide_eq_true hs, cond_true]
    exact ⟨.inr ⟨by omega, rfl⟩, h⟩
  · rw [decide_eq_false hs, cond_false, wrap_u8 (by omega) (by omega)]
    refine bsl_W (e := 5) (sz := 1) (z := .int .u8 0) h Try.underlying88 (by kernel_rfl) (by kernel_rfl) (by decide) (by decide) (cells := #[.int .u8 (s.size : Int)]) (by kernel_rfl) (fun g w2 h2 => ?_)
    have h3 : St w0 O (rowC 5 1 (some ⟨g, 0, none⟩) 1 1 (bytesV ⟨#[UInt8.ofNat s.size]⟩) :: L) w2 := by
      refine rowC_shut rfl (Nat.le_refl 1) (by decide) rfl ?_ rfl h2
      show [Value.int .u8 (s.size : Int)] = [Value.int .u8 ((UInt8.ofNat s.size).toNat : Int)]
      rw [UInt8.toNat_ofNat_of_lt' (by show s.size < 256; omega)]
    refine ⟨_, convRow Try.underlying88 Try.underlying5 Try.underlying9 h3 .here, ?_, .inl ⟨by omega, rfl⟩, h2.drop⟩
    show 1 + s.size ≤ _
    omega
/-- The texts' bytes. -/
def join8 : List ByteArray → ByteArray
  | [] => eB
  | x :: r => text8 x ++ join8 r
theorem app_nil (s : ByteArray) : s ++ eB = s := by
  obtain ⟨a⟩ := s
  simp [ByteArray.ext_iff]
theorem nil_app (s : ByteArray) : eB ++ s = s := by
  obtain ⟨a⟩ := s
  simp [ByteArray.ext_iff]
theorem Join8_ok {A : Option Addr} {n c : Nat} (xs : List ByteArray) (hn : xs.length = n) (h : St w0 O L w) (hA : ∀ j x, xs[j]? = some x → ∃ g, A = some ⟨g, 0, none⟩ ∧ w.cell? ⟨g, j, none⟩ = some (.string x)) (hx : ∀ x ∈ xs, x.size ≤ 255) (hmax : n < 2 ^ 30) :
    Calls Try.prog 32 #[.slice A n c] w fun e w' => e = .returned (.tuple #[.string (join8 xs), .int .i64 0]) ∧ St w0 O L w' := by
  have main : Calls Try.prog 32 #[.slice A n c] w fun e w' => e = .returned (.tuple #[.string (join8 xs), .int .i64 0]) ∧ St w (World.all w) [] w' := by
    refine F32.calls ?_
    unfold F32.main
    refine sb_new (St.refl w) (fun g w1 h1 => ?_)
    have loop : ∀ (k i : Nat) (s : ByteArray) (w1 : World), k + i = n → s ++ join8 (xs.drop i) = join8 xs → s.size ≤ 256 * i → St w (World.all w) [sbC g s] w1 →
        SK Try.prog Try.f32 (fun e w' => e = .returned (.tuple #[.string (join8 xs), .int .i64 0]) ∧ St w (World.all w) [] w') (cfg Try.f32 3) [(4, .pointer (some ⟨g, 0, none⟩)), (9, .slice A n c), (10, .int .i64 (n : Int)), (11, .int .i64 (i : Int))] w1 := by
      intro k
      induction k with
      | zero =>
        intro i s w1 hk hj hs h1
        refine F32.p3_ok ?_
        unfold F32.p3
        rw [decide_eq_false (by omega), cond_false]
        rw [List.drop_eq_nil_of_le (by omega)] at hj
        have hj : s = join8 xs := by rw [← hj]; exact (app_nil s).symm
        refine (String_ok h1).mono ?_
        rintro e w2 ⟨rfl, h2⟩
        exact .inl ⟨_, rfl, by rw [hj], h2⟩
      | succ k ih =>
        intro i s w1 hk hj hs h1
        refine F32.p3_ok ?_
        unfold F32.p3
        rw [decide_eq_true (by omega), cond_true]
        obtain ⟨x, hxi⟩ : ∃ x, xs[i]? = some x := ⟨xs[i], List.getElem?_eq_getElem (by omega)⟩
        obtain ⟨gr, hAg, hc⟩ := hA i x hxi
        refine ⟨⟨by omega, by omega⟩, ?_⟩
        simp only [hAg, nilck, add_eq, Int.toNat_natCast, Nat.zero_add, Nat.mul_one]
        refine ⟨x, h1.oldCell hc, ?_⟩
        have hxs := hx x (List.mem_of_getElem? hxi)
        refine (Text8_ok h1 x).mono ?_
        rintro e w2 ⟨he, h2⟩
        rcases he with ⟨_, rfl⟩ | ⟨hbad, rfl⟩
        · refine .inl ⟨_, _, rfl, ?_⟩
          simp only [show ((0 : Int) != 0) = false from rfl, cond_false]
          have ht := text8_size x
          refine (WriteString_ok h2 (text8 x) (by omega)).mono ?_
          rintro e w3 ⟨rfl, h3⟩
          refine .inl ⟨_, _, rfl, ?_⟩
          rw [nat_wrap' (by omega), ← hAg]
          refine ih (i + 1) (s ++ text8 x) w3 (by omega) ?_ ?_ h3
          · rw [← hj, ByteArray.append_assoc]
            congr 1
            rw [List.drop_eq_getElem_cons (show i < xs.length by omega)]
            rw [List.getElem?_eq_getElem (by omega)] at hxi
            rw [Option.some.inj hxi]
            rfl
          · rw [ByteArray.size_append]; omega
        · omega
    exact loop n 0 eB w1 rfl (nil_app _) (Nat.zero_le _) h1
  refine main.mono ?_
  rintro e w' ⟨rfl, h2⟩
  exact ⟨rfl, h.over h2.below⟩
end
end Go.Proofs.Ytgmehadpfighbaa
