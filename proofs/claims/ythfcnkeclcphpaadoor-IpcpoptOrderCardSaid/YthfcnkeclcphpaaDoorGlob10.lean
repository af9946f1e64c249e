/- What the laid variables read as. -/
import Derived.Test.YthfcnkeclcphpaaDoorJoin
import Derived.Lib.ConvBytes
import Derived.Sort.Grow
set_option linter.unusedVariables false
set_option linter.unusedSimpArgs false
namespace Go.Proofs.YthfcnkeclcphpaaDoor
open Go Go.RowKit Go.Sort

structure Glob (w : World) : Prop where
  maxlen : ∃ m, w.cell? ⟨1, 0, none⟩ = some (.int .i64 m)
  esyn : ∃ ev, w.cell? ⟨2, 0, none⟩ = some ev ∧ (ev = .nilIface ∨ ∃ te pe, ev = .iface te pe)
  erng : ∃ ev, w.cell? ⟨3, 0, none⟩ = some ev ∧ (ev = .nilIface ∨ ∃ te pe, ev = .iface te pe)
  tab : Lib.TabIs Tryd.prog w "internal/strconv.uint64pow10" .u64 Lib.pow10Tab
  kinds : cellsAt w ⟨0, 0, none⟩ 0 [.int .u8 3, .func (.func 91) #[] #[], .int .u8 129, .func (.func 92) #[] #[], .int .u8 131, .func (.func 93) #[] #[]]
theorem cell_block {w : World} {a : Addr} {v : Value} (h : w.cell? a = some v) : a.block < w.heap.size := by
  unfold World.cell? at h
  cases ho : w.heap[a.block]? with
  | none => simp [ho] at h
  | some o => exact (Array.getElem?_eq_some_iff.1 ho).1
theorem cellsAt_mono {w w' : World} {a : Addr} (hw : ∀ b v, w.cell? b = some v → w'.cell? b = some v) : ∀ {vs : List Value} {i : Nat}, cellsAt w a i vs → cellsAt w' a i vs
  | [], _, _ => trivial
  | v :: r, i, h => ⟨hw _ _ h.1, cellsAt_mono hw h.2⟩
theorem Glob.below {w w' : World} (h : Glob w) (hb : Below w.heap.size w w') : Glob w' := by
  have hc : ∀ b v, w.cell? b = some v → w'.cell? b = some v := fun b v hv => (hb.cell (cell_block hv)).trans hv
  obtain ⟨⟨m, h1⟩, ⟨e1, h2, h3⟩, ⟨e2, h4, h5⟩, h6, h7⟩ := h
  refine ⟨⟨m, hc _ _ h1⟩, ⟨e1, hc _ _ h2, h3⟩, ⟨e2, hc _ _ h4, h5⟩, ?_, cellsAt_mono hc h7⟩
  unfold Lib.TabIs World.var? at h6 ⊢
  rw [Option.bind_eq_some_iff] at h6 ⊢
  obtain ⟨g, hg, h6⟩ := h6
  refine ⟨g, hg, ?_⟩
  have hlt : g < w.heap.size := by
    rcases Nat.lt_or_ge g w.heap.size with h' | h'
    · exact h'
    · simp [Array.getElem?_eq_none h'] at h6
  rw [hb.block g hlt]
  exact h6
theorem Glob.old {w0 w : World} {L : List Assn} (hG : Glob w0) (h : St w0 (World.all w0) L w) : Glob w := hG.below h.below
theorem below_grow {w : World} {k : Nat} {os : Array Obj} : Below w.heap.size w (grow (w.drewN k) os) := by
  refine ⟨rfl, rfl, rfl, ?_, fun b hb => ?_⟩
  · show w.heap.size ≤ (w.heap ++ os).size
    rw [Array.size_append]; omega
  · show (w.heap ++ os)[b]? = w.heap[b]?
    rw [Array.getElem?_append_left hb]
theorem below_drewN {w : World} {k : Nat} : Below w.heap.size w (w.drewN k) := by
  have := below_grow (w := w) (k := k) (os := #[])
  rwa [grow_empty] at this
section
variable {w0 w : World} {O : Nat → Prop} {L R : List Assn}
/-- []byte(s). -/
theorem toBytes_W {K : Nat → Nat → Nat → World → Prop} (h : St w0 O L w) (s : ByteArray) (k : ∀ g c w', St w0 O L w' → (∀ j, j < s.size → w'.cell? ⟨g, j, none⟩ = some (.int .u8 (s.data.toList.getD j 0).toNat)) → w.heap.size ≤ g → g < w'.heap.size → K g s.size c w') :
    mksW Tryd.prog (convert 9 57 (.string s)) w K := by
  refine ⟨_, _, _, _, Lib.run_convert_string_bytes (P := Tryd.prog) w _ _ 5 s Tryd.underlying9 Tryd.underlying57 Tryd.underlying5, ?_⟩
  refine k _ _ _ (h.over ?_) (fun j hj => Lib.bytesWorld_cell w _ s j hj) (Nat.le_refl _) (by rw [Lib.bytesWorld_size]; omega)
  exact ⟨rfl, rfl, rfl, by rw [Lib.bytesWorld_size]; omega, fun b hb => Lib.bytesWorld_at_old w _ s b hb⟩
end
/-! ### Small numbers' texts -/
def dec3 (n : Nat) : List UInt8 := if n < 10 then [UInt8.ofNat (48 + n)] else if n < 100 then [UInt8.ofNat (48 + n / 10), UInt8.ofNat (48 + n % 10)] else [UInt8.ofNat (48 + n / 100), UInt8.ofNat (48 + n / 10 % 10), UInt8.ofNat (48 + n % 10)]
theorem decDigits_dec3 {n : Nat} (h : n < 1000) : Lib.decDigits n = dec3 n := by
  unfold dec3
  by_cases h1 : n < 10
  · rw [if_pos h1, Lib.decDigits, dif_pos h1]
  rw [if_neg h1, Lib.decDigits, dif_neg h1]
  by_cases h2 : n < 100
  · rw [if_pos h2, Lib.decDigits, dif_pos (by omega)]; rfl
  rw [if_neg h2, Lib.decDigits, dif_neg (by omega), Lib.decDigits, dif_pos (by omega), Nat.div_div_eq_div_mul]; rfl
def decB (n : Nat) : ByteArray := ⟨(dec3 n).toArray⟩
theorem Itoa_ok {w : World} (hG : Glob w) {n : Nat} (hn : n < 1000) : Calls Tryd.prog 25 #[.int .i64 (n : Int)] w fun e w' => e = .returned (.string (decB n)) ∧ Below w.heap.size w w' := by
  refine (Sh.strconv_Itoa (n : Int) (by omega) (by omega) w hG.tab).mono ?_
  rintro e w' ⟨rfl, k, os, rfl⟩
  refine ⟨?_, below_grow⟩
  unfold Lib.itoa
  rw [if_neg (by omega), Int.toNat_natCast, decDigits_dec3 hn]
  rfl
theorem dec3_len (n : Nat) : 0 < (dec3 n).length ∧ (dec3 n).length ≤ 3 := by
  unfold dec3
  split
  · simp
  · split <;> simp
theorem decB_size (n : Nat) : 0 < (decB n).size ∧ (decB n).size ≤ 3 := dec3_len n
end Go.Proofs.YthfcnkeclcphpaaDoor
