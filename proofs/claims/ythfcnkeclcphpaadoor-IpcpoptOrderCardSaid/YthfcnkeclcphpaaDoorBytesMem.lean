/- Rows of bytes: texts appended, turned into texts. -/
import Derived.Test.YthfcnkeclcphpaaDoorRe
import Derived.Lib.AppendStr
import Derived.Laws.IdiomStrings
import Derived.Laws.BytesArg
set_option linter.unusedVariables false
set_option linter.unusedSimpArgs false
namespace Go.Proofs.YthfcnkeclcphpaaDoor
open Go Go.RowKit

theorem St.oldCell {w0 w : World} {L : List Assn} (h : St w0 (World.all w0) L w) {a : Addr} {v : Value} (hv : w0.cell? a = some v) : w.cell? a = some v := by
  have hb : a.block < w0.heap.size := by
    unfold World.cell? at hv
    cases ho : w0.heap[a.block]? with
    | none => simp [ho] at hv
    | some o => exact (Array.getElem?_eq_some_iff.1 ho).1
  exact (World.cell?_of_block (h.old a.block hb).2).trans hv
/-- What lay there when a call began lies there yet. -/
theorem St.over {w0 w w1 : World} {O : Nat → Prop} {L : List Assn} (h : St w0 O L w) (hb : Below w.heap.size w w1) : St w0 O L w1 := by
  refine ⟨hb.os.trans h.os, hb.tape.trans h.tape, hb.output.trans h.output, Nat.le_trans h.size hb.size, fun b ho => ?_, ?_⟩
  · have h1 := h.old b ho
    exact ⟨h1.1, (hb.block b (Nat.lt_of_lt_of_le h1.1 h.size)).trans h1.2⟩
  · obtain ⟨k, hl, hk⟩ := h.parts
    refine ⟨k, hl, fun b o e => ?_⟩
    have h1 := hk b o e
    exact ⟨h1.1, (hb.block b (Array.getElem?_eq_some_iff.1 h1.2).1).trans h1.2⟩
/-- Of a call's own blocks nothing more is asked. -/
theorem St.shed {w0 w w1 : World} {L : List Assn} (h : St w0 (World.all w0) L w) (hb : Below w0.heap.size w w1) : St w0 (World.all w0) [] w1 :=
  ⟨hb.os.trans h.os, hb.tape.trans h.tape, hb.output.trans h.output, Nat.le_trans h.size hb.size, fun b ho => ⟨ho, (hb.block b ho).trans (h.old b ho).2⟩, fun _ => none, fun _ => rfl, fun b o e => by cases e⟩
def bytesV (s : ByteArray) : List Value := Lib.strCells s
theorem bytesV_len (s : ByteArray) : (bytesV s).length = s.size := Lib.strCells_length s
theorem bytesV_append (a b : ByteArray) : bytesV (a ++ b) = bytesV a ++ bytesV b := by
  unfold bytesV Lib.strCells
  rw [ByteArray.data_append, Array.toList_append, List.map_append]
theorem bytesV_get {s : ByteArray} {j : Nat} (h : j < s.data.toList.length) : (bytesV s)[j]? = some (.int .u8 (s.data.toList[j].toNat : Int)) := by
  unfold bytesV Lib.strCells
  rw [List.getElem?_map, List.getElem?_eq_getElem h]
  rfl
section
variable {P : Program} {w0 w : World} {O : Nat → Prop} {L R : List Assn} {A : Option Addr} {n c : Nat} {t ts tx : TypeId} {cells : List Value}
/-- append(b, s...): a text's bytes. -/
theorem append_str_W {K : Option Addr → Nat → Nat → World → Prop} (ht : P.underlying ts = some (.slice t)) (hx : P.underlying tx = some .string) {i : TypeInfo} (hi : P.info? t = some i) (hz : i.zero = some (.int .u8 0)) (hs : i.size = 1) (hb : i.bytes = 1)
    (u : TypeId) (s : ByteArray) (h : St w0 O L w) (p : Pick (rowC t 1 A n c cells) L R) (hn : n + s.size < 2 ^ 40)
    (k : ∀ A' c' w', St w0 O (rowC t 1 A' (n + s.size) c' (cells ++ bytesV s) :: R) w' → K A' (n + s.size) c' w') : slW P (Builtin.append_ #[ts, tx] u #[.slice A n c, .string s]) w K := by
  have h := h.pick p
  have hown := rowC_own h
  have hl := rowC_len h
  rw [Nat.mul_one] at hl
  have h63 : n + s.size ≤ maxLen := by simp [maxLen]; omega
  have h47 : n + s.size ≤ 140737488355328 := by omega
  rcases rowC_open h with ⟨⟨rfl, rfl, rfl, rfl⟩, hL⟩ | ⟨g, cur, ⟨rfl, h1, h2, h3, h4, h5⟩, hL⟩
  · obtain ⟨v', w', hr, hown', hgrow, hnil⟩ := Lib.run_append_own_string (P := P) w w.heap.size ts tx u t i ht hx hi hz hs hb (.slice none 0 0) 0 [] ⟨by simp, .inl ⟨rfl, rfl⟩⟩ s h63 h47 (Nat.le_refl _)
    obtain ⟨hlen, hv⟩ := hown'
    rcases hv with ⟨rfl, h0⟩ | ⟨g', cap, cur, rfl, hge, hg', c2, c3, c4, c5⟩
    · refine ⟨none, 0, 0, w', hr, ?_⟩
      have e0 : s.size = 0 := by omega
      have := k none 0 w' ?_
      · simpa [e0] using this
      · have e1 : ([] ++ bytesV s : List Value) = [] := List.eq_nil_of_length_eq_zero (by rw [List.nil_append, bytesV_len, e0])
        rw [e1, e0, Nat.add_zero]
        refine rowC_nil ?_ t 1
        refine ⟨hgrow.os.trans hL.os, hgrow.tape.trans hL.tape, hgrow.output.trans hL.output, Nat.le_trans hL.size hgrow.size, fun b hb => ?_, ?_⟩
        · have h1 := hL.old b hb
          exact ⟨h1.1, (hgrow.block b (Nat.lt_of_lt_of_le h1.1 hL.size) (by simp [Value.ownBlock])).trans h1.2⟩
        · obtain ⟨k, hl, hk⟩ := hL.parts
          exact ⟨k, hl, fun b o hb => ⟨(hk b o hb).1, (hgrow.block b (Array.getElem?_eq_some_iff.1 (hk b o hb).2).1 (by simp [Value.ownBlock])).trans (hk b o hb).2⟩⟩
    · refine ⟨some ⟨g', 0, none⟩, 0 + s.size, cap, w', hr, k _ _ w' ?_⟩
      exact rowC_shut rfl c2 c3 c4 c5 hlen (hL.grown (by simpa [Value.ownBlock] using hgrow) hg' hge)
  · have hg := hL.get.1
    by_cases hroom : n + s.size ≤ c
    · have hr := Lib.run_append_room_string (P := P) w ts tx u t i ht hx hi hs g n c cur hg s hroom (by rw [h3]; omega)
      refine ⟨_, _, _, _, hr, k _ _ _ ?_⟩
      refine rowC_shut (cur := (cur.toList.take n ++ Lib.strCells s ++ cur.toList.drop (n + s.size)).toArray) rfl hroom h2 ?_ ?_ ?_ (hL.write rfl rfl rfl (setRow_size _ _ _) (setRow_heap w g cur _ t (0, 0) hg) (fun b hb => setRow_other w g b _ hb))
      · simp [Lib.strCells_length]; omega
      · have e1 : cur.toList.take n = cells := by rw [← h4, Nat.mul_one]
        have hcl : cells.length = n := by rw [h5, Nat.mul_one]
        rw [List.toList_toArray, e1, Nat.mul_one, List.take_append_of_le_length (by rw [List.length_append, Lib.strCells_length]; omega), List.take_of_length_le (by rw [List.length_append, Lib.strCells_length]; omega)]
        rfl
      · rw [List.length_append, bytesV_len, h5]; omega
    · have hr := Lib.run_append_grow_string (P := P) w ts tx u t i (.int .u8 0) ht hx hi hz ⟨g, 0, none⟩ n c cells (by rw [h5, hs]) (fun j v hj => by
        obtain ⟨g2, e, hc⟩ := rowC_cell h hj
        cases e
        rw [addr_eq, Nat.zero_add]; exact hc) s (by omega) (by omega) (by
          rw [hb, Nat.mul_one]
          have := nextslicecap_le (need := n + s.size) (old := c) (by omega)
          omega)
      refine ⟨_, _, _, _, hr, k _ _ _ ?_⟩
      have h6 := (hL.drop.drew).alloc (.cells (cells.toArray ++ (Lib.strCells s).toArray ++ Builtin.zeroCells (Value.int .u8 0).cells (grownCap w (n + s.size) c t - (n + s.size))) t)
      have hge := grownCap_ge w (n + s.size) c t
      refine rowC_shut rfl hge (grownCap_le_maxLen w (n + s.size) c t h63) ?_ ?_ ?_ h6
      · rw [Array.size_append, Array.size_append, List.size_toArray, List.size_toArray, h5, Lib.strCells_length, size_zeroCells]
        have : (Value.int .u8 0).cells.size = 1 := rfl
        rw [this]; omega
      · rw [Array.toList_append, Array.toList_append, List.toList_toArray, List.toList_toArray, List.take_append_of_le_length (by rw [List.length_append, Lib.strCells_length, h5]; omega), List.take_of_length_le (by rw [List.length_append, Lib.strCells_length, h5]; omega)]
        rfl
      · rw [List.length_append, bytesV_len, h5]; omega
/-- string(b): of a row of bytes. -/
theorem convRow {src dst : TypeId} (hs : P.underlying src = some (.slice t)) (he : P.underlying t = some (.int .u8)) (hd : P.underlying dst = some .string) {s : ByteArray} (h : St w0 O L w) (p : Pick (rowC t 1 A n c (bytesV s)) L R) :
    (convert src dst (.slice A n c)).run P w = .ok (.string s) w := by
  have h1 := h.pick p
  have hl := (rowC_len h1).1
  rw [bytesV_len, Nat.mul_one] at hl
  rcases rowC_open h1 with ⟨⟨rfl, rfl, rfl, hnil⟩, hL⟩ | ⟨g, cur, ⟨rfl, _⟩, hL⟩
  · have := run_convert_bytes_nil (P := P) w src t hs he 0 0
    rw [this dst hd]
    congr 2
    obtain ⟨⟨l⟩⟩ := s
    cases l with
    | nil => rfl
    | cons _ _ => simp [ByteArray.size] at hl
  · have e : n = s.data.toList.length := by rw [← hl, Array.length_toList]; rfl
    subst e
    have := run_convert_bytes_back (P := P) w src dst t ⟨g, 0, none⟩ c s.data.toList hs he hd (fun j hj => by
      obtain ⟨g2, e, hc⟩ := rowC_cell h1 (bytesV_get hj)
      cases e
      rw [addr_eq, Nat.zero_add]; exact hc)
    rw [this]
end
end Go.Proofs.YthfcnkeclcphpaaDoor
