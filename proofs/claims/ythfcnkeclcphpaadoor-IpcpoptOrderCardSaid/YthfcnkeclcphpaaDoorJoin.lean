/- strings.Builder's Grow; strings.Join. -/
import Derived.Test.YthfcnkeclcphpaaDoorBld0
import Derived.Test.YthfcnkeclcphpaaDoorSh10
set_option linter.unusedVariables false
set_option linter.unusedSimpArgs false
namespace Go.Proofs.YthfcnkeclcphpaaDoor
open Go Go.RowKit

theorem St.have1 {w w' : World} {g : Nat} {o : Obj} (h : St w (World.all w) [] w') (hg : w'.heap[g]? = some o) (hge : w.heap.size ≤ g) : St w (World.all w) [blk g o] w' := by
  refine ⟨h.os, h.tape, h.output, h.size, h.old, _, ⟨_, fun _ => none, fun b => .inr rfl, rfl, (blk_def _ _ _).2 rfl, fun _ => rfl⟩, fun b o2 hb => ?_⟩
  unfold Hp.join at hb
  by_cases e : b = g
  · subst e
    simp at hb
    subst hb
    exact ⟨fun hO => by have : b < w.heap.size := hO; omega, hg⟩
  · simp [e] at hb
theorem St.have2 {w w' : World} {g g2 : Nat} {o o2 : Obj} (h : St w (World.all w) [] w') (hg : w'.heap[g]? = some o) (hge : w.heap.size ≤ g) (hg2 : w'.heap[g2]? = some o2) (hge2 : w.heap.size ≤ g2) (hne : g ≠ g2) : St w (World.all w) [blk g o, blk g2 o2] w' := by
  obtain ⟨k, hk1, hk2⟩ := (h.have1 hg2 hge2).parts
  have hk : k = fun b => if b = g2 then some o2 else none := by
    obtain ⟨k1, k2, dj, rfl, hc, he⟩ := hk1
    rw [blk_def] at hc
    subst hc
    funext b
    unfold Hp.join
    by_cases e : b = g2
    · simp [e]
    · simp [e, he b]
  refine ⟨h.os, h.tape, h.output, h.size, h.old, _, ⟨_, k, fun b => ?_, rfl, (blk_def _ _ _).2 rfl, hk1⟩, fun b o3 hb => ?_⟩
  · by_cases e : b = g
    · subst e; right; rw [hk]; simp [hne]
    · left; simp [e]
  · unfold Hp.join at hb
    by_cases e : b = g
    · subst e
      simp at hb
      subst hb
      exact ⟨fun hO => by have : b < w.heap.size := hO; omega, hg⟩
    · simp [e] at hb
      exact hk2 b o3 hb
theorem sbC_of {w w' : World} {g : Nat} {l : List UInt8} (h : St w (World.all w) [] w') (hB : Lib.BuilderAt 75 5 w.heap.size g (.pointer (some ⟨g, 0, none⟩)) (Lib.byteCells l) w') : St w (World.all w) [sbC g ⟨l.toArray⟩] w' := by
  obtain ⟨hge, v, hg, hown, hne⟩ := hB
  obtain ⟨hlen, hv⟩ := hown
  rcases hv with ⟨rfl, h0⟩ | ⟨g2, c, cur, rfl, hge2, hg2, c1, c2, c3, c4⟩
  · have hl : l = [] := List.eq_nil_of_length_eq_zero (by simpa [Lib.byteCells_length] using h0)
    subst hl
    have h1 := h.have1 hg hge
    exact sbC_shut (p := some ⟨g, 0, none⟩) (.inr rfl) ((rowC_nil h1 5 1).pick (.there .here))
  · have hn : g ≠ g2 := fun e => hne (by rw [← e]; rfl)
    have h1 := h.have2 hg hge hg2 hge2 hn
    have h2 : St w (World.all w) [rowC 5 1 (some ⟨g2, 0, none⟩) (Lib.byteCells l).length c (bytesV ⟨l.toArray⟩), blk g (.cells #[.pointer (some ⟨g, 0, none⟩), .slice (some ⟨g2, 0, none⟩) (Lib.byteCells l).length c] 75)] w' :=
      rowC_shut (cur := cur) rfl c1 c2 c3 c4 hlen (h1.pick (.there .here))
    exact sbC_shut (p := some ⟨g, 0, none⟩) (.inr rfl) (h2.pick (.there .here))
section
variable {w w1 : World} {g : Nat}
theorem Grow_ok {n : Nat} (hn : n < 2 ^ 40) (h : St w (World.all w) [blk g (.cells #[.pointer none, .slice none 0 0] 75)] w1) :
    Calls Tryd.prog 34 #[.pointer (some ⟨g, 0, none⟩), .int .i64 (n : Int)] w1 fun e w' => e = .returned (.tuple #[]) ∧ St w (World.all w) [sbC g eB] w' := by
  refine F34.calls ?_
  unfold F34.main
  refine (copyCheck_ok (.inl rfl) h).mono ?_
  rintro e w2 ⟨rfl, h2⟩
  refine .inl ⟨rfl, ?_⟩
  rw [decide_eq_false (by omega), cond_false]
  refine F34.p3_ok ?_
  unfold F34.p3
  simp only [nilck, add_eq]
  have h3 := h2.drew
  refine ⟨none, 0, 0, h3.cell .here rfl, none, 0, 0, h3.cell .here rfl, ?_⟩
  by_cases h0 : n = 0
  · subst h0
    rw [decide_eq_false (by decide), cond_false]
    exact ⟨by trivial, sbC_shut (p := some ⟨g, 0, none⟩) (.inr rfl) ((rowC_nil h3 5 1).pick (.there .here))⟩
  · rw [decide_eq_true (by rw [wrap_i64 (by omega) (by omega)]; omega), cond_true]
    have hg := h3.get
    refine (Sh.Builder_grow_fresh w.heap.size g n w2.drew (Nat.le_of_not_lt hg.2) hg.1 h3.size (by omega)).mono ?_
    rintro e w4 ⟨rfl, hB, hb⟩
    refine .inl ⟨rfl, by trivial, ?_⟩
    exact sbC_of (l := []) (h3.shed hb) hB
/-- Texts with one between. -/
def joinR (sep : ByteArray) : List ByteArray → ByteArray
  | [] => eB
  | x :: r => sep ++ (x ++ joinR sep r)
theorem Join_ok {w0 : World} {O : Nat → Prop} {L : List Assn} {A : Option Addr} {c : Nat} (x y : ByteArray) (r : List ByteArray) (sep : ByteArray) (h : St w0 O L w)
    (hA : ∀ j z, (x :: y :: r)[j]? = some z → ∃ g, A = some ⟨g, 0, none⟩ ∧ w.cell? ⟨g, j, none⟩ = some (.string z)) (hsz : ∀ z ∈ x :: y :: r, z.size ≤ 2 ^ 20) (hs : sep.size ≤ 2 ^ 10) (hs0 : 0 < sep.size) (hmax : r.length < 2 ^ 10) (hc : r.length + 2 ≤ c) :
    Calls Tryd.prog 26 #[.slice A (r.length + 2) c, .string sep] w fun e w' => e = .returned (.string (x ++ joinR sep (y :: r))) ∧ St w0 O L w' := by
  have main : Calls Tryd.prog 26 #[.slice A (r.length + 2) c, .string sep] w fun e w' => e = .returned (.string (x ++ joinR sep (y :: r))) ∧ St w (World.all w) [] w' := by
    obtain ⟨gr, hAg, _⟩ := hA 0 x rfl
    subst hAg
    have hA : ∀ j z, (x :: y :: r)[j]? = some z → w.cell? ⟨gr, j, none⟩ = some (.string z) := fun j z hz => by
      obtain ⟨g, e, hc⟩ := hA j z hz
      cases e; exact hc
    refine F26.calls ?_
    unfold F26.main
    rw [show ((((r.length + 2 : Nat) : Int) == 0) = false) from by rw [beq_eq_false_iff_ne]; omega, cond_false, show ((((r.length + 2 : Nat) : Int) == 1) = false) from by rw [beq_eq_false_iff_ne]; omega, cond_false]
    rw [decide_eq_true (by omega), cond_true]
    have e1 : IntKind.wrap .i64 (((r.length + 2 : Nat) : Int) - 1) = ((r.length + 1 : Nat) : Int) := by rw [wrap_i64 (by omega) (by omega)]; omega
    rw [e1]
    refine ⟨by omega, ?_⟩
    have hdiv : (2 ^ 40 : Int) ≤ Int.tdiv 9223372036854775807 ((r.length + 1 : Nat) : Int) := by
      rw [Int.tdiv_eq_ediv_of_nonneg (by decide)]
      rw [Int.le_ediv_iff_mul_le (by omega)]
      have : ((r.length + 1 : Nat) : Int) ≤ 2 ^ 10 := by omega
      omega
    have hdiv2 : Int.tdiv 9223372036854775807 ((r.length + 1 : Nat) : Int) ≤ 9223372036854775807 := by
      rw [Int.tdiv_eq_ediv_of_nonneg (by decide)]
      exact Int.ediv_le_self _ (by decide)
    rw [wrap_i64 (n := Int.tdiv _ _) (by omega) (by omega), decide_eq_false (by omega), cond_false]
    have hm : sep.size * (r.length + 1) ≤ 2 ^ 20 := Nat.le_trans (Nat.mul_le_mul hs (show r.length + 1 ≤ 2 ^ 10 by omega)) (by decide)
    have e2 : IntKind.wrap .i64 (0 + IntKind.wrap .i64 ((sep.size : Int) * ((r.length + 1 : Nat) : Int))) = ((sep.size * (r.length + 1) : Nat) : Int) := by
      have : (sep.size : Int) * ((r.length + 1 : Nat) : Int) = ((sep.size * (r.length + 1) : Nat) : Int) := by simp
      rw [this, wrap_i64 (n := ((sep.size * (r.length + 1) : Nat) : Int)) (by omega) (by omega), wrap_i64 (by omega) (by omega)]; omega
    rw [e2]
    have hget : ∀ i, i < r.length + 2 → ∃ z, (x :: y :: r)[i]? = some z ∧ z.size ≤ 2 ^ 20 := fun i hi => by
      refine ⟨(x :: y :: r)[i]'(by simpa using hi), List.getElem?_eq_getElem _, hsz _ (List.getElem_mem _)⟩
    -- the second loop
    have loop2 : ∀ (k i : Nat) (s : ByteArray) (w1 : World) (g : Nat), k + i = r.length + 1 → s ++ joinR sep ((y :: r).drop i) = x ++ joinR sep (y :: r) → s.size ≤ 2 ^ 21 * (i + 1) → St w (World.all w) [sbC g s] w1 →
        SK Tryd.prog Tryd.f26 (fun e w' => e = .returned (.string (x ++ joinR sep (y :: r))) ∧ St w (World.all w) [] w') (cfg Tryd.f26 22) [(1, .string sep), (8, .pointer (some ⟨g, 0, none⟩)), (63, .slice (some ⟨gr, 1, none⟩) (r.length + 1) (c - 1)), (64, .int .i64 ((r.length + 1 : Nat) : Int)), (65, .int .i64 (i : Int))] w1 := by
      intro k
      induction k with
      | zero =>
        intro i s w1 g hk hj hs1 h1
        refine F26.p22_ok ?_
        unfold F26.p22
        rw [decide_eq_false (by omega), cond_false]
        rw [List.drop_eq_nil_of_le (by simp; omega)] at hj
        refine (String_ok h1).mono ?_
        rintro e w2 ⟨rfl, h2⟩
        exact .inl ⟨_, rfl, by rw [← hj]; congr 3; exact (app_nil s).symm, h2⟩
      | succ k ih =>
        intro i s w1 g hk hj hs1 h1
        refine F26.p22_ok ?_
        unfold F26.p22
        rw [decide_eq_true (by omega), cond_true]
        refine ⟨⟨by omega, by omega⟩, ?_⟩
        simp only [nilck, add_eq, Int.toNat_natCast, Nat.mul_one]
        obtain ⟨z, hz, hzs⟩ := hget (i + 1) (by omega)
        refine ⟨z, h1.oldCell (by rw [Nat.add_comm 1 i]; exact hA _ _ hz), ?_⟩
        have hi : i < 2 ^ 10 + 1 := by omega
        refine (WriteString_ok h1 sep (by omega)).mono ?_
        rintro e w2 ⟨rfl, h2⟩
        refine .inl ⟨_, _, rfl, ?_⟩
        refine (WriteString_ok h2 z (by rw [ByteArray.size_append]; omega)).mono ?_
        rintro e w3 ⟨rfl, h3⟩
        refine .inl ⟨_, _, rfl, ?_⟩
        rw [nat_wrap' (by omega)]
        refine ih (i + 1) _ w3 g (by omega) ?_ (by rw [ByteArray.size_append, ByteArray.size_append]; omega) h3
        rw [← hj]
        have hz' : (y :: r)[i]? = some z := by simpa using hz
        obtain ⟨hi', hz'⟩ := List.getElem?_eq_some_iff.1 hz'
        rw [List.drop_eq_getElem_cons hi', hz']
        simp only [joinR, ByteArray.append_assoc]
    -- the first loop
    have loop1 : ∀ (k i m : Nat), k + i = r.length + 2 → m ≤ 2 ^ 20 + 2 ^ 20 * i →
        SK Tryd.prog Tryd.f26 (fun e w' => e = .returned (.string (x ++ joinR sep (y :: r))) ∧ St w (World.all w) [] w') (cfg Tryd.f26 12) [(0, .slice (some ⟨gr, 0, none⟩) (r.length + 2) c), (1, .string sep), (5, .int .i64 (m : Int)), (39, .slice (some ⟨gr, 0, none⟩) (r.length + 2) c), (40, .int .i64 ((r.length + 2 : Nat) : Int)), (41, .int .i64 (i : Int))] w := by
      intro k
      induction k with
      | zero =>
        intro i m hk hm
        refine F26.p12_ok ?_
        unfold F26.p12
        rw [decide_eq_false (by omega), cond_false]
        refine new_alloc (z := .agg #[.pointer none, .slice none 0 0]) (St.refl w) (by kernel_rfl) (fun g w1 h1 => ?_)
        refine (Grow_ok (by omega) h1).mono ?_
        rintro e w2 ⟨rfl, h2⟩
        refine .inl ⟨rfl, ⟨by omega, by omega⟩, ?_⟩
        simp only [nilck, add_eq]
        refine ⟨x, h2.oldCell (hA 0 x rfl), ?_⟩
        have hx := hsz x List.mem_cons_self
        refine (WriteString_ok h2 x (by show 0 + x.size < _; omega)).mono ?_
        rintro e w3 ⟨rfl, h3⟩
        refine .inl ⟨_, _, rfl, ⟨by decide, by omega, fun h => by cases h⟩, ?_⟩
        have e5 : slcA (some (⟨gr, 0, none⟩ : Addr)) c (Int.toNat 1) 1 = some ⟨gr, 1, none⟩ := by
          unfold slcA
          rw [if_neg (by show ¬ c = 1; omega)]
          rfl
        have e6 : Int.toNat (((r.length + 2 : Nat) : Nat) : Int) - Int.toNat 1 = r.length + 1 := by rw [Int.toNat_natCast]; rfl
        rw [e5, e6]
        refine loop2 (r.length + 1) 0 (eB ++ x) w3 g rfl ?_ ?_ h3
        · rw [nil_app]; rfl
        · rw [nil_app]; omega
      | succ k ih =>
        intro i m hk hm
        refine F26.p12_ok ?_
        unfold F26.p12
        rw [decide_eq_true (by omega), cond_true]
        refine ⟨⟨by omega, by omega⟩, ?_⟩
        simp only [nilck, add_eq, Int.toNat_natCast, Nat.mul_one, Nat.zero_add]
        obtain ⟨z, hz, hzs⟩ := hget i (by omega)
        refine ⟨z, hA _ _ hz, ?_⟩
        rw [wrap_i64 (n := 9223372036854775807 - (m : Int)) (by omega) (by omega), decide_eq_false (by omega), cond_false]
        have e7 : IntKind.wrap .i64 ((m : Int) + (z.size : Int)) = ((m + z.size : Nat) : Int) := by rw [wrap_i64 (by omega) (by omega)]; omega
        rw [e7, nat_wrap' (by omega)]
        exact ih (i + 1) (m + z.size) (by omega) (by omega)
    exact loop1 (r.length + 2) 0 _ rfl (by omega)
  refine main.mono ?_
  rintro e w' ⟨rfl, h2⟩
  exact ⟨rfl, h.over h2.below⟩
end
end Go.Proofs.YthfcnkeclcphpaaDoor
