/- ipcpopt's values and options; find, Good. -/
import Derived.Test.YthfcnkeclcphpaaDoorParse10
import Derived.Test.YthfcnkeclcphpaaDoorArgOld
set_option linter.unusedVariables false
set_option linter.unusedSimpArgs false
namespace Go.Proofs.YthfcnkeclcphpaaDoor
open Go Go.RowKit

/-! ### 1. Values, options -/
structure Ip where
  h0 : Bool
  v0 : Int
  h1 : Bool
  v1 : Int
  h2 : Bool
  v2 : Int
  deriving DecidableEq
def Ip.zero : Ip := ⟨false, 0, false, 0, false, 0⟩
def Ip.cells (x : Ip) : List Value := [.bool x.h0, .int .u32 x.v0, .bool x.h1, .int .u32 x.v1, .bool x.h2, .int .u32 x.v2]
def Ip.enc (x : Ip) : Value := .agg x.cells.toArray
def encIp : EncT Tryd.prog 30 6 Ip where
  cells := Ip.cells
  zero := Ip.zero
  len _ := rfl
  one _ := rfl
  zeroOk := by kernel_rfl
  size := by kernel_rfl
structure Op where
  t : Int
  d : ByteArray
  deriving DecidableEq
def Op.cells (o : Op) : List Value := [.int .u8 o.t, .string o.d]
def Op.enc (o : Op) : Value := .agg o.cells.toArray
def encOp : EncT Tryd.prog 38 2 Op where
  cells := Op.cells
  zero := ⟨0, eB⟩
  len _ := rfl
  one _ := rfl
  zeroOk := by kernel_rfl
  size := by kernel_rfl
theorem elemOp : ElemT Tryd.prog 31 38 2 24 := elemT_of Tryd.underlying31 (by kernel_rfl) (by decide)
/-- The kinds, by number. -/
def kt (k : Nat) : Int := if k = 0 then 3 else if k = 1 then 129 else 131
def kf (k : Nat) : FuncId := if k = 0 then 91 else if k = 1 then 92 else 93
def kindOf (t : Int) : Option Nat := if t = 3 then some 0 else if t = 129 then some 1 else if t = 131 then some 2 else none
def good (o : Op) : Bool := (kindOf o.t).isSome && decide (o.d.size = 4)
def fval (o : Op) : Int := if good o then val32 o.d else 0
theorem kindOf_lt {t : Int} {k : Nat} (h : kindOf t = some k) : k < 3 ∧ t = kt k := by
  unfold kindOf at h
  unfold kt
  split at h
  · cases h; rename_i e; exact ⟨by decide, by simpa using e⟩
  · split at h
    · cases h; rename_i e; exact ⟨by decide, by simpa using e⟩
    · split at h
      · cases h; rename_i e; exact ⟨by decide, by simpa using e⟩
      · cases h
theorem kindOf_kt {k : Nat} (h : k < 3) : kindOf (kt k) = some k := by
  have : k = 0 ∨ k = 1 ∨ k = 2 := by omega
  rcases this with rfl | rfl | rfl <;> rfl
abbrev kindsL : List Value := [.int .u8 3, .func (.func 91) #[] #[], .int .u8 129, .func (.func 92) #[] #[], .int .u8 131, .func (.func 93) #[] #[]]
theorem kind_at {i : Nat} (h : i < 3) (w : World) : (Instr.index 63 (.agg #[.int .u8 3, .func (.func 91) #[] #[], .int .u8 129, .func (.func 92) #[] #[], .int .u8 131, .func (.func 93) #[] #[]]) (.int .i64 (i : Int))).run Tryd.prog w = .ok (.agg #[.int .u8 (kt i), .func (.func (kf i)) #[] #[]]) w := by
  have : i = 0 ∨ i = 1 ∨ i = 2 := by omega
  rcases this with rfl | rfl | rfl
  · show _ = _; kernel_rfl
  · show _ = _; kernel_rfl
  · show _ = _; kernel_rfl
theorem get32E_zero (s : ByteArray) : (get32E s == 0) = decide (s.size = 4) := by
  unfold get32E
  by_cases h : s.size = 4
  · rw [if_neg (by omega), if_neg (by omega), decide_eq_true h]; rfl
  · rw [decide_eq_false h]
    split
    · rfl
    · rw [if_pos (by omega)]; rfl
/-! ### 2. find -/
section
variable {w0 w : World} {O : Nat → Prop} {L R : List Assn} {g : Nat}
theorem find_ok {w : World} (hG : Glob w) (o : Op) : Calls Tryd.prog 27 #[o.enc] w fun e w' => (∃ n v, e = .returned (.tuple #[.agg #[.int .u8 n, v], .int .u32 (fval o), .bool (good o)]) ∧ (v.oneCell' = true) ∧ (∀ k, kindOf o.t = some k → good o = true → v = .func (.func (kf k)) #[] #[])) ∧ Below w.heap.size w w' := by
  refine F27.calls ?_
  unfold F27.main
  refine boxE encOp o (St.refl w) (fun g1 w1 h1 => ?_)
  refine new_alloc (z := .agg #[.int .u8 0, .nilFunc]) h1 (by kernel_rfl) (fun g2 w2 h2 => ?_)
  refine ⟨o.d, h2.cell (.there .here) rfl, ?_⟩
  refine (Get32_ok o.d w2).mono ?_
  rintro e w3 ⟨rfl, rfl⟩
  refine .inl ⟨_, _, rfl, 3, _, 129, _, 131, _, (hG.old h2).kinds, ?_⟩
  have h2 : St w (World.all w) [blk g2 (.cells #[.int .u8 0, .nilFunc] 62), blk g1 (.cells o.cells.toArray 38)] w3 := h2
  have step : ∀ (i : Nat) (w1 : World), i < 3 → St w (World.all w) [blk g2 (.cells #[.int .u8 0, .nilFunc] 62), blk g1 (.cells o.cells.toArray 38)] w1 →
      ((¬ (o.t = kt i ∧ o.d.size = 4)) → ∀ w2, St w (World.all w) [blk g2 (.cells #[.int .u8 0, .nilFunc] 62), blk g1 (.cells o.cells.toArray 38)] w2 →
        SK Tryd.prog Tryd.f27 (fun e w' => (∃ n v, e = .returned (.tuple #[.agg #[.int .u8 n, v], .int .u32 (fval o), .bool (good o)]) ∧ (v.oneCell' = true) ∧ (∀ k, kindOf o.t = some k → good o = true → v = .func (.func (kf k)) #[] #[])) ∧ Below w.heap.size w w') (cfg Tryd.f27 3) [(1, .pointer (some ⟨g1, 0, none⟩)), (2, .pointer (some ⟨g2, 0, none⟩)), (3, .int .u32 (get32V o.d)), (5, .int .i64 (get32E o.d)), (14, .agg kindsL.toArray), (15, .int .i64 ((i + 1 : Nat) : Int))] w2) →
      SK Tryd.prog Tryd.f27 (fun e w' => (∃ n v, e = .returned (.tuple #[.agg #[.int .u8 n, v], .int .u32 (fval o), .bool (good o)]) ∧ (v.oneCell' = true) ∧ (∀ k, kindOf o.t = some k → good o = true → v = .func (.func (kf k)) #[] #[])) ∧ Below w.heap.size w w') (cfg Tryd.f27 3) [(1, .pointer (some ⟨g1, 0, none⟩)), (2, .pointer (some ⟨g2, 0, none⟩)), (3, .int .u32 (get32V o.d)), (5, .int .i64 (get32E o.d)), (14, .agg kindsL.toArray), (15, .int .i64 (i : Int))] w1 := by
    intro i w1 hi h1 k
    refine F27.p3_ok ?_
    unfold F27.p3
    rw [decide_eq_true (by omega), cond_true]
    refine ⟨kt i, _, kind_at hi w1, ?_⟩
    refine new_alloc (z := .agg #[.int .u8 0, .nilFunc]) h1 (by kernel_rfl) (fun g7 w2 h2 => ?_)
    refine st_W h2 .here _ (by kernel_rfl) rfl (by show 2 ≤ 2; decide) (fun w3 h3 => ?_)
    have h3 : St w (World.all w) [blk g7 (.cells #[.int .u8 (kt i), .func (.func (kf i)) #[] #[]] 62), blk g2 (.cells #[.int .u8 0, .nilFunc] 62), blk g1 (.cells o.cells.toArray 38)] w3 := h3
    refine ⟨kt i, h3.cell .here rfl, o.t, h3.cell (.there (.there .here)) rfl, ?_⟩
    by_cases ht : o.t = kt i
    case neg =>
      rw [show (kt i == o.t) = false from beq_eq_false_iff_ne.2 (Ne.symm ht), cond_false, nat_wrap' (by omega)]
      exact k (fun h => ht h.1) w3 h3.drop
    rw [show (kt i == o.t) = true from beq_iff_eq.2 ht.symm, cond_true, get32E_zero]
    by_cases hd : o.d.size = 4
    case neg =>
      rw [decide_eq_false hd, cond_false, nat_wrap' (by omega)]
      exact k (fun h => hd h.2) w3 h3.drop
    rw [decide_eq_true hd, cond_true]
    refine ⟨kt i, _, h3.cells0 (vs := [.int .u8 (kt i), .func (.func (kf i)) #[] #[]]) .here, ?_⟩
    refine st_W h3 (.there .here) _ (by kernel_rfl) rfl (by show 2 ≤ 2; decide) (fun w4 h4 => ?_)
    have h4 : St w (World.all w) [blk g2 (.cells #[.int .u8 (kt i), .func (.func (kf i)) #[] #[]] 62), blk g7 (.cells #[.int .u8 (kt i), .func (.func (kf i)) #[] #[]] 62), blk g1 (.cells o.cells.toArray 38)] w4 := h4
    refine ⟨kt i, _, h4.cells0 (vs := [.int .u8 (kt i), .func (.func (kf i)) #[] #[]]) .here, ?_⟩
    have hko : kindOf o.t = some i := by rw [ht]; exact kindOf_kt hi
    have hg : good o = true := by unfold good; rw [hko, decide_eq_true hd]; rfl
    refine ⟨⟨kt i, .func (.func (kf i)) #[] #[], ?_, rfl, ?_⟩, h4.below⟩
    · unfold fval get32V
      rw [hg, if_pos hd]; rfl
    · intro k hk _
      rw [hko] at hk
      cases hk; rfl
  refine step 0 w3 (by decide) h2 (fun n0 w4 h4 => ?_)
  refine step 1 w4 (by decide) h4 (fun n1 w5 h5 => ?_)
  refine step 2 w5 (by decide) h5 (fun n2 w6 h6 => ?_)
  have hg : good o = false := by
    cases hgd : good o with
    | false => rfl
    | true =>
      exfalso
      unfold good at hgd
      simp only [Bool.and_eq_true, decide_eq_true_eq] at hgd
      obtain ⟨k, hk⟩ := Option.isSome_iff_exists.1 hgd.1
      obtain ⟨hlt, ht⟩ := kindOf_lt hk
      have : k = 0 ∨ k = 1 ∨ k = 2 := by omega
      rcases this with rfl | rfl | rfl
      · exact n0 ⟨ht, hgd.2⟩
      · exact n1 ⟨ht, hgd.2⟩
      · exact n2 ⟨ht, hgd.2⟩
  refine F27.p3_ok ?_
  unfold F27.p3
  rw [decide_eq_false (by decide), cond_false]
  refine ⟨0, .nilFunc, h6.cells0 (vs := [.int .u8 0, .nilFunc]) .here, ?_⟩
  refine st_W h6 .here _ (by kernel_rfl) rfl (by show 2 ≤ 2; decide) (fun w7 h7 => ?_)
  have h7 : St w (World.all w) [blk g2 (.cells #[.int .u8 0, .nilFunc] 62), blk g1 (.cells o.cells.toArray 38)] w7 := h7
  refine ⟨0, .nilFunc, h7.cells0 (vs := [.int .u8 0, .nilFunc]) .here, ?_⟩
  refine ⟨⟨0, .nilFunc, ?_, rfl, fun k _ h => ?_⟩, h7.below⟩
  · unfold fval
    rw [hg]; rfl
  · rw [hg] at h; cases h
theorem Good_ok {w : World} (hG : Glob w) (o : Op) : Calls Tryd.prog 17 #[o.enc] w fun e w' => e = .returned (.bool (good o)) ∧ Below w.heap.size w w' := by
  refine F17.calls ?_
  unfold F17.main
  refine boxE encOp o (St.refl w) (fun g1 w1 h1 => ?_)
  refine ⟨o.t, o.d, h1.cells0 (vs := o.cells) .here, ?_⟩
  refine (find_ok (hG.old h1) o).mono ?_
  rintro e w2 ⟨⟨n, v, rfl, hv, _⟩, hb⟩
  refine .inl ⟨n, v, _, _, rfl, ?_⟩
  have h2 := h1.over hb
  refine new_alloc (z := .agg #[.int .u8 0, .nilFunc]) h2 (by kernel_rfl) (fun g7 w3 h3 => ?_)
  refine st_W h3 .here _ (by kernel_rfl) (by simp [Value.cells, hv]; rfl) (by show 2 ≤ 2; decide) (fun w4 h4 => ?_)
  exact ⟨rfl, h4.below⟩
theorem RefGood_ok {w : World} (o : Op) : Calls Tryd.prog 18 #[o.enc] w fun e w' => e = .returned (.bool (good o)) ∧ Below w.heap.size w w' := by
  refine F18.calls ?_
  unfold F18.main
  refine boxE encOp o (St.refl w) (fun g1 w1 h1 => ?_)
  have c0 : w1.cell? ⟨g1, 0, none⟩ = some (.int .u8 o.t) := h1.cell .here rfl
  have c1 : w1.cell? ⟨g1, 1, none⟩ = some (.string o.d) := h1.cell .here rfl
  have hs : (((o.d.size : Nat) : Int) == 4) = decide (o.d.size = 4) := by
    by_cases h : o.d.size = 4
    · rw [decide_eq_true h, h]; rfl
    · rw [decide_eq_false h, beq_eq_false_iff_ne]; omega
  unfold good kindOf
  refine ⟨o.t, c0, ?_⟩
  by_cases t0 : o.t = 3
  · rw [show (o.t == 3) = true from beq_iff_eq.2 t0, cond_true, if_pos t0]
    exact ⟨_, c1, by rw [hs]; rfl, h1.below⟩
  rw [show (o.t == 3) = false from beq_eq_false_iff_ne.2 t0, cond_false, if_neg t0]
  refine ⟨o.t, c0, ?_⟩
  by_cases t1 : o.t = 129
  · rw [show (o.t == 129) = true from beq_iff_eq.2 t1, cond_true, if_pos t1]
    exact ⟨_, c1, by rw [hs]; rfl, h1.below⟩
  rw [show (o.t == 129) = false from beq_eq_false_iff_ne.2 t1, cond_false, if_neg t1]
  refine ⟨o.t, c0, ?_⟩
  by_cases t2 : o.t = 131
  · rw [show (o.t == 131) = true from beq_iff_eq.2 t2, cond_true, if_pos t2]
    exact ⟨_, c1, by rw [hs]; rfl, h1.below⟩
  rw [show (o.t == 131) = false from beq_eq_false_iff_ne.2 t2, cond_false, if_neg t2]
  exact ⟨rfl, h1.below⟩
end
end Go.Proofs.YthfcnkeclcphpaaDoor
