/- ipcpopt.Put, Get. -/
import Derived.Test.YthfcnkeclcphpaaDoorOpt10
set_option linter.unusedVariables false
set_option linter.unusedSimpArgs false
namespace Go.Proofs.YthfcnkeclcphpaaDoor
open Go Go.RowKit

def Ip.has (x : Ip) (k : Nat) : Bool := if k = 0 then x.h0 else if k = 1 then x.h1 else x.h2
def Ip.val (x : Ip) (k : Nat) : Int := if k = 0 then x.v0 else if k = 1 then x.v1 else x.v2
def Ip.set (x : Ip) (k : Nat) (v : Int) : Ip := if k = 0 then { x with h0 := true, v0 := v } else if k = 1 then { x with h1 := true, v1 := v } else { x with h2 := true, v2 := v }
theorem Ip.cell_has (x : Ip) {k : Nat} (h : k < 3) : x.cells.toArray[2 * k]? = some (.bool (x.has k)) := by
  have : k = 0 ∨ k = 1 ∨ k = 2 := by omega
  rcases this with rfl | rfl | rfl <;> rfl
theorem Ip.cell_val (x : Ip) {k : Nat} (h : k < 3) : x.cells.toArray[2 * k + 1]? = some (.int .u32 (x.val k)) := by
  have : k = 0 ∨ k = 1 ∨ k = 2 := by omega
  rcases this with rfl | rfl | rfl <;> rfl
theorem Ip.set_cells (x : Ip) {k : Nat} (h : k < 3) (v : Int) : putAt (putAt x.cells.toArray (2 * k) [.bool true]) (2 * k + 1) [.int .u32 v] = (x.set k v).cells.toArray := by
  have : k = 0 ∨ k = 1 ∨ k = 2 := by omega
  rcases this with rfl | rfl | rfl <;> rfl
theorem kcall {i : Nat} (hi : i < 3) (g : Nat) (w : World) {R : Ending → World → Prop} (k : R (.returned (.tuple #[.pointer (some ⟨g, 2 * i, none⟩), .pointer (some ⟨g, 2 * i + 1, none⟩)])) w.drew) :
    callV Tryd.prog (.func (.func (kf i)) #[] #[]) #[.pointer (some ⟨g, 0, none⟩)] fun f xs => Calls Tryd.prog f xs w R := by
  have : i = 0 ∨ i = 1 ∨ i = 2 := by omega
  rcases this with rfl | rfl | rfl
  · refine ⟨91, #[], #[], rfl, enters_of Tryd.func91 (by kernel_rfl) rfl, ?_⟩
    have hc : Calls Tryd.prog 91 #[.pointer (some ⟨g, 0, none⟩)] w R := F91.calls (by
      unfold F91.main
      simp only [nilck, add_eq]
      exact k)
    exact hc
  · refine ⟨92, #[], #[], rfl, enters_of Tryd.func92 (by kernel_rfl) rfl, ?_⟩
    have hc : Calls Tryd.prog 92 #[.pointer (some ⟨g, 0, none⟩)] w R := F92.calls (by
      unfold F92.main
      simp only [nilck, add_eq]
      exact k)
    exact hc
  · refine ⟨93, #[], #[], rfl, enters_of Tryd.func93 (by kernel_rfl) rfl, ?_⟩
    have hc : Calls Tryd.prog 93 #[.pointer (some ⟨g, 0, none⟩)] w R := F93.calls (by
      unfold F93.main
      simp only [nilck, add_eq]
      exact k)
    exact hc
/-! ### Put -/
def putGo (x : Ip) : List Nat → List Op → Option (List Op)
  | [], l => some l
  | k :: r, l => if x.has k = true then putGo x r (l ++ [⟨kt k, num32 (x.val k)⟩]) else if x.val k = 0 then putGo x r l else none
def putO (x : Ip) : Option (List Op) := putGo x [0, 1, 2] []
def putL (x : Ip) : List Op := (putO x).getD []
def putE (x : Ip) : Int := if (putO x).isSome = true then 0 else 2
abbrev opsC (A : Option Addr) (n c : Nat) (l : List Op) : Assn := rowS encOp A n c l
theorem Put_ok {w : World} (hG : Glob w) (x : Ip) : Calls Tryd.prog 12 #[x.enc] w fun e w' => ∃ A n c, e = .returned (.tuple #[.slice A n c, .int .i64 (putE x)]) ∧ St w (World.all w) [opsC A n c (putL x)] w' := by
  refine F12.calls ?_
  unfold F12.main
  refine boxE encIp x (St.refl w) (fun g1 w1 h1 => ?_)
  refine ⟨3, _, 129, _, 131, _, (hG.old h1).kinds, ?_⟩
  have loop : ∀ (k i : Nat) (l : List Op) (A : Option Addr) (n c : Nat) (w1 : World), k + i = 3 → n ≤ i → putGo x ([0, 1, 2].drop i) l = putO x → St w (World.all w) [opsC A n c l, blk g1 (.cells x.cells.toArray 30)] w1 →
      SK Tryd.prog Tryd.f12 (fun e w' => ∃ A n c, e = .returned (.tuple #[.slice A n c, .int .i64 (putE x)]) ∧ St w (World.all w) [opsC A n c (putL x)] w') (cfg Tryd.f12 2) [(1, .pointer (some ⟨g1, 0, none⟩)), (2, .slice A n c), (8, .agg kindsL.toArray), (9, .int .i64 (i : Int))] w1 := by
    intro k
    induction k with
    | zero =>
      intro i l A n c w1 hk hn hj h1
      refine F12.p2_ok ?_
      unfold F12.p2
      rw [decide_eq_false (by omega), cond_false]
      rw [List.drop_eq_nil_of_le (show [0, 1, 2].length ≤ i by show 3 ≤ i; omega)] at hj
      have hj : some l = putO x := hj
      unfold putE putL
      rw [← hj]
      exact ⟨A, n, c, rfl, h1.sel 2 [0]⟩
    | succ k ih =>
      intro i l A n c w1 hk hn hj h1
      have hi : i < 3 := by omega
      refine F12.p2_ok ?_
      unfold F12.p2
      rw [decide_eq_true (by omega), cond_true]
      have hdrop : [0, 1, 2].drop i = i :: [0, 1, 2].drop (i + 1) := by
        have : i = 0 ∨ i = 1 ∨ i = 2 := by omega
        rcases this with rfl | rfl | rfl <;> rfl
      rw [hdrop, putGo] at hj
      refine ⟨kt i, _, kind_at hi w1, ?_⟩
      refine new_alloc (z := .agg #[.int .u8 0, .nilFunc]) h1 (by kernel_rfl) (fun g5 w2 h2 => ?_)
      refine st_W h2 .here _ (by kernel_rfl) rfl (by show 2 ≤ 2; decide) (fun w3 h3 => ?_)
      have h3 : St w (World.all w) [blk g5 (.cells #[.int .u8 (kt i), .func (.func (kf i)) #[] #[]] 62), opsC A n c l, blk g1 (.cells x.cells.toArray 30)] w3 := h3
      refine ⟨_, h3.cell .here rfl, ?_⟩
      refine kcall hi g1 w3 ?_
      refine .inl ⟨_, _, rfl, ?_⟩
      have h4 := h3.drew
      simp only [nilck]
      refine ⟨x.has i, h4.cell (.there (.there .here)) (Ip.cell_has x hi), ?_⟩
      cases hh : x.has i with
      | true =>
        rw [if_pos hh] at hj
        rw [cond_true]
        have h5 := h4.drew
        refine ⟨kt i, h5.cell .here rfl, x.val i, h5.cell (.there (.there .here)) (Ip.cell_val x hi), ?_⟩
        refine (Put32_ok h5 (x.val i)).mono ?_
        rintro e w6 ⟨rfl, h6⟩
        refine .inl ⟨_, rfl, fun _ => h6.cell .here rfl, ?_⟩
        refine bslE1 encOp elemOp ⟨kt i, num32 (x.val i)⟩ (by decide) h6 (fun g30 w7 h7 => ?_)
        refine appE encOp elemOp _ ⟨kt i, num32 (x.val i)⟩ h7 (.there (.there .here)) (h7.cells0 .here) (by omega) (by decide) (fun A' c' w8 h8 => ?_)
        rw [nat_wrap' (by omega)]
        exact ih (i + 1) _ A' (n + 1) c' w8 (by omega) (by omega) hj (h8.sel 4 [0, 3])
      | false =>
        rw [if_neg (by rw [hh]; decide)] at hj
        rw [cond_false]
        refine ⟨x.val i, h4.cell (.there (.there .here)) (Ip.cell_val x hi), ?_⟩
        by_cases hv : x.val i = 0
        · rw [if_pos hv] at hj
          rw [show (x.val i != 0) = false from by rw [hv]; rfl, cond_false, nat_wrap' (by omega)]
          exact ih (i + 1) l A n c _ (by omega) (by omega) hj (h4.sel 3 [1, 2])
        · rw [if_neg hv] at hj
          rw [show (x.val i != 0) = true from bne_iff_ne.2 hv, cond_true]
          unfold putE putL
          rw [← hj]
          exact ⟨none, 0, 0, rfl, rowS_nil encOp (h4.sel 3 [])⟩
  exact loop 3 0 [] none 0 0 w1 rfl (Nat.le_refl 0) rfl (rowS_nil encOp h1)
/-! ### Get -/
def kindG (o : Op) : Option Nat := if good o = true then kindOf o.t else none
def getGo : List Op → Ip → List Op → Ip × List Op × Int
  | [], x, odd => (x, odd, 0)
  | o :: r, x, odd => match kindG o with
    | none => getGo r x (odd ++ [o])
    | some k => if x.has k = true then (Ip.zero, [], 9) else getGo r (x.set k (val32 o.d)) odd
abbrev getM (l : List Op) : Ip × List Op × Int := getGo l Ip.zero []
theorem good_kind {o : Op} (h : good o = true) : ∃ k, k < 3 ∧ kindOf o.t = some k ∧ kindG o = some k := by
  have h' := h
  unfold good at h
  simp only [Bool.and_eq_true, decide_eq_true_eq] at h
  obtain ⟨k, hk⟩ := Option.isSome_iff_exists.1 h.1
  exact ⟨k, (kindOf_lt hk).1, hk, by unfold kindG; rw [if_pos h', hk]⟩
abbrev ArgO (w0 : World) (A : Option Addr) (len : Nat) (l : List Op) : Prop := ArgRow w0 2 Op.cells A len l
abbrev GetR (w : World) (r : Ip × List Op × Int) : Ending → World → Prop := fun e w' => ∃ B n d, e = .returned (.tuple #[r.1.enc, .slice B n d, .int .i64 r.2.2]) ∧ St w (World.all w) [opsC B n d r.2.1] w'
theorem Get_ok {w : World} (hG : Glob w) {A : Option Addr} {len c : Nat} {l : List Op} (ha : ArgO w A len l) (hlen : len ≤ 2 ^ 20) : Calls Tryd.prog 13 #[.slice A len c] w (GetR w (getM l)) := by
  refine F13.calls ?_
  unfold F13.main
  refine allocE encIp (St.refl w) (fun g2 w1 h1 => ?_)
  have loop : ∀ (k i : Nat) (x : Ip) (odd : List Op) (B : Option Addr) (n d : Nat) (w1 : World), k + i = len → n ≤ i → getGo (l.drop i) x odd = getM l → St w (World.all w) [opsC B n d odd, blk g2 (.cells x.cells.toArray 30)] w1 →
      SK Tryd.prog Tryd.f13 (GetR w (getM l)) (cfg Tryd.f13 2) [(2, .pointer (some ⟨g2, 0, none⟩)), (3, .slice B n d), (12, .slice A len c), (13, .int .i64 (len : Int)), (14, .int .i64 (i : Int))] w1 := by
    intro k
    induction k with
    | zero =>
      intro i x odd B n d w1 hk hn hj h1
      refine F13.p2_ok ?_
      unfold F13.p2
      rw [decide_eq_false (by omega), cond_false]
      rw [List.drop_eq_nil_of_le (by have := ha.1; omega)] at hj
      have hj : (x, odd, 0) = getM l := hj
      rw [← hj]
      refine ⟨x.h0, x.v0, x.h1, x.v1, x.h2, x.v2, h1.cells0 (vs := x.cells) (.there .here), ?_⟩
      refine stE encIp (cs := x.cells) rfl h1 (.there .here) x (fun w2 h2 => ?_)
      refine ⟨x.h0, x.v0, x.h1, x.v1, x.h2, x.v2, h2.cells0 (vs := x.cells) .here, ?_⟩
      exact ⟨B, n, d, rfl, h2.sel 2 [1]⟩
    | succ k ih =>
      intro i x odd B n d w1 hk hn hj h1
      refine F13.p2_ok ?_
      unfold F13.p2
      rw [decide_eq_true (by omega), cond_true]
      have hil : i < l.length := by have := ha.1; omega
      obtain ⟨o, ho⟩ : ∃ o, l[i]? = some o := ⟨l[i], List.getElem?_eq_getElem hil⟩
      have hdrop : l.drop i = o :: l.drop (i + 1) := by
        rw [List.drop_eq_getElem_cons hil]
        rw [List.getElem?_eq_getElem hil] at ho
        rw [Option.some.inj ho]
      rw [hdrop, getGo] at hj
      obtain ⟨a, hA, hc⟩ := ha.2 i o ho
      simp only [idxck, hA, nilck, Int.toNat_natCast]
      refine ⟨⟨by omega, by omega⟩, ?_⟩
      refine ⟨o.t, o.d, h1.oldCells (vs := o.cells) hc, ?_⟩
      refine allocE encOp h1 (fun g6 w2 h2 => ?_)
      refine stE encOp (cs := (Op.cells ⟨0, eB⟩)) rfl h2 .here o (fun w3 h3 => ?_)
      refine ⟨o.t, o.d, h3.cells0 (vs := o.cells) .here, ?_⟩
      refine (find_ok (hG.old h3) o).mono ?_
      rintro e w4 ⟨⟨kn, kv, rfl, hone, hkv⟩, hb⟩
      refine .inl ⟨kn, kv, _, _, rfl, ?_⟩
      have h4 := h3.over hb
      refine new_alloc (z := .agg #[.int .u8 0, .nilFunc]) h4 (by kernel_rfl) (fun g7 w5 h5 => ?_)
      refine st_W h5 .here _ (by kernel_rfl) (by simp [Value.cells, hone]; rfl) (by show 2 ≤ 2; decide) (fun w6 h6 => ?_)
      have h6 : St w (World.all w) [blk g7 (.cells #[.int .u8 kn, kv] 62), blk g6 (.cells o.cells.toArray 38), opsC B n d odd, blk g2 (.cells x.cells.toArray 30)] w6 := h6
      cases hgo : good o with
      | false =>
        have hkg : kindG o = none := by unfold kindG; rw [hgo]; rfl
        rw [hkg] at hj
        rw [Bool.not_false, cond_true]
        refine ⟨o.t, o.d, h6.cells0 (vs := o.cells) (.there .here), ?_⟩
        refine bslE1 encOp elemOp o (by decide) h6 (fun g28 w7 h7 => ?_)
        refine appE encOp elemOp _ o h7 (.there (.there (.there .here))) (h7.cells0 .here) (by omega) (by decide) (fun B' d' w8 h8 => ?_)
        rw [nat_wrap' (by omega), ← hA]
        exact ih (i + 1) x _ B' (n + 1) d' w8 (by omega) (by omega) hj (h8.sel 5 [0, 4])
      | true =>
        obtain ⟨q, hq, hko, hkg⟩ := good_kind hgo
        rw [hkg] at hj
        rw [Bool.not_true, cond_false]
        obtain rfl := hkv q hko hgo
        refine ⟨_, h6.cell .here rfl, ?_⟩
        refine kcall hq g2 w6 ?_
        refine .inl ⟨_, _, rfl, ?_⟩
        have h7 := h6.drew
        refine ⟨x.has q, h7.cell (.there (.there (.there .here))) (Ip.cell_has x hq), ?_⟩
        cases hh : x.has q with
        | true =>
          have hj : (Ip.zero, [], 9) = getM l := by simpa [hh] using hj
          rw [← hj, cond_true]
          refine stE encIp (cs := x.cells) rfl h7 (.there (.there (.there .here))) Ip.zero (fun w8 h8 => ?_)
          refine ⟨false, 0, false, 0, false, 0, h8.cells0 (vs := Ip.zero.cells) .here, ?_⟩
          exact ⟨none, 0, 0, rfl, rowS_nil encOp (h8.sel 4 [])⟩
        | false =>
          have hj : getGo (l.drop (i + 1)) (x.set q (val32 o.d)) odd = getM l := by simpa [hh] using hj
          rw [cond_false]
          have hcs : x.cells.toArray.size = 6 := rfl
          refine st_W h7 (.there (.there (.there .here))) _ (by kernel_rfl) rfl (by show 2 * q + 1 ≤ 6; omega) (fun w8 h8 => ?_)
          have h8 : St w (World.all w) (blk g2 (.cells (putAt x.cells.toArray (2 * q) [.bool true]) 30) :: _) w8 := h8
          have hps : (putAt x.cells.toArray (2 * q) [.bool true]).size = 6 := by rw [putAt_one, Array.size_setIfInBounds]; rfl
          refine st_W h8 .here _ (by kernel_rfl) rfl (by show 2 * q + 1 + 1 ≤ (putAt x.cells.toArray (2 * q) [.bool true]).size; omega) (fun w9 h9 => ?_)
          have hfv : fval o = val32 o.d := by unfold fval; rw [hgo]; rfl
          have h9 : St w (World.all w) (blk g2 (.cells (putAt (putAt x.cells.toArray (2 * q) [.bool true]) (2 * q + 1) [.int .u32 (fval o)]) 30) :: _) w9 := h9
          rw [Ip.set_cells x hq, hfv] at h9
          rw [nat_wrap' (by omega), ← hA]
          exact ih (i + 1) (x.set q (val32 o.d)) odd B n d w9 (by omega) (by omega) hj (h9.sel 4 [3, 0])
  exact loop len 0 Ip.zero [] none 0 0 w1 rfl (Nat.le_refl 0) rfl (rowS_nil encOp h1)
end Go.Proofs.YthfcnkeclcphpaaDoor
