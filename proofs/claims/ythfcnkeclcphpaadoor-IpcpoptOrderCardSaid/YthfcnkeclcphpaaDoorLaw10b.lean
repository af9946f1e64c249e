/- Layer 10's laws: IpcpoptTells, IpcpoptOrder. -/
import Derived.Test.YthfcnkeclcphpaaDoorLaw10
set_option linter.unusedVariables false
set_option linter.unusedSimpArgs false
namespace Go.Proofs.YthfcnkeclcphpaaDoor
open Go Go.RowKit

theorem slcA_zero (A : Option Addr) (c sz : Nat) : slcA A c 0 sz = A := by
  unfold slcA
  split
  · rfl
  · rw [Nat.zero_mul]
    cases A <;> rfl
section
variable {w0 w : World} {O : Nat → Prop} {L R : List Assn}
/-- A whole argument is copied. -/
theorem copyArg {K : Option Addr → Nat → Nat → World → Prop} {A : Option Addr} {len c : Nat} {l : List Op} (ha : ArgO w A len l) (hc : len ≤ c) (hn : len < 2 ^ 29) (h : St w0 O L w)
    (k : ∀ A' c' w', St w0 O (opsC A' len c' l :: L) w' → K A' len c' w') : slW Tryd.prog (Builtin.append_ #[31, 31] 31 #[.slice none 0 0, .slice A len c]) w K := by
  have := appArg (K := K) (lo := 0) (k := len) (d := c) (l := []) elemOp encOp.len encOp.one 31 ha (rowS_nil encOp h) .here (by omega) hc (by omega) (by decide) (fun A' c' w' h' => ?_)
  · rw [slcA_zero] at this
    exact this
  · have hl := ha.1
    rw [List.nil_append, List.drop_zero, List.take_of_length_le (by omega)] at h'
    rw [Nat.zero_add] at h' ⊢
    exact k A' c' w' h'
theorem put_yes {x : Ip} (h : may x = true) : putL x = putRf x ∧ putE x = 0 := by
  unfold putL putE
  rw [put_may, if_pos h]
  exact ⟨rfl, rfl⟩
theorem put_no {x : Ip} (h : may x = false) : putL x = [] ∧ putE x = 2 := by
  unfold putL putE
  rw [put_may, if_neg (by rw [h]; decide)]
  exact ⟨rfl, rfl⟩
theorem tells_tail {W w : World} {A : Option Addr} {n c g : Nat} {x : Ip} (hG : Glob W) (h : St W (World.all W) [opsC A n c (putL x), blk g (.cells x.cells.toArray 30)] w) :
    SK Tryd.prog Tryd.f5 (EndB W) (cfg Tryd.f5 9) [(3, .pointer (some ⟨g, 0, none⟩)), (7, .slice A n c), (8, .int .i64 (putE x))] w := by
  refine F5.p9_ok ?_
  unfold F5.p9
  refine ⟨x.h0, x.v0, x.h1, x.v1, x.h2, x.v2, h.cells0 (vs := x.cells) (.there .here), ?_⟩
  refine (show Calls Tryd.prog 19 #[x.enc] w _ from May_ok x).mono ?_
  rintro e w1 ⟨rfl, c1⟩
  have h1 := h.over c1
  refine .inl ⟨_, rfl, ?_⟩
  cases hm : may x with
  | false =>
    obtain ⟨e1, e2⟩ := put_no hm
    rw [e1] at h1
    rw [e2]
    have hn := (rowS_len encOp (by decide) h1).1
    have hn0 : n = 0 := by rw [← hn]; rfl
    rw [Bool.not_false, cond_true, show (((n : Nat) : Int) == 0) = true from by rw [hn0]; rfl, cond_true, show ((2 : Int) == 2) = true from rfl, cond_true]
    refine (alive_ok (hG.old h1)).mono ?_
    rintro e w2 ⟨rfl, c2⟩
    exact .inl ⟨_, rfl, rfl, (h1.over c2).below⟩
  | true =>
    obtain ⟨e1, e2⟩ := put_yes hm
    rw [e1] at h1
    rw [e2, Bool.not_true, cond_false]
    refine ⟨x.h0, x.v0, x.h1, x.v1, x.h2, x.v2, h1.cells0 (vs := x.cells) (.there .here), ?_⟩
    refine (show Calls Tryd.prog 20 #[x.enc] w1 _ from RefPut_ok x).mono ?_
    rintro e w2 ⟨B, m, d, rfl, k2⟩
    have h2 := h1.comp k2
    refine .inl ⟨_, _, _, rfl, ?_⟩
    have h2 : St W (World.all W) [opsC B m d (putRf x), opsC A n c (putRf x), blk g (.cells x.cells.toArray 30)] w2 := h2
    have a1 := argOwn h2
    have a2 := argOwn (h2.pick (.there .here))
    obtain rfl : n = m := a2.1.symm.trans a1.1
    have hn : (putRf x).length ≤ 3 := by
      unfold putRf optN
      cases x.h0 <;> cases x.h1 <;> cases x.h2 <;> simp
    have hl := a1.1
    refine (Same_ok a2 a1 (by omega)).mono ?_
    rintro e w3 ⟨rfl, c3⟩
    have h3 := h2.over c3
    refine .inl ⟨_, rfl, ?_⟩
    rw [cond_true, show ((0 : Int) == 0) = true from rfl, cond_true]
    refine (alive_ok (hG.old h3)).mono ?_
    rintro e w4 ⟨rfl, c4⟩
    exact .inl ⟨_, rfl, rfl, (h3.over c4).below⟩
theorem tells_law {w : World} (hG : Glob w) (x : Ip) {A : Option Addr} {len c : Nat} {l : List Op} (ha : ArgO w A len l) (hc : len ≤ c) (o : Op) : Calls Tryd.prog 5 #[x.enc, .slice A len c, o.enc] w (EndB w) := by
  refine F5.calls ?_
  unfold F5.main
  refine boxE encIp x (St.refl w) (fun g3 w1 h1 => ?_)
  refine boxE encOp o h1 (fun g5 w2 h2 => ?_)
  have aliveE : ∀ {w3 : World} {L : List Assn}, St w (World.all w) L w3 → Calls Tryd.prog 7 #[] w3 fun en w20 => (∃ (b24_19 : Bool), en = .returned (.bool b24_19) ∧ EndB w (.returned (.bool b24_19)) w20) ∨ ∃ ch21, en = .panicked ch21 ∧ EndB w (.panicked ch21) w20 := by
    intro w3 L h3
    refine (alive_ok (hG.old h3)).mono ?_
    rintro e w4 ⟨rfl, c4⟩
    exact .inl ⟨_, rfl, rfl, (h3.over c4).below⟩
  refine (Long_ok (ha.below h2.below)).mono ?_
  rintro e w3 ⟨⟨b, rfl, hb⟩, rfl⟩
  refine .inl ⟨_, rfl, ?_⟩
  cases b with
  | true => exact aliveE h2
  | false =>
    have hlen := hb rfl
    rw [cond_false]
    refine ⟨o.d, h2.cell .here rfl, ?_⟩
    by_cases hs : o.d.size > 1000
    · rw [decide_eq_true (by omega), cond_true]
      exact aliveE h2
    rw [decide_eq_false (by omega), cond_false]
    refine F5.p3_ok ?_
    unfold F5.p3
    refine ⟨x.h0, x.v0, x.h1, x.v1, x.h2, x.v2, h2.cells0 (vs := x.cells) (.there .here), ?_⟩
    refine (show Calls Tryd.prog 12 #[x.enc] w3 _ from Put_ok (hG.old h2) x).mono ?_
    rintro e w4 ⟨B, n, d, rfl, k4⟩
    have h4 := h2.comp k4
    refine .inl ⟨_, _, _, _, rfl, ?_⟩
    have h4 : St w (World.all w) [opsC B n d (putL x), blk g5 (.cells o.cells.toArray 38), blk g3 (.cells x.cells.toArray 30)] w4 := h4
    refine copyArg (ha.below h4.below) hc (by omega) h4 (fun C c5 w5 h5 => ?_)
    refine (Get_ok (hG.old h5) (argOwn h5) (by omega)).mono ?_
    rintro e w6 ⟨D, m, c6, rfl, k6⟩
    have h6 := h5.comp k6
    refine .inl ⟨_, _, _, _, _, _, _, _, _, _, rfl, ?_⟩
    have h6 : St w (World.all w) [opsC D m c6 (getM l).2.1, opsC C len c5 l, opsC B n d (putL x), blk g5 (.cells o.cells.toArray 38), blk g3 (.cells x.cells.toArray 30)] w6 := h6
    refine allocE encIp h6 (fun g10 w7 h7 => ?_)
    refine stE encIp (cs := Ip.zero.cells) rfl h7 .here (getM l).1 (fun w8 h8 => ?_)
    refine (RefGet_ok (ha.below h8.below) (c := c) (by omega)).mono ?_
    rintro e w9 ⟨E, q, c9, rfl, k9⟩
    have h9 := h8.comp k9
    refine .inl ⟨_, _, _, _, _, _, _, _, _, _, rfl, ?_⟩
    refine allocE encIp h9 (fun g13 w10 h10 => ?_)
    refine stE encIp (cs := Ip.zero.cells) rfl h10 .here (getM l).1 (fun w11 h11 => ?_)
    have h11 : St w (World.all w) [blk g13 (.cells (getM l).1.cells.toArray 30), opsC E q c9 (getM l).2.1, blk g10 (.cells (getM l).1.cells.toArray 30), opsC D m c6 (getM l).2.1, opsC C len c5 l, opsC B n d (putL x), blk g5 (.cells o.cells.toArray 38), blk g3 (.cells x.cells.toArray 30)] w11 := h11
    have h12 := h11.drew
    refine ⟨_, _, _, _, _, _, h12.cells0 (vs := (getM l).1.cells) (.there (.there .here)), _, _, _, _, _, _, h12.cells0 (vs := (getM l).1.cells) .here, ?_⟩
    rw [same_ip (getM l).1, Bool.not_true, cond_false]
    have aE := argOwn (h12.pick (.there .here))
    have aD := argOwn (h12.pick (.there (.there (.there .here))))
    obtain rfl : m = q := aD.1.symm.trans aE.1
    have hodd := get_odd l
    have hal := ha.1
    have hqm := aD.1
    refine (Same_ok aD aE (by omega)).mono ?_
    rintro e w13 ⟨rfl, c13⟩
    have h13 := h12.over c13
    refine .inl ⟨_, rfl, ?_⟩
    rw [Bool.not_true, cond_false, show ((getM l).2.2 != (getM l).2.2) = false from by simp, cond_false]
    refine (Same_ok (argOwn (h13.pick (.there (.there (.there (.there .here)))))) (ha.below h13.below) (by omega)).mono ?_
    rintro e w14 ⟨rfl, c14⟩
    have h14 := h13.over c14
    refine .inl ⟨_, rfl, ?_⟩
    rw [Bool.not_true, cond_false]
    have p5 : ∀ {w' : World}, St w (World.all w) [blk g13 (.cells (getM l).1.cells.toArray 30), opsC E m c9 (getM l).2.1, blk g10 (.cells (getM l).1.cells.toArray 30), opsC D m c6 (getM l).2.1, opsC C len c5 l, opsC B n d (putL x), blk g5 (.cells o.cells.toArray 38), blk g3 (.cells x.cells.toArray 30)] w' → cellsAt w' ⟨g5, 0, none⟩ 0 [.int .u8 o.t, .string o.d] :=
      fun h => h.cells0 (vs := o.cells) (.there (.there (.there (.there (.there (.there .here))))))
    refine ⟨o.t, o.d, p5 h14, o.t, o.d, p5 h14, ?_⟩
    refine (Good_ok (hG.old h14) o).mono ?_
    rintro e w15 ⟨rfl, c15⟩
    have h15 := h14.over c15
    refine .inl ⟨_, rfl, fun _ => p5 h15, ?_⟩
    refine (RefGood_ok o).mono ?_
    rintro e w16 ⟨rfl, c16⟩
    have h16 := h15.over c16
    refine .inl ⟨_, rfl, ?_⟩
    rw [show (!(good o == good o)) = false from by simp, cond_false]
    exact tells_tail hG (h16.sel 8 [5, 7])
end
end Go.Proofs.YthfcnkeclcphpaaDoor
