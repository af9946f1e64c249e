/- Layer 10's law IpcpoptOrder. -/
import Derived.Test.YthfcnkeclcphpaaDoorLaw10b
set_option linter.unusedVariables false
set_option linter.unusedSimpArgs false
namespace Go.Proofs.YthfcnkeclcphpaaDoor
open Go Go.RowKit

theorem tmod_nat (i n : Nat) : Int.tmod (i : Int) (n : Int) = ((i % n : Nat) : Int) := by
  rw [Int.tmod_eq_emod_of_nonneg (by omega)]
  exact (Int.natCast_emod i n).symm
section
variable {w0 w : World} {O : Nat → Prop} {L R : List Assn}
theorem stRowA {P : Program} {K : World → Prop} {t sz g n c : Nat} {α : Type} (E : EncT P t sz α) (hp : 0 < sz) {l : List α} (h : St w0 O (rowS E (some ⟨g, 0, none⟩) n c l :: L) w) {j : Nat} (hj : j < l.length) (x : α) (k : ∀ w', St w0 O (rowS E (some ⟨g, 0, none⟩) n c (l.set j x) :: L) w' → K w') :
    stW P t ⟨g, j * sz, none⟩ (.agg (E.cells x).toArray) w K := by
  obtain ⟨g', e, h'⟩ := stRow E hp h hj x k
  cases e
  exact h'
theorem order_tail {W w : World} {A B : Option Addr} {len c n d g8 g11 : Nat} {l : List Op} {o : Op} {i : Nat} (hG : Glob W) (ha : ArgO W A len l) (hc : len ≤ c) (hlen : len ≤ 70) (hi : i < 256)
    (h : St W (World.all W) [opsC B n d (getM l).2.1, blk g11 (.cells (getM l).1.cells.toArray 30), blk g8 (.cells o.cells.toArray 38)] w) :
    SK Tryd.prog Tryd.f6 (EndB W) (cfg Tryd.f6 13) [(0, .slice A len c), (4, .int .u8 (i : Int)), (8, .pointer (some ⟨g8, 0, none⟩)), (11, .pointer (some ⟨g11, 0, none⟩)), (12, .slice B n d), (13, .int .i64 (getM l).2.2)] w := by
  refine F6.p13_ok ?_
  unfold F6.p13
  refine ⟨o.t, o.d, h.cells0 (vs := o.cells) (.there (.there .here)), ?_⟩
  refine (Good_ok (hG.old h) o).mono ?_
  rintro e w1 ⟨rfl, c1⟩
  have h1 := h.over c1
  refine .inl ⟨_, rfl, ?_⟩
  have aliveE : ∀ {w3 : World} {L : List Assn}, St W (World.all W) L w3 → Calls Tryd.prog 7 #[] w3 fun en w20 => (∃ (b24_19 : Bool), en = .returned (.bool b24_19) ∧ EndB W (.returned (.bool b24_19)) w20) ∨ ∃ ch21, en = .panicked ch21 ∧ EndB W (.panicked ch21) w20 := by
    intro w3 L h3
    refine (alive_ok (hG.old h3)).mono ?_
    rintro e w4 ⟨rfl, c4⟩
    exact .inl ⟨_, rfl, rfl, (h3.over c4).below⟩
  cases hgo : good o with
  | true => exact aliveE h1
  | false =>
    rw [cond_false]
    have e1 : IntKind.wrap .i64 ((len : Int) + 1) = ((len + 1 : Nat) : Int) := by rw [wrap_i64 (by omega) (by omega)]; rfl
    have e2 : IntKind.wrap .i64 (i : Int) = (i : Int) := wrap_i64 (by omega) (by omega)
    have e0 : Int.toNat (0 : Int) = 0 := rfl
    rw [e1, e2, tmod_nat]
    generalize hk : i % (len + 1) = k
    have hkl : k ≤ len := by
      have := Nat.mod_lt i (show 0 < len + 1 by omega)
      omega
    rw [e0, Int.toNat_natCast, Int.toNat_natCast, Nat.sub_zero, Nat.sub_zero]
    refine ⟨by omega, ⟨by decide, by omega, fun _ => by omega⟩, ?_⟩
    have hal := ha.1
    have happ := appArg (lo := 0) (k := k) (d := c) (l := []) elemOp encOp.len encOp.one 31 (ha.below h1.below) (rowS_nil encOp h1) .here (by omega) hc (by omega) (by decide) (K := ?_) ?_
    exact happ
    intro C c2 w2 h2
    rw [List.nil_append, List.drop_zero, Nat.zero_add] at h2
    rw [Nat.zero_add]
    have h3 := h2.drew
    refine ⟨o.t, o.d, h3.cells0 (vs := o.cells) (.there (.there (.there .here))), ⟨by omega, by omega, fun h => by cases h⟩, ?_⟩
    refine bslE1 encOp elemOp o (by decide) h3 (fun g107 w4 h4 => ?_)
    have h4 : St W (World.all W) [blk g107 (.cells (Op.cells o).toArray 38), opsC C k c2 (l.take k), opsC B n d (getM l).2.1, blk g11 (.cells (getM l).1.cells.toArray 30), blk g8 (.cells o.cells.toArray 38)] w4 := h4
    refine appE encOp elemOp _ o h4 (.there .here) (h4.cells0 .here) (by omega) (by decide) (fun D c5 w5 h5 => ?_)
    refine appArg (lo := k) (k := len - k) (d := c) elemOp encOp.len encOp.one 31 (ha.below h5.below) h5 .here (by omega) hc (by omega) (by decide) (fun E c6 w6 h6 => ?_)
    have hm : (l.take k ++ [o]) ++ (l.drop k).take (len - k) = l.take k ++ [o] ++ l.drop k := by
      rw [List.take_of_length_le (l := l.drop k) (by rw [List.length_drop]; omega)]
    rw [hm] at h6
    have hsz : k + 1 + (len - k) = len + 1 := by omega
    rw [hsz] at h6 ⊢
    refine (Get_ok (hG.old h6) (argOwn h6) (by omega)).mono ?_
    rintro e w7 ⟨F, m, c7, rfl, k7⟩
    have h7 := h6.comp k7
    refine .inl ⟨_, _, _, _, _, _, _, _, _, _, rfl, ?_⟩
    obtain ⟨i1, i2, i3⟩ := get_insert (a := l.take k) (b := l.drop k) hgo
    rw [List.take_append_drop] at i1 i2 i3
    generalize hr : getM (l.take k ++ [o] ++ l.drop k) = r2 at i1 i2 i3 h7 ⊢
    have h7 : St W (World.all W) [opsC F m c7 r2.2.1, opsC E (len + 1) c6 (l.take k ++ [o] ++ l.drop k), blk g107 (.cells (Op.cells o).toArray 38), opsC B n d (getM l).2.1, blk g11 (.cells (getM l).1.cells.toArray 30), blk g8 (.cells o.cells.toArray 38)] w7 := h7
    refine allocE encIp h7 (fun g23 w8 h8 => ?_)
    refine stE encIp (cs := Ip.zero.cells) rfl h8 .here r2.1 (fun w9 h9 => ?_)
    refine ⟨_, _, _, _, _, _, h9.cells0 (vs := (getM l).1.cells) (.there (.there (.there (.there (.there .here))))), _, _, _, _, _, _, h9.cells0 (vs := r2.1.cells) .here, ?_⟩
    rw [i1, same_ip (getM l).1, cond_true, i2, beq_self_eq_true, cond_true]
    have hm := (rowS_len encOp (by decide) (h9.pick (.there .here))).1
    have hn := (rowS_len encOp (by decide) (h9.pick (.there (.there (.there (.there .here)))))).1
    have hodd := get_odd l
    by_cases he : (getM l).2.2 = 0
    · have i3 := i3 he
      rw [show ((getM l).2.2 != 0) = false from by rw [he]; rfl, cond_false]
      rw [show (((m : Nat) : Int) == IntKind.wrap .i64 (((n : Nat) : Int) + 1)) = true from by rw [nat_wrap' (by omega), beq_iff_eq]; omega, cond_true]
      exact aliveE h9
    · rw [show ((getM l).2.2 != 0) = true from bne_iff_ne.2 he, cond_true]
      exact aliveE h9
theorem order_law {w : World} (hG : Glob w) {A : Option Addr} {len c : Nat} {l : List Op} (ha : ArgO w A len l) (hc : len ≤ c) {i k j : Nat} (hi : i < 256) (hk : k < 256) (hj : j < 256) (o : Op) :
    Calls Tryd.prog 6 #[.slice A len c, .int .u8 (i : Int), .int .u8 (k : Int), o.enc, .int .u8 (j : Int)] w (EndB w) := by
  refine F6.calls ?_
  unfold F6.main
  refine boxE encOp o (St.refl w) (fun g8 w1 h1 => ?_)
  have aliveE : ∀ {w3 : World} {L : List Assn}, St w (World.all w) L w3 → Calls Tryd.prog 7 #[] w3 fun en w20 => (∃ (b24_19 : Bool), en = .returned (.bool b24_19) ∧ EndB w (.returned (.bool b24_19)) w20) ∨ ∃ ch21, en = .panicked ch21 ∧ EndB w (.panicked ch21) w20 := by
    intro w3 L h3
    refine (alive_ok (hG.old h3)).mono ?_
    rintro e w4 ⟨rfl, c4⟩
    exact .inl ⟨_, rfl, rfl, (h3.over c4).below⟩
  refine (Long_ok (ha.below h1.below)).mono ?_
  rintro e w2 ⟨⟨b, rfl, hb⟩, rfl⟩
  refine .inl ⟨_, rfl, ?_⟩
  cases b with
  | true => exact aliveE h1
  | false =>
    have hlen := hb rfl
    rw [cond_false]
    refine ⟨o.d, h1.cell .here rfl, ?_⟩
    by_cases hs : o.d.size > 300
    · rw [decide_eq_true (by omega), cond_true]
      exact aliveE h1
    rw [decide_eq_false (by omega), cond_false]
    refine F6.p3_ok ?_
    unfold F6.p3
    refine (Get_ok (hG.old h1) (ha.below h1.below) (c := c) (by omega)).mono ?_
    rintro e w3 ⟨B, n, d, rfl, k3⟩
    have h3 := h1.comp k3
    refine .inl ⟨_, _, _, _, _, _, _, _, _, _, rfl, ?_⟩
    refine allocE encIp h3 (fun g11 w4 h4 => ?_)
    refine stE encIp (cs := Ip.zero.cells) rfl h4 .here (getM l).1 (fun w5 h5 => ?_)
    have h5 : St w (World.all w) [blk g11 (.cells (getM l).1.cells.toArray 30), opsC B n d (getM l).2.1, blk g8 (.cells o.cells.toArray 38)] w5 := h5
    by_cases h0 : len = 0
    · rw [decide_eq_false (by omega), cond_false]
      exact order_tail hG ha hc hlen hj (h5.sel 3 [1, 0, 2])
    rw [decide_eq_true (by omega), cond_true]
    refine copyArg (ha.below h5.below) hc (by omega) h5 (fun C c6 w6 h6 => ?_)
    have ei : IntKind.wrap .i64 (i : Int) = (i : Int) := wrap_i64 (by omega) (by omega)
    have ek : IntKind.wrap .i64 (k : Int) = (k : Int) := wrap_i64 (by omega) (by omega)
    rw [ei, ek, tmod_nat, tmod_nat]
    generalize ha' : i % len = a
    generalize hb' : k % len = b
    have hal : a < len := by rw [← ha']; exact Nat.mod_lt _ (by omega)
    have hbl : b < len := by rw [← hb']; exact Nat.mod_lt _ (by omega)
    have hll := ha.1
    obtain ⟨oa, hoa⟩ : ∃ o, l[a]? = some o := ⟨l[a], List.getElem?_eq_getElem (by omega)⟩
    obtain ⟨ob, hob⟩ : ∃ o, l[b]? = some o := ⟨l[b], List.getElem?_eq_getElem (by omega)⟩
    have h7 := h6.drew
    obtain ⟨gr, hC, _, ca⟩ := rowS_at encOp (by decide) h7 .here hoa
    subst hC
    refine ⟨by omega, by omega, ⟨by omega, by omega⟩, ?_⟩
    simp only [nilck, add_eq, Int.toNat_natCast, Nat.zero_add]
    refine ⟨oa.t, oa.d, ca, ?_⟩
    refine allocE encOp h7 (fun g17 w8 h8 => ?_)
    refine stE encOp (cs := Op.cells ⟨0, eB⟩) rfl h8 .here oa (fun w9 h9 => ?_)
    obtain ⟨gr2, hC2, _, cb⟩ := rowS_at encOp (by decide) h9 (.there .here) hob
    cases hC2
    simp only [idxck, nilck, add_eq, Int.toNat_natCast, Nat.zero_add]
    refine ⟨⟨by omega, by omega⟩, ob.t, ob.d, cb, ⟨by omega, by omega⟩, ?_⟩
    refine stRowA encOp (by decide) (h9.pick (.there .here)) (j := a) (by omega) ob (fun w10 h10 => ?_)
    refine ⟨oa.t, oa.d, h10.cells0 (vs := oa.cells) (.there .here), ⟨by omega, by omega⟩, ?_⟩
    refine stRowA encOp (by decide) h10 (j := b) (by rw [List.length_set]; omega) oa (fun w11 h11 => ?_)
    have hperm : l.Perm ((l.set a ob).set b oa) := by
      have hp := List.set_set_perm (show a < l.length by omega) (show b < l.length by omega)
      rw [List.getElem?_eq_getElem (by omega)] at hoa hob
      rw [Option.some.inj hoa, Option.some.inj hob] at hp
      exact hp.symm
    refine (Get_ok (hG.old h11) (argOwn h11) (by omega)).mono ?_
    rintro e w12 ⟨F, m, c12, rfl, k12⟩
    have h12 := h11.comp k12
    obtain ⟨i1, i2, i3⟩ := get_perm hperm
    generalize hr : getM ((l.set a ob).set b oa) = r2 at i1 i2 i3 h12 ⊢
    have h12 : St w (World.all w) [opsC F m c12 r2.2.1, opsC (some ⟨gr, 0, none⟩) len c6 ((l.set a ob).set b oa), blk g17 (.cells oa.cells.toArray 38), blk g11 (.cells (getM l).1.cells.toArray 30), opsC B n d (getM l).2.1, blk g8 (.cells o.cells.toArray 38)] w12 := h12
    refine .inl ⟨_, _, _, _, _, _, _, _, _, _, rfl, ?_⟩
    refine allocE encIp h12 (fun g18 w13 h13 => ?_)
    refine stE encIp (cs := Ip.zero.cells) rfl h13 .here r2.1 (fun w14 h14 => ?_)
    refine ⟨_, _, _, _, _, _, h14.cells0 (vs := (getM l).1.cells) (.there (.there (.there (.there .here)))), _, _, _, _, _, _, h14.cells0 (vs := r2.1.cells) .here, ?_⟩
    rw [i1, same_ip (getM l).1, Bool.not_true, cond_false]
    have hm := (rowS_len encOp (by decide) (h14.pick (.there .here))).1
    have hn := (rowS_len encOp (by decide) (h14.pick (.there (.there (.there (.there (.there .here))))))).1
    rw [show (((n : Nat) : Int) != ((m : Nat) : Int)) = false from by rw [show n = m from by omega]; simp, cond_false, i2, show ((getM l).2.2 != (getM l).2.2) = false from by simp, cond_false]
    exact order_tail hG ha hc hlen hj (h14.sel 7 [5, 4, 6])
end
end Go.Proofs.YthfcnkeclcphpaaDoor
