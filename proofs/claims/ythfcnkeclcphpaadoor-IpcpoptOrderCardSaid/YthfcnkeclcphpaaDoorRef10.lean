/- The document's Get, Put, May; rows alike; how long rows are. -/
import Derived.Test.YthfcnkeclcphpaaDoorGet10
set_option linter.unusedVariables false
set_option linter.unusedSimpArgs false
namespace Go.Proofs.YthfcnkeclcphpaaDoor
open Go Go.RowKit

/-! ### 1. Numbers -/
theorem or_nat {a b k : Nat} (h : b < 2 ^ k) : a * 2 ^ k ||| b = a * 2 ^ k + b := by
  have := Nat.shiftLeft_add_eq_or_of_lt (a := a) (b := b) (i := k) h
  rw [Nat.shiftLeft_eq] at this
  exact this.symm
theorem or_u32 {x y : Nat} (hx : x < 2 ^ 32) (hy : y < 2 ^ 32) : IntKind.wrap .u32 ((BitVec.ofInt (IntKind.bits .u32) (x : Int) ||| BitVec.ofInt (IntKind.bits .u32) (y : Int)).toNat : Int) = ((x ||| y : Nat) : Int) := by
  have eb : IntKind.bits .u32 = 32 := rfl
  rw [eb, BitVec.toNat_or, BitVec.ofInt_natCast, BitVec.ofInt_natCast, BitVec.toNat_ofNat, BitVec.toNat_ofNat, Nat.mod_eq_of_lt hx, Nat.mod_eq_of_lt hy]
  have := Nat.or_lt_two_pow hx hy
  exact wrap_u32 (by omega) (by omega)
theorem shl_u32 {b k : Nat} (hb : b < 256) (hk : k ≤ 24) : IntKind.wrap .u32 (IntKind.wrap .u32 (b : Int) * (2 ^ (min (Int.toNat (k : Int)) (IntKind.bits .u32)) : Int)) = ((b * 2 ^ k : Nat) : Int) := by
  have e : min (Int.toNat (k : Int)) (IntKind.bits .u32) = k := by
    have : IntKind.bits .u32 = 32 := rfl
    rw [this, Int.toNat_natCast]; omega
  have h2 : b * 2 ^ k < 2 ^ 32 := by
    calc b * 2 ^ k < 256 * 2 ^ k := Nat.mul_lt_mul_of_pos_right hb (Nat.pow_pos (by decide))
      _ ≤ 256 * 2 ^ 24 := Nat.mul_le_mul_left _ (Nat.pow_le_pow_right (by decide) hk)
      _ = 2 ^ 32 := by decide
  rw [e, wrap_u32 (n := (b : Int)) (by omega) (by omega)]
  have e2 : (b : Int) * 2 ^ k = ((b * 2 ^ k : Nat) : Int) := by simp
  rw [e2]
  exact wrap_u32 (by omega) (by omega)
theorem value_ok {w : World} {s : ByteArray} (hs : s.size = 4) : Calls Tryd.prog 28 #[.string s] w fun e w' => e = .returned (.int .u32 (val32 s)) ∧ w' = w.drew := by
  refine F28.calls ?_
  unfold F28.main
  refine ⟨⟨by decide, by omega⟩, by decide, ⟨by decide, by omega⟩, by decide, ⟨by decide, by omega⟩, by decide, ⟨by decide, by omega⟩, ?_, rfl⟩
  congr 2
  obtain ⟨b0, e0⟩ := Int.eq_ofNat_of_zero_le (btAt_range s 0).1
  obtain ⟨b1, e1⟩ := Int.eq_ofNat_of_zero_le (btAt_range s 1).1
  obtain ⟨b2, e2⟩ := Int.eq_ofNat_of_zero_le (btAt_range s 2).1
  obtain ⟨b3, e3⟩ := Int.eq_ofNat_of_zero_le (btAt_range s 3).1
  have l0 := (btAt_range s 0).2
  have l1 := (btAt_range s 1).2
  have l2 := (btAt_range s 2).2
  have l3 := (btAt_range s 3).2
  unfold val32
  rw [e0, e1, e2, e3] at *
  have s0 := shl_u32 (b := b0) (k := 24) (by omega) (by decide)
  have s1 := shl_u32 (b := b1) (k := 16) (by omega) (by decide)
  have s2 := shl_u32 (b := b2) (k := 8) (by omega) (by decide)
  rw [show ((24 : Nat) : Int) = 24 from rfl] at s0
  rw [show ((16 : Nat) : Int) = 16 from rfl] at s1
  rw [show ((8 : Nat) : Int) = 8 from rfl] at s2
  rw [s0, s1, s2, or_u32 (by omega) (by omega)]
  have o1 : b0 * 2 ^ 24 ||| b1 * 2 ^ 16 = (b0 * 256 + b1) * 2 ^ 16 := by
    rw [or_nat (k := 24) (by omega)]; omega
  rw [o1, or_u32 (by omega) (by omega)]
  have o2 : (b0 * 256 + b1) * 2 ^ 16 ||| b2 * 2 ^ 8 = ((b0 * 256 + b1) * 256 + b2) * 2 ^ 8 := by
    rw [or_nat (k := 16) (by omega)]; omega
  rw [o2, wrap_u32 (n := (b3 : Int)) (by omega) (by omega), or_u32 (by omega) (by omega), or_nat (k := 8) (by omega)]
  omega
theorem u8_shr (v : Int) {i : Nat} (hi : i < 3) : IntKind.wrap .u8 (Int.fdiv v (2 ^ (min (Int.toNat ((24 - 8 * i : Nat) : Int)) (IntKind.bits .u32)) : Int)) = byteI v i := by
  have e : min (Int.toNat ((24 - 8 * i : Nat) : Int)) (IntKind.bits .u32) = 24 - 8 * i := by
    have : IntKind.bits .u32 = 32 := rfl
    rw [this, Int.toNat_natCast]; omega
  rw [e, Int.fdiv_eq_ediv_of_nonneg _ (Int.le_of_lt (Int.pow_pos (by decide)))]
  unfold byteI
  simp [IntKind.wrap, IntKind.bits, IntKind.signed]
section
variable {w0 w : World} {O : Nat → Prop} {L R : List Assn} {g : Nat}
theorem num_ok (h : St w0 O L w) (v : Int) : Calls Tryd.prog 29 #[.int .u32 v] w fun e w' => e = .returned (.string (num32 v)) ∧ St w0 O L w' := by
  refine F29.calls ?_
  unfold F29.main
  refine ⟨by decide, by decide, by decide, ?_⟩
  have s0 := u8_shr v (i := 0) (by decide)
  have s1 := u8_shr v (i := 1) (by decide)
  have s2 := u8_shr v (i := 2) (by decide)
  have s3 : IntKind.wrap .u8 v = byteI v 3 := by
    unfold byteI
    simp [IntKind.wrap, IntKind.bits, IntKind.signed]
  rw [show (((24 - 8 * 0 : Nat) : Nat) : Int) = 24 from rfl] at s0
  rw [show (((24 - 8 * 1 : Nat) : Nat) : Int) = 16 from rfl] at s1
  rw [show (((24 - 8 * 2 : Nat) : Nat) : Int) = 8 from rfl] at s2
  rw [s0, s1, s2, s3]
  refine bsl_W (e := 5) (sz := 1) (z := .int .u8 0) h Tryd.underlying57 (by kernel_rfl) (by kernel_rfl) (by decide) (by decide) (cells := #[.int .u8 (byteI v 0), .int .u8 (byteI v 1), .int .u8 (byteI v 2), .int .u8 (byteI v 3)]) (by kernel_rfl) (fun g w1 h1 => ?_)
  have h2 : St w0 O (rowC 5 1 (some ⟨g, 0, none⟩) 4 4 (bytesV (num32 v)) :: L) w1 := by
    refine rowC_shut rfl (Nat.le_refl 4) (by decide) rfl ?_ rfl h1
    show [Value.int .u8 (byteI v 0), .int .u8 (byteI v 1), .int .u8 (byteI v 2), .int .u8 (byteI v 3)] = [.int .u8 ((UInt8.ofNat (byteI v 0).toNat).toNat : Int), .int .u8 ((UInt8.ofNat (byteI v 1).toNat).toNat : Int), .int .u8 ((UInt8.ofNat (byteI v 2).toNat).toNat : Int), .int .u8 ((UInt8.ofNat (byteI v 3).toNat).toNat : Int)]
    rw [u8_byte, u8_byte, u8_byte, u8_byte]
  exact ⟨num32 v, convRow Tryd.underlying57 Tryd.underlying5 Tryd.underlying9 h2 .here, rfl, h1.drop⟩
/-! ### 2. Rows -/
theorem argOwn {A : Option Addr} {n c : Nat} {l : List Op} (h : St w0 O (opsC A n c l :: L) w) : ArgO w A n l := by
  refine ⟨(rowS_len encOp (by decide) h).1, fun j o ho => ?_⟩
  obtain ⟨gr, hA, _, hc⟩ := rowS_at encOp (by decide) h .here ho
  refine ⟨_, hA, ?_⟩
  rw [add_eq, Nat.zero_add]
  exact hc
theorem ArgO.below {A : Option Addr} {n : Nat} {l : List Op} {w w' : World} (h : ArgO w A n l) (hb : Below w.heap.size w w') : ArgO w' A n l :=
  ⟨h.1, fun j o ho => let ⟨a, hA, hc⟩ := h.2 j o ho; ⟨a, hA, cellsAt_mono (fun b v hv => (hb.cell (cell_block hv)).trans hv) hc⟩⟩
theorem Same_ok {A B : Option Addr} {n c d : Nat} {l : List Op} {w : World} (ha : ArgO w A n l) (hb : ArgO w B n l) (hn : n ≤ 2 ^ 30) : Calls Tryd.prog 16 #[.slice A n c, .slice B n d] w fun e w' => e = .returned (.bool true) ∧ Below w.heap.size w w' := by
  refine F16.calls ?_
  unfold F16.main
  rw [show (((n : Nat) : Int) != ((n : Nat) : Int)) = false from by simp, cond_false]
  have loop : ∀ (k i : Nat) (w1 : World), k + i = n → Below w.heap.size w w1 →
      SK Tryd.prog Tryd.f16 (fun e w' => e = .returned (.bool true) ∧ Below w.heap.size w w') (cfg Tryd.f16 4) [(0, .slice A n c), (1, .slice B n d), (5, .int .i64 (i : Int))] w1 := by
    intro k
    induction k with
    | zero =>
      intro i w1 hk h1
      refine F16.p4_ok ?_
      unfold F16.p4
      rw [decide_eq_false (by omega), cond_false]
      exact ⟨rfl, h1⟩
    | succ k ih =>
      intro i w1 hk h1
      refine F16.p4_ok ?_
      unfold F16.p4
      rw [decide_eq_true (by omega), cond_true]
      have hil : i < l.length := by have := ha.1; omega
      obtain ⟨o, ho⟩ : ∃ o, l[i]? = some o := ⟨l[i], List.getElem?_eq_getElem hil⟩
      obtain ⟨a, hA, hc⟩ := (ha.below h1.drew).2 i o ho
      obtain ⟨b, hB, hd⟩ := (hb.below h1.drew).2 i o ho
      simp only [idxck, hA, hB, nilck, Int.toNat_natCast]
      refine ⟨⟨by omega, by omega⟩, o.t, o.d, hc, ⟨by omega, by omega⟩, o.t, o.d, hd, ?_⟩
      rw [show (!((o.t == o.t) && ((o.d == o.d) && true))) = false from by rw [ba_beq]; simp, cond_false, nat_wrap' (by omega), ← hA, ← hB]
      exact ih (i + 1) _ (by omega) h1.drew
  exact loop n 0 w rfl (Below.refl _ _)
/-! ### 3. Get -/
def seen (done : List Op) (k : Nat) : Bool := done.any fun p => good p && (p.t == kt k)
theorem seen_snoc (done : List Op) (p : Op) (k : Nat) : seen (done ++ [p]) k = (seen done k || (good p && (p.t == kt k))) := by
  unfold seen; simp
theorem Ip.has_set (x : Ip) {q k : Nat} (hq : q < 3) (hk : k < 3) (v : Int) : (x.set q v).has k = (x.has k || (q == k)) := by
  have h1 : q = 0 ∨ q = 1 ∨ q = 2 := by omega
  have h2 : k = 0 ∨ k = 1 ∨ k = 2 := by omega
  rcases h1 with rfl | rfl | rfl <;> rcases h2 with rfl | rfl | rfl <;> simp [Ip.has, Ip.set]
theorem kt_inj {q k : Nat} (hq : q < 3) (hk : k < 3) : (kt q == kt k) = (q == k) := by
  have h1 : q = 0 ∨ q = 1 ∨ q = 2 := by omega
  have h2 : k = 0 ∨ k = 1 ∨ k = 2 := by omega
  rcases h1 with rfl | rfl | rfl <;> rcases h2 with rfl | rfl | rfl <;> rfl
theorem RefGet_ok {w : World} {A : Option Addr} {len c : Nat} {l : List Op} (ha : ArgO w A len l) (hlen : len ≤ 2 ^ 20) : Calls Tryd.prog 15 #[.slice A len c] w (GetR w (getM l)) := by
  refine F15.calls ?_
  unfold F15.main
  refine allocE encIp (St.refl w) (fun g2 w1 h1 => ?_)
  refine allocE encIp h1 (fun g5 w2 h2 => ?_)
  refine stE encIp (cs := Ip.zero.cells) rfl h2 .here Ip.zero (fun w3 h3 => ?_)
  have loop : ∀ (k i : Nat) (x : Ip) (odd : List Op) (B : Option Addr) (n d : Nat) (w1 : World), k + i = len → n ≤ i → getGo (l.drop i) x odd = getM l → (∀ q, q < 3 → x.has q = seen (l.take i) q) →
      St w (World.all w) [opsC B n d odd, blk g5 (.cells x.cells.toArray 30), blk g2 (.cells Ip.zero.cells.toArray 30)] w1 →
      SK Tryd.prog Tryd.f15 (GetR w (getM l)) (cfg Tryd.f15 4) [(0, .slice A len c), (2, .pointer (some ⟨g2, 0, none⟩)), (5, .pointer (some ⟨g5, 0, none⟩)), (6, .slice B n d), (7, .int .i64 (i : Int))] w1 := by
    intro k
    induction k with
    | zero =>
      intro i x odd B n d w1 hk hn hj hx h1
      refine F15.p4_ok ?_
      unfold F15.p4
      rw [decide_eq_false (by omega), cond_false]
      rw [List.drop_eq_nil_of_le (by have := ha.1; omega)] at hj
      have hj : (x, odd, 0) = getM l := hj
      rw [← hj]
      refine ⟨x.h0, x.v0, x.h1, x.v1, x.h2, x.v2, h1.cells0 (vs := x.cells) (.there .here), ?_⟩
      refine stE encIp (cs := Ip.zero.cells) rfl h1 (.there (.there .here)) x (fun w2 h2 => ?_)
      refine ⟨x.h0, x.v0, x.h1, x.v1, x.h2, x.v2, h2.cells0 (vs := x.cells) .here, ?_⟩
      exact ⟨B, n, d, rfl, h2.sel 3 [1]⟩
    | succ k ih =>
      intro i x odd B n d w1 hk hn hj hx h1
      refine F15.p4_ok ?_
      unfold F15.p4
      rw [decide_eq_true (by omega), cond_true]
      have hil : i < l.length := by have := ha.1; omega
      obtain ⟨o, ho⟩ : ∃ o, l[i]? = some o := ⟨l[i], List.getElem?_eq_getElem hil⟩
      have hdrop : l.drop i = o :: l.drop (i + 1) := by
        rw [List.drop_eq_getElem_cons hil]
        rw [List.getElem?_eq_getElem hil] at ho
        rw [Option.some.inj ho]
      have htake : l.take (i + 1) = l.take i ++ [o] := by rw [List.take_add_one, ho]; rfl
      rw [hdrop, getGo] at hj
      obtain ⟨a, hA, hc⟩ := ha.2 i o ho
      simp only [idxck, hA, nilck, Int.toNat_natCast]
      refine ⟨⟨by omega, by omega⟩, o.t, o.d, h1.oldCells (vs := o.cells) hc, ?_⟩
      refine (RefGood_ok o).mono ?_
      rintro e w4 ⟨rfl, hb⟩
      refine .inl ⟨_, rfl, ?_⟩
      have h4 := h1.over hb
      cases hgo : good o with
      | false =>
        have hkg : kindG o = none := by unfold kindG; rw [hgo]; rfl
        rw [hkg] at hj
        rw [Bool.not_false, cond_true]
        refine ⟨⟨by omega, by omega⟩, o.t, o.d, h4.oldCells (vs := o.cells) hc, ?_⟩
        refine bslE1 encOp elemOp o (by decide) h4 (fun g28 w7 h7 => ?_)
        refine appE encOp elemOp _ o h7 (.there .here) (h7.cells0 .here) (by omega) (by decide) (fun B' d' w8 h8 => ?_)
        rw [nat_wrap' (by omega), ← hA]
        refine ih (i + 1) x _ B' (n + 1) d' w8 (by omega) (by omega) hj (fun q hq => ?_) (h8.sel 4 [0, 2, 3])
        rw [htake, seen_snoc, hgo, Bool.false_and, Bool.or_false]
        exact hx q hq
      | true =>
        obtain ⟨q, hq, hko, hkg⟩ := good_kind hgo
        rw [hkg] at hj
        rw [Bool.not_true, cond_false, ← hA]
        have hot : o.t = kt q := (kindOf_lt hko).2
        -- the inner loop
        have inner : ∀ (m j : Nat) (w1 : World), m + j = i → seen (l.take j) q = false →
            St w (World.all w) [opsC B n d odd, blk g5 (.cells x.cells.toArray 30), blk g2 (.cells Ip.zero.cells.toArray 30)] w1 →
            SK Tryd.prog Tryd.f15 (GetR w (getM l)) (cfg Tryd.f15 9) [(0, .slice A len c), (2, .pointer (some ⟨g2, 0, none⟩)), (5, .pointer (some ⟨g5, 0, none⟩)), (6, .slice B n d), (7, .int .i64 (i : Int)), (8, .int .i64 (j : Int))] w1 := by
          intro m
          induction m with
          | zero =>
            intro j w1 hk2 hs h1
            obtain rfl : j = i := by omega
            refine F15.p9_ok ?_
            unfold F15.p9
            rw [decide_eq_false (by omega), cond_false]
            have hxf : x.has q = false := by rw [hx q hq]; exact hs
            have hj : getGo (l.drop (j + 1)) (x.set q (val32 o.d)) odd = getM l := by simpa [hxf] using hj
            simp only [idxck, hA, nilck, Int.toNat_natCast]
            have hc1 := h1.oldCells (vs := o.cells) hc
            have hsz : o.d.size = 4 := by
              have h' := hgo
              unfold good at h'
              simp only [Bool.and_eq_true, decide_eq_true_eq] at h'
              exact h'.2
            refine ⟨⟨by omega, by omega⟩, o.d, hc1.2.1, ?_⟩
            refine (value_ok hsz).mono ?_
            rintro e w5 ⟨rfl, rfl⟩
            refine .inl ⟨_, rfl, ⟨by omega, by omega⟩, ?_⟩
            have h5 := h1.drew
            have hc5 := h5.oldCells (vs := o.cells) hc
            refine ⟨o.t, hc5.1, ?_⟩
            have fin : ∀ w7, St w (World.all w) [blk g5 (.cells (x.set q (val32 o.d)).cells.toArray 30), opsC B n d odd, blk g2 (.cells Ip.zero.cells.toArray 30)] w7 →
                SK Tryd.prog Tryd.f15 (GetR w (getM l)) (cfg Tryd.f15 4) [(0, .slice A len c), (2, .pointer (some ⟨g2, 0, none⟩)), (5, .pointer (some ⟨g5, 0, none⟩)), (6, .slice B n d), (7, .int .i64 ((j + 1 : Nat) : Int))] w7 := fun w7 h7 => by
              refine ih (j + 1) (x.set q (val32 o.d)) odd B n d w7 (by omega) (by omega) hj (fun p hp => ?_) (h7.sel 3 [1, 0, 2])
              rw [htake, seen_snoc, hgo, hot, kt_inj hq hp, Ip.has_set x hq hp, hx p hp]
              rfl
            rw [← hA, nat_wrap' (by omega), hot]
            have hq3 : q = 0 ∨ q = 1 ∨ q = 2 := by omega
            rcases hq3 with rfl | rfl | rfl
            · rw [show ((kt 0 == 3) = true) from rfl, cond_true]
              refine st_W h5 (.there .here) _ (by kernel_rfl) rfl (by show 0 + 1 ≤ 6; decide) (fun w6 h6 => ?_)
              refine st_W h6 .here _ (by kernel_rfl) rfl (by show 1 + 1 ≤ 6; decide) (fun w7 h7 => ?_)
              exact fin w7 h7
            · rw [show ((kt 1 == 3) = false) from rfl, cond_false, show ((kt 1 == 129) = true) from rfl, cond_true]
              refine st_W h5 (.there .here) _ (by kernel_rfl) rfl (by show 2 + 1 ≤ 6; decide) (fun w6 h6 => ?_)
              refine st_W h6 .here _ (by kernel_rfl) rfl (by show 3 + 1 ≤ 6; decide) (fun w7 h7 => ?_)
              exact fin w7 h7
            · rw [show ((kt 2 == 3) = false) from rfl, cond_false, show ((kt 2 == 129) = false) from rfl, cond_false]
              refine st_W h5 (.there .here) _ (by kernel_rfl) rfl (by show 4 + 1 ≤ 6; decide) (fun w6 h6 => ?_)
              refine st_W h6 .here _ (by kernel_rfl) rfl (by show 5 + 1 ≤ 6; decide) (fun w7 h7 => ?_)
              exact fin w7 h7
          | succ m ihm =>
            intro j w1 hk2 hs h1
            refine F15.p9_ok ?_
            unfold F15.p9
            rw [decide_eq_true (by omega), cond_true]
            have hjl : j < l.length := by omega
            obtain ⟨p, hp⟩ : ∃ p, l[j]? = some p := ⟨l[j], List.getElem?_eq_getElem hjl⟩
            obtain ⟨a', hA', hcp⟩ := ha.2 j p hp
            obtain rfl : a = a' := Option.some.inj (hA.symm.trans hA')
            have htj : l.take (j + 1) = l.take j ++ [p] := by rw [List.take_add_one, hp]; rfl
            simp only [idxck, hA, nilck, Int.toNat_natCast]
            have h2 := h1.drew
            refine ⟨⟨by omega, by omega⟩, p.t, p.d, h2.oldCells (vs := p.cells) hcp, ?_⟩
            refine (RefGood_ok p).mono ?_
            rintro e w5 ⟨rfl, hb5⟩
            refine .inl ⟨_, rfl, ?_⟩
            have h5 := h2.over hb5
            rw [← hA, nat_wrap' (by omega)]
            cases hgp : good p with
            | false =>
              rw [cond_false]
              refine ihm (j + 1) w5 (by omega) ?_ h5
              rw [htj, seen_snoc, hs, hgp]; rfl
            | true =>
              rw [cond_true]
              simp only [hA]
              refine ⟨⟨by omega, by omega⟩, p.t, (h5.oldCells (vs := p.cells) hcp).1, ⟨by omega, by omega⟩, o.t, (h5.oldCells (vs := o.cells) hc).1, ?_⟩
              rw [← hA]
              by_cases hto : p.t = o.t
              · rw [show (p.t == o.t) = true from beq_iff_eq.2 hto, cond_true]
                have hxt : x.has q = true := by
                  rw [hx q hq]
                  unfold seen
                  rw [List.any_eq_true]
                  refine ⟨p, List.mem_of_getElem? (i := j) (by rw [List.getElem?_take, if_pos (by omega), hp]), ?_⟩
                  rw [hgp, hto, hot]; simp
                have hj : (Ip.zero, [], 9) = getM l := by simpa [hxt] using hj
                rw [← hj]
                refine stE encIp (cs := Ip.zero.cells) rfl h5 (.there (.there .here)) Ip.zero (fun w8 h8 => ?_)
                refine ⟨false, 0, false, 0, false, 0, h8.cells0 (vs := Ip.zero.cells) .here, ?_⟩
                exact ⟨none, 0, 0, rfl, rowS_nil encOp (h8.sel 3 [])⟩
              · rw [show (p.t == o.t) = false from beq_eq_false_iff_ne.2 hto, cond_false]
                refine ihm (j + 1) w5 (by omega) ?_ h5
                rw [htj, seen_snoc, hs, hgp]
                have : (p.t == kt q) = false := by rw [beq_eq_false_iff_ne, ← hot]; exact hto
                rw [this]; rfl
        exact inner i 0 w4 rfl rfl h4
  refine loop len 0 Ip.zero [] none 0 0 w3 rfl (Nat.le_refl 0) rfl (fun q hq => ?_) (rowS_nil encOp h3)
  have : q = 0 ∨ q = 1 ∨ q = 2 := by omega
  rcases this with rfl | rfl | rfl <;> rfl
end
end Go.Proofs.YthfcnkeclcphpaaDoor
