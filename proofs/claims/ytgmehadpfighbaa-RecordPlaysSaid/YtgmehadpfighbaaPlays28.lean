/- RecordPlays walked. -/
import Derived.Test.YtgmehadpfighbaaLaw28
set_option linter.unusedVariables false
set_option linter.unusedSimpArgs false
namespace Go.Proofs.Ytgmehadpfighbaa
open Go Go.RowKit

section
variable {w0 w : World} {O : Nat → Prop} {L R : List Assn} {g gr : Nat} {s : FS} {A : Option Addr} {len c : Nat} {l : List StepV} {name : ByteArray} {addr : Int}
abbrev refS (g : Nat) (s : FS) : Assn := refF g 0 48 #[.int .i64 s.most, .slice none 0 0] s.most s.subs
theorem refS_sl (h : St w0 O (refS gr s :: L) w) : ∃ A n c, w.cell? ⟨gr, 1, none⟩ = some (.slice A n c) ∧ n = s.subs.length ∧ St w0 O (blk gr (.cells #[.int .i64 s.most, .slice A n c] 48) :: subsC A n c s.subs :: L) w ∧ ∀ {L' w'}, St w0 O (blk gr (.cells #[.int .i64 s.most, .slice A n c] 48) :: subsC A n c s.subs :: L') w' → St w0 O (refS gr s :: L') w' := by
  obtain ⟨A, n, c, ⟨b1, b2, b3⟩, h1⟩ := refF_open h
  have h2 : St w0 O (blk gr (.cells #[.int .i64 s.most, .slice A n c] 48) :: subsC A n c s.subs :: L) w := h1
  exact ⟨A, n, c, h2.cell .here rfl, ((sub_len h1 (.there .here)).1).symm, h2, fun {L' w'} h' => refF_shut (A := A) (n := n) (c := c) b1 b2 b3 h'⟩
abbrev PlayNext (w0 : World) (A : Option Addr) (len c : Nat) (name : ByteArray) (addr : Int) (gr i : Nat) : Prop := ∀ (g : Nat) (s : FS) (L : List Assn) (w : World), St w0 (World.all w0) (isF g s :: refS gr s :: L) w →
  SK Try.prog Try.f4 (EndT w0) (cfg Try.f4 15) [(1, .slice A len c), (2, .string name), (3, .int .u32 addr), (14, .pointer (some ⟨g, 0, none⟩)), (16, .pointer (some ⟨gr, 0, none⟩)), (17, .int .i64 (i : Int))] w
theorem wF.small (h : wF s) : s.subs.length ≤ 256 := by have := h.len; have := h.m2; omega
theorem plays_end {i : Nat} (hi : i < 1000) (next : PlayNext w0 A len c name addr gr (i + 1)) (h : St w0 (World.all w0) (isF g s :: refS gr s :: L) w) :
    SK Try.prog Try.f4 (EndT w0) (cfg Try.f4 31) [(1, .slice A len c), (2, .string name), (3, .int .u32 addr), (14, .pointer (some ⟨g, 0, none⟩)), (16, .pointer (some ⟨gr, 0, none⟩)), (17, .int .i64 (i : Int)), (19, .bool true)] w := by
  have hF := isF_pure h
  have hsm := hF.small
  refine F4.p31_ok ?_
  unfold F4.p31
  refine (Of_ok h name).mono ?_
  rintro e w1 ⟨rfl, h1⟩
  refine .inl ⟨_, _, _, _, _, _, rfl, ?_⟩
  refine allocSub h1 (fun g21 w2 h2 => ?_)
  refine stSub ((ofS s name).getD SubV.zero) h2 .here (fun w3 h3 => ?_)
  refine (refOf_ok hF.ris (h3.sel 3 [2, 0, 1]) name).mono ?_
  rintro e w4 ⟨rfl, h4⟩
  refine .inl ⟨_, _, _, _, _, _, rfl, ?_⟩
  refine allocSub h4 (fun g23 w5 h5 => ?_)
  refine stSub ((ofS s name).getD SubV.zero) h5 .here (fun w6 h6 => ?_)
  refine (At_ok (h6.sel 4 [3, 0, 1, 2]) addr).mono ?_
  rintro e w7 ⟨rfl, h7⟩
  refine .inl ⟨_, _, _, _, _, _, rfl, ?_⟩
  refine allocSub h7 (fun g25 w8 h8 => ?_)
  refine stSub ((atS s addr).getD SubV.zero) h8 .here (fun w9 h9 => ?_)
  refine (refAddr_ok (h9.sel 5 [3, 0, 1, 2, 4]) addr).mono ?_
  rintro e w10 ⟨rfl, h10⟩
  refine .inl ⟨_, _, _, _, _, _, rfl, ?_⟩
  refine allocSub h10 (fun g27 w11 h11 => ?_)
  refine stSub ((atS s addr).getD SubV.zero) h11 .here (fun w12 h12 => ?_)
  have h13 := h12.drew
  simp only [Bool.not_true, cond_false]
  generalize (ofS s name).getD SubV.zero = x at *
  generalize (atS s addr).getD SubV.zero = y at *
  refine ⟨x.name, x.secret, x.plan, x.addr, x.susp, h13.cells0 (vs := x.cells) (.there (.there (.there (.there (.there .here))))), x.name, x.secret, x.plan, x.addr, x.susp, h13.cells0 (vs := x.cells) (.there (.there (.there (.there .here)))), ?_⟩
  rw [subEq x x, decide_eq_true rfl]
  simp only [Bool.not_true, cond_false]
  rw [show ((ofS s name).isSome == (getR SubV.name s.subs name).isSome) = true from by show ((ofS s name).isSome == (ofS s name).isSome) = true; simp]
  simp only [Bool.not_true, cond_false]
  refine ⟨y.name, y.secret, y.plan, y.addr, y.susp, h13.cells0 (vs := y.cells) (.there (.there .here)), y.name, y.secret, y.plan, y.addr, y.susp, h13.cells0 (vs := y.cells) .here, ?_⟩
  rw [subEq y y, decide_eq_true rfl]
  simp only [Bool.not_true, cond_false]
  rw [show ((atS s addr).isSome == (getR SubV.addr s.subs addr).isSome) = true from by show ((atS s addr).isSome == (atS s addr).isSome) = true; simp]
  simp only [Bool.not_true, cond_false]
  obtain ⟨D, n, d, hcell, hn, h14, shut⟩ := refS_sl (h13.sel 4 [1, 3])
  have h14 := h14.pick (.there (.there .here))
  refine ⟨D, n, d, hcell, ?_⟩
  refine (Len_ok h14).mono ?_
  rintro e w15 ⟨rfl, h15⟩
  refine .inl ⟨_, rfl, fun _ => h15.cell (.there .here) rfl, ?_⟩
  rw [show (((s.subs.length : Nat) : Int) != ((n : Nat) : Int)) = false from by rw [hn]; simp, cond_false]
  refine ⟨D, n, d, h15.cell (.there .here) rfl, ?_⟩
  refine (List_ok h15).mono ?_
  rintro e w16 ⟨E, m, d', rfl, h16⟩
  refine .inl ⟨_, _, _, rfl, fun _ => h16.cell (.there (.there .here)) rfl, ?_⟩
  have hm := (sub_len h16 .here).1
  refine (Same_ok (h16.sel 4 [0, 3, 1, 2]) (by omega)).mono ?_
  rintro e w17 ⟨rfl, h17⟩
  refine .inl ⟨_, rfl, ?_⟩
  rw [decide_eq_true rfl]
  simp only [Bool.not_true, cond_false]
  rw [nat_wrap (by omega)]
  exact next g s _ w17 ((shut (h17.sel 4 [3, 1, 2])).pick (.there .here))
theorem plays_round (ha : ArgS w0 A len l) (hl : len ≤ 100) : ∀ (k i : Nat), k + i = len → PlayNext w0 A len c name addr gr i := by
  intro k
  induction k with
  | zero =>
    intro i hk g s L w h
    refine F4.p15_ok ?_
    unfold F4.p15
    rw [decide_eq_false (by omega), cond_false]
    refine (alive_ok h).mono ?_
    rintro e w1 ⟨rfl, h1⟩
    exact .inl ⟨_, rfl, rfl, _, h1⟩
  | succ k ih =>
    intro i hk g s L w h
    have next := ih (i + 1) (by omega)
    have hi : i < 1000 := by omega
    have hF := isF_pure h
    have hsm := hF.small
    refine F4.p15_ok ?_
    unfold F4.p15
    rw [decide_eq_true (by omega), cond_true]
    obtain ⟨y, hy⟩ : ∃ y, l[i]? = some y := ⟨l[i]'(by have := ha.1; omega), List.getElem?_eq_getElem _⟩
    obtain ⟨a, rfl, hc⟩ := ha.2 i y hy
    obtain ⟨dn, x⟩ := y
    refine ⟨⟨by omega, by omega⟩, ?_⟩
    simp only [nilck, Int.toNat_natCast]
    refine ⟨dn, x.name, x.secret, x.plan, x.addr, x.susp, h.oldCells hc, ?_⟩
    refine allocE encStep h (fun g8 w2 h2 => ?_)
    refine stE encStep (cs := StepV.cells ⟨0, SubV.zero⟩) rfl h2 .here ⟨dn, x⟩ (fun w3 h3 => ?_)
    have h3 : St w0 (World.all w0) (blk g8 (.cells (StepV.cells ⟨dn, x⟩).toArray 35) :: isF g s :: refS gr s :: L) w3 := h3
    have h4 := h3.drew
    have hx : ∀ {w L R}, St w0 (World.all w0) L w → Pick (blk g8 (.cells (StepV.cells ⟨dn, x⟩).toArray 35)) L R → cellsAt w ⟨g8, 1, none⟩ 0 x.cells := fun h p => h.cells p (fun j v hj => by rw [Nat.add_comm]; simpa [StepV.cells] using hj)
    refine ⟨x.name, x.secret, x.plan, x.addr, x.susp, hx h4 .here, x.name, x.secret, x.plan, x.addr, x.susp, hx h4 .here, ?_⟩
    refine (Check_ok h4 x).mono ?_
    rintro e w5 ⟨rfl, h5⟩
    refine .inl ⟨_, rfl, fun _ => hx h5 .here, ?_⟩
    refine (refCheck_ok h5 x).mono ?_
    rintro e w6 ⟨rfl, h6⟩
    refine .inl ⟨_, rfl, dn, h6.cell .here rfl, ?_⟩
    rw [show ((if chkS x then (0 : Int) else 2) == (if chkS x then 0 else 2)) = true from by simp]
    have h7 := h6.drew
    by_cases d0 : dn = 0
    · rw [show (dn == 0) = true from by simpa using d0, cond_true]
      simp only [cond_true]
      refine ⟨x.name, x.secret, x.plan, x.addr, x.susp, hx h7 .here, x.name, x.secret, x.plan, x.addr, x.susp, hx h7 .here, ?_⟩
      refine (Put_ok (h7.pick (.there .here)) x).mono ?_
      rintro e w8 ⟨rfl, h8⟩
      refine .inl ⟨_, rfl, fun _ => hx h8 (.there .here), ?_⟩
      refine (refPut_ok hF.ris (h8.pick (.there (.there .here))) x (by omega)).mono ?_
      rintro e w9 ⟨rfl, h9⟩
      refine .inl ⟨_, rfl, ?_⟩
      rw [rputE_eq hF, show (putE s x == putE s x) = true from by simp]
      rw [rputL_eq hF] at h9
      have hmost : (putS s x).most = s.most := by unfold putS; split <;> rfl
      refine plays_end (s := putS s x) hi next (L := blk g8 (.cells (StepV.cells ⟨dn, x⟩).toArray 35) :: L) ?_
      rw [refS, hmost]
      exact h9.sel 3 [1, 0, 2]
    rw [show (dn == 0) = false from by simpa using d0, cond_false]
    by_cases d1 : dn = 1
    · rw [show (dn == 1) = true from by simpa using d1, cond_true]
      simp only [cond_true]
      refine ⟨x.name, h7.cell .here rfl, x.name, h7.cell .here rfl, ?_⟩
      refine (Del_ok (h7.pick (.there .here)) x.name).mono ?_
      rintro e w8 ⟨rfl, h8⟩
      refine .inl ⟨_, rfl, fun _ => h8.cell (.there .here) rfl, ?_⟩
      refine (refDel_ok hF.ris (h8.pick (.there (.there .here))) x.name).mono ?_
      rintro e w9 ⟨rfl, h9⟩
      refine .inl ⟨_, rfl, ?_⟩
      rw [show (delE s x.name == (if (getR SubV.name s.subs x.name).isSome then 0 else 3)) = true from by show (delE s x.name == delE s x.name) = true; simp]
      exact plays_end (s := delS s x.name) hi next (L := blk g8 (.cells (StepV.cells ⟨dn, x⟩).toArray 35) :: L) (h9.sel 3 [1, 0, 2])
    rw [show (dn == 1) = false from by simpa using d1, cond_false]
    by_cases d2 : dn = 2
    · rw [show (dn == 2) = true from by simpa using d2, cond_true]
      refine (Copy_ok (h6.pick (.there .here))).mono ?_
      rintro e w8 ⟨g', rfl, h8⟩
      refine .inl ⟨_, rfl, ?_⟩
      simp only [Option.isNone, cond_false]
      refine ⟨x.name, h8.cell (.there (.there .here)) rfl, ?_⟩
      refine (Del_ok (h8.pick (.there .here)) x.name).mono ?_
      rintro e w9 ⟨rfl, h9⟩
      refine .inl ⟨_, rfl, ?_⟩
      refine (sub_ok h9 { data := #[115, 112, 111, 105, 108, 116] } 77).mono ?_
      rintro e w10 ⟨rfl, h10⟩
      refine .inl ⟨_, _, _, _, _, rfl, ?_⟩
      refine (Put_ok h10 (subV { data := #[115, 112, 111, 105, 108, 116] } 77)).mono ?_
      rintro e w11 ⟨rfl, h11⟩
      refine .inl ⟨_, rfl, ?_⟩
      exact plays_end hi next (h11.sel 4 [1, 3])
    · rw [show (dn == 2) = false from by simpa using d2, cond_false]
      exact plays_end hi next (h6.sel 3 [1, 2])
theorem plays_law {most : Int} (ha : ArgS w A len l) : Calls Try.prog 4 #[.int .i64 most, .slice A len c, .string name, .int .u32 addr] w (EndT w) := by
  have h := St.refl w
  refine F4.calls ?_
  unfold F4.main
  have fin : ∀ {L w'}, St w (World.all w) L w' → Calls Try.prog 7 #[] w' (fun en w6 => (∃ b, en = .returned (.bool b) ∧ EndT w (.returned (.bool b)) w6) ∨ ∃ ch, en = .panicked ch ∧ EndT w (.panicked ch) w6) := fun h => by
    refine (alive_ok h).mono ?_
    rintro e w1 ⟨rfl, h1⟩
    exact .inl ⟨_, rfl, rfl, _, h1⟩
  by_cases c1 : len ≤ 100
  · rw [decide_eq_false (by omega), cond_false]
    refine (of_ok ha (by omega) h).mono ?_
    rintro e w1 ⟨B, n, d, rfl, h1⟩
    refine .inl ⟨_, _, _, rfl, ?_⟩
    refine (Long_ok h1).mono ?_
    rintro e w2 ⟨b, rfl, h2⟩
    refine .inl ⟨_, rfl, ?_⟩
    cases b with
    | true => rw [cond_true]; exact fin h2
    | false =>
      rw [cond_false]
      cases decide (((name.size : Nat) : Int) > 1024) with
      | true => rw [cond_true]; exact fin h2
      | false =>
        rw [cond_false]
        refine F4.p3_ok ?_
        unfold F4.p3
        refine Calls.mono (R := fun e w' => e = .returned (optV none) ∧ ∃ L, St w (World.all w) L w') (F13.calls ?_) ?_
        · unfold F13.main
          refine allocSub h2 (fun g w3 h3 => ?_)
          simp only [Option.isNone, cond_true]
          refine stSub SubV.zero h3 .here (fun w4 h4 => ?_)
          exact ⟨eB, eB, eB, 0, false, h4.cells0 (vs := SubV.zero.cells) .here, rfl, _, h4⟩
        rintro e w3 ⟨rfl, L3, h3⟩
        refine .inl ⟨_, _, _, _, _, _, rfl, ?_⟩
        refine allocSub h3 (fun g10 w4 h4 => ?_)
        refine stSub SubV.zero h4 .here (fun w5 h5 => ?_)
        refine Calls.mono (R := fun e w' => e = .returned (optV none) ∧ ∃ L, St w (World.all w) L w') (F11.calls ?_) ?_
        · unfold F11.main
          refine allocSub h5 (fun g w3 h3 => ?_)
          simp only [Option.isNone, cond_true]
          refine stSub SubV.zero h3 .here (fun w4 h4 => ?_)
          exact ⟨eB, eB, eB, 0, false, h4.cells0 (vs := SubV.zero.cells) .here, rfl, _, h4⟩
        rintro e w6 ⟨rfl, L6, h6⟩
        refine .inl ⟨_, _, _, _, _, _, rfl, ?_⟩
        refine allocSub h6 (fun g12 w7 h7 => ?_)
        refine stSub SubV.zero h7 .here (fun w8 h8 => ?_)
        refine Calls.mono (R := fun e w' => e = .returned (.int .i64 1) ∧ ∃ L, St w (World.all w) L w') (F10.calls ?_) ?_
        · unfold F10.main
          refine boxE encSub SubV.zero h8 (fun g w3 h3 => ?_)
          simp only [Option.isNone, cond_true]
          exact ⟨by trivial, _, h3⟩
        rintro e w9 ⟨rfl, L9, h9⟩
        refine .inl ⟨_, rfl, ?_⟩
        simp only [show ((1 : Int) != 1) = false from rfl, cond_false]
        refine (show Calls Try.prog 12 #[.pointer none, .string { data := #[97] }] w9 (fun e w' => e = .returned (.int .i64 1) ∧ w' = w9) from F12.calls ⟨rfl, rfl⟩).mono ?_
        rintro e w10 ⟨rfl, rfl⟩
        refine .inl ⟨_, rfl, ?_⟩
        simp only [show ((1 : Int) != 1) = false from rfl, cond_false, Option.isSome]
        refine (show Calls Try.prog 15 #[.pointer none] w10 (fun e w' => e = .returned (.int .i64 0) ∧ w' = w10) from F15.calls ⟨rfl, rfl⟩).mono ?_
        rintro e w11 ⟨rfl, rfl⟩
        refine .inl ⟨_, rfl, ?_⟩
        refine (show Calls Try.prog 9 #[.pointer none] w11 (fun e w' => e = .returned (.slice none 0 0) ∧ w' = w11) from F9.calls ⟨rfl, rfl⟩).mono ?_
        rintro e w12 ⟨rfl, rfl⟩
        refine .inl ⟨_, _, _, rfl, ?_⟩
        rw [show ((IntKind.wrap .i64 ((0 : Int) + ((0 : Nat) : Int))) != 0) = false from by decide, cond_false]
        refine (show Calls Try.prog 17 #[.pointer none] w12 (fun e w' => e = .returned (.pointer none) ∧ w' = w12) from F17.calls ⟨rfl, rfl⟩).mono ?_
        rintro e w13 ⟨rfl, rfl⟩
        refine .inl ⟨_, rfl, ?_⟩
        simp only [Option.isNone, Bool.not_true, cond_false]
        refine F4.p8_ok ?_
        unfold F4.p8
        refine (New_ok h9 most).mono ?_
        rintro e w14 (⟨hn, rfl, h14⟩ | ⟨hn, g, rfl, h14⟩)
        · refine .inl ⟨_, _, rfl, ?_⟩
          have bad : SK Try.prog Try.f4 (EndT w) (cfg Try.f4 10) [(14, .pointer none), (15, .int .i64 2)] w14 := by
            refine F4.p10_ok ?_
            unfold F4.p10
            simp only [Option.isNone, cond_true, show ((2 : Int) == 2) = true from rfl]
            exact fin h14
          by_cases e1 : most < 1
          · rw [decide_eq_true e1, cond_true]; exact bad
          · rw [decide_eq_false e1, cond_false, decide_eq_true (by omega), cond_true]; exact bad
        · refine .inl ⟨_, _, rfl, ?_⟩
          rw [decide_eq_false (by omega), cond_false, decide_eq_false (by omega), cond_false]
          refine F4.p11_ok ?_
          unfold F4.p11
          simp only [Option.isNone, cond_false, show ((0 : Int) != 0) = false from rfl]
          refine new_box h14 (fun gr w15 h15 => ?_)
          have h16 : St w (World.all w) (refS gr ⟨most, []⟩ :: isF g ⟨most, []⟩ :: L9) w15 := refF_shut (A := none) (n := 0) (c := 0) (by show 1 < 2; decide) rfl (by show 0 < 2 ^ 20; decide) ((rowS_nil encSub h15).pick (.there .here))
          exact plays_round ha c1 len 0 rfl g ⟨most, []⟩ _ w15 (h16.pick (.there .here))
  · rw [decide_eq_true (by omega), cond_true]
    exact fin h
end
end Go.Proofs.Ytgmehadpfighbaa
