/- Layer 10's laws: IpcpoptTexts, IpcpoptBack; what Get gives. -/
import Derived.Test.YthfcnkeclcphpaaDoorRow10
set_option linter.unusedVariables false
set_option linter.unusedSimpArgs false
namespace Go.Proofs.YthfcnkeclcphpaaDoor
open Go Go.RowKit

abbrev EndB (w : World) : Ending → World → Prop := fun e w' => e = .returned (.bool true) ∧ Below w.heap.size w w'
/-! ### 1. Texts -/
theorem texts_law {w : World} (hG : Glob w) {v : Int} (h0 : 0 ≤ v) (s : ByteArray) : Calls Tryd.prog 3 #[.int .u32 v, .string s] w (EndB w) := by
  refine F3.calls ?_
  unfold F3.main
  by_cases hs : s.size > 100
  · rw [decide_eq_true (by omega), cond_true]
    refine (alive_ok hG).mono ?_
    rintro e w1 ⟨rfl, b1⟩
    exact .inl ⟨_, rfl, rfl, b1⟩
  rw [decide_eq_false (by omega), cond_false]
  refine (Read_ok hG s (by omega)).mono ?_
  rintro e w1 ⟨rfl, b1⟩
  refine .inl ⟨_, _, rfl, ?_⟩
  have G1 := hG.below b1
  refine (RefRead_ok G1 s).mono ?_
  rintro e w2 ⟨rfl, b2⟩
  refine .inl ⟨_, _, rfl, ?_⟩
  have G2 := G1.below b2
  refine (Text_ok v G2).mono ?_
  rintro e w3 ⟨rfl, b3⟩
  refine .inl ⟨_, rfl, ?_⟩
  have G3 := G2.below b3
  refine (RefText_ok h0 G3).mono ?_
  rintro e w4 ⟨rfl, b4⟩
  refine .inl ⟨_, rfl, ?_⟩
  have G4 := G3.below b4
  rw [show (textV v == textV v) = true from by rw [ba_beq]; exact decide_eq_true rfl, cond_true, (read_eq s).1, (read_eq s).2, beq_self_eq_true, cond_true, beq_self_eq_true, cond_true]
  refine (alive_ok G4).mono ?_
  rintro e w5 ⟨rfl, b5⟩
  exact .inl ⟨_, rfl, rfl, b1.trans ((b2.trans ((b3.trans ((b4.trans (b5.mono b4.size)).mono b3.size)).mono b2.size)).mono b1.size)⟩
/-! ### 2. What Get gives -/
def kvs (l : List Op) : List (Nat × Int) := l.filterMap fun o => (kindG o).map fun k => (k, val32 o.d)
def oddB (o : Op) : Bool := (kindG o).isNone
def setAll : List (Nat × Int) → Ip → Option Ip
  | [], x => some x
  | p :: r, x => if x.has p.1 = true then none else setAll r (x.set p.1 p.2)
theorem getGo_eq : ∀ (l : List Op) (x : Ip) (odd : List Op), getGo l x odd = match setAll (kvs l) x with
    | none => (Ip.zero, [], 9)
    | some y => (y, odd ++ l.filter oddB, 0)
  | [], x, odd => by simp [getGo, kvs, setAll]
  | o :: r, x, odd => by
    rw [getGo]
    cases hk : kindG o with
    | none =>
      have e1 : kvs (o :: r) = kvs r := by unfold kvs; rw [List.filterMap_cons]; simp [hk]
      have e2 : (o :: r).filter oddB = o :: r.filter oddB := by rw [List.filter_cons]; simp [oddB, hk]
      rw [e1, e2]
      have := getGo_eq r x (odd ++ [o])
      simp only [this, List.append_assoc, List.singleton_append]
    | some k =>
      have e1 : kvs (o :: r) = (k, val32 o.d) :: kvs r := by unfold kvs; rw [List.filterMap_cons]; simp [hk]
      have e2 : (o :: r).filter oddB = r.filter oddB := by rw [List.filter_cons]; simp [oddB, hk]
      rw [e1, e2]
      simp only [setAll]
      by_cases hh : x.has k = true
      · rw [if_pos hh, if_pos hh]
      · rw [if_neg hh, if_neg hh]
        exact getGo_eq r (x.set k (val32 o.d)) odd
theorem set_swap (x : Ip) (k q : Nat) (a b : Int) (F : Ip → Option Ip) : (if x.has k = true then none else if (x.set k a).has q = true then none else F ((x.set k a).set q b)) = (if x.has q = true then none else if (x.set q b).has k = true then none else F ((x.set q b).set k a)) := by
  obtain ⟨h0, v0, h1, v1, h2, v2⟩ := x
  by_cases k0 : k = 0 <;> by_cases k1 : k = 1 <;> by_cases q0 : q = 0 <;> by_cases q1 : q = 1 <;> (try omega) <;> cases h0 <;> cases h1 <;> cases h2 <;> simp_all [Ip.has, Ip.set]
theorem setAll_perm {a b : List (Nat × Int)} (p : a.Perm b) : ∀ x, setAll a x = setAll b x := by
  induction p with
  | nil => intro x; rfl
  | cons y _ ih => intro x; simp only [setAll, ih]
  | swap y z l => intro x; simp only [setAll]; exact set_swap x z.1 y.1 z.2 y.2 (setAll l)
  | trans _ _ ih1 ih2 => intro x; rw [ih1, ih2]
theorem get_perm {l m : List Op} (p : l.Perm m) : (getM m).1 = (getM l).1 ∧ (getM m).2.2 = (getM l).2.2 ∧ (getM m).2.1.length = (getM l).2.1.length := by
  unfold getM
  have hp : (kvs l).Perm (kvs m) := p.filterMap _
  rw [getGo_eq, getGo_eq, setAll_perm hp]
  cases setAll (kvs m) Ip.zero with
  | none => exact ⟨rfl, rfl, rfl⟩
  | some y => exact ⟨rfl, rfl, by simp only [List.nil_append]; exact (p.filter oddB).length_eq.symm⟩
theorem get_insert {a b : List Op} {o : Op} (ho : good o = false) : (getM (a ++ [o] ++ b)).1 = (getM (a ++ b)).1 ∧ (getM (a ++ [o] ++ b)).2.2 = (getM (a ++ b)).2.2 ∧ ((getM (a ++ b)).2.2 = 0 → (getM (a ++ [o] ++ b)).2.1.length = (getM (a ++ b)).2.1.length + 1) := by
  have hk : kindG o = none := by unfold kindG; rw [ho]; rfl
  have e1 : kvs (a ++ [o] ++ b) = kvs (a ++ b) := by
    unfold kvs
    rw [List.filterMap_append, List.filterMap_append, List.filterMap_append]
    simp [hk]
  unfold getM
  rw [getGo_eq, getGo_eq, e1]
  cases setAll (kvs (a ++ b)) Ip.zero with
  | none => exact ⟨rfl, rfl, fun h => by cases h⟩
  | some y =>
    refine ⟨rfl, rfl, fun _ => ?_⟩
    simp only [List.nil_append, List.filter_append, List.length_append]
    have : oddB o = true := by unfold oddB; rw [hk]; rfl
    simp [this]
    omega
theorem get_odd (l : List Op) : (getM l).2.1.length ≤ l.length := by
  unfold getM
  rw [getGo_eq]
  cases setAll (kvs l) Ip.zero with
  | none => exact Nat.zero_le _
  | some y => simp only [List.nil_append]; exact List.length_filter_le _ _
/-! ### 3. What was put is got -/
structure Ip.ok (x : Ip) : Prop where
  r0 : 0 ≤ x.v0 ∧ x.v0 < 2 ^ 32
  r1 : 0 ≤ x.v1 ∧ x.v1 < 2 ^ 32
  r2 : 0 ≤ x.v2 ∧ x.v2 < 2 ^ 32
theorem kindG_num {k : Nat} (h : k < 3) (v : Int) : kindG ⟨kt k, num32 v⟩ = some k := by
  have hs : (num32 v).size = 4 := rfl
  have hg : good ⟨kt k, num32 v⟩ = true := by
    unfold good
    rw [kindOf_kt h]
    simp [hs]
  unfold kindG
  rw [if_pos hg]
  exact kindOf_kt h
theorem get_put {x : Ip} (hx : x.ok) (hm : may x = true) : getM (putRf x) = (x, [], 0) := by
  obtain ⟨⟨a0, b0⟩, ⟨a1, b1⟩, ⟨a2, b2⟩⟩ := hx
  obtain ⟨h0, v0, h1, v1, h2, v2⟩ := x
  have k0 : ∀ v, kindG ⟨3, num32 v⟩ = some 0 := kindG_num (k := 0) (by decide)
  have k1 : ∀ v, kindG ⟨129, num32 v⟩ = some 1 := kindG_num (k := 1) (by decide)
  have k2 : ∀ v, kindG ⟨131, num32 v⟩ = some 2 := kindG_num (k := 2) (by decide)
  have e0 := val_num a0 b0
  have e1 := val_num a1 b1
  have e2 := val_num a2 b2
  simp only [may, Bool.and_eq_true, Bool.or_eq_true, beq_iff_eq] at hm
  obtain ⟨⟨m0, m1⟩, m2⟩ := hm
  unfold getM putRf optN
  cases h0 <;> cases h1 <;> cases h2 <;> simp_all [getGo, Ip.has, Ip.set, Ip.zero]
theorem same_ip (x : Ip) : ((x.h0 == x.h0) && ((x.v0 == x.v0) && ((x.h1 == x.h1) && ((x.v1 == x.v1) && ((x.h2 == x.h2) && ((x.v2 == x.v2) && true)))))) = true := by simp
/-! ### 4. IpcpoptBack -/
theorem back_tail {w w1 : World} (hG : Glob w) (b1 : Below w.heap.size w w1) {a b : Int} (a0 : 0 ≤ a) (a1 : a < 2 ^ 32) (b0 : 0 ≤ b) (b1' : b < 2 ^ 32) (s : ByteArray) (hs : s.size ≤ 100) :
    SK Tryd.prog Tryd.f4 (EndB w) (cfg Tryd.f4 8) [(1, .int .u32 a), (2, .int .u32 b), (3, .string s)] w1 := by
  refine F4.p8_ok ?_
  unfold F4.p8
  refine (Text_ok a (hG.below b1)).mono ?_
  rintro e w2 ⟨rfl, c2⟩
  have b2 := b1.trans (c2.mono b1.size)
  refine .inl ⟨_, rfl, ?_⟩
  refine (Read_ok (hG.below b2) (textV a) (by have := textV_size a; omega)).mono ?_
  rintro e w3 ⟨rfl, c3⟩
  have b3 := b2.trans (c3.mono b2.size)
  refine .inl ⟨_, _, rfl, ?_⟩
  refine (Read_ok (hG.below b3) s (by omega)).mono ?_
  rintro e w4 ⟨rfl, c4⟩
  have b4 := b3.trans (c4.mono b3.size)
  refine .inl ⟨_, _, rfl, ?_⟩
  have hr := read_text a0 a1
  rw [hr.1, hr.2, show ((0 : Int) == 0) = true from rfl, cond_true, beq_self_eq_true, cond_true]
  have heq : ((a == b) == (textV a == textV b)) = true := by
    rw [ba_beq]
    by_cases h : a = b
    · subst h; simp
    · rw [beq_eq_false_iff_ne.2 h, decide_eq_false (fun e => h (text_inj a0 a1 b0 b1' e))]; rfl
  have last : ∀ {w5 : World}, Below w.heap.size w w5 → Calls Tryd.prog 10 #[.int .u32 a] w5 fun en w16 =>
      (∃ (s80_15 : ByteArray), en = .returned (.string s80_15) ∧ Calls Tryd.prog 10 #[.int .u32 b] w16 fun en w19 =>
      (∃ (s82_18 : ByteArray), en = .returned (.string s82_18) ∧ (bif ((a == b) == (s80_15 == s82_18)) then (Calls Tryd.prog 7 #[] w19 fun en w22 =>
      (∃ (b87_21 : Bool), en = .returned (.bool b87_21) ∧ EndB w (.returned (.bool b87_21)) w22)
      ∨ ∃ ch23, en = .panicked ch23 ∧ EndB w (.panicked ch23) w22) else (EndB w (.returned (.bool false)) w19)))
      ∨ ∃ ch20, en = .panicked ch20 ∧ EndB w (.panicked ch20) w19)
      ∨ ∃ ch17, en = .panicked ch17 ∧ EndB w (.panicked ch17) w16 := by
    intro w5 b5
    refine (Text_ok a (hG.below b5)).mono ?_
    rintro e w6 ⟨rfl, c6⟩
    have b6 := b5.trans (c6.mono b5.size)
    refine .inl ⟨_, rfl, ?_⟩
    refine (Text_ok b (hG.below b6)).mono ?_
    rintro e w7 ⟨rfl, c7⟩
    have b7 := b6.trans (c7.mono b6.size)
    refine .inl ⟨_, rfl, ?_⟩
    rw [heq, cond_true]
    refine (alive_ok (hG.below b7)).mono ?_
    rintro e w8 ⟨rfl, c8⟩
    exact .inl ⟨_, rfl, rfl, b7.trans (c8.mono b7.size)⟩
  by_cases he : readE s = 0
  · rw [he, show ((0 : Int) != 0) = false from rfl, cond_false]
    refine (Text_ok (readV s) (hG.below b4)).mono ?_
    rintro e w5 ⟨rfl, c5⟩
    have b5 := b4.trans (c5.mono b4.size)
    refine .inl ⟨_, rfl, ?_⟩
    rw [text_read he, show (s == s) = true from by rw [ba_beq]; exact decide_eq_true rfl, cond_true]
    exact last b5
  · rw [show (readE s != 0) = true from bne_iff_ne.2 he, cond_true]
    exact last b4
theorem back_law {w : World} (hG : Glob w) {x : Ip} (hx : x.ok) {a b : Int} (a0 : 0 ≤ a) (a1 : a < 2 ^ 32) (b0 : 0 ≤ b) (b1 : b < 2 ^ 32) (s : ByteArray) : Calls Tryd.prog 4 #[x.enc, .int .u32 a, .int .u32 b, .string s] w (EndB w) := by
  refine F4.calls ?_
  unfold F4.main
  refine boxE encIp x (St.refl w) (fun g4 w1 h1 => ?_)
  by_cases hs : s.size > 100
  · rw [decide_eq_true (by omega), cond_true]
    refine (alive_ok (hG.old h1)).mono ?_
    rintro e w2 ⟨rfl, c2⟩
    exact .inl ⟨_, rfl, rfl, (h1.over c2).below⟩
  rw [decide_eq_false (by omega), cond_false]
  refine ⟨x.h0, x.v0, x.h1, x.v1, x.h2, x.v2, h1.cells0 (vs := x.cells) .here, ?_⟩
  refine (show Calls Tryd.prog 12 #[x.enc] w1 _ from Put_ok (hG.old h1) x).mono ?_
  rintro e w2 ⟨A, n, c, rfl, k2⟩
  refine .inl ⟨_, _, _, _, rfl, ?_⟩
  have h2 := h1.comp k2
  have hsm : s.size ≤ 100 := by omega
  unfold putL putE at *
  rw [put_may] at *
  by_cases hm : may x = true
  case neg =>
    rw [if_neg hm, if_neg (show ¬ ((none : Option (List Op)).isSome = true) from fun h => by cases h)]
    rw [show ((2 : Int) == 0) = false from rfl, cond_false]
    exact back_tail hG h2.below a0 a1 b0 b1 s hsm
  rw [if_pos hm] at *
  rw [if_pos (show (some (putRf x)).isSome = true from rfl), show ((0 : Int) == 0) = true from rfl, cond_true]
  have h2 : St w (World.all w) [opsC A n c (putRf x), blk g4 (.cells x.cells.toArray 30)] w2 := h2
  have hn : (putRf x).length ≤ 3 := by
    unfold putRf optN
    cases x.h0 <;> cases x.h1 <;> cases x.h2 <;> simp
  have hl := rowS_len encOp (by decide) h2
  refine (Get_ok (hG.old h2) (argOwn h2) (by omega)).mono ?_
  rintro e w3 ⟨B, m, d, rfl, k3⟩
  have h3 := h2.comp k3
  rw [get_put hx hm] at *
  refine .inl ⟨_, _, _, _, _, _, _, _, _, _, rfl, ?_⟩
  have h3 : St w (World.all w) [opsC B m d [], opsC A n c (putRf x), blk g4 (.cells x.cells.toArray 30)] w3 := h3
  refine allocE encIp h3 (fun g11 w4 h4 => ?_)
  refine stE encIp (cs := Ip.zero.cells) rfl h4 .here x (fun w5 h5 => ?_)
  rw [show ((0 : Int) != 0) = false from rfl, cond_false]
  refine ⟨x.h0, x.v0, x.h1, x.v1, x.h2, x.v2, h5.cells0 (vs := x.cells) .here, x.h0, x.v0, x.h1, x.v1, x.h2, x.v2, h5.cells0 (vs := x.cells) (.there (.there (.there .here))), ?_⟩
  rw [same_ip x, Bool.not_true, cond_false]
  have hm0 := (rowS_len encOp (by decide) (h5.pick (.there .here))).1
  obtain rfl : m = 0 := by simpa using hm0.symm
  rw [show (((0 : Nat) : Int) != 0) = false from rfl, cond_false]
  exact back_tail hG h5.below a0 a1 b0 b1 s hsm
end Go.Proofs.YthfcnkeclcphpaaDoor
