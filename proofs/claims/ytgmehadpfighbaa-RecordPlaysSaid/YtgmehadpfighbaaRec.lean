/- The file of subscribers: its state; New, Check, Of, At, Len, Put, Del. -/
import Derived.Test.YtgmehadpfighbaaSub
set_option linter.unusedVariables false
set_option linter.unusedSimpArgs false
namespace Go.Proofs.Ytgmehadpfighbaa
open Go Go.RowKit

/-! ### 1. The state -/
def nameV (s : ByteArray) : Value := .agg #[.string s]
def chkS (x : SubV) : Prop := 1 ≤ x.name.size ∧ x.name.size ≤ 32 ∧ 1 ≤ x.plan.size ∧ x.plan.size ≤ 32 ∧ x.secret.size ≤ 32 ∧ x.addr ≠ 0
instance (x : SubV) : Decidable (chkS x) := by unfold chkS; infer_instance
structure FS where
  most : Int
  subs : List SubV
structure wF (s : FS) : Prop where
  ris : Ris ltB SubV.name s.subs
  addrs : (s.subs.map SubV.addr).Nodup
  chk : ∀ x ∈ s.subs, chkS x
  len : (s.subs.length : Int) ≤ s.most
  m1 : 1 ≤ s.most
  m2 : s.most ≤ 256
def AtOf (avs : List (Int × ByteArray)) (l : List SubV) : Prop := ∀ a, mget avs a = (getR SubV.addr l a).map SubV.name
def fM (g gb ga : Nat) (most : Int) (kvs : List (ByteArray × SubV)) (avs : List (Int × ByteArray)) : List Assn :=
  [blk g (.cells #[.map (some gb), .map (some ga), .int .i64 most] 60), mapC gb strV SubV.enc kvs, mapC ga u32V nameV avs]
def isF (g : Nat) (s : FS) : Assn := fun h => ∃ gb ga kvs avs, (wF s ∧ IsMap SubV.name kvs s.subs ∧ AtOf avs s.subs) ∧ stars (fM g gb ga s.most kvs avs) h
attribute [irreducible] isF
section
variable {w0 w : World} {O : Nat → Prop} {L R : List Assn} {g gb ga : Nat} {s : FS} {kvs : List (ByteArray × SubV)} {avs : List (Int × ByteArray)}
theorem isF_open (h : St w0 O (isF g s :: L) w) : ∃ gb ga kvs avs, (wF s ∧ IsMap SubV.name kvs s.subs ∧ AtOf avs s.subs) ∧ St w0 O (blk g (.cells #[.map (some gb), .map (some ga), .int .i64 s.most] 60) :: mapC gb strV SubV.enc kvs :: mapC ga u32V nameV avs :: L) w := by
  unfold isF at h
  obtain ⟨gb, h⟩ := h.ex
  obtain ⟨ga, h⟩ := h.ex
  obtain ⟨kvs, h⟩ := h.ex
  obtain ⟨avs, h⟩ := h.ex
  obtain ⟨hp, h⟩ := h.pure
  exact ⟨gb, ga, kvs, avs, hp, h.flat⟩
theorem isF_shut (h1 : wF s) (h2 : IsMap SubV.name kvs s.subs) (h3 : AtOf avs s.subs) (h : St w0 O (blk g (.cells #[.map (some gb), .map (some ga), .int .i64 s.most] 60) :: mapC gb strV SubV.enc kvs :: mapC ga u32V nameV avs :: L) w) : St w0 O (isF g s :: L) w :=
  St.make (M := fM g gb ga s.most kvs avs) h fun k hk => by unfold isF; exact ⟨gb, ga, kvs, avs, ⟨h1, h2, h3⟩, hk⟩
theorem isF_pure (h : St w0 O (isF g s :: L) w) : wF s := by obtain ⟨_, _, _, _, hp, _⟩ := isF_open h; exact hp.1
/-! ### 2. Small ones -/
theorem in_ok (x : ByteArray) (a b : Int) (w : World) : Calls Try.prog 28 #[.string x, .int .i64 a, .int .i64 b] w fun e w' => e = .returned (.bool (decide (a ≤ (x.size : Int) ∧ (x.size : Int) ≤ b))) ∧ w' = w := by
  refine F28.calls ?_
  unfold F28.main
  by_cases h : (x.size : Int) ≥ a
  · rw [decide_eq_true h, cond_true]
    refine ⟨?_, rfl⟩
    congr 2
    simp [show a ≤ (x.size : Int) from h]
  · rw [decide_eq_false h, cond_false]
    refine ⟨?_, rfl⟩
    congr 2
    exact (decide_eq_false (fun h2 => h h2.1)).symm
theorem Check_ok (h : St w0 O L w) (x : SubV) : Calls Try.prog 16 #[x.enc] w fun e w' => e = .returned (.int .i64 (if chkS x then 0 else 2)) ∧ St w0 O L w' := by
  refine F16.calls ?_
  unfold F16.main
  refine boxE encSub x h (fun g w1 h1 => ?_)
  have h1 : St w0 O (blk g (.cells x.cells.toArray 33) :: L) w1 := h1
  refine ⟨x.name, h1.cell .here rfl, ?_⟩
  refine (in_ok x.name 1 32 w1).mono ?_
  rintro e w2 ⟨rfl, rfl⟩
  refine .inl ⟨_, rfl, ?_⟩
  by_cases c1 : (1 : Int) ≤ x.name.size ∧ (x.name.size : Int) ≤ 32
  · rw [decide_eq_true c1]
    simp only [Bool.not_true, cond_false]
    refine ⟨x.plan, h1.cell .here rfl, ?_⟩
    refine (in_ok x.plan 1 32 w2).mono ?_
    rintro e w3 ⟨rfl, rfl⟩
    refine .inl ⟨_, rfl, ?_⟩
    by_cases c2 : (1 : Int) ≤ x.plan.size ∧ (x.plan.size : Int) ≤ 32
    · rw [decide_eq_true c2]
      simp only [Bool.not_true, cond_false]
      refine ⟨x.secret, h1.cell .here rfl, ?_⟩
      refine (in_ok x.secret 0 32 w3).mono ?_
      rintro e w4 ⟨rfl, rfl⟩
      refine .inl ⟨_, rfl, ?_⟩
      by_cases c3 : (0 : Int) ≤ x.secret.size ∧ (x.secret.size : Int) ≤ 32
      · rw [decide_eq_true c3]
        simp only [Bool.not_true, cond_false]
        refine ⟨x.addr, h1.cell .here rfl, ?_⟩
        by_cases c4 : x.addr = 0
        · rw [show (x.addr == 0) = true from by simpa using c4, cond_true]
          exact ⟨by rw [if_neg (fun hc => hc.2.2.2.2.2 c4)], h1.drop⟩
        · rw [show (x.addr == 0) = false from by simpa using c4, cond_false]
          exact ⟨by rw [if_pos (show chkS x from ⟨by omega, by omega, by omega, by omega, by omega, c4⟩)], h1.drop⟩
      · rw [decide_eq_false c3]
        simp only [Bool.not_false, cond_true]
        exact ⟨by rw [if_neg (fun hc : chkS x => c3 ⟨by omega, by have := hc.2.2.2.2.1; omega⟩)], h1.drop⟩
    · rw [decide_eq_false c2]
      simp only [Bool.not_false, cond_true]
      exact ⟨by rw [if_neg (fun hc : chkS x => c2 ⟨by have := hc.2.2.1; omega, by have := hc.2.2.2.1; omega⟩)], h1.drop⟩
  · rw [decide_eq_false c1]
    simp only [Bool.not_false, cond_true]
    exact ⟨by rw [if_neg (fun hc : chkS x => c1 ⟨by have := hc.1; omega, by have := hc.2.1; omega⟩)], h1.drop⟩
theorem wF_nil {m : Int} (h1 : 1 ≤ m) (h2 : m ≤ 256) : wF ⟨m, []⟩ := ⟨ris_nil, by simp, by simp, by show (0 : Int) ≤ m; omega, h1, h2⟩
theorem New_ok (h : St w0 O L w) (m : Int) : Calls Try.prog 8 #[.int .i64 m] w fun e w' =>
    (¬ (1 ≤ m ∧ m ≤ 256) ∧ e = .returned (.tuple #[.pointer none, .int .i64 2]) ∧ St w0 O L w') ∨ ((1 ≤ m ∧ m ≤ 256) ∧ ∃ g, e = .returned (.tuple #[.pointer (some ⟨g, 0, none⟩), .int .i64 0]) ∧ St w0 O (isF g ⟨m, []⟩ :: L) w') := by
  refine F8.calls ?_
  unfold F8.main
  by_cases c1 : m < 1
  · rw [decide_eq_true c1, cond_true]
    exact .inl ⟨by omega, rfl, h⟩
  rw [decide_eq_false c1, cond_false]
  by_cases c2 : m > 256
  · rw [decide_eq_true c2, cond_true]
    exact .inl ⟨by omega, rfl, h⟩
  rw [decide_eq_false c2, cond_false]
  refine new_map h (fun gb w1 h1 => ?_)
  refine new_map h1 (fun ga w2 h2 => ?_)
  refine new_box h2 (fun g w3 h3 => ?_)
  refine .inr ⟨by omega, g, rfl, ?_⟩
  have h4 := mapC_shut (enc := u32V) (encv := nameV) MapIs.empty (h3.pick (.there .here))
  have h5 := mapC_shut (enc := strV) (encv := SubV.enc) MapIs.empty (h4.pick (.there (.there .here)))
  exact isF_shut (s := ⟨m, []⟩) (wF_nil (by omega) (by omega)) .nil (fun a => rfl) (h5.pick (.there (.there .here)))
/-! ### 3. Of, At, Len -/
theorem lookSub (h : St w0 O L w) (p : Pick (mapC gb strV SubV.enc kvs) L R) (n : ByteArray) :
    (Instr.lookup 55 (.map (some gb)) (.string n) true).run Try.prog w = .ok (.tuple #[((mget kvs n).getD SubV.zero).enc, .bool (mget kvs n).isSome]) w := by
  have := lookup_of h p Try.underlying55 keyStr encSub.zeroOk n true
  rw [if_pos rfl] at this
  refine this.trans ?_
  cases mget kvs n <;> rfl
theorem lookName (h : St w0 O L w) (p : Pick (mapC ga u32V nameV avs) L R) (a : Int) (ok : Bool) :
    (Instr.lookup 56 (.map (some ga)) (.int .u32 a) ok).run Try.prog w = .ok (if ok then .tuple #[nameV ((mget avs a).getD eB), .bool (mget avs a).isSome] else nameV ((mget avs a).getD eB)) w := by
  have := lookup_of h p Try.underlying56 keyU32 (z := nameV eB) (by kernel_rfl) a ok
  refine this.trans ?_
  cases mget avs a <;> rfl
def ofS (s : FS) (n : ByteArray) : Option SubV := getR SubV.name s.subs n
def atS (s : FS) (a : Int) : Option SubV := getR SubV.addr s.subs a
/-- A subscriber that may be there, as it is handed back. -/
def optV (x : Option SubV) : Value := .tuple #[(x.getD SubV.zero).enc, .bool x.isSome]
theorem Of_ok (h : St w0 O (isF g s :: L) w) (n : ByteArray) : Calls Try.prog 13 #[.pointer (some ⟨g, 0, none⟩), .string n] w fun e w' => e = .returned (optV (ofS s n)) ∧ St w0 O (isF g s :: L) w' := by
  obtain ⟨gb, ga, kvs, avs, ⟨hF, hM, hA⟩, h1⟩ := isF_open h
  refine F13.calls ?_
  unfold F13.main
  refine allocSub h1 (fun g4 w2 h2 => ?_)
  simp only [Option.isNone, cond_false, nilck]
  have hg : mget kvs n = ofS s n := hM.get n
  refine ⟨some gb, h2.cell (.there .here) rfl, ((mget kvs n).getD SubV.zero).name, ((mget kvs n).getD SubV.zero).secret, ((mget kvs n).getD SubV.zero).plan, ((mget kvs n).getD SubV.zero).addr, ((mget kvs n).getD SubV.zero).susp, (mget kvs n).isSome, lookSub h2 (.there (.there .here)) n, ?_⟩
  generalize hx : (mget kvs n).getD SubV.zero = x
  refine allocSub h2 (fun g6 w3 h3 => ?_)
  refine stSub x h3 .here (fun w4 h4 => ?_)
  refine ⟨x.name, x.secret, x.plan, x.addr, x.susp, h4.cells0 (vs := x.cells) .here, ?_⟩
  refine stSub x h4 (.there .here) (fun w5 h5 => ?_)
  refine ⟨x.name, x.secret, x.plan, x.addr, x.susp, h5.cells0 (vs := x.cells) .here, ?_⟩
  refine ⟨?_, isF_shut hF hM hA h5.drop.drop⟩
  rw [optV, ← hg, hx]
  rfl
theorem size_zero {b : ByteArray} (h : b.size = 0) : b = eB := by
  obtain ⟨⟨l⟩⟩ := b
  cases l with
  | nil => rfl
  | cons x r => simp [ByteArray.size] at h
theorem ofS_none (hF : wF s) : ofS s eB = none := getR_none.2 fun y hy e => by
  have := (hF.chk y hy).1
  rw [e] at this
  exact absurd this (by decide)
theorem atS_name (hF : wF s) (a : Int) : ofS s (((atS s a).map SubV.name).getD eB) = atS s a := by
  cases h : atS s a with
  | none => exact ofS_none hF
  | some x =>
    have := (getR_some' h).1
    exact getR_mem (hF.ris.keys linB) this
theorem At_ok (h : St w0 O (isF g s :: L) w) (a : Int) : Calls Try.prog 11 #[.pointer (some ⟨g, 0, none⟩), .int .u32 a] w fun e w' => e = .returned (optV (atS s a)) ∧ St w0 O (isF g s :: L) w' := by
  obtain ⟨gb, ga, kvs, avs, ⟨hF, hM, hA⟩, h1⟩ := isF_open h
  refine F11.calls ?_
  unfold F11.main
  refine allocSub h1 (fun g4 w2 h2 => ?_)
  simp only [Option.isNone, cond_false, nilck, add_eq]
  refine ⟨some ga, h2.cell (.there .here) rfl, (mget avs a).getD eB, lookName h2 (.there (.there (.there .here))) a false, ?_⟩
  rw [show mget avs a = (atS s a).map SubV.name from hA a]
  refine (Of_ok (isF_shut hF hM hA (h2.pick (.there (.there (.there .here))) |>.pick (.there (.there (.there .here))) |>.pick (.there (.there (.there .here))))) _).mono ?_
  rintro e w3 ⟨rfl, h3⟩
  rw [atS_name hF a]
  generalize hx : (atS s a).getD SubV.zero = x
  refine .inl ⟨x.name, x.secret, x.plan, x.addr, x.susp, (atS s a).isSome, by rw [optV, hx]; rfl, ?_⟩
  refine stSub x h3 (.there .here) (fun w5 h5 => ?_)
  refine ⟨x.name, x.secret, x.plan, x.addr, x.susp, h5.cells0 (vs := x.cells) .here, ?_⟩
  refine ⟨?_, h5.drop⟩
  rw [optV, hx]
  rfl
theorem Len_ok (h : St w0 O (isF g s :: L) w) : Calls Try.prog 15 #[.pointer (some ⟨g, 0, none⟩)] w fun e w' => e = .returned (.int .i64 (s.subs.length : Int)) ∧ St w0 O (isF g s :: L) w' := by
  obtain ⟨gb, ga, kvs, avs, ⟨hF, hM, hA⟩, h1⟩ := isF_open h
  refine F15.calls ?_
  unfold F15.main
  simp only [Option.isNone, cond_false, nilck]
  refine ⟨some gb, h1.cell .here rfl, _, mapLen_of h1 (.there .here) Try.underlying55 _, ?_⟩
  rw [hM.len]
  exact ⟨rfl, h⟩
end
end Go.Proofs.Ytgmehadpfighbaa
