/- One order for all: the soundness of 'rg'. -/
import Derived.Test.YthfcnkeclcphpaaDoorRun
set_option linter.unusedVariables false
set_option linter.unusedSimpArgs false
namespace Go.Proofs.YthfcnkeclcphpaaDoor
open Go

/-! ### 1. What lays one block alone -/
section
variable {P : Program}
theorem run_bind_ok {α β : Type} {x : Sem α} {f : α → Sem β} {w w' : World} {v : β} (h : (x >>= f).run P w = .ok v w') : ∃ a w1, x.run P w = .ok a w1 ∧ (f a).run P w1 = .ok v w' := by
  rw [Sem.run_bind] at h
  cases hx : x.run P w with
  | ok a w1 => rw [hx] at h; exact ⟨a, w1, rfl, h⟩
  | halt x w1 => rw [hx] at h; cases h
def Still (P : Program) {α : Type} (s : Sem α) : Prop := ∀ w v w', s.run P w = .ok v w' → w' = w
theorem Still.bind {α β : Type} {x : Sem α} {f : α → Sem β} (hx : Still P x) (hf : ∀ a, Still P (f a)) : Still P (x >>= f) := fun w v w' h => by
  obtain ⟨a, w1, h1, h2⟩ := run_bind_ok h
  rw [hf a _ _ _ h2, hx _ _ _ h1]
theorem Still.pure {α : Type} (a : α) : Still P (Pure.pure a : Sem α) := fun w v w' h => by cases h; rfl
theorem Still.halt {α : Type} (x : Halt) : Still P (Sem.halt x : Sem α) := fun w v w' h => by cases h
theorem Still.typeInfo (t : TypeId) : Still P (Go.typeInfo t) := by
  unfold Go.typeInfo
  refine Still.bind (fun w v w' h => by cases h; rfl) (fun p => ?_)
  split
  · exact Still.pure _
  · exact Still.halt _
theorem Still.underlying (t : TypeId) : Still P (Go.underlying t) := by
  unfold Go.underlying
  refine Still.bind (fun w v w' h => by cases h; rfl) (fun p => ?_)
  split
  · exact Still.pure _
  · exact Still.halt _
theorem Still.sizeOf (t : TypeId) : Still P (Go.sizeOf t) := Still.bind (Still.typeInfo t) (fun _ => Still.pure _)
theorem Still.zeroValue (t : TypeId) : Still P (Go.zeroValue t) := by
  unfold Go.zeroValue
  refine Still.bind (Still.typeInfo t) (fun p => ?_)
  split
  · exact Still.pure _
  · exact Still.halt _
theorem newRow_lays {t : TypeId} {cs : Array Value} {w w' : World} {a : Addr} (h : (newRow t cs).run P w = .ok a w') : w' = w.alloc (.cells cs t) := by
  simp only [newRow, Sem.run_bind, run_newObj, Result.andThen_ok, Sem.run_pure] at h
  cases h; rfl
theorem lays_sem {e : Env} {o : Oper} {w w' : World} {n : Next} (hl : laysOnly o = true) (h : (execOp e.rho o).run P w = .ok n w') : ∃ ob, w' = w.alloc ob := by
  unfold laysOnly at hl
  split at hl
  · rename_i t hop
    simp only [execOp, hop] at h
    obtain ⟨v, w1, h1, h2⟩ := run_bind_ok h
    cases h2
    unfold Instr.alloc at h1
    obtain ⟨z, w2, h3, h4⟩ := run_bind_ok h1
    have := Still.zeroValue _ _ _ _ h3
    subst this
    obtain ⟨a, w3, h5, h6⟩ := run_bind_ok h4
    cases h6
    exact ⟨_, newRow_lays h5⟩
  · rename_i t x hop
    simp only [execOp, hop] at h
    obtain ⟨v, w1, h1, h2⟩ := run_bind_ok h
    cases h2
    obtain ⟨a, w3, h5, h6⟩ := run_bind_ok h1
    cases h6
    exact ⟨_, newRow_lays h5⟩
  · rename_i t len ps hop
    simp only [execOp, hop] at h
    obtain ⟨v, w1, h1, h2⟩ := run_bind_ok h
    cases h2
    unfold Instr.buildSlice at h1
    obtain ⟨d, w2, h3, h4⟩ := run_bind_ok h1
    have := Still.underlying _ _ _ _ h3
    subst this
    split at h4
    · rename_i el
      obtain ⟨sz, w3, h5, h6⟩ := run_bind_ok h4
      have := Still.sizeOf _ _ _ _ h5
      subst this
      have last : ∀ (zero : Array Value) (w2 : World), (match Instr.fill (fun i => some (i * sz, sz)) ((Array.range (len * sz)).map (zero[· % zero.size]!)) (ps.map fun (x : Nat × Operand) => (x.1, e.rho x.2)).toList with
          | some cells => (do pure (.slice (some (← newRow el cells)) len len) : Sem Value)
          | x => stuck "buildSlice: a part of the wrong size").run P w2 = .ok v w' → ∃ ob, w' = w2.alloc ob := by
        intro zero w2 hz
        split at hz
        · obtain ⟨a, w7, h13, h14⟩ := run_bind_ok hz
          cases h14
          exact ⟨_, newRow_lays h13⟩
        · cases hz
      by_cases g1 : len * sz > 2 ^ 24
      · simp only [g1, if_true] at h6
        obtain ⟨q, w4, h7, h8⟩ := run_bind_ok h6
        cases h7
      · simp only [g1, if_false] at h6
        by_cases g2 : len * sz = 0
        · simp only [g2, if_true, pure_bind] at h6
          simp only [g2] at last
          exact last _ _ h6
        · simp only [g2, if_false] at h6
          obtain ⟨q, w4, h7, h8⟩ := run_bind_ok h6
          have := Still.zeroValue _ _ _ _ h7
          subst this
          simp only [pure_bind] at h8
          exact last _ _ h8
    · cases h4
  · rename_i t r hop
    simp only [execOp, hop] at h
    obtain ⟨v, w1, h1, h2⟩ := run_bind_ok h
    cases h2
    unfold Instr.makeMap at h1
    cases r with
    | none =>
      simp only [Option.map_none] at h1
      obtain ⟨q, w4, h7, h8⟩ := run_bind_ok h1
      cases h8
      cases h7
      exact ⟨_, rfl⟩
    | some x =>
      simp only [Option.map_some] at h1
      obtain ⟨d, w2, h3, h4⟩ := run_bind_ok h1
      have := Still.underlying _ _ _ _ h3
      subst this
      split at h4
      · obtain ⟨q, w4, h7, h8⟩ := run_bind_ok h4
        have : w4 = w2 := by
          obtain ⟨q2, w5, h9, h10⟩ := run_bind_ok h7
          cases h10
          unfold asIntOf at h9
          split at h9
          · cases h9; rfl
          · cases h9
          · cases h9
        subst this
        obtain ⟨q, w6, h11, h12⟩ := run_bind_ok h8
        cases h12
        cases h11
        exact ⟨_, rfl⟩
      · cases h4
  · cases hl
/-- A load's fact outlives a new block. -/
theorem cell?_alloc {w : World} {a : Addr} {v : Value} (ob : Obj) (h : w.cell? a = some v) : (w.alloc ob).cell? a = some v := by
  rw [World.cell?_alloc_lt w ob a (World.block_lt_of_cell? w a h)]; exact h
theorem cellsAt_alloc {w : World} {a : Addr} (ob : Obj) : ∀ {vs : List Value} {i : Nat}, cellsAt w a i vs → cellsAt (w.alloc ob) a i vs
  | [], _, _ => trivial
  | _ :: _, _, h => ⟨cell?_alloc ob h.1, cellsAt_alloc ob h.2⟩
theorem load_stable {os : List Oper} {e : Env} {o : Oper} {w : World} {K : QK} (hl : isLoad P o = true) (h : quietOp P os e o w K) :
    ∃ v S, K v (some S) ∧ Gives P e o w v (some S) ∧ ∀ w ob, S w → S (w.alloc ob) := by
  unfold isLoad at hl
  split at hl
  · rename_i t x hop
    have h' := h
    unfold quietOp at h
    simp only [hop] at h
    split at h
    · rename_i A hx
      obtain ⟨a, rfl, h⟩ := nilck_elim h
      have hrun : ∀ {S : World → Prop} {v : Value}, (∀ w', S w' → (loadVar t a).run P w' = .ok v w') → ∀ w', S w' → (execOp e.rho o).run P w' = .ok (.value v) w' := by
        intro S v hr w' hw'
        simp only [execOp, hop, hx, Sem.run_bind, loadAt_run, hr w' hw', Result.andThen_ok, Sem.run_pure]
      unfold ldT at h
      split at h
      · rename_i hu
        split at h
        · rename_i l hl'
          cases hs : sizeIs P t l.length with
          | false => rw [hs] at h; exact h.elim
          | true =>
            rw [hs] at h
            obtain ⟨vs, hlen, hc, hK⟩ := exScs_elim h
            exact ⟨_, _, hK, ⟨hc, hrun fun w' hw' => run_loadVar_agg (by simp [isAggB, hu]) (by rw [hlen]; exact hs) hw'⟩, fun w ob hw => cellsAt_alloc ob hw⟩
        · rename_i hn
          simp [isAggB, hu, hn] at hl
      · rename_i hu
        split at h
        · rename_i l hl'
          cases hs : sizeIs P t l.length with
          | false => rw [hs] at h; exact h.elim
          | true =>
            rw [hs] at h
            obtain ⟨vs, hlen, hc, hK⟩ := exScs_elim h
            exact ⟨_, _, hK, ⟨hc, hrun fun w' hw' => run_loadVar_agg (by simp [isAggB, hu]) (by rw [hlen]; exact hs) hw'⟩, fun w ob hw => cellsAt_alloc ob hw⟩
        · rename_i hn
          simp [isAggB, hu, hn] at hl
      · rename_i d hu hn1 hn2
        obtain ⟨v, hc, hK⟩ := exSc_elim h
        refine ⟨v, _, hK, ⟨hc, hrun fun w' hw' => run_loadVar_one hn2 ?_ hw'⟩, fun w ob hw => cell?_alloc ob hw⟩
        unfold isAggB
        rw [hn2]
        cases d <;> first | rfl | (exact absurd rfl (hu _)) | (exact absurd rfl (hn1 _ _))
      · exact h.elim
    · exact h.elim
  · cases hl
end

/-! ### 2. Bits -/
section
variable {ops : Array Oper}
theorem foldl_bits {α : Type} (f : α → Nat) (c : α → Bool) (i : Nat) : ∀ (l : List α) (m : Nat), (l.foldl (fun m e => bif c e then m ||| f e else m) m).testBit i = (m.testBit i || l.any fun e => c e && (f e).testBit i)
  | [], m => by simp
  | e :: r, m => by
    rw [List.foldl_cons, foldl_bits f c i r, List.any_cons]
    cases hc : c e
    · simp
    · simp [Nat.testBit_or, Bool.or_assoc]
theorem bit_shift (j i : Nat) : (1 <<< j).testBit i = decide (j = i) := by
  rw [Nat.one_shiftLeft, Nat.testBit_two_pow]
theorem needM_bit (o : Oper) (i : Nat) : (needM o).testBit i = true ↔ ∃ e ∈ o.after, Region.binds .any e = true ∧ e.on = i := by
  unfold needM
  rw [foldl_bits (fun e : Edge => 1 <<< e.on) (fun e => Region.binds .any e), Nat.zero_testBit, Bool.false_or, List.any_eq_true]
  constructor
  · rintro ⟨e, he, h⟩
    rw [bit_shift, Bool.and_eq_true, decide_eq_true_eq] at h
    exact ⟨e, Array.mem_toList_iff.1 he, h⟩
  · rintro ⟨e, he, h⟩
    exact ⟨e, Array.mem_toList_iff.2 he, by rw [bit_shift, Bool.and_eq_true, decide_eq_true_eq]; exact h⟩
theorem ancM_bit (acc : List Nat) (o : Oper) (i : Nat) (h : (ancM acc o).testBit i = true) : ∃ e ∈ o.after, Region.binds .any e = true ∧ (e.on = i ∨ (e.on < acc.length ∧ (acc.getD e.on 0).testBit i = true)) := by
  unfold ancM at h
  rw [foldl_bits (fun e : Edge => (1 <<< e.on) ||| (bif Nat.blt e.on acc.length then acc.getD e.on 0 else 0)) (fun e => Region.binds .any e)] at h
  simp only [Nat.zero_testBit, Bool.false_or, List.any_eq_true, Bool.and_eq_true] at h
  obtain ⟨e, he, hb, hbit⟩ := h
  refine ⟨e, Array.mem_toList_iff.1 he, hb, ?_⟩
  rw [Nat.testBit_or, Bool.or_eq_true, bit_shift, decide_eq_true_eq] at hbit
  rcases hbit with hbit | hbit
  · exact .inl hbit
  · cases hlt : Nat.blt e.on acc.length with
    | false => rw [hlt] at hbit; simp at hbit
    | true => rw [hlt] at hbit; exact .inr ⟨by simpa [Nat.blt_eq] using hlt, hbit⟩
theorem ancF_get : ∀ (l : List Oper) (acc : List Nat) (i : Nat), i < acc.length → (ancF acc l).getD i 0 = acc.getD i 0
  | [], _, _, _ => rfl
  | o :: r, acc, i, h => by
    unfold ancF
    rw [ancF_get r _ i (by simp; omega)]
    simp only [List.getD_eq_getElem?_getD]
    rw [List.getElem?_append_left h]
theorem ancF_ok : ∀ (l : List Oper) (acc : List Nat) (pre : List Oper), pre.length = acc.length → ops.toList = pre ++ l →
    (∀ d i, d < acc.length → (acc.getD d 0).testBit i = true → ∃ o, ops[d]? = some o ∧ ∃ e ∈ o.after, Region.binds .any e = true ∧ (e.on = i ∨ (e.on < d ∧ (acc.getD e.on 0).testBit i = true))) →
    (ancF acc l).length = ops.size ∧ ∀ d i, ((ancF acc l).getD d 0).testBit i = true → ∃ o, ops[d]? = some o ∧ ∃ e ∈ o.after, Region.binds .any e = true ∧ (e.on = i ∨ (e.on < d ∧ ((ancF acc l).getD e.on 0).testBit i = true))
  | [], acc, pre, hl, ho, h => by
    refine ⟨by rw [ancF, ← hl, ← Array.length_toList, ho]; simp, fun d i hb => ?_⟩
    by_cases hd : d < acc.length
    · exact h d i hd hb
    · simp [ancF, List.getD_eq_getElem?_getD, List.getElem?_eq_none (show acc.length ≤ d by omega)] at hb
  | o :: r, acc, pre, hl, ho, h => by
    unfold ancF
    refine ancF_ok r _ (pre ++ [o]) (by simp [hl]) (by simp [ho]) (fun d i hd hb => ?_)
    by_cases hlt : d < acc.length
    · have e1 : (acc ++ [ancM acc o]).getD d 0 = acc.getD d 0 := by
        simp only [List.getD_eq_getElem?_getD]; rw [List.getElem?_append_left hlt]
      rw [e1] at hb
      obtain ⟨o', ho', e, he, hbind, h'⟩ := h d i hlt hb
      refine ⟨o', ho', e, he, hbind, h'.imp id (fun ⟨h1, h2⟩ => ⟨h1, ?_⟩)⟩
      simp only [List.getD_eq_getElem?_getD] at h2 ⊢
      rw [List.getElem?_append_left (by omega)]; exact h2
    · have hd' : d = acc.length := by simp at hd; omega
      subst hd'
      have e1 : (acc ++ [ancM acc o]).getD acc.length 0 = ancM acc o := by simp [List.getD_eq_getElem?_getD]
      rw [e1] at hb
      obtain ⟨e, he, hbind, h'⟩ := ancM_bit acc o i hb
      refine ⟨o, ?_, e, he, hbind, h'.imp id (fun ⟨h1, h2⟩ => ⟨h1, ?_⟩)⟩
      · rw [← Array.getElem?_toList, ho, List.getElem?_append_right (by omega), hl]; simp
      · simp only [List.getD_eq_getElem?_getD] at h2 ⊢
        rw [List.getElem?_append_left h1]; exact h2
theorem anc_ok (ops : Array Oper) : AncOK ops (ancF [] ops.toList) :=
  (ancF_ok (ops := ops) ops.toList [] [] rfl rfl (fun d i hd => absurd hd (by simp))).2
/-- What has come up, as bits. -/
def Agree (ops : Array Oper) (M : Nat) (listed : Array Bool) : Prop := listed.size = ops.size ∧ ∀ j, listed.getD j false = M.testBit j
theorem Agree.set {M : Nat} {listed : Array Bool} {i : Nat} (h : Agree ops M listed) (hi : i < ops.size) : Agree ops (M ||| (1 <<< i)) (listed.setIfInBounds i true) := by
  refine ⟨by simp [h.1], fun j => ?_⟩
  rw [Nat.testBit_or, bit_shift, ← h.2 j]
  by_cases hij : i = j
  · subst hij
    simp [h.1, hi]
  · rw [getD_set_ne false hij]; simp [hij]
theorem rdy_mem {M : Nat} : ∀ (l : List Nat) (k j : Nat), j ∈ rdy M k l ↔ ∃ m, k ≤ j ∧ l[j - k]? = some m ∧ M.testBit j = false ∧ m &&& M = m
  | [], k, j => by simp [rdy]
  | m :: r, k, j => by
    have ih := rdy_mem (M := M) r (k + 1) j
    have key : (∃ m', k ≤ j ∧ (m :: r)[j - k]? = some m' ∧ M.testBit j = false ∧ m' &&& M = m') ↔ (j = k ∧ M.testBit k = false ∧ m &&& M = m) ∨ (∃ m', k + 1 ≤ j ∧ r[j - (k + 1)]? = some m' ∧ M.testBit j = false ∧ m' &&& M = m') := by
      constructor
      · rintro ⟨m', h1, h2, h3, h4⟩
        rcases Nat.lt_or_ge k j with h5 | h5
        · refine .inr ⟨m', h5, ?_, h3, h4⟩
          rw [show j - k = (j - (k + 1)) + 1 from by omega, List.getElem?_cons_succ] at h2
          exact h2
        · have : j = k := by omega
          subst this
          rw [Nat.sub_self, List.getElem?_cons_zero] at h2
          obtain rfl := Option.some.inj h2
          exact .inl ⟨rfl, h3, h4⟩
      · rintro (⟨rfl, h3, h4⟩ | ⟨m', h1, h2, h3, h4⟩)
        · exact ⟨m, Nat.le_refl _, by rw [Nat.sub_self, List.getElem?_cons_zero], h3, h4⟩
        · refine ⟨m', by omega, ?_, h3, h4⟩
          rw [show j - k = (j - (k + 1)) + 1 from by omega, List.getElem?_cons_succ]
          exact h2
    rw [key]
    unfold rdy
    cases hb : (!M.testBit k && Nat.beq (m &&& M) m) with
    | true =>
      rw [cond_true, List.mem_cons, ih]
      simp only [Bool.and_eq_true, Bool.not_eq_true', Nat.beq_eq] at hb
      simp [hb.1, hb.2]
    | false =>
      rw [cond_false, ih]
      constructor
      · exact .inr
      · rintro (⟨rfl, h3, h4⟩ | h)
        · simp [h3, h4] at hb
        · exact h
theorem ready_iff {M : Nat} {listed : Array Bool} (h : Agree ops M listed) (j : Nat) : j ∈ Region.ready .any ops listed ↔ j ∈ rdy M 0 (ops.toList.map needM) := by
  rw [mem_ready, rdy_mem]
  simp only [Nat.zero_le, true_and, Nat.sub_zero, List.getElem?_map, Array.getElem?_toList]
  constructor
  · rintro ⟨h1, o, ho, hall⟩
    have hj : j < ops.size := (Array.getElem?_eq_some_iff.1 ho).1
    refine ⟨needM o, by rw [ho]; rfl, ?_, ?_⟩
    · rw [← h.2 j]
      simpa [h.1, hj] using h1
    · apply Nat.eq_of_testBit_eq
      intro t
      rw [Nat.testBit_and]
      cases hb : (needM o).testBit t with
      | false => rfl
      | true =>
        obtain ⟨e, he, hbind, rfl⟩ := (needM_bit o t).1 hb
        rw [← h.2 e.on, hall e he hbind]; rfl
  · rintro ⟨m, h1, h2, h3⟩
    obtain ⟨o, ho, rfl⟩ := Option.map_eq_some_iff.1 h1
    have hj : j < ops.size := (Array.getElem?_eq_some_iff.1 ho).1
    refine ⟨?_, o, ho, fun e he hbind => ?_⟩
    · rw [← h.2 j] at h2
      simpa [h.1, hj] using h2
    · rw [h.2 e.on]
      have hb : (needM o).testBit e.on = true := (needM_bit o e.on).2 ⟨e, he, hbind, rfl⟩
      rw [← h3, Nat.testBit_and] at hb
      simp only [Bool.and_eq_true] at hb
      exact hb.2
theorem freeB_spec {M i : Nat} {oi : Oper} : ∀ (l : List Oper) (k : Nat), freeB ops i oi M k l (l.map needM) = true → ∀ j oj, k ≤ j → l[j - k]? = some oj → j ≠ i → M.testBit j = false →
    (∀ e ∈ oj.after, Region.binds .any e = true → e.on ≠ i) → oi.apart ops oj = true
  | [], k, _, j, oj, _, h, _, _, _ => by simp at h
  | o :: r, k, hb, j, oj, hk, h, hji, hM, hno => by
    rw [List.map_cons] at hb
    unfold freeB at hb
    simp only [Bool.and_eq_true] at hb
    obtain ⟨h0, h1⟩ := hb
    rcases Nat.lt_or_ge k j with h5 | h5
    · refine freeB_spec r (k + 1) h1 j oj h5 ?_ hji hM hno
      rw [show j - k = (j - (k + 1)) + 1 from by omega, List.getElem?_cons_succ] at h
      exact h
    · have : j = k := by omega
      subst this
      rw [Nat.sub_self, List.getElem?_cons_zero] at h
      obtain rfl := Option.some.inj h
      simp only [Bool.or_eq_true] at h0
      rcases h0 with ((h0 | h0) | h0) | h0
      · rw [hM] at h0; cases h0
      · exact absurd (Nat.eq_of_beq_eq_true h0) hji
      · obtain ⟨e, he, hbind, rfl⟩ := (needM_bit o i).1 h0
        exact absurd rfl (hno e he hbind)
      · exact h0
end
end Go.Proofs.YthfcnkeclcphpaaDoor
