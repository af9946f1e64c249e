/- What quietOp and effOp tell is so, by the kit's judgement of an operation. -/
import Derived.Test.YthfcnkeclcphpaaDoorOps
set_option linter.unusedVariables false
set_option linter.unusedSimpArgs false
namespace Go.Proofs.YthfcnkeclcphpaaDoor
open Go

def known (e : Env) (o : Oper) : Bool := o.op.operands.toList.all fun x => (e.ev x).isSome
def noSel (o : Oper) : Bool := match o.op with
  | .select _ _ => false
  | _ => true
theorem known_congr {N : Nat} {e : Env} {a : Act} {o : Oper} (h : Fits N e a) (hk : known e o = true) (hs : noSel o = true) : execOp a.eval o = execOp e.rho o := by
  refine execOp_congr o (fun cs b hb => by rw [noSel, hb] at hs; cases hs) (fun x hx => h.rho ?_)
  exact List.all_eq_true.1 hk x (Array.mem_toList_iff.2 hx)
/-- What an operation leaves, and in which worlds it does. -/
def Gives (P : Program) (e : Env) (o : Oper) (w : World) (v : Value) : Option (World → Prop) → Prop
  | none => ∀ w', (execOp e.rho o).run P w' = .ok (.value v) w'
  | some S => S w ∧ ∀ w', S w' → (execOp e.rho o).run P w' = .ok (.value v) w'

theorem pureQ_sound {P : Program} {e : Env} {o : Oper} {w : World} {K : QK} (h : pureQ P e o K) : ∃ v S, K v S ∧ Gives P e o w v S := by
  unfold pureQ at h
  split at h
  · rename_i v hv
    exact ⟨v, none, h, fun w' => pureVal_run hv w'⟩
  · exact h.elim

theorem nilck_elim {A : Option Addr} {K : Addr → Prop} (h : nilck A K) : ∃ a, A = some a ∧ K a := by
  unfold nilck at h
  split at h
  · exact ⟨_, rfl, h⟩
  · exact h.elim
theorem run_isAgg {P : Program} {t : TypeId} {d : TypeDesc} (h : P.underlying t = some d) (w : World) : (isAgg t).run P w = .ok (isAggB P t) w := by
  unfold isAgg isAggB
  simp only [Sem.run_bind, run_underlying h, Result.andThen_ok, h]
  cases d <;> rfl
theorem run_sizeOf_is {P : Program} {t : TypeId} {n : Nat} (h : sizeIs P t n = true) (w : World) : (sizeOf t).run P w = .ok n w := by
  unfold sizeIs at h
  split at h
  · rename_i i hi
    have := Nat.eq_of_beq_eq_true h
    subst this
    simp [sizeOf, typeInfo, run_program, hi]
  · cases h
theorem run_loadCellsFrom {P : Program} {w : World} {a : Addr} : ∀ (vs : List Value) (i : Nat) (acc : Array Value), cellsAt w a i vs →
    (loadCellsFrom a i vs.length acc).run P w = .ok (acc ++ vs.toArray) w
  | [], i, acc, _ => by simp [loadCellsFrom]
  | v :: r, i, acc, h => by
    have ih := run_loadCellsFrom (P := P) r (i + 1) (acc.push v) h.2
    simp only [List.length_cons, loadCellsFrom, Sem.run_bind, run_load, h.1, Result.andThen_ok, ih]
    simp
theorem run_loadVar_agg {P : Program} {w : World} {t : TypeId} {a : Addr} {vs : List Value} (hg : isAggB P t = true) (hs : sizeIs P t vs.length = true) (h : cellsAt w a 0 vs) :
    (loadVar t a).run P w = .ok (.agg vs.toArray) w := by
  unfold loadVar loadCells
  cases hu : P.underlying t with
  | none => simp [isAggB, hu] at hg
  | some d =>
    simp only [Sem.run_bind, run_isAgg hu, hg, Result.andThen_ok, if_true, run_sizeOf_is hs, run_loadCellsFrom vs 0 #[] h]
    simp
theorem run_loadVar_one {P : Program} {w : World} {t : TypeId} {a : Addr} {v : Value} {d : TypeDesc} (hu : P.underlying t = some d) (hd : isAggB P t = false)
    (h : w.cell? a = some v) : (loadVar t a).run P w = .ok v w := by
  unfold loadVar
  simp only [Sem.run_bind, run_isAgg hu, hd, Result.andThen_ok, Bool.false_eq_true, if_false, run_load, h]
theorem loadAt_run {P : Program} {w : World} {t : TypeId} {a : Addr} : (Instr.loadAt t (.pointer (some a))).run P w = (loadVar t a).run P w := by
  simp [Instr.loadAt, Instr.sureAddr]
theorem ldT_sound {P : Program} {t : TypeId} {a : Addr} {w : World} {K : QK} (h : ldT P t a w K) :
    ∃ v S, K v (some S) ∧ S w ∧ ∀ w', S w' → (loadVar t a).run P w' = .ok v w' := by
  unfold ldT at h
  split at h
  · rename_i hu
    split at h
    · rename_i l hl
      cases hs : sizeIs P t l.length with
      | false => rw [hs] at h; exact h.elim
      | true =>
        rw [hs] at h
        obtain ⟨vs, hlen, hc, hK⟩ := exScs_elim h
        exact ⟨_, _, hK, hc, fun w' hw' => run_loadVar_agg (by simp [isAggB, hu]) (by rw [hlen]; exact hs) hw'⟩
    · obtain ⟨cs, hr, hK⟩ := h
      exact ⟨_, _, hK, hr, fun w' hw' => hw'⟩
  · rename_i hu
    split at h
    · rename_i l hl
      cases hs : sizeIs P t l.length with
      | false => rw [hs] at h; exact h.elim
      | true =>
        rw [hs] at h
        obtain ⟨vs, hlen, hc, hK⟩ := exScs_elim h
        exact ⟨_, _, hK, hc, fun w' hw' => run_loadVar_agg (by simp [isAggB, hu]) (by rw [hlen]; exact hs) hw'⟩
    · obtain ⟨cs, hr, hK⟩ := h
      exact ⟨_, _, hK, hr, fun w' hw' => hw'⟩
  · rename_i d hu hn1 hn2
    obtain ⟨v, hc, hK⟩ := exSc_elim h
    refine ⟨v, _, hK, hc, fun w' hw' => run_loadVar_one hn2 ?_ hw'⟩
    unfold isAggB
    rw [hn2]
    cases d <;> first | rfl | (exact absurd rfl (hu _)) | (exact absurd rfl (hn1 _ _))
  · exact h.elim
theorem prQ_sound {P : Program} {e : Env} {o : Oper} {s : Sem Value} {T : List Sh} {w : World} {K : QK} (hs : execOp e.rho o = (do pure (.value (← s)))) (h : prQ P s T w K) :
    ∃ v S, K v S ∧ Gives P e o w v S := by
  obtain ⟨v, hr, hK⟩ := exR_elim h
  refine ⟨v, _, hK, hr, fun w' hw' => ?_⟩
  rw [hs]
  simp only [Sem.run_bind, Sem.run_pure]
  rw [hw']; rfl
theorem run_part_pure {P : Program} {t : TypeId} {cs : Array Value} {off : Nat} {v : Value} (h : pureVal P (part t cs off) = some v) (w : World) : (part t cs off).run P w = .ok v w := pureVal_run h w
theorem eqT_sound {P : Program} : ∀ (d : Nat) (n : Nat) (t : TypeId) (x y : Value) (b : Bool), d ≤ n → eqT P d t x y = some b → ∀ w, (Op.equalIn n t x y).run P w = .ok b w
  | 0, _, _, _, _, _, _, h, _ => by simp [eqT] at h
  | d + 1, 0, _, _, _, _, hn, _, _ => by omega
  | d + 1, n + 1, t, x, y, b, hn, h, w => by
    unfold eqT at h
    split at h
    · rename_i a b' hu
      obtain rfl := Option.some.inj h
      exact run_equalIn_bool w n t _ _ hu
    · rename_i k' k a k2 b' hu
      split at h
      · rename_i hk; subst hk
        obtain rfl := Option.some.inj h
        exact run_equalIn_int w n t _ _ _ _ hu
      · cases h
    · rename_i a b' hu
      obtain rfl := Option.some.inj h
      rw [run_equalIn_string w n t _ _ hu, beq_toListBytes]
    · rename_i fs xs ys hu
      split at h
      · cases h
      · rename_i hp
        have hf : P.fieldsOf t = fs := by simp [Program.fieldsOf, hu]
        rw [run_equalIn_struct w n t xs ys (by rw [hf]; exact hu) (by simpa using hp), hf]
        clear hu hf hp
        revert h b
        generalize fs.toList = l
        induction l with
        | nil => intro b h; obtain rfl := Option.some.inj h; rfl
        | cons f r ih =>
          intro b h
          simp only [List.foldr_cons] at h
          simp only [Op.eqFields]
          split at h
          · rename_i hne
            rw [if_pos hne]
            split at h
            · rename_i a b' q ha hb hq
              split at h
              · rename_i p hp
                obtain rfl := Option.some.inj h
                simp only [Sem.run_bind, run_part_pure ha, run_part_pure hb, Result.andThen_ok, eqT_sound d n f.type a b' p (by omega) hp w, Sem.run_ite, Sem.run_pure]
                cases p
                · simp
                · simpa using ih q hq
              · cases h
            · cases h
          · rename_i hne
            rw [if_neg hne]
            exact ih b h
    · cases h
theorem bnd_some {e : Env} {d : Nat} {x : Operand} {l : Int} (h : bnd e d (some x) = some l) : ∃ k, e.rho x = .int k l := by
  simp only [bnd] at h
  split at h
  · rename_i k m hx
    obtain rfl := Option.some.inj h
    exact ⟨k, hx⟩
  · cases h
theorem sliceBound_run {P : Program} {k : IntKind} {l : Int} {y : Nat} {code : BoundsCode} (h0 : 0 ≤ l) (h1 : l ≤ y) (w : World) : (Instr.sliceBound (.int k l) y code).run P w = .ok l.toNat w := by
  simp only [Instr.sliceBound, asIntOf, pure_bind, h0, h1, and_self, if_true, Sem.run_pure]
theorem sliceBounds_run {P : Program} {e : Env} {lo hi : Option Operand} {l h : Int} {n c : Nat} {isS : Bool} (hl : bnd e 0 lo = some l) (hh : bnd e n hi = some h) (hb : sbck l h c hi.isSome) (w : World) :
    (Instr.sliceBounds isS n c (lo.map e.rho) (hi.map e.rho) none).run P w = .ok (l.toNat, h.toNat, c) w := by
  obtain ⟨h0, h1, h2⟩ := hb
  unfold Instr.sliceBounds
  cases hi with
  | none =>
    simp only [bnd, Option.some.injEq] at hh
    subst hh
    cases lo with
    | none =>
      simp only [bnd, Option.some.injEq] at hl
      subst hl
      rfl
    | some x =>
      obtain ⟨k, hx⟩ := bnd_some hl
      simp only [Option.map_none, Option.map_some, hx, pure_bind, Sem.run_bind, sliceBound_run h0 h1, Result.andThen_ok, Sem.run_pure, Int.toNat_natCast]
  | some y =>
    obtain ⟨ky, hy⟩ := bnd_some hh
    have h3 : h ≤ (c : Int) := h2 rfl
    have h4 : (0 : Int) ≤ h := by omega
    cases lo with
    | none =>
      simp only [bnd, Option.some.injEq] at hl
      subst hl
      simp only [Option.map_none, Option.map_some, hy, pure_bind, Sem.run_bind, sliceBound_run h4 h3, Result.andThen_ok, Sem.run_pure]
      rfl
    | some x =>
      obtain ⟨k, hx⟩ := bnd_some hl
      have h5 : l ≤ (h.toNat : Int) := by omega
      simp only [Option.map_some, hx, hy, pure_bind, Sem.run_bind, sliceBound_run h4 h3, sliceBound_run h0 h5, Result.andThen_ok, Sem.run_pure]
theorem slcSize_run {P : Program} {t : TypeId} {s : Nat} (h : slcSize P t = some s) : ∃ e, P.underlying t = some (.slice e) ∧ ∀ w, (sizeOf e).run P w = .ok s w := by
  unfold slcSize at h
  split at h
  · rename_i e hu
    obtain ⟨i, hi, hs⟩ := Option.map_eq_some_iff.1 h
    exact ⟨e, hu, fun w => by simp [sizeOf, typeInfo, run_program, hi, hs]⟩
  · cases h
theorem arrSize_run {P : Program} {t : TypeId} {s : Nat} (h : arrSize P t = some s) : ∃ n e, P.underlying t = some (.array n e) ∧ lenOfArr P t = n ∧ ∀ w, (sizeOf e).run P w = .ok s w := by
  unfold arrSize at h
  split at h
  · rename_i n e hu
    obtain ⟨i, hi, hs⟩ := Option.map_eq_some_iff.1 h
    exact ⟨n, e, hu, by simp [lenOfArr, hu], fun w => by simp [sizeOf, typeInfo, run_program, hi, hs]⟩
  · cases h
theorem isStr_is {P : Program} {t : TypeId} (h : isStr P t = true) : P.underlying t = some .string := by
  unfold isStr at h
  split at h
  · assumption
  · cases h
theorem pickV_is (b : Bool) (x y : Value) : pickV b x y = if b = true then x else y := by
  unfold pickV
  split <;> cases b <;> rfl
theorem btAt_run {s : ByteArray} {i : Int} (h0 : 0 ≤ i) (h1 : i < s.size) : (if 0 ≤ i then s[i.toNat]? else none) = some (s[i.toNat]'(by omega)) ∧ ((s[i.toNat]'(by omega)).toNat : Int) = btAt s i := by
  have h2 : i.toNat < s.size := by omega
  refine ⟨by rw [if_pos h0]; exact getElem?_pos .., ?_⟩
  unfold btAt
  have h3 : i.toNat < s.data.toList.length := by rw [Array.length_toList]; exact h2
  rw [List.getD_eq_getElem?_getD, List.getElem?_eq_getElem h3]
  rfl
theorem isNilPtr_is {P : Program} {t : TypeId} {y : Operand} (h : isNilPtr P t y = true) : ∃ el, P.underlying t = some (.pointer el) ∧ y = .const (.pointer none) := by
  unfold isNilPtr at h
  split at h
  · rename_i el hu; exact ⟨el, hu, rfl⟩
  · cases h
theorem isNilSlc_is {P : Program} {t : TypeId} {y : Operand} (h : isNilSlc P t y = true) : ∃ el n c, P.underlying t = some (.slice el) ∧ y = .const (.slice none n c) := by
  unfold isNilSlc at h
  split at h
  · rename_i el n c hu; exact ⟨el, n, c, hu, rfl⟩
  · cases h
theorem run_equal_ptr {P : Program} {t el : TypeId} (hu : P.underlying t = some (.pointer el)) (A : Option Addr) (w : World) : (Op.equal t (.pointer A) (.pointer none)).run P w = .ok A.isNone w := by
  show (Op.equalIn (9999 + 1) t (.pointer A) (.pointer none)).run P w = _
  generalize 9999 = n
  cases A <;> simp [Op.equalIn, run_underlying hu]
theorem run_equal_slc {P : Program} {t el : TypeId} (hu : P.underlying t = some (.slice el)) (A : Option Addr) (n c n' c' : Nat) (w : World) : (Op.equal t (.slice A n c) (.slice none n' c')).run P w = .ok A.isNone w := by
  show (Op.equalIn (9999 + 1) t (.slice A n c) (.slice none n' c')).run P w = _
  generalize 9999 = m
  cases A <;> simp [Op.equalIn, run_underlying hu]
theorem run_eql_ptr {P : Program} {t el : TypeId} (hu : P.underlying t = some (.pointer el)) (A : Option Addr) (x y : Operand) (w : World) : (do eqGuard .eql t x y (.pointer A) (.pointer none); binOp .eql t (.pointer A) (.pointer none) : Sem Value).run P w = .ok (.bool A.isNone) w := by
  show (do pure (.bool (← Op.equal t (.pointer A) (.pointer none))) : Sem Value).run P w = _
  simp only [Sem.run_bind, run_equal_ptr hu, Result.andThen_ok, Sem.run_pure]
theorem run_neq_ptr {P : Program} {t el : TypeId} (hu : P.underlying t = some (.pointer el)) (A : Option Addr) (x y : Operand) (w : World) : (do eqGuard .neq t x y (.pointer A) (.pointer none); binOp .neq t (.pointer A) (.pointer none) : Sem Value).run P w = .ok (.bool (!A.isNone)) w := by
  show (do pure (.bool (!(← Op.equal t (.pointer A) (.pointer none)))) : Sem Value).run P w = _
  simp only [Sem.run_bind, run_equal_ptr hu, Result.andThen_ok, Sem.run_pure]
theorem run_eql_slc {P : Program} {t el : TypeId} (hu : P.underlying t = some (.slice el)) (A : Option Addr) (n c n' c' : Nat) (x y : Operand) (w : World) : (do eqGuard .eql t x y (.slice A n c) (.slice none n' c'); binOp .eql t (.slice A n c) (.slice none n' c') : Sem Value).run P w = .ok (.bool A.isNone) w := by
  show (do pure (.bool (← Op.equal t (.slice A n c) (.slice none n' c'))) : Sem Value).run P w = _
  simp only [Sem.run_bind, run_equal_slc hu, Result.andThen_ok, Sem.run_pure]
theorem run_neq_slc {P : Program} {t el : TypeId} (hu : P.underlying t = some (.slice el)) (A : Option Addr) (n c n' c' : Nat) (x y : Operand) (w : World) : (do eqGuard .neq t x y (.slice A n c) (.slice none n' c'); binOp .neq t (.slice A n c) (.slice none n' c') : Sem Value).run P w = .ok (.bool (!A.isNone)) w := by
  show (do pure (.bool (!(← Op.equal t (.slice A n c) (.slice none n' c')))) : Sem Value).run P w = _
  simp only [Sem.run_bind, run_equal_slc hu, Result.andThen_ok, Sem.run_pure]
theorem quiet_of_value {P : Program} {e : Env} {o : Oper} {s : Sem Value} {v : Value} (hs : execOp e.rho o = (do pure (.value (← s)))) (hr : ∀ w, s.run P w = .ok v w) : ∀ w, (execOp e.rho o).run P w = .ok (.value v) w := by
  intro w
  rw [hs]
  simp only [Sem.run_bind, hr, Result.andThen_ok, Sem.run_pure]
section
variable {P : Program} {os : List Oper} {e : Env} {o : Oper} {w : World} {K : QK}
theorem quietOp_sound (h : quietOp P os e o w K) : ∃ v S, K v S ∧ Gives P e o w v S := by
  unfold quietOp at h
  split at h
  case h_1 t x hop =>   -- load
    split at h
    · rename_i A hx
      obtain ⟨a, rfl, h⟩ := nilck_elim h
      obtain ⟨v, S, hK, hS, hr⟩ := ldT_sound h
      refine ⟨v, _, hK, hS, fun w' hw' => ?_⟩
      simp only [execOp, hop, hx, Sem.run_bind, loadAt_run, hr w' hw', Result.andThen_ok, Sem.run_pure]
    · exact h.elim
  case h_2 c x y hop =>   -- pick
    split at h
    · rename_i b hc
      refine ⟨_, none, h, fun w' => ?_⟩
      simp only [execOp, hop, hc, asBool, Sem.run_bind, Sem.run_pure, Result.andThen_ok, pickV_is]
    · exact h.elim
  case h_3 x hop =>   -- nilCheck
    split at h
    · rename_i A hx
      obtain ⟨a, rfl, h⟩ := nilck_elim h
      refine ⟨_, none, h, fun w' => ?_⟩
      simp only [execOp, hop, hx, Sem.run_pure]
    · exact pureQ_sound h
  case h_4 t x ix hop =>   -- indexAddr
    split at h
    · rename_i A n c k i hx hi
      split at h
      · rename_i s hs
        obtain ⟨⟨h0, h1⟩, h⟩ := h
        obtain ⟨a, rfl, h⟩ := nilck_elim h
        obtain ⟨el, hu, hsz⟩ := slcSize_run hs
        refine ⟨_, none, h, fun w' => ?_⟩
        simp only [execOp, hop, hx, hi, Instr.indexAt, asIntOf, Sem.run_bind, Sem.run_pure, Result.andThen_ok, run_underlying hu, h0, h1, and_self, if_true, hsz]
      · exact h.elim
    · rename_i A k i hx hi
      split at h
      · rename_i s hs
        obtain ⟨⟨h0, h1⟩, h⟩ := h
        obtain ⟨a, rfl, h⟩ := nilck_elim h
        obtain ⟨n, el, hu, hn, hsz⟩ := arrSize_run hs
        rw [hn] at h1
        refine ⟨_, none, h, fun w' => ?_⟩
        simp only [execOp, hop, hx, hi, Instr.indexAt, Instr.sureAddr, asIntOf, Sem.run_bind, Sem.run_pure, Result.andThen_ok, run_underlying hu, h0, h1, and_self, if_true, hsz]
      · exact h.elim
    · exact h.elim
  case h_5 t x ix hop =>   -- index
    split at h
    · rename_i s k i hx hi
      cases hst : isStr P t with
      | false => rw [hst] at h; exact h.elim
      | true =>
        rw [hst] at h
        obtain ⟨⟨h0, h1⟩, h⟩ := h
        have hu := isStr_is hst
        refine ⟨_, none, h, fun w' => ?_⟩
        obtain ⟨hb1, hb2⟩ := btAt_run h0 h1
        simp only [execOp, hop, hx, hi, Instr.index, asIntOf, Sem.run_bind, Sem.run_pure, Result.andThen_ok, run_underlying hu, hb1, hb2]
    · rename_i cs k i hx hi
      exact prQ_sound (by simp only [execOp, hop, hx, hi]) h
    · exact pureQ_sound h
  case h_6 t x lo hi hop =>   -- slice
    split at h
    · rename_i s hx
      split at h
      · rename_i l h' hl hh
        cases hst : isStr P t with
        | false => rw [hst] at h; exact h.elim
        | true =>
          rw [hst] at h
          obtain ⟨hb, h⟩ := h
          have hu := isStr_is hst
          refine ⟨_, none, h, fun w' => ?_⟩
          simp only [execOp, hop, hx, Instr.sliceAt, Instr.slice, Sem.run_bind, Sem.run_pure, Result.andThen_ok, run_underlying hu, Option.map_none, Option.isSome_none, Bool.false_eq_true, if_false,
            sliceBounds_run hl hh hb]
      · exact h.elim
    · rename_i A n c hx
      split at h
      · rename_i l h' s hl hh hs
        obtain ⟨hb, h⟩ := h
        obtain ⟨el, hu, hsz⟩ := slcSize_run hs
        refine ⟨_, none, h, fun w' => ?_⟩
        simp only [execOp, hop, hx, Instr.sliceAt, Instr.slice, Sem.run_bind, Sem.run_pure, Result.andThen_ok, run_underlying hu, Option.map_none, sliceBounds_run hl hh hb, hsz, slcA]
      · exact h.elim
    · rename_i A hx
      split at h
      · rename_i l h' s hl hh hs
        obtain ⟨hb, h⟩ := h
        obtain ⟨a, rfl, h⟩ := nilck_elim h
        obtain ⟨n, el, hu, hn, hsz⟩ := arrSize_run hs
        rw [hn] at hh hb h
        refine ⟨_, none, h, fun w' => ?_⟩
        simp only [execOp, hop, hx, Instr.sliceAt, Instr.sureAddr, Sem.run_bind, Sem.run_pure, Result.andThen_ok, run_underlying hu, Option.map_none, sliceBounds_run hl hh hb, hsz, slcA, Option.map_some]
        split <;> rfl
      · exact h.elim
    · exact h.elim
  case h_7 op t x y yt hop =>
    unfold binQ at h
    split at h
    · rename_i k a k' b hx hy
      cases hk : decide (k = k') with
      | false => rw [hk] at h; exact h.elim
      | true =>
        rw [hk] at h
        obtain ⟨hb, h⟩ := h
        have hkk : k = k' := of_decide_eq_true hk
        subst hkk
        refine ⟨_, none, h, fun w' => ?_⟩
        simp [execOp, hop, hx, hy, eqGuard, binOp, Op.intDiv, hb]
    · rename_i k a k' b hx hy
      cases hk : decide (k = k') with
      | false => rw [hk] at h; exact h.elim
      | true =>
        rw [hk] at h
        obtain ⟨hb, h⟩ := h
        have hkk : k = k' := of_decide_eq_true hk
        subst hkk
        refine ⟨_, none, h, fun w' => ?_⟩
        simp [execOp, hop, hx, hy, eqGuard, binOp, Op.intDiv, hb]
    · rename_i k a k' b hx hy
      obtain ⟨hb, h⟩ := h
      refine ⟨_, none, h, fun w' => ?_⟩
      have hb' : ¬ b < 0 := by omega
      simp [execOp, hop, hx, hy, eqGuard, binOp, Op.shift, hb']
    · rename_i k a k' b hx hy
      obtain ⟨hb, h⟩ := h
      refine ⟨_, none, h, fun w' => ?_⟩
      have hb' : ¬ b < 0 := by omega
      simp [execOp, hop, hx, hy, eqGuard, binOp, Op.shift, hb']
    · rename_i a b hx hy
      obtain ⟨hb, h⟩ := h
      refine ⟨_, none, h, fun w' => ?_⟩
      have hb' : ¬ ((a.size + b.size : Nat) : Int) > IntKind.i64.max := by
        have : IntKind.i64.max = 9223372036854775807 := rfl
        omega
      simp only [execOp, hop, hx, hy, eqGuard, binOp, Op.stringOp, Sem.run_bind, Sem.run_ite, Sem.run_pure, Result.andThen_ok, if_neg hb']
      rfl
    · rename_i a b hx hy
      refine ⟨_, none, h, fun w' => ?_⟩
      simp [execOp, hop, hx, hy, eqGuard, binOp, Op.stringOp, beq_toListBytes]
    · rename_i a b hx hy
      refine ⟨_, none, h, fun w' => ?_⟩
      simp [execOp, hop, hx, hy, eqGuard, binOp, Op.stringOp, beq_toListBytes]
    · rename_i xs ys hx hy
      cases hg : P.eqGuardType P.depth t with
      | true => rw [hg] at h; exact h.elim
      | false =>
        rw [hg] at h
        simp only [cond_false] at h
        split at h
        · rename_i b hb
          refine ⟨_, none, h, fun w' => ?_⟩
          simp only [execOp, hop, hx, hy, Sem.run_bind, run_eqGuard_agg w' _ t x y xs ys hg, Result.andThen_ok, run_eql_struct, eqT_sound 60 10000 t _ _ b (by omega) hb w', Sem.run_pure]
        · exact h.elim
    · rename_i xs ys hx hy
      cases hg : P.eqGuardType P.depth t with
      | true => rw [hg] at h; exact h.elim
      | false =>
        rw [hg] at h
        simp only [cond_false] at h
        split at h
        · rename_i b hb
          refine ⟨_, none, h, fun w' => ?_⟩
          simp only [execOp, hop, hx, hy, Sem.run_bind, run_eqGuard_agg w' _ t x y xs ys hg, Result.andThen_ok, run_neq_struct, eqT_sound 60 10000 t _ _ b (by omega) hb w', Sem.run_pure]
        · exact h.elim
    · rename_i A vy hx
      cases hn : isNilPtr P t y with
      | false => rw [hn] at h; exact pureQ_sound h
      | true =>
        rw [hn] at h
        obtain ⟨el, hu, hy⟩ := isNilPtr_is hn
        subst hy
        exact ⟨_, none, h, quiet_of_value (by simp only [execOp, hop, hx]; rfl) (run_eql_ptr hu _ _ _)⟩
    · rename_i A vy hx
      cases hn : isNilPtr P t y with
      | false => rw [hn] at h; exact pureQ_sound h
      | true =>
        rw [hn] at h
        obtain ⟨el, hu, hy⟩ := isNilPtr_is hn
        subst hy
        exact ⟨_, none, h, quiet_of_value (by simp only [execOp, hop, hx]; rfl) (run_neq_ptr hu _ _ _)⟩
    · rename_i A n c vy hx
      cases hn : isNilSlc P t y with
      | false => rw [hn] at h; exact pureQ_sound h
      | true =>
        rw [hn] at h
        obtain ⟨el, n', c', hu, hy⟩ := isNilSlc_is hn
        subst hy
        exact ⟨_, none, h, quiet_of_value (by simp only [execOp, hop, hx]; rfl) (run_eql_slc hu _ _ _ _ _ _ _)⟩
    · rename_i A n c vy hx
      cases hn : isNilSlc P t y with
      | false => rw [hn] at h; exact pureQ_sound h
      | true =>
        rw [hn] at h
        obtain ⟨el, n', c', hu, hy⟩ := isNilSlc_is hn
        subst hy
        exact ⟨_, none, h, quiet_of_value (by simp only [execOp, hop, hx]; rfl) (run_neq_slc hu _ _ _ _ _ _ _)⟩
    · exact pureQ_sound h
  case h_8 t m k ok hop => exact prQ_sound (by simp only [execOp, hop]) h
  case h_9 it hop => exact prQ_sound (by simp only [execOp, hop]) h
  case h_10 src dst x hop =>
    cases hs : fromSlice P src dst with
    | false => rw [hs] at h; exact pureQ_sound h
    | true => rw [hs] at h; exact prQ_sound (by simp only [execOp, hop]) h
  case h_11 c hop =>
    split at h
    · rename_i hc
      cases hs : lenMap P c.argTypes with
      | false => rw [hs] at h; exact pureQ_sound h
      | true => rw [hs] at h; exact prQ_sound (by simp only [execOp, hop, resolve, hc, pure_bind]; rfl) h
    · exact pureQ_sound h
  all_goals exact pureQ_sound h
end
end Go.Proofs.YthfcnkeclcphpaaDoor
