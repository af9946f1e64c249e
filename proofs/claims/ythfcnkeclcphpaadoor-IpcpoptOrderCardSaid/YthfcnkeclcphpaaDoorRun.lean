/- The evaluator of control, and its soundness. -/
import Derived.Test.YthfcnkeclcphpaaDoorRegion
set_option linter.unusedVariables false
set_option linter.unusedSimpArgs false
namespace Go.Proofs.YthfcnkeclcphpaaDoor
open Go

section
variable {P : Program} {os : List Oper} {ops : Array Oper} {e : Env} {o : Oper} {w : World} {Rp : List PanicEntry → World → Prop} {N : Nat} {a : Act} {Q : Exit → Act → World → Prop}
theorem upon_value_of {s : Sem Value} {v : Value} {w' : World} {K : Act → World → Prop} (hs : execOp a.eval o = (do pure (.value (← s)))) (hr : s.run P w = .ok v w') (hK : K (a.put o.dst v) w') : o.wp P a w K Q := by
  unfold Oper.wp
  rw [hs]
  simp only [Sem.run_bind, Sem.run_pure]
  rw [hr]
  exact hK
theorem upon_unit_of {s : Sem Unit} {w' : World} {K : Act → World → Prop} (hs : execOp a.eval o = (do s; pure .skip)) (hr : s.run P w = .ok () w') (hK : K (a.put o.dst undef) w') : o.wp P a w K Q := by
  unfold Oper.wp
  rw [hs]
  simp only [Sem.run_bind, Sem.run_pure]
  rw [hr]
  exact hK
theorem quiet_wp {K : Act → World → Prop} {v : Value} (hx : execOp a.eval o = execOp e.rho o) (hr : (execOp e.rho o).run P w = .ok (.value v) w) (hK : K (a.put o.dst v) w) : o.wp P a w K Q := by
  unfold Oper.wp
  rw [hx, hr]
  exact hK
theorem prW_wp {s : Sem Value} {T : List Sh} {K : EK} (hs : execOp a.eval o = (do pure (.value (← s)))) (h : prW P s T w K) : o.wp P a w (fun a' w' => ∃ v, a' = a.put o.dst v ∧ K v w') Q := by
  obtain ⟨v, w', hr, hK⟩ := exR_elim h
  exact upon_value_of hs hr ⟨v, rfl, hK⟩
theorem prU_wp {s : Sem Unit} {K : EK} (hs : execOp a.eval o = (do s; pure .skip)) (h : prU P s w (K undef)) : o.wp P a w (fun a' w' => ∃ v, a' = a.put o.dst v ∧ K v w') Q := by
  obtain ⟨w', hr, hK⟩ := h
  exact upon_unit_of hs hr ⟨undef, rfl, hK⟩
theorem callW_wp {f : FuncId} {args : Array Value} {T : List Sh} {K : EK} (hs : (execOp a.eval o).run P w = .ok (.enter f args) w) (h : callW P f args T w K Rp) (hp : ∀ ch w', Rp ch w' → Q (.panic ch) a w') :
    o.wp P a w (fun a' w' => ∃ v, a' = a.put o.dst v ∧ K v w') Q := by
  unfold Oper.wp
  rw [hs]
  refine Calls.mono h fun en w' he => ?_
  rcases he with he | ⟨ch, rfl, he⟩
  · obtain ⟨v, rfl, hK⟩ := exR_elim he
    exact ⟨v, rfl, hK⟩
  · exact hp ch w' he
theorem nextW_wp {s : Sem Value} {T : List Sh} {K : EK} (hs : execOp a.eval o = (do pure (.value (← s)))) (h : nextW P s T w K) : o.wp P a w (fun a' w' => ∃ v, a' = a.put o.dst v ∧ K v w') Q := by
  rcases h with ⟨w', hr, hK⟩ | h
  · exact upon_value_of hs hr ⟨_, rfl, hK⟩
  · obtain ⟨vs, w', hr, hK⟩ := exSs_elim h
    exact upon_value_of hs hr ⟨_, rfl, hK⟩
theorem effOp_sound {K : EK} (hf : Fits N e a) (hk : known e o = true) (hsel : noSel o = true) (h : effOp P os e o w K Rp)
    (hp : ∀ ch w', Rp ch w' → Q (.panic ch) a w') : o.wp P a w (fun a' w' => ∃ v, a' = a.put o.dst v ∧ K v w') Q := by
  have hx := known_congr hf hk hsel
  unfold effOp at h
  split at h
  all_goals (rename_i hop)
  all_goals (first | (refine prU_wp ?_ h; rw [hx]; simp only [execOp, hop]; done) | (refine prW_wp ?_ h; rw [hx]; simp only [execOp, hop]; done) | (refine nextW_wp ?_ h; rw [hx]; simp only [execOp, hop]; done) | skip)
  · -- panic
    split at h
    · rename_i t v hv
      unfold Oper.wp
      rw [hx]
      simp only [execOp, hop, hv, Instr.panic, Sem.run_bind, run_goPanic, Result.andThen_halt]
      exact hp _ _ h
    · exact h.elim
  · -- call
    split at h
    · rename_i hc
      refine prW_wp ?_ h; rw [hx]; simp only [execOp, hop, resolve, hc, pure_bind]; rfl
    · rename_i hc
      refine prW_wp ?_ h; rw [hx]; simp only [execOp, hop, resolve, hc, pure_bind]; rfl
    · rename_i hc
      refine prW_wp ?_ h; rw [hx]; simp only [execOp, hop, resolve, hc, pure_bind]; rfl
    · rename_i hc
      refine prW_wp ?_ h; rw [hx]; simp only [execOp, hop, resolve, hc, pure_bind]; rfl
    · exact h.elim
    · rename_i c t hc
      obtain ⟨f, x, y, hv, he, h⟩ := h
      refine callW_wp ?_ h hp
      rw [hx]
      simp only [execOp, hop, resolve, hc, hv, Deferred.ofValue, Sem.run_bind, Sem.run_pure, Result.andThen_ok, invoke, he]
    · split at h
      · rename_i f args hv
        exact callW_wp (by rw [hx]; exact pureVal_run hv w) h hp
      · exact h.elim
  · exact h.elim
end

/-! ### Lists -/
section
variable {P : Program} {N : Nat} {K : Env → World → Prop} {Rp : List PanicEntry → World → Prop} {Q : Exit → Act → World → Prop}
theorem getD_of_some {a : Act} {t : Nat} {v : Value} (h : a.tmps.getD t undef = v) (hN : t < a.tmps.size) : a.tmps[t]? = some v := by
  rw [Array.getElem?_eq_getElem hN]
  simpa [hN] using h
theorem guardW_sound {os : List Oper} {o : Oper} {e : Env} {X Y : Env → Prop} {a : Act} {ops : Array Oper} (hos : ops.toList = os) (hf : Fits N e a) (h : guardW os o e X Y) :
    (∃ e', Fits N e' a ∧ Region.wanted o (yielded ops a.tmps) = true ∧ X e') ∨ (∃ e', Fits N e' a ∧ Region.wanted o (yielded ops a.tmps) = false ∧ Y e') := by
  unfold guardW at h
  split at h
  · rename_i hg
    exact .inl ⟨e, hf, by simp [Region.wanted, hg], h⟩
  · rename_i j want hg
    split at h
    · rename_i t ht
      split at h
      · rename_i b hb
        obtain ⟨h1, h2⟩ := hf.slots t _ hb
        have hy : yielded ops a.tmps j = some b := by
          have hj : (ops[j]?).bind (·.dst) = some t := by rw [← hos] at ht; simpa using ht
          unfold yielded
          rw [hj]
          simp only [Option.bind_some]
          rw [getD_of_some h1 (by rw [hf.size]; exact h2)]
        have hf' : ∀ c, c = b → Fits N ((t, .bool c) :: e) a := fun c hc => ⟨hf.size, hf.defers, fun s v hs => by
          rw [Env.get_cons] at hs
          split at hs
          · rename_i hts; subst hts; obtain rfl := Option.some.inj hs; subst hc; exact ⟨h1, h2⟩
          · exact hf.slots s v hs⟩
        have hw : Region.wanted o (yielded ops a.tmps) = (b == want) := by
          unfold Region.wanted
          rw [hg]
          simp only [hy]
          cases b <;> cases want <;> rfl
        rw [hw]
        cases b <;> cases want
        · exact .inl ⟨_, hf' _ rfl, rfl, h⟩
        · exact .inr ⟨_, hf' _ rfl, rfl, h⟩
        · exact .inr ⟨_, hf' _ rfl, rfl, h⟩
        · exact .inl ⟨_, hf' _ rfl, rfl, h⟩
      · rename_i vs hb
        obtain ⟨h1, h2⟩ := hf.slots t _ hb
        have hy : yielded ops a.tmps j = none := by
          have hj : (ops[j]?).bind (·.dst) = some t := by rw [← hos] at ht; simpa using ht
          unfold yielded
          rw [hj]
          simp only [Option.bind_some]
          rw [getD_of_some h1 (by rw [hf.size]; exact h2)]
        refine .inr ⟨e, hf, ?_, h⟩
        unfold Region.wanted
        rw [hg]
        simp only [hy]
        rfl
      · exact h.elim
    · exact h.elim
theorem okDst_spec {o : Oper} (h : okDst N o = true) : ∀ t, o.dst = some t → t < N := by
  intro t ht
  unfold okDst at h
  rw [ht] at h
  exact of_decide_eq_true (by simpa [Nat.blt_eq] using h)
theorem bif_elim {b : Bool} {φ : Prop} (h : bif b then φ else False) : b = true ∧ φ := by
  cases b
  · exact h.elim
  · exact ⟨rfl, h⟩
theorem sq_sound {os : List Oper} {ops : Array Oper} (hos : ops.toList = os) (hp : ∀ ch w, Rp ch w → ∀ a, a.defers = [] → Q (.panic ch) a w)
    (hK : ∀ e w, K e w → ∀ a, Fits N e a → Q .normal a w) : ∀ (l : List Oper) (e : Env) (w : World), sq P N os K Rp l e w → ∀ a, Fits N e a → wpList P ops Q l a w
  | [], e, w, h, a, hf => hK e w h a hf
  | o :: r, e, w, h, a, hf => by
    have h : guardW os o e _ _ := h
    unfold wpList
    rcases guardW_sound hos hf h with ⟨e', hf', hw, h⟩ | ⟨e', hf', hw, h⟩
    · rw [if_pos hw]
      obtain ⟨hb, h⟩ := bif_elim h
      simp only [Bool.and_eq_true] at hb
      obtain ⟨⟨hk, hs⟩, hd⟩ := hb
      refine .inl ?_
      cases hq : quietKind P o with
      | true =>
        rw [hq] at h
        obtain ⟨v, S, h, hg⟩ := quietOp_sound h
        have hrun : (execOp e'.rho o).run P w = .ok (.value v) w := by
          cases S with
          | none => exact hg w
          | some S => exact hg.2 w hg.1
        exact quiet_wp (known_congr hf' hk hs) hrun (sq_sound hos hp hK r _ w h _ (hf'.put v (okDst_spec hd)))
      | false =>
        rw [hq] at h
        simp only [cond_false] at h
        refine Oper.wp_mono ?_ (effOp_sound (Q := Q) hf' hk hs h (fun ch w' hr => hp ch w' hr a hf'.defers))
        rintro _ w' ⟨v, rfl, h⟩
        exact sq_sound hos hp hK r _ w' h _ (hf'.put v (okDst_spec hd))
    · rw [if_neg (by rw [hw]; simp)]
      obtain ⟨hb, h⟩ := bif_elim h
      simp only [Bool.and_eq_true] at hb
      exact sq_sound hos hp hK r _ w h _ (hf'.put _ (okDst_spec hb.1))
end
end Go.Proofs.YthfcnkeclcphpaaDoor
