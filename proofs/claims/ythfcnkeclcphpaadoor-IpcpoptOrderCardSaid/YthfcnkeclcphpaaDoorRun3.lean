/- The soundness of 'rg'; the evaluator of control, and its soundness. -/
import Derived.Test.YthfcnkeclcphpaaDoorRun2
set_option linter.unusedVariables false
set_option linter.unusedSimpArgs false
namespace Go.Proofs.YthfcnkeclcphpaaDoor
open Go

section
variable {P : Program} {N : Nat} {K : Env → World → Prop} {Rp : List PanicEntry → World → Prop} {Q : Exit → Act → World → Prop} {ops : Array Oper}
theorem wpG_true {A : List Nat} {G : Gs} {i : Nat} : ∀ (fuel : Nat) (listed : Array Bool) (a : Act) (w : World), wpG P ops Q A G fuel listed a w → wpG P ops Q A ((fun _ => True, i) :: G) fuel listed a w
  | 0, _, _, _, h => h
  | fuel + 1, _, _, _, h => ⟨h.1, fun j hj => wpOp_mono (fun a' w' h' => ⟨fun g hg hb hs => by
      rcases List.mem_cons.1 hg with rfl | hg
      · trivial
      · exact h'.1 g hg hb hs, wpG_true fuel _ a' w' h'.2⟩) (h.2 j hj)⟩
def gsOf (pend : Pend) : Gs := pend.map fun p => (p.2.2, p.1)
def PendOK (pend : Pend) : Prop := ∀ p ∈ pend, p.2.1 = true → ∀ w ob, p.2.2 w → p.2.2 (w.alloc ob)
theorem obls_elim {A : List Nat} {d : Nat} {lays : Bool} {w w' : World} {φ : Prop} : ∀ {pend : Pend}, obls A d lays w w' φ pend →
    φ ∧ ∀ p ∈ pend, ((A.getD d 0).testBit p.1 || (lays && p.2.1)) = false → p.2.2 w → p.2.2 w'
  | [], h => ⟨h, fun p hp => by cases hp⟩
  | (i, ld, S) :: r, h => by
    unfold obls at h
    cases hb : ((A.getD d 0).testBit i || (lays && ld)) with
    | true =>
      rw [hb] at h
      obtain ⟨h1, h2⟩ := obls_elim (pend := r) h
      refine ⟨h1, fun p hp hq => ?_⟩
      rcases List.mem_cons.1 hp with rfl | hp
      · exact absurd (hb.symm.trans hq) (by simp)
      · exact h2 p hp hq
    | false =>
      rw [hb] at h
      obtain ⟨h0, h⟩ := h
      obtain ⟨h1, h2⟩ := obls_elim (pend := r) h
      refine ⟨h1, fun p hp hq => ?_⟩
      rcases List.mem_cons.1 hp with rfl | hp
      · exact h0
      · exact h2 p hp hq
theorem pickQ_spec {os : List Oper} {nd : List Nat} {M : Nat} : ∀ {rd : List Nat} {i : Nat}, pickQ P os ops nd M rd = some i → i ∈ rd ∧ ∃ o, os[i]? = some o ∧ quietKind P o = true ∧ freeB ops i o M 0 os nd = true
  | [], _, h => by simp [pickQ] at h
  | j :: r, i, h => by
    unfold pickQ at h
    split at h
    · rename_i o ho
      cases hb : (quietKind P o && freeB ops j o M 0 os nd) with
      | true =>
        rw [hb] at h
        obtain rfl := Option.some.inj h
        simp only [Bool.and_eq_true] at hb
        exact ⟨List.mem_cons_self, o, ho, hb.1, hb.2⟩
      | false =>
        rw [hb] at h
        obtain ⟨h1, h2⟩ := pickQ_spec (rd := r) h
        exact ⟨List.mem_cons_of_mem _ h1, h2⟩
    · cases h
theorem effOp_lays {os : List Oper} {e : Env} {o : Oper} {w : World} {a : Act} {K : EK} (hf : Fits N e a) (hk : known e o = true) (hsel : noSel o = true) (h : effOp P os e o w K Rp)
    (hp : ∀ ch w', Rp ch w' → Q (.panic ch) a w') : o.wp P a w (fun a' w' => (∃ v, a' = a.put o.dst v ∧ K v w') ∧ (laysOnly o = true → ∃ ob, w' = w.alloc ob)) Q := by
  have hx := known_congr hf hk hsel
  have h1 := effOp_sound (Q := Q) hf hk hsel h hp
  cases hl : laysOnly o with
  | false => exact Oper.wp_mono (fun a' w' h => ⟨h, fun h => by cases h⟩) h1
  | true =>
    unfold Oper.wp at h1 ⊢
    cases hr : (execOp a.eval o).run P w with
    | halt x w' =>
      rw [hr] at h1
      cases x <;> first | exact h1 | exact h1.elim
    | ok n w' =>
      rw [hr] at h1
      rw [hx] at hr
      obtain ⟨ob, rfl⟩ := lays_sem hl hr
      cases n with
      | value v => exact ⟨h1, fun _ => ⟨ob, rfl⟩⟩
      | skip => exact ⟨h1, fun _ => ⟨ob, rfl⟩⟩
      | enter f args =>
        exfalso
        unfold laysOnly at hl
        split at hl
        all_goals (first | cases hl | skip)
        all_goals
          rename_i hop
          simp only [execOp, hop] at hr
          obtain ⟨v, w1, h3, h4⟩ := run_bind_ok hr
          cases h4
      | row r args =>
        exfalso
        unfold laysOnly at hl
        split at hl
        all_goals (first | cases hl | skip)
        all_goals
          rename_i hop
          simp only [execOp, hop] at hr
          obtain ⟨v, w1, h3, h4⟩ := run_bind_ok hr
          cases h4
      | defer d =>
        exfalso
        unfold laysOnly at hl
        split at hl
        all_goals (first | cases hl | skip)
        all_goals
          rename_i hop
          simp only [execOp, hop] at hr
          obtain ⟨v, w1, h3, h4⟩ := run_bind_ok hr
          cases h4
      | _ => exact h1.elim
theorem rg_sound (hp : ∀ ch w, Rp ch w → ∀ a, a.defers = [] → Q (.panic ch) a w) (hQ : ∀ (d : Option Tmp) v c a w, Q (.panic c) (a.put d v) w → Q (.panic c) a w)
    (hK : ∀ e w, K e w → ∀ a, Fits N e a → Q .normal a w) (hsel : ops.toList.all noSel = true) :
    ∀ (n M : Nat) (pend : Pend) (e : Env) (w : World), rg P N ops.toList ops (ops.toList.map needM) (ancF [] ops.toList) K Rp n M pend e w →
      ∀ (a : Act) (listed : Array Bool), Fits N e a → Agree ops M listed → Closed ops listed → PendOK pend → wpG P ops Q (ancF [] ops.toList) (gsOf pend) n listed a w := by
  have hsel' : ∀ (j : Nat) (o : Oper) cs b, ops[j]? = some o → o.op ≠ .select cs b := fun j o cs b ho hop => by
    have h1 := List.all_eq_true.1 hsel o (by rw [← Array.getElem?_toList] at ho; exact List.mem_of_getElem? ho)
    unfold noSel at h1
    rw [hop] at h1
    cases h1
  have hA := anc_ok ops
  intro n
  induction n with
  | zero =>
    intro M pend e w h a listed hf hag hc hpo
    unfold rg at h
    split at h
    · rename_i hrd
      refine ⟨?_, hK _ _ h a hf⟩
      cases hr : Region.ready .any ops listed with
      | nil => rfl
      | cons j r =>
        have := (ready_iff hag j).1 (by rw [hr]; exact List.mem_cons_self)
        rw [hrd] at this
        cases this
    · exact h.elim
  | succ n ih =>
    intro M pend e w h a listed hf hag hc hpo
    unfold rg at h
    split at h
    · rename_i hrd
      have hnil : Region.ready .any ops listed = [] := by
        cases hr : Region.ready .any ops listed with
        | nil => rfl
        | cons j r =>
          have := (ready_iff hag j).1 (by rw [hr]; exact List.mem_cons_self)
          rw [hrd] at this
          cases this
      exact ⟨fun _ => hK _ _ h a hf, fun i hi => by rw [hnil] at hi; cases hi⟩
    · rename_i hrd
      split at h
      · rename_i i hpick
        obtain ⟨hmem, o, ho, hq, hfree⟩ := pickQ_spec hpick
        rw [ho] at h
        simp only at h
        have hoa : ops[i]? = some o := by rw [← Array.getElem?_toList]; exact ho
        have hi : i < ops.size := (Array.getElem?_eq_some_iff.1 hoa).1
        have hready : i ∈ Region.ready .any ops listed := (ready_iff hag i).2 hmem
        have hfr : ∀ j oj, ops[j]? = some oj → j ≠ i → listed.getD j true = false → (∀ e ∈ oj.after, Region.binds .any e = true → e.on ≠ i) → o.apart ops oj = true := fun j oj hj hji hun hno => by
          refine freeB_spec ops.toList 0 hfree j oj (Nat.zero_le _) (by rw [Nat.sub_zero, Array.getElem?_toList]; exact hj) hji ?_ hno
          rw [← hag.2 j]
          have hjs : j < ops.size := (Array.getElem?_eq_some_iff.1 hj).1
          simpa [hag.1, hjs] using hun
        rcases guardW_sound rfl hf h with ⟨e', hf', hw, h⟩ | ⟨e', hf', hw, h⟩
        · obtain ⟨hb, h⟩ := bif_elim h
          simp only [Bool.and_eq_true] at hb
          obtain ⟨⟨hk, hs⟩, hd⟩ := hb
          have hx := known_congr hf' hk hs
          cases hload : isLoad P o with
          | true =>
            obtain ⟨v, S, h, hg, hst⟩ := load_stable hload h
            have hy : YieldsIf P ops S o v a := .inl ⟨hw, fun w' hw' => by rw [hx]; exact hg.2 w' hw'⟩
            refine wpG_first hoa hsel' (hQ o.dst v) hA n listed a w hfr hc hready hy hg.1 ?_
            have h2 := ih _ _ _ _ h _ _ (hf'.put v (okDst_spec hd)) (hag.set hi) (hc.set hready) (by
              intro p hp
              simp only [addP, List.mem_cons] at hp
              rcases hp with rfl | hp
              · exact fun _ => hst
              · exact hpo p hp)
            exact h2
          | false =>
            obtain ⟨v, S, h, hg⟩ := quietOp_sound h
            cases S with
            | none =>
              have hy : YieldsIf P ops (fun _ => True) o v a := .inl ⟨hw, fun w' _ => by rw [hx]; exact hg w'⟩
              refine wpG_first hoa hsel' (hQ o.dst v) hA n listed a w hfr hc hready hy trivial (wpG_true _ _ _ _ ?_)
              exact ih _ _ _ _ h _ _ (hf'.put v (okDst_spec hd)) (hag.set hi) (hc.set hready) hpo
            | some S =>
              have hy : YieldsIf P ops S o v a := .inl ⟨hw, fun w' hw' => by rw [hx]; exact hg.2 w' hw'⟩
              refine wpG_first hoa hsel' (hQ o.dst v) hA n listed a w hfr hc hready hy hg.1 ?_
              have h2 := ih _ _ _ _ h _ _ (hf'.put v (okDst_spec hd)) (hag.set hi) (hc.set hready) (by
                intro p hp
                simp only [addP, List.mem_cons] at hp
                rcases hp with rfl | hp
                · intro hb; simp only at hb; rw [hload] at hb; cases hb
                · exact hpo p hp)
              exact h2
        · obtain ⟨hb, h⟩ := bif_elim h
          simp only [Bool.and_eq_true] at hb
          have hy : YieldsIf P ops (fun _ => True) o undef a := .inr ⟨hw, rfl⟩
          refine wpG_first hoa hsel' (hQ o.dst undef) hA n listed a w hfr hc hready hy trivial (wpG_true _ _ _ _ ?_)
          exact ih _ _ _ _ h _ _ (hf'.put _ (okDst_spec hb.1)) (hag.set hi) (hc.set hready) hpo
      · split at h
        · rename_i i hrd1
          split at h
          · rename_i o ho
            have hoa : ops[i]? = some o := by rw [← Array.getElem?_toList]; exact ho
            have hi : i < ops.size := (Array.getElem?_eq_some_iff.1 hoa).1
            have honly : ∀ j ∈ Region.ready .any ops listed, j = i := fun j hj => by
              have := (ready_iff hag j).1 hj
              rw [hrd1] at this
              simpa using this
            have hready : i ∈ Region.ready .any ops listed := (ready_iff hag i).2 (by rw [hrd1]; exact List.mem_cons_self)
            refine ⟨fun h0 => (by rw [h0] at hready; cases hready), fun j hj => ?_⟩
            obtain rfl := honly j hj
            unfold wpOp
            simp only [hoa]
            rcases guardW_sound rfl hf h with ⟨e', hf', hw, h⟩ | ⟨e', hf', hw, h⟩
            · rw [if_pos hw]
              obtain ⟨hb, h⟩ := bif_elim h
              simp only [Bool.and_eq_true] at hb
              obtain ⟨⟨hk, hs⟩, hd⟩ := hb
              refine .inl (Oper.wp_mono ?_ (effOp_lays (Q := Q) hf' hk hs h (fun ch w' hr => hp ch w' hr a hf'.defers)))
              rintro _ w' ⟨⟨v, rfl, h⟩, hlay⟩
              obtain ⟨h, hob⟩ := obls_elim h
              refine ⟨fun g hg hbit hgw => ?_, ih _ _ _ _ h _ _ (hf'.put v (okDst_spec hd)) (hag.set hi) (hc.set hready) hpo⟩
              obtain ⟨p, hpm, rfl⟩ := List.mem_map.1 hg
              cases hld : (laysOnly o && p.2.1) with
              | true =>
                simp only [Bool.and_eq_true] at hld
                obtain ⟨ob, rfl⟩ := hlay hld.1
                exact hpo p hpm hld.2 w ob hgw
              | false => exact hob p hpm (by rw [hld, hbit]; rfl) hgw
            · rw [if_neg (by rw [hw]; simp)]
              obtain ⟨hb, h⟩ := bif_elim h
              simp only [Bool.and_eq_true] at hb
              exact ⟨fun g _ _ hgw => hgw, ih _ _ _ _ h _ _ (hf'.put _ (okDst_spec hb.1)) (hag.set hi) (hc.set hready) hpo⟩
          · exact h.elim
        · exact h.elim
end

/-! ### Control -/
def retVals (P : Program) : List ResultVar → Env → World → (List Value → Prop) → Prop
  | [], _, _, K => K []
  | .tmp t :: r, e, w, K => match e.get t with
    | some v => retVals P r e w fun vs => K (v :: vs)
    | none => False
  | .cell a t :: r, e, w, K => match e.get a with
    | some (.pointer A) => nilck A fun ad => ldT P t ad w fun v _ => retVals P r e w fun vs => K (v :: vs)
    | _ => False
def packV : List Value → Value
  | [v] => v
  | l => .tuple l.toArray
def retW (P : Program) (fn : Func) (R : Ending → World → Prop) (e : Env) (w : World) : Prop := retVals P fn.results.toList e w fun vs => R (.returned (packV vs)) w
def regionW (P : Program) (fn : Func) (R : Ending → World → Prop) (ops : Array Oper) (draw : Bool) (e : Env) (w : World) (K : Env → World → Prop) : Prop :=
  bif draw then
    bif ops.toList.all noSel then rg P fn.ntmps ops.toList ops (ops.toList.map needM) (ancF [] ops.toList) K (fun ch w => R (.panicked ch) w) ops.toList.length 0 [] e w.drew else False
  else sq P fn.ntmps ops.toList K (fun ch w => R (.panicked ch) w) ops.toList e w
abbrev Stops := List (Nat × List Nat)
def stopAt : Stops → Nat → Option (List Nat)
  | [], _ => none
  | (r, m) :: l, id => bif Nat.beq r id then some m else stopAt l id
def go (P : Program) (fn : Func) (R : Ending → World → Prop) (st : Stops) : Nat → List Item → Env → World → Prop
  | 0, todo, e, w => SK P fn R todo e w
  | n + 1, todo, e, w => match todo with
    | [] => retW P fn R e w
    | .inBlock _ :: k | .inScope _ :: k => go P fn R st n k e w
    | .inLoop b :: k => go P fn R st n (.code b :: .inLoop b :: k) e w
    | .code (.region id ops draw) :: k => match stopAt st id with
      | some m => SK P fn R (.code (.region id ops draw) :: k) (e.mask m) w
      | none => regionW P fn R ops draw e w fun e w => go P fn R st n k e w
    | .code .skip :: k | .code (.label _) :: k => go P fn R st n k e w
    | .code (.seq a b) :: k => go P fn R st n (.code a :: .code b :: k) e w
    | .code (.cond c x y) :: k => match e.ev c with
      | some (.bool b) => bif b then go P fn R st n (.code x :: k) e w else go P fn R st n (.code y :: k) e w
      | _ => False
    | .code (.block id b) :: k => go P fn R st n (.code b :: .inBlock id :: k) e w
    | .code (.loop b) :: k => go P fn R st n (.code b :: .inLoop b :: k) e w
    | .code (.scope b) :: k => go P fn R st n (.code b :: .inScope b :: k) e w
    | .code (.exit id) :: k => match exitTo id k with
      | some k' => go P fn R st n k' e w
      | none => False
    | .code (.goto l) :: k => match gotoIn l k with
      | some k' => go P fn R st n k' e w
      | none => False
    | .code .ret :: _ => retW P fn R e w
    | _ => False
section
variable {P : Program} {fn : Func} {R : Ending → World → Prop}
def resOne (tmps : Array Value) : ResultVar → Sem Value
  | .tmp t => pure (tmps.getD t undef)
  | .cell a t => do loadVar t (← asAddr (tmps.getD a undef))
theorem results_is (fn : Func) (tmps : Array Value) : results fn tmps = (do let vs ← fn.results.mapM (resOne tmps); pure (if h : vs.size = 1 then vs[0] else .tuple vs)) := rfl
theorem retVals_fits {n : Nat} {e : Env} {w : World} : ∀ (rs : List ResultVar) (K : List Value → Prop), retVals P rs e w K →
    ∃ vs, K vs ∧ ∀ a, Fits n e a → (rs.mapM (resOne a.tmps)).run P w = .ok vs w
  | [], K, h => ⟨[], h, fun _ _ => rfl⟩
  | .tmp t :: r, K, h => by
    unfold retVals at h
    split at h
    · rename_i v hv
      obtain ⟨vs, hK, hr⟩ := retVals_fits (n := n) r _ h
      refine ⟨v :: vs, hK, fun a hf => ?_⟩
      simp only [List.mapM_cons, resOne, pure_bind, (hf.slots t v hv).1, Sem.run_bind, hr a hf, Result.andThen_ok, Sem.run_pure]
    · exact h.elim
  | .cell x t :: r, K, h => by
    unfold retVals at h
    split at h
    · rename_i A hA
      obtain ⟨ad, hAd, h1⟩ := nilck_elim h
      subst hAd
      obtain ⟨v, S, h2, hS, hl⟩ := ldT_sound h1
      obtain ⟨vs, hK, hr⟩ := retVals_fits (n := n) r _ h2
      refine ⟨v :: vs, hK, fun a hf => ?_⟩
      simp only [List.mapM_cons, resOne, (hf.slots x _ hA).1, Sem.run_bind, asAddr, Sem.run_pure, Result.andThen_ok, hl w hS, hr a hf]
    · exact h.elim
theorem retW_sound {e : Env} {w : World} (h : retW P fn R e w) : ∃ v, R (.returned v) w ∧ ∀ a, Fits fn.ntmps e a → (results fn a.tmps).run P w = .ok v w := by
  obtain ⟨vs, hR, hr⟩ := retVals_fits (n := fn.ntmps) _ _ h
  refine ⟨_, hR, fun a hf => ?_⟩
  rw [results_is, Array.mapM_eq_mapM_toList]
  simp only [Sem.run_bind, Sem.run_map, hr a hf, Result.andThen_ok, Sem.run_pure]
  congr 1
  match vs with
  | [] => rfl
  | [v] => rfl
  | v :: u :: r => rw [dif_neg (by simp)]; rfl
theorem regionW_sound {id : Nat} {ops : Array Oper} {draw : Bool} {e : Env} {w : World} {k : List Item} {K : Env → World → Prop} (hm : P.follows .mixedOrders = true)
    (h : regionW P fn R ops draw e w K) (hK : ∀ e w, K e w → SK P fn R k e w) : SK P fn R (.code (.region id ops draw) :: k) e w := by
  refine SK.region (fun a hf => ?_)
  cases draw with
  | true =>
    obtain ⟨hs, h⟩ := bif_elim h
    refine wp_region_any hm (wpAny_of_G (A := ancF [] ops.toList) (G := gsOf []) _ _ _ _ ?_)
    have h2 := rg_sound (Q := fun x a' w' => match x with
      | .normal => ∃ e', Fits fn.ntmps e' a' ∧ SK P fn R k e' w'
      | .panic ch => a'.defers = [] ∧ R (.panicked ch) w'
      | .outgrown => R .outgrown w'
      | _ => False) (fun ch w h a hd => ⟨hd, h⟩) (fun d v c a w h => ⟨by cases d <;> exact h.1, h.2⟩) (fun e w h a hf => ⟨e, hf, hK e w h⟩) hs _ _ _ _ _ h a (Array.replicate ops.size false) hf
      ⟨by simp, fun j => by simp only [Nat.zero_testBit, Array.getD_eq_getD_getElem?, Array.getElem?_replicate]; split <;> rfl⟩
      (fun j oj hj hl => by
        simp only [Array.getD_eq_getD_getElem?, Array.getElem?_replicate] at hl
        split at hl <;> cases hl) (fun p hp => by cases hp)
    rw [Array.length_toList] at h2
    exact h2
  | false =>
    refine wp_region_list (sq_sound rfl (fun ch w h a hd => ⟨hd, h⟩) (fun e w h a hf => ⟨e, hf, hK e w h⟩) _ _ _ h a hf)
theorem go_sound (hm : P.follows .mixedOrders = true) {st : Stops} : ∀ (n : Nat) (todo : List Item) (e : Env) (w : World), go P fn R st n todo e w → SK P fn R todo e w
  | 0, _, _, _, h => h
  | n + 1, todo, e, w, h => by
    have ih := go_sound hm (st := st) n
    unfold go at h
    split at h
    · obtain ⟨v, hR, hres⟩ := retW_sound h
      exact SK.end_of hres hR
    · exact SK.step1 (fun a b cs _ => step_inBlock) (ih _ _ _ h)
    · exact SK.step1 (fun a b cs _ => step_inScope) (ih _ _ _ h)
    · exact SK.step1 (fun a b cs _ => step_inLoop) (ih _ _ _ h)
    · split at h
      · exact SK.forget (Env.mask_get _ _) h
      · exact regionW_sound hm h (fun e w h => ih _ _ _ h)
    · exact SK.step1 (fun a b cs _ => step_skip) (ih _ _ _ h)
    · exact SK.step1 (fun a b cs _ => step_label) (ih _ _ _ h)
    · exact SK.step1 (fun a b cs _ => step_seq) (ih _ _ _ h)
    · split at h
      · rename_i b hb
        refine SK.step1 (fun a b cs hf => step_cond (hf.ev hb)) ?_
        cases b
        · exact ih _ _ _ h
        · exact ih _ _ _ h
      · exact h.elim
    · exact SK.step1 (fun a b cs _ => step_block) (ih _ _ _ h)
    · exact SK.step1 (fun a b cs _ => step_loop) (ih _ _ _ h)
    · exact SK.step1 (fun a b cs _ => step_scope) (ih _ _ _ h)
    · split at h
      · rename_i k' hk'
        exact SK.step1 (fun a b cs _ => step_exit hk') (ih _ _ _ h)
      · exact h.elim
    · split at h
      · rename_i k' hk'
        exact SK.step1 (fun a b cs _ => step_goto hk') (ih _ _ _ h)
      · exact h.elim
    · obtain ⟨v, hR, hres⟩ := retW_sound h
      exact SK.ret_of hres hR
    · exact h.elim
/-- Where region r stands: it, and what comes behind it. -/
def findR (r : Nat) : Code → List Item → Option (List Item)
  | .region id ops d, k => bif Nat.beq id r then some (.code (.region id ops d) :: k) else none
  | .seq a b, k => match findR r a (.code b :: k) with
    | some l => some l
    | none => findR r b k
  | .cond _ x y, k => match findR r x k with
    | some l => some l
    | none => findR r y k
  | .block id b, k => findR r b (.inBlock id :: k)
  | .loop b, k => findR r b (.inLoop b :: k)
  | .scope b, k => findR r b (.inScope b :: k)
  | _, _ => none
def cfg (fn : Func) (r : Nat) : List Item := match fn.body with
  | some c => (findR r c []).getD []
  | none => []
def pieceF (P : Program) (fn : Func) (R : Ending → World → Prop) (st : Stops) (n : Nat) (todo : List Item) (e : Env) (w : World) : Prop := match todo with
  | .code (.region _ ops draw) :: k => regionW P fn R ops draw e w fun e w => go P fn R st n k e w
  | _ => False
theorem piece_sound (hm : P.follows .mixedOrders = true) {st : Stops} {n : Nat} {todo : List Item} {e : Env} {w : World} (h : pieceF P fn R st n todo e w) : SK P fn R todo e w := by
  unfold pieceF at h
  split at h
  · exact regionW_sound hm h (fun e w h => go_sound hm _ _ _ _ h)
  · exact h.elim
def envOf : List Value → Nat → Env
  | [], _ => []
  | v :: r, i => (i, v) :: envOf r (i + 1)
theorem envOf_get : ∀ (l : List Value) (i t : Nat) (v : Value), (envOf l i).get t = some v → i ≤ t ∧ l[t - i]? = some v
  | [], i, t, v, h => by simp [envOf, Env.get] at h
  | u :: r, i, t, v, h => by
    rw [envOf, Env.get_cons] at h
    split at h
    · rename_i hit
      subst hit
      exact ⟨Nat.le_refl _, by rw [Nat.sub_self, List.getElem?_cons_zero]; exact h⟩
    · rename_i hit
      obtain ⟨h1, h2⟩ := envOf_get r (i + 1) t v h
      refine ⟨by omega, ?_⟩
      rw [show t - i = (t - (i + 1)) + 1 from by omega, List.getElem?_cons_succ]
      exact h2
def mainF (P : Program) (fn : Func) (R : Ending → World → Prop) (st : Stops) (n : Nat) (args : List Value) (w : World) : Prop := match fn.body with
  | some c => bif Nat.ble args.length fn.ntmps then go P fn R st n [.code c] (envOf args 0) w else False
  | none => False
theorem main_sound {f : FuncId} (hf : P.funcs[f]? = some fn) (hm : P.follows .mixedOrders = true) {st : Stops} {n : Nat} {args : List Value} {w : World} (h : mainF P fn R st n args w) : Calls P f args.toArray w R := by
  unfold mainF at h
  split at h
  · rename_i c hb
    obtain ⟨hn, h⟩ := bif_elim h
    refine SK.calls hf hb (by simpa using Nat.le_of_ble_eq_true hn) (fun t v ht => ?_) (go_sound hm _ _ _ _ h)
    obtain ⟨_, h2⟩ := envOf_get args 0 t v ht
    simpa using h2
  · exact h.elim
end
end Go.Proofs.YthfcnkeclcphpaaDoor
