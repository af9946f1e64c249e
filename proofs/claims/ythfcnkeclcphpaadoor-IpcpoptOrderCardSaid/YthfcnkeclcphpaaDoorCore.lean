/- The core of the decompiled form: what is known of a frame's temporaries, the judgement 'from this configuration the frame comes to an end that R tells', and the evaluator of regions and control, with its soundness. -/
import Derived.Orders
import Derived.Scope
import Derived.KernelRfl
import Derived.Laws.Sem
import Derived.Laws.World
set_option linter.unusedVariables false
set_option linter.unusedSimpArgs false
namespace Go.Proofs.YthfcnkeclcphpaaDoor
open Go

/-! ### 1. Sem programs that do not touch the world -/
def pureVal {α : Type} (P : Program) : Sem α → Option α
  | .pure a => some a
  | .program k => pureVal P (k P)
  | .mark _ k => pureVal P k
  | _ => none
theorem pureVal_run {α : Type} {P : Program} {v : α} : ∀ {s : Sem α}, pureVal P s = some v → ∀ w, s.run P w = .ok v w
  | .pure a, h, w => by simp only [pureVal, Option.some.injEq] at h; subst h; rfl
  | .program k, h, w => by simp only [pureVal] at h; exact pureVal_run h w
  | .mark _ k, h, w => by simp only [pureVal] at h; exact pureVal_run h w
  | .load .., h, _ | .store .., h, _ | .new .., h, _ | .shape .., h, _ | .freeze .., h, _ | .frozen .., h, _ | .getObj .., h, _ | .setObj .., h, _
  | .choose .., h, _ | .sys .., h, _ | .halt .., h, _ => by simp [pureVal] at h

/-! ### 2. What is known of the temporaries -/
abbrev Env := List (Nat × Value)
def Env.get : Env → Nat → Option Value
  | [], _ => none
  | (s, v) :: r, t => bif Nat.beq s t then some v else Env.get r t
def Env.ev (e : Env) : Operand → Option Value
  | .tmp t => e.get t
  | .const v => some v
  | .global g => some (.pointer (some ⟨g, 0, none⟩))
  | .func f => some (.func (.func f) #[] #[])
def Env.rho (e : Env) (x : Operand) : Value := (e.ev x).getD undef
def Env.put (e : Env) : Option Tmp → Value → Env
  | none, _ => e
  | some d, v => (d, v) :: e
def Env.mask (e : Env) : List Nat → Env
  | [] => []
  | t :: r => match e.get t with
    | some v => (t, v) :: Env.mask e r
    | none => Env.mask e r
structure Fits (N : Nat) (e : Env) (a : Act) : Prop where
  size : a.tmps.size = N
  defers : a.defers = []
  slots : ∀ t v, e.get t = some v → a.tmps.getD t undef = v ∧ t < N

theorem Env.get_cons (s : Nat) (v : Value) (r : Env) (t : Nat) : Env.get ((s, v) :: r) t = if s = t then some v else Env.get r t := by
  show (bif Nat.beq s t then some v else Env.get r t) = _
  cases hq : Nat.beq s t with
  | true => rw [if_pos (Nat.eq_of_beq_eq_true hq)]; rfl
  | false => rw [if_neg (Nat.ne_of_beq_eq_false hq)]; rfl
theorem Fits.ev {N : Nat} {e : Env} {a : Act} (h : Fits N e a) {x : Operand} {v : Value} (hx : e.ev x = some v) : a.eval x = v := by
  cases x with
  | tmp t => exact (h.slots t v hx).1
  | const u => exact Option.some.inj hx
  | global g => exact Option.some.inj hx
  | func f => exact Option.some.inj hx
theorem Fits.rho {N : Nat} {e : Env} {a : Act} (h : Fits N e a) {x : Operand} (hx : (e.ev x).isSome = true) : a.eval x = e.rho x := by
  obtain ⟨v, hv⟩ := Option.isSome_iff_exists.1 hx
  rw [h.ev hv, Env.rho, hv]; rfl
theorem Fits.put {N : Nat} {e : Env} {a : Act} (h : Fits N e a) {d : Option Tmp} (v : Value) (hd : ∀ t, d = some t → t < N) : Fits N (e.put d v) (a.put d v) := by
  cases d with
  | none => exact h
  | some d =>
    have hN := hd d rfl
    refine ⟨by simp [Act.put, h.size], h.defers, fun t u ht => ?_⟩
    rw [Env.put, Env.get_cons] at ht
    by_cases e1 : d = t
    · subst e1
      rw [if_pos rfl] at ht
      obtain rfl := Option.some.inj ht
      refine ⟨?_, hN⟩
      simp [Act.put, h.size, hN]
    · rw [if_neg e1] at ht
      obtain ⟨h1, h2⟩ := h.slots t u ht
      refine ⟨?_, h2⟩
      simp only [Act.put, Array.getD_eq_getD_getElem?, Array.getElem?_setIfInBounds_ne e1] at h1 ⊢
      exact h1
/-- A slot may be forgotten when it is written. -/
theorem Fits.forget {N : Nat} {e e' : Env} {a : Act} (h : Fits N e a) (hs : ∀ t v, e'.get t = some v → e.get t = some v) : Fits N e' a :=
  ⟨h.size, h.defers, fun t v ht => h.slots t v (hs t v ht)⟩
theorem Env.mask_get (e : Env) : ∀ (l : List Nat) (t : Nat) (v : Value), (e.mask l).get t = some v → e.get t = some v
  | [], t, v, h => by simp [Env.mask, Env.get] at h
  | s :: r, t, v, h => by
    unfold Env.mask at h
    cases hs : e.get s with
    | none => rw [hs] at h; exact Env.mask_get e r t v h
    | some u =>
      rw [hs] at h
      simp only [Env.get_cons] at h
      by_cases e1 : s = t
      · rw [if_pos e1] at h; subst e1; rw [hs, h]
      · rw [if_neg e1] at h; exact Env.mask_get e r t v h

/-! ### 3. The judgement -/
/-- From the configuration 'todo', wherever the temporaries fit e, in world w, the frame comes to an end that R tells. -/
def SK (P : Program) (fn : Func) (R : Ending → World → Prop) (todo : List Item) (e : Env) (w : World) : Prop :=
  ∀ (a : Act) (b : Frame) (cs : List Frame), Fits fn.ntmps e a → P.funcs[b.fn]? = some fn → b.kind = .normal →
    ∃ en w' fr, R en w' ∧ Comes P (lone (b.at a todo) cs w) (lone fr cs w') en ∧ fr.fn = b.fn ∧ fr.leaving P w' en
section
variable {P : Program} {fn : Func} {R : Ending → World → Prop} {k : List Item} {e : Env} {w : World}
theorem SK.step1 {todo todo' : List Item} (hs : ∀ (a : Act) (b : Frame) (cs : List Frame), Fits fn.ntmps e a → step P (lone (b.at a todo) cs w) = .next (lone (b.at a todo') cs w))
    (h : SK P fn R todo' e w) : SK P fn R todo e w := fun a b cs hf hfn hk => by
  obtain ⟨en, w', fr, hR, hc, h1, h2⟩ := h a b cs hf hfn hk
  exact ⟨en, w', fr, hR, Comes.of_steps (.one (hs a b cs hf)) hc, h1, h2⟩
theorem SK.forget {e' : Env} {todo : List Item} (hs : ∀ t v, e'.get t = some v → e.get t = some v) (h : SK P fn R todo e' w) : SK P fn R todo e w :=
  fun a b cs hf hfn hk => h a b cs (hf.forget hs) hfn hk
theorem SK.mono {R' : Ending → World → Prop} {todo : List Item} (h : SK P fn R todo e w) (hr : ∀ e w, R e w → R' e w) : SK P fn R' todo e w := fun a b cs hf hfn hk => by
  obtain ⟨en, w', fr, hR, hc⟩ := h a b cs hf hfn hk
  exact ⟨en, w', fr, hr _ _ hR, hc⟩
theorem SK.calls {f : FuncId} {c : Code} {args : Array Value} (hf : P.funcs[f]? = some fn) (hb : fn.body = some c) (hn : args.size ≤ fn.ntmps)
    (he : ∀ t v, e.get t = some v → args[t]? = some v) (h : SK P fn R [.code c] e w) : Calls P f args w R := by
  intro cs
  let b : Frame := { (default : Frame) with fn := f, kind := .normal }
  have henter : Frame.enter P f args .normal = b.at { tmps := args ++ Array.replicate (fn.ntmps - args.size) undef, defers := [] } [.code c] := by
    simp [Frame.enter, Frame.at, hf, hb, b]
  have hfit : Fits fn.ntmps e { tmps := args ++ Array.replicate (fn.ntmps - args.size) undef, defers := [] } := by
    refine ⟨by simp; omega, rfl, fun t v ht => ?_⟩
    have h1 := he t v ht
    have h2 : t < args.size := (Array.getElem?_eq_some_iff.1 h1).1
    refine ⟨?_, by omega⟩
    simp only [Array.getD_eq_getD_getElem?]
    rw [Array.getElem?_append_left h2, h1]; rfl
  obtain ⟨en, w', fr, hR, hc, h1, h2⟩ := h _ b cs hfit hf rfl
  rw [henter]
  exact ⟨en, w', fr, hR, hc, h1, h2⟩
/-- An ending at once. -/
theorem SK.ret_of {k : List Item} {v : Value} (hres : ∀ a, Fits fn.ntmps e a → (results fn a.tmps).run P w = .ok v w) (hR : R (.returned v) w) : SK P fn R (.code .ret :: k) e w :=
  fun a b cs hf hfn hk => ⟨.returned v, w, _, hR, .one step_ret, rfl, rfl, hf.defers, hk, fn, hfn, hres a hf⟩
theorem SK.end_of {v : Value} (hres : ∀ a, Fits fn.ntmps e a → (results fn a.tmps).run P w = .ok v w) (hR : R (.returned v) w) : SK P fn R [] e w :=
  fun a b cs hf hfn hk => ⟨.returned v, w, _, hR, .one step_end, rfl, rfl, hf.defers, hk, fn, hfn, hres a hf⟩
/-- A region by the kit's own judgement. -/
theorem SK.region {c : Code} (h : ∀ a, Fits fn.ntmps e a → c.wp P (fun x a' w' => match x with
      | .normal => ∃ e', Fits fn.ntmps e' a' ∧ SK P fn R k e' w'
      | .panic ch => a'.defers = [] ∧ R (.panicked ch) w'
      | .outgrown => R .outgrown w'
      | _ => False) a w) : SK P fn R (.code c :: k) e w := fun a b cs hf hfn hk => by
  obtain ⟨x, a', w', hq, harr⟩ := h a hf b k cs
  cases x with
  | normal =>
    obtain ⟨e', hf', hsk⟩ := hq
    obtain ⟨en, w2, fr, hR, hc, h1, h2⟩ := hsk a' b cs hf' hfn hk
    exact ⟨en, w2, fr, hR, Comes.of_steps harr hc, h1, h2⟩
  | panic ch =>
    obtain ⟨hd, hR⟩ := hq
    obtain ⟨todo, hs⟩ := harr
    exact ⟨.panicked ch, w', _, hR, hs, rfl, rfl, hd, fn, hfn⟩
  | outgrown => exact ⟨.outgrown, w', b, hq, harr.resolve_left (by rw [hk]; simp), rfl, trivial⟩
  | exit id => exact hq.elim
  | goto l => exact hq.elim
  | ret => exact hq.elim
end
end Go.Proofs.YthfcnkeclcphpaaDoor
