/- A region, in the order of the text or in whatever order its edges allow, told by one order alone. -/
import Derived.Test.YthfcnkeclcphpaaDoorOpsSound
import Derived.OrdersHeld
set_option linter.unusedVariables false
set_option linter.unusedSimpArgs false
namespace Go.Proofs.YthfcnkeclcphpaaDoor
open Go

/-! ### 1. Whatever order, and what is guaranteed of worlds on the way -/
/-- A fact on the world, and the number of the operation that it was read by: only what waits for that operation may end it. -/
abbrev Gs := List ((World → Prop) × Nat)
def wpG (P : Program) (ops : Array Oper) (Q : Exit → Act → World → Prop) (A : List Nat) (G : Gs) : Nat → Array Bool → Act → World → Prop
  | 0, listed, a, w => Region.ready .any ops listed = [] ∧ Q .normal a w
  | fuel + 1, listed, a, w =>
    (Region.ready .any ops listed = [] → Q .normal a w) ∧
    ∀ i ∈ Region.ready .any ops listed, wpOp P ops Q i (fun a' w' => (∀ g ∈ G, (A.getD i 0).testBit g.2 = false → g.1 w → g.1 w') ∧ wpG P ops Q A G fuel (listed.setIfInBounds i true) a' w') a w
section
variable {P : Program} {ops : Array Oper} {Q : Exit → Act → World → Prop} {A : List Nat}
theorem wpAny_of_G {G : Gs} : ∀ (fuel : Nat) (listed : Array Bool) (a : Act) (w : World), wpG P ops Q A G fuel listed a w → wpAny P .any ops Q fuel listed a w
  | 0, _, _, _, h => h
  | fuel + 1, _, _, _, h => ⟨h.1, fun i hi => wpOp_mono (fun a' w' h' => wpAny_of_G fuel _ a' w' h'.2) (h.2 i hi)⟩
/-- Fewer guarantees are asked. -/
theorem wpG_less {G G' : Gs} (hG : ∀ g ∈ G, g ∈ G') : ∀ (fuel : Nat) (listed : Array Bool) (a : Act) (w : World), wpG P ops Q A G' fuel listed a w → wpG P ops Q A G fuel listed a w
  | 0, _, _, _, h => h
  | fuel + 1, _, _, _, h => ⟨h.1, fun i hi => wpOp_mono (fun a' w' h' => ⟨fun g hg => h'.1 g (hG g hg), wpG_less hG fuel _ a' w' h'.2⟩) (h.2 i hi)⟩
def Closed (ops : Array Oper) (listed : Array Bool) : Prop :=
  ∀ j oj, ops[j]? = some oj → listed.getD j false = true → ∀ e ∈ oj.after, Region.binds .any e = true → listed.getD e.on false = true
theorem Closed.set {listed : Array Bool} {i : Nat} (h : Closed ops listed) (hi : i ∈ Region.ready .any ops listed) : Closed ops (listed.setIfInBounds i true) := by
  obtain ⟨_, oi, hoi, hall⟩ := mem_ready.1 hi
  intro j oj hj hl e he hb
  by_cases hij : i = j
  · subst hij
    have : oj = oi := Option.some.inj (hj.symm.trans hoi)
    subst this
    exact getD_set_true (hall e he hb)
  · rw [getD_set_ne false hij] at hl
    exact getD_set_true (h j oj hj hl e he hb)
/-- A: of each operation, as bits, all that it waits for. -/
def AncOK (ops : Array Oper) (A : List Nat) : Prop :=
  ∀ d i, (A.getD d 0).testBit i = true → ∃ o, ops[d]? = some o ∧ ∃ e ∈ o.after, Region.binds .any e = true ∧ (e.on = i ∨ (e.on < d ∧ (A.getD e.on 0).testBit i = true))
theorem anc_listed {listed : Array Bool} (hA : AncOK ops A) (hc : Closed ops listed) : ∀ (d i : Nat), (A.getD d 0).testBit i = true → listed.getD d false = true → listed.getD i false = true := by
  intro d
  induction d using Nat.strongRecOn with
  | _ d ih =>
    intro i hb hl
    obtain ⟨o, ho, e, he, hbind, h⟩ := hA d i hb
    have hle := hc d o ho hl e he hbind
    rcases h with h | ⟨h1, h2⟩
    · rw [← h]; exact hle
    · exact ih e.on h1 i h2 hle
theorem anc_not_ready {listed : Array Bool} (hA : AncOK ops A) (hc : Closed ops listed) {d i : Nat} (hb : (A.getD d 0).testBit i = true) (hun : listed.getD i true = false) : d ∉ Region.ready .any ops listed := by
  intro hd
  obtain ⟨_, o, ho, hall⟩ := mem_ready.1 hd
  have hi : listed.getD i false = true := by
    obtain ⟨o', ho', e, he, hbind, h⟩ := hA d i hb
    have : o' = o := Option.some.inj (ho'.symm.trans ho)
    subst this
    have hle := hall e he hbind
    rcases h with h | ⟨_, h2⟩
    · rw [← h]; exact hle
    · exact anc_listed hA hc _ i h2 hle
  rcases Nat.lt_or_ge i listed.size with h' | h'
  · simp [h'] at hun hi
    rw [hun] at hi
    cases hi
  · simp [Array.getElem?_eq_none h'] at hun
/-- An operation that may come up now, and yields its value in every world that meets S, may be taken first, if S is guaranteed till then. -/
theorem wpG_first {i : Nat} {oi : Oper} {v : Value} {S : World → Prop} {G : Gs} (hi : ops[i]? = some oi) (hsel : ∀ (j : Nat) (o : Oper) cs b, ops[j]? = some o → o.op ≠ .select cs b)
    (hQ : ∀ c a w, Q (.panic c) (a.put oi.dst v) w → Q (.panic c) a w) (hA : AncOK ops A) :
    ∀ (fuel : Nat) (listed : Array Bool) (a : Act) (w : World),
      (∀ j oj, ops[j]? = some oj → j ≠ i → listed.getD j true = false → (∀ e ∈ oj.after, Region.binds .any e = true → e.on ≠ i) → oi.apart ops oj = true) →
      Closed ops listed → i ∈ Region.ready .any ops listed → YieldsIf P ops S oi v a → S w →
      wpG P ops Q A ((S, i) :: G) fuel (listed.setIfInBounds i true) (a.put oi.dst v) w → wpG P ops Q A G (fuel + 1) listed a w := by
  intro fuel
  induction fuel with
  | zero =>
    intro listed a w _ _ hr hy hS H
    refine ⟨fun h => (by rw [h] at hr; cases hr), fun j hj => ?_⟩
    by_cases hji : j = i
    · subst hji; exact hy.wpOp hi hS ⟨fun g _ _ h => h, H⟩
    · have := ready_mono hj hji
      rw [H.1] at this
      cases this
  | succ fuel ih =>
    intro listed a w hfree hc hr hy hS H
    refine ⟨fun h => (by rw [h] at hr; cases hr), fun j hj => ?_⟩
    by_cases hji : j = i
    · subst hji; exact hy.wpOp hi hS ⟨fun g _ _ h => h, wpG_less (fun g hg => List.mem_cons_of_mem _ hg) _ _ _ _ H⟩
    · have h1 := H.2 j (ready_mono hj hji)
      obtain ⟨hjun, oj, hoj, hall⟩ := mem_ready.1 hj
      have hiun := (mem_ready.1 hr).1
      have hnot : ∀ e ∈ oj.after, Region.binds .any e = true → e.on ≠ i := fun e he hb heq => by
        have h1 := hall e he hb
        rw [heq] at h1
        rcases Nat.lt_or_ge i listed.size with h' | h'
        · simp [h'] at hiun h1; rw [hiun] at h1; cases h1
        · simp [Array.getElem?_eq_none h'] at h1
      have hjA : (A.getD j 0).testBit i = false := by
        cases hb : (A.getD j 0).testBit i with
        | false => rfl
        | true => exact absurd hj (anc_not_ready hA hc hb hiun)
      have h2 := wpOp_putIf hoj (hfree j oj hoj hji hjun hnot) (fun cs b => hsel i oi cs b hi) (fun cs b => hsel j oj cs b hoj) hQ hy h1
      have hfree' : ∀ k ok, ops[k]? = some ok → k ≠ i → (listed.setIfInBounds j true).getD k true = false →
          (∀ e ∈ ok.after, Region.binds .any e = true → e.on ≠ i) → oi.apart ops ok = true := fun k ok hk hki hun hno => by
        refine hfree k ok hk hki ?_ hno
        by_cases hjk : j = k
        · subst hjk; exact hjun
        · rw [getD_set_ne true hjk] at hun; exact hun
      refine wpOp_mono (fun a' w' h3 => ⟨fun g hg => h3.2.1 g (List.mem_cons_of_mem _ hg), ih (listed.setIfInBounds j true) a' w' hfree' (hc.set hj) (ready_mono hr (Ne.symm hji)) h3.1 (h3.2.1 (S, i) List.mem_cons_self hjA hS) ?_⟩) h2
      rw [Array.setIfInBounds_comm _ _ hji]
      exact h3.2.2
end

/-! ### 2. One order -/
def needM (o : Oper) : Nat := o.after.toList.foldl (fun m e => bif Region.binds .any e then m ||| (1 <<< e.on) else m) 0
def ancM (acc : List Nat) (o : Oper) : Nat := o.after.toList.foldl (fun m e => bif Region.binds .any e then m ||| ((1 <<< e.on) ||| (bif Nat.blt e.on acc.length then acc.getD e.on 0 else 0)) else m) 0
def ancF (acc : List Nat) : List Oper → List Nat
  | [] => acc
  | o :: r => ancF (acc ++ [ancM acc o]) r
def rdy (M : Nat) : Nat → List Nat → List Nat
  | _, [] => []
  | j, m :: r => bif !M.testBit j && Nat.beq (m &&& M) m then j :: rdy M (j + 1) r else rdy M (j + 1) r
def freeB (ops : Array Oper) (i : Nat) (oi : Oper) (M : Nat) : Nat → List Oper → List Nat → Bool
  | j, oj :: r, m :: rm => (M.testBit j || Nat.beq j i || m.testBit i || oi.apart ops oj) && freeB ops i oi M (j + 1) r rm
  | _, _, _ => true
def pickQ (P : Program) (os : List Oper) (ops : Array Oper) (nd : List Nat) (M : Nat) : List Nat → Option Nat
  | [] => none
  | i :: r => match os[i]? with
    | some o => bif quietKind P o && freeB ops i o M 0 os nd then some i else pickQ P os ops nd M r
    | none => none
/-- A read that stands open: its number, whether a new block leaves it as it is, the fact. -/
abbrev Pend := List (Nat × Bool × (World → Prop))
def obls (A : List Nat) (d : Nat) (lays : Bool) (w w' : World) (φ : Prop) : Pend → Prop
  | [] => φ
  | (i, ld, S) :: r => bif (A.getD d 0).testBit i || (lays && ld) then obls A d lays w w' φ r else (S w → S w') ∧ obls A d lays w w' φ r
def addP (P : Program) (i : Nat) (o : Oper) (pend : Pend) : Option (World → Prop) → Pend
  | none => pend
  | some S => (i, isLoad P o, S) :: pend
/-- An operation under its guard. -/
def guardW (os : List Oper) (o : Oper) (e : Env) (X Y : Env → Prop) : Prop := match o.guard with
  | none => X e
  | some (j, want) => match (os[j]?).bind (·.dst) with
    | some t => match e.get t with
      | some (.bool b) => bif b then (bif want then X ((t, .bool true) :: e) else Y ((t, .bool true) :: e)) else (bif want then Y ((t, .bool false) :: e) else X ((t, .bool false) :: e))
      | some (.tuple _) => Y e
      | _ => False
    | none => False
def okDst (N : Nat) (o : Oper) : Bool := match o.dst with
  | some d => Nat.blt d N
  | none => true
def rg (P : Program) (N : Nat) (os : List Oper) (ops : Array Oper) (nd A : List Nat) (K : Env → World → Prop) (Rp : List PanicEntry → World → Prop) : Nat → Nat → Pend → Env → World → Prop
  | 0, M, _, e, w => match rdy M 0 nd with
    | [] => K e w
    | _ => False
  | n + 1, M, pend, e, w => match rdy M 0 nd with
    | [] => K e w
    | rd => match pickQ P os ops nd M rd with
      | some i => match os[i]? with
        | some o => guardW os o e
            (fun e => bif known e o && noSel o && okDst N o then quietOp P os e o w fun v S => rg P N os ops nd A K Rp n (M ||| (1 <<< i)) (addP P i o pend S) (e.put o.dst v) w else False)
            (fun e => bif okDst N o && noSel o then rg P N os ops nd A K Rp n (M ||| (1 <<< i)) pend (e.put o.dst undef) w else False)
        | none => False
      | none => match rd with
        | [i] => match os[i]? with
          | some o => guardW os o e
              (fun e => bif known e o && noSel o && okDst N o then effOp P os e o w (fun v w' => obls A i (laysOnly o) w w' (rg P N os ops nd A K Rp n (M ||| (1 <<< i)) pend (e.put o.dst v) w') pend) Rp else False)
              (fun e => bif okDst N o && noSel o then rg P N os ops nd A K Rp n (M ||| (1 <<< i)) pend (e.put o.dst undef) w else False)
          | none => False
        | _ => False
/-- A region in the order of its text. -/
def sq (P : Program) (N : Nat) (os : List Oper) (K : Env → World → Prop) (Rp : List PanicEntry → World → Prop) : List Oper → Env → World → Prop
  | [], e, w => K e w
  | o :: r, e, w => guardW os o e
      (fun e => bif known e o && noSel o && okDst N o then (bif quietKind P o then quietOp P os e o w fun v _ => sq P N os K Rp r (e.put o.dst v) w
        else effOp P os e o w (fun v w' => sq P N os K Rp r (e.put o.dst v) w') Rp) else False)
      (fun e => bif okDst N o && noSel o then sq P N os K Rp r (e.put o.dst undef) w else False)
end Go.Proofs.YthfcnkeclcphpaaDoor
