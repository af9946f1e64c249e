/- Operations of a region, one after another, in a frame of whatever kind; a call of yield. -/
import Derived.Test.YtgmehadpfighbaaIterMem
import Derived.RangeFuncLeaves
import Derived.RangeFuncRecord
import Derived.RangeFuncSeq
set_option linter.unusedVariables false
set_option linter.unusedSimpArgs false
namespace Go.Proofs.Ytgmehadpfighbaa
open Go Go.RowKit

section
variable {F : Fence} {n N : Nat} {P : Program} {ops : Array Oper} {Q : Exit → Act → World → Prop} {i : Nat} {rest : List Nat} {e : Env} {a : Act} {w w' : World} {o : Oper} {v : Value}
theorem Fits.mask {e' : Env} (h : Fits N e a) (l : List Nat) (he : e.mask l = e') : Fits N e' a := he ▸ h.forget (Env.mask_get _ l)
theorem wanted_of (hg : o.guard = none) (y : Nat → Option Bool) : Region.wanted o y = true := by simp [Region.wanted, hg]
theorem opE_next (hF : ∀ f, F.fn f) (hf : Fits N e a) (ho : ops[i]? = some o) (hg : o.guard = none) (hk : known e o = true) (hsel : noSel o = true) (hd : ∀ c, o.op ≠ .defer c)
    (h : o.uponIn F n P a (wpOpsIn F n P ops Q rest) Q ((execOp e.rho o).run P w)) : wpOpsIn F n P ops Q (i :: rest) a w := by
  simp only [wpOpsIn, ho, wanted_of hg, if_true]
  refine ⟨fun f _ => hF f, ?_⟩
  rw [Oper.semAt_eq _ _ _ hd, known_congr hf hk hsel]
  exact h
theorem opE_val {s : Sem Value} (hF : ∀ f, F.fn f) (hf : Fits N e a) (ho : ops[i]? = some o) (hg : o.guard = none) (hk : known e o = true) (hsel : noSel o = true) (hdst : okDst N o = true) (hd : ∀ c, o.op ≠ .defer c)
    (hs : execOp e.rho o = (do pure (.value (← s)))) (hr : s.run P w = .ok v w') (h : ∀ a', Fits N (e.put o.dst v) a' → a'.defers = a.defers → wpOpsIn F n P ops Q rest a' w') : wpOpsIn F n P ops Q (i :: rest) a w := by
  refine opE_next hF hf ho hg hk hsel hd ?_
  rw [hs]
  simp only [Sem.run_bind, Sem.run_pure]
  rw [hr]
  refine h _ (hf.put v (okDst_spec hdst)) ?_
  unfold Act.put
  split <;> rfl
theorem opE_unit {s : Sem Unit} (hF : ∀ f, F.fn f) (hf : Fits N e a) (ho : ops[i]? = some o) (hg : o.guard = none) (hk : known e o = true) (hsel : noSel o = true) (hdst : okDst N o = true) (hd : ∀ c, o.op ≠ .defer c)
    (hs : execOp e.rho o = (do s; pure .skip)) (hr : s.run P w = .ok () w') (h : ∀ a', Fits N (e.put o.dst undef) a' → a'.defers = a.defers → wpOpsIn F n P ops Q rest a' w') : wpOpsIn F n P ops Q (i :: rest) a w := by
  refine opE_next hF hf ho hg hk hsel hd ?_
  rw [hs]
  simp only [Sem.run_bind, Sem.run_pure]
  rw [hr]
  refine h _ (hf.put undef (okDst_spec hdst)) ?_
  unfold Act.put
  split <;> rfl
theorem opE_valD {s : Sem Value} (ds : List Deferred) (hF : ∀ f, F.fn f) (hf : Fits N e a) (ho : ops[i]? = some o) (hg : o.guard = none) (hk : known e o = true) (hsel : noSel o = true) (hdst : okDst N o = true) (hd : ∀ c, o.op ≠ .defer c)
    (hs : execOp e.rho o = (do pure (.value (← s)))) (hr : s.run P w = .ok v w') (h : ∀ a', Fits N (e.put o.dst v) a' → wpOpsIn F n P ops Q rest { a' with defers := ds } w') : wpOpsIn F n P ops Q (i :: rest) { a with defers := ds } w := by
  have he : ({ a with defers := ds } : Act).eval = a.eval := funext fun x => by cases x <;> rfl
  simp only [wpOpsIn, ho, wanted_of hg, if_true]
  refine ⟨fun f _ => hF f, ?_⟩
  rw [Oper.semAt_eq _ _ _ hd, he, known_congr hf hk hsel, hs]
  simp only [Sem.run_bind, Sem.run_pure]
  rw [hr]
  have hp : ({ a with defers := ds } : Act).put o.dst v = { a.put o.dst v with defers := ds } := by unfold Act.put; split <;> rfl
  show wpOpsIn F n P ops Q rest (({ a with defers := ds } : Act).put o.dst v) w'
  rw [hp]
  exact h _ (hf.put v (okDst_spec hdst))
theorem fits_args {args : Array Value} (hn : args.size ≤ N) : Fits N (args.toList.zipIdx.map fun p => (p.2, p.1)) { tmps := args ++ Array.replicate (N - args.size) undef, defers := [] } := by
  refine ⟨by simp; omega, rfl, fun t v ht => ?_⟩
  have h1 : args[t]? = some v := by
    have key : ∀ (l : List Value) (k : Nat), Env.get (l.zipIdx k |>.map fun p => (p.2, p.1)) t = some v → k ≤ t ∧ l[t - k]? = some v := by
      intro l
      induction l with
      | nil => intro k h; simp [Env.get] at h
      | cons x r ih =>
        intro k h
        simp only [List.zipIdx_cons, List.map_cons, Env.get_cons] at h
        split at h
        · rename_i e; subst e; cases h; simp
        · rename_i hne
          obtain ⟨h1, h2⟩ := ih (k + 1) h
          refine ⟨by omega, ?_⟩
          rw [show t - k = (t - (k + 1)) + 1 from by omega]
          simpa using h2
    have := (key args.toList 0 ht).2
    simpa using this
  have h2 : t < args.size := (Array.getElem?_eq_some_iff.1 h1).1
  refine ⟨?_, by omega⟩
  simp only [Array.getD_eq_getD_getElem?]
  rw [Array.getElem?_append_left h2, h1]; rfl
end
theorem least_of {p : Nat → Prop} : ∀ (n : Nat), p n → ∃ m, p m ∧ ∀ k, p k → m ≤ k := by
  intro n
  induction n using Nat.strongRecOn with
  | _ n ih =>
    intro h
    by_cases h2 : ∃ k, k < n ∧ p k
    · obtain ⟨k, hk, hp⟩ := h2
      exact ih k hk hp
    · exact ⟨n, h, fun k hk => Nat.le_of_not_lt fun hlt => h2 ⟨k, hlt, hk⟩⟩
open Classical in
/-- A loop, told by rounds that are counted. -/
theorem wpIn_loop_n {F : Fence} {m : Nat} {P : Program} {c : Code} {Q : Exit → Act → World → Prop} {a : Act} {w : World} (I : Nat → Act → World → Prop) {n : Nat} (h0 : I n a w)
    (round : ∀ n a w, I n a w → c.wpIn F m P (Exit.then (fun a' w' => ∃ n', n' < n ∧ I n' a' w') Q) a w) : (Code.loop c).wpIn F m P Q a w := by
  have hl : ∀ a w, (∃ n, I n a w) → ∃ n, I n a w ∧ ∀ k, I k a w → n ≤ k := fun a w ⟨n, h⟩ => least_of n h
  refine wpIn_loop (I := fun a w => ∃ n, I n a w) (μ := fun a w => if h : ∃ n, I n a w then (hl a w h).choose else 0) ⟨n, h0⟩ (fun a w h => ?_)
  obtain ⟨h1, h2⟩ := (hl a w h).choose_spec
  refine wpIn_mono (round _ a w h1) ?_
  intro e a' w' hq
  cases e with
  | normal =>
    obtain ⟨n', hlt, hI⟩ := hq
    refine ⟨⟨n', hI⟩, ?_⟩
    have h' : ∃ n, I n a' w' := ⟨n', hI⟩
    rw [dif_pos h', dif_pos h]
    exact Nat.lt_of_le_of_lt ((hl a' w' h').choose_spec.2 n' hI) hlt
  | _ => exact hq
/-- A call of yield: a round of loop l, that R tells. -/
abbrev Yields (P : Program) (l : Nat) (args : Array Value) (w : World) (R : Ending → World → Prop) : Prop := YieldAt Fence.wide 0 P l args w R
theorem wideFn : ∀ f, Fence.wide.fn f := fun _ => trivial
section
variable {w0 w : World} {O : Nat → Prop} {L R : List Assn} {α β : Type} [DecidableEq α] {enc : α → Value} {encv : β → Value} {kvs : List (α × β)}
/-- What must lie apart may lie behind. -/
theorem St.back {c : Assn} (h : St w0 O (c :: L) w) : St w0 O (L ++ [c]) w := h.perm (List.perm_append_singleton _ _).symm
end
end Go.Proofs.Ytgmehadpfighbaa
