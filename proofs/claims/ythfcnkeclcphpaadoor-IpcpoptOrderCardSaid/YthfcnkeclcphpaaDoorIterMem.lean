/- Steps of a range over a map that isn't changed meanwhile. -/
import Derived.Test.YthfcnkeclcphpaaDoorRowMem
set_option linter.unusedVariables false
set_option linter.unusedSimpArgs false
namespace Go.Proofs.YthfcnkeclcphpaaDoor
open Go Go.RowKit

section
variable {α β : Type} [DecidableEq α]
/-- Which entries have come, which are to come. -/
structure IterIs (es : Array MapEntry) (clk : Nat) (seen : Array Nat) (stepped : Nat) (kvs dn lf : List (α × β)) : Prop where
  split : ∃ bd bl : List (Nat × (α × β)), ((es.toList.map (·.born)).zip kvs).Perm (bd ++ bl) ∧ seen.toList = bd.map (·.1) ∧ dn = bd.map (·.2) ∧ lf = bl.map (·.2)
  step : seen = #[] ∨ stepped = clk
/-- An iterator 'it' over the map in block g, of which 'dn' have come, 'lf' are to come. -/
def iterC (it g : Nat) (enc : α → Value) (encv : β → Value) (kvs dn lf : List (α × β)) : Assn := fun h =>
  ∃ es clk seen stepped, (MapIs enc encv es clk kvs ∧ IterIs es clk seen stepped kvs dn lf) ∧ stars [blk g (.map es clk), blk it (.mapIter (some g) clk seen stepped)] h
end
attribute [irreducible] iterC
section
variable {P : Program} {w0 w : World} {O : Nat → Prop} {L R : List Assn} {g it : Nat} {α β : Type} [DecidableEq α] {enc : α → Value} {encv : β → Value} {kvs dn lf : List (α × β)} {t kt et : TypeId}
theorem iterC_open (h : St w0 O (iterC it g enc encv kvs dn lf :: L) w) : ∃ es clk seen stepped, (MapIs enc encv es clk kvs ∧ IterIs es clk seen stepped kvs dn lf) ∧ St w0 O (blk g (.map es clk) :: blk it (.mapIter (some g) clk seen stepped) :: L) w := by
  unfold iterC at h
  obtain ⟨es, h⟩ := h.ex
  obtain ⟨clk, h⟩ := h.ex
  obtain ⟨seen, h⟩ := h.ex
  obtain ⟨stepped, h⟩ := h.ex
  obtain ⟨hp, h⟩ := h.pure
  exact ⟨es, clk, seen, stepped, hp, h.flat⟩
theorem iterC_shut {es : Array MapEntry} {clk : Nat} {seen : Array Nat} {stepped : Nat} (hm : MapIs enc encv es clk kvs) (hi : IterIs es clk seen stepped kvs dn lf)
    (h : St w0 O (blk g (.map es clk) :: blk it (.mapIter (some g) clk seen stepped) :: L) w) : St w0 O (iterC it g enc encv kvs dn lf :: L) w :=
  St.make (M := [blk g (.map es clk), blk it (.mapIter (some g) clk seen stepped)]) h fun k hk => by unfold iterC; exact ⟨es, clk, seen, stepped, ⟨hm, hi⟩, hk⟩
theorem zip_snd {γ δ : Type} : ∀ (a : List γ) (b : List δ), a.length = b.length → (a.zip b).map (·.2) = b
  | [], [], _ => rfl
  | _ :: _, [], h => by simp at h
  | [], _ :: _, h => by simp at h
  | _ :: a, _ :: b, h => by simp [zip_snd a b (by simpa using h)]
theorem zip_fst {γ δ : Type} : ∀ (a : List γ) (b : List δ), a.length = b.length → (a.zip b).map (·.1) = a
  | [], [], _ => rfl
  | _ :: _, [], h => by simp at h
  | [], _ :: _, h => by simp at h
  | _ :: a, _ :: b, h => by simp [zip_fst a b (by simpa using h)]
theorem MapIs.blen {es : Array MapEntry} {clk : Nat} (hm : MapIs enc encv es clk kvs) : (es.toList.map (·.born)).length = kvs.length := by
  rw [List.length_map, Array.length_toList, hm.len]
theorem IterIs.perm {es : Array MapEntry} {clk : Nat} {seen : Array Nat} {stepped : Nat} (hm : MapIs enc encv es clk kvs) (h : IterIs es clk seen stepped kvs dn lf) : kvs.Perm (dn ++ lf) := by
  obtain ⟨bd, bl, hp, _, rfl, rfl⟩ := h.split
  have := hp.map (·.2)
  rw [zip_snd _ _ hm.blen, List.map_append] at this
  exact this
theorem iterC_perm (h : St w0 O (iterC it g enc encv kvs dn lf :: L) w) : kvs.Perm (dn ++ lf) := by
  obtain ⟨es, clk, seen, stepped, ⟨hm, hi⟩, _⟩ := iterC_open h
  exact hi.perm hm
theorem iterC_nodup (h : St w0 O (iterC it g enc encv kvs dn lf :: L) w) : (kvs.map (·.1)).Nodup := by
  obtain ⟨es, clk, seen, stepped, ⟨hm, hi⟩, _⟩ := iterC_open h
  exact hm.nodup
/-- Done: the map is there as it was. -/
theorem iterC_map (h : St w0 O (iterC it g enc encv kvs dn lf :: L) w) : St w0 O (mapC g enc encv kvs :: L) w := by
  obtain ⟨es, clk, seen, stepped, ⟨hm, hi⟩, h⟩ := iterC_open h
  exact mapC_shut hm (h.pick (.there .here)).drop
theorem range_W {K : Nat → World → Prop} (h : St w0 O L w) (p : Pick (mapC g enc encv kvs) L R) (ht : P.underlying t = some (.map kt et)) (k : ∀ it w', St w0 O (iterC it g enc encv kvs [] kvs :: R) w' → K it w') :
    newW P (Instr.range t (.map (some g))) w K := by
  obtain ⟨es, clk, hm, h⟩ := mapC_open (h.pick p)
  refine newW_of (o := .mapIter (some g) clk #[] clk) h ?_ (fun it w' h' => k it w' ?_)
  · simp only [Instr.range, Sem.run_bind, run_underlying ht, Result.andThen_ok, run_getObj_map h.get.1, Sem.run_pure]
    rfl
  · exact iterC_shut hm ⟨⟨[], _, .refl _, rfl, rfl, (zip_snd _ _ hm.blen).symm⟩, .inl rfl⟩ (h'.pick (.there .here))
theorem St.setObj {o o' : Obj} (h : St w0 O (blk g o :: L) w) : St w0 O (blk g o' :: L) { w with heap := w.heap.setIfInBounds g o' } :=
  h.write rfl rfl rfl (by simp) (by have := h.lt; simp [this]) (fun b hb => by simp [Array.getElem?_setIfInBounds_ne (Ne.symm hb)])
theorem run_choose_lt {n : Nat} (hn : 0 < n) (w : World) : ∃ c w', (choose (.mapNext n)).run P w = .ok c w' ∧ c < n ∧ (w' = w ∨ w' = w.drew) := by
  rw [run_choose]
  split
  · exact ⟨0, w, rfl, hn, .inl rfl⟩
  · exact ⟨_, _, rfl, Nat.mod_lt _ hn, .inr rfl⟩
/-- One step of the iterator. -/
theorem next_W {K0 : World → Prop} {K1 : Value → Value → World → Prop} (h : St w0 O L w) (p : Pick (iterC it g enc encv kvs dn lf) L R) (u : TypeId)
    (k0 : lf = [] → ∀ w', St w0 O (iterC it g enc encv kvs dn [] :: R) w' → K0 w')
    (k1 : ∀ x lf', lf.Perm (x :: lf') → ∀ w', St w0 O (iterC it g enc encv kvs (dn ++ [x]) lf' :: R) w' → K1 (enc x.1) (encv x.2) w') :
    (∃ w', (Instr.next (.pointer (some ⟨it, 0, none⟩)) false u).run P w = .ok (.tuple #[.bool false]) w' ∧ K0 w') ∨
    (∃ v1 v2 w', (Instr.next (.pointer (some ⟨it, 0, none⟩)) false u).run P w = .ok (.tuple #[.bool true, v1, v2]) w' ∧ K1 v1 v2 w') := by
  obtain ⟨es, clk, seen, stepped, ⟨hm, hi⟩, h⟩ := iterC_open (h.pick p)
  have hg := h.get.1
  have h2 := h.pick (.there .here)
  have hit := h2.get.1
  obtain ⟨bd, bl, hp, hseen, rfl, rfl⟩ := hi.split
  -- the births, in pairs
  have hfst : (es.toList.map (·.born)).Perm ((bd ++ bl).map (·.1)) := by
    have := hp.map (·.1)
    rwa [zip_fst _ _ hm.blen] at this
  have hnd : ((bd ++ bl).map (·.1)).Nodup := hfst.nodup_iff.1 hm.uniq
  have hnot : ∀ e ∈ es.toList, seen.contains e.born = false ↔ e.born ∈ bl.map (·.1) := fun e he => by
    have h1 : e.born ∈ (bd ++ bl).map (·.1) := hfst.mem_iff.1 (List.mem_map.2 ⟨e, he, rfl⟩)
    rw [List.map_append, List.mem_append] at h1
    rw [List.map_append, List.nodup_append] at hnd
    have h2 : seen.contains e.born = true ↔ e.born ∈ bd.map (·.1) := by rw [← hseen, Array.contains_iff_mem, Array.mem_toList_iff]
    constructor
    · intro h3
      refine h1.resolve_left (fun h4 => ?_)
      rw [h2.2 h4] at h3; cases h3
    · intro h3
      cases hc : seen.contains e.born with
      | false => rfl
      | true => exact absurd rfl (hnd.2.2 _ (h2.1 hc) _ h3)
  have hguard : (!seen.isEmpty && !es.isEmpty && es.all (·.born ≥ stepped)) = false := by
    rcases hi.step with e | e
    · subst e; rfl
    · subst e
      cases hes : es.isEmpty with
      | true => simp
      | false =>
        have hne : es.toList ≠ [] := fun e => by
          have : es = #[] := Array.toList_inj.1 (by simpa using e)
          subst this
          cases hes
        obtain ⟨x, r, hx⟩ := List.exists_cons_of_ne_nil hne
        have hxm : x ∈ es.toList := by rw [hx]; exact List.mem_cons_self
        have : es.all (fun e => decide (e.born ≥ stepped)) = false := by
          rw [Bool.eq_false_iff]
          intro ha
          rw [← Array.all_toList] at ha
          have h3 := List.all_eq_true.1 ha x hxm
          have h4 := hm.born x hxm
          simp at h3
          omega
        rw [this]; simp
  have hold : (es.filter fun e => !seen.contains e.born).filter (fun e => decide (e.born < clk)) = es.filter fun e => !seen.contains e.born := by
    apply Array.toList_inj.1
    rw [Array.toList_filter, Array.toList_filter, List.filter_eq_self]
    intro e he
    have := (List.mem_filter.1 he).1
    simpa using hm.born e this
  have hnew : (es.filter fun e => !seen.contains e.born).filter (fun e => decide (e.born ≥ clk)) = #[] := by
    apply Array.toList_inj.1
    rw [Array.toList_filter, Array.toList_filter]
    simp only [List.filter_eq_nil_iff]
    intro e he
    have := hm.born e (List.mem_filter.1 he).1
    simpa using this
  generalize hleft : (es.filter fun e => !seen.contains e.born) = left at hold hnew
  have hmem : ∀ e, e ∈ left.toList ↔ e ∈ es.toList ∧ e.born ∈ bl.map (·.1) := fun e => by
    rw [← hleft, Array.toList_filter, List.mem_filter]
    constructor
    · rintro ⟨h1, h2⟩
      exact ⟨h1, (hnot e h1).1 (by simpa using h2)⟩
    · rintro ⟨h1, h2⟩
      exact ⟨h1, by rw [(hnot e h1).2 h2]; rfl⟩
  have hrun : (Instr.next (.pointer (some ⟨it, 0, none⟩)) false u).run P w =
      ((choose (.mapNext ((if left.isEmpty then #[none] else #[]) ++ left.map some).size)).run P w).andThen fun c w1 =>
        (match ((if left.isEmpty then #[none] else #[]) ++ left.map some)[c]? with
          | some (some e) => (do
            setObj it (.mapIter (some g) clk (seen.push e.born) clk)
            pure (.tuple #[.bool true, e.key, e.val]) : Sem Value)
          | some none => pure (.tuple #[.bool false])
          | none => stuck "Next: no such candidate").run P w1 := by
    have hgi : (getObj it).run P w = .ok (.mapIter (some g) clk seen stepped) w := by simp [getObj, Sem.run, hit]
    unfold Instr.next
    simp only [Sem.run_bind, hgi, Result.andThen_ok, run_getObj_map hg, hguard, Bool.false_eq_true, if_false, hleft, hold, hnew, Array.append_empty]
    rfl
  cases hemp : left.isEmpty with
  | true =>
    have hl : left = #[] := by simpa using hemp
    have hbl : bl = [] := by
      cases hb : bl with
      | nil => rfl
      | cons x r =>
        exfalso
        have h1 : x.1 ∈ es.toList.map (·.born) := hfst.mem_iff.2 (List.mem_map.2 ⟨x, by rw [hb]; simp, rfl⟩)
        obtain ⟨e, he, h3⟩ := List.mem_map.1 h1
        have h4 := (hmem e).2 ⟨he, by rw [h3, hb]; simp⟩
        rw [hl] at h4
        simp at h4
    refine .inl ⟨w, ?_, k0 (by rw [hbl]; rfl) w ?_⟩
    · rw [hrun, hl]
      simp [run_choose, Question.forced]
    · subst hbl
      exact iterC_shut hm ⟨⟨bd, [], hp, hseen, rfl, rfl⟩, hi.step⟩ h
  | false =>
    have hsz : 0 < left.size := by
      rcases Nat.eq_zero_or_pos left.size with h0 | h0
      · have : left = #[] := by simpa using h0
        rw [this] at hemp; cases hemp
      · exact h0
    rw [hemp] at hrun
    simp only [Bool.false_eq_true, if_false, Array.empty_append, Array.size_map] at hrun
    obtain ⟨c, w1, hc, hlt, hw1⟩ := run_choose_lt (P := P) hsz w
    have hlc : left[c]? = some left[c] := Array.getElem?_eq_getElem hlt
    have hein : left[c] ∈ left.toList := by
      rw [← Array.getElem?_toList] at hlc
      exact List.mem_of_getElem? hlc
    obtain ⟨hees, heb⟩ := (hmem left[c]).1 hein
    generalize left[c] = e at hlc hein hees heb
    -- its pair
    obtain ⟨i, hi1, hi2⟩ := List.getElem_of_mem hees
    have hik : i < kvs.length := by rw [← hm.len, ← Array.length_toList]; exact hi1
    have hpair : (e.born, kvs[i]) ∈ (es.toList.map (·.born)).zip kvs := by
      refine List.mem_iff_getElem?.2 ⟨i, ?_⟩
      rw [List.getElem?_zip_eq_some]
      exact ⟨by rw [List.getElem?_map, List.getElem?_eq_getElem hi1, hi2]; rfl, List.getElem?_eq_getElem hik⟩
    have hbl : (e.born, kvs[i]) ∈ bl := by
      have h1 := hp.mem_iff.1 hpair
      rcases List.mem_append.1 h1 with h1 | h1
      · exfalso
        rw [List.map_append, List.nodup_append] at hnd
        exact hnd.2.2 _ (List.mem_map.2 ⟨_, h1, rfl⟩) _ heb rfl
      · exact h1
    have hkey : e.key = enc kvs[i].1 := by
      have := congrArg (fun l => l[i]?) hm.keys
      simp only [List.getElem?_map, List.getElem?_eq_getElem hi1, List.getElem?_eq_getElem hik, Option.map_some, hi2] at this
      exact Option.some.inj this
    have hval : e.val = encv kvs[i].2 := by
      have := congrArg (fun l => l[i]?) hm.vals
      simp only [List.getElem?_map, List.getElem?_eq_getElem hi1, List.getElem?_eq_getElem hik, Option.map_some, hi2] at this
      exact Option.some.inj this
    obtain ⟨bl1, bl2, hbl12⟩ := List.append_of_mem hbl
    have hperm : bl.Perm ((e.born, kvs[i]) :: (bl1 ++ bl2)) := by rw [hbl12]; exact List.perm_middle
    have h3 : St w0 O (blk it (.mapIter (some g) clk seen stepped) :: blk g (.map es clk) :: R) w1 := by
      rcases hw1 with rfl | rfl
      · exact h2
      · exact h2.drew
    have hit1 := h3.get.1
    refine .inr ⟨e.key, e.val, { w1 with heap := w1.heap.setIfInBounds it (.mapIter (some g) clk (seen.push e.born) clk) }, ?_, ?_⟩
    · rw [hrun, hc]
      simp only [Result.andThen_ok]
      have : (left.map some)[c]? = some (some e) := by rw [Array.getElem?_map, hlc]; rfl
      rw [this]
      simp only [Sem.run_bind]
      have hs : (setObj it (.mapIter (some g) clk (seen.push e.born) clk)).run P w1 = .ok () { w1 with heap := w1.heap.setIfInBounds it (.mapIter (some g) clk (seen.push e.born) clk) } := by
        simp [Go.setObj, Sem.run, hit1]
      rw [hs]
      rfl
    · rw [hkey, hval]
      refine k1 kvs[i] ((bl1 ++ bl2).map (·.2)) (hperm.map (·.2)) _ ?_
      refine iterC_shut hm ⟨⟨bd ++ [(e.born, kvs[i])], bl1 ++ bl2, hp.trans ?_, by simp [hseen], by simp, rfl⟩, .inr rfl⟩ ((h3.setObj).pick (.there .here))
      rw [List.append_assoc]
      exact List.Perm.append_left _ hperm
/-- The entry that came last. -/
theorem entry_of {x : α × β} (h : St w0 O L w) (p : Pick (iterC it g enc encv kvs (dn ++ [x]) lf) L R) :
    (Instr.entry (.pointer (some ⟨it, 0, none⟩))).run P w = .ok (.tuple #[enc x.1, encv x.2]) w := by
  obtain ⟨es, clk, seen, stepped, ⟨hm, hi⟩, h⟩ := iterC_open (h.pick p)
  have hg := h.get.1
  have hit := (h.pick (.there .here)).get.1
  obtain ⟨bd, bl, hp, hseen, hdn, hlf⟩ := hi.split
  obtain ⟨bd', y, rfl⟩ : ∃ bd' y, bd = bd' ++ [y] := by
    rcases List.eq_nil_or_concat bd with rfl | ⟨l, a, rfl⟩
    · simp at hdn
    · exact ⟨l, a, by simp⟩
  obtain ⟨b, x'⟩ := y
  have hx : x' = x := by
    simp only [List.map_append, List.map_cons, List.map_nil] at hdn
    have := (List.append_inj' hdn rfl).2
    simpa using this.symm
  subst hx
  have hst : stepped = clk := by
    rcases hi.step with e | e
    · rw [e] at hseen; simp at hseen
    · exact e
  have hback : seen.back? = some b := by
    rw [Array.back?_eq_getElem?, ← Array.getElem?_toList, ← Array.length_toList, hseen]
    simp
  have hmem : (b, x') ∈ (es.toList.map (·.born)).zip kvs := hp.mem_iff.2 (by simp)
  obtain ⟨i, hi0⟩ := List.mem_iff_getElem?.1 hmem
  rw [List.getElem?_zip_eq_some] at hi0
  obtain ⟨hb, hk⟩ := hi0
  rw [List.getElem?_map] at hb
  obtain ⟨e, he, rfl⟩ := Option.map_eq_some_iff.1 hb
  have hfind : es.find? (fun y => y.born == e.born) = some e := by
    rw [← Array.find?_toList]
    have huniq : ∀ y ∈ es.toList, y.born = e.born → y = e := fun y hy hbe => by
      obtain ⟨j, hj1, hj2⟩ := List.getElem_of_mem hy
      obtain ⟨hi1, hi2⟩ := List.getElem?_eq_some_iff.1 he
      have hu := hm.uniq
      have hji : j = i := by
        have h1 : j < (es.toList.map (·.born)).length := by simpa using hj1
        have h2 : i < (es.toList.map (·.born)).length := by simpa using hi1
        refine (List.getElem_inj (h₀ := h1) (h₁ := h2) hu).1 ?_
        simp only [List.getElem_map, hj2, hi2, hbe]
      subst hji
      rw [← hj2, hi2]
    cases hf : es.toList.find? (fun y => y.born == e.born) with
    | none =>
      have := List.find?_eq_none.1 hf e (List.mem_of_getElem? he)
      simp at this
    | some y =>
      have h1 := List.find?_some hf
      have h2 := List.mem_of_find?_eq_some hf
      rw [huniq y h2 (by simpa using h1)]
  have hkey : e.key = enc x'.1 := by
    have := congrArg (fun l => l[i]?) hm.keys
    simp only [List.getElem?_map, he, hk, Option.map_some] at this
    exact Option.some.inj this
  have hval : e.val = encv x'.2 := by
    have := congrArg (fun l => l[i]?) hm.vals
    simp only [List.getElem?_map, he, hk, Option.map_some] at this
    exact Option.some.inj this
  have hgi : (getObj it).run P w = .ok (.mapIter (some g) clk seen stepped) w := by simp [getObj, Sem.run, hit]
  unfold Instr.entry
  simp only [Sem.run_bind, hgi, Result.andThen_ok, hback, run_getObj_map hg, hst, bne_self_eq_false, Bool.false_eq_true, if_false, hfind, hkey, hval]
  rfl
end
end Go.Proofs.YthfcnkeclcphpaaDoor
