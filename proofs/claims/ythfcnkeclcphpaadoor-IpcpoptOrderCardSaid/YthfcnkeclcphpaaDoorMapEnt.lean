/- An entry of a map is made first, and filled then. -/
import Derived.Test.YthfcnkeclcphpaaDoorMapMem
set_option linter.unusedVariables false
set_option linter.unusedSimpArgs false
namespace Go.Proofs.YthfcnkeclcphpaaDoor
open Go Go.RowKit

section
variable {P : Program} {w0 w : World} {O : Nat → Prop} {L R : List Assn} {g : Nat} {α β : Type} [DecidableEq α] {enc : α → Value} {encv : β → Value} {kvs : List (α × β)} {t kt et : TypeId}
theorem mset_mset (l : List (α × β)) (k : α) (u v : β) : mset (mset l k u) k v = mset l k v := by
  induction l with
  | nil => simp [mset]
  | cons p r ih =>
    obtain ⟨a, b⟩ := p
    simp only [mset]
    split
    · rename_i e; simp [mset]
    · rename_i e; simp [mset, e, ih]
theorem midx_snoc {l : List α} {k : α} (h : k ∉ l) : midx (l ++ [k]) k = some l.length := by
  induction l with
  | nil => simp [midx]
  | cons a r ih =>
    simp only [List.mem_cons, not_or] at h
    simp only [List.cons_append, midx, if_neg (Ne.symm h.1), List.length_cons]
    rw [ih h.2]
    rfl
theorem midx_mset {l : List (α × β)} {k : α} {v : β} {i : Nat} (h : midx (l.map (·.1)) k = some i) : midx ((mset l k v).map (·.1)) k = some i := by
  rw [mset_keys, if_pos (List.mem_of_getElem? (midx_lt h).2), h]
/-- The entry of a key stands, with some value; its stamp is n. -/
def mapE (g : Nat) (enc : α → Value) (encv : β → Value) (kvs : List (α × β)) (k : α) (n : Int) : Assn := fun h => ∃ es clk u i, (MapIs enc encv es clk (mset kvs k u) ∧ midx ((mset kvs k u).map (·.1)) k = some i ∧ ∃ e, es[i]? = some e ∧ ((e.born : Nat) : Int) = n) ∧ blk g (.map es clk) h
attribute [irreducible] mapE
theorem mapE_open {k : α} {n : Int} (h : St w0 O (mapE g enc encv kvs k n :: L) w) : ∃ es clk u i, (MapIs enc encv es clk (mset kvs k u) ∧ midx ((mset kvs k u).map (·.1)) k = some i ∧ ∃ e, es[i]? = some e ∧ ((e.born : Nat) : Int) = n) ∧ St w0 O (blk g (.map es clk) :: L) w := by
  unfold mapE at h
  obtain ⟨es, h⟩ := h.ex
  obtain ⟨clk, h⟩ := h.ex
  obtain ⟨u, h⟩ := h.ex
  obtain ⟨i, h⟩ := h.ex
  obtain ⟨hp, h⟩ := h.pure
  exact ⟨es, clk, u, i, hp, h⟩
theorem mapEntry_W (h : St w0 O L w) (p : Pick (mapC g enc encv kvs) L R) (ht : P.underlying t = some (.map kt et)) (KT : KeyT P kt enc) {z : β} (hz : zeroOf P et = some (encv z)) (k : α) :
    ∃ (v : β) (n : Int) (w' : World), (Instr.mapEntry t (.map (some g)) (enc k)).run P w = .ok (.tuple #[encv v, .int .i64 n]) w' ∧ St w0 O (mapE g enc encv kvs k n :: R) w' := by
  obtain ⟨es, clk, hm, h⟩ := mapC_open (h.pick p)
  have hg := h.get.1
  unfold Instr.mapEntry
  simp only [Sem.run_bind, run_underlying ht, Result.andThen_ok, run_getObj_map hg, KT.check, find_key KT k es.toList (kvs.map (·.1)) hm.keys']
  cases hi : midx (kvs.map (·.1)) k with
  | none =>
    simp only [Option.bind_none, Sem.run_bind, run_zero hz, Result.andThen_ok]
    rw [run_setObj_map hg]
    refine ⟨z, clk, _, rfl, (h.setMap).imp fun hh hk => ?_⟩
    unfold mapE
    have hnew := hm.set_new (v := z) hi
    refine ⟨_, _, z, kvs.length, ⟨hnew, ?_, ?_⟩, hk⟩
    · rw [mset_none hi, List.map_append, List.map_cons, List.map_nil, midx_snoc (midx_none.1 hi), List.length_map]
    · refine ⟨{ key := enc k, val := encv z, born := clk }, ?_, rfl⟩
      rw [← hm.len]
      simp
  | some i =>
    have hlt' : i < kvs.length := by simpa using (midx_lt hi).1
    have h2 : i < es.toList.length := by rw [Array.length_toList, hm.len]; exact hlt'
    have h2' : i < es.size := by simpa using h2
    have hkey : ((es[i]?).map (·.key)).getD (enc k) = enc k := by
      have h3 : (es.toList.map (·.key))[i]? = some (enc k) := by
        rw [hm.keys', List.getElem?_map, (midx_lt hi).2]; rfl
      rw [List.getElem?_map, Array.getElem?_toList] at h3
      rw [h3]; rfl
    have hval : es.toList[i].val = encv (kvs[i]).2 := by
      have h3 := hm.val_at i
      rw [List.getElem?_eq_getElem h2, List.getElem?_eq_getElem hlt'] at h3
      exact Option.some.inj h3
    simp only [Option.bind_some, List.getElem?_eq_getElem h2, Option.map_some, Sem.run_bind]
    rw [hkey]
    simp only [Instr.keyThatStays, KT.same, if_true, Sem.run_pure, Result.andThen_ok]
    rw [run_setObj_map hg]
    refine ⟨(kvs[i]).2, _, _, by rw [hval]; rfl, (h.setMap).imp fun hh hk => ?_⟩
    have hold := hm.set_old (v := (kvs[i]).2) hi
    have hmod : (es.modify i fun e => { e with key := enc k }) = es.modify i fun e => { e with key := enc k, val := encv (kvs[i]).2 } := by
      apply Array.ext_getElem?
      intro j
      rw [Array.getElem?_modify, Array.getElem?_modify]
      by_cases hij : i = j
      · subst hij
        rw [if_pos rfl, if_pos rfl, Array.getElem?_eq_getElem h2']
        simp only [Option.map_some]
        rw [show es[i].val = encv (kvs[i]).2 from by rw [← hval, Array.getElem_toList]] <;> rfl
      · rw [if_neg hij, if_neg hij]
    unfold mapE
    refine ⟨_, _, (kvs[i]).2, i, ⟨?_, midx_mset hi, ?_⟩, hk⟩
    · rw [hmod]
      exact hold
    · refine ⟨{ es[i] with key := enc k }, ?_, ?_⟩
      · rw [Array.getElem?_modify, if_pos rfl, Array.getElem?_eq_getElem h2']
        rfl
      · rw [Array.getElem?_eq_getElem h2']
        rfl
theorem entryStore_W {K : World → Prop} {k : α} {n : Int} (h : St w0 O L w) (p : Pick (mapE g enc encv kvs k n) L R) (u : TypeId) (v : β) (kk : ∀ w', St w0 O (mapC g enc encv (mset kvs k v) :: R) w' → K w') :
    prU P (Instr.entryStore u (.map (some g)) (.int .i64 n) (encv v)) w K := by
  obtain ⟨es, clk, u0, i, ⟨hm, hi, e, he, hn⟩, h⟩ := mapE_open (h.pick p)
  have hg := h.get.1
  have hlt := (Array.getElem?_eq_some_iff.1 he).1
  have hf : es.findIdx? (fun e => ((e.born : Nat) : Int) == n) = some i := by
    rw [Array.findIdx?_eq_some_iff_getElem]
    refine ⟨hlt, ?_, fun j hj => ?_⟩
    · have : es[i] = e := by rw [Array.getElem?_eq_getElem hlt] at he; exact Option.some.inj he
      rw [this]
      simpa using hn
    · have hjs : j < es.size := by omega
      have hu := hm.uniq
      intro hb
      have hb : ((es[j].born : Nat) : Int) = n := by simpa using hb
      have hei : es[i] = e := by rw [Array.getElem?_eq_getElem hlt] at he; exact Option.some.inj he
      have hbb : es[j].born = es[i].born := by rw [hei]; omega
      have := (List.getElem_inj (h₀ := by simpa using hjs) (h₁ := by simpa using hlt) hu).1 (show (es.toList.map (·.born))[j]'(by simpa using hjs) = (es.toList.map (·.born))[i]'(by simpa using hlt) by simpa using hbb)
      omega
  refine ⟨{ w with heap := w.heap.setIfInBounds g (.map (es.modify i fun e => { e with val := encv v }) clk) }, ?_, kk _ ?_⟩
  · unfold Instr.entryStore
    have ha : (asInt (.int .i64 n)).run P w = .ok n w := by simp [asInt, asIntOf]
    simp only [Sem.run_bind, run_getObj_map hg, Result.andThen_ok, ha, hf]
    rw [run_setObj_map hg]
  · refine mapC_shut ?_ h.setMap
    have h1 := hm.set_old (v := v) hi
    rw [mset_mset] at h1
    have hk := hm.keys'
    have hmod : (es.modify i fun e => { e with val := encv v }) = es.modify i fun e => { e with key := enc k, val := encv v } := by
      apply Array.ext_getElem?
      intro j
      rw [Array.getElem?_modify, Array.getElem?_modify]
      by_cases hij : i = j
      · subst hij
        rw [if_pos rfl, if_pos rfl, Array.getElem?_eq_getElem hlt]
        simp only [Option.map_some]
        have h3 : (es.toList.map (·.key))[i]? = some (enc k) := by
          rw [hk, List.getElem?_map, (midx_lt hi).2]; rfl
        rw [List.getElem?_map, Array.getElem?_toList, Array.getElem?_eq_getElem hlt] at h3
        rw [show es[i].key = enc k from Option.some.inj h3] <;> rfl
      · rw [if_neg hij, if_neg hij]
    rw [hmod]
    exact h1
end
end Go.Proofs.YthfcnkeclcphpaaDoor
