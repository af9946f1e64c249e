/- Steps of maps. -/
import Derived.Test.YthfcnkeclcphpaaDoorMem
set_option linter.unusedVariables false
set_option linter.unusedSimpArgs false
namespace Go.Proofs.YthfcnkeclcphpaaDoor
open Go Go.RowKit

/-! ### 1. Association lists -/
section
variable {α β : Type} [DecidableEq α]
def mget : List (α × β) → α → Option β
  | [], _ => none
  | (a, b) :: r, k => if a = k then some b else mget r k
def mset : List (α × β) → α → β → List (α × β)
  | [], k, v => [(k, v)]
  | (a, b) :: r, k, v => if a = k then (k, v) :: r else (a, b) :: mset r k v
def mdel : List (α × β) → α → List (α × β)
  | [], _ => []
  | (a, b) :: r, k => if a = k then r else (a, b) :: mdel r k
/-- Where a key stands. -/
def midx : List α → α → Option Nat
  | [], _ => none
  | a :: r, k => if a = k then some 0 else (midx r k).map (· + 1)
theorem mget_midx (l : List (α × β)) (k : α) : mget l k = (midx (l.map (·.1)) k).bind fun i => (l.map (·.2))[i]? := by
  induction l with
  | nil => rfl
  | cons p r ih =>
    obtain ⟨a, b⟩ := p
    simp only [mget, List.map_cons, midx]
    split
    · rfl
    · rw [ih]
      cases midx (r.map (·.1)) k <;> simp
theorem midx_lt : ∀ {l : List α} {k : α} {i : Nat}, midx l k = some i → i < l.length ∧ l[i]? = some k
  | [], _, _, h => by simp [midx] at h
  | a :: r, k, i, h => by
    simp only [midx] at h
    split at h
    · rename_i e
      obtain rfl := Option.some.inj h
      exact ⟨by simp, by simp [e]⟩
    · obtain ⟨j, hj, rfl⟩ := Option.map_eq_some_iff.1 h
      obtain ⟨h1, h2⟩ := midx_lt hj
      exact ⟨by simp; omega, by simpa using h2⟩
theorem midx_none : ∀ {l : List α} {k : α}, midx l k = none ↔ k ∉ l
  | [], _ => by simp [midx]
  | a :: r, k => by
    simp only [midx]
    split
    · rename_i e; simp [e]
    · rename_i e
      rw [Option.map_eq_none_iff, midx_none]
      simp [Ne.symm e]
theorem mset_none {l : List (α × β)} {k : α} {v : β} (h : midx (l.map (·.1)) k = none) : mset l k v = l ++ [(k, v)] := by
  induction l with
  | nil => rfl
  | cons p r ih =>
    obtain ⟨a, b⟩ := p
    simp only [List.map_cons, midx] at h
    split at h
    · cases h
    · rename_i e
      simp only [mset, if_neg e, List.cons_append]
      rw [ih (by simpa using h)]
theorem mset_some {l : List (α × β)} {k : α} {v : β} {i : Nat} (h : midx (l.map (·.1)) k = some i) : mset l k v = l.modify i fun _ => (k, v) := by
  induction l generalizing i with
  | nil => simp [midx] at h
  | cons p r ih =>
    obtain ⟨a, b⟩ := p
    simp only [List.map_cons, midx] at h
    split at h
    · rename_i e
      obtain rfl := Option.some.inj h
      simp [mset, if_pos e]
    · rename_i e
      obtain ⟨j, hj, rfl⟩ := Option.map_eq_some_iff.1 h
      simp [mset, if_neg e, ih hj]
theorem mdel_none {l : List (α × β)} {k : α} (h : midx (l.map (·.1)) k = none) : mdel l k = l := by
  induction l with
  | nil => rfl
  | cons p r ih =>
    obtain ⟨a, b⟩ := p
    simp only [List.map_cons, midx] at h
    split at h
    · cases h
    · rename_i e
      simp only [mdel, if_neg e]
      rw [ih (by simpa using h)]
theorem mdel_some {l : List (α × β)} {k : α} {i : Nat} (h : midx (l.map (·.1)) k = some i) : mdel l k = l.eraseIdx i := by
  induction l generalizing i with
  | nil => simp [midx] at h
  | cons p r ih =>
    obtain ⟨a, b⟩ := p
    simp only [List.map_cons, midx] at h
    split at h
    · rename_i e
      obtain rfl := Option.some.inj h
      simp [mdel, if_pos e]
    · rename_i e
      obtain ⟨j, hj, rfl⟩ := Option.map_eq_some_iff.1 h
      simp [mdel, if_neg e, ih hj]
theorem mset_keys {l : List (α × β)} {k : α} {v : β} : (mset l k v).map (·.1) = if k ∈ l.map (·.1) then l.map (·.1) else l.map (·.1) ++ [k] := by
  induction l with
  | nil => simp [mset]
  | cons p r ih =>
    obtain ⟨a, b⟩ := p
    by_cases e : a = k
    · simp [mset, e]
    · simp only [mset, if_neg e, List.map_cons, ih, List.mem_cons, Ne.symm e, false_or]
      split <;> simp
theorem nodup_mset {l : List (α × β)} {k : α} {v : β} (h : (l.map (·.1)).Nodup) : ((mset l k v).map (·.1)).Nodup := by
  rw [mset_keys]
  split
  · exact h
  · rename_i hk
    rw [List.nodup_append]
    exact ⟨h, by simp, fun a ha b hb => by simp at hb; subst hb; exact fun e => hk (e ▸ ha)⟩
theorem mdel_sub {l : List (α × β)} {k : α} : (mdel l k).Sublist l := by
  induction l with
  | nil => exact .slnil
  | cons p r ih =>
    obtain ⟨a, b⟩ := p
    simp only [mdel]
    split
    · exact List.sublist_cons_self _ _
    · exact ih.cons_cons _
theorem nodup_mdel {l : List (α × β)} {k : α} (h : (l.map (·.1)).Nodup) : ((mdel l k).map (·.1)).Nodup := (mdel_sub.map _).nodup h
end

/-! ### 2. Keys -/
/-- What a map asks of its keys. -/
structure KeyT (P : Program) (kt : TypeId) {α : Type} [DecidableEq α] (enc : α → Value) : Prop where
  check : ∀ b a w, (Instr.checkKey b 10000 kt (enc a)).run P w = .ok () w
  eql : ∀ a b w, (Op.equal kt (enc a) (enc b)).run P w = .ok (decide (a = b)) w
  kind : ∃ d, P.underlying kt = some d ∧ ∀ a b, Instr.sameNow d (enc a) (enc b) = none ∨ Instr.sameNow d (enc a) (enc b) = some (decide (a = b))
  same : ∀ a, Instr.sameBits 10000 (enc a) (enc a) = true
section
variable {P : Program} {kt : TypeId} {α : Type} [DecidableEq α] {enc : α → Value} {w : World}
theorem find_now {d : TypeDesc} (hd : ∀ a b, Instr.sameNow d (enc a) (enc b) = none ∨ Instr.sameNow d (enc a) (enc b) = some (decide (a = b))) (k : α) :
    ∀ (es : List MapEntry) (ks : List α) (i : Nat), es.map (·.key) = ks.map enc → Instr.findNow d (enc k) es i = none ∨ Instr.findNow d (enc k) es i = some ((midx ks k).bind fun j => (es[j]?).map fun e => (i + j, e.val))
  | [], [], i, _ => .inr rfl
  | [], _ :: _, _, h => by simp at h
  | _ :: _, [], _, h => by simp at h
  | e :: es, a :: ks, i, h => by
    simp only [List.map_cons, List.cons.injEq] at h
    obtain ⟨he, hr⟩ := h
    simp only [Instr.findNow, he]
    rcases hd k a with h1 | h1
    · rw [h1]; exact .inl rfl
    · rw [h1]
      by_cases e1 : k = a
      · subst e1
        simp [midx]
      · simp only [e1, decide_false, midx]
        rw [if_neg (Ne.symm e1)]
        rcases find_now hd k es ks (i + 1) hr with h2 | h2
        · exact .inl h2
        · refine .inr ?_
          rw [h2]
          cases midx ks k with
          | none => rfl
          | some j => simp [Nat.add_assoc, Nat.add_comm 1 j]
theorem find_asking (K : KeyT P kt enc) (k : α) : ∀ (es : List MapEntry) (ks : List α) (i : Nat), es.map (·.key) = ks.map enc → ∀ w, (Instr.findAsking kt (enc k) es i).run P w = .ok ((midx ks k).bind fun j => (es[j]?).map fun e => (i + j, e.val)) w
  | [], [], i, _, w => rfl
  | [], _ :: _, _, h, _ => by simp at h
  | _ :: _, [], _, h, _ => by simp at h
  | e :: es, a :: ks, i, h, w => by
    simp only [List.map_cons, List.cons.injEq] at h
    obtain ⟨he, hr⟩ := h
    simp only [Instr.findAsking, he, Sem.run_bind, K.eql, Result.andThen_ok, Sem.run_ite, Sem.run_pure]
    by_cases e1 : k = a
    · subst e1
      simp [midx]
    · simp only [e1, decide_false, Bool.false_eq_true, if_false, midx]
      rw [if_neg (Ne.symm e1), find_asking K k es ks (i + 1) hr]
      cases midx ks k with
      | none => rfl
      | some j => simp [Nat.add_assoc, Nat.add_comm 1 j]
theorem find_key (K : KeyT P kt enc) (k : α) (es : List MapEntry) (ks : List α) (h : es.map (·.key) = ks.map enc) (w : World) :
    (Instr.findKey kt (enc k) es).run P w = .ok ((midx ks k).bind fun j => (es[j]?).map fun e => (j, e.val)) w := by
  obtain ⟨d, hu, hd⟩ := K.kind
  unfold Instr.findKey
  simp only [Sem.run_bind, run_underlying hu, Result.andThen_ok]
  rcases find_now hd k es ks 0 h with h1 | h1
  · rw [h1]
    simpa using find_asking K k es ks 0 h w
  · rw [h1]
    simp
theorem ba_beq (a b : ByteArray) : (a == b) = decide (a = b) := by
  obtain ⟨x⟩ := a
  obtain ⟨y⟩ := b
  show (x == y) = _
  rw [Bool.eq_iff_iff, beq_iff_eq, decide_eq_true_eq, ByteArray.mk.injEq]
theorem check_plain {k : Value} {d : TypeDesc} (hu : P.underlying kt = some d) (hd : match d, k with
    | .int _, .int _ _ | .string, .string _ | .bool, .bool _ => True
    | _, _ => False) (b : Bool) (w : World) : (Instr.checkKey b 10000 kt k).run P w = .ok () w := by
  show (Instr.checkKey b (9999 + 1) kt k).run P w = _
  generalize 9999 = n
  unfold Instr.checkKey
  simp only [Sem.run_bind, run_underlying hu, Result.andThen_ok]
  split at hd
  · rfl
  · rfl
  · rfl
  · exact hd.elim
theorem keyT_int {k : IntKind} (hu : P.underlying kt = some (.int k)) : KeyT P kt (fun n : Int => Value.int k n) where
  check := fun b a w => check_plain hu trivial b w
  eql := fun a b w => by
    show (Op.equalIn (9999 + 1) kt (.int k a) (.int k b)).run P w = _
    generalize 9999 = n
    rw [run_equalIn_int w n kt k k a b hu]
    rfl
  kind := ⟨_, hu, fun a b => .inr (by simp [Instr.sameNow]; rfl)⟩
  same := fun a => by simp [Instr.sameBits]
theorem keyT_str (hu : P.underlying kt = some .string) : KeyT P kt (fun s : ByteArray => Value.string s) where
  check := fun b a w => check_plain hu trivial b w
  eql := fun a b w => by
    show (Op.equalIn (9999 + 1) kt (.string a) (.string b)).run P w = _
    generalize 9999 = n
    rw [run_equalIn_string w n kt a b hu, ← beq_toListBytes, ba_beq]
  kind := ⟨_, hu, fun a b => .inr (by simp [Instr.sameNow, ba_beq])⟩
  same := fun a => by simp [Instr.sameBits, ba_beq]

end

/-! ### 3. A map in its block -/
structure MapIs {α β : Type} [DecidableEq α] (enc : α → Value) (encv : β → Value) (es : Array MapEntry) (clk : Nat) (kvs : List (α × β)) : Prop where
  keys : es.toList.map (·.key) = kvs.map fun p => enc p.1
  vals : es.toList.map (·.val) = kvs.map fun p => encv p.2
  nodup : (kvs.map (·.1)).Nodup
  born : ∀ e ∈ es.toList, e.born < clk
  uniq : (es.toList.map (·.born)).Nodup
section
variable {α β : Type} [DecidableEq α] {enc : α → Value} {encv : β → Value} {es : Array MapEntry} {clk : Nat} {kvs : List (α × β)}
theorem MapIs.empty : MapIs enc encv #[] 0 ([] : List (α × β)) := ⟨rfl, rfl, by simp, by simp, by simp⟩
theorem MapIs.keys' (h : MapIs enc encv es clk kvs) : es.toList.map (·.key) = (kvs.map (·.1)).map enc := by rw [h.keys, List.map_map]; rfl
theorem MapIs.len (h : MapIs enc encv es clk kvs) : es.size = kvs.length := by
  have := congrArg List.length h.keys
  simpa using this
theorem MapIs.val_at (h : MapIs enc encv es clk kvs) (i : Nat) : (es.toList[i]?).map (·.val) = (kvs[i]?).map fun p => encv p.2 := by
  rw [← List.getElem?_map, h.vals, List.getElem?_map]
theorem list_modify_map {γ δ : Type} (f : γ → δ) (g : γ → γ) (g' : δ → δ) (hg : ∀ x, f (g x) = g' (f x)) : ∀ (l : List γ) (i : Nat), (l.modify i g).map f = (l.map f).modify i g'
  | [], _ => by simp
  | x :: r, 0 => by simp [hg]
  | x :: r, i + 1 => by simp [list_modify_map f g g' hg r i]
theorem list_modify_self {γ : Type} (g : γ → γ) : ∀ (l : List γ) (i : Nat), (∀ x, l[i]? = some x → g x = x) → l.modify i g = l
  | [], _, _ => by simp
  | x :: r, 0, h => by simp [h x rfl]
  | x :: r, i + 1, h => by simp [list_modify_self g r i (fun y hy => h y (by simpa using hy))]
theorem map_eraseIdx' {γ δ : Type} (f : γ → δ) : ∀ (l : List γ) (i : Nat), (l.eraseIdx i).map f = (l.map f).eraseIdx i
  | [], _ => by simp
  | x :: r, 0 => by simp
  | x :: r, i + 1 => by simp [map_eraseIdx' f r i]
theorem MapIs.set_old (h : MapIs enc encv es clk kvs) {k : α} {v : β} {i : Nat} (hi : midx (kvs.map (·.1)) k = some i) :
    MapIs enc encv (es.modify i fun e => { e with key := enc k, val := encv v }) clk (mset kvs k v) := by
  have hk : (kvs.map (·.1))[i]? = some k := (midx_lt hi).2
  refine ⟨?_, ?_, nodup_mset h.nodup, fun e he => ?_, ?_⟩
  · rw [mset_some hi, Array.toList_modify]
    rw [list_modify_map (fun e : MapEntry => e.key) _ (fun _ => enc k) (fun _ => rfl), list_modify_map (fun p : α × β => enc p.1) _ (fun _ => enc k) (fun _ => rfl), h.keys]
  · rw [mset_some hi, Array.toList_modify]
    rw [list_modify_map (fun e : MapEntry => e.val) _ (fun _ => encv v) (fun _ => rfl), list_modify_map (fun p : α × β => encv p.2) _ (fun _ => encv v) (fun _ => rfl), h.vals]
  · rw [Array.toList_modify] at he
    have h1 : e.born ∈ (es.toList.modify i fun e => { e with key := enc k, val := encv v }).map (·.born) := List.mem_map.2 ⟨e, he, rfl⟩
    rw [list_modify_map (fun e : MapEntry => e.born) (fun e => { e with key := enc k, val := encv v }) id (fun _ => rfl), list_modify_self id _ _ (fun _ _ => rfl)] at h1
    obtain ⟨e', he', h2⟩ := List.mem_map.1 h1
    rw [← h2]; exact h.born e' he'
  · rw [Array.toList_modify, list_modify_map (fun e : MapEntry => e.born) (fun e => { e with key := enc k, val := encv v }) id (fun _ => rfl), list_modify_self id _ _ (fun _ _ => rfl)]
    exact h.uniq
theorem MapIs.set_new (h : MapIs enc encv es clk kvs) {k : α} {v : β} (hi : midx (kvs.map (·.1)) k = none) :
    MapIs enc encv (es.push { key := enc k, val := encv v, born := clk }) (clk + 1) (mset kvs k v) := by
  refine ⟨?_, ?_, nodup_mset h.nodup, fun e he => ?_, ?_⟩
  · rw [mset_none hi]; simp [h.keys]
  · rw [mset_none hi]; simp [h.vals]
  · simp only [Array.toList_push, List.mem_append, List.mem_singleton] at he
    rcases he with he | he
    · have := h.born e he; omega
    · subst he; simp
  · simp only [Array.toList_push, List.map_append, List.map_cons, List.map_nil]
    rw [List.nodup_append]
    refine ⟨h.uniq, by simp, fun a ha b hb => ?_⟩
    simp at hb
    subst hb
    obtain ⟨e, he, rfl⟩ := List.mem_map.1 ha
    have := h.born e he
    omega
theorem MapIs.del (h : MapIs enc encv es clk kvs) {k : α} {i : Nat} (hi : midx (kvs.map (·.1)) k = some i) : MapIs enc encv (es.eraseIdxIfInBounds i) clk (mdel kvs k) := by
  have hlt : i < es.size := by rw [h.len]; simpa using (midx_lt hi).1
  have he : (es.eraseIdxIfInBounds i).toList = es.toList.eraseIdx i := by
    rw [Array.eraseIdxIfInBounds, dif_pos hlt]; simp
  refine ⟨?_, ?_, nodup_mdel h.nodup, fun e hm => ?_, ?_⟩
  · rw [he, mdel_some hi, map_eraseIdx', map_eraseIdx', h.keys]
  · rw [he, mdel_some hi, map_eraseIdx', map_eraseIdx', h.vals]
  · rw [he] at hm
    exact h.born e (List.mem_of_mem_eraseIdx hm)
  · rw [he, map_eraseIdx']
    exact (List.eraseIdx_sublist _ _).nodup h.uniq
end
def mapC {α β : Type} [DecidableEq α] (g : Nat) (enc : α → Value) (encv : β → Value) (kvs : List (α × β)) : Assn := fun h => ∃ es clk, MapIs enc encv es clk kvs ∧ blk g (.map es clk) h
attribute [irreducible] mapC
section
variable {P : Program} {w0 w : World} {O : Nat → Prop} {L R : List Assn} {g : Nat} {α β : Type} [DecidableEq α] {enc : α → Value} {encv : β → Value} {kvs : List (α × β)} {t kt et : TypeId}
theorem mapC_open (h : St w0 O (mapC g enc encv kvs :: L) w) : ∃ es clk, MapIs enc encv es clk kvs ∧ St w0 O (blk g (.map es clk) :: L) w := by
  unfold mapC at h
  obtain ⟨es, h⟩ := h.ex
  obtain ⟨clk, h⟩ := h.ex
  obtain ⟨hm, h⟩ := h.pure
  exact ⟨es, clk, hm, h⟩
theorem mapC_shut {es : Array MapEntry} {clk : Nat} (hm : MapIs enc encv es clk kvs) (h : St w0 O (blk g (.map es clk) :: L) w) : St w0 O (mapC g enc encv kvs :: L) w :=
  h.imp fun k hk => by unfold mapC; exact ⟨es, clk, hm, hk⟩
theorem mapC_nodup (h : St w0 O (mapC g enc encv kvs :: L) w) : (kvs.map (·.1)).Nodup := let ⟨_, _, hm, _⟩ := mapC_open h; hm.nodup
theorem run_getObj_map {es : Array MapEntry} {clk : Nat} (h : w.heap[g]? = some (.map es clk)) : (getObj g).run P w = .ok (.map es clk) w := by
  simp [getObj, Sem.run, h]
theorem run_setObj_map {es es' : Array MapEntry} {clk clk' : Nat} (h : w.heap[g]? = some (.map es clk)) : (setObj g (.map es' clk')).run P w = .ok () { w with heap := w.heap.setIfInBounds g (.map es' clk') } := by
  simp [setObj, Sem.run, h]
theorem St.setMap {es es' : Array MapEntry} {clk clk' : Nat} (h : St w0 O (blk g (.map es clk) :: L) w) : St w0 O (blk g (.map es' clk') :: L) { w with heap := w.heap.setIfInBounds g (.map es' clk') } :=
  h.write rfl rfl rfl (by simp) (by have := h.lt; simp [this]) (fun b hb => by simp [Array.getElem?_setIfInBounds_ne (Ne.symm hb)])
theorem run_lookup (ht : P.underlying t = some (.map kt et)) (K : KeyT P kt enc) {z : Value} (hz : zeroOf P et = some z) (k : α) (ok : Bool) {es : Array MapEntry} {clk : Nat} (hm : MapIs enc encv es clk kvs) (h : w.heap[g]? = some (.map es clk)) :
    (Instr.lookup t (.map (some g)) (enc k) ok).run P w = .ok (if ok then .tuple #[((mget kvs k).map encv).getD z, .bool (mget kvs k).isSome] else ((mget kvs k).map encv).getD z) w := by
  unfold Instr.lookup
  simp only [Sem.run_bind, run_underlying ht, Result.andThen_ok, run_getObj_map h, Sem.run_pure, K.check, find_key K k es.toList (kvs.map (·.1)) hm.keys']
  rw [mget_midx]
  cases hi : midx (kvs.map (·.1)) k with
  | none => simp [run_zero hz]
  | some i =>
    have hlt := (midx_lt hi).1
    have hlt' : i < kvs.length := by simpa using hlt
    have h1 := hm.val_at i
    have h2 : i < es.toList.length := by rw [Array.length_toList, hm.len]; exact hlt'
    rw [List.getElem?_eq_getElem h2, List.getElem?_eq_getElem hlt', Option.map_some, Option.map_some] at h1
    have h3 := Option.some.inj h1
    simp only [Option.bind_some, List.getElem?_eq_getElem h2, Option.map_some, List.getElem?_map, List.getElem?_eq_getElem hlt', Sem.run_pure, Sem.run_bind, Result.andThen_ok, h3, Option.getD_some, Option.isSome_some]
theorem lookup_of (h : St w0 O L w) (p : Pick (mapC g enc encv kvs) L R) (ht : P.underlying t = some (.map kt et)) (K : KeyT P kt enc) {z : Value} (hz : zeroOf P et = some z) (k : α) (ok : Bool) :
    (Instr.lookup t (.map (some g)) (enc k) ok).run P w = .ok (if ok then .tuple #[((mget kvs k).map encv).getD z, .bool (mget kvs k).isSome] else ((mget kvs k).map encv).getD z) w := by
  obtain ⟨es, clk, hm, h⟩ := mapC_open (h.pick p)
  exact run_lookup ht K hz k ok hm h.get.1
theorem mapLen_of (h : St w0 O L w) (p : Pick (mapC g enc encv kvs) L R) (ht : P.underlying t = some (.map kt et)) (u : TypeId) :
    (Builtin.len_ #[t] u #[.map (some g)]).run P w = .ok (.int .i64 (kvs.length : Int)) w := by
  obtain ⟨es, clk, hm, h⟩ := mapC_open (h.pick p)
  unfold Builtin.len_
  simp [run_underlying ht, run_getObj_map h.get.1, hm.len, goInt]
theorem mapSet_W {K : World → Prop} (h : St w0 O L w) (p : Pick (mapC g enc encv kvs) L R) (ht : P.underlying t = some (.map kt et)) (KT : KeyT P kt enc) (k : α) (v : β)
    (kk : ∀ w', St w0 O (mapC g enc encv (mset kvs k v) :: R) w' → K w') : prU P (Instr.mapUpdate t (.map (some g)) (enc k) (encv v)) w K := by
  obtain ⟨es, clk, hm, h⟩ := mapC_open (h.pick p)
  have hg := h.get.1
  unfold prU Instr.mapUpdate
  simp only [Sem.run_bind, run_underlying ht, Result.andThen_ok, run_getObj_map hg, KT.check, find_key KT k es.toList (kvs.map (·.1)) hm.keys']
  cases hi : midx (kvs.map (·.1)) k with
  | none =>
    simp only [Option.bind_none]
    rw [run_setObj_map hg]
    exact ⟨_, rfl, kk _ (mapC_shut (hm.set_new hi) h.setMap)⟩
  | some i =>
    have hlt' : i < kvs.length := by simpa using (midx_lt hi).1
    have h2 : i < es.toList.length := by rw [Array.length_toList, hm.len]; exact hlt'
    have hkey : ((es[i]?).map (·.key)).getD (enc k) = enc k := by
      have h3 : (es.toList.map (·.key))[i]? = some (enc k) := by
        rw [hm.keys', List.getElem?_map, (midx_lt hi).2]; rfl
      rw [List.getElem?_map, Array.getElem?_toList] at h3
      rw [h3]; rfl
    simp only [Option.bind_some, List.getElem?_eq_getElem h2, Option.map_some, Sem.run_bind]
    rw [hkey]
    simp only [Instr.keyThatStays, KT.same, if_true, Sem.run_pure, Result.andThen_ok]
    rw [run_setObj_map hg]
    exact ⟨_, rfl, kk _ (mapC_shut (hm.set_old hi) h.setMap)⟩
theorem mapDel_W {K : World → Prop} (h : St w0 O L w) (p : Pick (mapC g enc encv kvs) L R) (ht : P.underlying t = some (.map kt et)) (KT : KeyT P kt enc) (u : TypeId) (k : α)
    (kk : ∀ w', St w0 O (mapC g enc encv (mdel kvs k) :: R) w' → K w') : unW P (Builtin.delete_ #[t, kt] u #[.map (some g), enc k]) w K := by
  obtain ⟨es, clk, hm, h⟩ := mapC_open (h.pick p)
  have hg := h.get.1
  have he : (mdel kvs k) = match midx (kvs.map (·.1)) k with
      | none => kvs
      | some i => kvs.eraseIdx i := by
    cases hi : midx (kvs.map (·.1)) k with
    | none => exact mdel_none hi
    | some i => exact mdel_some hi
  unfold unW Builtin.delete_
  simp only [List.getElem?_toArray, List.getElem?_cons_zero, List.getElem?_cons_succ, Sem.run_bind, run_underlying ht, Result.andThen_ok, run_getObj_map hg, KT.check, find_key KT k es.toList (kvs.map (·.1)) hm.keys']
  cases hi : midx (kvs.map (·.1)) k with
  | none =>
    simp only [Option.bind_none]
    rw [Sem.run_bind, run_setObj_map hg]
    refine ⟨_, rfl, kk _ (mapC_shut ?_ h.setMap)⟩
    rw [mdel_none hi]
    exact hm
  | some i =>
    have hlt' : i < kvs.length := by simpa using (midx_lt hi).1
    have h2 : i < es.toList.length := by rw [Array.length_toList, hm.len]; exact hlt'
    simp only [Option.bind_some, List.getElem?_eq_getElem h2, Option.map_some]
    rw [Sem.run_bind, run_setObj_map hg]
    exact ⟨_, rfl, kk _ (mapC_shut (hm.del hi) h.setMap)⟩
end
end Go.Proofs.YthfcnkeclcphpaaDoor
