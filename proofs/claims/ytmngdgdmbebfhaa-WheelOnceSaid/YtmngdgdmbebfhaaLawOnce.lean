/- The law WheelOnce: who sets an alarm is told once, at the first Tick by which its time has come. -/
import Derived.Test.YtmngdgdmbebfhaaSteps21
set_option linter.unusedVariables false
set_option linter.unusedSimpArgs false
namespace Go.Proofs.Ytmngdgdmbebfhaa
open Go Go.RowKit

def i64V (n : Int) : Value := .int .i64 n
abbrev dueC (g : Nat) (D : List (Int × Int)) : Assn := mapC g u64V i64V D
/-- The law's own map says when each key's alarm is due. -/
structure DR (D : List (Int × Int)) (s : WS) : Prop where
  keys : (D.map (·.1)).Nodup
  get : ∀ k, mget D k = (mget s.by_ k).map (·.at_)
theorem keys_of_get {α β γ : Type} [DecidableEq α] {l : List (α × β)} {l' : List (α × γ)} (h : ∀ k, (mget l k).isSome → (mget l' k).isSome) : l.map (·.1) ⊆ l'.map (·.1) := by
  intro k hk
  have h1 : (mget l k).isSome := by
    cases hm : mget l k with
    | none => exact absurd hk (mget_none.1 hm)
    | some _ => rfl
  have h2 := h k h1
  apply Classical.byContradiction
  intro h3
  rw [mget_none.2 h3] at h2
  cases h2
theorem DR.len {D : List (Int × Int)} {s : WS} (h : DR D s) (hS : wS s) : D.length = s.by_.length := by
  have h1 := List.Nodup.length_le_of_subset h.keys (keys_of_get (l := D) (l' := s.by_) (fun k hk => by rw [h.get k] at hk; simpa using hk))
  have h2 := List.Nodup.length_le_of_subset hS.keys (keys_of_get (l := s.by_) (l' := D) (fun k hk => by rw [h.get k]; simpa using hk))
  simp only [List.length_map] at h1 h2
  omega
theorem DR.set {D : List (Int × Int)} {s : WS} (h : DR D s) (key after : Int) (he : setE s key after = 0) : DR (mset D key (s.now + after)) (setS s key after) := by
  refine ⟨nodup_mset h.keys, fun k => ?_⟩
  unfold setS
  rw [if_pos he]
  show _ = (mget (mset s.by_ key _) k).map _
  rw [mget_mset, mget_mset]
  split
  · rfl
  · exact h.get k
theorem DR.clear {D : List (Int × Int)} {s : WS} (h : DR D s) (hS : wS s) (key : Int) : DR (mdel D key) (clearS s key) := by
  refine ⟨nodup_mdel h.keys, fun k => ?_⟩
  show _ = (mget (mdel s.by_ key) k).map _
  rw [mget_mdel h.keys, mget_mdel hS.keys]
  split
  · rfl
  · exact h.get k
/-- The alarms that are due, by their keys. -/
theorem due_mem {s : WS} (hS : wS s) {m : Int} {x : Al} (hx : x ∈ ord (Dl s m)) : mget s.by_ x.key = some x ∧ s.now < x.at_ ∧ x.at_ ≤ m := by
  have h1 := (ord_perm _).mem_iff.1 hx
  obtain ⟨p, hp, rfl⟩ := List.mem_map.1 h1
  obtain ⟨h2, h3⟩ := List.mem_filter.1 hp
  exact ⟨hS.cur_of h2, (hS.cur p h2).2.1, of_decide_eq_true h3⟩
theorem due_keys {s : WS} (hS : wS s) (m : Int) : ((ord (Dl s m)).map (·.key)).Nodup := by
  refine (((ord_perm (Dl s m)).map (·.key)).nodup_iff).2 ?_
  unfold Dl
  rw [List.map_map]
  have h1 : (s.by_.filter fun p => decide (p.2.at_ ≤ m)).map (Al.key ∘ fun x => x.2) = (s.by_.filter fun p => decide (p.2.at_ ≤ m)).map (·.1) := by
    refine List.map_congr_left fun p hp => ?_
    exact ((hS.cur p (List.mem_filter.1 hp).1).1).symm
  rw [h1]
  exact ((List.filter_sublist (p := fun p : Int × Al => decide (p.2.at_ ≤ m)) (l := s.by_)).map _).nodup hS.keys
/-- A part of the keys is struck out. -/
structure DP (D : List (Int × Int)) (s : WS) (ks : List Int) : Prop where
  keys : (D.map (·.1)).Nodup
  get : ∀ k, mget D k = if k ∈ ks then none else (mget s.by_ k).map (·.at_)
theorem DP.start {D : List (Int × Int)} {s : WS} (h : DR D s) : DP D s [] := ⟨h.keys, fun k => by simpa using h.get k⟩
theorem DP.del {D : List (Int × Int)} {s : WS} {ks : List Int} (h : DP D s ks) (key : Int) : DP (mdel D key) s (ks ++ [key]) := by
  refine ⟨nodup_mdel h.keys, fun k => ?_⟩
  rw [mget_mdel h.keys]
  by_cases e : k = key
  · simp [e]
  · rw [if_neg e, h.get k]
    simp [e]
theorem DP.done {D : List (Int × Int)} {s : WS} {m : Int} (hS : wS s) (h : DP D s ((ord (Dl s m)).map (·.key))) : DR D (T s m) := by
  refine ⟨h.keys, fun k => ?_⟩
  rw [h.get k]
  have hT : ((T s m).by_.map (·.1)).Nodup := ((List.filter_sublist (p := fun p : Int × Al => decide (m < p.2.at_)) (l := s.by_)).map _).nodup hS.keys
  have hmem : k ∈ (ord (Dl s m)).map (·.key) ↔ ∃ x, mget s.by_ k = some x ∧ x.at_ ≤ m := by
    constructor
    · intro hk
      obtain ⟨x, hx, rfl⟩ := List.mem_map.1 hk
      have := due_mem hS hx
      exact ⟨x, this.1, this.2.2⟩
    · rintro ⟨x, hx, hle⟩
      have hin := mget_mem hx
      have hkx := (hS.cur _ hin).1
      exact List.mem_map.2 ⟨x, (ord_perm _).mem_iff.2 (List.mem_map.2 ⟨(k, x), List.mem_filter.2 ⟨hin, decide_eq_true hle⟩, rfl⟩), hkx.symm⟩
  cases hm : mget s.by_ k with
  | none =>
    have h1 : mget (T s m).by_ k = none := mget_none.2 fun hk => by
      obtain ⟨p, hp, rfl⟩ := List.mem_map.1 hk
      exact mget_none.1 hm (List.mem_map.2 ⟨p, (List.mem_filter.1 hp).1, rfl⟩)
    rw [h1]
    simp
  | some x =>
    by_cases hle : x.at_ ≤ m
    · rw [if_pos (hmem.2 ⟨x, hm, hle⟩)]
      have h1 : mget (T s m).by_ k = none := mget_none.2 fun hk => by
        obtain ⟨p, hp, rfl⟩ := List.mem_map.1 hk
        obtain ⟨h2, h3⟩ := List.mem_filter.1 hp
        have h4 := mget_of_mem hS.keys (show (p.1, p.2) ∈ s.by_ from h2)
        rw [hm] at h4
        cases h4
        have := of_decide_eq_true h3
        omega
      rw [h1]
      rfl
    · rw [if_neg (fun h => by obtain ⟨y, hy, h2⟩ := hmem.1 h; rw [hm] at hy; cases hy; exact hle h2)]
      have h1 : mget (T s m).by_ k = some x := mget_of_mem hT (List.mem_filter.2 ⟨mget_mem hm, decide_eq_true (by show m < x.at_; omega)⟩)
      rw [h1]
theorem nextE_spec {s : WS} (hS : wS s) : ((nextE s).2 = true → 1 ≤ (nextE s).1) ∧ (nextE s).2 = decide (0 < s.by_.length) := by
  unfold nextE
  cases hm : minAt s.by_ with
  | none =>
    rw [minAt_none.1 hm]
    exact ⟨fun h => (by cases h), rfl⟩
  | some m =>
    obtain ⟨⟨p, hp, rfl⟩, _⟩ := minAt_spec hm
    have h1 := (hS.cur p hp).2.1
    have h2 : 0 < s.by_.length := List.length_pos_of_mem hp
    exact ⟨fun _ => (by show 1 ≤ p.2.at_ - s.now; omega), by rw [decide_eq_true h2]⟩
theorem keyI64 : zeroOf Try.prog 2 = some (i64V 0) := by kernel_rfl
section
variable {w0 w : World} {O : Nat → Prop} {L : List Assn} {gd : Nat} {D : List (Int × Int)}
theorem lookD (h : St w0 O (dueC gd D :: L) w) (key : Int) :
    (Instr.lookup 26 (.map (some gd)) (.int .u64 key) true).run Try.prog w = .ok (.tuple #[.int .i64 ((mget D key).getD 0), .bool (mget D key).isSome]) w := by
  have := lookup_of (P := Try.prog) h .here Try.underlying26 keyU64 keyI64 key true
  rw [show u64V key = .int .u64 key from rfl] at this
  rw [this, if_pos rfl]
  cases mget D key <;> rfl
abbrev OnceR (w0 : World) : Ending → World → Prop := fun e w' => e = .returned (.bool true) ∧ ∃ L, St w0 (World.all w0) L w'
/-- What stands between two rounds. -/
abbrev OnceNext (w0 : World) (A : Option Addr) (l c g gd : Nat) (i : Nat) : Prop := ∀ (s : WS) (D : List (Int × Int)) (w : World), wS s → s.seq ≤ (i : Int) → DR D s → St w0 (World.all w0) [isW g s, dueC gd D] w →
  SK Try.prog Try.f3 (OnceR w0) (cfg Try.f3 8) [(0, .slice A l c), (3, .pointer (some ⟨g, 0, none⟩)), (4, .map (some gd)), (5, .int .i64 (i : Int))] w
theorem once_end {A : Option Addr} {l c g gd i : Nat} (hi : i < 1000) (next : OnceNext w0 A l c g gd (i + 1)) {s : WS} {D : List (Int × Int)} {w : World} (hS : wS s) (hq : s.seq ≤ ((i + 1 : Nat) : Int)) (hD : DR D s) (h : St w0 (World.all w0) (isW g s :: dueC gd D :: L) w) :
    SK Try.prog Try.f3 (OnceR w0) (cfg Try.f3 40) [(0, .slice A l c), (3, .pointer (some ⟨g, 0, none⟩)), (4, .map (some gd)), (5, .int .i64 (i : Int))] w := by
  have hlen := hD.len hS
  obtain ⟨_, hn2⟩ := nextE_spec hS
  have h : St w0 (World.all w0) [isW g s, dueC gd D] w := St.dropL (M := L) (h.perm (by
    rw [show isW g s :: dueC gd D :: L = [isW g s, dueC gd D] ++ L from rfl]
    exact List.perm_append_comm))
  refine F3.p40_ok ?_
  unfold F3.p40
  refine (Next_ok h).mono ?_
  rintro e w1 ⟨rfl, h1⟩
  refine .inl ⟨_, _, rfl, _, mapLen_of h1 (.there .here) Try.underlying26 3, ?_⟩
  rw [show (!((nextE s).2 == decide ((D.length : Int) > 0))) = false from by rw [hn2, ← hlen]; simp, cond_false]
  refine (Keys_ok h1 (by omega)).mono ?_
  rintro e w2 ⟨A2, n2, c2, rfl, h2⟩
  have hk := keys_len h2
  unfold keysO at hk
  rw [List.length_map, (ord_perm _).length_eq, List.length_map] at hk
  refine .inl ⟨_, _, _, rfl, _, mapLen_of h2 (.there (.there .here)) Try.underlying26 3, ?_⟩
  rw [show (((n2 : Nat) : Int) != (D.length : Int)) = false from by simp; omega, cond_false]
  rw [show IntKind.wrap .i64 ((i : Int) + 1) = ((i + 1 : Nat) : Int) from by rw [wrap_i64 (by omega) (by omega)]; rfl]
  exact next s D w2 hS hq hD h2.drop
/-- The keys that are told, one after another. -/
theorem once_told {A : Option Addr} {l c g gd i : Nat} (hi : i < 1000) (next : OnceNext w0 A l c g gd (i + 1)) {s : WS} {m : Int} (hS : wS s) (hq : s.seq ≤ ((i + 1 : Nat) : Int)) (hm : s.now ≤ m) (hm2 : m ≤ 2 ^ 60) {B : Option Addr} {n2 c2 : Nat} :
    ∀ (lf dn : List Al) (D : List (Int × Int)) (last : Int) (w : World), dn ++ lf = ord (Dl s m) → DP D s (dn.map (·.key)) → (∀ x ∈ lf, last ≤ x.at_) →
      St w0 (World.all w0) (isW g (T s m) :: dueC gd D :: keysC B n2 c2 ((ord (Dl s m)).map (·.key)) :: L) w →
      SK Try.prog Try.f3 (OnceR w0) (cfg Try.f3 30) [(0, .slice A l c), (3, .pointer (some ⟨g, 0, none⟩)), (4, .map (some gd)), (5, .int .i64 (i : Int)), (9, .int .i64 s.now), (10, .slice B n2 c2), (12, .int .i64 last), (13, .int .i64 (dn.length : Int))] w := by
  intro lf
  induction lf with
  | nil =>
    intro dn D last w hsp hD hlast h
    rw [List.append_nil] at hsp
    have hk := keys_len (h.pick (.there (.there .here)))
    rw [List.length_map] at hk
    have hST := wS_T hS hm hm2
    obtain ⟨hn1, _⟩ := nextE_spec hST
    have hDR : DR D (T s m) := by rw [hsp] at hD; exact hD.done hS
    refine F3.p30_ok ?_
    unfold F3.p30
    rw [decide_eq_false (by rw [hsp]; omega), cond_false]
    refine (Next_ok h).mono ?_
    rintro e w1 ⟨rfl, h1⟩
    refine .inl ⟨_, _, rfl, ?_⟩
    have fin := once_end hi next hST hq hDR h1
    cases hb : (nextE (T s m)).2 with
    | false => exact fin
    | true =>
      simp only [cond_true]
      have := hn1 hb
      rw [decide_eq_false (by omega), cond_false]
      exact fin
  | cons x lf ih =>
    intro dn D last w hsp hD hlast h
    have hk := keys_len (h.pick (.there (.there .here)))
    rw [List.length_map] at hk
    have hll : (ord (Dl s m)).length = dn.length + (lf.length + 1) := by rw [← hsp]; simp
    have hx : x ∈ ord (Dl s m) := by rw [← hsp]; simp
    obtain ⟨hx1, hx2, hx3⟩ := due_mem hS hx
    have hnd := due_keys hS m
    have hnot : x.key ∉ dn.map (·.key) := by
      rw [← hsp, List.map_append, List.map_cons, List.nodup_append] at hnd
      intro hc
      exact hnd.2.2 _ hc x.key List.mem_cons_self rfl
    have hgetD : mget D x.key = some x.at_ := by
      rw [hD.get x.key, if_neg hnot, hx1]
      rfl
    have hlx : ((ord (Dl s m)).map (·.key))[dn.length]? = some x.key := by rw [← hsp]; simp
    have hDlb : (ord (Dl s m)).length < 2 ^ 30 := by
      rw [(ord_perm _).length_eq]
      unfold Dl
      have h1 := List.length_filter_le (fun p : Int × Al => decide (p.2.at_ ≤ m)) s.by_
      have := hS.len
      rw [List.length_map]
      omega
    refine F3.p30_ok ?_
    unfold F3.p30
    rw [decide_eq_true (by omega), cond_true]
    obtain ⟨gr, rfl, hjn, hcs⟩ := keyAt (h.pick (.there (.there .here))) hlx
    refine ⟨⟨by omega, by omega⟩, ?_⟩
    simp only [nilck, add_eq, Nat.zero_add, Int.toNat_natCast, Nat.mul_one]
    refine ⟨x.key, hcs, _, _, lookD (h.pick (.there .here)) x.key, ?_⟩
    rw [hgetD]
    simp only [Option.isSome, Bool.not_true, cond_false, Option.getD_some]
    rw [decide_eq_false (by omega), cond_false]
    refine (Now_ok h).mono ?_
    rintro e w1 ⟨rfl, h1⟩
    refine .inl ⟨_, rfl, ?_⟩
    rw [decide_eq_false (by show ¬ x.at_ > m; omega), cond_false]
    have hlx2 := hlast x List.mem_cons_self
    rw [decide_eq_false (by omega), cond_false]
    refine F3.p35_ok ?_
    unfold F3.p35
    obtain ⟨gr2, e2, _, hcs2⟩ := keyAt (h1.pick (.there (.there .here))) hlx
    cases e2
    refine ⟨⟨by omega, by omega⟩, ?_⟩
    simp only [nilck, add_eq, Nat.zero_add, Int.toNat_natCast, Nat.mul_one]
    refine ⟨x.key, hcs2, ?_⟩
    refine mapDel_W (enc := u64V) (encv := i64V) h1 (.there .here) Try.underlying26 keyU64 0 x.key (fun w3 h3 => ?_)
    rw [show IntKind.wrap .i64 ((dn.length : Int) + 1) = ((dn ++ [x]).length : Int) from by rw [wrap_i64 (by omega) (by omega)]; simp]
    refine ih (dn ++ [x]) _ x.at_ w3 (by rw [← hsp]; simp) (by rw [List.map_append]; exact hD.del x.key) (fun y hy => ?_) (h3.pick (.there .here))
    have hsr := ord_srt (Dl s m)
    rw [← hsp] at hsr
    have h4 := (List.pairwise_append.1 hsr).2.1
    have h5 := (List.pairwise_cons.1 h4).1 y hy
    unfold ltA at h5
    omega
end
end Go.Proofs.Ytmngdgdmbebfhaa
