/- The wheel: Set, Clear, Left, leap. -/
import Derived.Test.YtmngdgdmbebfhaaWheel3
set_option linter.unusedVariables false
set_option linter.unusedSimpArgs false
namespace Go.Proofs.Ytmngdgdmbebfhaa
open Go Go.RowKit

/-! ### 1. The map's list -/
section
variable {α β : Type} [DecidableEq α]
theorem mem_mset {l : List (α × β)} {k : α} {v : β} (hn : (l.map (·.1)).Nodup) {p : α × β} (h : p ∈ mset l k v) : p = (k, v) ∨ (p ∈ l ∧ p.1 ≠ k) := by
  have h1 := mget_of_mem (nodup_mset (k := k) (v := v) hn) h
  rw [mget_mset] at h1
  split at h1
  · rename_i e
    left
    cases h1
    exact Prod.ext e rfl
  · rename_i e
    exact .inr ⟨mget_mem h1, e⟩
theorem length_mset {l : List (α × β)} {k : α} {v : β} : (mset l k v).length = if k ∈ l.map (·.1) then l.length else l.length + 1 := by
  have := congrArg List.length (mset_keys (l := l) (k := k) (v := v))
  rw [List.length_map] at this
  rw [this]
  split <;> simp
theorem mem_mdel {l : List (α × β)} {k : α} (hn : (l.map (·.1)).Nodup) {p : α × β} : p ∈ mdel l k ↔ p ∈ l ∧ p.1 ≠ k := by
  rw [mdel_filter hn]
  simp
theorem mget_mdel {l : List (α × β)} {k : α} (hn : (l.map (·.1)).Nodup) (k' : α) : mget (mdel l k) k' = if k' = k then none else mget l k' := by
  split
  · rename_i e
    subst e
    rw [mget_none]
    intro h
    obtain ⟨p, hp, h2⟩ := List.mem_map.1 h
    exact ((mem_mdel hn).1 hp).2 h2
  · rename_i e
    cases h : mget l k' with
    | none =>
      rw [mget_none] at h ⊢
      intro h3
      obtain ⟨p, hp, h2⟩ := List.mem_map.1 h3
      exact h (List.mem_map.2 ⟨p, ((mem_mdel hn).1 hp).1, h2⟩)
    | some v => exact mget_of_mem (nodup_mdel hn) ((mem_mdel hn).2 ⟨mget_mem h, e⟩)
end
theorem seqs_mset {l : List (Int × Al)} (hn : (l.map (·.2.seq)).Nodup) (k : Int) (v : Al) (hf : ∀ p ∈ l, p.2.seq < v.seq) : ((mset l k v).map (·.2.seq)).Nodup := by
  induction l with
  | nil => simp [mset]
  | cons p r ih =>
    obtain ⟨a, b⟩ := p
    simp only [List.map_cons, List.nodup_cons] at hn
    have hfr : ∀ p ∈ r, p.2.seq < v.seq := fun p hp => hf p (List.mem_cons_of_mem _ hp)
    have hfa : b.seq < v.seq := hf (a, b) List.mem_cons_self
    simp only [mset]
    split
    · simp only [List.map_cons, List.nodup_cons]
      refine ⟨fun h => ?_, hn.2⟩
      obtain ⟨p, hp, h2⟩ := List.mem_map.1 h
      have := hfr p hp
      omega
    · simp only [List.map_cons, List.nodup_cons]
      refine ⟨fun h => ?_, ih hn.2 hfr⟩
      obtain ⟨p, hp, h2⟩ := List.mem_map.1 h
      have hsub : ∀ (r : List (Int × Al)) (p : Int × Al), p ∈ mset r k v → p ∈ r ∨ p.2 = v := by
        intro r
        induction r with
        | nil => intro p hp; simp [mset] at hp; exact .inr (by rw [hp])
        | cons q r ih =>
          intro p hp
          obtain ⟨a, b⟩ := q
          simp only [mset] at hp
          split at hp
          · rcases List.mem_cons.1 hp with rfl | hp
            · exact .inr rfl
            · exact .inl (List.mem_cons_of_mem _ hp)
          · rcases List.mem_cons.1 hp with rfl | hp
            · exact .inl List.mem_cons_self
            · rcases ih p hp with h | h
              · exact .inl (List.mem_cons_of_mem _ h)
              · exact .inr h
      rcases hsub r p hp with h3 | h3
      · exact hn.1 (List.mem_map.2 ⟨p, h3, h2⟩)
      · rw [h3] at h2; have h4 : v.seq = b.seq := h2; omega

/-! ### 2. What the functions answer -/
def setE (s : WS) (key after : Int) : Int := if after < 1 ∨ 16777216 < after then 2 else if mget s.by_ key = none ∧ 4096 ≤ s.by_.length then 4 else 0
def setS (s : WS) (key after : Int) : WS := if setE s key after = 0 then ⟨s.now, s.seq + 1, mset s.by_ key ⟨key, s.now + after, s.seq + 1⟩⟩ else s
def clearS (s : WS) (key : Int) : WS := ⟨s.now, s.seq, mdel s.by_ key⟩
def leftE (s : WS) (key : Int) : Int × Bool := match mget s.by_ key with
  | some x => (x.at_ - s.now, true)
  | none => (0, false)
section
variable {w0 w : World} {O : Nat → Prop} {L M : List Assn} {g gm : Nat} {now seq : Int} {rows : List (List Al)} {s : WS} {by_ : List (Int × Al)}
/-- What a look-up reads: the key's alarm, or the zero one. -/
def zAl : Al := ⟨0, 0, 0⟩
def atKey (b : List (Int × Al)) (k : Int) : Al := (mget b k).getD zAl
theorem look_ok (h : St w0 O L w) {R : List Assn} (p : Pick (mapC gm u64V Al.enc by_) L R) (key : Int) :
    (Instr.lookup 53 (.map (some gm)) (.int .u64 key) true).run Try.prog w = .ok (.tuple #[.agg #[.int .u64 (atKey by_ key).key, .int .i64 (atKey by_ key).at_, .int .u64 (atKey by_ key).seq], .bool (mget by_ key).isSome]) w := by
  have := lookup_of (P := Try.prog) h p Try.underlying53 keyU64 (z := zAl.enc) (by kernel_rfl) key true
  rw [show u64V key = .int .u64 key from rfl] at this
  rw [this, if_pos rfl]
  unfold atKey
  cases mget by_ key <;> rfl
theorem look1_ok (h : St w0 O L w) {R : List Assn} (p : Pick (mapC gm u64V Al.enc by_) L R) (key : Int) :
    (Instr.lookup 53 (.map (some gm)) (.int .u64 key) false).run Try.prog w = .ok (.agg #[.int .u64 (atKey by_ key).key, .int .i64 (atKey by_ key).at_, .int .u64 (atKey by_ key).seq]) w := by
  have := lookup_of (P := Try.prog) h p Try.underlying53 keyU64 (z := zAl.enc) (by kernel_rfl) key false
  rw [show u64V key = .int .u64 key from rfl] at this
  rw [this, if_neg (by decide)]
  unfold atKey
  cases mget by_ key <;> rfl
theorem alloc60 {K : Nat → World → Prop} (h : St w0 O L w) (k : ∀ g w', St w0 O (blk g (.cells zAl.cells.toArray 60) :: L) w' → K g w') : newW Try.prog (Instr.alloc 60 true (.tuple #[])) w K :=
  new_alloc (z := zAl.enc) h (by kernel_rfl) k
theorem st60 {K : World → Prop} {gb : Nat} {x : Al} (h : St w0 O (blk gb (.cells x.cells.toArray 60) :: L) w) (a b c : Int) (k : ∀ w', St w0 O (blk gb (.cells (Al.cells ⟨a, b, c⟩).toArray 60) :: L) w' → K w') :
    stW Try.prog 60 ⟨gb, 0, none⟩ (.agg #[.int .u64 a, .int .i64 b, .int .u64 c]) w K :=
  st_W h .here 60 (by kernel_rfl) rfl (Nat.le_refl 3) k
theorem wS_set (hS : wS s) (hq : s.seq < 2 ^ 30) (key after : Int) (h1 : 1 ≤ after) (h2 : after ≤ 16777216) : wS ⟨s.now, s.seq + 1, mset s.by_ key ⟨key, s.now + after, s.seq + 1⟩⟩ := by
  have hn0 := hS.n0
  have hq0 := hS.q0
  have hl := hS.len
  refine ⟨hS.n0, hS.n1, by show 0 ≤ s.seq + 1; omega, ?_, fun p hp => ?_, ?_, nodup_mset hS.keys⟩
  · show ((mset s.by_ key _).length : Int) ≤ s.seq + 1
    rw [length_mset]
    split <;> omega
  · show _ ∧ s.now < _ ∧ _ ≤ s.now + 2 ^ 24 ∧ _ ∧ _ ≤ s.seq + 1
    rcases mem_mset hS.keys hp with rfl | ⟨hp, _⟩
    · exact ⟨rfl, by show s.now < s.now + after; omega, by show s.now + after ≤ _; omega, by show 0 < s.seq + 1; omega, Int.le_refl _⟩
    · have := hS.cur p hp
      exact ⟨this.1, this.2.1, this.2.2.1, this.2.2.2.1, by omega⟩
  · exact seqs_mset hS.seqs key _ fun p hp => by have := (hS.cur p hp).2.2.2.2; show _ < s.seq + 1; omega
theorem setS_ok (hS : wS s) (hq : s.seq < 2 ^ 30) (key after : Int) : wS (setS s key after) := by
  unfold setS
  split
  · rename_i h
    unfold setE at h
    split at h
    · cases h
    · exact wS_set hS hq key after (by omega) (by omega)
  · exact hS
theorem Set_ok (h : St w0 O (isW g s :: L) w) (hq : s.seq < 2 ^ 30) (key after : Int) :
    Calls Try.prog 8 #[.pointer (some ⟨g, 0, none⟩), .int .u64 key, .int .i64 after] w fun e w' => e = .returned (.int .i64 (setE s key after)) ∧ St w0 O (isW g (setS s key after) :: L) w' := by
  obtain ⟨gm, rows, ⟨hS, hR⟩, h1⟩ := isW_open h
  refine F8.calls ?_
  unfold F8.main
  simp only [Option.isNone, cond_false, nilck]
  refine ⟨some gm, wM_by h1, _, _, _, _, look_ok h1 (.there .here) key, ?_⟩
  refine alloc60 h1 (fun g7 w2 h2 => ?_)
  refine st60 h2 _ _ _ (fun w3 h3 => ?_)
  have h4 := h3.drop
  by_cases c1 : after < 1
  · rw [decide_eq_true c1, cond_true]
    have e : setE s key after = 2 := if_pos (.inl c1)
    unfold setS
    rw [e]
    exact ⟨rfl, isW_shut hS hR h4⟩
  rw [decide_eq_false c1, cond_false]
  by_cases c2 : after > 16777216
  · rw [decide_eq_true c2, cond_true]
    have e : setE s key after = 2 := if_pos (.inr c2)
    unfold setS
    rw [e]
    exact ⟨rfl, isW_shut hS hR h4⟩
  rw [decide_eq_false c2, cond_false]
  have c12 : ¬ (after < 1 ∨ 16777216 < after) := by omega
  have rest : ∀ w, (¬ (mget s.by_ key = none ∧ 4096 ≤ s.by_.length)) → St w0 O (wM g gm s.now s.seq rows :: mapC gm u64V Al.enc s.by_ :: L) w →
      SK Try.prog Try.f8 (fun e w' => e = .returned (.int .i64 (setE s key after)) ∧ St w0 O (isW g (setS s key after) :: L) w') (cfg Try.f8 8) [(0, .pointer (some ⟨g, 0, none⟩)), (1, .int .u64 key), (2, .int .i64 after)] w := by
    intro w c3 h5
    have e : setE s key after = 0 := by unfold setE; rw [if_neg c12, if_neg c3]
    refine F8.p8_ok ?_
    unfold F8.p8
    simp only [nilck]
    have hq0 := hS.q0
    have hn0 := hS.n0
    have hn1 := hS.n1
    refine ⟨s.seq, wM_seq h5, ?_⟩
    rw [wrap_u64 (by omega) (by omega)]
    refine wM_seq_W h5 (s.seq + 1) (fun w6 h6 => ?_)
    refine ⟨s.now, wM_now h6.drew, s.seq + 1, wM_seq h6.drew, ?_⟩
    rw [wrap_i64 (by omega) (by omega)]
    refine alloc60 h6.drew (fun g9 w7 h7 => ?_)
    refine st60 h7 key (s.now + after) (s.seq + 1) (fun w8 h8 => ?_)
    have h8' := h8.drew
    refine ⟨some gm, wM_by (h8'.pick (.there .here)), key, s.now + after, s.seq + 1, h8'.cells0 .here, ?_⟩
    refine mapSet_W (enc := u64V) (encv := Al.enc) h8' (.there (.there .here)) Try.underlying53 keyU64 key ⟨key, s.now + after, s.seq + 1⟩ (fun w9 h9 => ?_)
    refine ⟨key, s.now + after, s.seq + 1, h9.cells0 (.there .here), ?_⟩
    have h10 := (h9.pick (.there (.there .here)))
    have hl := wM_len h10
    have htot := hR.tot
    refine (put_ok h10 ⟨key, s.now + after, s.seq + 1⟩ hS.n0 (by show s.now ≤ s.now + after; omega) (by show s.now + after < 2 ^ 61; omega) (far_top (by show s.now + after ≤ _; omega))
      (fun r hr => by have := len_le_tot hr; omega)).mono ?_
    rintro e' w10 ⟨rfl, k, hk, hk1, hk2, h11⟩
    refine .inl ⟨rfl, ?_⟩
    rw [e]
    refine ⟨rfl, ?_⟩
    unfold setS
    rw [if_pos e]
    have hput : Put s.now rows ⟨key, s.now + after, s.seq + 1⟩ (rows.set (spoke k (s.now + after)) (rowAt rows (spoke k (s.now + after)) ++ [⟨key, s.now + after, s.seq + 1⟩])) := ⟨k, hk, hk1, hk2, rfl⟩
    have hS' := wS_set hS hq key after (by omega) (by omega)
    refine isW_shut (gm := gm) (rows := rows.set (spoke k (s.now + after)) (rowAt rows (spoke k (s.now + after)) ++ [⟨key, s.now + after, s.seq + 1⟩])) hS' ?_ ?_
    · refine ⟨?_, fun i y hy => ?_, ?_, fun y hy => ?_⟩
      · rw [hput.tot hl]
        show _ ≤ s.seq + 1
        omega
      · show _ ∧ _ ≤ s.seq + 1
        rcases hput.mem hl hy with hy | rfl
        · have := hR.ent i y hy; omega
        · exact ⟨by show 0 < s.seq + 1; omega, Int.le_refl _⟩
      · refine hput.RA hl (fun j hj h1 h2 => put_plT (by show s.now < s.now + after; omega) j h1 h2) ?_
        intro i y hy hC
        unfold Cur at hC
        rw [show (WS.by_ ⟨s.now, s.seq + 1, mset s.by_ key ⟨key, s.now + after, s.seq + 1⟩⟩) = mset s.by_ key ⟨key, s.now + after, s.seq + 1⟩ from rfl, mget_mset] at hC
        split at hC
        · cases hC
          have := (hR.ent i _ hy).2
          simp only [] at this
          omega
        · exact hR.ra i y hy hC
      · unfold Cur at hy
        rw [show (WS.by_ ⟨s.now, s.seq + 1, mset s.by_ key ⟨key, s.now + after, s.seq + 1⟩⟩) = mset s.by_ key ⟨key, s.now + after, s.seq + 1⟩ from rfl, mget_mset] at hy
        split at hy
        · cases hy
          exact hput.there hl
        · obtain ⟨i, hi⟩ := hR.rb y hy
          exact ⟨i, hput.keeps hl hi⟩
    · exact (h11.pick (.there (.there .here))).drop
  refine F8.p6_ok ?_
  unfold F8.p6
  cases hm : mget s.by_ key with
  | none =>
    simp only [Option.isSome, Bool.not_false, cond_true, nilck]
    refine ⟨some gm, wM_by h4, _, mapLen_of h4 (.there .here) Try.underlying53 3, ?_⟩
    by_cases c3 : 4096 ≤ s.by_.length
    · rw [decide_eq_true (by omega), cond_true]
      have e : setE s key after = 4 := by unfold setE; rw [if_neg c12, if_pos ⟨hm, c3⟩]
      unfold setS
      rw [e]
      exact ⟨rfl, isW_shut hS hR h4⟩
    · rw [decide_eq_false (by omega), cond_false]
      exact rest _ (fun h => c3 h.2) h4
  | some y =>
    simp only [Option.isSome, Bool.not_true, cond_false]
    exact rest _ (fun h => by rw [hm] at h; cases h.1) h4
theorem wS_clear (hS : wS s) (key : Int) : wS (clearS s key) := by
  have hl := hS.len
  have h2 : (mdel s.by_ key).length ≤ s.by_.length := (mdel_sub (l := s.by_) (k := key)).length_le
  exact ⟨hS.n0, hS.n1, hS.q0, by show ((mdel s.by_ key).length : Int) ≤ s.seq; omega, fun p hp => hS.cur p ((mem_mdel hS.keys).1 hp).1,
    ((mdel_sub (l := s.by_) (k := key)).map _).nodup hS.seqs, nodup_mdel hS.keys⟩
theorem Clear_ok (h : St w0 O (isW g s :: L) w) (key : Int) : Calls Try.prog 10 #[.pointer (some ⟨g, 0, none⟩), .int .u64 key] w fun e w' =>
    e = .returned (.int .i64 (if (mget s.by_ key).isSome then 0 else 3)) ∧ St w0 O (isW g (clearS s key) :: L) w' := by
  obtain ⟨gm, rows, ⟨hS, hR⟩, h1⟩ := isW_open h
  refine F10.calls ?_
  unfold F10.main
  simp only [Option.isNone, cond_false, nilck]
  refine ⟨some gm, wM_by h1, _, _, _, _, look_ok h1 (.there .here) key, ?_⟩
  refine alloc60 h1 (fun g7 w2 h2 => ?_)
  refine st60 h2 _ _ _ (fun w3 h3 => ?_)
  have h4 := h3.drop
  cases hm : mget s.by_ key with
  | none =>
    simp only [Option.isSome, Bool.not_false, cond_true]
    refine ⟨rfl, ?_⟩
    have e : clearS s key = s := by
      unfold clearS
      rw [mdel_filter hS.keys, List.filter_eq_self.2]
      intro p hp
      have : p.1 ≠ key := fun e => mget_none.1 hm (List.mem_map.2 ⟨p, hp, e⟩)
      simpa using this
    rw [e]
    exact isW_shut hS hR h4
  | some y =>
    simp only [Option.isSome, Bool.not_true, cond_false]
    refine ⟨some gm, wM_by h4, ?_⟩
    refine mapDel_W (enc := u64V) (encv := Al.enc) h4 (.there .here) Try.underlying53 keyU64 0 key (fun w5 h5 => ?_)
    refine ⟨rfl, isW_shut (wS_clear hS key) ?_ (h5.pick (.there .here))⟩
    have hc : ∀ x, Cur (clearS s key).by_ x → Cur s.by_ x := fun x hx => by
      unfold Cur clearS at *
      rw [mget_mdel hS.keys] at hx
      split at hx
      · cases hx
      · exact hx
    exact ⟨hR.tot, hR.ent, fun i x hx hC => hR.ra i x hx (hc x hC), fun x hx => hR.rb x (hc x hx)⟩
theorem Left_ok (h : St w0 O (isW g s :: L) w) (key : Int) : Calls Try.prog 15 #[.pointer (some ⟨g, 0, none⟩), .int .u64 key] w fun e w' =>
    e = .returned (.tuple #[.int .i64 (leftE s key).1, .bool (leftE s key).2]) ∧ St w0 O (isW g s :: L) w' := by
  obtain ⟨gm, rows, ⟨hS, hR⟩, h1⟩ := isW_open h
  refine F15.calls ?_
  unfold F15.main
  simp only [Option.isNone, cond_false, nilck]
  refine ⟨some gm, wM_by h1, _, _, _, _, look_ok h1 (.there .here) key, ?_⟩
  refine alloc60 h1 (fun g7 w2 h2 => ?_)
  refine st60 h2 _ _ _ (fun w3 h3 => ?_)
  unfold leftE
  cases hm : mget s.by_ key with
  | none =>
    simp only [Option.isSome, Bool.not_false, cond_true]
    exact ⟨by trivial, isW_shut hS hR h3.drop⟩
  | some y =>
    simp only [Option.isSome, Bool.not_true, cond_false]
    have e : atKey s.by_ key = y := by unfold atKey; rw [hm]; rfl
    rw [e] at h3
    have h4 := h3.drew
    refine ⟨y.at_, h4.cell .here rfl, s.now, wM_now h4.drop, ?_⟩
    have h5 := hS.cur (key, y) (mget_mem hm)
    have := hS.n0
    simp only [] at h5
    rw [wrap_i64 (by omega) (by omega)]
    exact ⟨rfl, isW_shut hS hR h4.drop⟩
end
end Go.Proofs.Ytmngdgdmbebfhaa
