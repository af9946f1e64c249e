/- The wheel: what its functions but Tick, Keys and Copy do. -/
import Derived.Test.YtmngdgdmbebfhaaWheelP
set_option linter.unusedVariables false
set_option linter.unusedSimpArgs false
namespace Go.Proofs.Ytmngdgdmbebfhaa
open Go Go.RowKit

/-! ### 1. The state -/
structure WS where
  now : Int
  seq : Int
  by_ : List (Int × Al)
def Cur (b : List (Int × Al)) (x : Al) : Prop := mget b x.key = some x
/-- What holds of a wheel's time, count and map. -/
structure wS (s : WS) : Prop where
  n0 : 0 ≤ s.now
  n1 : s.now ≤ 2 ^ 60
  q0 : 0 ≤ s.seq
  len : (s.by_.length : Int) ≤ s.seq
  cur : ∀ p ∈ s.by_, p.1 = p.2.key ∧ s.now < p.2.at_ ∧ p.2.at_ ≤ s.now + 2 ^ 24 ∧ 0 < p.2.seq ∧ p.2.seq ≤ s.seq
  seqs : (s.by_.map (·.2.seq)).Nodup
  keys : (s.by_.map (·.1)).Nodup
/-- What holds of its rows. -/
structure wR (s : WS) (rows : List (List Al)) : Prop where
  tot : (tot rows : Int) ≤ s.seq
  ent : ∀ i x, x ∈ rowAt rows i → 0 < x.seq ∧ x.seq ≤ s.seq
  ra : RA (plT s.now) (Cur s.by_) rows
  rb : RB (Cur s.by_) rows
def isW (g : Nat) (s : WS) : Assn := fun h => ∃ gm rows, (wS s ∧ wR s rows) ∧ stars [wM g gm s.now s.seq rows, mapC gm u64V Al.enc s.by_] h
attribute [irreducible] isW
theorem Cur.mem {b : List (Int × Al)} {x : Al} (h : Cur b x) : (x.key, x) ∈ b := mget_mem h
theorem wS.of_cur {s : WS} (h : wS s) {x : Al} (hc : Cur s.by_ x) : s.now < x.at_ ∧ x.at_ ≤ s.now + 2 ^ 24 ∧ 0 < x.seq ∧ x.seq ≤ s.seq := (h.cur _ hc.mem).2
theorem wS.cur_of {s : WS} (h : wS s) {p : Int × Al} (hp : p ∈ s.by_) : Cur s.by_ p.2 := by
  have h1 := (h.cur p hp).1
  unfold Cur
  rw [← h1]
  exact mget_of_mem h.keys hp
section
variable {w0 w : World} {O : Nat → Prop} {L M : List Assn} {g gm : Nat} {now seq : Int} {rows : List (List Al)} {s : WS} {by_ : List (Int × Al)}
theorem isW_open (h : St w0 O (isW g s :: L) w) : ∃ gm rows, (wS s ∧ wR s rows) ∧ St w0 O (wM g gm s.now s.seq rows :: mapC gm u64V Al.enc s.by_ :: L) w := by
  unfold isW at h
  obtain ⟨gm, h⟩ := h.ex
  obtain ⟨rows, h⟩ := h.ex
  obtain ⟨hp, h⟩ := h.pure
  exact ⟨gm, rows, hp, h.flat⟩
theorem isW_shut (h1 : wS s) (h2 : wR s rows) (h : St w0 O (wM g gm s.now s.seq rows :: mapC gm u64V Al.enc s.by_ :: L) w) : St w0 O (isW g s :: L) w :=
  St.make (M := [wM g gm s.now s.seq rows, mapC gm u64V Al.enc s.by_]) h fun k hk => by unfold isW; exact ⟨gm, rows, ⟨h1, h2⟩, hk⟩
theorem isW_pure (h : St w0 O (isW g s :: L) w) : wS s := by obtain ⟨_, _, hp, _⟩ := isW_open h; exact hp.1
theorem wM_by (h : St w0 O (wM g gm now seq rows :: L) w) : w.cell? ⟨g, 320, none⟩ = some (.map (some gm)) := by
  obtain ⟨Rs, ⟨hl, _⟩, h⟩ := wM_open h
  exact h.cell .here (wcells_by hl)
theorem wM_now (h : St w0 O (wM g gm now seq rows :: L) w) : w.cell? ⟨g, 321, none⟩ = some (.int .i64 now) := by
  obtain ⟨Rs, ⟨hl, _⟩, h⟩ := wM_open h
  exact h.cell .here (wcells_now hl)
theorem wM_seq (h : St w0 O (wM g gm now seq rows :: L) w) : w.cell? ⟨g, 322, none⟩ = some (.int .u64 seq) := by
  obtain ⟨Rs, ⟨hl, _⟩, h⟩ := wM_open h
  exact h.cell .here (wcells_seq hl)
theorem wM_now_W {K : World → Prop} (h : St w0 O (wM g gm now seq rows :: L) w) (n : Int) (k : ∀ w', St w0 O (wM g gm n seq rows :: L) w' → K w') : stW Try.prog 2 ⟨g, 321, none⟩ (.int .i64 n) w K := by
  obtain ⟨Rs, ⟨hl, hr⟩, h⟩ := wM_open h
  refine st_W h .here 2 (by kernel_rfl) rfl (by rw [wcells_size]; show 321 + 1 ≤ _; omega) (fun w' h' => k w' (wM_shut hl hr ?_))
  have := putAt_now (gm := gm) (now := now) (seq := seq) hl n
  rw [show (Value.int .i64 n).cells.toList = [.int .i64 n] from rfl, this] at h'
  exact h'
theorem wM_seq_W {K : World → Prop} (h : St w0 O (wM g gm now seq rows :: L) w) (n : Int) (k : ∀ w', St w0 O (wM g gm now n rows :: L) w' → K w') : stW Try.prog 27 ⟨g, 322, none⟩ (.int .u64 n) w K := by
  obtain ⟨Rs, ⟨hl, hr⟩, h⟩ := wM_open h
  refine st_W h .here 27 (by kernel_rfl) rfl (by rw [wcells_size]; show 322 + 1 ≤ _; omega) (fun w' h' => k w' (wM_shut hl hr ?_))
  have := putAt_seq (gm := gm) (now := now) (seq := seq) hl n
  rw [show (Value.int .u64 n).cells.toList = [.int .u64 n] from rfl, this] at h'
  exact h'
theorem St.dropL : ∀ {M : List Assn}, St w0 O (M ++ L) w → St w0 O L w
  | [], h => h
  | _ :: _, h => St.dropL (St.drop h)
def nilR : RV := ((none, 0, 0), [])
def nilRs : List RV := List.replicate 320 nilR
theorem nilRs_len : nilRs.length = 320 := List.length_replicate
def nilRows : List (List Al) := List.replicate 320 []
theorem nil_rows (h : St w0 O L w) : ∀ n : Nat, St w0 O ((List.replicate n nilR).map rC ++ L) w
  | 0 => h
  | n + 1 => rowC_nil (nil_rows h n) 60 3
theorem nilRs_rows : nilRs.map (·.2) = nilRows := by unfold nilRs nilRows; rw [List.map_replicate]; rfl
theorem wM_nil_W {K : World → Prop} {v : Value} (h : St w0 O (wM g gm now seq rows :: L) w) (e : v.cells.toList = nilRs.map (fun r => slV r.1)) (hs : sizeIs Try.prog 56 v.cells.size = true) (hone : v.cells.toList.all Value.oneCell' = true)
    (hsz : v.cells.size = 320) (k : ∀ w', St w0 O (wM g gm now seq nilRows :: L) w' → K w') : stW Try.prog 56 ⟨g, 0, none⟩ v w K := by
  obtain ⟨Rs, ⟨hl, hr⟩, h⟩ := wM_open h
  refine st_W h .here 56 hs hone (by rw [wcells_size, hsz]; omega) (fun w' h' => k w' (wM_shut (Rs := nilRs) nilRs_len nilRs_rows ?_))
  rw [e, putAt_all nilRs (by rw [nilRs_len, hl])] at h'
  have h2 : St w0 O (L ++ [blk g (.cells (wcells nilRs gm now seq) 58)]) w' := by
    refine St.dropL (M := Rs.map rC) (h'.perm ?_)
    rw [← List.append_assoc]
    exact (List.perm_append_singleton _ _).symm
  have h3 := nil_rows h2 320
  refine h3.perm ?_
  rw [← List.append_assoc]
  exact List.perm_append_singleton _ _
/-! ### 2. New, Now -/
theorem new_box' {P : Program} {K : Nat → World → Prop} {t : TypeId} {v : Value} {cs : Array Value} (h : St w0 O L w) (e : v.cells = cs) (k : ∀ g w', St w0 O (blk g (.cells cs t) :: L) w' → K g w') : newW P (Instr.box t v) w K :=
  new_box h (e ▸ k)
theorem rowAt_nil (i : Nat) : rowAt nilRows i = [] := by
  unfold rowAt nilRows
  rw [List.getD_eq_getElem?_getD, List.getElem?_replicate]
  split <;> rfl
theorem tot_nil : tot nilRows = 0 := by kernel_rfl
def WS.zero : WS := ⟨0, 0, []⟩
theorem wS_zero : wS WS.zero := ⟨by decide, by decide, by decide, by decide, fun p hp => (by cases hp), List.nodup_nil, List.nodup_nil⟩
theorem New_ok (h : St w0 O L w) : Calls Try.prog 7 #[] w fun e w' => ∃ g, e = .returned (.pointer (some ⟨g, 0, none⟩)) ∧ St w0 O (isW g WS.zero :: L) w' := by
  refine F7.calls ?_
  unfold F7.main
  refine new_map h (fun g1 w2 h2 => ?_)
  refine new_box' (cs := wcells nilRs g1 0 0) h2 (by kernel_rfl) (fun g3 w4 h4 => ?_)
  refine ⟨g3, rfl, ?_⟩
  have h5 := mapC_shut (enc := u64V) (encv := Al.enc) MapIs.empty (h4.pick (.there .here))
  refine isW_shut (gm := g1) (rows := nilRows) wS_zero ⟨by rw [tot_nil]; decide, fun i x hx => (by rw [rowAt_nil] at hx; cases hx), fun i x hx => (by rw [rowAt_nil] at hx; cases hx), fun x hx => (by cases hx)⟩ ?_
  refine wM_shut (Rs := nilRs) nilRs_len nilRs_rows ?_
  have h6 := nil_rows h5 320
  refine h6.perm ?_
  refine (List.Perm.append_left _ (List.Perm.swap _ _ _)).trans List.perm_middle
theorem Now_ok (h : St w0 O (isW g s :: L) w) : Calls Try.prog 9 #[.pointer (some ⟨g, 0, none⟩)] w fun e w' => e = .returned (.int .i64 s.now) ∧ St w0 O (isW g s :: L) w' := by
  obtain ⟨gm, rows, hp, h1⟩ := isW_open h
  refine F9.calls ?_
  refine ⟨_, wM_now h1, rfl, h⟩
/-! ### 3. The first -/
/-- The first alarm's time. -/
def minAt : List (Int × Al) → Option Int
  | [] => none
  | p :: r => match minAt r with
    | none => some p.2.at_
    | some m => some (if p.2.at_ ≤ m then p.2.at_ else m)
def mn (a : Option Int) (x : Int) : Option Int := match a with
  | none => some x
  | some m => some (if x < m then x else m)
theorem minAt_snoc (l : List (Int × Al)) (p : Int × Al) : minAt (l ++ [p]) = mn (minAt l) p.2.at_ := by
  induction l with
  | nil => rfl
  | cons q r ih =>
    simp only [List.cons_append, minAt, ih, mn]
    cases minAt r with
    | none => simp only [mn]; congr 1; (repeat' split) <;> omega
    | some m => simp only []; congr 1; (repeat' split) <;> omega
theorem minAt_perm {l l' : List (Int × Al)} (h : l.Perm l') : minAt l = minAt l' := by
  induction h with
  | nil => rfl
  | cons p _ ih => simp only [minAt, ih]
  | swap p q l =>
    simp only [minAt]
    cases minAt l with
    | none => simp only []; congr 1; (repeat' split) <;> omega
    | some m => simp only []; congr 1; (repeat' split) <;> omega
  | trans _ _ ih1 ih2 => exact ih1.trans ih2
theorem minAt_none : ∀ {l : List (Int × Al)}, minAt l = none ↔ l = []
  | [] => by simp [minAt]
  | p :: r => by
    simp only [minAt]
    cases minAt r <;> simp
theorem minAt_spec : ∀ {l : List (Int × Al)} {m : Int}, minAt l = some m → (∃ p ∈ l, p.2.at_ = m) ∧ ∀ p ∈ l, m ≤ p.2.at_
  | [], m, h => by simp [minAt] at h
  | p :: r, m, h => by
    simp only [minAt] at h
    cases hr : minAt r with
    | none =>
      rw [hr] at h
      obtain rfl := minAt_none.1 hr
      cases h
      exact ⟨⟨p, List.mem_cons_self, rfl⟩, fun q hq => by simp at hq; subst hq; exact Int.le_refl _⟩
    | some m' =>
      rw [hr] at h
      obtain ⟨⟨q, hq, hq2⟩, h2⟩ := minAt_spec hr
      simp only [Option.some.injEq] at h
      split at h
      · subst h
        exact ⟨⟨p, List.mem_cons_self, rfl⟩, fun z hz => by
          rcases List.mem_cons.1 hz with rfl | hz
          · exact Int.le_refl _
          · have := h2 z hz; omega⟩
      · subst h
        exact ⟨⟨q, List.mem_cons_of_mem _ hq, hq2⟩, fun z hz => by
          rcases List.mem_cons.1 hz with rfl | hz
          · omega
          · exact h2 z hz⟩
def firstV (b : List (Int × Al)) : Value := .tuple #[.int .i64 ((minAt b).getD 0), .bool (minAt b).isSome]
theorem first_ok (h : St w0 O (isW g s :: L) w) : Calls Try.prog 24 #[.pointer (some ⟨g, 0, none⟩)] w fun e w' => e = .returned (firstV s.by_) ∧ St w0 O (isW g s :: L) w' := by
  obtain ⟨gm, rows, hp, h1⟩ := isW_open h
  refine F24.calls ?_
  unfold F24.main
  simp only [nilck]
  refine ⟨some gm, wM_by h1, ?_⟩
  refine range_W h1 (.there .here) Try.underlying53 (fun it w1 h2 => ?_)
  have loop : ∀ (n : Nat) (dn lf : List (Int × Al)) (w : World), lf.length = n → St w0 O (iterC it gm u64V Al.enc s.by_ dn lf :: wM g gm s.now s.seq rows :: L) w →
      SK Try.prog Try.f24 (fun e w' => e = .returned (firstV s.by_) ∧ St w0 O (isW g s :: L) w') (cfg Try.f24 2)
        [(2, .int .i64 ((minAt dn).getD 0)), (3, .bool (minAt dn).isSome), (10, .pointer (some ⟨it, 0, none⟩))] w := by
    intro n
    induction n using Nat.strongRecOn with
    | _ n ih =>
      intro dn lf w hn h2
      refine F24.p2_ok ?_
      unfold F24.p2
      refine next_W h2 .here 0 (fun hl w1 h3 => ?_) (fun x lf' hpm w1 h3 => ?_)
      · have hperm := iterC_perm h3
        rw [List.append_nil] at hperm
        unfold firstV
        rw [minAt_perm hperm]
        exact ⟨rfl, isW_shut hp.1 hp.2 ((iterC_map h3).pick (.there .here))⟩
      · refine ⟨u64V x.1, x.2.key, x.2.at_, x.2.seq, entry_of h3 .here, ?_⟩
        refine new_alloc h3 (z := .agg #[.int .u64 0, .int .i64 0, .int .u64 0]) (by kernel_rfl) (fun g5 w2 h4 => ?_)
        refine st_W h4 .here 60 (by kernel_rfl) rfl (Nat.le_refl 3) (fun w3 h5 => ?_)
        have hlen : lf'.length < n := by have := hpm.length_eq; simp at this; omega
        have hc : w3.cell? ⟨g5, 1, none⟩ = some (.int .i64 x.2.at_) := h5.cell .here rfl
        have hi := ih _ hlen (dn ++ [x]) lf' w3 rfl h5.drop
        rw [minAt_snoc] at hi
        cases hm : minAt dn with
        | none =>
          rw [hm] at hi
          exact ⟨_, hc, hi⟩
        | some m =>
          rw [hm] at hi
          refine ⟨_, hc, ?_⟩
          simp only [mn, Option.getD_some, Option.isSome_some] at hi ⊢
          by_cases hlt : x.2.at_ < m
          · simp only [hlt, if_true, decide_true, cond_true] at hi ⊢
            exact ⟨_, hc, hi⟩
          · simp only [hlt, if_false, decide_false, cond_false] at hi ⊢
            exact hi
  exact loop _ [] s.by_ w1 rfl h2
def nextE (s : WS) : Int × Bool := match minAt s.by_ with
  | some m => (m - s.now, true)
  | none => (0, false)
theorem Next_ok (h : St w0 O (isW g s :: L) w) : Calls Try.prog 12 #[.pointer (some ⟨g, 0, none⟩)] w fun e w' => e = .returned (.tuple #[.int .i64 (nextE s).1, .bool (nextE s).2]) ∧ St w0 O (isW g s :: L) w' := by
  have hS := isW_pure h
  refine F12.calls ?_
  unfold F12.main
  simp only [Option.isNone, cond_false]
  refine (first_ok h).mono ?_
  rintro e w1 ⟨rfl, h1⟩
  refine .inl ⟨_, _, rfl, ?_⟩
  unfold nextE
  cases hm : minAt s.by_ with
  | none => exact ⟨rfl, h1⟩
  | some m =>
    obtain ⟨gm, rows, hp, h2⟩ := isW_open h1
    refine ⟨_, wM_now h2, ?_⟩
    obtain ⟨⟨p, hp1, rfl⟩, _⟩ := minAt_spec hm
    have h3 := hS.cur p hp1
    have := hS.n0
    rw [Option.getD_some, wrap_i64 (by omega) (by omega)]
    exact ⟨rfl, h1⟩
end
end Go.Proofs.Ytmngdgdmbebfhaa
