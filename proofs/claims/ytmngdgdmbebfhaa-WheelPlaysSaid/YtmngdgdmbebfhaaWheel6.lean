/- The wheel: a level goes down. -/
import Derived.Test.YtmngdgdmbebfhaaWheel5
set_option linter.unusedVariables false
set_option linter.unusedSimpArgs false
namespace Go.Proofs.Ytmngdgdmbebfhaa
open Go Go.RowKit

instance (b : List (Int × Al)) (x : Al) : Decidable (Cur b x) := inferInstanceAs (Decidable (_ = _))
theorem tst (y x : Al) : ((y.key == x.key) && ((y.at_ == x.at_) && ((y.seq == x.seq) && true))) = decide (y = x) := by
  cases y; cases x
  rw [Bool.eq_iff_iff]
  simp
theorem atKey_cur {b : List (Int × Al)} {x : Al} (h : 0 < x.seq) : decide (atKey b x.key = x) = decide (Cur b x) := by
  rw [decide_eq_decide]
  unfold atKey Cur
  cases hm : mget b x.key with
  | none =>
    have : zAl ≠ x := fun e => by rw [← e] at h; exact absurd h (by decide)
    simp [this]
  | some y => simp
section
variable {w0 w : World} {O : Nat → Prop} {L M : List Assn} {g gm : Nat} {now seq : Int} {rows : List (List Al)} {s : WS} {by_ : List (Int × Al)} {A : Option Addr} {n c : Nat} {l : List Al}
/-- An alarm of a row is read. -/
theorem rowAl (h : St w0 O (rowC 60 3 A n c (l.flatMap Al.cells) :: L) w) {j : Nat} {x : Al} (hx : l[j]? = some x) : ∃ gr, A = some ⟨gr, 0, none⟩ ∧ j < n ∧ cellsAt w ⟨gr, j * 3, none⟩ 0 x.cells := by
  have hlen := (rowC_len h).1
  rw [flat_len] at hlen
  obtain ⟨hj, rfl⟩ := List.getElem?_eq_some_iff.1 hx
  have hc : ∀ i v, (l[j]).cells[i]? = some v → (l.flatMap Al.cells)[j * 3 + i]? = some v := by
    clear hlen h
    induction l generalizing j with
    | nil => simp at hj
    | cons y r ih =>
      intro i v hv
      have hi : i < 3 := (List.getElem?_eq_some_iff.1 hv).1
      rw [List.flatMap_cons]
      cases j with
      | zero =>
        rw [List.getElem?_append_left (by show _ < 3; omega)]
        simpa using hv
      | succ j =>
        rw [List.getElem?_append_right (by show 3 ≤ _; omega)]
        have := ih (j := j) (by simpa using hj) (by simp) i v (by simpa using hv)
        rw [show (j + 1) * 3 + i - y.cells.length = j * 3 + i from by show (j + 1) * 3 + i - 3 = _; omega]
        exact this
  obtain ⟨gr, rfl, _⟩ := rowC_cell h (hc 0 _ rfl)
  refine ⟨gr, rfl, by omega, cellsAt_of fun i v hv => ?_⟩
  obtain ⟨g2, e, h2⟩ := rowC_cell h (hc i v hv)
  cases e
  rw [Nat.zero_add]
  exact h2
/-- A row is taken out of the wheel. -/
theorem takeRow (h : St w0 O (wM g gm now seq rows :: L) w) {i : Nat} (hi : i < 320) : ∃ v : Option Addr × Nat × Nat, w.cell? ⟨g, i, none⟩ = some (slV v) ∧
    ∀ K : World → Prop, (∀ w', St w0 O (rowC 60 3 v.1 v.2.1 v.2.2 ((rowAt rows i).flatMap Al.cells) :: wM g gm now seq (rows.set i []) :: L) w' → K w') → stW Try.prog 54 ⟨g, i, none⟩ (.slice none 0 0) w K := by
  obtain ⟨Rs, ⟨hl, rfl⟩, h2⟩ := wM_open h
  obtain ⟨r, hr⟩ : ∃ r, Rs[i]? = some r := ⟨Rs[i], List.getElem?_eq_getElem (by omega)⟩
  refine ⟨r.1, h2.cell .here (wcells_row hr), fun K k => ?_⟩
  have h3 := row_out hr h2
  refine st_W h3 (.there .here) 54 (by kernel_rfl) rfl (by rw [wcells_size]; show _ + 1 ≤ _; omega) (fun w' h4 => k w' ?_)
  have hlt : i < Rs.length := by omega
  have hra : rowAt (Rs.map (·.2)) i = r.2 := by
    unfold rowAt
    rw [List.getD_eq_getElem?_getD, List.getElem?_map, hr]
    rfl
  rw [hra]
  have h5 : St w0 O (rC nilR :: blk g (.cells (wcells (Rs.set i nilR) gm now seq) 58) :: ((Rs.eraseIdx i).map rC ++ (rC r :: L))) w' := by
    refine rowC_nil ?_ 60 3
    have e : putAt (wcells Rs gm now seq) i [slV (none, 0, 0)] = wcells (Rs.set i nilR) gm now seq := putAt_row hlt (none, 0, 0) []
    rw [show (Value.slice none 0 0).cells.toList = [slV (none, 0, 0)] from rfl, e] at h4
    refine h4.perm ?_
    refine List.Perm.cons _ ?_
    exact List.perm_middle.symm
  have h6 := row_in hlt h5
  have h7 := wM_shut (rows := (Rs.map (·.2)).set i []) (by simpa using hl) (by rw [List.map_set]; rfl) h6
  exact h7.pick (.there .here)
theorem down_ok {gb : Nat} (K : Nat) (hK : K < 5) (h : St w0 O (wM g gm now seq rows :: mapC gm u64V Al.enc by_ :: blk gb (.cells #[.pointer (some ⟨g, 0, none⟩)] 24) :: L) w) (h0 : 0 ≤ now) (h1 : now ≤ 2 ^ 60)
    (hc : ∀ x, Cur by_ x → now ≤ x.at_ ∧ x.at_ ≤ now + 2 ^ 24) (hz : ∀ i x, x ∈ rowAt rows i → 0 < x.seq) (ht : tot rows < 2 ^ 30) :
    Calls Try.prog 33 #[.int .i64 (K : Int), .pointer (some ⟨gb, 0, none⟩)] w fun e w' => e = .returned (.tuple #[]) ∧ ∃ rows', Puts now (rows.set (spoke K now) []) ((rowAt rows (spoke K now)).filter fun x => decide (Cur by_ x)) rows' ∧
      St w0 O (wM g gm now seq rows' :: mapC gm u64V Al.enc by_ :: blk gb (.cells #[.pointer (some ⟨g, 0, none⟩)] 24) :: L) w' := by
  have hl := wM_len h
  refine F33.calls ?_
  unfold F33.main
  have hd := h.drew
  have r1 := shr_range K h0
  have hm1 : Int.tmod (now / 2 ^ (6 * K)) 64 = (now / 2 ^ (6 * K)) % 64 := Int.tmod_eq_emod_of_nonneg r1.1
  have hm2 := Int.emod_lt_of_pos (now / 2 ^ (6 * K)) (show (0 : Int) < 64 by decide)
  have hm3 := Int.emod_nonneg (now / 2 ^ (6 * K)) (show (64 : Int) ≠ 0 by decide)
  have hs := spoke_lt hK now
  have hgb : w.drew.cell? ⟨gb, 0, none⟩ = some (.pointer (some ⟨g, 0, none⟩)) := hd.cell (.there (.there .here)) rfl
  refine ⟨_, hgb, _, hgb, now, wM_now hd, ?_⟩
  simp only [nilck, shr_eq hK, hm1]
  have hoff : ((⟨g, 0, none⟩ : Addr).add (Int.toNat (K : Int) * 64)).add (Int.toNat ((now / 2 ^ (6 * K)) % 64) * 1) = ⟨g, spoke K now, none⟩ := by
    rw [add_eq, add_eq]; simp [spoke]
  refine ⟨by rw [wrap6 hK]; omega, by decide, ⟨by omega, by omega⟩, ⟨by omega, by omega⟩, ?_⟩
  simp only [nilck, hoff]
  obtain ⟨v, hv, hst⟩ := takeRow hd hs
  refine ⟨v.1, v.2.1, v.2.2, hv, ?_⟩
  refine hst _ (fun w2 h2 => ?_)
  have hrl := (rowC_len h2).1
  rw [flat_len] at hrl
  have htot := tot_set (rows := rows) (i := spoke K now) (by omega) []
  simp only [List.length_nil] at htot
  have loop : ∀ (lf dn : List Al) (rt : List (List Al)) (w : World), dn ++ lf = rowAt rows (spoke K now) → rt.length = 320 → tot rt + lf.length < 2 ^ 30 →
      St w0 O (rowC 60 3 v.1 v.2.1 v.2.2 ((rowAt rows (spoke K now)).flatMap Al.cells) :: wM g gm now seq rt :: mapC gm u64V Al.enc by_ :: blk gb (.cells #[.pointer (some ⟨g, 0, none⟩)] 24) :: L) w →
      SK Try.prog Try.f33 (fun e w' => e = .returned (.tuple #[]) ∧ ∃ rows', Puts now rt (lf.filter fun x => decide (Cur by_ x)) rows' ∧
        St w0 O (wM g gm now seq rows' :: mapC gm u64V Al.enc by_ :: blk gb (.cells #[.pointer (some ⟨g, 0, none⟩)] 24) :: L) w') (cfg Try.f33 4)
        [(1, .pointer (some ⟨gb, 0, none⟩)), (26, .slice v.1 v.2.1 v.2.2), (27, .int .i64 ((v.2.1 : Nat) : Int)), (28, .int .i64 (dn.length : Int))] w := by
    intro lf
    induction lf with
    | nil =>
      intro dn rt w hsp hrt hb h3
      refine F33.p4_ok ?_
      unfold F33.p4
      rw [List.append_nil] at hsp
      rw [decide_eq_false (by rw [hsp]; omega), cond_false]
      exact ⟨rfl, rt, rfl, h3.drop⟩
    | cons x lf ih =>
      intro dn rt w hsp hrt hb h3
      have hlx : (rowAt rows (spoke K now))[dn.length]? = some x := by rw [← hsp]; simp
      have hll : (rowAt rows (spoke K now)).length = dn.length + (lf.length + 1) := by rw [← hsp]; simp
      have hxz : 0 < x.seq := hz _ x (List.mem_of_getElem? hlx)
      refine F33.p4_ok ?_
      unfold F33.p4
      rw [decide_eq_true (by omega), cond_true]
      obtain ⟨gr, hA, hjn, hcs⟩ := rowAl h3 hlx
      rw [hA]
      refine ⟨⟨by omega, by omega⟩, ?_⟩
      simp only [nilck, add_eq, Nat.zero_add, Int.toNat_natCast]
      refine ⟨x.key, x.at_, x.seq, hcs, ?_⟩
      refine alloc60 h3 (fun g6 w4 h4 => ?_)
      refine st60 h4 _ _ _ (fun w5 h5 => ?_)
      have h6 := h5.drew
      have hgb6 : w5.drew.cell? ⟨gb, 0, none⟩ = some (.pointer (some ⟨g, 0, none⟩)) := h6.cell (.there (.there (.there (.there .here)))) rfl
      refine ⟨_, hgb6, ?_⟩
      simp only [nilck]
      refine ⟨some gm, wM_by (h6.pick (.there (.there .here))), x.key, h6.cell .here rfl, _, _, _, look1_ok h6 (.there (.there (.there .here))) x.key, x.key, x.at_, x.seq, h6.cells0 .here, ?_⟩
      rw [tst, atKey_cur hxz]
      have hidx : IntKind.wrap .i64 ((dn.length : Int) + 1) = ((dn ++ [x]).length : Int) := by
        rw [wrap_i64 (by omega) (by omega)]; simp
      rw [hidx]
      have hsp' : dn ++ [x] ++ lf = rowAt rows (spoke K now) := by rw [← hsp]; simp
      rw [List.length_cons] at hb
      by_cases hcx : Cur by_ x
      · rw [decide_eq_true hcx, cond_true]
        refine ⟨_, hgb6, x.key, x.at_, x.seq, h6.cells0 .here, ?_⟩
        have h7 := h6.drop.pick (.there .here)
        have hcc := hc x hcx
        refine (put_ok h7 x h0 hcc.1 (by omega) (far_top hcc.2) (fun r hr => by have := len_le_tot hr; omega)).mono ?_
        rintro e' w8 ⟨rfl, k, hk, hk1, hk2, h8⟩
        refine .inl ⟨rfl, ?_⟩
        have hput : Put now rt x (rt.set (spoke k x.at_) (rt.getD (spoke k x.at_) [] ++ [x])) := ⟨k, hk, hk1, hk2, rfl⟩
        have := ih (dn ++ [x]) _ w8 hsp' (by rw [hput.len, hrt]) (by rw [hput.tot hrt]; omega) (h8.pick (.there .here))
        rw [hA] at this
        refine this.mono ?_
        rintro e' w9 ⟨rfl, rows', hP, h9⟩
        refine ⟨rfl, rows', ?_, h9⟩
        rw [List.filter_cons, if_pos (decide_eq_true hcx)]
        exact ⟨_, hput, hP⟩
      · rw [decide_eq_false hcx, cond_false]
        have := ih (dn ++ [x]) rt _ hsp' hrt (by omega) h6.drop
        rw [hA] at this
        refine this.mono ?_
        rintro e' w9 ⟨rfl, rows', hP, h9⟩
        refine ⟨rfl, rows', ?_, h9⟩
        rw [List.filter_cons, if_neg (by simpa using hcx)]
        exact hP
  exact loop _ [] _ w2 rfl (by simpa using hl) (by omega) h2
end
end Go.Proofs.Ytmngdgdmbebfhaa
