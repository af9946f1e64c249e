/- The laws' example; nothing is appended; what the laws need beside. -/
import Derived.Test.YtmngdgdmbebfhaaWheel9
set_option linter.unusedVariables false
set_option linter.unusedSimpArgs false
namespace Go.Proofs.Ytmngdgdmbebfhaa
open Go Go.RowKit

section
variable {P : Program} {w0 w : World} {O : Nat → Prop} {L M R : List Assn} {g : Nat} {s : WS}
theorem append_none_W {K : Option Addr → Nat → Nat → World → Prop} {ts t : TypeId} {sz bytes n c : Nat} {A : Option Addr} (E : ElemT P ts t sz bytes) (u : TypeId) (hc : n ≤ c) (k : K A n c w) :
    slW P (Builtin.append_ #[ts, ts] u #[.slice A n c, .slice none 0 0]) w K := by
  obtain ⟨i, z, hi, hz, hs, hb, hzs⟩ := E.info
  refine ⟨A, n, c, w, ?_, k⟩
  have hsz : sizeIs P t sz = true := by unfold sizeIs; rw [hi]; simp [hs]
  unfold Builtin.append_
  simp only [List.getElem?_toArray, List.getElem?_cons_zero, List.getElem?_cons_succ, Sem.run_bind, run_underlying E.slice, Result.andThen_ok, run_sizeOf_is hsz, Sem.run_pure, Bool.false_eq_true, if_false, Bool.not_false, if_true, Builtin.lenOf, Nat.add_zero, hc, Builtin.firstCells]
  cases A <;> simp [storeCells]

def e1 : WS := setS WS.zero 7 5
def e2 : WS := setS e1 8 3
def e3 : WS := setS e2 7 3
def e4 : WS := tickS e3 2
def e5 : WS := tickS e4 1
theorem bslK2 {K : Nat → World → Prop} {a b : Int} (h : St w0 O L w) (k : ∀ g w', St w0 O (blk g (.cells #[.int .u64 a, .int .u64 b] 27) :: L) w' → K g w') :
    bslW Try.prog 2 (Instr.buildSlice 35 2 #[(0, .int .u64 a), (1, .int .u64 b)]) w K :=
  bsl_W (e := 27) (sz := 1) (z := .int .u64 0) h Try.underlying35 (by kernel_rfl) (by kernel_rfl) (by decide) (by decide) (by kernel_rfl) k
theorem alive_ok (h : St w0 O L w) : Calls Try.prog 6 #[] w fun e w' => e = .returned (.bool true) ∧ St w0 O L w' := by
  refine F6.calls ?_
  unfold F6.main
  refine (New_ok h).mono ?_
  rintro e w1 ⟨g, rfl, h1⟩
  refine .inl ⟨_, rfl, ?_⟩
  refine (Set_ok h1 (by decide) 7 5).mono ?_
  rintro e w2 ⟨rfl, h2⟩
  refine .inl ⟨_, rfl, ?_⟩
  refine (Set_ok (s := e1) h2 (by decide) 8 3).mono ?_
  rintro e w3 ⟨rfl, h3⟩
  refine .inl ⟨_, rfl, ?_⟩
  refine (Set_ok (s := e2) h3 (by decide) 7 3).mono ?_
  rintro e w4 ⟨rfl, h4⟩
  refine .inl ⟨_, rfl, ?_⟩
  refine (Next_ok (s := e3) h4).mono ?_
  rintro e w5 ⟨rfl, h5⟩
  refine .inl ⟨_, _, rfl, ?_⟩
  refine (Tick_ok (s := e3) h5 (by decide) 2).mono ?_
  rintro e w6 ⟨A6, n6, c6, rfl, h6⟩
  refine .inl ⟨_, _, _, _, rfl, ?_⟩
  have k6 := keys_len h6
  refine (Tick_ok (s := e4) (h6.pick (.there .here)) (by decide) 1).mono ?_
  rintro e w7 ⟨A7, n7, c7, rfl, h7⟩
  refine .inl ⟨_, _, _, _, rfl, ?_⟩
  have k7 := keys_len h7
  refine (Tick_ok (s := e5) (h7.pick (.there .here)) (by decide) (-1)).mono ?_
  rintro e w8 ⟨A8, n8, c8, rfl, h8⟩
  refine .inl ⟨_, _, _, _, rfl, ?_⟩
  rw [show setE WS.zero 7 5 = 0 from by decide, show setE e1 8 3 = 0 from by decide, show setE e2 7 3 = 0 from by decide, show nextE e3 = (3, true) from by decide, show tickE e3 2 = 0 from by decide, show tickE e4 1 = 0 from by decide, show tickE e5 (-1) = 2 from by decide]
  rw [show tickO e3 2 = [] from by decide] at k6
  rw [show ((n6 : Int) == 0) = true from by rw [k6]; rfl]
  simp only [show ((0 : Int) == 0) = true from rfl, show ((3 : Int) == 3) = true from rfl, show ((2 : Int) == 2) = true from rfl, cond_true]
  refine bslK2 h8 (fun gq w9 h9 => ?_)
  have h10 : St w0 O (keysC A7 n7 c7 (tickO e4 1) :: keysC (some ⟨gq, 0, none⟩) 2 2 [8, 7] :: isW g (tickS e5 (-1)) :: L) w9 := by
    have a := rowC_shut (t := 27) (sz := 1) (n := 2) (c := 2) (cells := [8, 7].map u64V) rfl (Nat.le_refl 2) (by decide) rfl rfl rfl h9
    have b := (a.pick (.there .here)).drop
    exact ((b.pick (.there (.there (.there .here)))).drop).pick (.there (.there .here))
  refine (Same_ok h10 (by rw [k7]; decide)).mono ?_
  rintro e w11 ⟨rfl, h11⟩
  rw [show decide (tickO e4 1 = [8, 7]) = true from by decide]
  refine .inl ⟨_, rfl, ?_⟩
  simp only [cond_true]
  refine (Set_ok (s := tickS e5 (-1)) (h11.pick (.there (.there .here))) (by decide) 9 0).mono ?_
  rintro e w12 ⟨rfl, h12⟩
  rw [show setE (tickS e5 (-1)) 9 0 = 2 from by decide]
  refine .inl ⟨_, rfl, ?_⟩
  simp only [show ((2 : Int) == 2) = true from rfl, cond_true]
  refine (Now_ok h12).mono ?_
  rintro e w13 ⟨rfl, h13⟩
  rw [show (setS (tickS e5 (-1)) 9 0).now = 3 from by decide]
  refine .inl ⟨_, rfl, ?_⟩
  simp only [show ((3 : Int) == 3) = true from rfl, cond_true]
  refine (Clear_ok h13 7).mono ?_
  rintro e w14 ⟨rfl, h14⟩
  rw [show (mget (setS (tickS e5 (-1)) 9 0).by_ 7).isSome = false from by decide]
  exact .inl ⟨_, rfl, rfl, h14.drop.drop.drop⟩
/-- Keys are appended to keys. -/
theorem appendKs {K : Option Addr → Nat → Nat → World → Prop} {A B : Option Addr} {n c m d : Nat} {ks ks' : List Int} (h : St w0 O (keysC A n c ks :: keysC B m d ks' :: L) w) (hn : n + m < 2 ^ 31)
    (k : ∀ A' c' w', St w0 O (keysC A' (n + m) c' (ks ++ ks') :: keysC B m d ks' :: L) w' → K A' (n + m) c' w') :
    slW Try.prog (Builtin.append_ #[35, 35] 35 #[.slice A n c, .slice B m d]) w K := by
  have hm := keys_len h.drop
  rcases rowC_open (h.pick (.there .here)) with ⟨⟨rfl, rfl, rfl, hnil⟩, h1⟩ | ⟨g, cur, ⟨rfl, h2⟩, h1⟩
  · obtain rfl : ks' = [] := by simpa using hnil
    refine append_none_W elemK 35 (rowC_len h).2.1 (k A c w ?_)
    rw [List.append_nil, Nat.add_zero]
    exact h
  · refine append_W elemK 35 h .here ⟨g, 0, none⟩ m d (ks'.map u64V) (by simp [hm]) (fun j u hj => ?_) (by simp [u64V, Value.oneCell']) (by omega) (by omega) (fun A' c' w' h' => k A' c' w' ?_)
    · obtain ⟨g2, e, hc⟩ := rowC_cell h.drop hj
      cases e
      rw [add_eq, Nat.zero_add]
      exact hc
    · rw [keysC, List.map_append]
      exact h'
/-- An argument: whole numbers in memory. -/
def Arg (k : IntKind) (w0 : World) (A : Option Addr) (len : Nat) (zs : List Int) : Prop := ∀ j, j < len → ∃ a, A = some a ∧ w0.cell? (a.add j) = some (.int k (zs.getD j 0)) ∧ (Lit.int k (zs.getD j 0)).wf = true
theorem St.oldCell (h : St w0 (World.all w0) L w) {a : Addr} {v : Value} (hv : w0.cell? a = some v) : w.cell? a = some v := by
  have hb : a.block < w0.heap.size := by
    unfold World.cell? at hv
    cases ho : w0.heap[a.block]? with
    | none => simp [ho] at hv
    | some o => exact (Array.getElem?_eq_some_iff.1 ho).1
  exact (World.cell?_of_block (h.old a.block hb).2).trans hv
end
/-! ### Steps of time -/
section
variable {s : WS}
theorem T_T {m m' : Int} (h : m ≤ m') : T (T s m) m' = T s m' := by
  unfold T
  simp only [List.filter_filter]
  congr 1
  refine List.filter_congr fun p hp => ?_
  rw [Bool.eq_iff_iff]
  simp
  omega
theorem ord_Dl (hS : wS s) {m m' : Int} (h : m ≤ m') : ord (Dl s m) ++ ord (Dl (T s m) m') = ord (Dl s m') := by
  refine ord_append ?_ ?_ (Dl_seqs hS m')
  · unfold Dl T
    simp only [List.filter_filter, ← List.map_append]
    refine List.Perm.map _ ?_
    have hp := List.filter_append_perm (fun p : Int × Al => decide (p.2.at_ ≤ m)) (s.by_.filter fun p => decide (p.2.at_ ≤ m'))
    rw [List.filter_filter, List.filter_filter] at hp
    refine List.Perm.trans (List.Perm.of_eq ?_) hp
    congr 1
    · refine List.filter_congr fun p hp => ?_
      rw [Bool.eq_iff_iff]
      simp
      omega
    · refine List.filter_congr fun p hp => ?_
      rw [Bool.eq_iff_iff]
      simp
      omega
  · intro x hx y hy
    obtain ⟨p, hp, rfl⟩ := List.mem_map.1 hx
    obtain ⟨q, hq, rfl⟩ := List.mem_map.1 hy
    have h1 := of_decide_eq_true (List.mem_filter.1 hp).2
    have h2 : m < q.2.at_ := of_decide_eq_true (List.mem_filter.1 (List.mem_filter.1 hq).1).2
    show p.2.at_ < q.2.at_
    omega
end
end Go.Proofs.Ytmngdgdmbebfhaa
