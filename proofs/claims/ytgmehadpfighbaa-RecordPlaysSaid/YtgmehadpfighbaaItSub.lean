/- What a map has, collected: maps.Values's iterator, slices.AppendSeq, slices.Collect. -/
import Derived.Test.YtgmehadpfighbaaIterGen
import Derived.Test.YtgmehadpfighbaaSub
set_option linter.unusedVariables false
set_option linter.unusedSimpArgs false
namespace Go.Proofs.Ytgmehadpfighbaa
open Go Go.RowKit

section
variable {w0 w : World} {O : Nat → Prop} {L M : List Assn} {g gm gB l : Nat} {by_ : List (ByteArray × SubV)}
def mapBoxSub (gB gm : Nat) : Assn := blk gB (.cells #[.map (some gm)] 55)
/-- maps.Values's iterator, whatever a round does. -/
theorem itSub {J : List (ByteArray × SubV) → Assn} (hY : ∀ (F : List Assn) (dn lf : List (ByteArray × SubV)) (x : ByteArray × SubV) (w : World), by_.Perm (dn ++ x :: lf) → St w0 O (J dn :: F) w →
      Yields Try.prog l #[(SubV.enc x.2)] w fun e w' => e = .returned (.bool true) ∧ St w0 O (J (dn ++ [x]) :: F) w')
    (h : St w0 O (mapC gm strV SubV.enc by_ :: mapBoxSub gB gm :: J [] :: L) w) :
    Calls Try.prog 47 #[.func (.yield l) #[] #[], .pointer (some ⟨gB, 0, none⟩)] w fun e w' => (∃ v, e = .returned v) ∧ ∃ dn, by_.Perm dn ∧ St w0 O (J dn :: mapC gm strV SubV.enc by_ :: mapBoxSub gB gm :: L) w' := by
  refine callsIn_wide.1 (callsIn_of_wp (F := Fence.wide) (n := 0) Try.func47 rfl trivial ?_)
  have hf0 := fits_args (N := 15) (args := #[.func (.yield l) #[] #[], .pointer (some ⟨gB, 0, none⟩)]) (show 2 ≤ 15 by decide)
  refine wpIn_seq ?_
  refine wpIn_region ?_
  refine opE_val (N := 15) (i := 0) (s := Instr.loadAt 55 (.pointer (some ⟨gB, 0, none⟩))) wideFn hf0 rfl rfl rfl rfl rfl (fun c h => by cases h) rfl
    (by rw [loadAt_run]; exact run_loadVar_one Try.underlying55 (by kernel_rfl) (h.cell (.there .here) rfl)) (fun a1 hf1 hd1 => ?_)
  obtain ⟨it, w1, hr1, h1⟩ := range_W (P := Try.prog) (K := fun it w' => St w0 O (iterC it gm strV SubV.enc by_ [] by_ :: mapBoxSub gB gm :: J [] :: L) w') h .here Try.underlying55 (fun it w' h' => h')
  refine opE_val (N := 15) (i := 1) (s := Instr.range 55 (.map (some gm))) wideFn hf1 rfl rfl rfl rfl rfl (fun c h => by cases h) rfl hr1 (fun a2 hf2 hd2 => ?_)
  show wpOpsIn _ _ _ _ _ [] _ _
  refine wpIn_block ?_
  refine wpIn_loop_n (n := by_.length) (I := fun n a w => ∃ dn lf, lf.length = n ∧ Fits 15 [(0, .func (.yield l) #[] #[]), (1, .pointer (some ⟨gB, 0, none⟩)), (6, .pointer (some ⟨it, 0, none⟩))] a ∧ St w0 O (iterC it gm strV SubV.enc by_ dn lf :: mapBoxSub gB gm :: J dn :: L) w) ?_ ?_
  · exact ⟨[], by_, rfl, hf2.mask [0, 1, 6] rfl, h1⟩
  · rintro n a w ⟨dn, lf, hn, hf, h2⟩
    refine wpIn_seq ?_
    refine wpIn_region ?_
    rcases next_W (P := Try.prog) (K0 := fun w' => lf = [] ∧ St w0 O (iterC it gm strV SubV.enc by_ dn [] :: mapBoxSub gB gm :: J dn :: L) w')
        (K1 := fun v1 v2 w' => ∃ x lf', lf.Perm (x :: lf') ∧ v1 = strV x.1 ∧ v2 = (SubV.enc x.2) ∧ St w0 O (iterC it gm strV SubV.enc by_ (dn ++ [x]) lf' :: mapBoxSub gB gm :: J dn :: L) w') h2 .here 0 (fun hl w' h' => ⟨hl, h'⟩)
        (fun x lf' hp w' h' => ⟨x, lf', hp, rfl, rfl, h'⟩) with ⟨w3, hr3, hl, h3⟩ | ⟨v1, v2, w3, hr3, x, lf', hp, rfl, rfl, h3⟩
    · refine opE_val (N := 15) (i := 0) (s := Instr.next (.pointer (some ⟨it, 0, none⟩)) false 0) wideFn hf rfl rfl rfl rfl rfl (fun c h => by cases h) rfl hr3 (fun a3 hf3 hd3 => ?_)
      refine opE_val (N := 15) (i := 1) (s := pure (.bool false)) (v := .bool false) wideFn hf3 rfl rfl rfl rfl rfl (fun c h => by cases h) rfl rfl (fun a4 hf4 hd4 => ?_)
      show wpOpsIn _ _ _ _ _ [] _ _
      refine wpIn_seq ?_
      refine wpIn_cond_false (hf4.ev rfl) ?_
      refine wpIn_exit ?_
      have hperm := iterC_perm h3
      rw [List.append_nil] at hperm
      refine ⟨hf4.defers, _, results_none rfl _ _ _, ⟨_, rfl⟩, dn, hperm, ?_⟩
      exact (((iterC_map h3).pick (.there (.there .here))))
    · refine opE_val (N := 15) (i := 0) (s := Instr.next (.pointer (some ⟨it, 0, none⟩)) false 0) wideFn hf rfl rfl rfl rfl rfl (fun c h => by cases h) rfl hr3 (fun a3 hf3 hd3 => ?_)
      refine opE_val (N := 15) (i := 1) (s := pure (.bool true)) (v := .bool true) wideFn hf3 rfl rfl rfl rfl rfl (fun c h => by cases h) rfl rfl (fun a4 hf4 hd4 => ?_)
      show wpOpsIn _ _ _ _ _ [] _ _
      refine wpIn_seq ?_
      refine wpIn_cond_true (hf4.ev rfl) ?_
      refine wpIn_skip ?_
      refine wpIn_block ?_
      refine wpIn_seq ?_
      refine wpIn_region ?_
      refine opE_val (N := 15) (i := 0) (s := Instr.entry (.pointer (some ⟨it, 0, none⟩))) wideFn hf4 rfl rfl rfl rfl rfl (fun c h => by cases h) rfl (entry_of h3 .here) (fun a5 hf5 hd5 => ?_)
      refine opE_val (N := 15) (i := 1) (s := pure (SubV.enc x.2)) (v := (SubV.enc x.2)) wideFn hf5 rfl rfl rfl rfl rfl (fun c h => by cases h) rfl rfl (fun a6 hf6 hd6 => ?_)
      obtain ⟨g4, w4, hr4, h4⟩ := allocE (P := Try.prog) encSub (K := fun g w' => St w0 O (blk g (.cells (encSub.cells encSub.zero).toArray 33) :: iterC it gm strV SubV.enc by_ (dn ++ [x]) lf' :: mapBoxSub gB gm :: J dn :: L) w') h3 (fun g w' h' => h')
      refine opE_val (N := 15) (i := 2) (s := Instr.alloc 33 true (.tuple #[])) wideFn hf6 rfl rfl rfl rfl rfl (fun c h => by cases h) rfl hr4 (fun a7 hf7 hd7 => ?_)
      obtain ⟨w5, hr5, h5⟩ := stE (P := Try.prog) encSub (cs := encSub.cells encSub.zero) (encSub.len _) (K := fun w' => St w0 O (blk g4 (.cells (encSub.cells x.2).toArray 33) :: iterC it gm strV SubV.enc by_ (dn ++ [x]) lf' :: mapBoxSub gB gm :: J dn :: L) w') h4 .here x.2 (fun w' h' => h')
      refine opE_unit (N := 15) (i := 3) (s := Instr.storeAt 33 (.pointer (some ⟨g4, 0, none⟩)) (SubV.enc x.2)) wideFn hf7 rfl rfl rfl rfl rfl (fun c h => by cases h) rfl hr5 (fun a8 hf8 hd8 => ?_)
      show wpOpsIn _ _ _ _ _ [] _ _
      refine wpIn_seq ?_
      refine wpIn_region ?_
      refine opE_val (N := 15) (i := 0) (s := pure (.func (.yield l) #[] #[])) (v := .func (.yield l) #[] #[]) wideFn hf8 rfl rfl rfl rfl rfl (fun c h => by cases h) rfl rfl (fun a9 hf9 hd9 => ?_)
      refine opE_val (N := 15) (i := 1) (s := Instr.loadAt 33 (.pointer (some ⟨g4, 0, none⟩))) (v := (SubV.enc x.2)) wideFn hf9 rfl rfl rfl rfl rfl (fun c h => by cases h) rfl
        (by rw [loadAt_run]; exact run_loadVar_agg (by kernel_rfl) (by kernel_rfl) (h5.cells0 .here)) (fun a10 hf10 hd10 => ?_)
      have hperm := iterC_perm h3
      obtain ⟨fn, tm, asg, bd, hy, hR⟩ := hY (blk g4 (.cells (encSub.cells x.2).toArray 33) :: iterC it gm strV SubV.enc by_ (dn ++ [x]) lf' :: mapBoxSub gB gm :: L) dn lf' x w5 (by simpa using hperm) (h5.pick (.there (.there (.there .here))))
      refine opE_next (N := 15) (i := 2) wideFn hf10 rfl rfl rfl rfl (fun c h => by cases h) ?_
      rw [show ∀ (e : Env) (o : Oper), e.rho (.tmp 11) = .func (.yield l) #[] #[] → e.rho (.tmp 12) = (SubV.enc x.2) → o.op = .call { callee := .value (.tmp 11), args := #[.tmp 12], argTypes := #[33] } → (execOp e.rho o).run Try.prog w5 = (Instr.yield l #[(SubV.enc x.2)]).run Try.prog w5 from
        fun e o h1 h2 h3 => by simp only [execOp, h3, resolve, List.map_toArray, List.map_cons, List.map_nil, h1, h2]; rfl] <;> try rfl
      rw [hy]
      refine ⟨fun h => (by cases h), hR.mono ?_⟩
      rintro e w6 ⟨rfl, h6⟩
      have hf11 := hf10.put (d := some 13) (.bool true) (fun t e => by cases e; decide)
      refine opE_val (N := 15) (i := 3) (s := Op.unary .not (.bool true)) (v := .bool false) wideFn hf11 rfl rfl rfl rfl rfl (fun c h => by cases h) rfl rfl (fun a12 hf12 hd12 => ?_)
      show wpOpsIn _ _ _ _ _ [] _ _
      refine wpIn_cond_false (hf12.ev rfl) ?_
      refine wpIn_skip ?_
      refine ⟨lf'.length, by have := hp.length_eq; simp at this; omega, dn ++ [x], lf', rfl, hf12.mask [0, 1, 6] rfl, ?_⟩
      have h7 := (h6.pick (.there .here)).drop
      exact (h7.pick (.there (.there .here))).pick (.there (.there .here))
/-- What a round of AppendSeq finds and leaves. -/
def JASub (asg bd : Code) (fn : FuncId) (tm : Array Value) (D l g2 : Nat) (dn : List (ByteArray × SubV)) : Assn := fun h => ∃ A n c, stars [blk l (.loop (recA fn tm 7 asg bd D .ready none)), blk g2 (.cells #[.slice A n c] 24), rowS encSub A n c ((dn.map fun p : ByteArray × SubV => p.2))] h
theorem roundSub {fn : FuncId} {tm : Array Value} {D g2 : Nat} (hts : tm.size = 13) (htm : tm.getD 2 undef = .pointer (some ⟨g2, 0, none⟩)) (hlen : by_.length < 2 ^ 30) (F : List Assn) (dn lf : List (ByteArray × SubV)) (x : ByteArray × SubV) (w : World)
    (hp : by_.Perm (dn ++ x :: lf)) (h : St w0 O (JASub (asgOf Try.f50) (bdOf Try.f50) fn tm D l g2 dn :: F) w) : Yields Try.prog l #[(SubV.enc x.2)] w fun e w' => e = .returned (.bool true) ∧ St w0 O (JASub (asgOf Try.f50) (bdOf Try.f50) fn tm D l g2 (dn ++ [x]) :: F) w' := by
  unfold JASub at h
  obtain ⟨A, h⟩ := h.ex
  obtain ⟨n, h⟩ := h.ex
  obtain ⟨c, h⟩ := h.ex
  have h := h.flat
  have hl := h.get.1
  have hn : n < 2 ^ 30 := by
    have h1 := (rowS_len encSub (by decide) (h.pick (.there (.there .here)))).1
    rw [List.length_map] at h1
    have := hp.length_eq
    simp at this
    omega
  refine ⟨fn, _, (asgOf Try.f50), (bdOf Try.f50), run_yield hl rfl, roundIn_of_wpIn trivial ?_⟩
  have hF : ∀ f, (Fence.wide.inRound l).fn f := fun _ => trivial
  have hf0 : Fits 13 [(7, (SubV.enc x.2)), (2, .pointer (some ⟨g2, 0, none⟩))] { tmps := (((#[7] : Array Tmp).zip #[(SubV.enc x.2)]).foldl (fun tmps (t, a) => tmps.setIfInBounds t a) tm), defers := [] } := by
    have e : (((#[7] : Array Tmp).zip #[(SubV.enc x.2)]).foldl (fun tmps (t, a) => tmps.setIfInBounds t a) tm) = tm.setIfInBounds 7 (SubV.enc x.2) := by simp
    rw [e]
    refine ⟨by simp [hts], rfl, fun t v ht => ?_⟩
    rw [Env.get_cons] at ht
    split at ht
    · rename_i e; subst e; cases ht; exact ⟨by simp [hts], by decide⟩
    · rename_i hne
      rw [Env.get_cons] at ht
      split at ht
      · rename_i e; subst e; cases ht
        refine ⟨?_, by decide⟩
        simp only [Array.getD_eq_getD_getElem?, Array.getElem?_setIfInBounds_ne hne] at htm ⊢
        exact htm
      · cases ht
  refine wpIn_region ?_
  obtain ⟨g5, w1, hr1, h1⟩ := allocE (P := Try.prog) encSub (K := fun g w' => St w0 O (blk g (.cells (encSub.cells encSub.zero).toArray 33) :: ([blk l (.loop (recA fn tm 7 (asgOf Try.f50) (bdOf Try.f50) D .ready none)), blk g2 (.cells #[.slice A n c] 24), rowS encSub A n c ((dn.map fun p : ByteArray × SubV => p.2))] ++ F)) w') h (fun g w' h' => h')
  refine opE_val (N := 13) (i := 0) (s := Instr.alloc 33 true (.tuple #[])) hF hf0 rfl rfl rfl rfl rfl (fun c h => by cases h) rfl hr1 (fun a1 hf1 hd1 => ?_)
  obtain ⟨w2, hr2, h2⟩ := stE (P := Try.prog) encSub (cs := encSub.cells encSub.zero) (encSub.len _) (K := fun w' => St w0 O (blk g5 (.cells (encSub.cells x.2).toArray 33) :: ([blk l (.loop (recA fn tm 7 (asgOf Try.f50) (bdOf Try.f50) D .ready none)), blk g2 (.cells #[.slice A n c] 24), rowS encSub A n c ((dn.map fun p : ByteArray × SubV => p.2))] ++ F)) w') h1 .here x.2 (fun w' h' => h')
  refine opE_unit (N := 13) (i := 1) (s := Instr.storeAt 33 (.pointer (some ⟨g5, 0, none⟩)) (SubV.enc x.2)) hF hf1 rfl rfl rfl rfl rfl (fun c h => by cases h) rfl hr2 (fun a2 hf2 hd2 => ?_)
  show wpOpsIn _ _ _ _ _ [] _ _
  have h3 := h2.pick (.there .here)
  refine ⟨_, run_beginRound h3.get.1 rfl, ?_⟩
  have h4 := h3.setObj (o' := .loop { recA fn tm 7 (asgOf Try.f50) (bdOf Try.f50) D .ready none with state := .busy })
  refine wpIn_block ?_
  refine wpIn_region ?_
  refine opE_val (N := 13) (i := 0) (s := Instr.loadAt 24 (.pointer (some ⟨g2, 0, none⟩))) (v := .slice A n c) hF hf2 rfl rfl rfl rfl rfl (fun c h => by cases h) rfl
    (by rw [loadAt_run]; exact run_loadVar_one Try.underlying24 (by kernel_rfl) (h4.cell (.there (.there .here)) rfl)) (fun a3 hf3 hd3 => ?_)
  refine opE_val (N := 13) (i := 1) (s := Instr.loadAt 33 (.pointer (some ⟨g5, 0, none⟩))) (v := (SubV.enc x.2)) hF hf3 rfl rfl rfl rfl rfl (fun c h => by cases h) rfl
    (by rw [loadAt_run]; exact run_loadVar_agg (by kernel_rfl) (by kernel_rfl) (h4.cells0 (.there .here))) (fun a4 hf4 hd4 => ?_)
  obtain ⟨gq, w5, hr5, h5⟩ := bslE1 (P := Try.prog) encSub elemSub x.2 (by decide) (K := fun g w' => St w0 O (blk g (.cells (encSub.cells x.2).toArray 33) :: blk l (.loop { recA fn tm 7 (asgOf Try.f50) (bdOf Try.f50) D .ready none with state := .busy }) :: blk g5 (.cells (encSub.cells x.2).toArray 33) :: blk g2 (.cells #[.slice A n c] 24) :: rowS encSub A n c ((dn.map fun p : ByteArray × SubV => p.2)) :: F) w') h4 (fun g w' h' => h')
  refine opE_val (N := 13) (i := 2) (s := Instr.buildSlice 24 1 #[(0, (SubV.enc x.2))]) hF hf4 rfl rfl rfl rfl rfl (fun c h => by cases h) (by kernel_rfl) hr5 (fun a5 hf5 hd5 => ?_)
  obtain ⟨A', n', c', w6, hr6, hn', h6⟩ := appE encSub elemSub 24 (K := fun A' n' c' w' => n' = n + 1 ∧ St w0 O (rowS encSub A' (n + 1) c' ((dn.map fun p : ByteArray × SubV => p.2) ++ [x.2]) :: blk gq (.cells (encSub.cells x.2).toArray 33) :: blk l (.loop { recA fn tm 7 (asgOf Try.f50) (bdOf Try.f50) D .ready none with state := .busy }) :: blk g5 (.cells (encSub.cells x.2).toArray 33) :: blk g2 (.cells #[.slice A n c] 24) :: F) w')
    x.2 h5 (.there (.there (.there (.there .here)))) (h5.cells0 (vs := (encSub.cells x.2)) .here) hn (by decide) (fun A' c' w' h' => ⟨rfl, h'⟩)
  subst hn'
  refine opE_val (N := 13) (i := 3) (s := Builtin.append_ #[24, 24] 24 #[.slice A n c, .slice (some ⟨gq, 0, none⟩) 1 1]) hF hf5 rfl rfl rfl rfl rfl (fun c h => by cases h) (by kernel_rfl) hr6 (fun a6 hf6 hd6 => ?_)
  obtain ⟨w7, hr7, h7⟩ := st_W (P := Try.prog) (K := fun w' => St w0 O (blk g2 (.cells #[.slice A' (n + 1) c'] 24) :: rowS encSub A' (n + 1) c' ((dn.map fun p : ByteArray × SubV => p.2) ++ [x.2]) :: blk gq (.cells (encSub.cells x.2).toArray 33) :: blk l (.loop { recA fn tm 7 (asgOf Try.f50) (bdOf Try.f50) D .ready none with state := .busy }) :: blk g5 (.cells (encSub.cells x.2).toArray 33) :: F) w')
    (v := .slice A' (n + 1) c') (off := 0) h6 (.there (.there (.there (.there .here)))) 24 (by kernel_rfl) rfl (Nat.le_refl 1) (fun w' h' => h')
  refine opE_unit (N := 13) (i := 4) (s := Instr.storeAt 24 (.pointer (some ⟨g2, 0, none⟩)) (.slice A' (n + 1) c')) hF hf6 rfl rfl rfl rfl rfl (fun c h => by cases h) rfl hr7 (fun a7 hf7 hd7 => ?_)
  show wpOpsIn _ _ _ _ _ [] _ _
  have h8 := h7.pick (.there (.there (.there .here)))
  refine ⟨_, _, run_endRound none h8.get.1, rfl, ?_⟩
  have h9 := h8.setObj (o' := .loop { { recA fn tm 7 (asgOf Try.f50) (bdOf Try.f50) D .ready none with state := .busy } with state := if (none : Option Code).isNone then .ready else .done, pending := none })
  have h10 := ((h9.pick (.there (.there (.there .here)))).drop.pick (.there (.there (.there .here)))).drop
  refine St.make (M := [blk l (.loop (recA fn tm 7 (asgOf Try.f50) (bdOf Try.f50) D .ready none)), blk g2 (.cells #[.slice A' (n + 1) c'] 24), rowS encSub A' (n + 1) c' ((dn.map fun p : ByteArray × SubV => p.2) ++ [x.2])]) h10 fun k hk => ?_
  unfold JASub
  refine ⟨A', n + 1, c', ?_⟩
  rw [List.map_append]
  exact hk
/-- slices.AppendSeq(nil, maps.Values(m)). -/
theorem appSeqSub (h : St w0 O (mapC gm strV SubV.enc by_ :: mapBoxSub gB gm :: L) w) (hlen : by_.length < 2 ^ 30) :
    Calls Try.prog 50 #[.slice none 0 0, .func (.func 47) #[] #[.pointer (some ⟨gB, 0, none⟩)]] w fun e w' => ∃ A n c dn, e = .returned (.slice A n c) ∧ by_.Perm dn ∧
      St w0 O (rowS encSub A n c ((dn.map fun p : ByteArray × SubV => p.2)) :: mapC gm strV SubV.enc by_ :: mapBoxSub gB gm :: L) w' := by
  refine callsIn_wide.1 (callsIn_of_wp_marks (F := Fence.wide) (n := 0) Try.func50 rfl trivial ?_)
  have hf0 := fits_args (N := 13) (args := #[.slice none 0 0, .func (.func 47) #[] #[.pointer (some ⟨gB, 0, none⟩)]]) (show 2 ≤ 13 by decide)
  refine wpIn_seq ?_
  refine wpIn_region ?_
  obtain ⟨g2, w1, hr1, h1⟩ := new_box (P := Try.prog) (t := 24) (v := .slice none 0 0) (K := fun g w' => St w0 O (blk g (.cells #[.slice none 0 0] 24) :: mapC gm strV SubV.enc by_ :: mapBoxSub gB gm :: L) w') h (fun g w' h' => h')
  refine opE_val (N := 13) (i := 0) (s := Instr.box 24 (.slice none 0 0)) wideFn hf0 rfl rfl rfl rfl rfl (fun c h => by cases h) rfl hr1 (fun a1 hf1 hd1 => ?_)
  refine opE_val (N := 13) (i := 1) (s := pure (.slice none 0 0)) (v := .slice none 0 0) wideFn hf1 rfl rfl rfl rfl rfl (fun c h => by cases h) rfl rfl (fun a2 hf2 hd2 => ?_)
  show wpOpsIn _ _ _ _ _ [] _ _
  refine wpIn_seq ?_
  refine wpIn_seq ?_
  refine wpIn_region ?_
  refine opE_val (N := 13) (i := 0) (s := pure (.func (.func 47) #[] #[.pointer (some ⟨gB, 0, none⟩)])) (v := .func (.func 47) #[] #[.pointer (some ⟨gB, 0, none⟩)]) wideFn hf2 rfl rfl rfl rfl rfl (fun c h => by cases h) rfl rfl (fun a3 hf3 hd3 => ?_)
  show wpOpsIn _ _ _ _ _ [] _ _
  refine wpIn_block ?_
  refine wpIn_rangeFunc ?_
  intro fn hfn
  have hev : a3.eval (.tmp 6) = .func (.func 47) #[] #[.pointer (some ⟨gB, 0, none⟩)] := hf3.ev rfl
  have eg : ∀ args w, (callFunc 47 args).run Try.prog w = .ok (.enter 47 args) w := enters_of Try.func47 (by kernel_rfl) rfl
  have h2 := (h1.alloc (.deferred (some []))).alloc (.loop (recA fn a3.tmps 7 (asgOf Try.f50) (bdOf Try.f50) w1.heap.size .ready none))
  rw [World.size_alloc] at h2
  have hen := run_enterLoop_outer (P := Try.prog) (w := w1) fn a3.tmps #[7] (asgOf Try.f50) (bdOf Try.f50)
  change (Instr.enterLoop fn a3.tmps #[7] (asgOf Try.f50) (bdOf Try.f50) none).run Try.prog w1 = .ok (w1.heap.size + 1, [{ target := .collected w1.heap.size, args := #[] }]) ((w1.alloc (.deferred (some []))).alloc (.loop (recA fn a3.tmps 7 (asgOf Try.f50) (bdOf Try.f50) w1.heap.size .ready none))) at hen
  generalize (w1.alloc (.deferred (some []))).alloc (.loop (recA fn a3.tmps 7 (asgOf Try.f50) (bdOf Try.f50) w1.heap.size .ready none)) = W at hen h2
  refine ⟨w1.heap.size + 1, [{ target := .collected w1.heap.size, args := #[] }], W, { target := .fn (.func 47) #[.pointer (some ⟨gB, 0, none⟩)], args := #[.func (.yield (w1.heap.size + 1)) #[] #[]] },
    W, 47, #[.func (.yield (w1.heap.size + 1)) #[] #[]] ++ #[.pointer (some ⟨gB, 0, none⟩)], W, hen, ?_, fun f' _ => trivial, ?_, fun h => (by cases h), ?_⟩
  · simp only [resolve, hev]
    simp [go_sem]
  · simp [invoke, go_sem, eg]
  · refine callsIn_wide.2 ?_
    have hJ0 : St w0 O (mapC gm strV SubV.enc by_ :: mapBoxSub gB gm :: JASub (asgOf Try.f50) (bdOf Try.f50) fn a3.tmps w1.heap.size (w1.heap.size + 1) g2 [] :: blk w1.heap.size (.deferred (some [])) :: L) W := by
      have h3 := rowS_nil encSub (h2.pick (.there (.there .here)))
      have h4 : St w0 O (JASub (asgOf Try.f50) (bdOf Try.f50) fn a3.tmps w1.heap.size (w1.heap.size + 1) g2 [] :: blk w1.heap.size (.deferred (some [])) :: mapC gm strV SubV.enc by_ :: mapBoxSub gB gm :: L) W := by
        refine St.make (M := [blk (w1.heap.size + 1) (.loop (recA fn a3.tmps 7 (asgOf Try.f50) (bdOf Try.f50) w1.heap.size .ready none)), blk g2 (.cells #[.slice none 0 0] 24), rowS encSub none 0 0 []]) ((h3.pick (.there .here)).pick (.there (.there .here))) fun k hk => ?_
        unfold JASub
        exact ⟨none, 0, 0, hk⟩
      exact ((h4.pick (.there .here)).pick (.there .here)).pick (.there (.there (.there .here))) |>.pick (.there (.there (.there .here)))
    refine Calls.mono (itSub (l := w1.heap.size + 1) (J := JASub (asgOf Try.f50) (bdOf Try.f50) fn a3.tmps w1.heap.size (w1.heap.size + 1) g2) (fun F dn lf x w hp hst => roundSub hf3.size (fits_tmps hf3 rfl) hlen F dn lf x w hp hst) hJ0) ?_
    rintro e w4 ⟨⟨v, rfl⟩, dn, hperm, h4⟩
    unfold JASub at h4
    obtain ⟨A, h4⟩ := h4.ex
    obtain ⟨n, h4⟩ := h4.ex
    obtain ⟨c, h4⟩ := h4.ex
    have h5 := h4.flat
    refine ⟨none, _, run_endLoop h5.get.1 (by intro e; cases e), ?_⟩
    have h6 := h5.setObj (o' := .loop { recA fn a3.tmps 7 (asgOf Try.f50) (bdOf Try.f50) w1.heap.size .ready none with state := .exhausted })
    change St w0 O _ (w4.putObj (w1.heap.size + 1) (.loop { recA fn a3.tmps 7 (asgOf Try.f50) (bdOf Try.f50) w1.heap.size .ready none with state := .exhausted })) at h6
    generalize w4.putObj (w1.heap.size + 1) (.loop { recA fn a3.tmps 7 (asgOf Try.f50) (bdOf Try.f50) w1.heap.size .ready none with state := .exhausted }) = w5 at h6
    have h7 : St w0 O (blk w1.heap.size (.deferred (some [])) :: blk g2 (.cells #[.slice A n c] 24) :: rowS encSub A n c ((dn.map fun p : ByteArray × SubV => p.2)) :: mapC gm strV SubV.enc by_ :: mapBoxSub gB gm :: L) w5 := h6.drop.pick (.there (.there (.there (.there .here))))
    show Code.wpIn _ _ _ _ _ _ _
    refine wpIn_seq ?_
    refine wpIn_region ?_
    rw [hf3.defers]
    refine opE_valD (N := 13) (i := 0) (s := Instr.loadAt 24 (.pointer (some ⟨g2, 0, none⟩))) (v := .slice A n c) _ wideFn hf3 rfl rfl rfl rfl rfl (fun c h => by cases h) rfl
      (by rw [loadAt_run]; exact run_loadVar_one Try.underlying24 (by kernel_rfl) (h7.cell (.there .here) rfl)) (fun a4 hf4 => ?_)
    refine opE_valD (N := 13) (i := 1) (s := pure (.slice A n c)) (v := .slice A n c) _ wideFn hf4 rfl rfl rfl rfl rfl (fun c h => by cases h) rfl rfl (fun a5 hf5 => ?_)
    show wpOpsIn _ _ _ _ _ [] _ _
    refine wpIn_ret ?_
    have h8 := h7.setObj (o' := .deferred none)
    refine ⟨(by intro e; cases e), .inl ⟨w1.heap.size, _, rfl, run_takeDeferred h7.get.1, ?_⟩⟩
    obtain ⟨v, ⟨hv, _⟩, hres⟩ := retW_sound (P := Try.prog) (fn := Try.f50) (R := fun en w => en = .returned (.slice A n c) ∧ True) (w := w5.putObj w1.heap.size (.deferred none)) (e := [(4, .slice A n c)]) ⟨rfl, trivial⟩
    exact ⟨_, hres a5 (hf5.mask [4] rfl), A, n, c, dn, hv, hperm, h8.drop.drop⟩
theorem collectSub (h : St w0 O (mapC gm strV SubV.enc by_ :: mapBoxSub gB gm :: L) w) (hlen : by_.length < 2 ^ 30) :
    Calls Try.prog 45 #[.func (.func 47) #[] #[.pointer (some ⟨gB, 0, none⟩)]] w fun e w' => ∃ A n c dn, e = .returned (.slice A n c) ∧ by_.Perm dn ∧
      St w0 O (rowS encSub A n c ((dn.map fun p : ByteArray × SubV => p.2)) :: mapC gm strV SubV.enc by_ :: mapBoxSub gB gm :: L) w' := by
  refine F45.calls ?_
  unfold F45.main
  refine (appSeqSub h hlen).mono ?_
  rintro e w1 ⟨A, n, c, dn, rfl, hp, h1⟩
  exact .inl ⟨A, n, c, rfl, A, n, c, dn, rfl, hp, h1⟩
end
end Go.Proofs.Ytgmehadpfighbaa
