/- The file of subscribers: Copy, List. -/
import Derived.Test.YtgmehadpfighbaaRec2
import Derived.Test.YtgmehadpfighbaaSortGen
import Derived.Test.YtgmehadpfighbaaSoSub
import Derived.Test.YtgmehadpfighbaaItSub
import Derived.Test.YtgmehadpfighbaaCloBy
import Derived.Test.YtgmehadpfighbaaCloAt
import Derived.Test.YtgmehadpfighbaaStrCmp
set_option linter.unusedVariables false
set_option linter.unusedSimpArgs false
namespace Go.Proofs.Ytgmehadpfighbaa
open Go Go.RowKit Go.Sort

section
variable {w0 w : World} {O : Nat → Prop} {L R : List Assn} {g gb ga : Nat} {s : FS}
theorem St.drewN (h : St w0 O L w) (q : Nat) : St w0 O L (w.drewN q) := ⟨h.os, h.tape, h.output, h.size, h.old, h.parts⟩
theorem St.grew {w' : World} (h : St w0 O L w) (hg : Grew w w') : St w0 O L w' := by
  obtain ⟨q, os, rfl⟩ := hg
  exact (h.drewN q).growW os
theorem Grew.trans {a b c : World} (h1 : Grew a b) (h2 : Grew b c) : Grew a c := by
  obtain ⟨q, os, rfl⟩ := h1
  obtain ⟨q2, os2, rfl⟩ := h2
  refine ⟨q + q2, os ++ os2, ?_⟩
  rw [← grow_grow]
  simp [World.drewN, grow, Nat.add_assoc]
theorem Copy_ok (h : St w0 O (isF g s :: L) w) : Calls Try.prog 17 #[.pointer (some ⟨g, 0, none⟩)] w fun e w' => ∃ g', e = .returned (.pointer (some ⟨g', 0, none⟩)) ∧ St w0 O (isF g' s :: isF g s :: L) w' := by
  obtain ⟨gb, ga, kvs, avs, ⟨hF, hM, hA⟩, h1⟩ := isF_open h
  refine F17.calls ?_
  unfold F17.main
  simp only [Option.isNone, cond_false, nilck, add_eq]
  have h2 := h1.drew
  refine ⟨some gb, h2.cell .here rfl, some ga, h2.cell .here rfl, s.most, h2.cell .here rfl, ?_⟩
  refine (cloneBy_ok (h2.pick (.there .here))).mono ?_
  rintro e w3 ⟨gb', rfl, h3⟩
  refine .inl ⟨_, rfl, fun _ => h3.cell (.there (.there .here)) rfl, fun _ => h3.cell (.there (.there .here)) rfl, ?_⟩
  refine (cloneAt_ok (h3.pick (.there (.there (.there .here))))).mono ?_
  rintro e w4 ⟨ga', rfl, h4⟩
  refine .inl ⟨_, rfl, fun _ => h4.cell (.there (.there (.there (.there .here)))) rfl, ?_⟩
  refine new_box h4 (fun g' w5 h5 => ?_)
  refine ⟨g', rfl, ?_⟩
  have h6 := h5.sel 6 [5, 4, 2, 0, 3, 1]
  have h7 : St w0 O (isF g s :: _ ) w5 := isF_shut hF hM hA h6
  exact isF_shut hF hM hA (h7.sel 4 [1, 2, 3, 0])
theorem key_ok (x : SubV) (w : World) : Calls Try.prog 27 #[x.enc] w fun e w' => e = .returned (.string x.name) ∧ Grew w w' := by
  refine F27.calls ?_
  unfold F27.main
  refine ⟨_, _, run_box _ _, ?_⟩
  have s1 := (St.refl w).alloc (.cells x.cells.toArray 33)
  exact ⟨x.name, s1.cell .here rfl, rfl, (Grew.refl w).alloc _⟩
def cmpS (x y : SubV) : Int := Lib.compareBytes x.name.data.toList y.name.data.toList
theorem ltOf_cmpS (x y : SubV) : Go.Proofs.ltOf cmpS x y = ltB x.name y.name := cmpB_ltB _ _
theorem cmp_ok {g3 : Nat} (h : St w0 O (blk g3 (.cells #[.func (.func 27) #[] #[]] 62) :: L) w) (x y : SubV) :
    Calls Try.prog 38 #[x.enc, y.enc, .pointer (some ⟨g3, 0, none⟩)] w fun e w' => e = .returned (.int .i64 (cmpS x y)) ∧ Grew w w' := by
  refine F38.calls ?_
  unfold F38.main
  refine ⟨_, _, run_box _ _, ?_⟩
  have s1 := h.alloc (.cells x.cells.toArray 33)
  refine ⟨_, _, run_box _ _, ?_⟩
  have s2 := (s1.alloc (.cells y.cells.toArray 33)).drew
  have g2 : Grew w (((w.alloc (.cells x.cells.toArray 33)).alloc (.cells y.cells.toArray 33)).drew) := (((Grew.refl w).alloc _).alloc _).drew
  refine ⟨_, s2.cell (.there (.there .here)) rfl, x.name, x.secret, x.plan, x.addr, x.susp, s2.cells0 (vs := x.cells) (.there .here), _, s2.cell (.there (.there .here)) rfl, y.name, y.secret, y.plan, y.addr, y.susp, s2.cells0 (vs := y.cells) .here, ?_⟩
  refine ⟨27, #[], #[], rfl, enters_of Try.func27 (by kernel_rfl) rfl, ?_⟩
  refine (show Calls Try.prog 27 (#[] ++ #[x.enc] ++ #[]) _ _ from key_ok x _).mono ?_
  rintro e w3 ⟨rfl, g3'⟩
  have s3 := s2.grew g3'
  refine .inl ⟨x.name, rfl, fun _ => s3.cells0 (vs := y.cells) .here, fun _ => s3.cell (.there (.there .here)) rfl, ?_⟩
  refine ⟨27, #[], #[], rfl, enters_of Try.func27 (by kernel_rfl) rfl, ?_⟩
  refine (show Calls Try.prog 27 (#[] ++ #[y.enc] ++ #[]) _ _ from key_ok y _).mono ?_
  rintro e w4 ⟨rfl, g4⟩
  refine .inl ⟨y.name, rfl, ?_⟩
  refine (Compare_ok x.name y.name w4).mono ?_
  rintro e w5 ⟨rfl, rfl⟩
  exact .inl ⟨_, rfl, rfl, (g2.trans g3').trans g4⟩
theorem List_ok (h : St w0 O (isF g s :: L) w) : Calls Try.prog 9 #[.pointer (some ⟨g, 0, none⟩)] w fun e w' => ∃ A n c, e = .returned (.slice A n c) ∧ St w0 O (subsC A n c s.subs :: isF g s :: L) w' := by
  obtain ⟨gb, ga, kvs, avs, ⟨hF, hM, hA⟩, h1⟩ := isF_open h
  have hlen : kvs.length ≤ 256 := by
    have := hM.len
    have := hF.len
    have := hF.m2
    omega
  refine F9.calls ?_
  unfold F9.main
  simp only [Option.isNone, cond_false, nilck]
  refine ⟨some gb, h1.cell .here rfl, ?_⟩
  refine Calls.mono (R := fun e w' => ∃ A n c, e = .returned (.slice A n c) ∧ St w0 O (subsC A n c s.subs :: isF g s :: L) w') ?_ ?_
  · refine F26.calls ?_
    unfold F26.main
    refine new_box h1 (fun g3 w2 h2 => ?_)
    refine Calls.mono (R := fun e w' => ∃ gB, e = .returned (.func (.func 47) #[] #[.pointer (some ⟨gB, 0, none⟩)]) ∧ St w0 O (mapBoxSub gB gb :: blk g3 (.cells #[.func (.func 27) #[] #[]] 62) :: blk g (.cells #[.map (some gb), .map (some ga), .int .i64 s.most] 60) :: mapC gb strV SubV.enc kvs :: mapC ga u32V nameV avs :: L) w') ?_ ?_
    · refine F37.calls ?_
      refine new_box h2 (fun gB w3 h3 => ⟨gB, rfl, h3⟩)
    · rintro e w3 ⟨gB, rfl, h3⟩
      refine .inl ⟨_, rfl, ?_⟩
      refine Calls.mono (R := fun e w' => ∃ A n c, e = .returned (.slice A n c) ∧ St w0 O (subsC A n c s.subs :: isF g s :: L) w') ?_ ?_
      · refine F36.calls ?_
        unfold F36.main
        refine (collectSub (h3.sel 4 [3, 0, 1, 2]) (by omega)).mono ?_
        rintro e w4 ⟨A, n, c, dn, rfl, hp, h4⟩
        refine .inl ⟨A, n, c, rfl, ?_⟩
        have h4 := h4.sel 5 [0, 3, 4, 1]
        have hn := (rowS_len encSub (by decide) h4).1
        have hperm : (dn.map fun p : ByteArray × SubV => p.2).Perm s.subs := ((hp.symm).map _).trans hM.perm
        refine Calls.mono (show Calls Try.prog 46 #[.slice A n c, .func (.func 38) #[] #[.pointer (some ⟨g3, 0, none⟩)]] _ _ from
          sortE sortSub encSub (by decide) Try.isAgg33 Try.sizeOf33 (lt := ltB) (key := SubV.name) linB ltOf_cmpS _ #[.pointer (some ⟨g3, 0, none⟩)] (enters_of Try.func38 (by kernel_rfl) rfl) h4
            (by have := hp.length_eq; rw [List.length_map] at hn; omega) ((hperm.map _).nodup_iff.2 (hF.ris.keys linB)) (fun w' hw x y => cmp_ok hw x y)) ?_
        rintro e w5 ⟨rfl, l', hr, hl, h5⟩
        obtain rfl : l' = s.subs := Ris.uniq linB hr hF.ris (hl.trans hperm)
        refine .inl ⟨rfl, A, n, c, rfl, ?_⟩
        have h7 := isF_shut hF hM hA (h5.sel 5 [2, 3, 4, 0])
        exact h7.pick (.there .here)
      · rintro e w5 ⟨A, n, c, rfl, h5⟩
        exact .inl ⟨A, n, c, rfl, A, n, c, rfl, h5⟩
  · rintro e w5 ⟨A, n, c, rfl, h5⟩
    exact .inl ⟨A, n, c, rfl, A, n, c, rfl, h5⟩
end
end Go.Proofs.Ytgmehadpfighbaa
