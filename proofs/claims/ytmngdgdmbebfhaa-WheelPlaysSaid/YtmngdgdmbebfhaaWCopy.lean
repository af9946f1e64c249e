/- The wheel: Copy. -/
import Derived.Test.YtmngdgdmbebfhaaWClone
import Derived.Test.YtmngdgdmbebfhaaWheel9
set_option linter.unusedVariables false
set_option linter.unusedSimpArgs false
namespace Go.Proofs.Ytmngdgdmbebfhaa
open Go Go.RowKit

section
variable {w0 w : World} {O : Nat → Prop} {L M : List Assn} {g gm : Nat} {s : WS} {by_ : List (Int × Al)}
theorem clone31 (h : St w0 O (mapC gm u64V Al.enc by_ :: L) w) : Calls Try.prog 31 #[.map (some gm)] w fun e w' => ∃ g2, e = .returned (.map (some g2)) ∧ St w0 O (mapC g2 u64V Al.enc by_ :: mapC gm u64V Al.enc by_ :: L) w' := by
  obtain ⟨es, clk, hm, h1⟩ := mapC_open h
  refine Calls.mono (show Calls Try.prog 31 _ _ _ from AnyW.maps_Clone cloneA gm es clk w h1.get.1) ?_
  rintro e w1 ⟨rfl, rfl⟩
  have h2 := h1.alloc (.map es clk)
  exact ⟨w.heap.size, rfl, mapC_shut hm ((mapC_shut hm (h2.pick (.there .here))).pick (.there .here))⟩
theorem Copy_ok (h : St w0 O (isW g s :: L) w) (hq : s.seq < 2 ^ 30) : Calls Try.prog 16 #[.pointer (some ⟨g, 0, none⟩)] w fun e w' => ∃ g', e = .returned (.pointer (some ⟨g', 0, none⟩)) ∧ St w0 O (isW g' s :: isW g s :: L) w' := by
  obtain ⟨gm, rows, ⟨hS, hR⟩, h1⟩ := isW_open h
  refine F16.calls ?_
  unfold F16.main
  have h2 := h1.drew
  refine ⟨some gm, wM_by h2, s.now, wM_now h2, s.seq, wM_seq h2, ?_⟩
  refine (clone31 (h2.pick (.there .here))).mono ?_
  rintro e w3 ⟨g2, rfl, h3⟩
  have h3' := h3.pick (.there (.there .here))
  refine .inl ⟨_, rfl, fun _ => wM_seq h3', fun _ => wM_now h3', ?_⟩
  refine new_box' (cs := wcells nilRs g2 s.now s.seq) h3' (by kernel_rfl) (fun g3 w4 h4 => ?_)
  have h5 : St w0 O (wM g3 g2 s.now s.seq nilRows :: mapC g2 u64V Al.enc s.by_ :: isW g s :: L) w4 := by
    have h6 := nil_rows h4 320
    have h7 := wM_shut (Rs := nilRs) nilRs_len nilRs_rows (h6.perm (List.perm_middle))
    have h8 := h7.pick (.there (.there .here))
    have h9 := (h8.pick (.there (.there (.there .here)))).pick (.there (.there (.there .here)))
    exact ((isW_shut hS hR h9).pick (.there .here)).pick (.there (.there .here))
  refine ⟨some g2, wM_by h5, ?_⟩
  refine range_W h5 (.there .here) Try.underlying53 (fun it w5 h6 => ?_)
  have loop : ∀ (n : Nat) (dn lf : List (Int × Al)) (rows : List (List Al)) (w : World), lf.length = n → Puts s.now nilRows (dn.map (·.2)) rows → St w0 O (iterC it g2 u64V Al.enc s.by_ dn lf :: wM g3 g2 s.now s.seq rows :: isW g s :: L) w →
      SK Try.prog Try.f16 (fun e w' => ∃ g', e = .returned (.pointer (some ⟨g', 0, none⟩)) ∧ St w0 O (isW g' s :: isW g s :: L) w') (cfg Try.f16 5)
        [(3, .pointer (some ⟨g3, 0, none⟩)), (27, .pointer (some ⟨it, 0, none⟩))] w := by
    intro n
    induction n using Nat.strongRecOn with
    | _ n ih =>
      intro dn lf rows w hn hP h6
      refine F16.p5_ok ?_
      unfold F16.p5
      refine next_W h6 .here 0 (fun hl w7 h7 => ?_) (fun x lf' hpm w7 h7 => ?_)
      · have hperm := iterC_perm h7
        rw [List.append_nil] at hperm
        exact ⟨g3, rfl, isW_shut hS (wR_anew hS (Int.le_refl _) (fun p hp => (hS.cur p hp).2.1) hperm hP) ((iterC_map h7).pick (.there .here))⟩
      · have hxm : x ∈ s.by_ := (iterC_perm h7).mem_iff.2 (by simp)
        have hx := hS.cur x hxm
        have hn0 := hS.n0
        have hn1 := hS.n1
        have hlen : lf'.length < n := by have := hpm.length_eq; simp at this; omega
        refine ⟨u64V x.1, x.2.key, x.2.at_, x.2.seq, entry_of h7 .here, ?_⟩
        refine alloc60 h7 (fun g5 w8 h8 => ?_)
        refine st60 h8 _ _ _ (fun w9 h9 => ?_)
        refine ⟨x.2.key, x.2.at_, x.2.seq, h9.cells0 (vs := x.2.cells) .here, ?_⟩
        have h10 := h9.drop.pick (.there .here)
        have hdl : dn.length ≤ s.by_.length := by have := (iterC_perm h7).length_eq; simp at this; omega
        have hsl := hS.len
        have htot : tot rows = dn.length := by have := (hP.spec nilRows_len).2.1; rw [this, tot_nil, List.length_map, Nat.zero_add]
        refine (put_ok h10 x.2 (by omega) (by omega) (by omega) (far_top (by omega)) (fun r hr => by have := len_le_tot hr; omega)).mono ?_
        rintro e' w11 ⟨rfl, k, hk, hk1, hk2, h11⟩
        refine .inl ⟨rfl, ?_⟩
        refine ih _ hlen (dn ++ [x]) lf' _ w11 rfl ?_ (h11.pick (.there .here))
        rw [List.map_append]
        exact hP.snoc ⟨k, hk, hk1, hk2, rfl⟩
  exact loop _ [] s.by_ nilRows w5 rfl rfl h6
end
end Go.Proofs.Ytmngdgdmbebfhaa
