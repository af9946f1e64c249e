/- The file of subscribers: Put, Del. -/
import Derived.Test.YtgmehadpfighbaaRec
set_option linter.unusedVariables false
set_option linter.unusedSimpArgs false
namespace Go.Proofs.Ytgmehadpfighbaa
open Go Go.RowKit

/-! ### 1. The plain laws -/
def otherS (s : FS) (x : SubV) : Bool := (atS s x.addr).any fun y => decide (y.name ≠ x.name)
def putE (s : FS) (x : SubV) : Int := if ¬ chkS x then 2 else if otherS s x = true then 9 else if (ofS s x.name).isSome = false ∧ s.most ≤ s.subs.length then 4 else 0
def putS (s : FS) (x : SubV) : FS := if putE s x = 0 then ⟨s.most, putR ltB SubV.name s.subs x⟩ else s
def delE (s : FS) (n : ByteArray) : Int := if (ofS s n).isSome then 0 else 3
def delS (s : FS) (n : ByteArray) : FS := ⟨s.most, delR SubV.name s.subs n⟩
section
variable {s : FS} {x : SubV} {n : ByteArray} {avs : List (Int × ByteArray)}
theorem putE_ok (h : putE s x = 0) : chkS x ∧ otherS s x = false ∧ ¬ ((ofS s x.name).isSome = false ∧ s.most ≤ s.subs.length) := by
  unfold putE at h
  split at h
  · cases h
  · rename_i h1
    split at h
    · cases h
    · rename_i h2
      split at h
      · cases h
      · rename_i h3
        exact ⟨Decidable.not_not.1 h1, by simpa using h2, h3⟩
theorem wF.addr_inj (hF : wF s) {a b : SubV} (ha : a ∈ s.subs) (hb : b ∈ s.subs) (e : a.addr = b.addr) : a = b := by
  have h1 := getR_mem hF.addrs ha
  have h2 := getR_mem hF.addrs hb
  rw [e, h2] at h1
  exact (Option.some.inj h1).symm
theorem wF.name_inj (hF : wF s) {a b : SubV} (ha : a ∈ s.subs) (hb : b ∈ s.subs) (e : a.name = b.name) : a = b := by
  have h1 := getR_mem (hF.ris.keys linB) ha
  have h2 := getR_mem (hF.ris.keys linB) hb
  rw [e, h2] at h1
  exact (Option.some.inj h1).symm
theorem other_false (hF : wF s) (h : otherS s x = false) {y : SubV} (hy : y ∈ s.subs) (e : y.addr = x.addr) : y.name = x.name := by
  unfold otherS atS at h
  rw [← e, getR_mem hF.addrs hy] at h
  simpa using h
theorem wF_put (hF : wF s) (x : SubV) : wF (putS s x) := by
  unfold putS
  split
  · rename_i h
    obtain ⟨h1, h2, h3⟩ := putE_ok h
    refine ⟨hF.ris.put linB x, ?_, fun y hy => ?_, ?_, hF.m1, hF.m2⟩
    · refine (((perm_put linB s.subs x).map SubV.addr).nodup_iff).2 ?_
      rw [List.map_cons, List.nodup_cons]
      refine ⟨fun hm => ?_, (List.filter_sublist.map _).nodup hF.addrs⟩
      obtain ⟨y, hy, e⟩ := List.mem_map.1 hm
      have hd := mem_del.1 hy
      exact hd.2 (other_false hF h2 hd.1 e)
    · rcases (mem_put linB).1 hy with rfl | ⟨hy, _⟩
      · exact h1
      · exact hF.chk y hy
    · show ((putR ltB SubV.name s.subs x).length : Int) ≤ s.most
      rw [len_put linB hF.ris]
      have := hF.len
      split
      · exact this
      · rename_i hn
        have hn : (ofS s x.name).isSome = false := by simpa [ofS] using hn
        have : ¬ s.most ≤ s.subs.length := fun h4 => h3 ⟨hn, h4⟩
        push_cast
        omega
  · exact hF
theorem wF_del (hF : wF s) (n : ByteArray) : wF (delS s n) :=
  ⟨hF.ris.del n, (List.filter_sublist.map _).nodup hF.addrs, fun y hy => hF.chk y (mem_del.1 hy).1, by
    have h1 := List.length_filter_le (fun y => !decide (SubV.name y = n)) s.subs
    have := hF.len
    show ((delR SubV.name s.subs n).length : Int) ≤ s.most
    unfold delR
    omega, hF.m1, hF.m2⟩
theorem at_del (hF : wF s) {o : SubV} (ho : ofS s n = some o) (hn : (avs.map (·.1)).Nodup) (hA : AtOf avs s.subs) : AtOf (mdel avs o.addr) (delR SubV.name s.subs n) := by
  intro a
  have h1 := getR_some' ho
  have hnd : ((delR SubV.name s.subs n).map SubV.addr).Nodup := (List.filter_sublist.map _).nodup hF.addrs
  rw [mget_mdel' hn]
  split
  · rename_i e
    rw [getR_none.2 (fun y hy e2 => ?_)]
    · rfl
    · have hd := mem_del.1 hy
      have := hF.addr_inj hd.1 h1.1 (by rw [e2, e])
      exact hd.2 (by rw [this, h1.2])
  · rename_i e
    rw [hA a]
    cases hg : getR SubV.addr s.subs a with
    | none => rw [getR_none.2 (fun y hy => getR_none.1 hg y (mem_del.1 hy).1)]
    | some y =>
      have h2 := getR_some' hg
      rw [(getR_some hnd).2 ⟨mem_del.2 ⟨h2.1, fun e3 => e ?_⟩, h2.2⟩]
      rw [hF.name_inj h1.1 h2.1 (by rw [h1.2, e3]), h2.2]
theorem at_put (hF : wF s) (h : putE s x = 0) {avs' : List (Int × ByteArray)} (hA : AtOf avs' (delR SubV.name s.subs x.name)) : AtOf (mset avs' x.addr x.name) (putR ltB SubV.name s.subs x) := by
  intro a
  have hP := (wF_put hF x).addrs
  unfold putS at hP
  rw [if_pos h] at hP
  rw [mget_mset']
  split
  · rename_i e
    rw [(getR_some hP).2 ⟨(mem_put linB).2 (.inl rfl), e⟩]
    rfl
  · rename_i e
    rw [hA a]
    have hnd : ((delR SubV.name s.subs x.name).map SubV.addr).Nodup := (List.filter_sublist.map _).nodup hF.addrs
    cases hg : getR SubV.addr (delR SubV.name s.subs x.name) a with
    | none =>
      rw [getR_none.2 (fun y hy => ?_)]
      rcases (mem_put linB).1 hy with rfl | ⟨h1, h2⟩
      · exact e
      · exact getR_none.1 hg y (mem_del.2 ⟨h1, h2⟩)
    | some y =>
      have h2 := getR_some' hg
      have h3 := mem_del.1 h2.1
      rw [(getR_some hP).2 ⟨(mem_put linB).2 (.inr h3), h2.2⟩]
theorem del_none (h : ofS s n = none) : delR SubV.name s.subs n = s.subs :=
  List.filter_eq_self.2 fun y hy => by simpa using getR_none.1 h y hy
end
/-! ### 2. The walks -/
def encName : EncT Try.prog 64 1 ByteArray where
  cells n := [.string n]
  zero := eB
  len _ := rfl
  one _ := rfl
  zeroOk := by kernel_rfl
  size := by kernel_rfl
section
variable {w0 w : World} {O : Nat → Prop} {L R : List Assn} {g gb ga : Nat} {s : FS} {kvs : List (ByteArray × SubV)} {avs : List (Int × ByteArray)}
abbrev PutR (w0 : World) (O : Nat → Prop) (L : List Assn) (g : Nat) (s : FS) (x : SubV) : Ending → World → Prop := fun e w' => e = .returned (.int .i64 (putE s x)) ∧ St w0 O (isF g (putS s x) :: L) w'
theorem put_end {x : SubV} {g3 : Nat} (hF : wF s) (hM : IsMap SubV.name kvs s.subs) (hA : AtOf avs (delR SubV.name s.subs x.name)) (hE : putE s x = 0)
    (h : St w0 O (blk g3 (.cells x.cells.toArray 33) :: blk g (.cells #[.map (some gb), .map (some ga), .int .i64 s.most] 60) :: mapC gb strV SubV.enc kvs :: mapC ga u32V nameV avs :: L) w) :
    SK Try.prog Try.f10 (PutR w0 O L g s x) (cfg Try.f10 13) [(0, .pointer (some ⟨g, 0, none⟩)), (3, .pointer (some ⟨g3, 0, none⟩))] w := by
  refine F10.p13_ok ?_
  unfold F10.p13
  simp only [nilck, add_eq]
  have h1 := h.drew
  refine ⟨some gb, h1.cell (.there .here) rfl, x.name, h1.cell .here rfl, some ga, h1.cell (.there .here) rfl, x.addr, h1.cell .here rfl, x.name, x.secret, x.plan, x.addr, x.susp, h1.cells0 (vs := x.cells) .here, x.name, h1.cell .here rfl, ?_⟩
  obtain ⟨v, n, w2, hr, h2⟩ := mapEntry_W h1 (.there (.there .here)) Try.underlying55 keyStr (z := SubV.zero) encSub.zeroOk x.name
  refine ⟨v.name, v.secret, v.plan, v.addr, v.susp, n, w2, hr, fun _ => h2.cell (.there .here) rfl, fun _ => h2.cells0 (vs := x.cells) (.there .here), fun _ => h2.cell (.there .here) rfl, ?_⟩
  refine entryStore_W h2 .here _ x (fun w3 h3 => ?_)
  refine ⟨fun _ => h3.cell (.there .here) rfl, fun _ => h3.cell (.there .here) rfl, ?_⟩
  obtain ⟨v2, n2, w4, hr2, h4⟩ := mapEntry_W h3 (.there (.there (.there .here))) Try.underlying56 keyU32 (z := eB) encName.zeroOk x.addr
  refine ⟨v2, n2, w4, hr2, fun _ => h4.cell (.there (.there .here)) rfl, ?_⟩
  refine entryStore_W (encv := nameV) h4 .here _ x.name (fun w5 h5 => ?_)
  refine ⟨by rw [hE], ?_⟩
  have hp : putS s x = ⟨s.most, putR ltB SubV.name s.subs x⟩ := if_pos hE
  rw [hp]
  have hW := wF_put hF x
  rw [hp] at hW
  refine isF_shut (gb := gb) (ga := ga) (s := ⟨s.most, putR ltB SubV.name s.subs x⟩) hW (hM.put linB x) (at_put hF hE hA) ?_
  exact h5.sel 4 [3, 1, 0]
theorem Put_ok (h : St w0 O (isF g s :: L) w) (x : SubV) : Calls Try.prog 10 #[.pointer (some ⟨g, 0, none⟩), x.enc] w (PutR w0 O L g s x) := by
  obtain ⟨gb, ga, kvs, avs, ⟨hF, hM, hA⟩, h1⟩ := isF_open h
  refine F10.calls ?_
  unfold F10.main
  refine boxE encSub x h1 (fun g3 w2 h2 => ?_)
  have h2 : St w0 O (blk g3 (.cells x.cells.toArray 33) :: blk g (.cells #[.map (some gb), .map (some ga), .int .i64 s.most] 60) :: mapC gb strV SubV.enc kvs :: mapC ga u32V nameV avs :: L) w2 := h2
  simp only [Option.isNone, cond_false, nilck, add_eq]
  have h3 := h2.drew
  have hgo : mget kvs x.name = ofS s x.name := hM.get _
  have hga : mget avs x.addr = (atS s x.addr).map SubV.name := hA _
  have hl := fun {w} {L R} (h : St w0 O L w) (p : Pick (mapC gb strV SubV.enc kvs) L R) => lookSub h p x.name
  rw [hgo] at hl
  generalize hold : (ofS s x.name).getD SubV.zero = o at hl
  refine ⟨some gb, h3.cell (.there .here) rfl, x.name, h3.cell .here rfl, o.name, o.secret, o.plan, o.addr, o.susp, _, hl h3 (.there (.there .here)), ?_⟩
  refine allocSub h3 (fun g5 w4 h4 => ?_)
  refine ⟨fun _ => hl h4 (.there (.there (.there .here))), ?_⟩
  refine stSub o h4 .here (fun w5 h5 => ?_)
  have h6 := h5.drew
  have hn := fun {w} {L R} (h : St w0 O L w) (p : Pick (mapC ga u32V nameV avs) L R) => lookName h p x.addr true
  rw [hga] at hn
  generalize hwho : ((atS s x.addr).map SubV.name).getD eB = who at hn
  refine ⟨some ga, h6.cell (.there (.there .here)) rfl, x.addr, h6.cell (.there .here) rfl, who, _, hn h6 (.there (.there (.there (.there .here)))), ?_⟩
  refine allocE encName h6 (fun g7 w7 h7 => ?_)
  refine ⟨fun _ => hn h7 (.there (.there (.there (.there (.there .here))))), ?_⟩
  refine stE encName (cs := [.string eB]) rfl h7 .here who (fun w8 h8 => ?_)
  have h8 : St w0 O (blk g7 (.cells #[.string who] 64) :: blk g5 (.cells o.cells.toArray 33) :: blk g3 (.cells x.cells.toArray 33) :: blk g (.cells #[.map (some gb), .map (some ga), .int .i64 s.most] 60) :: mapC gb strV SubV.enc kvs :: mapC ga u32V nameV avs :: L) w8 := h8
  refine ⟨x.name, x.secret, x.plan, x.addr, x.susp, h8.cells0 (vs := x.cells) (.there (.there .here)), ?_⟩
  refine (Check_ok h8 x).mono ?_
  rintro e w9 ⟨rfl, h9⟩
  refine .inl ⟨_, rfl, ?_⟩
  have back : ∀ {w'}, putE s x ≠ 0 → St w0 O (blk g (.cells #[.map (some gb), .map (some ga), .int .i64 s.most] 60) :: mapC gb strV SubV.enc kvs :: mapC ga u32V nameV avs :: L) w' → St w0 O (isF g (putS s x) :: L) w' := fun hne h' => by
    unfold putS; rw [if_neg hne]; exact isF_shut hF hM hA h'
  by_cases hc : chkS x
  · rw [if_pos hc]
    simp only [show ((0 : Int) != 0) = false from rfl, cond_false]
    -- behind the check on whose the address is
    have go9 : otherS s x = false → ∀ {w'}, St w0 O (blk g3 (.cells x.cells.toArray 33) :: blk g5 (.cells o.cells.toArray 33) :: blk g (.cells #[.map (some gb), .map (some ga), .int .i64 s.most] 60) :: mapC gb strV SubV.enc kvs :: mapC ga u32V nameV avs :: L) w' →
        SK Try.prog Try.f10 (PutR w0 O L g s x) (cfg Try.f10 9) [(0, .pointer (some ⟨g, 0, none⟩)), (3, .pointer (some ⟨g3, 0, none⟩)), (5, .pointer (some ⟨g5, 0, none⟩)), (6, .bool (ofS s x.name).isSome)] w' := by
      intro hoth w' h'
      have go11 : putE s x = 0 → ∀ {w'}, St w0 O (blk g3 (.cells x.cells.toArray 33) :: blk g5 (.cells o.cells.toArray 33) :: blk g (.cells #[.map (some gb), .map (some ga), .int .i64 s.most] 60) :: mapC gb strV SubV.enc kvs :: mapC ga u32V nameV avs :: L) w' →
          SK Try.prog Try.f10 (PutR w0 O L g s x) (cfg Try.f10 11) [(0, .pointer (some ⟨g, 0, none⟩)), (3, .pointer (some ⟨g3, 0, none⟩)), (5, .pointer (some ⟨g5, 0, none⟩)), (6, .bool (ofS s x.name).isSome)] w' := by
        intro hE w' h'
        refine F10.p11_ok ?_
        unfold F10.p11
        have hnd := mapC_nodup (h'.pick (.there (.there (.there (.there .here)))))
        cases ho : ofS s x.name with
        | none =>
          simp only [Option.isSome, cond_false]
          exact put_end hF hM (by rw [del_none ho]; exact hA) hE (h'.sel 2 [0])
        | some o' =>
          rw [ho, Option.getD_some] at hold
          subst hold
          simp only [Option.isSome, cond_true, nilck, add_eq]
          have h1 := h'.drew
          refine ⟨some ga, h1.cell (.there (.there .here)) rfl, o'.addr, h1.cell (.there .here) rfl, ?_⟩
          refine mapDel_W h1 (.there (.there (.there (.there .here)))) Try.underlying56 keyU32 _ o'.addr (fun w2 h2 => ?_)
          refine put_end (gb := gb) (ga := ga) hF hM (at_del hF ho hnd hA) hE ?_
          exact h2.sel 5 [1, 3, 4, 0]
      refine F10.p9_ok ?_
      unfold F10.p9
      cases ho : (ofS s x.name).isSome with
      | true =>
        simp only [Bool.not_true, cond_false]
        rw [← ho]
        exact go11 (by unfold putE; rw [if_neg (by simpa using hc), if_neg (by simp [hoth]), if_neg (by simp [ho])]) h'.drew
      | false =>
        simp only [Bool.not_false, cond_true, nilck, add_eq]
        have h1 := h'.drew
        refine ⟨some gb, h1.cell (.there (.there .here)) rfl, _, mapLen_of h1 (.there (.there (.there .here))) Try.underlying55 _, s.most, h1.cell (.there (.there .here)) rfl, ?_⟩
        rw [hM.len]
        by_cases hfull : s.most ≤ s.subs.length
        · rw [decide_eq_true (show (s.subs.length : Int) ≥ s.most from hfull), cond_true]
          have hE : putE s x = 4 := by unfold putE; rw [if_neg (by simpa using hc), if_neg (by simp [hoth]), if_pos ⟨ho, hfull⟩]
          exact ⟨by rw [hE], back (by rw [hE]; decide) h1.drop.drop⟩
        · rw [decide_eq_false (show ¬ (s.subs.length : Int) ≥ s.most from hfull), cond_false]
          rw [← ho]
          exact go11 (by unfold putE; rw [if_neg (by simpa using hc), if_neg (by simp [hoth]), if_neg (fun h => hfull h.2)]) h1
    have h10 : St w0 O (blk g3 (.cells x.cells.toArray 33) :: blk g5 (.cells o.cells.toArray 33) :: blk g (.cells #[.map (some gb), .map (some ga), .int .i64 s.most] 60) :: mapC gb strV SubV.enc kvs :: mapC ga u32V nameV avs :: L) w9 := h9.drop.pick (.there .here)
    cases hat : atS s x.addr with
    | none =>
      rw [hat] at hwho
      simp only [Option.map, Option.isSome, cond_false]
      exact go9 (by unfold otherS; rw [hat]; rfl) h10
    | some y =>
      rw [hat] at hwho
      simp only [Option.map, Option.getD] at hwho
      subst hwho
      simp only [Option.map, Option.isSome, cond_true]
      refine ⟨y.name, h9.cell .here rfl, x.name, h9.cell (.there (.there .here)) rfl, ?_⟩
      rw [ba_beq]
      by_cases hne : y.name = x.name
      · rw [decide_eq_true hne]
        simp only [Bool.not_true, cond_false]
        exact go9 (by unfold otherS; rw [hat]; simpa using hne) h10
      · rw [decide_eq_false hne]
        simp only [Bool.not_false, cond_true]
        have hE : putE s x = 9 := by unfold putE; rw [if_neg (by simpa using hc), if_pos (by unfold otherS; rw [hat]; simpa using hne)]
        exact ⟨by rw [hE], back (by rw [hE]; decide) h10.drop.drop⟩
  · rw [if_neg hc]
    simp only [show ((2 : Int) != 0) = true from rfl, cond_true]
    have hE : putE s x = 2 := by unfold putE; rw [if_pos hc]
    exact ⟨by rw [hE], back (by rw [hE]; decide) h9.drop.drop.drop⟩
theorem Del_ok (h : St w0 O (isF g s :: L) w) (n : ByteArray) : Calls Try.prog 12 #[.pointer (some ⟨g, 0, none⟩), .string n] w fun e w' => e = .returned (.int .i64 (delE s n)) ∧ St w0 O (isF g (delS s n) :: L) w' := by
  obtain ⟨gb, ga, kvs, avs, ⟨hF, hM, hA⟩, h1⟩ := isF_open h
  refine F12.calls ?_
  unfold F12.main
  simp only [Option.isNone, cond_false, nilck, add_eq]
  have hgo : mget kvs n = ofS s n := hM.get _
  have hl := lookSub h1 (.there .here) n
  rw [hgo] at hl
  generalize hold : (ofS s n).getD SubV.zero = o at hl
  refine ⟨some gb, h1.cell .here rfl, o.name, o.secret, o.plan, o.addr, o.susp, _, hl, ?_⟩
  refine allocSub h1 (fun g5 w2 h2 => ?_)
  refine stSub o h2 .here (fun w3 h3 => ?_)
  have hnd := mapC_nodup (h3.pick (.there (.there (.there .here))))
  cases ho : ofS s n with
  | none =>
    simp only [Option.isSome, Bool.not_false, cond_true]
    refine ⟨by unfold delE; rw [ho]; rfl, ?_⟩
    have : delS s n = s := by unfold delS; rw [del_none ho]
    rw [this]
    exact isF_shut hF hM hA h3.drop
  | some o' =>
    rw [ho, Option.getD_some] at hold
    subst hold
    simp only [Option.isSome, Bool.not_true, cond_false]
    refine ⟨some gb, h3.cell (.there .here) rfl, ?_⟩
    refine mapDel_W h3 (.there (.there .here)) Try.underlying55 keyStr _ n (fun w4 h4 => ?_)
    have h5 := h4.drew
    refine ⟨some ga, h5.cell (.there (.there .here)) rfl, o'.addr, h5.cell (.there .here) rfl, ?_⟩
    refine mapDel_W h5 (.there (.there (.there .here))) Try.underlying56 keyU32 _ o'.addr (fun w6 h6 => ?_)
    refine ⟨by unfold delE; rw [ho]; rfl, ?_⟩
    refine isF_shut (gb := gb) (ga := ga) (s := delS s n) (wF_del hF n) (hM.del n) (at_del hF ho hnd hA) ?_
    exact h6.sel 4 [3, 1, 0]
end
end Go.Proofs.Ytgmehadpfighbaa
