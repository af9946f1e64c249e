/- Layer 10's arguments, and what the laid variables read as, opened. -/
import Derived.Test.YthfcnkeclcphpaaDoorLaw10c
import Derived.Test.YthfcnkeclcphpaaDoorRows
import Derived.Shelf.Vars
import Derived.LaidMore
import Derived.LaidSub
import Derived.Handed
import Derived.Lib.LaidTab
import Derived.WideShapes
set_option linter.unusedVariables false
set_option linter.unusedSimpArgs false
set_option maxRecDepth 100000
namespace Go.Proofs.YthfcnkeclcphpaaDoor
open Go Go.RowKit

/-! ### 1. The laid variables -/
abbrev laidL : List (String × DataW Unit) := [("math/bits.deBruijn32tab", Rows.laid_math_bits_deBruijn32tab), ("math/bits.deBruijn64tab", Rows.laid_math_bits_deBruijn64tab), ("internal/strconv.uint64pow10", Rows.laid_internal_strconv_uint64pow10), ("strconv.ErrRange", Rows.laid_strconv_ErrRange), ("strconv.ErrSyntax", Rows.laid_strconv_ErrSyntax), ("halyard/ipcpopt.kinds", Rows.laid_halyard_ipcpopt_kinds)]
theorem iface_of_trod {H : Type} {enc : TypeId × Value → H} {P : Program} {w : World} {base : Nat} {sp : Nat → Bool} {held : Bool} {fuel : Nat} {t : TypeId} {cs : List Value} {x : DataW H × List MemPlace} {ms : Array (String × TypeId)}
    (ht : P.underlying t = some (.interface ms)) (h : DataW.trod enc P w base sp held fuel t cs = some x) : ∃ v, cs = [v] ∧ (v = .nilIface ∨ ∃ te pe, v = .iface te pe) := by
  cases fuel with
  | zero => simp [DataW.trod] at h
  | succ n =>
    unfold DataW.trod at h
    rw [ht] at h
    split at h <;> simp_all
theorem err_of {W : World} {n : String} {g : Nat} {d : DataW Unit} (h : laidMet Tryd.prog [(n, d)] W) (hg : Tryd.prog.globalNamed n = some g) (ht : (Tryd.prog.globals[g]?).map (·.type) = some 52) : ∃ ev, W.cell? ⟨g, 0, none⟩ = some ev ∧ (ev = .nilIface ∨ ∃ te pe, ev = .iface te pe) := by
  obtain ⟨ps, ⟨g', t', cs, fuel, p, q, hg', ht', hvar, hd, _, _⟩, _⟩ := h
  obtain rfl := Option.some.inj (hg.symm.trans hg')
  obtain rfl := Option.some.inj (ht.symm.trans ht')
  obtain ⟨v, hcs, hv⟩ := iface_of_trod Tryd.underlying52 hd
  refine ⟨v, ?_, hv⟩
  have := World.var?_cell hg hvar 0
  rw [this, ← Array.getElem?_toList, hcs]
  rfl
theorem kind_of {W : World} {fuel : Nat} {cs : List Value} {t0 : Int} {b : UInt8} {r : List UInt8} {f0 : FuncId} {q : List MemPlace}
    (hone : ((List.range Tryd.prog.funcs.size).filter fun f => (Tryd.prog.funcs[f]?).any (·.name.toUTF8.data.toList == b :: r)) = [f0])
    (h : DataW.trod (funcToken Tryd.prog) Tryd.prog W 0 (fun _ => true) true fuel 62 cs = some (.agg [.lit (.int .u8 t0), .held (b :: r)], q)) : cs = [.int .u8 t0, .func (.func f0) #[] #[]] := by
  obtain ⟨xs, m, rfl, hx, hlen, hxl, hfs⟩ := DataW.trod_struct Tryd.underlying62 h
  rw [show Tryd.prog.cellsOf 62 = 2 from by kernel_rfl] at hlen
  obtain ⟨u, v, rfl⟩ : ∃ u v, cs = [u, v] := by
    match cs, hlen with
    | [u, v], _ => exact ⟨u, v, rfl⟩
  have hxl : xs.length = 2 := hxl
  have f0' : DataW.trod (funcToken Tryd.prog) Tryd.prog W 0 (fun _ => true) true m 5 ([u, v].take (Tryd.prog.cellsOf 5)) = xs[0]? := hfs 0 _ rfl
  have f1' : DataW.trod (funcToken Tryd.prog) Tryd.prog W 0 (fun _ => true) true m 60 ([v].take (Tryd.prog.cellsOf 60)) = xs[1]? := hfs 1 _ rfl
  rw [show Tryd.prog.cellsOf 5 = 1 from by kernel_rfl] at f0'
  rw [show Tryd.prog.cellsOf 60 = 1 from by kernel_rfl] at f1'
  obtain ⟨x0, x1, rfl⟩ : ∃ x0 x1, xs = [x0, x1] := by
    match xs, hxl with
    | [x0, x1], _ => exact ⟨x0, x1, rfl⟩
  have hx1 := congrArg Prod.fst hx
  simp only [List.map_cons, List.map_nil, DataW.agg.injEq, List.cons.injEq, and_true] at hx1
  obtain ⟨e0, e1⟩ := hx1
  obtain ⟨n, hn, hn2, _⟩ := DataW.trod_int Tryd.underlying5 f0'
  have hv : v = .func (.func f0) #[] #[] := by
    refine func_of_trod (q := x1.2) Tryd.underlying60 hone (f1'.trans ?_)
    rw [e1]; rfl
  have hu : u = .int .u8 n := by
    have : [u] = [Value.int .u8 n] := hn
    simpa using this
  have ht : n = t0 := by
    rw [hn2] at e0
    simpa using e0.symm
  rw [hu, hv, ht]
theorem kinds_of {W : World} (h : laidMetH Tryd.prog laidL W) : cellsAt W ⟨0, 0, none⟩ 0 kindsL := by
  obtain ⟨g, t, cs, fuel, p, hg, ht, hv, hd⟩ := h.funcs (n := "halyard/ipcpopt.kinds") (d := .agg [.agg [.lit (.int .u8 3), .iface "func" (.lit (.string [104, 97, 108, 121, 97, 114, 100, 47, 105, 112, 99, 112, 111, 112, 116, 46, 107, 105, 110, 100, 115, 36, 49]))], .agg [.lit (.int .u8 129), .iface "func" (.lit (.string [104, 97, 108, 121, 97, 114, 100, 47, 105, 112, 99, 112, 111, 112, 116, 46, 107, 105, 110, 100, 115, 36, 50]))], .agg [.lit (.int .u8 131), .iface "func" (.lit (.string [104, 97, 108, 121, 97, 114, 100, 47, 105, 112, 99, 112, 111, 112, 116, 46, 107, 105, 110, 100, 115, 36, 51]))]])
    (.tail _ (.tail _ (.tail _ (.tail _ (.tail _ (.head _))))))
  obtain rfl := Option.some.inj ((show Tryd.prog.globalNamed "halyard/ipcpopt.kinds" = some 0 by kernel_rfl).symm.trans hg)
  obtain rfl := Option.some.inj ((show (Tryd.prog.globals[0]?).map (·.type) = some 63 by kernel_rfl).symm.trans ht)
  have hd' : DataW.trod (funcToken Tryd.prog) Tryd.prog W 0 (fun _ => true) true fuel 63 cs.toList = some (.agg [.agg [.lit (.int .u8 3), .held [104, 97, 108, 121, 97, 114, 100, 47, 105, 112, 99, 112, 111, 112, 116, 46, 107, 105, 110, 100, 115, 36, 49]], .agg [.lit (.int .u8 129), .held [104, 97, 108, 121, 97, 114, 100, 47, 105, 112, 99, 112, 111, 112, 116, 46, 107, 105, 110, 100, 115, 36, 50]], .agg [.lit (.int .u8 131), .held [104, 97, 108, 121, 97, 114, 100, 47, 105, 112, 99, 112, 111, 112, 116, 46, 107, 105, 110, 100, 115, 36, 51]]], p) := hd
  have hcs : cs.toList = kindsL := by
    cases fuel with
    | zero => simp [DataW.trod] at hd'
    | succ n =>
      simp only [DataW.trod, Tryd.underlying63] at hd'
      rw [show Tryd.prog.cellsOf 63 = 6 from by kernel_rfl, show Tryd.prog.cellsOf 62 = 2 from by kernel_rfl] at hd'
      split at hd'
      · rename_i hl
        obtain ⟨xs, hm, hx⟩ := Option.map_eq_some_iff.1 hd'
        have hxl : xs.length = 3 := by simpa using Lib.mapM_length hm
        obtain ⟨x0, x1, x2, rfl⟩ : ∃ x0 x1 x2, xs = [x0, x1, x2] := by
          match xs, hxl with
          | [x0, x1, x2], _ => exact ⟨x0, x1, x2, rfl⟩
        have hx1 := congrArg Prod.fst hx
        simp only [List.map_cons, List.map_nil, DataW.agg.injEq, List.cons.injEq, and_true] at hx1
        obtain ⟨e0, e1, e2⟩ := hx1
        have g : ∀ i x, i < 3 → [x0, x1, x2][i]? = some x → DataW.trod (funcToken Tryd.prog) Tryd.prog W 0 (fun _ => true) true n 62 ((cs.toList.drop (i * 2)).take 2) = some (x.1, x.2) := fun i x hi hx => by
          obtain ⟨b, hb, hf⟩ := Lib.mapM_at hm i i (by simp [hi])
          rw [hx] at hb
          cases hb
          exact hf
        have k0 := g 0 x0 (by decide) rfl
        have k1 := g 1 x1 (by decide) rfl
        have k2 := g 2 x2 (by decide) rfl
        rw [e0] at k0
        rw [e1] at k1
        rw [e2] at k2
        have c0 := kind_of (f0 := 91) (by kernel_rfl) k0
        have c1 := kind_of (f0 := 92) (by kernel_rfl) k1
        have c2 := kind_of (f0 := 93) (by kernel_rfl) k2
        generalize cs.toList = l at hl c0 c1 c2
        match l, hl with
        | [a, b, c, d, e, f], _ =>
          simp at c0 c1 c2
          obtain ⟨rfl, rfl⟩ := c0
          obtain ⟨rfl, rfl⟩ := c1
          obtain ⟨rfl, rfl⟩ := c2
          rfl
      · cases hd'
  refine cellsAt_of fun j v hj => ?_
  have := World.var?_cell hg hv j
  rw [Nat.zero_add, Nat.zero_add, this, ← Array.getElem?_toList, hcs]
  exact hj
theorem glob_of {W : World} (hsh : W.ShapedOpen Tryd.prog) (h : laidMetH Tryd.prog laidL W) : Glob W := by
  have hm := (laidMetH_iff.1 h).1
  refine ⟨?_, ?_, ?_, ?_, kinds_of h⟩
  · exact cell_of_shapedOpen_int (P := Tryd.prog) (g := 1) (t := 3) (zero := #[.int .i64 0]) hsh (of_decide_eq_true (by kernel_rfl)) (by kernel_rfl) rfl (by kernel_rfl) (by kernel_rfl) Tryd.underlying3
  · have h1 : laidMet Tryd.prog [("strconv.ErrSyntax", Rows.laid_strconv_ErrSyntax)] W := hm.filter (fun x => x.1 == "strconv.ErrSyntax")
    exact err_of h1 (by kernel_rfl) (by kernel_rfl)
  · have h1 : laidMet Tryd.prog [("strconv.ErrRange", Rows.laid_strconv_ErrRange)] W := hm.filter (fun x => x.1 == "strconv.ErrRange")
    exact err_of h1 (by kernel_rfl) (by kernel_rfl)
  · have h1 : laidMet Tryd.prog [("internal/strconv.uint64pow10", Lib.tabData .u64 Lib.pow10Tab)] W := hm.filter (fun x => x.1 == "internal/strconv.uint64pow10")
    exact Lib.tabIs_of_head (P := Tryd.prog) (g := 4) (t := 109) (e := 50) (n := 20) (by kernel_rfl) (by kernel_rfl) Tryd.underlying109 Tryd.underlying50 (by kernel_rfl) (by kernel_rfl) h1
/-! ### 2. Arguments -/
section
variable {H : Type} {enc : TypeId × Value → H} {W : World} {A : Option Addr} {len cap : Nat} {d : DataW H} {ps : List MemPlace}
theorem u32_range {n : Int} (h : (Lit.int .u32 n).wf = true) : 0 ≤ n ∧ n < 2 ^ 32 := by
  simp [Lit.wf, IntKind.min, IntKind.max, IntKind.signed, IntKind.bits] at h
  omega
theorem u8_range {n : Int} (h : (Lit.int .u8 n).wf = true) : 0 ≤ n ∧ n < 256 := by
  simp [Lit.wf, IntKind.min, IntKind.max, IntKind.signed, IntKind.bits] at h
  omega
theorem parse_op (m : Nat) (cs : List Value) (x : DataW H × List MemPlace) (h : DataW.trod enc Tryd.prog W 0 (fun _ => true) true m 38 cs = some x) : ∃ y : Op, cs = y.cells ∧ True := by
  obtain ⟨xs, m, rfl, _, hlen, hxl, hfs⟩ := DataW.trod_struct Tryd.underlying38 h
  rw [show Tryd.prog.cellsOf 38 = 2 from by kernel_rfl] at hlen
  obtain ⟨a, b, rfl⟩ : ∃ u v, cs = [u, v] := by
    match cs, hlen with
    | [u, v], _ => exact ⟨u, v, rfl⟩
  have hxl : xs.length = 2 := hxl
  have f0 : DataW.trod enc Tryd.prog W 0 (fun _ => true) true m 5 ([a, b].take (Tryd.prog.cellsOf 5)) = xs[0]? := hfs 0 _ rfl
  have f1 : DataW.trod enc Tryd.prog W 0 (fun _ => true) true m 9 ([b].take (Tryd.prog.cellsOf 9)) = xs[1]? := hfs 1 _ rfl
  rw [show Tryd.prog.cellsOf 5 = 1 from by kernel_rfl] at f0
  rw [show Tryd.prog.cellsOf 9 = 1 from by kernel_rfl] at f1
  rw [List.getElem?_eq_getElem (by omega)] at f0 f1
  obtain ⟨n0, e0, _⟩ := DataW.trod_int Tryd.underlying5 f0
  obtain ⟨s1, e1, _⟩ := DataW.trod_string Tryd.underlying9 f1
  cases e0
  cases e1
  exact ⟨⟨n0, s1⟩, rfl, trivial⟩
theorem parse_ip (m : Nat) (cs : List Value) (x : DataW H × List MemPlace) (h : DataW.trod enc Tryd.prog W 0 (fun _ => true) true m 30 cs = some x) : ∃ y : Ip, cs = y.cells ∧ y.ok := by
  obtain ⟨xs, m, rfl, _, hlen, hxl, hfs⟩ := DataW.trod_struct Tryd.underlying30 h
  rw [show Tryd.prog.cellsOf 30 = 6 from by kernel_rfl] at hlen
  obtain ⟨a, b, c, d, e, f, rfl⟩ : ∃ a b c d e f, cs = [a, b, c, d, e, f] := by
    match cs, hlen with
    | [a, b, c, d, e, f], _ => exact ⟨a, b, c, d, e, f, rfl⟩
  have hxl : xs.length = 6 := hxl
  have f0 : DataW.trod enc Tryd.prog W 0 (fun _ => true) true m 4 ([a, b, c, d, e, f].take (Tryd.prog.cellsOf 4)) = xs[0]? := hfs 0 _ rfl
  have f1 : DataW.trod enc Tryd.prog W 0 (fun _ => true) true m 22 ([b, c, d, e, f].take (Tryd.prog.cellsOf 22)) = xs[1]? := hfs 1 _ rfl
  have f2 : DataW.trod enc Tryd.prog W 0 (fun _ => true) true m 4 ([c, d, e, f].take (Tryd.prog.cellsOf 4)) = xs[2]? := hfs 2 _ rfl
  have f3 : DataW.trod enc Tryd.prog W 0 (fun _ => true) true m 22 ([d, e, f].take (Tryd.prog.cellsOf 22)) = xs[3]? := hfs 3 _ rfl
  have f4 : DataW.trod enc Tryd.prog W 0 (fun _ => true) true m 4 ([e, f].take (Tryd.prog.cellsOf 4)) = xs[4]? := hfs 4 _ rfl
  have f5 : DataW.trod enc Tryd.prog W 0 (fun _ => true) true m 22 ([f].take (Tryd.prog.cellsOf 22)) = xs[5]? := hfs 5 _ rfl
  rw [show Tryd.prog.cellsOf 4 = 1 from by kernel_rfl] at f0 f2 f4
  rw [show Tryd.prog.cellsOf 22 = 1 from by kernel_rfl] at f1 f3 f5
  rw [List.getElem?_eq_getElem (by omega)] at f0 f1 f2 f3 f4 f5
  obtain ⟨n0, e0, _⟩ := DataW.trod_bool Tryd.underlying4 f0
  obtain ⟨n1, e1, _, w1⟩ := DataW.trod_int Tryd.underlying22 f1
  obtain ⟨n2, e2, _⟩ := DataW.trod_bool Tryd.underlying4 f2
  obtain ⟨n3, e3, _, w3⟩ := DataW.trod_int Tryd.underlying22 f3
  obtain ⟨n4, e4, _⟩ := DataW.trod_bool Tryd.underlying4 f4
  obtain ⟨n5, e5, _, w5⟩ := DataW.trod_int Tryd.underlying22 f5
  cases e0
  cases e1
  cases e2
  cases e3
  cases e4
  cases e5
  exact ⟨⟨n0, n1, n2, n3, n4, n5⟩, rfl, ⟨u32_range w1, u32_range w3, u32_range w5⟩⟩
theorem open_ops (h : DataW.Trod enc Tryd.prog W 0 (fun _ => true) true 31 (.slice A len cap) d ps) : len ≤ cap ∧ ∃ l, ArgO W A len l := by
  refine ⟨?_, ?_⟩
  · obtain ⟨fuel, hf⟩ := h
    rcases DataW.trod_slice Tryd.underlying31 hf with ⟨hcs, _⟩ | ⟨x, l, c, elems, rest, n, _, hcs, _, _, hl, _⟩
    · simp [Value.cells] at hcs
      omega
    · simp [Value.cells] at hcs
      obtain ⟨_, rfl, rfl⟩ := hcs
      exact hl
  · obtain ⟨l, h1, _⟩ := open_row (Q := fun _ => True) Tryd.underlying31 (by kernel_rfl) parse_op h
    exact ⟨l, h1⟩
theorem open_op {v : Value} (ho : ∃ cs, v = .agg cs ∧ cs.size = Tryd.prog.cellsOf 38) (h : DataW.Trod enc Tryd.prog W 0 (fun _ => true) true 38 v d ps) : ∃ y : Op, v = y.enc := by
  obtain ⟨cs, rfl, _⟩ := ho
  obtain ⟨fuel, hf⟩ := h
  obtain ⟨y, hy, _⟩ := parse_op _ _ _ hf
  have hy : cs.toList = y.cells := hy
  refine ⟨y, ?_⟩
  unfold Op.enc
  rw [← hy, Array.toArray_toList]
theorem open_ip {v : Value} (ho : ∃ cs, v = .agg cs ∧ cs.size = Tryd.prog.cellsOf 30) (h : DataW.Trod enc Tryd.prog W 0 (fun _ => true) true 30 v d ps) : ∃ y : Ip, v = y.enc ∧ y.ok := by
  obtain ⟨cs, rfl, _⟩ := ho
  obtain ⟨fuel, hf⟩ := h
  obtain ⟨y, hy, hk⟩ := parse_ip _ _ _ hf
  have hy : cs.toList = y.cells := hy
  refine ⟨y, ?_, hk⟩
  unfold Ip.enc
  rw [← hy, Array.toArray_toList]
/-! ### 3. A call under a condition, in a world that bears its shape -/
theorem handed_and_shaped {a : Assume} {C : Checked} {os : Os} {f : FuncId} {fn : Func} {s : ChangeSpec} {conds : List PathCond} {apart fresh handsOn again : Bool} {X : World → Array Value → Prop}
    (hX : ∀ (w w' : World) (args : Array Value), w.heap = w'.heap → X w args → X w' args)
    (own : ownKnob C.prog.godebug = none) (started : os.Started) (noInit : C.prog.inits.idxOf? f = none) (hfn : C.prog.funcs[f]? = some fn)
    (witness : ∃ (w : World) (tape : Tape) (i : Input), w.os = os ∧ (w.forCall tape i).Shaped C.prog ∧ i.vars = [] ∧ Input.okWide C.prog (w.forCall tape i) .any w.heap.size f i ∧
      ((s.pre enc C.prog fn conds apart (w.forCall tape i).memory i.args ∧ X (w.forCall tape i).memory i.args) ∧ sizedMet enc C.prog fn (OpenSpec.ofChange s) apart (w.forCall tape i).memory i.args) ∧ a.holds C.prog (lone (Frame.enter C.prog f i.args .normal) [] (w.forCall tape i)))
    (contract : ∀ (W : World) (base : Nat) (args : Array Value) (ds gs : List (DataW H)) (before : List MemPlace),
      (∀ (j : Nat) t v, fn.params[j]? = some t → args[j]? = some v → Value.okWide C.prog W .any base t v) →
      DataW.Whole enc C.prog fn.params.toList s.vars apart W args.toList ds gs before →
      (DataW.weightsEach C.prog (fn.params.toList ++ s.plain.varTypes C.prog) (ds ++ gs)).all (· ≤ reachBytes) = true → W.ShapedOpen C.prog → X W args →
      Calls C.prog f args W fun e W' => ∃ v, e = .returned v ∧ s.post enc C.prog fn apart fresh handsOn again W args v W') :
    ReturnsInHanded a C os f .any (fun w args => (s.pre enc C.prog fn conds apart w args ∧ X w args) ∧ sizedMet enc C.prog fn (OpenSpec.ofChange s) apart w args) (s.post enc C.prog fn apart fresh handsOn again) := by
  refine returnsInHanded_of_calls own started noInit witness ?_
  intro w tape i _ hsh _ hok hpre _
  obtain ⟨_, _, _, fn', hfn', _, _, _, _, hval⟩ := hok
  obtain rfl : fn' = fn := Option.some.inj (hfn'.symm.trans hfn)
  obtain ⟨⟨⟨ds, gs, before, hw, _⟩, hx⟩, hz⟩ := hpre
  refine (contract (w.forCall tape i) w.heap.size i.args ds gs before hval (DataW.Whole.of_heap (w := (w.forCall tape i).memory) (w' := w.forCall tape i) (by rfl) hw) (hz.weights hw) hsh (hX (w.forCall tape i).memory (w.forCall tape i) _ (by rfl) hx)).mono fun e W' ⟨v, he, hp⟩ => ?_
  subst he
  exact ChangeSpec.post_blind hp
end
/-! ### 4. The laws over arguments as they come -/
theorem texts_row {W : World} (hG : Glob W) {v : Int} (w0 : (Lit.int .u32 v).wf = true) (s : ByteArray) : Calls Tryd.prog 3 #[.int .u32 v, .string s] W (EndB W) := texts_law hG (u32_range w0).1 s
theorem back_row {W : World} (hG : Glob W) {v : Value} (ho : ∃ y : Ip, v = y.enc ∧ y.ok) {a b : Int} (w1 : (Lit.int .u32 a).wf = true) (w2 : (Lit.int .u32 b).wf = true) (s : ByteArray) : Calls Tryd.prog 4 #[v, .int .u32 a, .int .u32 b, .string s] W (EndB W) := by
  obtain ⟨y, rfl, hy⟩ := ho
  exact back_law hG hy (u32_range w1).1 (u32_range w1).2 (u32_range w2).1 (u32_range w2).2 s
theorem tells_row {W : World} {A : Option Addr} {len cap : Nat} (hG : Glob W) {v u : Value} (ho : ∃ y : Ip, v = y.enc ∧ y.ok) (ha : len ≤ cap ∧ ∃ l, ArgO W A len l) (hu : ∃ y : Op, u = y.enc) : Calls Tryd.prog 5 #[v, .slice A len cap, u] W (EndB W) := by
  obtain ⟨y, rfl, _⟩ := ho
  obtain ⟨o, rfl⟩ := hu
  obtain ⟨hc, l, hl⟩ := ha
  exact tells_law hG y hl hc o
theorem order_row {W : World} {A : Option Addr} {len cap : Nat} (hG : Glob W) {u : Value} {i k j : Int} (ha : len ≤ cap ∧ ∃ l, ArgO W A len l) (wi : (Lit.int .u8 i).wf = true) (wk : (Lit.int .u8 k).wf = true) (hu : ∃ y : Op, u = y.enc) (wj : (Lit.int .u8 j).wf = true) :
    Calls Tryd.prog 6 #[.slice A len cap, .int .u8 i, .int .u8 k, u, .int .u8 j] W (EndB W) := by
  obtain ⟨o, rfl⟩ := hu
  obtain ⟨hc, l, hl⟩ := ha
  have ri := u8_range wi
  have rk := u8_range wk
  have rj := u8_range wj
  obtain ⟨i, rfl⟩ := Int.eq_ofNat_of_zero_le ri.1
  obtain ⟨k, rfl⟩ := Int.eq_ofNat_of_zero_le rk.1
  obtain ⟨j, rfl⟩ := Int.eq_ofNat_of_zero_le rj.1
  exact order_law hG hl hc (by omega) (by omega) (by omega) o
end Go.Proofs.YthfcnkeclcphpaaDoor
