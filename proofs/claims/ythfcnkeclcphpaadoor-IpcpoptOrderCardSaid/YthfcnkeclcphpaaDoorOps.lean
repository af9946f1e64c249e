/- One operation, told without the temporaries: what a read leaves, what an effect does; each of them sound for the kit's own judgement of an operation. -/
import Derived.Test.YthfcnkeclcphpaaDoorCore
import Derived.Laws.StructEq
set_option linter.unusedVariables false
set_option linter.unusedSimpArgs false
namespace Go.Proofs.YthfcnkeclcphpaaDoor
open Go

/-! ### 1. Shapes of values -/
inductive Sc where
  | int (k : IntKind) | bool | str | ptr | slice | map | any
  | newp | newm | news (n : Nat) | newsl
inductive Sh where
  | one (s : Sc)
  | agg (l : List Sc)
  | big
def exSc : Sc → (Value → Prop) → Prop
  | .int k, K => ∃ n : Int, K (.int k n)
  | .bool, K => ∃ b : Bool, K (.bool b)
  | .str, K => ∃ s : ByteArray, K (.string s)
  | .ptr, K => ∃ A : Option Addr, K (.pointer A)
  | .slice, K => ∃ (A : Option Addr) (n c : Nat), K (.slice A n c)
  | .map, K => ∃ r : Option Nat, K (.map r)
  | .any, K => ∃ v : Value, K v
  | .newp, K => ∃ g : Nat, K (.pointer (some ⟨g, 0, none⟩))
  | .newm, K => ∃ g : Nat, K (.map (some g))
  | .news n, K => ∃ g : Nat, K (.slice (some ⟨g, 0, none⟩) n n)
  | .newsl, K => ∃ g n c : Nat, K (.slice (some ⟨g, 0, none⟩) n c)
def exScs : List Sc → (List Value → Prop) → Prop
  | [], K => K []
  | s :: r, K => exSc s fun v => exScs r fun vs => K (v :: vs)
def exS : Sh → (Value → Prop) → Prop
  | .one s, K => exSc s K
  | .agg l, K => exScs l fun vs => K (.agg vs.toArray)
  | .big, K => ∃ cs : Array Value, K (.agg cs)
def exSs : List Sh → (List Value → Prop) → Prop
  | [], K => K []
  | s :: r, K => exS s fun v => exSs r fun vs => K (v :: vs)
def exR : List Sh → (Value → Prop) → Prop
  | [s], K => exS s K
  | l, K => exSs l fun vs => K (.tuple vs.toArray)
theorem exSc_elim : ∀ {s : Sc} {K : Value → Prop}, exSc s K → ∃ v, K v
  | .int _, _, ⟨_, h⟩ | .bool, _, ⟨_, h⟩ | .str, _, ⟨_, h⟩ | .ptr, _, ⟨_, h⟩ | .map, _, ⟨_, h⟩ | .any, _, ⟨_, h⟩ | .newp, _, ⟨_, h⟩ | .newm, _, ⟨_, h⟩ | .news _, _, ⟨_, h⟩ => ⟨_, h⟩
  | .slice, _, ⟨_, _, _, h⟩ | .newsl, _, ⟨_, _, _, h⟩ => ⟨_, h⟩
theorem exScs_elim : ∀ {l : List Sc} {K : List Value → Prop}, exScs l K → ∃ vs, vs.length = l.length ∧ K vs
  | [], _, h => ⟨[], rfl, h⟩
  | _ :: _, _, h => by
    obtain ⟨v, h⟩ := exSc_elim h
    obtain ⟨vs, hl, h⟩ := exScs_elim h
    exact ⟨v :: vs, by simp [hl], h⟩
theorem exS_elim {s : Sh} {K : Value → Prop} (h : exS s K) : ∃ v, K v := by
  cases s with
  | one s => exact exSc_elim h
  | agg l => obtain ⟨vs, _, h⟩ := exScs_elim h; exact ⟨_, h⟩
  | big => obtain ⟨cs, h⟩ := h; exact ⟨_, h⟩
theorem exSs_elim : ∀ {l : List Sh} {K : List Value → Prop}, exSs l K → ∃ vs, K vs
  | [], _, h => ⟨[], h⟩
  | _ :: _, _, h => by
    obtain ⟨v, h⟩ := exS_elim h
    obtain ⟨vs, h⟩ := exSs_elim h
    exact ⟨v :: vs, h⟩
theorem exR_elim {l : List Sh} {K : Value → Prop} (h : exR l K) : ∃ v, K v := by
  unfold exR at h
  split at h
  · exact exS_elim h
  · obtain ⟨vs, h⟩ := exSs_elim h; exact ⟨_, h⟩

def isTwo (l : List Sc) : Bool := !decide (24 < l.length)
mutual
/-- A type's cells, one after another; none: more than 24 of them, or unknown. -/
def cellsOf (P : Program) : Nat → TypeId → Option (List Sc)
  | 0, _ => none
  | d + 1, t => match P.underlying t with
    | some (.int k) => some [.int k]
    | some .bool => some [.bool]
    | some .string => some [.str]
    | some (.pointer _) => some [.ptr]
    | some (.slice _) => some [.slice]
    | some (.map _ _) => some [.map]
    | some (.struct fs) => cellsOfs P d (fs.toList.map (·.type))
    | some (.array n e) => if 24 < n then none else match cellsOf P d e with
      | some l => let r := (List.replicate n l).flatten; if 24 < r.length then none else some r
      | none => none
    | some _ => some [.any]
    | none => none
def cellsOfs (P : Program) : Nat → List TypeId → Option (List Sc)
  | 0, _ => none
  | _ + 1, [] => some []
  | d + 1, t :: r => match cellsOf P d t, cellsOfs P d r with
    | some a, some b => if 24 < (a ++ b).length then none else some (a ++ b)
    | _, _ => none
end
def scOf (P : Program) (t : TypeId) : Sc := match P.underlying t with
  | some (.int k) => .int k
  | some .bool => .bool
  | some .string => .str
  | some (.pointer _) => .ptr
  | some (.slice _) => .slice
  | some (.map _ _) => .map
  | _ => .any
def shOf (P : Program) (t : TypeId) : Sh := match P.underlying t with
  | some (.struct _) | some (.array _ _) => match cellsOf P 60 t with
    | some l => .agg l
    | none => .big
  | _ => .one (scOf P t)

/-! ### 2. Reads -/
def cellsAt (w : World) (a : Addr) : Nat → List Value → Prop
  | _, [] => True
  | i, v :: r => w.cell? (a.add i) = some v ∧ cellsAt w a (i + 1) r
def sizeIs (P : Program) (t : TypeId) (n : Nat) : Bool := match P.info? t with
  | some i => Nat.beq i.size n
  | none => false
def isAggB (P : Program) (t : TypeId) : Bool := match P.underlying t with
  | some (.struct _) | some (.array _ _) => true
  | _ => false
abbrev QK := Value → Option (World → Prop) → Prop
def ldT (P : Program) (t : TypeId) (a : Addr) (w : World) (K : QK) : Prop := match P.underlying t with
  | some (.struct _) | some (.array _ _) => match cellsOf P 60 t with
    | some l => bif sizeIs P t l.length then exScs l fun vs => cellsAt w a 0 vs ∧ K (.agg vs.toArray) (some fun w' => cellsAt w' a 0 vs) else False
    | none => ∃ cs : Array Value, (loadVar t a).run P w = .ok (.agg cs) w ∧ K (.agg cs) (some fun w' => (loadVar t a).run P w' = .ok (.agg cs) w')
  | some _ => exSc (scOf P t) fun v => w.cell? a = some v ∧ K v (some fun w' => w'.cell? a = some v)
  | none => False
def prQ (P : Program) (s : Sem Value) (T : List Sh) (w : World) (K : QK) : Prop := exR T fun v => s.run P w = .ok v w ∧ K v (some fun w' => s.run P w' = .ok v w')
def nilck (A : Option Addr) (K : Addr → Prop) : Prop := match A with
  | some a => K a
  | none => False
def idxck (A : Option Addr) (n : Nat) (i : Int) (K : Addr → Prop) : Prop := (0 ≤ i ∧ i < n) ∧ nilck A K
def btAt (s : ByteArray) (i : Int) : Int := (s.data.toList.getD i.toNat 0).toNat
def pickV (b : Bool) (x y : Value) : Value := match x, y with
  | .bool p, .bool q => .bool (bif b then p else q)
  | x, y => bif b then x else y
def slcA (A : Option Addr) (c l size : Nat) : Option Addr := if c = l then A else A.map (·.add (l * size))
def slcSize (P : Program) (t : TypeId) : Option Nat := match P.underlying t with
  | some (.slice e) => (P.info? e).map (·.size)
  | _ => none
def arrSize (P : Program) (t : TypeId) : Option Nat := match P.underlying t with
  | some (.array _ e) => (P.info? e).map (·.size)
  | _ => none
/-- The bounds of a slice expression. -/
def sbck (l h : Int) (c : Nat) (given : Bool) : Prop := 0 ≤ l ∧ l ≤ h ∧ (given = true → h ≤ c)
def lenOfArr (P : Program) (t : TypeId) : Nat := match P.underlying t with
  | some (.array n _) => n
  | _ => 0
def isStr (P : Program) (t : TypeId) : Bool := match P.underlying t with
  | some .string => true
  | _ => false
/-- A bound of a slice expression as a number: what stands there, or what is meant. -/
def bnd (e : Env) (d : Nat) : Option Operand → Option Int
  | none => some d
  | some x => match e.rho x with
    | .int _ n => some n
    | _ => none
/-- '==' between two values that are whole numbers, texts, truths, or structs of these. -/
def eqT (P : Program) : Nat → TypeId → Value → Value → Option Bool
  | 0, _, _, _ => none
  | d + 1, t, x, y => match P.underlying t, x, y with
    | some .bool, .bool a, .bool b => some (a == b)
    | some (.int _), .int k a, .int k' b => if k = k' then some (a == b) else none
    | some .string, .string a, .string b => some (a == b)
    | some (.struct fs), .agg xs, .agg ys => if P.stoodInHeld t then none else
      fs.toList.foldr (fun f r => if f.name ≠ "_" then match pureVal P (part f.type xs f.offset), pureVal P (part f.type ys f.offset), r with
        | some a, some b, some q => match eqT P d f.type a b with
          | some p => some (p && q)
          | none => none
        | _, _, _ => none else r) (some true)
    | _, _, _ => none
def pureQ (P : Program) (e : Env) (o : Oper) (K : QK) : Prop := match pureVal P (execOp e.rho o) with
  | some (.value v) => K v none
  | _ => False
def lenMap (P : Program) (ts : Array TypeId) : Bool := match ts[0]? with
  | some t => match P.underlying t with
    | some (.map _ _) => true
    | _ => false
  | none => false
def elemSh (P : Program) (t : TypeId) (ok : Bool) : List Sh := match P.underlying t with
  | some (.map _ e) => bif ok then [shOf P e, .one .bool] else [shOf P e]
  | _ => []
def arrElSh (P : Program) (t : TypeId) : List Sh := match P.underlying t with
  | some (.array _ e) => [shOf P e]
  | _ => []
def toBytes (P : Program) (src dst : TypeId) : Bool := match P.underlying src, P.underlying dst with
  | some .string, some .string => true
  | some (.slice _), some .string => false
  | some (.int _), some .string => true
  | some .string, some (.slice _) => false
  | _, _ => true
def fromSlice (P : Program) (src dst : TypeId) : Bool := match P.underlying src, P.underlying dst with
  | some (.slice _), some .string => true
  | _, _ => false
def isNilPtr (P : Program) (t : TypeId) (y : Operand) : Bool := match P.underlying t, y with
  | some (.pointer _), .const (.pointer none) => true
  | _, _ => false
def isNilSlc (P : Program) (t : TypeId) (y : Operand) : Bool := match P.underlying t, y with
  | some (.slice _), .const (.slice none _ _) => true
  | _, _ => false
def binQ (P : Program) (e : Env) (o : Oper) (op : BinOp) (t : TypeId) (x y : Operand) (K : QK) : Prop :=
  match op, e.rho x, e.rho y with
  | .quo, .int k a, .int k' b => bif decide (k = k') then b ≠ 0 ∧ K (.int k (k.wrap (a.tdiv b))) none else False
  | .rem, .int k a, .int k' b => bif decide (k = k') then b ≠ 0 ∧ K (.int k (a.tmod b)) none else False
  | .shl, .int k a, .int _ b => 0 ≤ b ∧ K (.int k (k.wrap (a * 2 ^ (min b.toNat k.bits)))) none
  | .shr, .int k a, .int _ b => 0 ≤ b ∧ K (.int k (a.fdiv (2 ^ (min b.toNat k.bits)))) none
  | .add, .string a, .string b => a.size + b.size ≤ 9223372036854775807 ∧ K (.string (a ++ b)) none
  | .eql, .string a, .string b => K (.bool (a == b)) none
  | .neq, .string a, .string b => K (.bool (!(a == b))) none
  | .eql, .agg xs, .agg ys => bif P.eqGuardType P.depth t then False else match eqT P 60 t (.agg xs) (.agg ys) with
    | some b => K (.bool b) none
    | none => False
  | .neq, .agg xs, .agg ys => bif P.eqGuardType P.depth t then False else match eqT P 60 t (.agg xs) (.agg ys) with
    | some b => K (.bool (!b)) none
    | none => False
  | .eql, .pointer A, _ => bif isNilPtr P t y then K (.bool A.isNone) none else pureQ P e o K
  | .neq, .pointer A, _ => bif isNilPtr P t y then K (.bool (!A.isNone)) none else pureQ P e o K
  | .eql, .slice A _ _, _ => bif isNilSlc P t y then K (.bool A.isNone) none else pureQ P e o K
  | .neq, .slice A _ _, _ => bif isNilSlc P t y then K (.bool (!A.isNone)) none else pureQ P e o K
  | _, _, _ => pureQ P e o K
/-- The type at which an 'extract' of this region takes part i of temporary t. -/
def extTy (os : List Oper) (t : Option Tmp) (i : Nat) : Option TypeId := match os with
  | [] => none
  | o :: r => match o.op, t with
    | .extract (.tmp u) j, some t => bif Nat.beq u t && Nat.beq i j then some o.type else extTy r (some t) i
    | _, _ => extTy r t i
def extSh (P : Program) (os : List Oper) (t : Option Tmp) (i : Nat) : Sh := match extTy os t i with
  | some u => shOf P u
  | none => .one .any
/-- An operation that leaves the world as it is. -/
def quietOp (P : Program) (os : List Oper) (e : Env) (o : Oper) (w : World) (K : QK) : Prop :=
  match o.op with
  | .load t x => match e.rho x with
    | .pointer A => nilck A fun a => ldT P t a w K
    | _ => False
  | .pick c x y => match e.rho c with
    | .bool b => K (pickV b (e.rho x) (e.rho y)) none
    | _ => False
  | .nilCheck x => match e.rho x with
    | .pointer A => nilck A fun a => K (.pointer (some a)) none
    | _ => pureQ P e o K
  | .indexAddr t x ix => match e.rho x, e.rho ix with
    | .slice A n _, .int _ i => match slcSize P t with
      | some s => idxck A n i fun a => K (.pointer (some (a.add (i.toNat * s)))) none
      | none => False
    | .pointer A, .int _ i => match arrSize P t with
      | some s => idxck A (lenOfArr P t) i fun a => K (.pointer (some (a.add (i.toNat * s)))) none
      | none => False
    | _, _ => False
  | .index t x ix => match e.rho x, e.rho ix with
    | .string s, .int _ i => bif isStr P t then (0 ≤ i ∧ i < s.size) ∧ K (.int .u8 (btAt s i)) none else False
    | .agg cs, .int k i => prQ P (Instr.index t (.agg cs) (.int k i)) (arrElSh P t) w K
    | _, _ => pureQ P e o K
  | .slice t x lo hi none => match e.rho x with
    | .string s => match bnd e 0 lo, bnd e s.size hi with
      | some l, some h => bif isStr P t then sbck l h s.size hi.isSome ∧ K (.string (s.extract l.toNat h.toNat)) none else False
      | _, _ => False
    | .slice A n c => match bnd e 0 lo, bnd e n hi, slcSize P t with
      | some l, some h, some s => sbck l h c hi.isSome ∧ K (.slice (slcA A c l.toNat s) (h.toNat - l.toNat) (c - l.toNat)) none
      | _, _, _ => False
    | .pointer A => match bnd e 0 lo, bnd e (lenOfArr P t) hi, arrSize P t with
      | some l, some h, some s => sbck l h (lenOfArr P t) hi.isSome ∧ nilck A fun a => K (.slice (slcA (some a) (lenOfArr P t) l.toNat s) (h.toNat - l.toNat) (lenOfArr P t - l.toNat)) none
      | _, _, _ => False
    | _ => False
  | .binOp op t x y _ => binQ P e o op t x y K
  | .lookup t m k ok => prQ P (Instr.lookup t (e.rho m) (e.rho k) ok) (elemSh P t ok) w K
  | .entry it => prQ P (Instr.entry (e.rho it)) [extSh P os o.dst 0, extSh P os o.dst 1] w K
  | .convert src dst x => bif fromSlice P src dst then prQ P (convert src dst (e.rho x)) [.one .str] w K else pureQ P e o K
  | .call c => match c.callee with
    | .builtin .len => bif lenMap P c.argTypes then prQ P (Builtin.len_ c.argTypes o.type (c.args.map e.rho)) [.one (.int .i64)] w K else pureQ P e o K
    | _ => pureQ P e o K
  | _ => pureQ P e o K
def quietKind (P : Program) (o : Oper) : Bool := match o.op with
  | .move _ | .assign _ | .pick _ _ _ | .build _ _ | .load _ _ | .nilCheck _ | .binOp _ _ _ _ _ | .unOp _ _ _ | .makeInterface _ _ | .makeFunc _ _ _ | .slice _ _ _ _ _ | .fieldAddr _ _ _ | .field _ _ _
  | .indexAddr _ _ _ | .index _ _ _ | .lookup _ _ _ _ | .extract _ _ | .entry _ => true
  | .convert src dst _ => toBytes P src dst || fromSlice P src dst
  | .call c => match c.callee with
    | .builtin .len | .builtin .cap | .builtin .max | .builtin .min => true
    | _ => false
  | _ => false

/-! ### 3. Effects -/
abbrev EK := Value → World → Prop
def prW (P : Program) (s : Sem Value) (T : List Sh) (w : World) (K : EK) : Prop := exR T fun v => ∃ w', s.run P w = .ok v w' ∧ K v w'
def prU (P : Program) (s : Sem Unit) (w : World) (K : World → Prop) : Prop := ∃ w', s.run P w = .ok () w' ∧ K w'
def callW (P : Program) (f : FuncId) (args : Array Value) (T : List Sh) (w : World) (K : EK) (Rp : List PanicEntry → World → Prop) : Prop :=
  Calls P f args w fun en w' => (exR T fun v => en = .returned v ∧ K v w') ∨ ∃ ch, en = .panicked ch ∧ Rp ch w'
/-- A call of a function value. -/
def callV (P : Program) (v : Value) (args : Array Value) (k : FuncId → Array Value → Prop) : Prop := ∃ (f : FuncId) (a b : Array Value), v = .func (.func f) a b ∧ (∀ xs w, (callFunc f xs).run P w = .ok (.enter f xs) w) ∧ k f (a ++ args ++ b)
/-- The shapes of what a call hands back, off its type. -/
def tySh (P : Program) (t : TypeId) : List Sh := match P.underlying t with
  | some (.tuple ts) => ts.toList.map (shOf P)
  | _ => [shOf P t]
def resSh (P : Program) (f : FuncId) : List Sh := match P.funcs[f]? with
  | some fn => fn.resultTypes.toList.map (shOf P)
  | none => []
def builtSh (P : Program) (b : Builtin) (t : TypeId) : List Sh := match b with
  | .append => [.one .slice]
  | .copy => [.one (.int .i64)]
  | .delete | .clear | .close => []
  | .print | .println => []
  | _ => [shOf P t]
/-- The next step of an iterator: it is over, or a key (and a value) comes. -/
def nextW (P : Program) (s : Sem Value) (T : List Sh) (w : World) (K : EK) : Prop :=
  (∃ w', s.run P w = .ok (.tuple #[.bool false]) w' ∧ K (.tuple #[.bool false]) w') ∨
  exSs T fun vs => ∃ w', s.run P w = .ok (.tuple (.bool true :: vs).toArray) w' ∧ K (.tuple (.bool true :: vs).toArray) w'
def effOp (P : Program) (os : List Oper) (e : Env) (o : Oper) (w : World) (K : EK) (Rp : List PanicEntry → World → Prop) : Prop :=
  match o.op with
  | .store t a v => prU P (Instr.storeAt t (e.rho a) (e.rho v)) w (K undef)
  | .alloc t => prW P (Instr.alloc t true (.tuple #[])) [.one .newp] w K
  | .box t x => prW P (Instr.box t (e.rho x)) [.one .newp] w K
  | .buildSlice t n ps => prW P (Instr.buildSlice t n (ps.map fun (i, x) => (i, e.rho x))) [.one (.news n)] w K
  | .makeMap t r => prW P (Instr.makeMap t (r.map e.rho)) [.one .newm] w K
  | .makeSlice t l c => prW P (Instr.makeSlice t (e.rho l) (e.rho c)) [.one .newsl] w K
  | .mapUpdate t m k x => prU P (Instr.mapUpdate t (e.rho m) (e.rho k) (e.rho x)) w (K undef)
  | .insert t m k x => prU P (Instr.mapUpdate t (e.rho m) (e.rho k) (e.rho x)) w (K undef)
  | .mapEntry t m k => prW P (Instr.mapEntry t (e.rho m) (e.rho k)) (elemSh P t false ++ [.one (.int .i64)]) w K
  | .entryStore t m s x => prU P (Instr.entryStore t (e.rho m) (e.rho s) (e.rho x)) w (K undef)
  | .range t x => prW P (Instr.range t (e.rho x)) [.one .newp] w K
  | .next it s => nextW P (Instr.next (e.rho it) s o.type) [extSh P os o.dst 1, extSh P os o.dst 2] w K
  | .convert src dst x => prW P (convert src dst (e.rho x)) [.one .newsl] w K
  | .typeAssert x t u ok => prW P (Instr.typeAssert (e.rho x) t u ok) (bif ok then [shOf P u, .one .bool] else [shOf P u]) w K
  | .panic x => match e.rho x with
    | .iface t v => Rp [{ v := .iface t v, recovered := false }] w
    | _ => False
  | .call c => match c.callee with
    | .builtin .append => prW P (Builtin.append_ c.argTypes o.type (c.args.map e.rho)) [.one .slice] w K
    | .builtin .copy => prW P (Builtin.copy_ c.argTypes o.type (c.args.map e.rho)) [.one (.int .i64)] w K
    | .builtin .delete => prW P (Builtin.delete_ c.argTypes o.type (c.args.map e.rho)) [] w K
    | .builtin .clear => prW P (Builtin.clear_ c.argTypes o.type (c.args.map e.rho)) [] w K
    | .builtin _ => False
    | .value (.tmp t) => callV P (e.rho (.tmp t)) (c.args.map e.rho) fun f xs => callW P f xs (tySh P o.type) w K Rp
    | _ => match pureVal P (execOp e.rho o) with
      | some (.enter f args) => callW P f args (resSh P f) w K Rp
      | _ => False
  | _ => False
/-! ### 4. The same forms by names, as they are printed -/
def stW (P : Program) (t : TypeId) (a : Addr) (v : Value) (w : World) (K : World → Prop) : Prop := prU P (Instr.storeAt t (.pointer (some a)) v) w K
def newW (P : Program) (s : Sem Value) (w : World) (K : Nat → World → Prop) : Prop := ∃ (g : Nat) (w' : World), s.run P w = .ok (.pointer (some ⟨g, 0, none⟩)) w' ∧ K g w'
def mkmW (P : Program) (s : Sem Value) (w : World) (K : Nat → World → Prop) : Prop := ∃ (g : Nat) (w' : World), s.run P w = .ok (.map (some g)) w' ∧ K g w'
def bslW (P : Program) (n : Nat) (s : Sem Value) (w : World) (K : Nat → World → Prop) : Prop := ∃ (g : Nat) (w' : World), s.run P w = .ok (.slice (some ⟨g, 0, none⟩) n n) w' ∧ K g w'
def mksW (P : Program) (s : Sem Value) (w : World) (K : Nat → Nat → Nat → World → Prop) : Prop := ∃ (g n c : Nat) (w' : World), s.run P w = .ok (.slice (some ⟨g, 0, none⟩) n c) w' ∧ K g n c w'
def slW (P : Program) (s : Sem Value) (w : World) (K : Option Addr → Nat → Nat → World → Prop) : Prop := ∃ (A : Option Addr) (n c : Nat) (w' : World), s.run P w = .ok (.slice A n c) w' ∧ K A n c w'
def unW (P : Program) (s : Sem Value) (w : World) (K : World → Prop) : Prop := ∃ w' : World, s.run P w = .ok (.tuple #[]) w' ∧ K w'
def intW (P : Program) (k : IntKind) (s : Sem Value) (w : World) (K : Int → World → Prop) : Prop := ∃ (n : Int) (w' : World), s.run P w = .ok (.int k n) w' ∧ K n w'
/-- An operation that lays one new block and does nothing else. -/
def laysOnly (o : Oper) : Bool := match o.op with
  | .alloc _ | .box _ _ | .buildSlice _ _ _ | .makeMap _ _ => true
  | _ => false
def isLoad (P : Program) (o : Oper) : Bool := match o.op with
  | .load t _ => (isAggB P t && (cellsOf P 60 t).isSome) || !isAggB P t
  | _ => false
end Go.Proofs.YthfcnkeclcphpaaDoor
