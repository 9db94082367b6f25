/- An evaluator of the loaded program over an abstract heap, proved right: part 1. -/
import GoSem.Dispatch
import Derived.Laws.Entries
import Derived.Laws.Sem
import Derived.Calls
import Derived.Laws.NewBlocks
import Derived.Laws.Slices
import Derived.Laws.StructEq
import Derived.Laws.Small
import Derived.Laws.Strings
import Derived.Laws.Concat
import Derived.Laws.Bits
import Derived.Laws.Cells
import Derived.Laws.Panics
set_option linter.unusedVariables false
set_option linter.unusedSimpArgs false
set_option linter.unusedSectionVars false
/- The engine, part 1: cells, rows, blocks, compiled operations, and the evaluator over an abstract heap. -/
namespace Go.Eng

/-- What one cell holds. -/
inductive C where
  | int (k : IntKind) (n : Int)
  | bool (b : Bool)
  | str (s : ByteArray)
  | nilp
  | nils (tag : Nat)
  | ptr (b off : Nat)
  | pr (b g i o : Nat)
  | sl (b g : Nat)
  | sc (b g lo n : Nat)
  | sf (b g lo n : Nat)
  | fn (f : Nat) (caps : List Nat)
  | ub (n : Nat)
  | sb (b n : Nat)
  | j
deriving DecidableEq, Inhabited

/-- What one slot holds. -/
inductive V where
  | c (x : C)
  | a (cs : List C)
  | t (vs : List (Bool × List C))
  | j
deriving DecidableEq, Inhabited

def C.plain : C → Bool
  | .int .. | .bool _ | .str _ => true
  | _ => false

/-- Rows of elements without references. -/
structure RowU (R : Type) where
  esz : Nat → Nat
  tag : R → Nat
  cells : R → List (List C)
  len : R → Nat
  getD : R → Nat → List C
  set : R → Nat → List C → Option R
  cut : R → Nat → Nat → R
  app : R → R → Option R
  ovw : R → Nat → R → Option R
  lit : Nat → List (List C) → Option R
  rep : Nat → Nat → List C → Option R
  toStr : R → Option ByteArray
  ofStr : ByteArray → R
  tag_esz : ∀ r, ∀ x ∈ cells r, x.length = esz (tag r)
  plain : ∀ r, ∀ x ∈ cells r, ∀ c ∈ x, C.plain c = true
  len_eq : ∀ r, len r = (cells r).length
  getD_eq : ∀ r i, i < len r → (cells r)[i]? = some (getD r i)
  set_eq : ∀ r i cs r', i < len r → set r i cs = some r' → tag r' = tag r ∧ cells r' = (cells r).set i cs
  cut_eq : ∀ r lo n, tag (cut r lo n) = tag r ∧ cells (cut r lo n) = ((cells r).drop lo).take n
  app_eq : ∀ r s r', app r s = some r' → tag r' = tag r ∧ tag s = tag r ∧ cells r' = cells r ++ cells s
  ovw_eq : ∀ r lo s r', lo + len s ≤ len r → ovw r lo s = some r' → tag r' = tag r ∧ tag s = tag r ∧ cells r' = (cells r).take lo ++ cells s ++ (cells r).drop (lo + len s)
  lit_eq : ∀ t es r, lit t es = some r → tag r = t ∧ cells r = es
  rep_eq : ∀ t n z r, rep t n z = some r → tag r = t ∧ cells r = List.replicate n z
  toStr_eq : ∀ r s, toStr r = some s → cells r = s.data.toList.map fun b => [C.int .u8 b.toNat]
  ofStr_esz : ∀ s, esz (tag (ofStr s)) = 1
  ofStr_eq : ∀ s, cells (ofStr s) = s.data.toList.map fun b => [C.int .u8 b.toNat]

/-- What lies in a block: the cells of a variable, or a row. -/
inductive BK (R : Type) where
  | box (cs : List C)
  | row (r : R)
/-- A block: its generation; 1: it is read alone, 2: it is our own, 0: nothing is known of it. -/
structure Blk (R : Type) where
  k : BK R
  g : Nat
  m : Nat
abbrev Heap (R : Type) := List (Blk R)
abbrev Fr := List V

def V.cells : V → List C
  | .c x => [x]
  | .a cs => cs
  | _ => []

/-! ### compiled operations -/
inductive Opd where
  | t (n : Nat)
  | k (c : C)
deriving DecidableEq, Inhabited

inductive SOp where
  | mv (x : Opd)
  | pick (c a b : Opd)
  | box (x : Opd)
  | alloc (z : List C)
  | build (z : List C) (ps : List (Nat × Nat × Opd))
  | bsl (tag n : Nat) (z : List C) (ps : List (Nat × Opd))
  | ld (ag : Bool) (n : Nat) (x : Opd)
  | st (n : Nat) (x v : Opd)
  | nck (x : Opd)
  | bin (op : BinOp) (x y : Opd)
  | eqs (ng : Bool) (n : Nat) (lay : List (Nat × Bool)) (x y : Opd)
  | eqb (ng : Bool) (x y : Opd)
  | not (x : Opd)
  | neg (x : Opd)
  | inv (x : Opd)
  | conv (k : IntKind) (x : Opd)
  | b2s (x : Opd)
  | s2b (x : Opd)
  | mk (tag bytes : Nat) (z : List C) (n : Opd)
  | slc (tag : Nat) (x : Opd) (lo hi mx : Option Opd)
  | sls (x : Opd) (lo hi : Option Opd)
  | fa (off : Nat) (x : Opd)
  | fv (ag : Bool) (off n : Nat) (x : Opd)
  | idx (tag : Nat) (x i : Opd)
  | ixs (x i : Opd)
  | ext (i : Nat) (x : Opd)
  | mkfn (f : Nat) (caps : List Opd)
  | call (f : Nat) (xs : List Opd)
  | callv (f : Opd) (xs : List Opd)
  | len (x : Opd)
  | lens (x : Opd)
  | cap (x : Opd)
  | app (tag bytes : Nat) (x y : Opd)
  | min (x y : Opd)
  | max (x y : Opd)
  | isnil (x : Opd)
  | cid (x : Opd)
  | apz (tag bytes : Nat) (z : List C) (x n : Opd)
  | bsb (n : Nat) (z : List C) (ps : List (Nat × Opd))
  | idxb (x i : Opd)
  | clr (tag : Nat) (z : List C) (x : Opd)
  | stuck
deriving DecidableEq, Inhabited

/-- An operation: where its value goes; the operation; its guard (a slot, and what it must hold); the operations that come before it, as bits (of a region whose order is drawn). -/
structure SO where
  d : Option Nat
  op : SOp
  g : Option (Nat × Bool)
  bf : Nat
deriving DecidableEq, Inhabited

inductive SC where
  | skip
  | reg (ops : List SO) (draw : Bool)
  | seq (a b : SC)
  | cond (c : Opd) (a b : SC)
  | block (i : Nat) (b : SC)
  | loop (i : Nat) (b : SC)
  | exit (i : Nat)
  | ret
  | stuck
deriving DecidableEq, Inhabited

def oslots : Opd → List Nat
  | .t n => [n]
  | .k _ => []
def ooslots : Option Opd → List Nat
  | none => []
  | some x => oslots x
def slots : SOp → List Nat
  | .mv x | .box x | .ld _ _ x | .nck x | .not x | .neg x | .inv x | .conv _ x | .b2s x | .s2b x | .mk _ _ _ x | .fa _ x | .fv _ _ _ x | .ext _ x | .len x | .lens x | .cap x | .isnil x | .cid x | .clr _ _ x => oslots x
  | .pick a b c => oslots a ++ oslots b ++ oslots c
  | .alloc _ | .stuck => []
  | .build _ ps => ps.flatMap fun p => oslots p.2.2
  | .bsl _ _ _ ps => ps.flatMap fun p => oslots p.2
  | .bsb _ _ ps => ps.flatMap fun p => oslots p.2
  | .st _ x y | .bin _ x y | .eqs _ _ _ x y | .eqb _ x y | .idx _ x y | .ixs x y | .idxb x y | .apz _ _ _ x y | .app _ _ x y | .min x y | .max x y => oslots x ++ oslots y
  | .slc _ x a b c => oslots x ++ ooslots a ++ ooslots b ++ ooslots c
  | .sls x a b => oslots x ++ ooslots a ++ ooslots b
  | .mkfn _ xs | .call _ xs => xs.flatMap oslots
  | .callv x xs => oslots x ++ xs.flatMap oslots

/-- The slots that an operation names. -/
def names (so : SO) : List Nat := so.d.toList ++ slots so.op ++ (match so.g with | some (t, _) => [t] | none => [])
def hits (p so : SO) : Bool := (match p.d with | some d => (names so).contains d | none => false) || (match so.d with | some d => (names p).contains d | none => false)
/-- Operations that name one slot, which one of them fills, are bound in their order. -/
def slotsOk : List (Nat × SO) → Nat → List SO → Bool
  | _, _, [] => true
  | prev, i, so :: sos => prev.all (fun p => so.bf.testBit p.1 || !hits p.2 so) && slotsOk ((i, so) :: prev) (i + 1) sos
/-- What comes before each operation, whatever is drawn. -/
def befE (acc : List Nat) (o : Oper) : Nat := o.after.toList.foldl (fun s e => if Region.binds .any e then s ||| 2 ^ e.on ||| acc.getD e.on 0 else s) 0
def befL : List Nat → List Oper → List Nat
  | acc, [] => acc
  | acc, o :: os => befL (acc ++ [befE acc o]) os
def edgesOk : Nat → List Oper → Bool
  | _, [] => true
  | i, o :: os => o.after.toList.all (fun e => !Region.binds .any e || decide (e.on < i)) && edgesOk (i + 1) os

/-! ### the compiler -/
section
variable (P : Program) (tagT : TypeId → Option Nat)

def elemT (t : TypeId) : Option TypeId :=
  match P.underlying t with
  | some (.slice e) => some e
  | _ => none
def szT (t : TypeId) : Option Nat := (P.info? t).map (·.size)
def byT (t : TypeId) : Option Nat := (P.info? t).map (·.bytes)
def agT (t : TypeId) : Option Bool :=
  match P.underlying t with
  | some (.struct _) => some true
  | some (.array ..) | some (.invalid) | some (.named ..) | none => none
  | some _ => some false

/-- A literal; of what type it is, where that counts. -/
def ofLit (t : Option TypeId) : Value → Option C
  | .int k n => some (.int k n)
  | .bool b => some (.bool b)
  | .string s => some (.str s)
  | .slice none 0 0 => (t.bind (elemT P)).bind fun e => (tagT e).map .nils
  | .pointer none => some .nilp
  | _ => none
def ofOp (t : Option TypeId) : Operand → Option Opd
  | .tmp n => some (.t n)
  | .const v => (ofLit P tagT t v).map .k
  | .func f => some (.k (.fn f []))
  | .global _ => none
def ofOps (ts : List (Option TypeId)) : List Operand → Option (List Opd)
  | [] => some []
  | x :: xs => (ofOp P tagT (ts.headD none) x).bind fun y => (ofOps (ts.drop 1) xs).map (y :: ·)
def ofOpt : Option Operand → Option (Option Opd)
  | none => some none
  | some x => (ofOp P tagT none x).map some

/-- The cells of a type's zero value. -/
def zeroC : Nat → TypeId → Option (List C)
  | 0, _ => none
  | d + 1, t => match P.underlying t with
    | some (.int k) => some [.int k 0]
    | some .bool => some [.bool false]
    | some .string => some [.str ⟨#[]⟩]
    | some (.pointer _) => some [.nilp]
    | some (.slice e) => (tagT e).map fun g => [.nils g]
    | some (.struct fs) => fs.toList.foldr (fun f acc => (zeroC d f.type).bind fun x => acc.map (x ++ ·)) (some [])
    | _ => none
def sameZ : List C → List Value → Bool
  | [], [] => true
  | .int k n :: cs, .int k' n' :: vs => k == k' && n == n' && sameZ cs vs
  | .bool b :: cs, .bool b' :: vs => b == b' && sameZ cs vs
  | .str b :: cs, .string b' :: vs => b.data.toList == b'.data.toList && sameZ cs vs
  | .nilp :: cs, .pointer none :: vs => sameZ cs vs
  | .nils _ :: cs, .slice none 0 0 :: vs => sameZ cs vs
  | _, _ => false
def zeroT (t : TypeId) : Option (List C) :=
  match zeroC P tagT 9 t, (P.info? t).bind (·.zero) with
  | some z, some v => if sameZ z v.cells.toList then some z else none
  | _, _ => none

/-- The cells by which two structs are compared, in order. -/
def leavesT : Nat → TypeId → Nat → Option (List (Nat × Bool))
  | 0, _, _ => none
  | d + 1, t, base => match P.underlying t with
    | some (.int _) => some [(base, false)]
    | some .bool => some [(base, true)]
    | some (.struct fs) => if P.stoodInHeld t then none else
        fs.toList.foldr (fun f acc => match acc, szT P f.type, szT P t with
          | some l, some n, some m => if f.name ≠ "_" ∧ f.offset + n ≤ m ∧ 0 < n then (leavesT d f.type (base + f.offset)).map (· ++ l) else none
          | _, _, _ => none) (some [])
    | _ => none

def fieldT (t : TypeId) (f : Nat) : Option (Nat × TypeId × Nat) :=
  match P.underlying t with
  | some (.struct fs) => (fs[f]?).bind fun x => (szT P x.type).bind fun n => if n = 0 then none else some (x.offset, x.type, n)
  | _ => none

def parts (t : TypeId) : List (Nat × Operand) → Option (List (Nat × Nat × Opd))
  | [] => some []
  | (i, x) :: ps => (fieldT P t i).bind fun (off, ft, n) => (ofOp P tagT (some ft) x).bind fun y => (parts t ps).map ((off, n, y) :: ·)
def partsS (e : TypeId) : List (Nat × Operand) → Option (List (Nat × Opd))
  | [] => some []
  | (i, x) :: ps => (ofOp P tagT (some e) x).bind fun y => (partsS e ps).map ((i, y) :: ·)

def comp1 (o : Oper) : Option SOp :=
  match o.op with
  | .move x | .assign x => (ofOp P tagT (some o.type) x).map .mv
  | .pick c a b => (ofOp P tagT none c).bind fun c => (ofOp P tagT (some o.type) a).bind fun a => (ofOp P tagT (some o.type) b).map fun b => .pick c a b
  | .box t x => (ofOp P tagT (some t) x).map .box
  | .alloc t => (zeroT P tagT t).map .alloc
  | .build t ps => match P.underlying t with
    | some (.struct fs) => if (fs.toList.mapM fun f => (P.info? f.type).map fun i => (f.offset, i.size)).isSome then (zeroT P tagT t).bind fun z => (parts P tagT t ps.toList).map fun ps => .build z ps else none
    | _ => none
  | .buildSlice t n ps => (elemT P t).bind fun e => (zeroT P tagT e).bind fun z => (partsS P tagT e ps.toList).bind fun ps => match tagT e with
    | some g => some (.bsl g n z ps)
    | none => if szT P e = some 1 then some (.bsb n z ps) else none
  | .load t x => (agT P t).bind fun ag => (szT P t).bind fun n => if (ag || n == 1) && n != 0 then (ofOp P tagT none x).map fun x => .ld ag n x else none
  | .store t x v => (szT P t).bind fun n => if n = 0 then none else (ofOp P tagT none x).bind fun x => (ofOp P tagT (some t) v).map fun v => .st n x v
  | .nilCheck x => (ofOp P tagT none x).map .nck
  | .binOp op t x y _ => match P.underlying t with
    | some (.struct _) => if P.eqGuardType P.depth t then none else (leavesT P 20 t 0).bind fun lay => (szT P t).bind fun n => match op with
        | .eql => (ofOp P tagT none x).bind fun x => (ofOp P tagT none y).map fun y => .eqs false n lay x y
        | .neq => (ofOp P tagT none x).bind fun x => (ofOp P tagT none y).map fun y => .eqs true n lay x y
        | _ => none
    | some (.int _) | some .string => (ofOp P tagT none x).bind fun x => (ofOp P tagT none y).map fun y => .bin op x y
    | some .bool => match op with
      | .eql => (ofOp P tagT none x).bind fun x => (ofOp P tagT none y).map fun y => .eqb false x y
      | .neq => (ofOp P tagT none x).bind fun x => (ofOp P tagT none y).map fun y => .eqb true x y
      | _ => none
    | some (.slice _) => match op, y with
      | .eql, .const (.slice none 0 0) => (ofOp P tagT none x).map .isnil
      | _, _ => none
    | _ => none
  | .unOp .not _ x => (ofOp P tagT none x).map .not
  | .unOp .neg _ x => (ofOp P tagT none x).map .neg
  | .unOp .xor _ x => (ofOp P tagT none x).map .inv
  | .convert s d x => if s = d then (match P.underlying s with
    | some (.slice e) => match P.underlying e with
      | some (.int .u8) => (ofOp P tagT (some s) x).map .cid
      | _ => none
    | some (.int k) => (ofOp P tagT none x).map (.conv k)
    | _ => none) else match P.underlying s, P.underlying d with
    | some (.int _), some (.int k) => (ofOp P tagT none x).map (.conv k)
    | some (.slice e), some .string => match P.underlying e with
      | some (.int .u8) => (ofOp P tagT (some s) x).map .b2s
      | _ => none
    | some .string, some (.slice e) => match P.underlying e with
      | some (.int .u8) => (ofOp P tagT none x).map .s2b
      | _ => none
    | _, _ => none
  | .makeSlice t l c => (elemT P t).bind fun e => (tagT e).bind fun g => (byT P e).bind fun by_ => (zeroT P tagT e).bind fun z => (ofOp P tagT none l).bind fun l => (ofOp P tagT none c).bind fun c =>
      if l = c then some (.mk g by_ z l) else none
  | .slice t x lo hi mx => match P.underlying t with
    | some (.slice e) => (tagT e).bind fun g => (ofOp P tagT none x).bind fun x => (ofOpt P tagT lo).bind fun lo => (ofOpt P tagT hi).bind fun hi => (ofOpt P tagT mx).map fun mx => .slc g x lo hi mx
    | some .string => if mx.isSome then none else (ofOp P tagT none x).bind fun x => (ofOpt P tagT lo).bind fun lo => (ofOpt P tagT hi).map fun hi => .sls x lo hi
    | _ => none
  | .fieldAddr t x f => (fieldT P t f).bind fun (off, _, _) => (ofOp P tagT none x).map fun x => .fa off x
  | .field t x f => (fieldT P t f).bind fun (off, ft, n) => (agT P ft).bind fun ag => if ag || n == 1 then (ofOp P tagT none x).map fun x => .fv ag off n x else none
  | .indexAddr t x i => match P.underlying t with
    | some (.slice e) => (ofOp P tagT none x).bind fun x => (ofOp P tagT none i).bind fun i => match tagT e with
      | some g => some (.idx g x i)
      | none => if szT P e = some 1 then some (.idxb x i) else none
    | _ => none
  | .index t x i => match P.underlying t with
    | some .string => (ofOp P tagT none x).bind fun x => (ofOp P tagT none i).map fun i => .ixs x i
    | _ => none
  | .extract x i => (ofOp P tagT none x).map (.ext i)
  | .makeFunc (.func f) first caps => if first.isEmpty then (ofOps P tagT [] caps.toList).map (.mkfn f) else none
  | .call c => match c.callee with
    | .value (.func f) => (ofOps P tagT ((((P.funcs[f]?).map (·.params.toList)).getD []).map some) c.args.toList).map (.call f)
    | .value x => (ofOp P tagT none x).bind fun x => (ofOps P tagT [] c.args.toList).map fun xs => .callv x xs
    | .builtin .len => match c.args.toList with
      | [x] => match (c.argTypes[0]?).bind P.underlying with
        | some (.slice _) => (ofOp P tagT (c.argTypes[0]?) x).map .len
        | some .string => (ofOp P tagT none x).map .lens
        | _ => none
      | _ => none
    | .builtin .cap => match c.args.toList with
      | [x] => match (c.argTypes[0]?).bind P.underlying with
        | some (.slice _) => (ofOp P tagT (c.argTypes[0]?) x).map .cap
        | _ => none
      | _ => none
    | .builtin .min => match c.args.toList with
      | [x, y] => (ofOp P tagT none x).bind fun x => (ofOp P tagT none y).map fun y => .min x y
      | _ => none
    | .builtin .max => match c.args.toList with
      | [x, y] => (ofOp P tagT none x).bind fun x => (ofOp P tagT none y).map fun y => .max x y
      | _ => none
    | .builtin .clear => match c.args.toList, c.argTypes.toList with
      | [x], [t] => (elemT P t).bind fun e => (tagT e).bind fun g => (zeroT P tagT e).bind fun z => (ofOp P tagT (some t) x).map fun x => .clr g z x
      | _, _ => none
    | .builtin .append => match c.args.toList, c.argTypes.toList with
      | [x, y], [t, u] => match P.underlying t, P.underlying u with
        | some (.slice e), some (.slice _) => (tagT e).bind fun g => (byT P e).bind fun by_ => (ofOp P tagT (some t) x).bind fun x => (ofOp P tagT (some t) y).bind fun y => if elemT P u = some e then some (.app g by_ x y) else none
        | some (.slice e), some (.int _) => (tagT e).bind fun g => (byT P e).bind fun by_ => (zeroT P tagT e).bind fun z => (ofOp P tagT (some t) x).bind fun x => (ofOp P tagT none y).map fun y => .apz g by_ z x y
        | _, _ => none
      | _, _ => none
    | _ => none
  | _ => none

def compO (ops : Array Oper) (bs : List Nat) (i : Nat) (o : Oper) : SO :=
  match o.guard with
  | none => { d := o.dst, op := (comp1 P tagT o).getD .stuck, g := none, bf := bs.getD i 0 }
  | some (j, w) => match (ops[j]?).bind (·.dst) with
    | some t => { d := o.dst, op := (comp1 P tagT o).getD .stuck, g := some (t, w), bf := bs.getD i 0 }
    | none => { d := o.dst, op := .stuck, g := none, bf := bs.getD i 0 }
def compL (ops : Array Oper) (bs : List Nat) : Nat → List Oper → List SO
  | _, [] => []
  | i, o :: os => compO P tagT ops bs i o :: compL ops bs (i + 1) os
def compC : Code → SC
  | .skip => .skip
  | .region _ ops false => .reg (compL P tagT ops [] 0 ops.toList) false
  | .region _ ops true => match compL P tagT ops (befL [] ops.toList) 0 ops.toList with
    | sos => if edgesOk 0 ops.toList && slotsOk [] 0 sos then .reg sos true else .stuck
  | .seq a b => .seq (compC a) (compC b)
  | .cond c a b => match ofOp P tagT none c with
    | some c => .cond c (compC a) (compC b)
    | none => .stuck
  | .block i (.loop b) => .loop i (compC b)
  | .block i b => .block i (compC b)
  | .exit i => .exit i
  | .ret => .ret
  | _ => .stuck
end

/-! ### the evaluator -/
section
variable {R : Type} (U : RowU R) {ρ : Type}

def ev (fr : Fr) : Opd → Option V
  | .t n => fr[n]?
  | .k c => some (.c c)
def evs (fr : Fr) : List Opd → Option (List V)
  | [] => some []
  | x :: xs => match ev fr x, evs fr xs with
    | some v, some vs => some (v :: vs)
    | _, _ => none

def BK.size : BK R → Nat
  | .box cs => cs.length
  | .row r => U.len r
/-- The row that a slice shows. -/
def rowOf (L : Heap R) : C → Option R
  | .sl b g => match L[b]? with
    | some ⟨.row r, g', m⟩ => if m = 0 then none else if g' = g then some r else none
    | _ => none
  | .sc b g lo n | .sf b g lo n => match L[b]? with
    | some ⟨.row r, g', m⟩ => if m = 0 then none else if g' = g then some (U.cut r lo n) else none
    | _ => none
  | _ => none
/-- How long a slice is. -/
def lenOf (L : Heap R) : C → Option Nat
  | .sl b g => match L[b]? with
    | some ⟨.row r, g', m⟩ => if m = 0 then none else if g' = g then some (U.len r) else none
    | _ => none
  | .sc b g _ n | .sf b g _ n => match L[b]? with
    | some ⟨.row _, g', m⟩ => if m = 0 then none else if g' = g then some n else none
    | _ => none
  | .nils _ => some 0
  | _ => none
/-- Is what a slice shows a row of this kind? -/
def tagIs (tag : Nat) (L : Heap R) : C → Bool
  | .sl b _ | .sc b _ _ _ | .sf b _ _ _ => match L[b]? with
    | some ⟨.row r, _, _⟩ => U.tag r == tag
    | _ => false
  | .nils _ => true
  | _ => false
def mkV (ag : Bool) (cs : List C) : Option V :=
  match ag, cs with
  | true, cs => some (.a cs)
  | false, [x] => some (.c x)
  | _, _ => none

def intBin (op : BinOp) (k : IntKind) (x y : Int) : Option C :=
  match op with
  | .add => some (.int k (k.wrap (x + y)))
  | .sub => some (.int k (k.wrap (x - y)))
  | .mul => some (.int k (k.wrap (x * y)))
  | .and => some (.int k (bits .and k x y))
  | .or => some (.int k (bits .or k x y))
  | .xor => some (.int k (bits .xor k x y))
  | .andNot => some (.int k (bits .andNot k x y))
  | .eql => some (.bool (x == y))
  | .neq => some (.bool (x != y))
  | .lss => some (.bool (decide (x < y)))
  | .leq => some (.bool (decide (x ≤ y)))
  | .gtr => some (.bool (decide (x > y)))
  | .geq => some (.bool (decide (x ≥ y)))
  | _ => none
def evBin (op : BinOp) (x y : V) (K : V → Option ρ) : Option ρ :=
  match x, y with
  | .c (.int k a), .c (.int k' b) => match op with
    | .shl => cond (decide (0 ≤ b)) (K (.c (.int k (k.wrap (a * 2 ^ Nat.min b.toNat k.bits))))) none
    | .shr => cond (decide (0 ≤ b)) (K (.c (.int k (a.fdiv (2 ^ Nat.min b.toNat k.bits))))) none
    | .quo => if k = k' then cond (b != 0) (K (.c (.int k (k.wrap (a.tdiv b))))) none else none
    | .rem => if k = k' then cond (b != 0) (K (.c (.int k (a.tmod b)))) none else none
    | op => if k = k' then match intBin op k a b with
      | some c => K (.c c)
      | none => none else none
  | .c (.str a), .c (.str b) => match op with
    | .add => cond (decide (((a.size + b.size : Nat) : Int) ≤ 9223372036854775807)) (K (.c (.str (a ++ b)))) none
    | .eql => K (.c (.bool (a.toList == b.toList)))
    | .neq => K (.c (.bool (!(a.toList == b.toList))))
    | _ => none
  | _, _ => none

/-- Two structs compared, cell by cell. -/
def eqAt (xs ys : List C) : List (Nat × Bool) → Option Bool
  | [] => some true
  | (o, bl) :: os => match xs[o]?, ys[o]?, bl, eqAt xs ys os with
    | some (.int k a), some (.int k' b), false, some r => if k = k' then some ((a == b) && r) else none
    | some (.bool a), some (.bool b), true, some r => some ((a == b) && r)
    | _, _, _, _ => none

def fillP (fr : Fr) (z : List C) : List (Nat × Nat × Opd) → Option (List C)
  | [] => some z
  | (off, n, x) :: ps => match ev fr x with
    | some v => if v.cells.length = n ∧ off + n ≤ z.length then fillP fr (z.take off ++ v.cells ++ z.drop (off + n)) ps else none
    | none => none
def fillS (fr : Fr) (n : Nat) (es : List (List C)) : List (Nat × Opd) → Option (List (List C))
  | [] => some es
  | (i, x) :: ps => match ev fr x with
    | some v => if v.cells.length = n ∧ i < es.length then fillS fr n (es.set i v.cells) ps else none
    | none => none

def setBlk (L : Heap R) (b : Nat) (k : BK R) (g : Nat) : Heap R := L.set b ⟨k, g, 2⟩
def own (L : Heap R) (b : Nat) : Option (BK R × Nat) :=
  match L[b]? with
  | some ⟨k, g, 2⟩ => some (k, g)
  | _ => none

def bound (fr : Fr) (d : Int) : Option Opd → Option Int
  | none => some d
  | some x => match ev fr x with
    | some (.c (.int _ n)) => some n
    | _ => none

def mn (x y : Int) : Int := if y < x then y else x
def mx (x y : Int) : Int := if y > x then y else x

/-- Is this row still the one that was meant? -/
def liveG (L : Heap R) (b g : Nat) : Bool := match L[b]? with
  | some ⟨.row _, g', m⟩ => g' == g && m != 0
  | _ => false
def blkOf : C → List Nat
  | .sl b _ | .sc b _ _ _ | .sf b _ _ _ => [b]
  | _ => []
abbrev KV (R ρ : Type) := V → Heap R → List Nat → List Nat → Option ρ

/-- How far a slice may be cut: our own row's end bounds a cut of it. -/
def limOf (L : Heap R) (len : Nat) : C → Nat
  | .sc b g lo _ => match own L b with
    | some (.row r, g') => if g' = g then Nat.max len (U.len r - lo) else len
    | _ => len
  | _ => len
/-- A cut of a slice, its bounds held. -/
def cutOf (c : C) (full : Bool) (lo n : Nat) : C :=
  match c, full with
  | .sl b g, false => .sc b g lo n
  | .sl b g, true => .sf b g lo n
  | .sc b g l0 _, false => .sc b g (l0 + lo) n
  | .sc b g l0 _, true => .sf b g (l0 + lo) n
  | .nils t, _ => .nils t
  | _, _ => .j

/-- An operation that calls nobody. -/
def evOp (fr : Fr) (L : Heap R) (op : SOp) (K : KV R ρ) : Option ρ :=
  match op with
  | .mv x => match ev fr x with
    | some v => K v L [] []
    | none => none
  | .pick c a b => match ev fr c, ev fr a, ev fr b with
    | some (.c (.bool t)), some a, some b => cond t (K a L [] []) (K b L [] [])
    | _, _, _ => none
  | .box x => match ev fr x with
    | some (.c c) => K (.c (.ptr L.length 0)) (L ++ [⟨.box [c], 0, 2⟩]) [L.length] [L.length]
    | some (.a cs) => K (.c (.ptr L.length 0)) (L ++ [⟨.box cs, 0, 2⟩]) [L.length] [L.length]
    | _ => none
  | .alloc z => K (.c (.ptr L.length 0)) (L ++ [⟨.box z, 0, 2⟩]) [L.length] [L.length]
  | .build z ps => match fillP fr z ps with
    | some cs => K (.a cs) L [] []
    | none => none
  | .bsl tag n z ps => if 16777216 < n * z.length then none else match (fillS fr z.length (List.replicate n z) ps).bind (U.lit tag) with
    | some r => K (.c (.sl L.length 0)) (L ++ [⟨.row r, 0, 2⟩]) [L.length] [L.length]
    | none => none
  | .ld ag n x => match ev fr x with
    | some (.c (.ptr b off)) => match L[b]? with
      | some ⟨.box cs, _, m⟩ => if m = 0 then none else if off + n ≤ cs.length then match mkV ag ((cs.drop off).take n) with
        | some v => K v L [b] []
        | none => none else none
      | _ => none
    | some (.c (.pr b g i o)) => match L[b]? with
      | some ⟨.row r, g', m⟩ => if m = 0 then none else if g' = g then if o + n ≤ U.esz (U.tag r) then match mkV ag (((U.getD r i).drop o).take n) with
        | some v => K v L [b] []
        | none => none else none else none
      | _ => none
    | _ => none
  | .st n x v => match ev fr x, ev fr v with
    | some (.c (.ptr b off)), some v => match own L b with
      | some (.box cs, g) => if v.cells.length = n ∧ off + n ≤ cs.length then K (.t []) (setBlk L b (.box (cs.take off ++ v.cells ++ cs.drop (off + n))) g) [b] [b] else none
      | _ => none
    | some (.c (.pr b g i o)), some v => match own L b with
      | some (.row r, g') => if g' = g then if v.cells.length = n ∧ o + n ≤ U.esz (U.tag r) then
          match U.set r i (if n = U.esz (U.tag r) then v.cells else (U.getD r i).take o ++ v.cells ++ (U.getD r i).drop (o + n)) with
          | some r' => K (.t []) (setBlk L b (.row r') g) [b] [b]
          | none => none else none else none
      | _ => none
    | _, _ => none
  | .nck x => match ev fr x with
    | some (.c (.ptr b off)) => K (.c (.ptr b off)) L [] []
    | some (.c (.pr b g i o)) => if liveG L b g then K (.c (.pr b g i o)) L [b] [] else none
    | _ => none
  | .bin op x y => match ev fr x, ev fr y with
    | some x, some y => evBin op x y fun v => K v L [] []
    | _, _ => none
  | .eqs ng n lay x y => match ev fr x, ev fr y with
    | some (.a xs), some (.a ys) => if xs.length = n ∧ ys.length = n then match eqAt xs ys lay with
      | some b => K (.c (.bool (if ng then !b else b))) L [] []
      | none => none else none
    | _, _ => none
  | .eqb ng x y => match ev fr x, ev fr y with
    | some (.c (.bool a)), some (.c (.bool b)) => K (.c (.bool (if ng then !(a == b) else a == b))) L [] []
    | _, _ => none
  | .not x => match ev fr x with
    | some (.c (.bool b)) => K (.c (.bool (!b))) L [] []
    | _ => none
  | .neg x => match ev fr x with
    | some (.c (.int k n)) => K (.c (.int k (k.wrap (0 - n)))) L [] []
    | _ => none
  | .inv x => match ev fr x with
    | some (.c (.int k n)) => K (.c (.int k (bits .xor k (if k.signed then -1 else k.max) n))) L [] []
    | _ => none
  | .conv k x => match ev fr x with
    | some (.c (.int _ n)) => K (.c (.int k (k.wrap n))) L [] []
    | _ => none
  | .b2s x => match ev fr x with
    | some (.c (.sl b g)) => match (rowOf U L (.sl b g)).bind U.toStr with
      | some s => K (.c (.str s)) L [b] []
      | none => none
    | some (.c (.sc b g lo n)) => match (rowOf U L (.sc b g lo n)).bind U.toStr with
      | some s => K (.c (.str s)) L [b] []
      | none => none
    | some (.c (.nils _)) => K (.c (.str ⟨#[]⟩)) L [] []
    | _ => none
  | .s2b x => match ev fr x with
    | some (.c (.str s)) => K (.c (.sl L.length 0)) (L ++ [⟨.row (U.ofStr s), 0, 2⟩]) [L.length] [L.length]
    | _ => none
  | .mk tag by_ z n => match ev fr n with
    | some (.c (.int .i64 n)) => cond (decide (0 ≤ n)) (cond (decide (n * by_ ≤ 281474976710656)) (match U.rep tag n.toNat z with
      | some r => K (.c (.sl L.length 0)) (L ++ [⟨.row r, 0, 2⟩]) [L.length] [L.length]
      | none => none) none) none
    | _ => none
  | .slc tag x lo hi mx => match ev fr x with
    | some (.c c) => match lenOf U L c with
      | some len => if tagIs U tag L c = false then none else match bound fr 0 lo, bound fr len hi with
        | some l, some h => match lo, hi, mx with
          | _, _, none => cond (decide (0 ≤ l)) (cond (decide (l ≤ h)) (cond (decide (h ≤ (limOf U L len c : Nat))) (K (.c (cutOf c false l.toNat (h - l).toNat)) L (blkOf c) []) none) none) none
          | _, some hx, some mx => if hx = mx then cond (decide (0 ≤ l)) (cond (decide (l ≤ h)) (cond (decide (h ≤ len)) (K (.c (cutOf c true l.toNat (h - l).toNat)) L (blkOf c) []) none) none) none else match bound fr len (some mx) with
            | some m => cond (decide (0 ≤ l)) (cond (decide (l ≤ h)) (cond (decide (h ≤ m)) (cond (decide (m ≤ len)) (K (.c .j) L (blkOf c) []) none) none) none) none
            | none => none
          | _, _, _ => none
        | _, _ => none
      | none => none
    | _ => none
  | .sls x lo hi => match ev fr x with
    | some (.c (.str s)) => match bound fr 0 lo, bound fr s.size hi with
      | some l, some h => cond (decide (0 ≤ l)) (cond (decide (l ≤ h)) (cond (decide (h ≤ s.size)) (K (.c (.str (s.extract l.toNat h.toNat))) L [] []) none) none) none
      | _, _ => none
    | _ => none
  | .fa f x => match ev fr x with
    | some (.c (.ptr b off)) => K (.c (.ptr b (off + f))) L [] []
    | some (.c (.pr b g i o)) => if liveG L b g then K (.c (.pr b g i (o + f))) L [b] [] else none
    | _ => none
  | .fv ag off n x => match ev fr x with
    | some (.a cs) => if off + n ≤ cs.length then match mkV ag ((cs.drop off).take n) with
      | some v => K v L [] []
      | none => none else none
    | _ => none
  | .idx tag x i => match ev fr x, ev fr i with
    | some (.c c), some (.c (.int _ n)) => match lenOf U L c with
      | some len => if tagIs U tag L c = false then none else cond (decide (0 ≤ n)) (cond (decide (n < len)) (match c with
        | .sl b g => if liveG L b g then K (.c (.pr b g n.toNat 0)) L [b] [] else none
        | .sc b g lo _ => if liveG L b g then K (.c (.pr b g (lo + n.toNat) 0)) L [b] [] else none
        | _ => none) none) none
      | none => none
    | _, _ => none
  | .ixs x i => match ev fr x, ev fr i with
    | some (.c (.str s)), some (.c (.int _ n)) => cond (decide (0 ≤ n)) (cond (decide (n < s.size)) (K (.c (.int .u8 ((s.data.toList.getD n.toNat 0).toNat : Int))) L [] []) none) none
    | _, _ => none
  | .ext i x => match ev fr x with
    | some (.t vs) => match vs[i]? with
      | some (true, cs) => K (.a cs) L [] []
      | some (false, [c]) => K (.c c) L [] []
      | _ => none
    | _ => none
  | .mkfn f caps => match evs fr caps with
    | some vs => match vs.foldr (fun v acc => match v, acc with
        | .c (.ptr b 0), some bs => some (b :: bs)
        | _, _ => none) (some []) with
      | some bs => K (.c (.fn f bs)) L [] []
      | none => none
    | none => none
  | .lens x => match ev fr x with
    | some (.c (.str s)) => K (.c (.int .i64 s.size)) L [] []
    | _ => none
  | .apz tag by_ z x n => match ev fr x, ev fr n with
    | some (.c (.nils _)), some (.c (.int .i64 k)) => cond (decide (0 < k)) (cond (decide (k * by_ ≤ 140737488355328)) (match U.rep tag k.toNat z with
      | some r => K (.c (.sl L.length 0)) (L ++ [⟨.row r, 0, 2⟩]) [L.length] [L.length]
      | none => none) none) none
    | _, _ => none
  | .cid x => match ev fr x with
    | some (.c (.sl b g)) => match own L b with
      | some (.row r, g') => if g' = g then cond (decide (0 < U.len r)) (K (.c (.sl b g)) L [b] [b]) none else none
      | _ => none
    | _ => none
  | .isnil x => match ev fr x with
    | some (.c (.nils _)) => K (.c (.bool true)) L [] []
    | some (.c c) => match lenOf U L c with
      | some n => K (.c (.ub n)) L (blkOf c) []
      | none => none
    | _ => none
  | .bsb n z ps => if 16777216 < n * z.length then none else match fillS fr z.length (List.replicate n z) ps with
    | some es => if z.length = 1 then K (.c (.sb L.length n)) (L ++ [⟨.box es.flatten, 0, 2⟩]) [L.length] [L.length] else none
    | none => none
  | .idxb x i => match ev fr x, ev fr i with
    | some (.c (.sb b n)), some (.c (.int _ (.ofNat k))) => if k < n then K (.c (.ptr b k)) L [] [] else none
    | _, _ => none
  | .clr tag z x => match ev fr x with
    | some (.c (.sc b g lo n)) => match own L b, U.rep tag n z with
      | some (.row r, g'), some s => if g' = g then cond (decide (lo + n ≤ U.len r)) (if U.tag r = tag then match U.ovw r lo s with
        | some r' => K (.t []) (setBlk L b (.row r') g) [b] [b]
        | none => none else none) none else none
      | _, _ => none
    | _ => none
  | .len x => match ev fr x with
    | some (.c (.sb _ n)) => K (.c (.int .i64 n)) L [] []
    | some (.c c) => match lenOf U L c with
      | some n => K (.c (.int .i64 n)) L (blkOf c) []
      | none => none
    | _ => none
  | .cap x => match ev fr x with
    | some (.c (.nils _)) => K (.c (.int .i64 0)) L [] []
    | _ => none
  | .app tag by_ x y => match ev fr x, ev fr y with
    | some (.c x), some (.c y) =>
      match (match y with | .nils _ => U.lit tag [] | y => rowOf U L y), lenOf U L x with
      | some ys, some n =>
        if tagIs U tag L x = false ∨ (U.tag ys == tag) = false then none else
        let src := blkOf y
        cond (decide ((n + U.len ys) * by_ ≤ 140737488355328)) (match x with
        | .nils _ => K (.c (.sl L.length 0)) (L ++ [⟨.row ys, 0, 2⟩]) (L.length :: src) [L.length]
        | .sf b _ _ 0 => K (.c (.sl L.length 0)) (L ++ [⟨.row ys, 0, 2⟩]) (L.length :: b :: src) [L.length]
        | .sl b g => match own L b with
          | some (.row r, g') => if g' = g then match U.app r ys with
            | some r' => K (.c (.sl b (g + 1))) (setBlk L b (.row r') (g + 1)) (b :: src) [b]
            | none => none else none
          | _ => none
        | .sc b g 0 n => match own L b with
          | some (.row r, g') => if g' = g then cond (decide (n + U.len ys ≤ U.len r)) (match U.ovw r n ys with
              | some r' => K (.c (.sc b g 0 (n + U.len ys))) (setBlk L b (.row r') g) (b :: src) [b]
              | none => none) (match U.app (U.cut r 0 n) ys with
              | some r' => K (.c (.sl b (g + 1))) (setBlk L b (.row r') (g + 1)) (b :: src) [b]
              | none => none) else none
          | _ => none
        | _ => none) none
      | _, _ => none
    | _, _ => none
  | .min x y => match ev fr x, ev fr y with
    | some (.c (.int k a)), some (.c (.int _ b)) => K (.c (.int k (mn a b))) L [] []
    | _, _ => none
  | .max x y => match ev fr x, ev fr y with
    | some (.c (.int k a)), some (.c (.int _ b)) => K (.c (.int k (mx a b))) L [] []
    | _, _ => none
  | .call .. | .callv .. | .stuck => none
end
end Go.Eng
/- The engine, part 2: calls on windows, regions, code, loops, bodies. -/
namespace Go.Eng
section
variable {R : Type} (U : RowU R) {ρ : Type}

/-! ### windows: what a callee sees of its caller's blocks -/
inductive Src where
  | row (b g : Nat)
  | cut (b g lo n : Nat)
  | box (b off n : Nat)
  | nil (tag : Nat)
deriving DecidableEq

def Src.blk : Src → Option Nat
  | .row b _ | .cut b _ _ _ | .box b _ _ => some b
  | .nil _ => none

/-- Windows so far: where each is from, and what it shows. -/
abbrev Wins (R : Type) := List (Src × Blk R)

def winM (io : Bool) : Nat := if io then 2 else 1

mutual
def exC (win : List (Bool × Nat)) (L : Heap R) : Nat → Wins R → C → Option (C × Wins R)
  | 0, _, _ => none
  | d + 1, ws, c =>
    let k := ws.length
    let (io, sz) := win.getD k (false, 0)
    match c with
    | .int k n => some (.int k n, ws)
    | .bool b => some (.bool b, ws)
    | .str s => some (.str s, ws)
    | .nilp => some (.nilp, ws)
    | .j => some (.j, ws)
    | .nils tag => if sz = 999999 then some (.nils tag, ws) else (U.lit tag []).map fun r => (.sl k 0, ws ++ [(.nil tag, ⟨.row r, 0, winM io⟩)])
    | .sl b g => match L[b]? with
      | some ⟨.row r, g', m⟩ => if m = 0 ∨ (io ∧ m ≠ 2) then none else if g' = g then some (.sl k 0, ws ++ [(.row b g, ⟨.row r, 0, winM io⟩)]) else none
      | _ => none
    | .sc b g lo n => match L[b]? with
      | some ⟨.row r, g', m⟩ => if m = 0 ∨ io then none else if g' = g then some (.sl k 0, ws ++ [(.cut b g lo n, ⟨.row (U.cut r lo n), 0, 1⟩)]) else none
      | _ => none
    | .ptr b off => match L[b]? with
      | some ⟨.box cs, _, m⟩ => if m = 0 ∨ (io ∧ m ≠ 2) then none else
        let n := if sz = 0 then cs.length - off else sz
        if off + n ≤ cs.length ∧ (io = true → off = 0 ∧ n = cs.length) then
          match exL win L d (ws ++ [(.box b off n, ⟨.box [], 0, winM io⟩)]) ((cs.drop off).take n) with
          | some (cs', ws') => some (.ptr k 0, ws'.set k (.box b off n, ⟨.box cs', 0, winM io⟩))
          | none => none
        else none
      | _ => none
    | .sb b n => match exC win L d ws (.ptr b 0) with
      | some (.ptr k' 0, ws') => some (.sb k' n, ws')
      | _ => none
    | .fn f caps => match exL win L d ws (caps.map fun b => .ptr b 0) with
      | some (cs', ws') => match cs'.foldr (fun c acc => match c, acc with
          | .ptr b 0, some bs => some (b :: bs)
          | _, _ => none) (some []) with
        | some bs => some (.fn f bs, ws')
        | none => none
      | none => none
    | _ => none
def exL (win : List (Bool × Nat)) (L : Heap R) : Nat → Wins R → List C → Option (List C × Wins R)
  | 0, _, _ => none
  | _ + 1, ws, [] => some ([], ws)
  | d + 1, ws, c :: cs => match exC win L d ws c with
    | some (c', ws') => match exL win L d ws' cs with
      | some (cs', ws'') => some (c' :: cs', ws'')
      | none => none
    | none => none
end
def exVs (win : List (Bool × Nat)) (L : Heap R) : Wins R → List V → Option (List V × Wins R)
  | ws, [] => some ([], ws)
  | ws, v :: vs => match v with
    | .c c => match exC U win L 400 ws c with
      | some (c', ws') => (exVs win L ws' vs).map fun (vs', ws'') => (.c c' :: vs', ws'')
      | none => none
    | .a cs => match exL U win L 400 ws cs with
      | some (cs', ws') => (exVs win L ws' vs).map fun (vs', ws'') => (.a cs' :: vs', ws'')
      | none => none
    | _ => none

/-- A window that is written is the only one of its block. -/
def lone1 (ws : Wins R) : Bool :=
  ws.zipIdx.all fun (w, i) => w.2.m != 2 || (match w.1.blk with
    | some b => ws.zipIdx.all fun (w', i') => i == i' || w'.1.blk != some b
    | none => true)

/-- The written window of a block. -/
def findW (b : Nat) : Nat → Wins R → Option Nat
  | _, [] => none
  | k, x :: xs => if x.2.m = 2 ∧ x.1.blk = some b then some k else findW b (k + 1) xs
/-- The written windows of nil slices. -/
def nilsW : Nat → Wins R → List Nat
  | _, [] => []
  | k, x :: xs => if x.2.m = 2 ∧ x.1.blk = none then k :: nilsW (k + 1) xs else nilsW (k + 1) xs
def findN (b : Nat) : Nat → List Nat → Option Nat
  | _, [] => none
  | i, x :: xs => if x = b then some i else findN b (i + 1) xs
def backOk (H : Heap R) : Nat → Wins R → Bool
  | _, [] => true
  | k, x :: xs => (if x.2.m = 2 then match x.1, H[k]? with
      | .row .., some ⟨.row _, _, 2⟩ => true
      | .box .., some ⟨.box _, _, 2⟩ => true
      | .nil _, some ⟨.row _, _, 2⟩ => true
      | _, _ => false else true) && backOk H (k + 1) xs
def mapIx {α β : Type} (f : Nat → α → β) : Nat → List α → List β
  | _, [] => []
  | k, x :: xs => f k x :: mapIx f (k + 1) xs
def roB (L : Heap R) (b : Nat) : Bool := match L[b]? with
  | some ⟨_, _, 1⟩ => true
  | _ => false

/-- A row of the callee, in the caller's words: its block and generation; of what cut. -/
def rowT (ws : Wins R) (L H : Heap R) (k g : Nat) : Option (Nat × Nat × Option (Nat × Nat)) :=
  if liveG H k g then match ws[k]? with
    | none => some (L.length + (k - ws.length), g, none)
    | some (s, x) => if x.m = 2 then match s with
        | .row b g0 => some (b, g0 + g, none)
        | .nil _ => (findN k 0 (nilsW 0 ws)).map fun i => (L.length + (H.length - ws.length) + i, g, none)
        | _ => none
      else match s with
        | .row b g0 => if roB L b then some (b, g0, none) else none
        | .cut b g0 lo n => if roB L b then some (b, g0, some (lo, n)) else none
        | _ => none
  else none
/-- What the callee calls a cell, in the caller's words. -/
def renC (ws : Wins R) (L H : Heap R) (c : C) : C :=
  match c with
  | .sl k g => match rowT ws L H k g with
    | some (b, g', none) => .sl b g'
    | some (b, g', some (lo, n)) => .sc b g' lo n
    | none => .j
  | .sc k g lo n => match rowT ws L H k g with
    | some (b, g', none) => .sc b g' lo n
    | some (b, g', some (l0, _)) => .sc b g' (l0 + lo) n
    | none => .j
  | .sf k g lo n => match rowT ws L H k g with
    | some (b, g', none) => .sf b g' lo n
    | _ => .j
  | .pr k g i o => match rowT ws L H k g with
    | some (b, g', none) => .pr b g' i o
    | _ => .j
  | .ptr k off => match ws[k]? with
    | some (.box b o _, _) => .ptr b (o + off)
    | some _ => .j
    | none => .ptr (L.length + (k - ws.length)) off
  | .fn _ _ => .j
  | .sb _ _ => .j
  | c => c
def renV (ws : Wins R) (L H : Heap R) : V → V
  | .c c => .c (renC ws L H c)
  | .a cs => .a (cs.map (renC ws L H))
  | .t vs => .t (vs.map fun p => (p.1, p.2.map (renC ws L H)))
  | .j => .j
def renK (ws : Wins R) (L H : Heap R) : BK R → BK R
  | .row r => .row r
  | .box cs => .box (cs.map (renC ws L H))

/-- The caller's blocks behind the call. -/
def backB (ws : Wins R) (L H : Heap R) (b : Nat) (x : Blk R) : Blk R :=
  match findW b 0 ws with
  | none => x
  | some k => match H[k]? with
    | some ⟨.row r, g, _⟩ => ⟨.row r, x.g + g, 2⟩
    | some ⟨.box cs, _, _⟩ => ⟨.box (cs.map (renC ws L H)), x.g, 2⟩
    | none => x
def backL (ws : Wins R) (L H : Heap R) : Heap R :=
  mapIx (backB ws L H) 0 L ++ ((H.drop ws.length).map fun x => ⟨renK ws L H x.k, x.g, x.m⟩) ++ (nilsW 0 ws).map fun k => (H[k]?).getD ⟨.box [], 0, 0⟩

/-- What is known of a callee: for each window whether it is written and how many cells (of a pointer); what it comes to. -/
structure Callee (R : Type) where
  win : List (Bool × Nat)
  t : (ρ : Type) → List V → Heap R → (V → Heap R → Option ρ) → Option ρ

def touched (ws : Wins R) : List Nat := ws.filterMap fun w => w.1.blk
def written (ws : Wins R) : List Nat := ws.filterMap fun w => if w.2.m = 2 then w.1.blk else none

def newIx (L L' : Heap R) : List Nat := List.range' L.length (L'.length - L.length)
def evCall (T : List (Nat × Callee R)) (L : Heap R) (f : Nat) (vs : List V) (K : KV R ρ) : Option ρ :=
  match T.find? (·.1 == f) with
  | some (_, ce) => match exVs U ce.win L [] vs with
    | some (vs', ws) => if lone1 ws then
        ce.t ρ vs' (ws.map (·.2)) fun r H =>
          if ws.length ≤ H.length ∧ ((H.drop ws.length).all fun b => b.m == 2) ∧ backOk H 0 ws then
            K (renV ws L H r) (backL ws L H) (touched ws ++ newIx L (backL ws L H)) (written ws ++ newIx L (backL ws L H))
          else none
      else none
    | none => none
  | none => none

def evOpC (T : List (Nat × Callee R)) (fr : Fr) (L : Heap R) (op : SOp) (K : KV R ρ) : Option ρ :=
  match op with
  | .call f xs => match evs fr xs with
    | some vs => evCall U T L f vs K
    | none => none
  | .callv x xs => match ev fr x, evs fr xs with
    | some (.c (.fn f caps)), some vs => evCall U T L f (vs ++ caps.map fun b => .c (.ptr b 0)) K
    | _, _ => none
  | op => evOp U fr L op K

def setO (fr : Fr) (d : Option Nat) (v : V) : Fr := match d with
  | some d => fr.set d v
  | none => fr

abbrev Log := List (Nat × List Nat × List Nat)
def meets (a b : List Nat) : Bool := a.any b.contains
def clash (lg : Log) (bf : Nat) (A W : List Nat) : Bool := lg.any fun (j, A', W') => (meets W' A || meets A' W) && !bf.testBit j

def evOps (T : List (Nat × Callee R)) (draw : Bool) : Nat → List SO → Fr → Heap R → Log → (Fr → Heap R → Option ρ) → Option ρ
  | _, [], fr, L, _, K => K fr L
  | i, o :: os, fr, L, lg, K =>
    match o.g with
    | none => evOpC U T fr L o.op fun v L' A W =>
        if draw then (if clash lg o.bf A W then none else evOps T draw (i + 1) os (setO fr o.d v) L' ((i, A, W) :: lg) K)
        else evOps T draw (i + 1) os (setO fr o.d v) L' [] K
    | some (t, want) => match fr[t]? with
      | some (.c (.bool b)) =>
        cond (b == want)
          (evOpC U T (fr.set t (.c (.bool want))) L o.op fun v L' A W =>
            if draw then (if clash lg o.bf A W then none else evOps T draw (i + 1) os (setO (fr.set t (.c (.bool want))) o.d v) L' ((i, A, W) :: lg) K)
            else evOps T draw (i + 1) os (setO (fr.set t (.c (.bool want))) o.d v) L' [] K)
          (evOps T draw (i + 1) os (setO (fr.set t (.c (.bool !want))) o.d (.t [])) L lg K)
      | some (.t []) => evOps T draw (i + 1) os (setO fr o.d (.t [])) L lg K
      | _ => none

/-! ### putting a heap into order: what is reached, each block once -/
def liveB (L : Heap R) (b : Nat) : Bool := match L[b]? with
  | some ⟨.box _, _, m⟩ => m != 0
  | _ => false
def seenB (m0 : Nat) (fs : List Nat) (b : Nat) : List Nat := if b < m0 then fs else if fs.contains b then fs else fs ++ [b]
def scanC (m0 : Nat) (L : Heap R) (fs : List Nat) : C → List Nat
  | .sl b g | .sc b g _ _ | .sf b g _ _ | .pr b g _ _ => if liveG L b g then seenB m0 fs b else fs
  | .ptr b _ | .sb b _ => if liveB L b then seenB m0 fs b else fs
  | .fn _ caps => caps.foldl (seenB m0) fs
  | _ => fs
def cellsAt (L : Heap R) (b : Nat) : List C := match L[b]? with
  | some ⟨.box cs, _, _⟩ => cs
  | _ => []
def scanN (m0 : Nat) (L : Heap R) : Nat → Nat → List Nat → List Nat
  | 0, _, fs => fs
  | d + 1, p, fs => match fs[p]? with
    | some b => scanN m0 L d (p + 1) ((cellsAt L b).foldl (scanC m0 L) fs)
    | none => fs
def ordB (m0 : Nat) (fs : List Nat) (b : Nat) : Option Nat := if b < m0 then some b else findN b m0 fs
def ordC (m0 : Nat) (fs : List Nat) (L : Heap R) : C → C
  | .sl b g => match liveG L b g, ordB m0 fs b with
    | true, some b' => .sl b' (if b < m0 then g else 0)
    | _, _ => .j
  | .sc b g lo n => match liveG L b g, ordB m0 fs b with
    | true, some b' => .sc b' (if b < m0 then g else 0) lo n
    | _, _ => .j
  | .sf b g lo n => match liveG L b g, ordB m0 fs b with
    | true, some b' => .sf b' (if b < m0 then g else 0) lo n
    | _, _ => .j
  | .pr b g i o => match liveG L b g, ordB m0 fs b with
    | true, some b' => .pr b' (if b < m0 then g else 0) i o
    | _, _ => .j
  | .ptr b off => match liveB L b, ordB m0 fs b with
    | true, some b' => .ptr b' off
    | _, _ => .j
  | .sb b n => match liveB L b, ordB m0 fs b with
    | true, some b' => .sb b' n
    | _, _ => .j
  | .fn f caps => match caps.foldr (fun b acc => match ordB m0 fs b, acc with
      | some b', some bs => some (b' :: bs)
      | _, _ => none) (some []) with
    | some bs => .fn f bs
    | none => .j
  | c => c
def ordV (m0 : Nat) (fs : List Nat) (L : Heap R) : V → V
  | .c c => .c (ordC m0 fs L c)
  | .a cs => .a (cs.map (ordC m0 fs L))
  | .t vs => .t (vs.map fun p => (p.1, p.2.map (ordC m0 fs L)))
  | .j => .j
def ordK (m0 : Nat) (fs : List Nat) (L : Heap R) : BK R → BK R
  | .box cs => .box (cs.map (ordC m0 fs L))
  | .row r => .row r
def cellsV : V → List C
  | .c c => [c]
  | .a cs => cs
  | .t vs => vs.flatMap (·.2)
  | .j => []
def below (m0 : Nat) : C → Bool
  | .sl b _ | .sc b _ _ _ | .sf b _ _ _ | .pr b _ _ _ | .ptr b _ | .sb b _ => decide (b < m0)
  | .fn _ caps => caps.all fun b => decide (b < m0)
  | _ => true
def belowK (m0 : Nat) : BK R → Bool
  | .box cs => cs.all (below m0)
  | .row _ => true
def nodupN : List Nat → Bool
  | [] => true
  | x :: xs => !xs.contains x && nodupN xs
/-- The first m0 blocks stay; of the others those that are reached from them and from these values, in order. -/
def canon (m0 : Nat) (vs : List V) (L : Heap R) : Option (List V × Heap R) :=
  let fs := (vs.flatMap cellsV).foldl (scanC m0 L) (((L.take m0).flatMap fun b => match b.k with | .box cs => cs | .row _ => []).foldl (scanC m0 L) [])
  let fs := scanN m0 L 64 0 fs
  if m0 ≤ L.length ∧ nodupN fs = true ∧ fs.all (fun b => decide (m0 ≤ b) && decide (b < L.length)) = true ∧ (L.take m0).all (fun b => b.m == 2 || belowK m0 b.k) = true then
    some (vs.map (ordV m0 fs L), (L.take m0).map (fun b => if b.m = 2 then ⟨ordK m0 fs L b.k, b.g, b.m⟩ else b) ++ fs.map fun b => match L[b]? with
      | some x => ⟨ordK m0 fs L x.k, 0, x.m⟩
      | none => ⟨.box [], 0, 0⟩)
  else none

/-! ### code -/
inductive Ex where
  | normal
  | exit (i : Nat)
  | ret

/-- A loop as it is told: the slots that count at its head, and behind it; what it comes to. -/
structure LoopH (R : Type) where
  inn : List Nat
  out : List Nat
  h : (ρ : Type) → List V → Heap R → (List V → Heap R → Option ρ) → (List V → Heap R → Option ρ) → Option ρ

def pickS (fr : Fr) : List Nat → Option (List V)
  | [] => some []
  | t :: ts => match fr[t]?, pickS fr ts with
    | some v, some vs => some (v :: vs)
    | _, _ => none
def lookS (t : Nat) : List Nat → List V → V
  | s :: ss, v :: vs => if s = t then v else lookS t ss vs
  | _, _ => .j
def frOf (n : Nat) (ts : List Nat) (vs : List V) : Fr := (List.range n).map fun t => lookS t ts vs
/-- Nil slices become empty rows of their own; a cut of our own row that nobody else shows becomes the row. -/
def normC (rf : List Nat) (L : Heap R) (c : C) : C × Heap R :=
  match c with
  | .nils tag => match U.lit tag [] with
    | some r => (.sl L.length 0, L ++ [⟨.row r, 0, 2⟩])
    | none => (.nils tag, L)
  | .sc b g lo n => match own L b with
    | some (.row r, g') => if g' = g ∧ (rf.filter (· == b)).length = 1 then (.sl b (g + 1), L.set b ⟨.row (U.cut r lo n), g + 1, 2⟩) else (.sc b g lo n, L)
    | _ => (.sc b g lo n, L)
  | c => (c, L)
def normCs (rf : List Nat) : Heap R → List C → List C × Heap R
  | L, [] => ([], L)
  | L, c :: cs => match normC U rf L c with
    | (c', L1) => match normCs rf L1 cs with
      | (cs', L2) => (c' :: cs', L2)
def normVs (rf : List Nat) : Heap R → List V → List V × Heap R
  | L, [] => ([], L)
  | L, v :: vs => match v with
    | .c c => match normC U rf L c with
      | (c', L1) => match normVs rf L1 vs with
        | (vs', L2) => (.c c' :: vs', L2)
    | .a cs => match normCs U rf L cs with
      | (cs', L1) => match normVs rf L1 vs with
        | (vs', L2) => (.a cs' :: vs', L2)
    | v => match normVs rf L vs with
      | (vs', L2) => (v :: vs', L2)
def normV (L : Heap R) (vs : List V) : List V × Heap R := normVs U ((vs.flatMap cellsV).flatMap blkOf) L vs
def canonS (m0 : Nat) (ts : List Nat) (fr : Fr) (L : Heap R) (K : List V → Heap R → Option ρ) : Option ρ :=
  match pickS fr ts with
  | some vs => match normV U L vs with
    | (vs, L) => match canon m0 vs L with
      | some (vs', L') => K vs' L'
      | none => none
  | none => none

/-- What a body is evaluated in: the callees, the loops, how many slots and windows, the results' slots. -/
structure Env (R : Type) where
  T : List (Nat × Callee R)
  H : List (Nat × LoopH R)
  n : Nat
  m0 : Nat
  rs : List Nat
  rk : List (Option (Bool × Nat))
  nl : Bool := false

open Classical in
noncomputable def both (x y : Option ρ) : Option ρ := if x = y then x else none
/-- A test that may say yes only where n is 0. -/
noncomputable def nilB (n : Nat) (x y : Option ρ) : Option ρ := match n with
  | 0 => both x y
  | _ + 1 => y
noncomputable def evC (E : Env R) : SC → Fr → Heap R → (Ex → Fr → Heap R → Option ρ) → Option ρ
  | .skip, fr, L, K => K .normal fr L
  | .ret, fr, L, K => K .ret fr L
  | .exit i, fr, L, K => K (.exit i) fr L
  | .stuck, _, _, _ => none
  | .reg ops draw, fr, L, K => evOps U E.T draw 0 ops fr L [] fun fr L => K .normal fr L
  | .seq a b, fr, L, K => evC E a fr L fun e fr L => match e with
    | .normal => evC E b fr L K
    | e => K e fr L
  | .cond c a b, fr, L, K => match c with
    | .t t => match fr[t]? with
      | some (.c (.bool v)) => cond v (evC E a (fr.set t (.c (.bool true))) L K) (evC E b (fr.set t (.c (.bool false))) L K)
      | some (.c (.ub n)) => if E.nl then nilB n (evC E a (fr.set t (.c (.bool true))) L K) (evC E b (fr.set t (.c (.bool false))) L K) else none
      | _ => none
    | .k (.bool true) => evC E a fr L K
    | .k (.bool false) => evC E b fr L K
    | _ => none
  | .block i b, fr, L, K => evC E b fr L fun e fr L => match e with
    | .exit j => if j = i then K .normal fr L else K (.exit j) fr L
    | e => K e fr L
  | .loop i _, fr, L, K => match E.H.find? (·.1 == i) with
    | some (_, h) => canonS U E.m0 h.inn fr L fun vs L =>
        h.h ρ vs L (fun os L => K .normal (frOf E.n h.out os) L) (fun rs L => K .ret (frOf E.n E.rs rs) L)
    | none => none

/-- One round of a loop: what it goes on with, where it goes, or what is returned. -/
noncomputable def evRound (E : Env R) (i : Nat) (h : LoopH R) (b : SC) (again : List V → Heap R → Option ρ) (vs : List V) (L : Heap R) (Kx Kr : List V → Heap R → Option ρ) : Option ρ :=
  evC U E b (frOf E.n h.inn vs) L fun e fr L => match e with
    | .normal => canonS U E.m0 h.inn fr L again
    | .exit j => if j = i then canonS U E.m0 h.out fr L Kx else none
    | .ret => canonS U E.m0 E.rs fr L Kr

def partV : V → Option (Bool × List C)
  | .c x => some (false, [x])
  | .a cs => some (true, cs)
  | _ => none
def partsV : List V → Option (List (Bool × List C))
  | [] => some []
  | v :: vs => match partV v, partsV vs with
    | some p, some ps => some (p :: ps)
    | _, _ => none
def retV : List V → V
  | [v] => v
  | vs => match partsV vs with
    | some ps => .t ps
    | none => .j
def sameM : Heap R → Heap R → Bool
  | [], H => H.all fun b => b.m == 2
  | x :: W, y :: H => x.m == y.m && sameM W H
  | _ :: _, [] => false

/-- Results: slots, or variables that are read at the end. -/
def loadR (fr : Fr) (L : Heap R) : List Nat → List (Option (Bool × Nat)) → Option (List V)
  | [], [] => some []
  | t :: ts, k :: ks => match fr[t]?, loadR fr L ts ks with
    | some v, some vs => match k, v with
      | none, v => some (v :: vs)
      | some (ag, n), .c (.ptr b off) => match L[b]? with
        | some ⟨.box cs, _, m⟩ => if m = 0 then none else if off + n ≤ cs.length then match mkV ag ((cs.drop off).take n) with
          | some u => some (u :: vs)
          | none => none else none
        | _ => none
      | _, _ => none
    | _, _ => none
  | _, _ => none
def canonL (m0 : Nat) (vs : List V) (L : Heap R) (K : List V → Heap R → Option ρ) : Option ρ :=
  match normV U L vs with
  | (vs, L) => match canon m0 vs L with
    | some (vs', L') => K vs' L'
    | none => none
noncomputable def evBody (E : Env R) (s : SC) (args : List V) (W : Heap R) (K : V → Heap R → Option ρ) : Option ρ :=
  if args.length ≤ E.n ∧ W.length = E.m0 then
    evC U E s (args ++ List.replicate (E.n - args.length) (.t [])) W fun e fr L => match e with
      | .exit _ => none
      | _ => match loadR fr L E.rs E.rk with
        | some vs => canonL U E.m0 vs L fun rs L => if sameM W L then K (retV rs) L else none
        | none => none
  else none
end
end Go.Eng
/- The engine, part 3: how abstract cells, values and blocks stand for what a world holds. -/
namespace Go.Eng

/-! ### two lists, place by place -/
def All2 {α β : Type} (r : α → β → Prop) (xs : List α) (ys : List β) : Prop :=
  xs.length = ys.length ∧ ∀ (i : Nat) x y, xs[i]? = some x → ys[i]? = some y → r x y
section
variable {α β : Type} {r r' : α → β → Prop} {xs xs' : List α} {ys ys' : List β}
theorem All2.nil : All2 r [] [] := ⟨rfl, fun i x y h => by simp at h⟩
theorem All2.cons {x : α} {y : β} (hs : All2 r xs ys) (h : r x y) : All2 r (x :: xs) (y :: ys) :=
  ⟨by simp [hs.1], fun i a b ha hb => by
    cases i with
    | zero => simp at ha hb; subst ha hb; exact h
    | succ i => exact hs.2 i a b (by simpa using ha) (by simpa using hb)⟩
theorem All2.mono (h : All2 r xs ys) (f : ∀ x y, r x y → r' x y) : All2 r' xs ys := ⟨h.1, fun i x y a b => f _ _ (h.2 i x y a b)⟩
theorem All2.get (h : All2 r xs ys) {i : Nat} {x : α} (hx : xs[i]? = some x) : ∃ y, ys[i]? = some y ∧ r x y := by
  have hi : i < xs.length := (List.getElem?_eq_some_iff.1 hx).1
  have hj : i < ys.length := h.1 ▸ hi
  exact ⟨ys[i], by simp [hj], h.2 i x _ hx (by simp [hj])⟩
theorem All2.get' (h : All2 r xs ys) {i : Nat} {y : β} (hy : ys[i]? = some y) : ∃ x, xs[i]? = some x ∧ r x y := by
  have hi : i < ys.length := (List.getElem?_eq_some_iff.1 hy).1
  have hj : i < xs.length := h.1 ▸ hi
  exact ⟨xs[i], by simp [hj], h.2 i _ y (by simp [hj]) hy⟩
theorem All2.append (h : All2 r xs ys) (h' : All2 r xs' ys') : All2 r (xs ++ xs') (ys ++ ys') :=
  ⟨by simp [h.1, h'.1], fun i x y a b => by
    by_cases hi : i < xs.length
    · rw [List.getElem?_append_left hi] at a
      rw [List.getElem?_append_left (h.1 ▸ hi)] at b
      exact h.2 i x y a b
    · rw [List.getElem?_append_right (by omega)] at a
      rw [List.getElem?_append_right (by have := h.1; omega)] at b
      exact h'.2 _ x y a (h.1 ▸ b)⟩
theorem All2.take (h : All2 r xs ys) (n : Nat) : All2 r (xs.take n) (ys.take n) :=
  ⟨by simp [h.1], fun i x y a b => by
    rw [List.getElem?_take] at a b
    split at a
    · rename_i hi; rw [if_pos hi] at b; exact h.2 i x y a b
    · simp at a⟩
theorem All2.drop (h : All2 r xs ys) (n : Nat) : All2 r (xs.drop n) (ys.drop n) :=
  ⟨by simp [h.1], fun i x y a b => by
    rw [List.getElem?_drop] at a b
    exact h.2 _ x y a b⟩
theorem All2.set (h : All2 r xs ys) (n : Nat) {x : α} {y : β} (hr : r x y) : All2 r (xs.set n x) (ys.set n y) :=
  ⟨by simp [h.1], fun i a b ha hb => by
    rw [List.getElem?_set] at ha hb
    split at ha
    · rename_i e
      subst e
      rw [if_pos rfl] at hb
      split at ha
      · rename_i hl
        rw [if_pos (h.1 ▸ hl)] at hb
        simp at ha hb
        subst ha hb
        exact hr
      · simp at ha
    · rename_i e
      rw [if_neg e] at hb
      exact h.2 i a b ha hb⟩
theorem All2.replicate {x : α} {y : β} (n : Nat) (hr : r x y) : All2 r (List.replicate n x) (List.replicate n y) :=
  ⟨by simp, fun i a b ha hb => by
    rw [List.getElem?_replicate] at ha hb
    split at ha
    · rename_i hi; rw [if_pos hi] at hb; simp at ha hb; subst ha hb; exact hr
    · simp at ha⟩
theorem All2.inv_nil {ys : List β} (h : All2 r [] ys) : ys = [] := List.eq_nil_of_length_eq_zero h.1.symm
theorem All2.inv_cons {x : α} (h : All2 r (x :: xs) ys) : ∃ y ys', ys = y :: ys' ∧ r x y ∧ All2 r xs ys' := by
  cases ys with
  | nil => exact absurd h.1 (by simp)
  | cons y ys =>
    exact ⟨y, ys, rfl, h.2 0 x y rfl rfl, by simpa using h.1, fun i a b ha hb => h.2 (i + 1) a b (by simpa using ha) (by simpa using hb)⟩
theorem All2.exists_ {f : Nat → Option β} : ∀ {xs : List α}, (∀ (i : Nat) x, xs[i]? = some x → ∃ y, f i = some y ∧ r x y) → ∃ ys, All2 r xs ys ∧ ∀ (j : Nat) y, ys[j]? = some y → f j = some y := by
  intro xs
  induction xs generalizing f with
  | nil => exact fun _ => ⟨[], .nil, fun j y h => by simp at h⟩
  | cons x xs ih =>
    intro h
    obtain ⟨y, hy, hr⟩ := h 0 x rfl
    obtain ⟨ys, ha, hf⟩ := ih (f := fun i => f (i + 1)) fun i x hi => h (i + 1) x (by simpa using hi)
    refine ⟨y :: ys, ha.cons hr, fun j z hz => ?_⟩
    cases j with
    | zero => simp at hz; subst hz; exact hy
    | succ j => exact hf j z (by simpa using hz)
theorem All2.map {γ : Type} {f : γ → α} {zs : List γ} (h : All2 (fun z y => r (f z) y) zs ys) : All2 r (zs.map f) ys :=
  ⟨by simp [h.1], fun i x y a b => by
    rw [List.getElem?_map] at a
    obtain ⟨z, hz, rfl⟩ := Option.map_eq_some_iff.1 a
    exact h.2 i z y hz b⟩
theorem All2.of_map {γ : Type} {f : γ → α} {zs : List γ} (h : All2 r (zs.map f) ys) : All2 (fun z y => r (f z) y) zs ys :=
  ⟨by simpa using h.1, fun i z y a b => h.2 i (f z) y (by rw [List.getElem?_map, a]; rfl) b⟩
end

section
variable {R : Type} (U : RowU R)

abbrev Hp (R : Type) := Nat → Option (Blk R)
/-- Where blocks lie; none: an empty row that lies nowhere yet. -/
abbrev Phi := Nat → Option Addr

def flat : BK R → List C
  | .box cs => cs
  | .row r => (U.cells r).flatten

/-- A slice of a row from element lo on, n of them. -/
def SlOk (φ : Phi) (w : World) (b : Nat) (m : Nat) (r : R) (lo n : Nat) (v : Value) : Prop :=
  lo + n ≤ U.len r ∧ ∃ A cap, v = .slice A n cap ∧ n ≤ cap ∧ (m = 2 → U.len r ≤ lo + cap) ∧
    ((cap = 0 ∨ (n = 0 ∧ m ≠ 2)) ∨ ∃ a, φ b = some a ∧ A = some (a.add (lo * U.esz (U.tag r))) ∧
      (m = 2 → ∃ cs t fr, w.heap[a.block]? = some (.cells cs t fr) ∧ a.off + (lo + cap) * U.esz (U.tag r) ≤ cs.size))
/-- One whose room ends where it ends. -/
def SfOk (φ : Phi) (b : Nat) (r : R) (lo n : Nat) (v : Value) : Prop :=
  lo + n ≤ U.len r ∧ ∃ A, v = .slice A n n ∧ (n = 0 ∨ ∃ a, φ b = some a ∧ A = some (a.add (lo * U.esz (U.tag r))))

def oneCell (v : Value) : Prop := v.oneCell' = true

def PtrOk (φ : Phi) (h : Hp R) (b off : Nat) (v : Value) : Prop :=
  ∃ cs g m, h b = some ⟨.box cs, g, m⟩ ∧ m ≠ 0 ∧ ∃ a, φ b = some a ∧ v = .pointer (some (a.add off))

def RelC (φ : Phi) (h : Hp R) (w : World) : C → Value → Prop
  | .int k n, v => v = .int k n
  | .bool b, v => v = .bool b
  | .str s, v => v = .string s
  | .nilp, v => v = .pointer none
  | .nils _, v => v = .slice none 0 0
  | .ptr b off, v => PtrOk φ h b off v
  | .pr b g i o, v => oneCell v ∧ ∃ blk, h b = some blk ∧ g ≤ blk.g ∧ (blk.m ≠ 0 → blk.g = g → ∀ r, blk.k = .row r → i < U.len r ∧ ∃ a, φ b = some a ∧ v = .pointer (some (a.add (i * U.esz (U.tag r) + o))))
  | .sl b g, v => oneCell v ∧ ∃ blk, h b = some blk ∧ g ≤ blk.g ∧ (blk.m ≠ 0 → blk.g = g → ∀ r, blk.k = .row r → SlOk U φ w b blk.m r 0 (U.len r) v)
  | .sc b g lo n, v => oneCell v ∧ ∃ blk, h b = some blk ∧ g ≤ blk.g ∧ (blk.m ≠ 0 → blk.g = g → ∀ r, blk.k = .row r → SlOk U φ w b blk.m r lo n v)
  | .sf b g lo n, v => oneCell v ∧ ∃ blk, h b = some blk ∧ g ≤ blk.g ∧ (blk.m ≠ 0 → blk.g = g → ∀ r, blk.k = .row r → SfOk U φ b r lo n v)
  | .fn f caps, v => ∃ vs : List Value, v = .func (.func f) #[] vs.toArray ∧ All2 (fun b v => PtrOk φ h b 0 v) caps vs
  | .ub n, v => ∃ b, v = .bool b ∧ (b = true → n = 0)
  | .sb b n, v => ∃ a, PtrOk φ h b 0 (.pointer (some a)) ∧ v = .slice (some a) n n
  | .j, v => oneCell v

theorem RelC.one {φ : Phi} {h : Hp R} {w : World} {c : C} {v : Value} (hr : RelC U φ h w c v) : oneCell v := by
  cases c <;> simp only [RelC] at hr
  case int => subst hr; rfl
  case bool => subst hr; rfl
  case str => subst hr; rfl
  case nilp => subst hr; rfl
  case nils => subst hr; rfl
  case ptr => obtain ⟨_, _, _, _, _, _, _, rfl⟩ := hr; rfl
  case pr => exact hr.1
  case sl => exact hr.1
  case sc => exact hr.1
  case sf => exact hr.1
  case fn => obtain ⟨vs, rfl, _⟩ := hr; rfl
  case ub => obtain ⟨_, rfl, _⟩ := hr; rfl
  case sb => obtain ⟨_, _, rfl⟩ := hr; rfl
  case j => exact hr
theorem RelC.plain {φ φ' : Phi} {h h' : Hp R} {w w' : World} {c : C} {v : Value} (hp : C.plain c = true) (hr : RelC U φ h w c v) : RelC U φ' h' w' c v := by
  cases c <;> simp [C.plain] at hp <;> exact hr

/-- What a block's cells hold. -/
def BlkOk (φ : Phi) (h : Hp R) (w : World) (b : Nat) (blk : Blk R) : Prop :=
  if blk.m = 0 then True
  else if blk.m = 2 then
    (∃ r, blk.k = .row r ∧ U.len r = 0 ∧ φ b = none) ∨
    ∃ a, φ b = some a ∧ a.spot = none ∧ ∃ cs t lo hi, w.heap[a.block]? = some (.cells cs t (lo, hi)) ∧ (hi = lo ∨ cs.size ≤ lo) ∧
      ∀ (i : Nat) c, (flat U blk.k)[i]? = some c → ∃ v, cs[a.off + i]? = some v ∧ RelC U φ h w c v
  else (flat U blk.k = [] ∧ ∀ cs, blk.k ≠ .box cs) ∨ ∃ a, φ b = some a ∧ ∀ (i : Nat) c, (flat U blk.k)[i]? = some c → ∃ v, w.cell? (a.add i) = some v ∧ RelC U φ h w c v

structure Sim (φ : Phi) (h : Hp R) (w : World) : Prop where
  lt : ∀ b blk a, h b = some blk → blk.m ≠ 0 → φ b = some a → a.block < w.heap.size
  blk : ∀ b blk, h b = some blk → BlkOk U φ h w b blk
  apart : ∀ b b' blk blk' a a', b ≠ b' → h b = some blk → h b' = some blk' → blk.m = 2 → blk'.m ≠ 0 → φ b = some a → φ b' = some a' → a.block ≠ a'.block

def RelP (φ : Phi) (h : Hp R) (w : World) (p : Bool × List C) (v : Value) : Prop :=
  match p.1 with
  | true => ∃ us : List Value, v = .agg us.toArray ∧ All2 (RelC U φ h w) p.2 us
  | false => ∃ c, p.2 = [c] ∧ RelC U φ h w c v
def RelV (φ : Phi) (h : Hp R) (w : World) : V → Value → Prop
  | .c c, v => RelC U φ h w c v
  | .a cs, v => ∃ us : List Value, v = .agg us.toArray ∧ All2 (RelC U φ h w) cs us
  | .t ps, v => ∃ us : List Value, v = .tuple us.toArray ∧ All2 (RelP U φ h w) ps us
  | .j, _ => True
def RelF (φ : Phi) (h : Hp R) (w : World) (fr : Fr) (tmps : Array Value) : Prop := All2 (RelV U φ h w) fr tmps.toList

/-! ### what stays -/
/-- The same block, for who points at it. -/
structure HdrOk (w w' : World) (φ φ' : Phi) (b : Nat) (blk blk' : Blk R) : Prop where
  mode : blk'.m = blk.m
  phi : φ' b = φ b
  row : ∀ r', blk'.k = .row r' → ∃ r, blk.k = .row r ∧ U.len r' = U.len r ∧ U.tag r' = U.tag r
  box : ∀ cs', blk'.k = .box cs' → ∃ cs, blk.k = .box cs
  size : ∀ a, φ b = some a → ∀ cs t fr, w.heap[a.block]? = some (.cells cs t fr) → ∃ cs' t' fr', w'.heap[a.block]? = some (.cells cs' t' fr') ∧ cs.size ≤ cs'.size

def Ext (φ : Phi) (h : Hp R) (w : World) (φ' : Phi) (h' : Hp R) (w' : World) : Prop :=
  ∀ b blk, h b = some blk → ∃ blk', h' b = some blk' ∧ blk.g ≤ blk'.g ∧ (blk.m ≠ 0 → ∀ cs, blk.k = .box cs → (∃ cs', blk'.k = .box cs') ∧ HdrOk U w w' φ φ' b blk blk') ∧ (blk'.m ≠ 0 → blk'.g = blk.g → HdrOk U w w' φ φ' b blk blk')

section
variable {U}
theorem HdrOk.refl {w : World} {φ : Phi} {b : Nat} {blk : Blk R} : HdrOk U w w φ φ b blk blk :=
  ⟨rfl, rfl, fun r h => ⟨r, h, rfl, rfl⟩, fun cs h => ⟨cs, h⟩, fun _ _ cs t fr h => ⟨cs, t, fr, h, Nat.le_refl _⟩⟩
theorem HdrOk.trans {w w1 w2 : World} {φ φ1 φ2 : Phi} {b : Nat} {x y z : Blk R} (h : HdrOk U w w1 φ φ1 b x y) (k : HdrOk U w1 w2 φ1 φ2 b y z) : HdrOk U w w2 φ φ2 b x z where
  mode := k.mode.trans h.mode
  phi := k.phi.trans h.phi
  row := fun r' hr => by
    obtain ⟨r1, h1, l1, t1⟩ := k.row r' hr
    obtain ⟨r0, h2, l0, t0⟩ := h.row r1 h1
    exact ⟨r0, h2, l1.trans l0, t1.trans t0⟩
  box := fun cs' hc => by
    obtain ⟨c1, h1⟩ := k.box cs' hc
    exact h.box c1 h1
  size := fun a ha cs t fr hc => by
    obtain ⟨cs1, t1, fr1, hc1, hl1⟩ := h.size a ha cs t fr hc
    obtain ⟨cs2, t2, fr2, hc2, hl2⟩ := k.size a (by rw [h.phi, ha]) cs1 t1 fr1 hc1
    exact ⟨cs2, t2, fr2, hc2, Nat.le_trans hl1 hl2⟩
theorem Ext.refl {φ : Phi} {h : Hp R} {w : World} : Ext U φ h w φ h w := fun _ blk hb => ⟨blk, hb, Nat.le_refl _, fun _ cs hc => ⟨⟨cs, hc⟩, .refl⟩, fun _ _ => .refl⟩
theorem Ext.trans {φ φ1 φ2 : Phi} {h h1 h2 : Hp R} {w w1 w2 : World} (e : Ext U φ h w φ1 h1 w1) (e' : Ext U φ1 h1 w1 φ2 h2 w2) : Ext U φ h w φ2 h2 w2 := by
  intro b blk hb
  obtain ⟨y, hy, gy, by_, fy⟩ := e b blk hb
  obtain ⟨z, hz, gz, bz, fz⟩ := e' b y hy
  refine ⟨z, hz, Nat.le_trans gy gz, fun hm cs hc => ?_, fun hm eg => ?_⟩
  · obtain ⟨⟨cs1, h1⟩, d1⟩ := by_ hm cs hc
    obtain ⟨h2, d2⟩ := bz (by rw [d1.mode]; exact hm) cs1 h1
    exact ⟨h2, d1.trans d2⟩
  · have d := fz hm (by omega)
    have hym : y.m ≠ 0 := by rw [← d.mode]; exact hm
    exact (fy hym (by omega)).trans d
theorem SlOk.mono {φ φ' : Phi} {w w' : World} {b : Nat} {blk blk' : Blk R} {r r' : R} {lo n : Nat} {v : Value} (hd : HdrOk U w w' φ φ' b blk blk')
    (hl : U.len r' = U.len r) (ht : U.tag r' = U.tag r) (hs : SlOk U φ w b blk.m r lo n v) : SlOk U φ' w' b blk'.m r' lo n v := by
  obtain ⟨h0, A, cap, rfl, h1, h2, h3⟩ := hs
  refine ⟨hl ▸ h0, A, cap, rfl, h1, fun e => by rw [hl]; exact h2 (hd.mode ▸ e), ?_⟩
  rcases h3 with h3 | ⟨a, ha, hA, hsz⟩
  · exact .inl (h3.imp id fun ⟨h, k⟩ => ⟨h, fun e => k (hd.mode ▸ e)⟩)
  · refine .inr ⟨a, by rw [hd.phi, ha], by rw [ht, hA], fun e => ?_⟩
    obtain ⟨cs, t, fr, hc, hle⟩ := hsz (hd.mode ▸ e)
    obtain ⟨cs', t', fr', hc', hle'⟩ := hd.size a ha cs t fr hc
    exact ⟨cs', t', fr', hc', by rw [ht]; omega⟩
theorem SfOk.mono {φ φ' : Phi} {w w' : World} {b : Nat} {blk blk' : Blk R} {r r' : R} {lo n : Nat} {v : Value} (hd : HdrOk U w w' φ φ' b blk blk')
    (hl : U.len r' = U.len r) (ht : U.tag r' = U.tag r) (hs : SfOk U φ b r lo n v) : SfOk U φ' b r' lo n v := by
  obtain ⟨h0, A, rfl, h3⟩ := hs
  refine ⟨hl ▸ h0, A, rfl, ?_⟩
  rcases h3 with h3 | ⟨a, ha, hA⟩
  · exact .inl h3
  · exact .inr ⟨a, by rw [hd.phi, ha], by rw [ht, hA]⟩
theorem PtrOk.mono {φ φ' : Phi} {h h' : Hp R} {w w' : World} {b off : Nat} {v : Value} (he : Ext U φ h w φ' h' w') (hp : PtrOk φ h b off v) : PtrOk φ' h' b off v := by
  obtain ⟨cs, g, m, hb, hm, a, ha, rfl⟩ := hp
  obtain ⟨blk', hb', _, hd, _⟩ := he b _ hb
  obtain ⟨⟨cs', hc'⟩, hd⟩ := hd hm cs rfl
  obtain ⟨k', g', m'⟩ := blk'
  simp only at hc'
  subst hc'
  have hmode := hd.mode
  simp only at hmode
  exact ⟨cs', g', m', hb', by rw [hmode]; exact hm, a, by rw [hd.phi, ha], rfl⟩
theorem RelC.mono {φ φ' : Phi} {h h' : Hp R} {w w' : World} {c : C} {v : Value} (he : Ext U φ h w φ' h' w') (hr : RelC U φ h w c v) : RelC U φ' h' w' c v := by
  cases c <;> simp only [RelC] at hr ⊢
  case ptr b off => exact hr.mono he
  case sb b n => obtain ⟨a, hp, rfl⟩ := hr; exact ⟨a, hp.mono he, rfl⟩
  case fn f caps =>
    obtain ⟨vs, rfl, ha⟩ := hr
    exact ⟨vs, rfl, ha.mono fun _ _ hp => hp.mono he⟩
  case pr b g i o =>
    obtain ⟨h1, blk, hb, hg, hv⟩ := hr
    obtain ⟨blk', hb', hg', _, hd⟩ := he b blk hb
    refine ⟨h1, blk', hb', Nat.le_trans hg hg', fun hm e r' hk => ?_⟩
    have e2 : blk'.g = blk.g := by omega
    have hd := hd hm e2
    obtain ⟨r, hk0, hl, ht⟩ := hd.row r' hk
    obtain ⟨hi, a, ha, hv⟩ := hv (hd.mode ▸ hm) (e2 ▸ e) r hk0
    exact ⟨hl ▸ hi, a, by rw [hd.phi, ha], by rw [ht]; exact hv⟩
  case sl b g =>
    obtain ⟨h1, blk, hb, hg, hv⟩ := hr
    obtain ⟨blk', hb', hg', _, hd⟩ := he b blk hb
    refine ⟨h1, blk', hb', Nat.le_trans hg hg', fun hm e r' hk => ?_⟩
    have e2 : blk'.g = blk.g := by omega
    have hd := hd hm e2
    obtain ⟨r, hk0, hl, ht⟩ := hd.row r' hk
    have := hv (hd.mode ▸ hm) (e2 ▸ e) r hk0
    rw [hl]
    exact this.mono hd hl ht
  case sc b g lo n =>
    obtain ⟨h1, blk, hb, hg, hv⟩ := hr
    obtain ⟨blk', hb', hg', _, hd⟩ := he b blk hb
    refine ⟨h1, blk', hb', Nat.le_trans hg hg', fun hm e r' hk => ?_⟩
    have e2 : blk'.g = blk.g := by omega
    have hd := hd hm e2
    obtain ⟨r, hk0, hl, ht⟩ := hd.row r' hk
    exact (hv (hd.mode ▸ hm) (e2 ▸ e) r hk0).mono hd hl ht
  case sf b g lo n =>
    obtain ⟨h1, blk, hb, hg, hv⟩ := hr
    obtain ⟨blk', hb', hg', _, hd⟩ := he b blk hb
    refine ⟨h1, blk', hb', Nat.le_trans hg hg', fun hm e r' hk => ?_⟩
    have e2 : blk'.g = blk.g := by omega
    have hd := hd hm e2
    obtain ⟨r, hk0, hl, ht⟩ := hd.row r' hk
    exact (hv (hd.mode ▸ hm) (e2 ▸ e) r hk0).mono hd hl ht
  all_goals exact hr
theorem RelV.mono {φ φ' : Phi} {h h' : Hp R} {w w' : World} {c : V} {v : Value} (he : Ext U φ h w φ' h' w') (hr : RelV U φ h w c v) : RelV U φ' h' w' c v := by
  cases c <;> simp only [RelV] at hr ⊢
  case c c => exact hr.mono he
  case a cs => obtain ⟨us, rfl, ha⟩ := hr; exact ⟨us, rfl, ha.mono fun _ _ h => h.mono he⟩
  case t ps =>
    obtain ⟨us, rfl, ha⟩ := hr
    refine ⟨us, rfl, ha.mono fun p v h => ?_⟩
    obtain ⟨ag, cs⟩ := p
    cases ag <;> simp only [RelP] at h ⊢
    · obtain ⟨c, hc, h⟩ := h; exact ⟨c, hc, h.mono he⟩
    · obtain ⟨us, hu, h⟩ := h; exact ⟨us, hu, h.mono fun _ _ h => h.mono he⟩
theorem RelF.mono {φ φ' : Phi} {h h' : Hp R} {w w' : World} {fr : Fr} {tmps : Array Value} (he : Ext U φ h w φ' h' w') (hr : RelF U φ h w fr tmps) : RelF U φ' h' w' fr tmps :=
  All2.mono hr fun _ _ h => h.mono he
end
end
end Go.Eng
/- The engine, part 4: worlds that grow and change under a simulation. -/
namespace Go.Eng
section
variable {R : Type} {U : RowU R}

def upd (h : Hp R) (L' : Heap R) (W : List Nat) : Hp R := fun b => if b ∈ W then L'[b]? else h b
theorem upd_nil (h : Hp R) (L' : Heap R) : upd h L' [] = h := by funext b; simp [upd]

/-- Nothing but what these own blocks are has changed. -/
structure Kept (φ : Phi) (h : Hp R) (w w' : World) (W : List Nat) : Prop where
  os : w'.os = w.os
  tape : w'.tape = w.tape
  output : w'.output = w.output
  size : w.heap.size ≤ w'.heap.size
  blk : ∀ i, i < w.heap.size → (∀ b ∈ W, ∀ blk a, h b = some blk → blk.m = 2 → φ b = some a → a.block ≠ i) → w'.heap[i]? = w.heap[i]?

/-- What a step leaves: the simulation; who points still points; nothing else has changed; where the written blocks lie. -/
structure Stp (U : RowU R) (φ : Phi) (h : Hp R) (w : World) (φ' : Phi) (h' : Hp R) (w' : World) (W : List Nat) : Prop where
  sim : Sim U φ' h' w'
  ext : Ext U φ h w φ' h' w'
  kept : Kept φ h w w' W
  phi : ∀ b, b ∉ W → φ' b = φ b
  new : ∀ b ∈ W, ∀ a, φ' b = some a → (∃ blk a0, h b = some blk ∧ blk.m = 2 ∧ φ b = some a0 ∧ a0.block = a.block) ∨ w.heap.size ≤ a.block
  own : ∀ b ∈ W, (∃ blk, h b = some blk ∧ blk.m = 2) ∨ h b = none

theorem Kept.refl {φ : Phi} {h : Hp R} {w : World} {W : List Nat} : Kept φ h w w W := ⟨rfl, rfl, rfl, Nat.le_refl _, fun _ _ _ => rfl⟩
theorem Stp.refl {φ : Phi} {h : Hp R} {w : World} (hs : Sim U φ h w) : Stp U φ h w φ h w [] :=
  ⟨hs, .refl, .refl, fun _ _ => rfl, fun _ hb => by simp at hb, fun _ hb => by simp at hb⟩

theorem add_block (a : Addr) (n : Nat) : (a.add n).block = a.block := by unfold Addr.add; split <;> rfl
theorem add_zero' (a : Addr) : a.add 0 = a := by simp [Addr.add]
theorem add_add (a : Addr) (m n : Nat) : (a.add m).add n = a.add (m + n) := by
  unfold Addr.add
  by_cases hm : m = 0
  · simp [hm]
  · by_cases hn : n = 0
    · simp [hn]
    · simp [hm, hn]; omega
theorem add_off {a : Addr} (h : a.spot = none) (n : Nat) : a.add n = ⟨a.block, a.off + n, none⟩ := by
  unfold Addr.add
  split
  · subst_vars; cases a; simp at h ⊢; exact h
  · rfl
theorem cell_off {w : World} {a : Addr} {cs : Array Value} {t : TypeId} {fr : Nat × Nat} (hs : a.spot = none) (hc : w.heap[a.block]? = some (.cells cs t fr)) (n : Nat) : w.cell? (a.add n) = cs[a.off + n]? := by
  rw [add_off hs]; simp [World.cell?, hc]
theorem cell_keep {w w' : World} {a : Addr} (h : ∀ x, w.heap[a.block]? = some x → w'.heap[a.block]? = some x) (n : Nat) {v : Value} (hv : w.cell? (a.add n) = some v) : w'.cell? (a.add n) = some v := by
  unfold World.cell? at hv ⊢
  rw [add_block] at hv ⊢
  cases hc : w.heap[a.block]? with
  | none => rw [hc] at hv; simp at hv
  | some x => rw [hc] at hv; rw [h x hc]; exact hv

theorem BlkOk.keep {φ φ' : Phi} {h h' : Hp R} {w w' : World} {b : Nat} {blk : Blk R} (he : Ext U φ h w φ' h' w') (hφ : φ' b = φ b)
    (hh : ∀ a, φ b = some a → ∀ x, w.heap[a.block]? = some x → w'.heap[a.block]? = some x) (hb : BlkOk U φ h w b blk) : BlkOk U φ' h' w' b blk := by
  unfold BlkOk at *
  split
  · trivial
  · rename_i h0
    rw [if_neg h0] at hb
    split
    · rename_i h2
      rw [if_pos h2] at hb
      rcases hb with ⟨r, hk, hl, hp⟩ | ⟨a, ha, hsp, cs, t, lo, hi, hc, hf, hcells⟩
      · exact .inl ⟨r, hk, hl, hφ.trans hp⟩
      · refine .inr ⟨a, hφ.trans ha, hsp, cs, t, lo, hi, hh a ha _ hc, hf, fun i c hi => ?_⟩
        obtain ⟨v, hv, hr⟩ := hcells i c hi
        exact ⟨v, hv, hr.mono he⟩
    · rename_i h2
      rw [if_neg h2] at hb
      rcases hb with hb | ⟨a, ha, hcells⟩
      · exact .inl hb
      · refine .inr ⟨a, hφ.trans ha, fun i c hi => ?_⟩
        obtain ⟨v, hv, hr⟩ := hcells i c hi
        exact ⟨v, cell_keep (hh a ha) i hv, hr.mono he⟩

/-- The block of an own row or variable that lies somewhere. -/
theorem Sim.own {φ : Phi} {h : Hp R} {w : World} (hs : Sim U φ h w) {b : Nat} {k : BK R} {g : Nat} (hb : h b = some ⟨k, g, 2⟩) :
    (∃ r, k = .row r ∧ U.len r = 0 ∧ φ b = none) ∨
    ∃ a, φ b = some a ∧ a.spot = none ∧ ∃ cs t lo hi, w.heap[a.block]? = some (.cells cs t (lo, hi)) ∧ (hi = lo ∨ cs.size ≤ lo) ∧
      ∀ (i : Nat) c, (flat U k)[i]? = some c → ∃ v, cs[a.off + i]? = some v ∧ RelC U φ h w c v := by
  have := hs.blk b _ hb
  unfold BlkOk at this
  simpa using this
/-- What a living block's cells hold, wherever it lies. -/
theorem Sim.cells {φ : Phi} {h : Hp R} {w : World} (hs : Sim U φ h w) {b : Nat} {k : BK R} {g m : Nat} (hb : h b = some ⟨k, g, m⟩) (hm : m ≠ 0) :
    (flat U k = [] ∧ ∀ cs, k ≠ .box cs) ∨ ∃ a, φ b = some a ∧ ∀ (i : Nat) c, (flat U k)[i]? = some c → ∃ v, w.cell? (a.add i) = some v ∧ RelC U φ h w c v := by
  by_cases h2 : m = 2
  · subst h2
    rcases hs.own hb with ⟨r, rfl, hl, _⟩ | ⟨a, ha, hsp, cs, t, lo, hi, hc, _, hcells⟩
    · refine .inl ⟨?_, fun cs hk => by simp at hk⟩
      have : U.cells r = [] := List.eq_nil_of_length_eq_zero (by rw [← U.len_eq]; exact hl)
      simp [flat, this]
    · refine .inr ⟨a, ha, fun i c hi => ?_⟩
      obtain ⟨v, hv, hr⟩ := hcells i c hi
      exact ⟨v, by rw [cell_off hsp hc]; exact hv, hr⟩
  · have := hs.blk b _ hb
    unfold BlkOk at this
    simpa [hm, h2] using this

/-! ### a new block -/
def phiSet (φ : Phi) (n : Nat) (a : Option Addr) : Phi := fun b => if b = n then a else φ b
def hpSet (h : Hp R) (n : Nat) (x : Blk R) : Hp R := fun b => if b = n then some x else h b
theorem hpSet_self (h : Hp R) (n : Nat) (x : Blk R) : hpSet h n x n = some x := by simp [hpSet]
theorem hpSet_ne (h : Hp R) {n b : Nat} (x : Blk R) (hb : b ≠ n) : hpSet h n x b = h b := by simp [hpSet, hb]
theorem phiSet_self (φ : Phi) (n : Nat) (a : Option Addr) : phiSet φ n a n = a := by simp [phiSet]
theorem phiSet_ne (φ : Phi) {n b : Nat} (a : Option Addr) (hb : b ≠ n) : phiSet φ n a b = φ b := by simp [phiSet, hb]
theorem upd_append (h : Hp R) (L : Heap R) (x : Blk R) : upd h (L ++ [x]) [L.length] = hpSet h L.length x := by
  funext b
  unfold upd hpSet
  by_cases hb : b = L.length
  · subst hb; simp
  · simp [hb]

theorem Ext.newH {φ : Phi} {h : Hp R} {w w1 : World} {n : Nat} {x : Blk R} {A : Option Addr} (hn : h n = none)
    (hw : ∀ (i : Nat) o, w.heap[i]? = some o → w1.heap[i]? = some o) : Ext U φ h w (phiSet φ n A) (hpSet h n x) w1 := by
  intro b blk hb
  have hne : b ≠ n := fun e => by rw [e, hn] at hb; simp at hb
  have hd : HdrOk U w w1 φ (phiSet φ n A) b blk blk := ⟨rfl, phiSet_ne _ _ hne, fun r hr => ⟨r, hr, rfl, rfl⟩, fun cs hc => ⟨cs, hc⟩, fun a _ cs t fr hc => ⟨cs, t, fr, hw _ _ hc, Nat.le_refl _⟩⟩
  exact ⟨blk, by rw [hpSet_ne _ _ hne, hb], Nat.le_refl _, fun _ cs hc => ⟨⟨cs, hc⟩, hd⟩, fun _ _ => hd⟩

theorem Stp.newBlk {φ : Phi} {h : Hp R} {w w1 : World} {n : Nat} (hs : Sim U φ h w) (hn : h n = none) (k : BK R) (cs : Array Value) (t : TypeId) (lo hi : Nat) (hfr : hi = lo ∨ cs.size ≤ lo)
    (hcells : ∀ (i : Nat) c, (flat U k)[i]? = some c → ∃ v, cs[i]? = some v ∧ RelC U φ h w c v)
    (hw : w1.heap = w.heap.push (.cells cs t (lo, hi))) (h1 : w1.os = w.os) (h2 : w1.tape = w.tape) (h3 : w1.output = w.output) :
    Stp U φ h w (phiSet φ n (some ⟨w.heap.size, 0, none⟩)) (hpSet h n ⟨k, 0, 2⟩) w1 [n] := by
  have hold : ∀ (i : Nat) o, w.heap[i]? = some o → w1.heap[i]? = some o := fun i o ho => by
    have hi : i < w.heap.size := by
      rcases Nat.lt_or_ge i w.heap.size with hlt | hge
      · exact hlt
      · rw [Array.getElem?_eq_none hge] at ho; simp at ho
    rw [hw, Array.getElem?_push_lt hi]
    rw [Array.getElem?_eq_getElem hi] at ho
    exact ho
  have he : Ext U φ h w (phiSet φ n (some ⟨w.heap.size, 0, none⟩)) (hpSet h n ⟨k, 0, 2⟩) w1 := Ext.newH hn hold
  refine ⟨⟨fun b blk a hb hm ha => ?_, fun b blk hb => ?_, fun b b' blk blk' a a' hne hb hb' hm hm' ha ha' => ?_⟩, he, ⟨h1, h2, h3, by rw [hw]; simp, fun i hi _ => ?_⟩, fun b hb => phiSet_ne _ _ (by simpa using hb), fun b hb a ha => ?_, fun b hb => .inr (by simp at hb; subst hb; exact hn)⟩
  · rw [hw, Array.size_push]
    by_cases e : b = n
    · subst e
      rw [phiSet_self] at ha
      simp at ha; subst ha
      simp
    · rw [hpSet_ne _ _ e] at hb
      rw [phiSet_ne _ _ e] at ha
      have := hs.lt b blk a hb hm ha
      omega
  · by_cases e : b = n
    · subst e
      rw [hpSet_self] at hb
      simp at hb; subst hb
      unfold BlkOk
      simp only [Nat.reduceEqDiff, if_false, if_true]
      refine .inr ⟨⟨w.heap.size, 0, none⟩, phiSet_self .., rfl, cs, t, lo, hi, by rw [hw]; simp, hfr, fun i c hi => ?_⟩
      obtain ⟨v, hv, hr⟩ := hcells i c hi
      exact ⟨v, by simpa using hv, hr.mono he⟩
    · rw [hpSet_ne _ _ e] at hb
      exact (hs.blk b blk hb).keep he (phiSet_ne _ _ e) fun a _ x hx => hold _ _ hx
  · by_cases e : b = n
    · subst e
      rw [phiSet_self] at ha
      have e' : b' ≠ b := fun x => hne x.symm
      rw [hpSet_ne _ _ e'] at hb'
      rw [phiSet_ne _ _ e'] at ha'
      simp at ha; subst ha
      have := hs.lt b' blk' a' hb' hm' ha'
      simp; omega
    · rw [hpSet_ne _ _ e] at hb
      rw [phiSet_ne _ _ e] at ha
      by_cases e' : b' = n
      · subst e'
        rw [phiSet_self] at ha'
        simp at ha'; subst ha'
        have := hs.lt b blk a hb (by omega) ha
        simp; omega
      · rw [hpSet_ne _ _ e'] at hb'
        rw [phiSet_ne _ _ e'] at ha'
        exact hs.apart b b' blk blk' a a' hne hb hb' hm hm' ha ha'
  · rw [hw, Array.getElem?_push_lt hi, Array.getElem?_eq_getElem hi]
  · simp at hb; subst hb
    rw [phiSet_self] at ha
    simp at ha; subst ha
    exact .inr (Nat.le_refl _)

/-- An own block that holds something else now. -/
theorem Stp.chg {φ : Phi} {h : Hp R} {w w1 : World} {b : Nat} {k k' : BK R} {g g' : Nat} {a' : Addr} (hs : Sim U φ h w) (hb : h b = some ⟨k, g, 2⟩)
    (hkeep : ∀ (i : Nat) o, w.heap[i]? = some o → (∀ a, φ b = some a → a.block ≠ i) → w1.heap[i]? = some o)
    (hsize : ∀ a, φ b = some a → ∀ cs t fr, w.heap[a.block]? = some (.cells cs t fr) → ∃ cs' t' fr', w1.heap[a.block]? = some (.cells cs' t' fr') ∧ cs.size ≤ cs'.size)
    (hnew : a'.spot = none ∧ ∃ cs t lo hi, w1.heap[a'.block]? = some (.cells cs t (lo, hi)) ∧ (hi = lo ∨ cs.size ≤ lo) ∧ ∀ (i : Nat) c, (flat U k')[i]? = some c → ∃ v, cs[a'.off + i]? = some v ∧ RelC U φ h w c v)
    (hblk : (∃ a, φ b = some a ∧ a.block = a'.block) ∨ w.heap.size ≤ a'.block)
    (hsz : w.heap.size ≤ w1.heap.size) (h1 : w1.os = w.os) (h2 : w1.tape = w.tape) (h3 : w1.output = w.output)
    (hg : (g' = g ∧ φ b = some a' ∧ (∀ r', k' = .row r' → ∃ r, k = .row r ∧ U.len r' = U.len r ∧ U.tag r' = U.tag r) ∧ (∀ cs', k' = .box cs' → ∃ cs, k = .box cs)) ∨ (g < g' ∧ (∃ r, k' = .row r) ∧ ∀ cs, k ≠ .box cs)) :
    Stp U φ h w (phiSet φ b (some a')) (hpSet h b ⟨k', g', 2⟩) w1 [b] := by
  have hlt' : a'.block < w1.heap.size := by
    obtain ⟨_, cs, t, lo, hi, hc, _⟩ := hnew
    rcases Nat.lt_or_ge a'.block w1.heap.size with hlt | hge
    · exact hlt
    · rw [Array.getElem?_eq_none hge] at hc; simp at hc
  have he : Ext U φ h w (phiSet φ b (some a')) (hpSet h b ⟨k', g', 2⟩) w1 := by
    intro b0 blk hb0
    by_cases e : b0 = b
    · subst e
      rw [hb] at hb0
      simp at hb0; subst hb0
      refine ⟨_, hpSet_self .., ?_, fun _ cs hcs => ?_, fun _ eg => ?_⟩
      · rcases hg with ⟨rfl, _⟩ | ⟨hlt, _⟩
        · exact Nat.le_refl _
        · exact Nat.le_of_lt hlt
      · rcases hg with ⟨rfl, hp, hrow, hbox⟩ | ⟨_, hr, hnb⟩
        · refine ⟨?_, ⟨rfl, by rw [phiSet_self, hp], hrow, hbox, hsize⟩⟩
          cases k' with
          | box cs' => exact ⟨cs', rfl⟩
          | row r' =>
            obtain ⟨r, hr, _⟩ := hrow r' rfl
            simp only at hcs
            rw [hr] at hcs; simp at hcs
        · simp only at hcs
          exact absurd hcs (hnb cs)
      · rcases hg with ⟨rfl, hp, hrow, hbox⟩ | ⟨hlt, _⟩
        · exact ⟨rfl, by rw [phiSet_self, hp], hrow, hbox, hsize⟩
        · simp only at eg; omega
    · have hd : blk.m ≠ 0 → HdrOk U w w1 φ (phiSet φ b (some a')) b0 blk blk := fun hm => ⟨rfl, phiSet_ne _ _ e, fun r hr => ⟨r, hr, rfl, rfl⟩, fun cs hc => ⟨cs, hc⟩, fun a ha cs t fr hc =>
        ⟨cs, t, fr, hkeep _ _ hc fun a0 ha0 hne => hs.apart b b0 _ blk a0 a (fun x => e x.symm) hb hb0 rfl hm ha0 ha hne, Nat.le_refl _⟩⟩
      exact ⟨blk, by rw [hpSet_ne _ _ e, hb0], Nat.le_refl _, fun hm cs hc => ⟨⟨cs, hc⟩, hd hm⟩, fun hm _ => hd hm⟩
  refine ⟨⟨fun b0 blk a hb0 hm ha => ?_, fun b0 blk hb0 => ?_, fun b0 b1 blk blk' a a1 hne hb0 hb1 hm hm' ha ha1 => ?_⟩, he, ⟨h1, h2, h3, hsz, fun i hi hne => ?_⟩, fun b0 hb0 => phiSet_ne _ _ (by simpa using hb0), fun b0 hb0 a ha => ?_, fun b0 hb0 => .inl ⟨_, by simp at hb0; subst hb0; exact hb, rfl⟩⟩
  · by_cases e : b0 = b
    · subst e
      rw [phiSet_self] at ha
      simp at ha; subst ha
      exact hlt'
    · rw [hpSet_ne _ _ e] at hb0
      rw [phiSet_ne _ _ e] at ha
      exact Nat.lt_of_lt_of_le (hs.lt b0 blk a hb0 hm ha) hsz
  · by_cases e : b0 = b
    · subst e
      rw [hpSet_self] at hb0
      simp at hb0; subst hb0
      unfold BlkOk
      simp only [Nat.reduceEqDiff, if_false, if_true]
      obtain ⟨hsp, cs, t, lo, hi, hc, hf, hcells⟩ := hnew
      refine .inr ⟨a', phiSet_self .., hsp, cs, t, lo, hi, hc, hf, fun i c hi => ?_⟩
      obtain ⟨v, hv, hr⟩ := hcells i c hi
      exact ⟨v, hv, hr.mono he⟩
    · rw [hpSet_ne _ _ e] at hb0
      by_cases hm : blk.m = 0
      · simp [BlkOk, hm]
      · exact (hs.blk b0 blk hb0).keep he (phiSet_ne _ _ e) fun a ha x hx => hkeep _ _ hx fun a0 ha0 hne =>
          hs.apart b b0 _ blk a0 a (fun x => e x.symm) hb hb0 rfl hm ha0 ha hne
  · by_cases e : b0 = b
    · subst e
      rw [phiSet_self] at ha
      simp at ha; subst ha
      have e' : b1 ≠ b0 := fun x => hne x.symm
      rw [hpSet_ne _ _ e'] at hb1
      rw [phiSet_ne _ _ e'] at ha1
      rcases hblk with ⟨a0, ha0, hab⟩ | hge
      · rw [← hab]
        exact hs.apart b0 b1 _ blk' a0 a1 hne hb hb1 rfl hm' ha0 ha1
      · have := hs.lt b1 blk' a1 hb1 hm' ha1
        omega
    · rw [hpSet_ne _ _ e] at hb0
      rw [phiSet_ne _ _ e] at ha
      by_cases e' : b1 = b
      · subst e'
        rw [phiSet_self] at ha1
        simp at ha1; subst ha1
        rcases hblk with ⟨a0, ha0, hab⟩ | hge
        · rw [← hab]
          exact hs.apart b0 b1 blk _ a a0 hne hb0 hb hm (by simp) ha ha0
        · have := hs.lt b0 blk a hb0 (by omega) ha
          omega
      · rw [hpSet_ne _ _ e'] at hb1
        rw [phiSet_ne _ _ e'] at ha1
        exact hs.apart b0 b1 blk blk' a a1 hne hb0 hb1 hm hm' ha ha1
  · rw [Array.getElem?_eq_getElem hi]
    exact hkeep i _ (Array.getElem?_eq_getElem hi) fun a ha => hne b (by simp) _ a hb rfl ha
  · simp at hb0; subst hb0
    rw [phiSet_self] at ha
    simp at ha; subst ha
    rcases hblk with ⟨a0, ha0, hab⟩ | hge
    · exact .inl ⟨_, a0, hb, rfl, ha0, hab⟩
    · exact .inr hge
theorem upd_set (h : Hp R) (L : Heap R) (b : Nat) (x : Blk R) (hb : b < L.length) : upd h (L.set b x) [b] = hpSet h b x := by
  funext b'
  unfold upd hpSet
  by_cases e : b' = b
  · subst e; simp [hb]
  · simp [e]
end
end Go.Eng
/- The engine, part 5: operations that leave memory alone. -/
namespace Go.Eng

section
variable {R : Type} {U : RowU R} {P : Program} {tagT : TypeId → Option Nat} {ρ : Type}

def Sl (U : RowU R) (φ : Phi) (h : Hp R) (w : World) (fr : Fr) (a : Act) (ts : List Nat) : Prop :=
  ∀ t ∈ ts, ∀ v, fr[t]? = some v → RelV U φ h w v (a.tmps.getD t undef)
theorem Sl.sub {φ : Phi} {h : Hp R} {w : World} {fr : Fr} {a : Act} {ts us : List Nat} (hs : Sl U φ h w fr a ts) (hsub : ∀ t ∈ us, t ∈ ts) : Sl U φ h w fr a us := fun t ht => hs t (hsub t ht)

def OpWp (P : Program) (U : RowU R) (o : Oper) (v : V) (h' : Hp R) (W : List Nat) (h : Hp R) (φ : Phi) (w : World) (a : Act) : Prop :=
  ∀ next Q, (∀ val φ' w', RelV U φ' h' w' v val → Stp U φ h w φ' h' w' W → next (a.put o.dst val) w') → o.wp P a w next Q

theorem OpWp.val {o : Oper} {v : V} {h' : Hp R} {W : List Nat} {h : Hp R} {φ φ' : Phi} {w w' : World} {a : Act} {val : Value}
    (hr : (execOp a.eval o).run P w = .ok (.value val) w') (hv : RelV U φ' h' w' v val) (st : Stp U φ h w φ' h' w' W) : OpWp P U o v h' W h φ w a := by
  intro next Q hn
  unfold Oper.wp
  rw [hr]
  exact hn val φ' w' hv st
theorem OpWp.skip {o : Oper} {h' : Hp R} {W : List Nat} {h : Hp R} {φ φ' : Phi} {w w' : World} {a : Act}
    (hr : (execOp a.eval o).run P w = .ok .skip w') (st : Stp U φ h w φ' h' w' W) : OpWp P U o (.t []) h' W h φ w a := by
  intro next Q hn
  unfold Oper.wp
  rw [hr]
  exact hn undef φ' w' ⟨[], rfl, .nil⟩ st

/-- What an operation that was evaluated does. -/
def Res (P : Program) (U : RowU R) (fr : Fr) (L : Heap R) (op : SOp) (o : Oper) (K : KV R ρ) (r : ρ) : Prop :=
  ∃ v L' A W, K v L' A W = some r ∧ (∀ b ∈ W, b ∈ A) ∧ (∀ b : Nat, b ∉ W → L'[b]? = L[b]?) ∧ L.length ≤ L'.length ∧
    ∀ (h : Hp R) (φ : Phi) (w : World) (a : Act), (∀ b ∈ A, h b = L[b]?) → Sl U φ h w fr a (slots op) → Sim U φ h w → OpWp P U o v (upd h L' W) W h φ w a

/-- One that only reads. -/
theorem Res.read {fr : Fr} {L : Heap R} {op : SOp} {o : Oper} {K : KV R ρ} {r : ρ} {v : V} {A : List Nat} (hK : K v L A [] = some r)
    (hr : ∀ (h : Hp R) (φ : Phi) (w : World) (a : Act), (∀ b ∈ A, h b = L[b]?) → Sl U φ h w fr a (slots op) → Sim U φ h w → ∃ val, (execOp a.eval o).run P w = .ok (.value val) w ∧ RelV U φ h w v val) :
    Res P U fr L op o K r :=
  ⟨v, L, A, [], hK, fun _ hb => by simp at hb, fun _ _ => rfl, Nat.le_refl _, fun h φ w a hA hs hsim => by
    obtain ⟨val, hrun, hv⟩ := hr h φ w a hA hs hsim
    rw [upd_nil]
    exact .val hrun hv (.refl hsim)⟩

theorem ofLit_ok {t : Option TypeId} {v : Value} {c : C} (h : ofLit P tagT t v = some c) (φ : Phi) (hp : Hp R) (w : World) : RelC U φ hp w c v := by
  unfold ofLit at h
  split at h
  · simp at h; subst h; rfl
  · simp at h; subst h; rfl
  · simp at h; subst h; rfl
  · simp only [Option.bind_eq_some_iff, Option.map_eq_some_iff] at h
    obtain ⟨e, _, g, _, rfl⟩ := h
    rfl
  · simp at h; subst h; rfl
  · simp at h

theorem ev_ok {t : Option TypeId} {X : Operand} {x : Opd} {fr : Fr} {a : Act} {φ : Phi} {h : Hp R} {w : World} {v : V} {ts : List Nat} (hx : ofOp P tagT t X = some x)
    (hs : Sl U φ h w fr a ts) (hsub : ∀ n ∈ oslots x, n ∈ ts) (hv : ev fr x = some v) : RelV U φ h w v (a.eval X) := by
  unfold ofOp at hx
  split at hx
  · simp at hx; subst hx
    exact hs _ (hsub _ (by simp [oslots])) v hv
  · simp only [Option.map_eq_some_iff] at hx
    obtain ⟨c, hc, rfl⟩ := hx
    simp [ev] at hv; subst hv
    exact ofLit_ok hc φ h w
  · simp at hx; subst hx
    simp [ev] at hv; subst hv
    exact ⟨[], rfl, .nil⟩
  · simp at hx

theorem relInt {φ : Phi} {h : Hp R} {w : World} {k : IntKind} {n : Int} {v : Value} (hr : RelV U φ h w (.c (.int k n)) v) : v = .int k n := hr
theorem relBool {φ : Phi} {h : Hp R} {w : World} {b : Bool} {v : Value} (hr : RelV U φ h w (.c (.bool b)) v) : v = .bool b := hr
theorem relStr {φ : Phi} {h : Hp R} {w : World} {s : ByteArray} {v : Value} (hr : RelV U φ h w (.c (.str s)) v) : v = .string s := hr

variable {fr : Fr} {L : Heap R} {o : Oper} {K : KV R ρ} {r : ρ}

theorem ok_mv {X : Operand} {x : Opd} {t : Option TypeId} (ho : o.op = .move X ∨ o.op = .assign X) (hx : ofOp P tagT t X = some x) (hK : evOp U fr L (.mv x) K = some r) : Res P U fr L (.mv x) o K r := by
  simp only [evOp] at hK
  split at hK
  · rename_i v hv
    refine .read hK fun h φ w a _ hs _ => ⟨a.eval X, ?_, ev_ok hx hs (fun _ h => h) hv⟩
    rcases ho with ho | ho <;> simp [execOp, ho]
  · simp at hK

theorem cond_some {b : Bool} {x y : Option ρ} {r : ρ} (h : cond b x y = some r) : (b = true ∧ x = some r) ∨ (b = false ∧ y = some r) := by cases b <;> simp_all
theorem cond_none {b : Bool} {x : Option ρ} {r : ρ} (h : cond b x none = some r) : b = true ∧ x = some r := by cases b <;> simp_all

theorem ok_pick {C A B : Operand} {c x y : Opd} {t1 t2 t3 : Option TypeId} (ho : o.op = .pick C A B) (hc : ofOp P tagT t1 C = some c) (hx : ofOp P tagT t2 A = some x) (hy : ofOp P tagT t3 B = some y)
    (hK : evOp U fr L (.pick c x y) K = some r) : Res P U fr L (.pick c x y) o K r := by
  simp only [evOp] at hK
  split at hK
  · rename_i t u v e1 e2 e3
    rcases cond_some hK with ⟨rfl, hK⟩ | ⟨rfl, hK⟩
    · refine .read hK fun h φ w a _ hs _ => ⟨a.eval A, ?_, ev_ok hx hs (fun _ h => by simp [slots]; exact .inr (.inl h)) e2⟩
      have := relBool (ev_ok hc hs (fun _ h => by simp [slots]; exact .inl h) e1)
      simp [execOp, ho, this, asBool]
    · refine .read hK fun h φ w a _ hs _ => ⟨a.eval B, ?_, ev_ok hy hs (fun _ h => by simp [slots]; exact .inr (.inr h)) e3⟩
      have := relBool (ev_ok hc hs (fun _ h => by simp [slots]; exact .inl h) e1)
      simp [execOp, ho, this, asBool]
  · simp at hK

theorem run_szT {t n : Nat} (h : szT P t = some n) (w : World) : (sizeOf t).run P w = .ok n w := by
  unfold szT at h
  obtain ⟨i, hi, rfl⟩ := Option.map_eq_some_iff.1 h
  simp [sizeOf, typeInfo, hi]
theorem run_und {t : Nat} {d : TypeDesc} (h : P.underlying t = some d) (w : World) : (underlying t).run P w = .ok d w := run_underlying h w
theorem fieldT_some {t f off ft n : Nat} (h : fieldT P t f = some (off, ft, n)) : ∃ fs fd, P.underlying t = some (.struct fs) ∧ fs[f]? = some fd ∧ fd.offset = off ∧ fd.type = ft ∧ szT P ft = some n ∧ n ≠ 0 := by
  unfold fieldT at h
  split at h
  · rename_i fs hu
    simp only [Option.bind_eq_some_iff] at h
    obtain ⟨fd, hf, n', hn, h⟩ := h
    split at h
    · simp at h
    · simp at h
      obtain ⟨rfl, rfl, rfl⟩ := h
      exact ⟨fs, fd, hu, hf, rfl, rfl, hn, by assumption⟩
  · simp at h
theorem agT_some {t : Nat} {ag : Bool} (h : agT P t = some ag) (w : World) : (isAgg t).run P w = .ok ag w := by
  unfold agT at h
  split at h <;> simp at h
  · rename_i hu; subst h; simp [isAgg, run_und hu]
  · rename_i d h1 h2 h3 h4 hu
    subst h
    simp only [isAgg, Sem.run_bind, run_und hu, Result.andThen_ok]
    cases d <;> simp_all

theorem rel_ptr {φ : Phi} {h : Hp R} {w : World} {b off : Nat} {v : Value} (hr : RelV U φ h w (.c (.ptr b off)) v) : ∃ cs g m, h b = some ⟨.box cs, g, m⟩ ∧ m ≠ 0 ∧ ∃ a, φ b = some a ∧ v = .pointer (some (a.add off)) := hr
theorem liveG_some {L : Heap R} {b g : Nat} (h : liveG L b g = true) : ∃ r m, L[b]? = some ⟨.row r, g, m⟩ ∧ m ≠ 0 := by
  unfold liveG at h
  split at h
  · rename_i r g' m hb
    simp at h
    obtain ⟨rfl, hm⟩ := h
    exact ⟨r, m, hb, hm⟩
  · simp at h
theorem rel_pr {φ : Phi} {h : Hp R} {w : World} {b g i off m : Nat} {r : R} {v : Value} (hr : RelV U φ h w (.c (.pr b g i off)) v) (hb : h b = some ⟨.row r, g, m⟩) (hm : m ≠ 0) :
    i < U.len r ∧ ∃ a, φ b = some a ∧ v = .pointer (some (a.add (i * U.esz (U.tag r) + off))) := by
  obtain ⟨_, blk, hb', _, hv⟩ := hr
  rw [hb] at hb'
  simp at hb'; subst hb'
  exact hv hm rfl r rfl
theorem rel_sl {φ : Phi} {h : Hp R} {w : World} {b g m : Nat} {r : R} {v : Value} (hr : RelV U φ h w (.c (.sl b g)) v) (hb : h b = some ⟨.row r, g, m⟩) (hm : m ≠ 0) : SlOk U φ w b m r 0 (U.len r) v := by
  obtain ⟨_, blk, hb', _, hv⟩ := hr
  rw [hb] at hb'
  simp at hb'; subst hb'
  exact hv hm rfl r rfl
theorem rel_sc {φ : Phi} {h : Hp R} {w : World} {b g lo n m : Nat} {r : R} {v : Value} (hr : RelV U φ h w (.c (.sc b g lo n)) v) (hb : h b = some ⟨.row r, g, m⟩) (hm : m ≠ 0) : SlOk U φ w b m r lo n v := by
  obtain ⟨_, blk, hb', _, hv⟩ := hr
  rw [hb] at hb'
  simp at hb'; subst hb'
  exact hv hm rfl r rfl
theorem rel_sf {φ : Phi} {h : Hp R} {w : World} {b g lo n m : Nat} {r : R} {v : Value} (hr : RelV U φ h w (.c (.sf b g lo n)) v) (hb : h b = some ⟨.row r, g, m⟩) (hm : m ≠ 0) : SfOk U φ b r lo n v := by
  obtain ⟨_, blk, hb', _, hv⟩ := hr
  rw [hb] at hb'
  simp at hb'; subst hb'
  exact hv hm rfl r rfl

theorem ok_fa {X : Operand} {x : Opd} {t f off ft n : Nat} {tt : Option TypeId} (ho : o.op = .fieldAddr t X f) (hf : fieldT P t f = some (off, ft, n)) (hx : ofOp P tagT tt X = some x)
    (hK : evOp U fr L (.fa off x) K = some r) : Res P U fr L (.fa off x) o K r := by
  obtain ⟨fs, fd, hu, hfd, ho2, rfl, hn, hn0⟩ := fieldT_some hf
  subst ho2
  simp only [evOp] at hK
  split at hK
  · rename_i b off0 e
    refine .read hK fun h φ w a _ hs hsim => ?_
    obtain ⟨cs, g, m, hb, hm, ad, ha, hv⟩ := rel_ptr (ev_ok hx hs (fun _ h => h) e)
    refine ⟨.pointer (some ((ad.add off0).add fd.offset)), ?_, cs, g, m, hb, hm, ad, ha, by rw [add_add]⟩
    simp [execOp, ho, hv, Instr.fieldAt, run_und hu, hfd, Instr.sureAddr, fieldPlace, run_szT hn, hn0]
  · rename_i b g i off0 e
    split at hK
    · rename_i hl
      obtain ⟨r, m, hb, hm⟩ := liveG_some hl
      refine .read hK fun h φ w a hA hs hsim => ?_
      have hb' : h b = some ⟨.row r, g, m⟩ := by rw [hA b (by simp), hb]
      obtain ⟨hi, ad, ha, hv⟩ := rel_pr (ev_ok hx hs (fun _ h => h) e) hb' hm
      refine ⟨.pointer (some ((ad.add (i * U.esz (U.tag r) + off0)).add fd.offset)), ?_, rfl, _, hb', Nat.le_refl _, fun _ _ r' hr' => ?_⟩
      · simp [execOp, ho, hv, Instr.fieldAt, run_und hu, hfd, Instr.sureAddr, fieldPlace, run_szT hn, hn0]
      · simp at hr'; subst hr'
        exact ⟨hi, ad, ha, by rw [add_add, Nat.add_assoc]⟩
    · simp at hK
  · simp at hK

theorem ok_nck {X : Operand} {x : Opd} {tt : Option TypeId} (ho : o.op = .nilCheck X) (hx : ofOp P tagT tt X = some x)
    (hK : evOp U fr L (.nck x) K = some r) : Res P U fr L (.nck x) o K r := by
  simp only [evOp] at hK
  split at hK
  · rename_i b off0 e
    refine .read hK fun h φ w a _ hs hsim => ?_
    have hr := ev_ok hx hs (fun _ h => h) e
    obtain ⟨cs, g, m, hb, hm, ad, ha, hv⟩ := rel_ptr hr
    exact ⟨_, by simp [execOp, ho, hv], hv ▸ hr⟩
  · rename_i b g i off0 e
    split at hK
    · rename_i hl
      obtain ⟨r, m, hb, hm⟩ := liveG_some hl
      refine .read hK fun h φ w a hA hs hsim => ?_
      have hb' : h b = some ⟨.row r, g, m⟩ := by rw [hA b (by simp), hb]
      have hr := ev_ok hx hs (fun _ h => h) e
      obtain ⟨hi, ad, ha, hv⟩ := rel_pr hr hb' hm
      exact ⟨_, by simp [execOp, ho, hv], hv ▸ hr⟩
    · simp at hK
  · simp at hK

theorem mkV_some {φ : Phi} {h : Hp R} {w : World} {ag : Bool} {cs : List C} {v : V} {vs : List Value} (hv : mkV ag cs = some v) (ha : All2 (RelC U φ h w) cs vs) :
    (ag = true ∧ v = .a cs ∧ RelV U φ h w v (.agg vs.toArray)) ∨ (ag = false ∧ ∃ c u, cs = [c] ∧ vs = [u] ∧ v = .c c ∧ RelC U φ h w c u) := by
  unfold mkV at hv
  split at hv
  · simp at hv; subst hv
    exact .inl ⟨rfl, rfl, vs, rfl, ha⟩
  · rename_i x
    simp at hv; subst hv
    obtain ⟨u, us, rfl, hr, hn⟩ := ha.inv_cons
    obtain rfl := hn.inv_nil
    exact .inr ⟨rfl, x, u, rfl, rfl, rfl, hr⟩
  · simp at hv

/-- A variable that is read, its cells known. -/
theorem run_loadVar {t n : Nat} {ag : Bool} {ad : Addr} {cs : List C} {v : V} {φ : Phi} {h : Hp R} {w : World} (hag : agT P t = some ag) (hn : szT P t = some n) (hn1 : ((ag || n == 1) && n != 0) = true)
    (hl : cs.length = n) (hv : mkV ag cs = some v) (hc : ∀ (i : Nat) c, cs[i]? = some c → ∃ u, w.cell? (ad.add i) = some u ∧ RelC U φ h w c u) :
    ∃ val, (Instr.loadAt t (.pointer (some ad))).run P w = .ok val w ∧ RelV U φ h w v val := by
  have hvs := All2.exists_ (f := fun i => w.cell? (ad.add i)) hc
  obtain ⟨vs, ha, hcell⟩ := hvs
  rcases mkV_some hv ha with ⟨rfl, rfl, hr⟩ | ⟨rfl, c, u, rfl, rfl, rfl, hr⟩
  · refine ⟨.agg vs.toArray, ?_, hr⟩
    have hlen : vs.length = n := by rw [← ha.1, hl]
    have := run_loadCells_list (P := P) w ad vs hcell
    rw [hlen] at this
    simp [Instr.loadAt, Instr.sureAddr, loadVar, agT_some hag, run_szT hn, this]
  · refine ⟨u, ?_, hr⟩
    have h0 := hcell 0 u rfl
    rw [add_zero'] at h0
    simp [Instr.loadAt, Instr.sureAddr, loadVar, agT_some hag, h0]

theorem flatten_get {α : Type} {e : Nat} : ∀ (ls : List (List α)), (∀ x ∈ ls, x.length = e) → ∀ (i k : Nat) (x : List α), ls[i]? = some x → k < e → ls.flatten[i * e + k]? = x[k]? := by
  intro ls
  induction ls with
  | nil => intro _ i k x h; simp at h
  | cons y ys ih =>
    intro hall i k x h hk
    have hy : y.length = e := hall y (by simp)
    cases i with
    | zero =>
      simp at h; subst h
      simp only [Nat.zero_mul, Nat.zero_add, List.flatten_cons]
      rw [List.getElem?_append_left (by omega)]
    | succ i =>
      simp only [List.flatten_cons]
      rw [List.getElem?_append_right (by rw [hy, Nat.succ_mul]; omega)]
      have : (i + 1) * e + k - y.length = i * e + k := by rw [hy, Nat.succ_mul]; omega
      rw [this]
      exact ih (fun x hx => hall x (by simp [hx])) i k x (by simpa using h) hk
theorem flat_row_get (r : R) {i k : Nat} (hi : i < U.len r) (hk : k < U.esz (U.tag r)) : (flat U (.row r))[i * U.esz (U.tag r) + k]? = (U.getD r i)[k]? :=
  flatten_get (U.cells r) (U.tag_esz r) i k _ (U.getD_eq r i hi) hk
theorem getD_len (r : R) {i : Nat} (hi : i < U.len r) : (U.getD r i).length = U.esz (U.tag r) :=
  U.tag_esz r _ (List.mem_of_getElem? (U.getD_eq r i hi))

theorem own_some {L : Heap R} {b g : Nat} {k : BK R} (h : own L b = some (k, g)) : L[b]? = some ⟨k, g, 2⟩ := by
  unfold own at h
  split at h
  · rename_i hb; simp at h; obtain ⟨rfl, rfl⟩ := h; exact hb
  · simp at h

theorem ok_ld {X : Operand} {x : Opd} {t n : Nat} {ag : Bool} {tt : Option TypeId} (ho : o.op = .load t X) (hag : agT P t = some ag) (hn : szT P t = some n) (hn1 : ((ag || n == 1) && n != 0) = true) (hx : ofOp P tagT tt X = some x)
    (hK : evOp U fr L (.ld ag n x) K = some r) : Res P U fr L (.ld ag n x) o K r := by
  simp only [evOp] at hK
  split at hK
  · rename_i b off e
    split at hK
    · rename_i cs g m hb
      split at hK
      · simp at hK
      · rename_i hm
        split at hK
        · rename_i hle
          split at hK
          · rename_i v hv
            refine .read hK fun h φ w a hA hs hsim => ?_
            have hb' : h b = some ⟨.box cs, g, m⟩ := by rw [hA b (by simp), hb]
            obtain ⟨_, _, _, hb2, _, ad, ha, hv2⟩ := rel_ptr (ev_ok hx hs (fun _ h => h) e)
            rcases hsim.cells hb' hm with ⟨_, hnb⟩ | ⟨ad', ha', hcells⟩
            · exact absurd rfl (hnb cs)
            · rw [ha'] at ha; simp at ha; subst ha
              obtain ⟨val, hrun, hr⟩ := run_loadVar (P := P) (ad := ad'.add off) hag hn hn1 (by simp; omega) hv (fun i c hi => by
                rw [List.getElem?_take] at hi
                split at hi
                · rw [List.getElem?_drop] at hi
                  obtain ⟨u, hu, hr⟩ := hcells (off + i) c hi
                  exact ⟨u, by rw [add_add]; exact hu, hr⟩
                · simp at hi)
              exact ⟨val, by simp [execOp, ho, hv2, hrun], hr⟩
          · simp at hK
        · simp at hK
    · simp at hK
  · rename_i b g i off e
    split at hK
    · rename_i row g' m hb
      split at hK
      · simp at hK
      · rename_i hm
        split at hK
        · rename_i hg
          subst hg
          split at hK
          · rename_i hle
            split at hK
            · rename_i v hv
              refine .read hK fun h φ w a hA hs hsim => ?_
              have hb' : h b = some ⟨.row row, g', m⟩ := by rw [hA b (by simp), hb]
              obtain ⟨hi, ad, ha, hv2⟩ := rel_pr (ev_ok hx hs (fun _ h => h) e) hb' hm
              have hlen := getD_len row hi
              rcases hsim.cells hb' hm with ⟨hnil, _⟩ | ⟨ad', ha', hcells⟩
              · exfalso
                have := U.getD_eq row i hi
                have h0 := flat_row_get row hi (k := 0) (by simp at hn1; omega)
                rw [hnil] at h0
                simp at h0
                rw [h0] at hlen
                simp at hlen hn1
                omega
              · rw [ha'] at ha; simp at ha; subst ha
                obtain ⟨val, hrun, hr⟩ := run_loadVar (P := P) (ad := ad'.add (i * U.esz (U.tag row) + off)) hag hn hn1 (by simp; omega) hv (fun j c hj => by
                  rw [List.getElem?_take] at hj
                  split at hj
                  · rename_i hjn
                    rw [List.getElem?_drop] at hj
                    obtain ⟨u, hu, hr⟩ := hcells (i * U.esz (U.tag row) + (off + j)) c (by rw [flat_row_get row hi (by omega)]; exact hj)
                    exact ⟨u, by rw [add_add, Nat.add_assoc]; exact hu, hr⟩
                  · simp at hj)
                exact ⟨val, by simp [execOp, ho, hv2, hrun], hr⟩
            · simp at hK
          · simp at hK
        · simp at hK
    · simp at hK
  · simp at hK
end
end Go.Eng
/- The engine, part 6: more operations that leave memory alone. -/
namespace Go.Eng
section
variable {R : Type} {U : RowU R} {P : Program} {tagT : TypeId → Option Nat} {ρ : Type}
variable {fr : Fr} {L : Heap R} {o : Oper} {K : KV R ρ} {r : ρ}

theorem sub_l {x y : Opd} : ∀ n ∈ oslots x, n ∈ oslots x ++ oslots y := fun _ h => List.mem_append_left _ h
theorem sub_r {x y : Opd} : ∀ n ∈ oslots y, n ∈ oslots x ++ oslots y := fun _ h => List.mem_append_right _ h

theorem run_intBin {op : BinOp} {k : IntKind} {a b : Int} {c : C} (h : intBin op k a b = some c) (t : TypeId) (x y : Operand) (w : World) :
    ∃ val, (do eqGuard op t x y (.int k a) (.int k b); binOp op t (.int k a) (.int k b) : Sem Value).run P w = .ok val w ∧ (∀ (φ : Phi) (hp : Hp R), RelC U φ hp w c val) := by
  cases op <;> simp [intBin] at h <;> subst h
  all_goals exact ⟨_, by simp [eqGuard, binOp, Op.intArith, Op.intCmp, intBits_and, intBits_or, intBits_xor, intBits_andNot], fun _ _ => rfl⟩

theorem run_int_ops (t : TypeId) (X Y : Operand) (k : IntKind) (a b : Int) (w : World) (hb : b ≠ 0) :
    (do eqGuard .quo t X Y (.int k a) (.int k b); binOp .quo t (.int k a) (.int k b) : Sem Value).run P w = .ok (.int k (k.wrap (a.tdiv b))) w ∧
    (do eqGuard .rem t X Y (.int k a) (.int k b); binOp .rem t (.int k a) (.int k b) : Sem Value).run P w = .ok (.int k (a.tmod b)) w := by
  constructor <;> simp [eqGuard, binOp, Op.intDiv, hb]
theorem run_shift_ops (t : TypeId) (X Y : Operand) (k k' : IntKind) (a b : Int) (w : World) (hb : 0 ≤ b) :
    (do eqGuard .shl t X Y (.int k a) (.int k' b); binOp .shl t (.int k a) (.int k' b) : Sem Value).run P w = .ok (.int k (k.wrap (a * 2 ^ Nat.min b.toNat k.bits))) w ∧
    (do eqGuard .shr t X Y (.int k a) (.int k' b); binOp .shr t (.int k a) (.int k' b) : Sem Value).run P w = .ok (.int k (a.fdiv (2 ^ Nat.min b.toNat k.bits))) w := by
  have h' : ¬ b < 0 := by omega
  constructor
  · simp [eqGuard, binOp, Op.shift, h']
  · simp [eqGuard, binOp, Op.shift, h']

theorem ok_bin {op : BinOp} {X Y : Operand} {x y : Opd} {t u : Nat} {t1 t2 : Option TypeId} (ho : o.op = .binOp op t X Y u) (hx : ofOp P tagT t1 X = some x) (hy : ofOp P tagT t2 Y = some y)
    (hK : evOp U fr L (.bin op x y) K = some r) : Res P U fr L (.bin op x y) o K r := by
  simp only [evOp] at hK
  split at hK
  · rename_i v1 v2 e1 e2
    have key : ∀ (c : C), K (.c c) L [] [] = some r → (∀ (h : Hp R) (φ : Phi) (w : World) (a : Act), RelV U φ h w v1 (a.eval X) → RelV U φ h w v2 (a.eval Y) →
        ∃ val, (do eqGuard op t X Y (a.eval X) (a.eval Y); binOp op t (a.eval X) (a.eval Y) : Sem Value).run P w = .ok val w ∧ RelC U φ h w c val) → Res P U fr L (.bin op x y) o K r := by
      intro c hc hrun
      refine .read hc fun h φ w a _ hs _ => ?_
      obtain ⟨val, h1, h2⟩ := hrun h φ w a (ev_ok hx hs sub_l e1) (ev_ok hy hs sub_r e2)
      refine ⟨val, ?_, h2⟩
      simp only [execOp, ho]
      rw [Sem.run_bind, h1]
      rfl
    unfold evBin at hK
    split at hK
    · rename_i k a k' b
      split at hK
      · obtain ⟨hb, hK⟩ := cond_none hK
        refine key _ hK fun h φ w a ha hb' => ?_
        rw [relInt ha, relInt hb']
        exact ⟨_, (run_shift_ops t X Y _ _ _ _ w (by simpa using hb)).1, rfl⟩
      · obtain ⟨hb, hK⟩ := cond_none hK
        refine key _ hK fun h φ w a ha hb' => ?_
        rw [relInt ha, relInt hb']
        exact ⟨_, (run_shift_ops t X Y _ _ _ _ w (by simpa using hb)).2, rfl⟩
      · split at hK
        · rename_i hk
          subst hk
          obtain ⟨hb, hK⟩ := cond_none hK
          refine key _ hK fun h φ w a ha hb' => ?_
          rw [relInt ha, relInt hb']
          exact ⟨_, (run_int_ops t X Y _ _ _ w (by simpa using hb)).1, rfl⟩
        · simp at hK
      · split at hK
        · rename_i hk
          subst hk
          obtain ⟨hb, hK⟩ := cond_none hK
          refine key _ hK fun h φ w a ha hb' => ?_
          rw [relInt ha, relInt hb']
          exact ⟨_, (run_int_ops t X Y _ _ _ w (by simpa using hb)).2, rfl⟩
        · simp at hK
      · split at hK
        · rename_i hk
          subst hk
          split at hK
          · rename_i c hc
            refine key c hK fun h φ w a ha hb' => ?_
            rw [relInt ha, relInt hb']
            obtain ⟨val, h1, h2⟩ := run_intBin (P := P) (U := U) hc t X Y w
            exact ⟨val, h1, h2 φ h⟩
          · simp at hK
        · simp at hK
    · split at hK
      · obtain ⟨hb, hK⟩ := cond_none hK
        refine key _ hK fun h φ w a ha hb' => ?_
        rw [relStr ha, relStr hb']
        exact ⟨_, by simp only [Sem.run_bind, binOp_string_add]; simp [eqGuard]; rw [run_string_add_sum]; have := of_decide_eq_true hb; omega, rfl⟩
      · refine key _ hK fun h φ w a ha hb' => ?_
        rw [relStr ha, relStr hb']
        exact ⟨_, by simp only [Sem.run_bind, binOp_string_eql]; simp [eqGuard], rfl⟩
      · refine key _ hK fun h φ w a ha hb' => ?_
        rw [relStr ha, relStr hb']
        exact ⟨_, by simp only [Sem.run_bind, binOp_string_neq]; simp [eqGuard], rfl⟩
      · simp at hK
    · simp at hK
  · simp at hK

theorem ok_eqb {op : BinOp} {ng : Bool} {X Y : Operand} {x y : Opd} {t u : Nat} {t1 t2 : Option TypeId} (ho : o.op = .binOp op t X Y u) (hop : (op = .eql ∧ ng = false) ∨ (op = .neq ∧ ng = true)) (ht : P.underlying t = some .bool) (hx : ofOp P tagT t1 X = some x) (hy : ofOp P tagT t2 Y = some y)
    (hK : evOp U fr L (.eqb ng x y) K = some r) : Res P U fr L (.eqb ng x y) o K r := by
  simp only [evOp] at hK
  split at hK
  · rename_i a b e1 e2
    refine .read hK fun h φ w ac _ hs _ => ⟨.bool (if ng then !(a == b) else a == b), ?_, rfl⟩
    have h1 := relBool (ev_ok hx hs sub_l e1)
    have h2 := relBool (ev_ok hy hs sub_r e2)
    rcases hop with ⟨rfl, rfl⟩ | ⟨rfl, rfl⟩
    · simp [execOp, ho, h1, h2, eqGuard, run_eql_bool w t _ _ ht]
    · simp [execOp, ho, h1, h2, eqGuard, run_neq_bool w t _ _ ht]
  · simp at hK
theorem ok_not {X : Operand} {x : Opd} {t : Nat} {tt : Option TypeId} (ho : o.op = .unOp .not t X) (hx : ofOp P tagT tt X = some x) (hK : evOp U fr L (.not x) K = some r) : Res P U fr L (.not x) o K r := by
  simp only [evOp] at hK
  split at hK
  · rename_i b e
    refine .read hK fun h φ w a _ hs _ => ⟨.bool (!b), ?_, rfl⟩
    simp [execOp, ho, relBool (ev_ok hx hs (fun _ h => h) e), Op.unary]
  · simp at hK
theorem ok_neg {X : Operand} {x : Opd} {t : Nat} {tt : Option TypeId} (ho : o.op = .unOp .neg t X) (hx : ofOp P tagT tt X = some x) (hK : evOp U fr L (.neg x) K = some r) : Res P U fr L (.neg x) o K r := by
  simp only [evOp] at hK
  split at hK
  · rename_i k n e
    refine .read hK fun h φ w a _ hs _ => ⟨.int k (k.wrap (0 - n)), ?_, rfl⟩
    simp [execOp, ho, relInt (ev_ok hx hs (fun _ h => h) e), Op.unary, Op.intArith]
  · simp at hK
theorem ok_inv {X : Operand} {x : Opd} {t : Nat} {tt : Option TypeId} (ho : o.op = .unOp .xor t X) (hx : ofOp P tagT tt X = some x) (hK : evOp U fr L (.inv x) K = some r) : Res P U fr L (.inv x) o K r := by
  simp only [evOp] at hK
  split at hK
  · rename_i k n e
    refine .read hK fun h φ w a _ hs _ => ⟨.int k (bits .xor k (if k.signed then -1 else k.max) n), ?_, rfl⟩
    simp [execOp, ho, relInt (ev_ok hx hs (fun _ h => h) e), Op.unary, intBits_xor]
  · simp at hK
theorem ok_conv {X : Operand} {x : Opd} {s d : Nat} {k0 k : IntKind} {tt : Option TypeId} (ho : o.op = .convert s d X) (h1 : P.underlying s = some (.int k0)) (h2 : P.underlying d = some (.int k)) (hx : ofOp P tagT tt X = some x)
    (hK : evOp U fr L (.conv k x) K = some r) : Res P U fr L (.conv k x) o K r := by
  simp only [evOp] at hK
  split at hK
  · rename_i k1 n e
    refine .read hK fun h φ w a _ hs _ => ⟨.int k (k.wrap n), ?_, rfl⟩
    simp [execOp, ho, relInt (ev_ok hx hs (fun _ h => h) e), convert, run_und h1, run_und h2, Conv.intToInt]
  · simp at hK
theorem ok_min {X Y : Operand} {x y : Opd} {c : Call} {t1 t2 : Option TypeId} (ho : o.op = .call c) (hc : c.callee = .builtin .min) (ha : c.args.toList = [X, Y]) (hx : ofOp P tagT t1 X = some x) (hy : ofOp P tagT t2 Y = some y)
    (hK : evOp U fr L (.min x y) K = some r) : Res P U fr L (.min x y) o K r := by
  have ha' : c.args = #[X, Y] := by apply Array.ext'; simpa using ha
  simp only [evOp] at hK
  split at hK
  · rename_i k a k' b e1 e2
    refine .read hK fun h φ w a _ hs _ => ⟨.int k (mn _ _), ?_, rfl⟩
    simp [execOp, ho, resolve, hc, ha', relInt (ev_ok hx hs sub_l e1), relInt (ev_ok hy hs sub_r e2), invoke, builtin, Builtin.min_, Builtin.min2, mn]
  · simp at hK
theorem ok_max {X Y : Operand} {x y : Opd} {c : Call} {t1 t2 : Option TypeId} (ho : o.op = .call c) (hc : c.callee = .builtin .max) (ha : c.args.toList = [X, Y]) (hx : ofOp P tagT t1 X = some x) (hy : ofOp P tagT t2 Y = some y)
    (hK : evOp U fr L (.max x y) K = some r) : Res P U fr L (.max x y) o K r := by
  have ha' : c.args = #[X, Y] := by apply Array.ext'; simpa using ha
  simp only [evOp] at hK
  split at hK
  · rename_i k a k' b e1 e2
    refine .read hK fun h φ w a _ hs _ => ⟨.int k (mx _ _), ?_, rfl⟩
    simp [execOp, ho, resolve, hc, ha', relInt (ev_ok hx hs sub_l e1), relInt (ev_ok hy hs sub_r e2), invoke, builtin, Builtin.max_, Builtin.max2, mx]
  · simp at hK
end
end Go.Eng
/- The engine, part 7: structs compared, fields, slices cut and asked, strings. -/
namespace Go.Eng
section
variable {R : Type} {U : RowU R} {P : Program} {tagT : TypeId → Option Nat} {ρ : Type}
variable {fr : Fr} {L : Heap R} {o : Oper} {K : KV R ρ} {r : ρ}

theorem agT_of_size {t : Nat} {ag : Bool} (h : agT P t = some ag) (w : World) : (isAgg t).run P w = .ok ag w := agT_some h w

theorem eqAt_append {xs ys : List C} : ∀ {l l' : List (Nat × Bool)} {r : Bool}, eqAt xs ys (l ++ l') = some r → ∃ r1 r2, eqAt xs ys l = some r1 ∧ eqAt xs ys l' = some r2 ∧ r = (r1 && r2) := by
  intro l
  induction l with
  | nil => intro l' r h; exact ⟨true, r, rfl, h, by simp⟩
  | cons o os ih =>
    intro l' r h
    obtain ⟨o, bl⟩ := o
    simp only [List.cons_append, eqAt] at h
    split at h
    · rename_i k a k' b r0 e1 e2 e3 
      split at h
      · rename_i hk
        obtain ⟨r1, r2, h1, h2, rfl⟩ := ih e3
        simp at h; subst h
        exact ⟨(a == b) && r1, r2, by simp [eqAt, e1, e2, h1, hk], h2, by simp [Bool.and_assoc]⟩
      · simp at h
    · rename_i a b r0 e1 e2 e3
      obtain ⟨r1, r2, h1, h2, rfl⟩ := ih e3
      simp at h; subst h
      exact ⟨(a == b) && r1, r2, by simp [eqAt, e1, e2, h1], h2, by simp [Bool.and_assoc]⟩
    · simp at h

def IsPart (P : Program) (t base : Nat) (us : List Value) (v : Value) : Prop :=
  match P.underlying t with
  | some (.struct _) => ∃ n, szT P t = some n ∧ base + n ≤ us.length ∧ v = .agg ((us.drop base).take n).toArray
  | _ => us[base]? = some v

theorem cut_cut {α : Type} (us : List α) (base off n m : Nat) (h : off + n ≤ m) : (((us.drop base).take m).drop off).take n = (us.drop (base + off)).take n := by
  apply List.ext_getElem?
  intro i
  simp only [List.getElem?_drop, List.getElem?_take]
  by_cases hi : i < n
  · rw [if_pos hi, if_pos hi, if_pos (by omega), Nat.add_assoc]
  · rw [if_neg hi, if_neg hi]
theorem cut_get {α : Type} (us : List α) (base m j : Nat) (h : j < m) : ((us.drop base).take m)[j]? = us[base + j]? := by
  rw [List.getElem?_take, if_pos h, List.getElem?_drop]

theorem part_run {t d off n m base : Nat} {l : List (Nat × Bool)} {us : List Value} (hl : leavesT P d t (base + off) = some l) (hn : szT P t = some n) (hn0 : 0 < n) (hle : off + n ≤ m) (hb : base + m ≤ us.length) (w : World) :
    ∃ v, (part t ((us.drop base).take m).toArray off).run P w = .ok v w ∧ IsPart P t (base + off) us v := by
  cases d with
  | zero => simp [leavesT] at hl
  | succ d =>
    simp only [leavesT] at hl
    split at hl
    · rename_i k hu
      obtain ⟨v, hv⟩ : ∃ v, us[base + off]? = some v := ⟨us[base + off]'(by omega), List.getElem?_eq_getElem _⟩
      have h1 := cut_get us base m off (by omega)
      rw [hv] at h1
      refine ⟨v, ?_, by simp [IsPart, hu, hv]⟩
      simp only [part, isAgg, Sem.run_bind, run_und hu, Result.andThen_ok, Sem.run_pure]
      simp only [List.getElem?_toArray, h1]
      rfl
    · rename_i hu
      obtain ⟨v, hv⟩ : ∃ v, us[base + off]? = some v := ⟨us[base + off]'(by omega), List.getElem?_eq_getElem _⟩
      have h1 := cut_get us base m off (by omega)
      rw [hv] at h1
      refine ⟨v, ?_, by simp [IsPart, hu, hv]⟩
      simp only [part, isAgg, Sem.run_bind, run_und hu, Result.andThen_ok, Sem.run_pure]
      simp only [List.getElem?_toArray, h1]
      rfl
    · rename_i fs hu
      refine ⟨.agg ((us.drop (base + off)).take n).toArray, ?_, by simp only [IsPart, hu]; exact ⟨n, hn, by omega, rfl⟩⟩
      simp only [part, isAgg, Sem.run_bind, run_und hu, Result.andThen_ok, Sem.run_pure]
      simp only [if_true, Sem.run_bind, run_szT hn, Result.andThen_ok, Sem.run_pure]
      rw [← cut_cut us base off n m hle]
      congr 2
      simp [List.extract_toArray, List.extract_eq_take_drop]
    · simp at hl

theorem relInt' {φ : Phi} {h : Hp R} {w : World} {k : IntKind} {n : Int} {v : Value} (hr : RelC U φ h w (.int k n) v) : v = .int k n := hr

theorem eq_run {φ : Phi} {hp : Hp R} {w0 : World} {cx cy : List C} {ux uy : List Value} (hx : All2 (RelC U φ hp w0) cx ux) (hy : All2 (RelC U φ hp w0) cy uy) (w : World) :
    ∀ (d t base : Nat) (lay : List (Nat × Bool)), leavesT P d t base = some lay → ∀ (res : Bool), eqAt cx cy lay = some res → ∀ D, d ≤ D → ∀ vx vy, IsPart P t base ux vx → IsPart P t base uy vy →
      (Op.equalIn D t vx vy).run P w = .ok res w := by
  intro d
  induction d with
  | zero => intro t base lay hl; simp [leavesT] at hl
  | succ d ih =>
    intro t base lay hl res hres D hD vx vy px py
    obtain ⟨D, rfl⟩ : ∃ D', D = D' + 1 := ⟨D - 1, by omega⟩
    simp only [leavesT] at hl
    split at hl
    · rename_i k hu
      simp at hl; subst hl
      simp only [IsPart, hu] at px py
      simp only [eqAt] at hres
      split at hres
      · rename_i k1 a k2 b r0 e1 e2 _ e3
        split at hres
        · rename_i hk
          subst hk
          simp at e3 hres; subst e3; simp at hres; subst hres
          obtain ⟨u1, g1, r1⟩ := hx.get e1
          obtain ⟨u2, g2, r2⟩ := hy.get e2
          rw [g1] at px; rw [g2] at py
          simp at px py; subst px py
          rw [relInt' r1, relInt' r2]
          exact run_equalIn_int w D t k1 k a b hu
        · simp at hres
      · rename_i e _; simp at e
      · simp at hres
    · rename_i hu
      simp at hl; subst hl
      simp only [IsPart, hu] at px py
      simp only [eqAt] at hres
      split at hres
      · rename_i e _; simp at e
      · rename_i a b r0 e1 e2 _ e3
        simp at e3 hres; subst e3; simp at hres; subst hres
        obtain ⟨u1, g1, r1⟩ := hx.get e1
        obtain ⟨u2, g2, r2⟩ := hy.get e2
        rw [g1] at px; rw [g2] at py
        simp at px py; subst px py
        have e1 : u1 = .bool a := r1
        have e2 : u2 = .bool b := r2
        rw [e1, e2]
        exact run_equalIn_bool w D t a b hu
      · simp at hres
    · rename_i fs hu
      split at hl
      · simp at hl
      · rename_i hst
        simp only [IsPart, hu] at px py
        obtain ⟨m, hm, hmx, rfl⟩ := px
        obtain ⟨m', hm', hmy, rfl⟩ := py
        rw [hm] at hm'; simp at hm'; subst hm'
        have hf : P.fieldsOf t = fs := by simp [Program.fieldsOf, hu]
        rw [run_equalIn_struct w D t _ _ (by rw [hf]; exact hu) (by simpa using hst), hf]
        generalize fs.toList = fl at hl
        clear hu hf hst
        induction fl generalizing lay res with
        | nil =>
          simp at hl; subst hl
          simp [eqAt] at hres; subst hres
          simp [Op.eqFields]
        | cons f fl ihf =>
          simp only [List.foldr_cons] at hl
          split at hl
          · rename_i l n m2 e1 e2 e3
            rw [hm] at e3; simp at e3; subst e3
            split at hl
            · rename_i hc
              obtain ⟨hname, hle, hn0⟩ := hc
              obtain ⟨l1, hl1, rfl⟩ := Option.map_eq_some_iff.1 hl
              obtain ⟨r1, r2, h1, h2, rfl⟩ := eqAt_append hres
              obtain ⟨v1, p1, q1⟩ := part_run hl1 e2 hn0 hle hmx w
              obtain ⟨v2, p2, q2⟩ := part_run hl1 e2 hn0 hle hmy w
              have he := ih f.type (base + f.offset) l1 hl1 r1 h1 D (by omega) v1 v2 q1 q2
              simp only [Op.eqFields, if_pos hname, Sem.run_bind, p1, p2, Result.andThen_ok, he]
              cases r1
              · simp
              · simp only [Bool.not_true, Bool.false_eq_true, if_false, Bool.true_and]
                exact ihf l r2 h2 e1
            · simp at hl
          · simp at hl
    · simp at hl

theorem ok_eqs {op : BinOp} {ng : Bool} {n : Nat} {lay : List (Nat × Bool)} {X Y : Operand} {x y : Opd} {t u : Nat} {fs : Array Field} {t1 t2 : Option TypeId} (ho : o.op = .binOp op t X Y u) (hop : (op = .eql ∧ ng = false) ∨ (op = .neq ∧ ng = true)) (ht : P.underlying t = some (.struct fs)) (hg : P.eqGuardType P.depth t = false)
    (hl : leavesT P 20 t 0 = some lay) (hx : ofOp P tagT t1 X = some x) (hy : ofOp P tagT t2 Y = some y) (hn : szT P t = some n)
    (hK : evOp U fr L (.eqs ng n lay x y) K = some r) : Res P U fr L (.eqs ng n lay x y) o K r := by
  simp only [evOp] at hK
  split at hK
  · rename_i xs ys e1 e2
    split at hK
    case isFalse => simp at hK
    rename_i hlen
    obtain ⟨l1, l2⟩ := hlen
    split at hK
    · rename_i b hb
      refine .read hK fun h φ w a _ hs _ => ⟨.bool (if ng then !b else b), ?_, rfl⟩
      obtain ⟨ux, h1, a1⟩ := ev_ok hx hs sub_l e1
      obtain ⟨uy, h2, a2⟩ := ev_ok hy hs sub_r e2
      have hr := eq_run (P := P) a1 a2 w 20 t 0 lay hl b hb 10000 (by omega) (.agg ux.toArray) (.agg uy.toArray)
        (by simp only [IsPart, ht]; exact ⟨n, hn, by rw [← a1.1, l1]; omega, by rw [List.drop_zero, List.take_of_length_le (by rw [← a1.1, l1]; omega)]⟩)
        (by simp only [IsPart, ht]; exact ⟨n, hn, by rw [← a2.1, l2]; omega, by rw [List.drop_zero, List.take_of_length_le (by rw [← a2.1, l2]; omega)]⟩)
      simp only [execOp, ho]
      rw [h1, h2]
      rcases hop with ⟨rfl, rfl⟩ | ⟨rfl, rfl⟩
      · simp only [Sem.run_bind, run_eqGuard_agg w _ t X Y _ _ hg, Result.andThen_ok, run_eql_struct, hr]
        rfl
      · simp only [Sem.run_bind, run_eqGuard_agg w _ t X Y _ _ hg, Result.andThen_ok, run_neq_struct, hr]
        rfl
    · simp at hK
  · simp at hK
end
end Go.Eng
/- The engine, part 8: parts, lengths, places in slices, cuts. -/
namespace Go.Eng
section
variable {R : Type} {U : RowU R} {P : Program} {tagT : TypeId → Option Nat} {ρ : Type}
variable {fr : Fr} {L : Heap R} {o : Oper} {K : KV R ρ} {r : ρ}

/-- The kinds of rows fit their elements' types. -/
structure TagOk (P : Program) (U : RowU R) (tagT : TypeId → Option Nat) : Prop where
  ok : ∀ t g, tagT t = some g → ∃ i z, P.info? t = some i ∧ i.size = U.esz g ∧ 0 < i.size ∧ 0 < i.bytes ∧ i.zero = some z ∧ z.cells.size = i.size

theorem ok_fv {X : Operand} {x : Opd} {t f off ft n : Nat} {ag : Bool} {tt : Option TypeId} (ho : o.op = .field t X f) (hf : fieldT P t f = some (off, ft, n)) (hag : agT P ft = some ag) (hn1 : (ag || n == 1) = true) (hx : ofOp P tagT tt X = some x)
    (hK : evOp U fr L (.fv ag off n x) K = some r) : Res P U fr L (.fv ag off n x) o K r := by
  obtain ⟨fs, fd, hu, hfd, ho2, rfl, hn, hn0⟩ := fieldT_some hf
  subst ho2
  simp only [evOp] at hK
  split at hK
  · rename_i cs e
    split at hK
    · rename_i hle
      split at hK
      · rename_i v hv
        refine .read hK fun h φ w a _ hs _ => ?_
        obtain ⟨us, h1, a1⟩ := ev_ok hx hs (fun _ h => h) e
        have a2 := (a1.drop fd.offset).take n
        rcases mkV_some hv a2 with ⟨rfl, rfl, hr⟩ | ⟨rfl, c, u, e1, e2, rfl, hr⟩
        · refine ⟨_, ?_, hr⟩
          simp only [execOp, ho, h1, Instr.field, Sem.run_bind, run_und hu, Result.andThen_ok]
          simp only [hfd, Sem.run_bind, asAgg, Sem.run_pure, Result.andThen_ok, part, agT_some hag, if_true, run_szT hn]
          simp [List.extract_toArray, List.extract_eq_take_drop]
        · refine ⟨u, ?_, hr⟩
          have hg : us[fd.offset]? = some u := by
            have : ((us.drop fd.offset).take n)[0]? = some u := by rw [e2]; rfl
            rw [List.getElem?_take] at this
            split at this
            · simpa using this
            · simp at this
          simp only [execOp, ho, h1, Instr.field, Sem.run_bind, run_und hu, Result.andThen_ok]
          simp only [hfd, Sem.run_bind, asAgg, Sem.run_pure, Result.andThen_ok, part, agT_some hag]
          simp [hg]
      · simp at hK
    · simp at hK
  · simp at hK

theorem ok_ext {X : Operand} {x : Opd} {i : Nat} {tt : Option TypeId} (ho : o.op = .extract X i) (hx : ofOp P tagT tt X = some x)
    (hK : evOp U fr L (.ext i x) K = some r) : Res P U fr L (.ext i x) o K r := by
  simp only [evOp] at hK
  split at hK
  · rename_i vs e
    split at hK
    · rename_i cs hi
      refine .read hK fun h φ w a _ hs _ => ?_
      obtain ⟨us, h1, a1⟩ := ev_ok hx hs (fun _ h => h) e
      obtain ⟨u, hu, hr⟩ := a1.get hi
      exact ⟨u, by simp [execOp, ho, h1, Instr.extract, hu], hr⟩
    · rename_i c hi
      refine .read hK fun h φ w a _ hs _ => ?_
      obtain ⟨us, h1, a1⟩ := ev_ok hx hs (fun _ h => h) e
      obtain ⟨u, hu, hr⟩ := a1.get hi
      obtain ⟨c', hc', hr⟩ := hr
      simp at hc'; subst hc'
      exact ⟨u, by simp [execOp, ho, h1, Instr.extract, hu], hr⟩
    · simp at hK
  · simp at hK

theorem lenOf_some {c : C} {n : Nat} (h : lenOf U L c = some n) :
    (∃ t, c = .nils t ∧ n = 0) ∨ ∃ b g r m, L[b]? = some ⟨.row r, g, m⟩ ∧ m ≠ 0 ∧ blkOf c = [b] ∧
      ((c = .sl b g ∧ n = U.len r) ∨ (∃ lo, c = .sc b g lo n) ∨ ∃ lo, c = .sf b g lo n) := by
  unfold lenOf at h
  split at h
  · split at h
    · rename_i b g r g' m hb
      split at h
      · simp at h
      · split at h
        · rename_i hm hg
          subst hg
          simp at h; subst h
          exact .inr ⟨_, _, r, m, hb, hm, rfl, .inl ⟨rfl, rfl⟩⟩
        · simp at h
    · simp at h
  · split at h
    · rename_i b g lo n' r g' m hb
      split at h
      · simp at h
      · split at h
        · rename_i hm hg
          subst hg
          simp at h; subst h
          exact .inr ⟨_, _, r, m, hb, hm, rfl, .inr (.inl ⟨_, rfl⟩)⟩
        · simp at h
    · simp at h
  · split at h
    · rename_i b g lo n' r g' m hb
      split at h
      · simp at h
      · split at h
        · rename_i hm hg
          subst hg
          simp at h; subst h
          exact .inr ⟨_, _, r, m, hb, hm, rfl, .inr (.inr ⟨_, rfl⟩)⟩
        · simp at h
    · simp at h
  · rename_i t
    simp at h
    exact .inl ⟨t, rfl, h.symm⟩
  · simp at h

/-- Whatever shows n elements is a slice of length n. -/
theorem len_val {φ : Phi} {h : Hp R} {w : World} {c : C} {n : Nat} {v : Value} (hl : lenOf U L c = some n) (hA : ∀ b ∈ blkOf c, h b = L[b]?) (hr : RelC U φ h w c v) : ∃ A cap, v = .slice A n cap := by
  rcases lenOf_some hl with ⟨t, rfl, rfl⟩ | ⟨b, g, r, m, hb, hm, hbk, hc⟩
  · exact ⟨none, 0, hr⟩
  · have hb' : h b = some ⟨.row r, g, m⟩ := by rw [hA b (by rw [hbk]; simp), hb]
    rcases hc with ⟨rfl, rfl⟩ | ⟨lo, rfl⟩ | ⟨lo, rfl⟩
    · obtain ⟨_, A, cap, rfl, _⟩ := rel_sl hr hb' hm
      exact ⟨A, cap, rfl⟩
    · obtain ⟨_, A, cap, rfl, _⟩ := rel_sc hr hb' hm
      exact ⟨A, cap, rfl⟩
    · obtain ⟨_, A, rfl, _⟩ := rel_sf (w := w) hr hb' hm
      exact ⟨A, _, rfl⟩

theorem ok_len {X : Operand} {x : Opd} {c : Call} {t e : Nat} {tt : Option TypeId} (ho : o.op = .call c) (hc : c.callee = .builtin .len) (ha : c.args.toList = [X]) (ht : c.argTypes[0]? = some t) (hu : P.underlying t = some (.slice e)) (hx : ofOp P tagT tt X = some x)
    (hK : evOp U fr L (.len x) K = some r) : Res P U fr L (.len x) o K r := by
  have ha' : c.args = #[X] := by apply Array.ext'; simpa using ha
  simp only [evOp] at hK
  split at hK
  · rename_i b n e1
    refine .read hK fun h φ w a hA hs _ => ?_
    obtain ⟨ad, _, hv⟩ := ev_ok hx hs (fun _ h => h) e1
    refine ⟨.int .i64 n, ?_, rfl⟩
    simp [execOp, ho, resolve, hc, ha', hv, invoke, builtin, Builtin.len_, ht, run_und hu, goInt]
  · rename_i cc _ e1
    split at hK
    · rename_i n hn
      refine .read hK fun h φ w a hA hs _ => ?_
      obtain ⟨A, cap, hv⟩ := len_val hn hA (ev_ok hx hs (fun _ h => h) e1)
      refine ⟨.int .i64 n, ?_, rfl⟩
      simp [execOp, ho, resolve, hc, ha', hv, invoke, builtin, Builtin.len_, ht, run_und hu, goInt]
    · simp at hK
  · simp at hK
theorem ok_lens {X : Operand} {x : Opd} {c : Call} {t : Nat} {tt : Option TypeId} (ho : o.op = .call c) (hc : c.callee = .builtin .len) (ha : c.args.toList = [X]) (ht : c.argTypes[0]? = some t) (hu : P.underlying t = some .string) (hx : ofOp P tagT tt X = some x)
    (hK : evOp U fr L (.lens x) K = some r) : Res P U fr L (.lens x) o K r := by
  have ha' : c.args = #[X] := by apply Array.ext'; simpa using ha
  simp only [evOp] at hK
  split at hK
  · rename_i s e1
    refine .read hK fun h φ w a hA hs _ => ⟨.int .i64 s.size, ?_, rfl⟩
    simp [execOp, ho, resolve, hc, ha', relStr (ev_ok hx hs (fun _ h => h) e1), invoke, builtin, Builtin.len_, ht, run_und hu, goInt]
  · simp at hK
theorem ok_cap {X : Operand} {x : Opd} {c : Call} {t e : Nat} {tt : Option TypeId} (ho : o.op = .call c) (hc : c.callee = .builtin .cap) (ha : c.args.toList = [X]) (ht : c.argTypes[0]? = some t) (hu : P.underlying t = some (.slice e)) (hx : ofOp P tagT tt X = some x)
    (hK : evOp U fr L (.cap x) K = some r) : Res P U fr L (.cap x) o K r := by
  have ha' : c.args = #[X] := by apply Array.ext'; simpa using ha
  simp only [evOp] at hK
  split at hK
  · rename_i tg e1
    refine .read hK fun h φ w a hA hs _ => ⟨.int .i64 0, ?_, rfl⟩
    have hv : a.eval X = .slice none 0 0 := ev_ok hx hs (fun _ h => h) e1
    simp [execOp, ho, resolve, hc, ha', hv, invoke, builtin, Builtin.cap_, ht, run_und hu, goInt]
  · simp at hK

theorem tagIs_row {tag b g m : Nat} {r : R} {c : C} (h : tagIs U tag L c = true) (hb : L[b]? = some ⟨.row r, g, m⟩) (hc : c = .sl b g ∨ (∃ lo n, c = .sc b g lo n) ∨ ∃ lo n, c = .sf b g lo n) : U.tag r = tag := by
  rcases hc with rfl | ⟨lo, n, rfl⟩ | ⟨lo, n, rfl⟩ <;> simpa [tagIs, hb] using h
theorem TagOk.size (hT : TagOk P U tagT) {t g : Nat} (h : tagT t = some g) : szT P t = some (U.esz g) := by
  obtain ⟨i, z, hi, hs, _⟩ := hT.ok t g h
  simp [szT, hi, hs]

theorem ok_idx (hT : TagOk P U tagT) {X I : Operand} {x i : Opd} {t e tag : Nat} {t1 t2 : Option TypeId} (ho : o.op = .indexAddr t X I) (hu : P.underlying t = some (.slice e)) (hg : tagT e = some tag) (hx : ofOp P tagT t1 X = some x) (hi : ofOp P tagT t2 I = some i)
    (hK : evOp U fr L (.idx tag x i) K = some r) : Res P U fr L (.idx tag x i) o K r := by
  simp only [evOp] at hK
  split at hK
  · rename_i c k n e1 e2
    split at hK
    · rename_i len hl
      split at hK
      · simp at hK
      · rename_i htag
        replace hK := cond_none hK; obtain ⟨h0, hK⟩ := hK
        replace hK := cond_none hK; obtain ⟨h1, hK⟩ := hK
        replace h0 := of_decide_eq_true h0
        replace h1 := of_decide_eq_true h1
        have hsz := hT.size hg
        split at hK
        · rename_i b g
          split at hK
          · rename_i hlive
            obtain ⟨row, m, hb, hm⟩ := liveG_some hlive
            have htg := tagIs_row (by simpa using htag) hb (.inl rfl)
            have hlen : len = U.len row := by simp [lenOf, hb, hm] at hl; exact hl.symm
            refine .read hK fun h φ w a hA hs _ => ?_
            have hb' : h b = some ⟨.row row, g, m⟩ := by rw [hA b (by simp), hb]
            obtain ⟨_, A, cap, hv, hle, _, hcap⟩ := rel_sl (ev_ok hx hs sub_l e1) hb' hm
            have hpos : 0 < U.len row := by omega
            rcases hcap with hcap | ⟨ad, ha, rfl, _⟩
            · exfalso
              rcases hcap with hcap | ⟨hcap, _⟩ <;> omega
            · refine ⟨.pointer (some (ad.add (n.toNat * U.esz (U.tag row)))), ?_, rfl, _, hb', Nat.le_refl _, fun _ _ r' hr' => ?_⟩
              · have h1' : n < ((U.len row : Nat) : Int) := by rw [← hlen]; exact h1
                simp [execOp, ho, hv, relInt (ev_ok hi hs sub_r e2), Instr.indexAt, asIntOf, run_und hu, h0, h1', run_szT hsz, htg, add_zero']
              · simp at hr'; subst hr'
                exact ⟨by omega, ad, ha, by rw [Nat.add_zero]⟩
          · simp at hK
        · rename_i b g lo n'
          split at hK
          · rename_i hlive
            obtain ⟨row, m, hb, hm⟩ := liveG_some hlive
            have htg := tagIs_row (by simpa using htag) hb (.inr (.inl ⟨_, _, rfl⟩))
            have hlen : len = n' := by simp [lenOf, hb, hm] at hl; exact hl.symm
            subst hlen
            refine .read hK fun h φ w a hA hs _ => ?_
            have hb' : h b = some ⟨.row row, g, m⟩ := by rw [hA b (by simp), hb]
            obtain ⟨hin, A, cap, hv, hle, _, hcap⟩ := rel_sc (ev_ok hx hs sub_l e1) hb' hm
            rcases hcap with hcap | ⟨ad, ha, rfl, _⟩
            · exfalso
              rcases hcap with hcap | ⟨hcap, _⟩ <;> omega
            · refine ⟨.pointer (some ((ad.add (lo * U.esz (U.tag row))).add (n.toNat * U.esz (U.tag row)))), ?_, rfl, _, hb', Nat.le_refl _, fun _ _ r' hr' => ?_⟩
              · simp [execOp, ho, hv, relInt (ev_ok hi hs sub_r e2), Instr.indexAt, asIntOf, run_und hu, h0, h1, run_szT hsz, htg]
              · simp at hr'; subst hr'
                exact ⟨by omega, ad, ha, by rw [add_add, Nat.add_zero, Nat.add_mul]⟩
          · simp at hK
        · simp at hK
    · simp at hK
  · simp at hK

theorem ok_ixs {X I : Operand} {x i : Opd} {t : Nat} {t1 t2 : Option TypeId} (ho : o.op = .index t X I) (hu : P.underlying t = some .string) (hx : ofOp P tagT t1 X = some x) (hi : ofOp P tagT t2 I = some i)
    (hK : evOp U fr L (.ixs x i) K = some r) : Res P U fr L (.ixs x i) o K r := by
  simp only [evOp] at hK
  split at hK
  · rename_i s k n e1 e2
    replace hK := cond_none hK; obtain ⟨h0, hK⟩ := hK
    replace hK := cond_none hK; obtain ⟨h1, hK⟩ := hK
    replace h0 := of_decide_eq_true h0
    replace h1 := of_decide_eq_true h1
    refine .read hK fun h φ w a hA hs _ => ⟨.int .u8 ((s.data.toList.getD n.toNat 0).toNat : Int), ?_, rfl⟩
    have := run_index_string (P := P) w t s k n hu
    rw [dif_pos ⟨h0, h1⟩] at this
    simp only [execOp, ho]
    rw [relStr (ev_ok hx hs sub_l e1), relInt (ev_ok hi hs sub_r e2)]
    simp only [Sem.run_bind, this, Result.andThen_ok]
    have e : (s[n.toNat]'(by omega)) = s.data.toList.getD n.toNat 0 := by
      have hlt : n.toNat < s.data.toList.length := by have : s.data.toList.length = s.size := by cases s; rfl
                                                      omega
      rw [List.getD_eq_getElem?_getD, List.getElem?_eq_getElem hlt]
      cases s; rfl
    rw [e]
    rfl
  · simp at hK
end
end Go.Eng
