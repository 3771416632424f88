/- A pure evaluator of the model's code over by-value data: definitions only. Conditions: none. -/
import Derived.Below
import Derived.Calls
import Derived.Tactics
namespace Go.Proofs.YtlglhokpaplifaaGreatDoor.Ev
set_option linter.unusedVariables false
set_option linter.unusedSimpArgs false
set_option linter.unusedSectionVars false

/-- What is known of the memory behind a slice. -/
inductive Own where
  | no | lit | brw
  | tok (key g : Nat)
  | ex (T key : Nat)
  deriving DecidableEq

inductive AV where
  | un
  | int (k : IntKind) (n : Int)
  | bool (b : Bool)
  | str (s : ByteArray)
  | agg (cs : List AV)
  | tup (vs : List AV)
  | sl (k : Nat) (o : Own) (es : List AV)
  | ms (key g off len : Nat)
  | vp (key g off : Nat)
  | rp (key g i off : Nat)
  | cp (brw : Bool) (cs : List AV) (off : Nat)
  | xp (T : Nat) (key : Nat) (v : AV)
  | fn (f : Nat) (caps : List AV)
  | nilf
  | ud

inductive TD where
  | int (k : IntKind) | bool | str | sl (e : Nat) | st (fs : List (Nat × Nat)) | arr (n e : Nat) | ptr (e : Nat) | fn | other

def TD.of : TypeDesc → TD
  | .int k => .int k
  | .bool => .bool
  | .string => .str
  | .slice e => .sl e
  | .struct fs => .st (fs.toList.map fun f => (f.offset, f.type))
  | .array n e => .arr n e
  | .pointer e => .ptr e
  | .func .. => .fn
  | _ => .other

def TD.agg? : TD → Option Bool
  | .st _ => some true
  | .arr _ _ => some true
  | .other => none
  | _ => some false

inductive Blk where
  | var (g T : Nat) (v : AV)
  | row (g T k : Nat) (es : List AV)
  | tok (g T k u : Nat)
  | fz (g T : Nat) (v : AV)

def Blk.g : Blk → Nat
  | .var g .. | .row g .. | .tok g .. | .fz g .. => g

abbrev Heap := Nat → Option Blk
def hnil : Heap := fun _ => none
def hset (h : Heap) (key : Nat) (b : Blk) : Heap := fun x => if x = key then some b else h x
def nextG (h : Heap) (key : Nat) : Nat := match h key with | some b => b.g + 1 | none => 0

structure St where
  s : Nat → AV
  h : Heap
  off : Nat
  nt : Nat

def upd (s : Nat → AV) (d : Nat) (v : AV) : Nat → AV := fun t => if t = d then v else s t
def St.put (st : St) (dst : Option Nat) (v : AV) (h : Heap) : St :=
  match dst with
  | some d => { st with s := upd st.s d v, h := h }
  | none => { st with h := h }

/-- What the evaluator is told of the program. -/
structure Env where
  fn : Nat → Option Func
  ty : Nat → TD
  size : Nat → Nat
  zero : Nat → AV
  open_ : Nat → Bool
  mat : Nat → Nat → Nat
  ext : Nat → Option (List AV → Option AV)
  cmp : Nat → Bool := fun _ => false
  own : Nat → Bool := fun _ => false
  deep : Nat → Bool := fun _ => false
  far : Nat → Nat := fun _ => 0

def AV.cells : AV → List AV
  | .agg cs => cs
  | v => [v]

def AV.one : AV → Bool
  | .agg _ | .tup _ | .un | .ud => false
  | _ => true

def ofConst : Value → AV
  | .int k n => .int k n
  | .bool b => .bool b
  | .string s => .str s
  | .slice none 0 0 => .sl 0 .lit []
  | .nilFunc => .nilf
  | _ => .un

def St.ev (st : St) : Operand → AV
  | .tmp t => st.s t
  | .const v => ofConst v
  | .func f => .fn f []
  | .global _ => .un

/-- A part of a stretch of cells. -/
def partOf (E : Env) (t : Nat) (cs : List AV) (off : Nat) : Option AV :=
  match (E.ty t).agg? with
  | some true => if E.size t ≠ 0 ∧ off + E.size t ≤ cs.length then some (.agg ((cs.drop off).take (E.size t))) else none
  | some false => cs[off]?
  | none => none

/-- The part of what is stored over cells. -/
def putCells (old : AV) (off : Nat) (x : AV) : Option AV :=
  if x.cells.all AV.one = true then
    match old with
    | .agg cs => if off + x.cells.length ≤ cs.length then some (.agg (cs.take off ++ x.cells ++ cs.drop (off + x.cells.length))) else none
    | old => if old.one = true ∧ off = 0 ∧ x.one = true then some x else none
  else none

-- Stable: holds no borrowed memory. (Elements of slices never do.)
mutual
def stab : AV → Bool
  | .agg cs => stabs cs
  | .tup vs => stabs vs
  | .sl _ .brw es => es.isEmpty
  | .cp b _ _ => !b
  | .fn _ caps => stabs caps
  | _ => true
def stabs : List AV → Bool
  | [] => true
  | v :: vs => stab v && stabs vs
end

-- lowering: what a called function is handed
mutual
def low0 : AV → AV
  | .agg cs => .agg (low0s cs)
  | .tup vs => .tup (low0s vs)
  | .sl k (.tok _ _) es => .sl k .no es
  | .sl k (.ex _ _) es => .sl k .no es
  | .ms .. => .un
  | .vp .. => .un
  | .rp .. => .un
  | .xp .. => .un
  | .fn f caps => .fn f (low0s caps)
  | v => v
def low0s : List AV → List AV
  | [] => []
  | v :: vs => low0 v :: low0s vs
end

mutual
def low (h : Heap) : AV → AV
  | .agg cs => .agg (lows h cs)
  | .tup vs => .tup (lows h vs)
  | .sl k (.tok _ _) es => .sl k .no es
  | .sl k (.ex _ _) es => .sl k .no es
  | .ms key g off len => match h key with
    | some (.row g' _ k es) => if g = g' ∧ off + len ≤ es.length ∧ stabs es = true then .sl k .brw (low0s ((es.drop off).take len)) else .un
    | _ => .un
  | .vp key g off => match h key with
    | some (.var g' _ v) => if g = g' then .cp true (low0s v.cells) off else .un
    | _ => .un
  | .rp .. => .un
  | .xp .. => .un
  | .fn f caps => .fn f (lows h caps)
  | v => v
def lows (h : Heap) : List AV → List AV
  | [] => []
  | v :: vs => low h v :: lows h vs
end

/-- lowering of rows of rows: of an element, of an argument -/
def lowE (h : Heap) : AV → AV
  | .ms key g off len => low h (.ms key g off len)
  | v => low0 v
def lowD1 (h : Heap) : AV → AV
  | .ms key g off len => match h key with
    | some (.row g' _ k es) => if g = g' ∧ off + len ≤ es.length ∧ stabs es = true then .sl k .brw (((es.drop off).take len).map (lowE h)) else .un
    | _ => .un
  | v => low h v
def lowD (h : Heap) : AV → AV
  | .agg cs => .agg (cs.map (lowD1 h))
  | v => lowD1 h v

-- What a closed call hands back.
mutual
def expo (h : Heap) : AV → AV
  | .agg cs => .agg (expos h cs)
  | .tup vs => .tup (expos h vs)
  | .sl k (.tok key g) es => match h key with
    | some (.tok g' T k' u) => if g = g' ∧ u = es.length ∧ k' = k then .sl k (.ex T key) es else .sl k .no es
    | _ => .sl k .no es
  | .sl k (.ex _ _) es => .sl k .no es
  | .sl k .brw es => if es.isEmpty then .sl k .no [] else .un
  | .ms key g off len => match h key with
    | some (.row g' T k es) => if g = g' ∧ off + len ≤ es.length ∧ stabs es = true then
        (if off = 0 ∧ len = es.length ∧ es ≠ [] then .sl k (.ex T key) (low0s es) else .sl k .no (low0s ((es.drop off).take len))) else .un
    | _ => .un
  | .vp key g off => match h key with
    | some (.var g' T v) => if g = g' ∧ off = 0 ∧ stab v = true ∧ (low0 v).cells.all AV.one = true then .xp T key (low0 v) else .un
    | _ => .un
  | .rp .. => .un
  | .xp .. => .un
  | .cp b cs off => if b then .un else .cp b cs off
  | .fn f caps => .fn f (expcs h caps)
  | v => v
def expos (h : Heap) : List AV → List AV
  | [] => []
  | v :: vs => expo h v :: expos h vs
/-- a captured variable: read only from now on -/
def expc (h : Heap) : AV → AV
  | .vp key g off => match h key with
    | some (.var g' _ v) => if g = g' ∧ stab v = true then .cp false (low0s v.cells) off else .un
    | _ => .un
  | .cp b cs off => if b then .un else .cp b cs off
  | _ => .un
def expcs (h : Heap) : List AV → List AV
  | [] => []
  | v :: vs => expc h v :: expcs h vs
end

def flat1 : AV → Bool
  | .int .. => true
  | .bool _ => true
  | .str _ => true
  | _ => false
/-- An element that leads to no memory. -/
def flat : AV → Bool
  | .agg cs => cs.all flat1
  | v => flat1 v

-- Into the caller, by value: nothing of it is the caller's to write.
mutual
def noEx : AV → AV
  | .agg cs => .agg (noExs cs)
  | .tup vs => .tup (noExs vs)
  | .sl k (.ex _ _) es => .sl k .no es
  | .xp .. => .un
  | .fn f caps => .fn f (noExs caps)
  | v => v
def noExs : List AV → List AV
  | [] => []
  | v :: vs => noEx v :: noExs vs
end

-- All rows of a result become the caller's own: the value, the blocks (key, key in the callee, block), the next row's number.
mutual
def matG (base : Nat) (h : Heap) : AV → Nat → Option (AV × List (Nat × Nat × Blk) × Nat)
  | .sl k (.ex T key) es, n => if es.all flat = true then
      some (.ms (base + 1000 * n) (nextG h (base + 1000 * n)) 0 es.length, [(base + 1000 * n, key, .row (nextG h (base + 1000 * n)) T k es)], n + 1) else none
  | .sl k _ es, n => if es.isEmpty then some (.sl k .no [], [], n + 1) else none
  | .agg cs, n => (matGs base h cs n).map fun p => (.agg p.1, p.2)
  | .tup cs, n => (matGs base h cs n).map fun p => (.tup p.1, p.2)
  | v, n => if flat1 v then some (v, [], n) else none
def matGs (base : Nat) (h : Heap) : List AV → Nat → Option (List AV × List (Nat × Nat × Blk) × Nat)
  | [], n => some ([], [], n)
  | v :: vs, n => (matG base h v n).bind fun p => (matGs base h vs p.2.2).map fun q => (p.1 :: q.1, p.2.1 ++ q.2.1, q.2.2)
end
def hsets (h : Heap) : List (Nat × Nat × Blk) → Heap
  | [] => h
  | p :: L => hset (hsets h L) p.1 p.2.2
/-- a result whose rows all become the caller's own -/
def mat3 (base : Nat) (h : Heap) (r : AV) : Option (AV × Heap) :=
  match matG base h r 0 with
  | some (v, L, _) => if (L.map fun p => p.2.1).Nodup then some (v, hsets h L) else none
  | none => none

/-- how many of a row's elements are there already -/
def isUnset : AV → Bool
  | .sl 0 .lit [] => true
  | _ => false
def cntK (h : Heap) (key : Nat) : Nat := match h key with | some (.row _ _ _ es) => es.findIdx isUnset | _ => 0
def deepStep : Nat := 1000000000000
def deepFar : Nat := 1000000000000000000000000
def mat1 (key : Nat) (h : Heap) (r : AV) : Option (AV × Heap) := match r with
  | .sl k (.ex T _) es => if es.all flat = true ∧ es ≠ [] then some (.ms key (nextG h key) 0 es.length, hset h key (.row (nextG h key) T k es)) else none
  | .sl k _ [] => some (.sl k .no [], h)
  | _ => none
/-- What a closed call hands back, in the caller. 2000 + d: as 1, but one of many rows: the elements of the row at d. 0: by value; 1: a row or variable of its own; 2: appendable; 3: all rows its own; 5: as 1, or the literal of none. -/
def mat (E : Env) (fid : Nat) (st : St) (dst : Option Nat) (r : AV) : Option (AV × Heap) :=
  match dst with
  | none => some (noEx r, st.h)
  | some d =>
    let key := st.off + d
    let g := nextG st.h key
    match E.mat fid d with
    | 0 => some (noEx r, st.h)
    | 1 => match r with
      | .sl k (.ex T _) es => if es.all flat = true ∧ es ≠ [] then some (.ms key g 0 es.length, hset st.h key (.row g T k es)) else none
      | .xp T _ v => some (.vp key g 0, hset st.h key (.var g T v))
      | .sl k _ [] => some (.sl k .no [], st.h)
      | _ => none
    | 3 => mat3 key st.h r
    | 5 => match r with
      | .sl k (.ex T _) es => if es.all flat = true ∧ es ≠ [] then some (.ms key g 0 es.length, hset st.h key (.row g T k es)) else none
      | .sl k .lit [] => some (.sl k .lit [], st.h)
      | _ => none
    | m => if 2000 ≤ m then mat1 (key + deepStep * (cntK st.h (st.off + (m - 2000)) + 1)) st.h r else match r with
      | .sl k (.ex T _) es => some (.sl k (.tok key g) es, hset st.h key (.tok g T k es.length))
      | .sl k .lit [] => some (.sl k .lit [], st.h)
      | _ => none

abbrev CallT := Nat → List AV → Heap → Nat → Option (AV × Heap)
def farOff : Nat := 100000

/-- what a function comes to that is told apart: at some arguments -/
def extV (E : Env) (f : Nat) (as : List AV) : Option AV := (E.ext f).bind fun F => F as
def mat2 (key : Nat) (h : Heap) (r : AV) : Option (AV × Heap) := match r with
  | .sl k (.ex T _) es => some (.sl k (.tok key (nextG h key)) es, hset h key (.tok (nextG h key) T k es.length))
  | .sl k .lit [] => some (.sl k .lit [], h)
  | _ => none
/-- what is told apart may be appendable in the caller -/
def extR (E : Env) (f : Nat) (st : St) (dst : Option Nat) (r : AV) : Option (AV × Heap) := if E.own f = true then mat2 (st.off + dst.getD 0) st.h r else some (r, st.h)
def callFn (E : Env) (call : CallT) (fid : Nat) (dst : Option Nat) (f : Nat) (args : List AV) (st : St) : Option (AV × Heap) :=
  if E.deep f = true then (call f (args.map (lowD st.h)) hnil 0).bind fun p => mat E fid st dst (expo p.2 p.1) else
  match extV E f (lows st.h args) with
  | some r => extR E f st dst r
  | none =>
    if E.open_ f then
      call f args st.h (st.off + farOff + E.far f * dst.getD 0)
    else
      (call f (lows st.h args) hnil 0).bind fun p => mat E fid st dst (expo p.2 p.1)

def intBin (op : BinOp) (k : IntKind) (x y : Int) : Option AV :=
  match op with
  | .add => some (.int k (k.wrap (x + y)))
  | .sub => some (.int k (k.wrap (x - y)))
  | .mul => some (.int k (k.wrap (x * y)))
  | .quo => if y = 0 then none else some (.int k (k.wrap (x.tdiv y)))
  | .rem => if y = 0 then none else some (.int k (x.tmod y))
  | .and => some (.int k (Go.bits .and k x y))
  | .or => some (.int k (Go.bits .or k x y))
  | .xor => some (.int k (Go.bits .xor k x y))
  | .andNot => some (.int k (Go.bits .andNot k x y))
  | .eql => some (.bool (x == y))
  | .neq => some (.bool (x != y))
  | .lss => some (.bool (decide (x < y)))
  | .leq => some (.bool (decide (x ≤ y)))
  | .gtr => some (.bool (decide (x > y)))
  | .geq => some (.bool (decide (x ≥ y)))
  | _ => none

def binV (op : BinOp) (x y : AV) : Option AV :=
  match x, y with
  | .int k a, .int k' b =>
    match op with
    | .shl => if b < 0 then none else some (.int k (k.wrap (a * 2 ^ min b.toNat k.bits)))
    | .shr => if b < 0 then none else some (.int k (a.fdiv (2 ^ min b.toNat k.bits)))
    | _ => if k = k' then intBin op k a b else none
  | .str a, .str b =>
    match op with
    | .eql => some (.bool (a.toList == b.toList))
    | .neq => some (.bool (!(a.toList == b.toList)))
    | .add => if a.size + b.size ≤ 1099511627776 then some (.str (a ++ b)) else none
    | _ => none
  | _, _ => none

/-- with the operands' type: of bools too -/
/- structs of numbers, field by field -/
def eqFs (E : Env) (q : Nat → AV → AV → Option Bool) : List (Nat × Nat) → List AV → List AV → Option Bool
  | [], _, _ => some true
  | (o, ft) :: fs, as, bs =>
    match partOf E ft as o, partOf E ft bs o with
    | some a, some b =>
      match q ft a b with
      | some true => eqFs E q fs as bs
      | some false => some false
      | none => none
    | _, _ => none
def eqT (E : Env) : Nat → Nat → AV → AV → Option Bool
  | 0, _, _, _ => none
  | d + 1, t, x, y =>
    match E.ty t, x, y with
    | .int _, .int k a, .int k' b => if k = k' then some (a == b) else none
    | .bool, .bool a, .bool b => some (a == b)
    | .st fs, .agg as, .agg bs => if E.cmp t = true then eqFs E (eqT E d) fs as bs else none
    | _, _, _ => none
def eqR (op : BinOp) (b : Bool) : Option AV := match op with
  | .eql => some (.bool b)
  | .neq => some (.bool (!b))
  | _ => none
def binT (E : Env) (op : BinOp) (t : Nat) (x y : AV) : Option AV :=
  match x, y with
  | .agg as, .agg bs => if E.cmp t = true then (eqT E 9 t (.agg as) (.agg bs)).bind (eqR op) else none
  | .bool a, .bool b =>
    match E.ty t, op with
    | .bool, .eql => some (.bool (a == b))
    | .bool, .neq => some (.bool (!(a == b)))
    | _, _ => none
  | x, y => binV op x y

/-- the word nil, where a slice is compared with it -/
def isNilC : Operand → Bool
  | .const (.slice none 0 0) => true
  | _ => false
def isEx : Own → Bool
  | .ex .. => true
  | _ => false
def nilV (op : BinOp) : Option AV := match op with
  | .eql => some (.bool false)
  | .neq => some (.bool true)
  | _ => none
def nilC (E : Env) (op : BinOp) (t : Nat) (x : AV) : Option AV :=
  match E.ty t, x with
  | .sl _, .sl _ o es => if (es.isEmpty || isEx o) = true then none else nilV op
  | _, _ => none
def binO (E : Env) (op : BinOp) (t : Nat) (y : Operand) (vx vy : AV) : Option AV := if isNilC y = true then nilC E op t vx else binT E op t vx vy

def loadV (E : Env) (h : Heap) (t : Nat) (p : AV) : Option AV :=
  match p with
  | .vp key g off => match h key with
    | some (.var g' _ v) => if g = g' then partOf E t v.cells off else none
    | some (.fz g' _ v) => if g = g' then partOf E t v.cells off else none
    | _ => none
  | .rp key g i off => match h key with
    | some (.row g' _ _ es) => if g = g' then (es[i]?).bind fun e => partOf E t e.cells off else none
    | _ => none
  | .cp _ cs off => partOf E t cs off
  | _ => none

def storeV (E : Env) (h : Heap) (t : Nat) (p x : AV) : Option Heap :=
  if x.cells.length = E.size t ∧ E.size t ≠ 0 then
    match p with
    | .vp key g off => match h key with
      | some (.var g' T v) => if g = g' then (putCells v off x).map fun v' => hset h key (.var g' T v') else none
      | _ => none
    | .rp key g i off => match h key with
      | some (.row g' T k es) => if g = g' then (es[i]?).bind fun e => (putCells e off x).map fun e' => hset h key (.row g' T k (es.set i e')) else none
      | _ => none
    | _ => none
  else none

def fieldA (E : Env) (s : Nat) (x : AV) (f : Nat) : Option AV :=
  match E.ty s with
  | .st fs => match fs[f]? with
    | some (o, t) => if E.size t = 0 then none else match x with
      | .vp key g off => some (.vp key g (off + o))
      | .rp key g i off => some (.rp key g i (off + o))
      | .cp b cs off => some (.cp b cs (off + o))
      | _ => none
    | none => none
  | _ => none

def indexA (E : Env) (h : Heap) (t : Nat) (x i : AV) : Option AV :=
  match i with
  | .int _ n =>
    if 0 ≤ n then
      match E.ty t with
      | .sl e =>
        if E.size e = 0 then none else
        match x with
        | .sl k o es => match es[n.toNat]? with
          | some el => if k = E.size e ∧ el.cells.length = E.size e then some (.cp (o == .brw) el.cells 0) else none
          | none => none
        | .ms key g off len => match h key with
          | some (.row g' _ k _) => if g = g' ∧ k = E.size e ∧ n < len then some (.rp key g (off + n.toNat) 0) else none
          | _ => none
        | _ => none
      | .arr m e =>
        if E.size e = 0 then none else
        if n < m then
          match x with
          | .vp key g off => some (.vp key g (off + n.toNat * E.size e))
          | .cp b cs off => some (.cp b cs (off + n.toNat * E.size e))
          | _ => none
        else none
      | _ => none
    else none
  | _ => none

def indexV (E : Env) (t : Nat) (x i : AV) : Option AV :=
  match i with
  | .int _ n =>
    if 0 ≤ n then
      match E.ty t, x with
      | .str, .str s => (s[n.toNat]?).map fun b => .int .u8 b.toNat
      | .arr m e, .agg cs => if n < m ∧ E.size e ≠ 0 then partOf E e cs (n.toNat * E.size e) else none
      | _, _ => none
    else none
  | _ => none

def boundV (o : Option AV) (d : Nat) : Option Nat :=
  match o with
  | none => some d
  | some (.int _ n) => if 0 ≤ n then some n.toNat else none
  | some _ => none

def sliceV (E : Env) (h : Heap) (t : Nat) (x : AV) (lo hi mx : Option AV) : Option AV :=
  match E.ty t with
  | .sl e =>
    if E.size e = 0 then none else
    match x with
    | .sl k o es =>
      (boundV hi es.length).bind fun b => (boundV lo 0).bind fun a => (boundV mx b).bind fun m =>
        if a ≤ b ∧ b ≤ es.length ∧ m = b ∧ (es = [] ∨ k = E.size e) then
          some (.sl k (if o = .brw then .brw else if mx.isSome then .lit else if a = 0 ∧ b = es.length then o else .no) ((es.drop a).take (b - a)))
        else none
    | .ms key g off len => match h key with
      | some (.row g' _ k _) =>
        (boundV hi len).bind fun b => (boundV lo 0).bind fun a =>
          if g = g' ∧ k = E.size e ∧ a ≤ b ∧ b ≤ len ∧ mx.isNone then some (.ms key g (off + a) (b - a)) else none
      | _ => none
    | _ => none
  | .str =>
    match x with
    | .str s =>
      (boundV hi s.size).bind fun b => (boundV lo 0).bind fun a =>
        if a ≤ b ∧ b ≤ s.size ∧ mx.isNone then some (.str (s.extract a b)) else none
    | _ => none
  | _ => none

def maxRow : Nat := 1073741824

def elemsOf (h : Heap) (y : AV) : Option (Nat × List AV) :=
  match y with
  | .sl k .brw ys => if stabs ys = true then some (k, ys) else none
  | .sl k _ ys => some (k, ys)
  | .ms key g off len => match h key with
    | some (.row g' _ k ys) => if g = g' ∧ off + len ≤ ys.length ∧ stabs ys = true then some (k, low0s ((ys.drop off).take len)) else none
    | _ => none
  | _ => none

/-- append to the end of a row of one's own, from some place on: what comes is held by value, and the row is no more -/
def appendM (E : Env) (h : Heap) (e key' g off len : Nat) (y : AV) : Option (AV × Heap) :=
  match h key', elemsOf h y with
  | some (.row g' T k es), some (k', ys) =>
    if E.size e ≠ 0 ∧ ys ≠ [] ∧ g = g' ∧ T = e ∧ k = E.size e ∧ k' = E.size e ∧ 0 < len ∧ off + len = es.length ∧ stabs es = true ∧ len + ys.length ≤ maxRow ∧ (ys.all fun y => y.cells.length == E.size e && y.cells.all AV.one) = true then
      some (.sl (E.size e) .no (low0s ((es.drop off).take len) ++ ys), hset h key' (.tok (g' + 1) T k (es.length + ys.length)))
    else none
  | _, _ => none

/-- append(x, ys...) at destination key 'key'. -/
def appendV (E : Env) (h : Heap) (key : Nat) (t : Nat) (x y : AV) : Option (AV × Heap) :=
  match E.ty t with
  | .sl e =>
    match x with
    | .sl k o es =>
      match elemsOf h y with
      | none => none
      | some (k', ys) =>
        if E.size e = 0 then none
        else if ys.isEmpty then some (x, h)
        else if (es = [] ∨ k = E.size e) ∧ k' = E.size e ∧ es.length + ys.length ≤ maxRow ∧ (ys.all fun y => y.cells.length == E.size e && y.cells.all AV.one) = true then
          match o with
          | .lit => some (.sl (E.size e) (.tok key (nextG h key)) (es ++ ys), hset h key (.tok (nextG h key) e (E.size e) (es.length + ys.length)))
          | .tok key' g => match h key' with
            | some (.tok g' T k2 u) =>
              if g = g' ∧ T = e ∧ k2 = E.size e ∧ u = es.length then some (.sl (E.size e) (.tok key' g) (es ++ ys), hset h key' (.tok g' T k2 (es.length + ys.length))) else none
            | _ => none
          | _ => none
        else none
    | .ms key' g off len => appendM E h e key' g off len y
    | _ => none
  | _ => none

/-- append to nothing: a row of the caller's own -/
def appendR (E : Env) (h : Heap) (key : Nat) (t : Nat) (x y : AV) : Option (AV × Heap) :=
  match E.ty t with
  | .sl e =>
    match x with
    | .sl k .lit [] =>
      match elemsOf h y with
      | none => none
      | some (k', ys) =>
        if E.size e = 0 then none
        else if ys.isEmpty then some (.sl k .no [], h)
        else if k' = E.size e ∧ ys.length ≤ maxRow ∧ ys.all flat = true ∧ (ys.all fun y => y.cells.length == E.size e && y.cells.all AV.one) = true then
          some (.ms key (nextG h key) 0 ys.length, hset h key (.row (nextG h key) e (E.size e) ys))
        else none
    | _ => none
  | _ => none
/-- append to a start of a row of one's own: it stays one's own, at its place; what was seen of it before is no more known -/
def appendOM (E : Env) (h : Heap) (e key' g len : Nat) (y : AV) : Option (AV × Heap) :=
  match h key', elemsOf h y with
  | some (.row g' T k es), some (k', ys) =>
    if E.size e ≠ 0 ∧ g = g' ∧ T = e ∧ k = E.size e ∧ len ≤ es.length ∧ stabs es = true ∧ es.all flat = true ∧ len + ys.length ≤ maxRow then
      if ys.isEmpty = true then some (.ms key' g 0 len, h)
      else if k' = E.size e ∧ ys.all flat = true ∧ (ys.all fun y => y.cells.length == E.size e && y.cells.all AV.one) = true then
        some (.ms key' (g' + 1) 0 (len + ys.length), hset h key' (.row (g' + 1) T k (low0s (es.take len) ++ ys)))
      else none
    else none
  | _, _ => none
def appendO (E : Env) (h : Heap) (key : Nat) (t : Nat) (x y : AV) : Option (AV × Heap) :=
  match x with
  | .ms key' g 0 len => match E.ty t with
    | .sl e => appendOM E h e key' g len y
    | _ => none
  | x => appendR E h key t x y
def lenV (E : Env) (t : Nat) (x : AV) : Option AV :=
  match E.ty t, x with
  | .sl _, .sl _ _ es => some (.int .i64 es.length)
  | .sl _, .ms _ _ _ len => some (.int .i64 len)
  | .str, .str s => some (.int .i64 s.size)
  | _, _ => none

def makeV (E : Env) (h : Heap) (key : Nat) (t : Nat) (l c : AV) : Option (AV × Heap) :=
  match E.ty t, l, c with
  | .sl e, .int .i64 n, .int .i64 m =>
    if 0 ≤ n ∧ n = m ∧ n ≤ maxRow ∧ 0 < E.size e ∧ E.size e < 4096 then
      some (.ms key (nextG h key) 0 n.toNat, hset h key (.row (nextG h key) e (E.size e) (List.replicate n.toNat (E.zero e))))
    else none
  | _, _, _ => none

def fillV (fs : List (Nat × Nat)) (E : Env) (cs : List AV) : List (Nat × AV) → Option (List AV)
  | [] => some cs
  | (i, v) :: rest => match fs[i]? with
    | some (off, t) => if v.cells.length = E.size t ∧ off + v.cells.length ≤ cs.length ∧ v.cells.all AV.one = true then
        fillV fs E (cs.take off ++ v.cells ++ cs.drop (off + v.cells.length)) rest else none
    | none => none

def buildV (E : Env) (t : Nat) (parts : List (Nat × AV)) : Option AV :=
  match E.ty t with
  | .st fs => if E.size t ≠ 0 ∧ (fs.all fun p => !(E.size p.2 == 0)) = true then (fillV fs E (E.zero t).cells parts).map .agg else none
  | .arr n e => if E.size t ≠ 0 ∧ E.size e ≠ 0 then (fillV ((List.range n).map fun i => (i * E.size e, e)) E (E.zero t).cells parts).map .agg else none
  | _ => none

/-- a slice literal whose elements are all given, in order -/
def buildS (E : Env) (t : Nat) (len : Nat) (parts : List (Nat × AV)) : Option AV :=
  match E.ty t with
  | .sl e =>
    if parts.map (·.1) = List.range len ∧ len ≤ 65536 ∧ 0 < E.size e ∧ E.size e < 256 ∧
      (parts.all fun p => p.2.cells.length == E.size e && p.2.cells.all AV.one) = true then
      some (.sl (E.size e) (if (parts.all fun p => stab p.2) = true then .lit else .brw) (parts.map fun p => low0 p.2))
    else none
  | _ => none

def unV (op : UnOp) (x : AV) : Option AV :=
  match op, x with
  | .not, .bool b => some (.bool !b)
  | .neg, .int k n => some (.int k (k.wrap (0 - n)))
  | _, _ => none

def convV (E : Env) (src dst : Nat) (x : AV) : Option AV :=
  match E.ty src, E.ty dst, x with
  | .int _, .int k, .int _ n => some (.int k (k.wrap n))
  | .sl e, .str, .sl 1 o [.int .u8 n] => match E.ty e with
    | .int .u8 => if 0 ≤ n ∧ n < 256 then some (.str ⟨#[UInt8.ofNat n.toNat]⟩) else none
    | _ => none
  | _, _, _ => none

def fieldV (E : Env) (t : Nat) (x : AV) (f : Nat) : Option AV :=
  match E.ty t, x with
  | .st fs, .agg cs => (fs[f]?).bind fun p => partOf E p.2 cs p.1
  | _, _ => none

/-- a pointer that is one -/
def chkV (x : AV) : Option AV :=
  match x with
  | .vp key g off => some (.vp key g off)
  | _ => none
def extractV (x : AV) (i : Nat) : Option AV :=
  match x with
  | .tup vs => vs[i]?
  | _ => none

def pickV (c a b : AV) : Option AV :=
  match c with
  | .bool t => some (if t then a else b)
  | _ => none

def newVarV (h : Heap) (key T : Nat) (v : AV) : Option (AV × Heap) :=
  if v.cells.all AV.one then some (.vp key (nextG h key) 0, hset h key (.var (nextG h key) T v)) else none

def lenArgs (E : Env) : List AV → List Nat → Option AV
  | [x], [t] => lenV E t x
  | _, _ => none
def appArgs (E : Env) (h : Heap) (key : Nat) (has : Bool) : List AV → List Nat → Option (AV × Heap)
  | [x, y], [t, u] => if t = u ∧ has = true then appendV E h key t x y else none
  | _, _ => none
def builtinV (E : Env) (h : Heap) (key : Nat) (has : Bool) (b : Builtin) (args : List AV) (ts : List Nat) : Option (AV × Heap) :=
  match b with
  | .len => (lenArgs E args ts).map fun y => (y, h)
  | .append => appArgs E h key has args ts
  | _ => none

/-- an append, the row of which is the caller's own -/
def ownB (E : Env) (fid : Nat) (dst : Option Nat) (b : Builtin) : Bool := match b with
  | .append => (match dst with | some d => E.mat fid d == 4 | none => false)
  | _ => false
/-- an append to a start of an own row -/
def ownO (E : Env) (fid : Nat) (dst : Option Nat) (b : Builtin) : Bool := match b with
  | .append => (match dst with | some d => E.mat fid d == 6 | none => false)
  | _ => false
def frz (E : Env) (fid : Nat) (dst : Option Nat) : Bool := match dst with | some d => E.mat fid d == 8 | none => false
def appArgsR (E : Env) (h : Heap) (key : Nat) : List AV → List Nat → Option (AV × Heap)
  | [x, y], [t, u] => if t = u then appendR E h key t x y else none
  | _, _ => none
def appArgsO (E : Env) (h : Heap) (key : Nat) : List AV → List Nat → Option (AV × Heap)
  | [x, y], [t, u] => if t = u then appendO E h key t x y else none
  | _, _ => none
def evCall (E : Env) (call : CallT) (fid : Nat) (st : St) (dst : Option Nat) (c : Call) : Option (AV × Heap) :=
  match c.callee with
  | .builtin b => if ownB E fid dst b = true then appArgsR E st.h (st.off + dst.getD 0) (c.args.toList.map st.ev) c.argTypes.toList else if ownO E fid dst b = true then appArgsO E st.h (st.off + dst.getD 0) (c.args.toList.map st.ev) c.argTypes.toList else builtinV E st.h (st.off + dst.getD 0) dst.isSome b (c.args.toList.map st.ev) c.argTypes.toList
  | .value f => match st.ev f with
    | .fn g caps => callFn E call fid dst g (c.args.toList.map st.ev ++ caps) st
    | _ => none
  | _ => none

/-- a function that closes over a variable which is not written any more -/
def freezeV (h : Heap) (f : Nat) (caps : List AV) : Option (AV × Heap) := match caps with
  | [.vp key g off] => match h key with
    | some (.var g' T v) => if g = g' ∧ flat v = true then some (.fn f [.cp false v.cells off], hset h key (.fz g' T v)) else none
    | _ => none
  | _ => none
/-- One operation: its value and the memory behind it. -/
def evOp (E : Env) (call : CallT) (fid : Nat) (st : St) (o : Oper) : Option (AV × Heap) :=
  let key := st.off + o.dst.getD 0
  let v (x : Option AV) : Option (AV × Heap) := x.map fun y => (y, st.h)
  match o.op with
  | .move x => some (st.ev x, st.h)
  | .assign x => some (st.ev x, st.h)
  | .pick c a b => v (pickV (st.ev c) (st.ev a) (st.ev b))
  | .alloc T => if E.size T = 0 then none else newVarV st.h key T (E.zero T)
  | .box T x => newVarV st.h key T (st.ev x)
  | .build t ps => v (buildV E t (ps.toList.map fun p => (p.1, st.ev p.2)))
  | .buildSlice t len ps => v (buildS E t len (ps.toList.map fun p => (p.1, st.ev p.2)))
  | .load t a => v (loadV E st.h t (st.ev a))
  | .store t a x => (storeV E st.h t (st.ev a) (st.ev x)).map fun h => (.un, h)
  | .binOp op t x y _ => v (binO E op t y (st.ev x) (st.ev y))
  | .unOp op _ x => v (unV op (st.ev x))
  | .convert src dst x => v (convV E src dst (st.ev x))
  | .makeFunc fn first caps => match fn with
    | .func f => if first.isEmpty then (if frz E fid o.dst = true then freezeV st.h f (caps.toList.map st.ev) else some (.fn f (caps.toList.map st.ev), st.h)) else none
    | _ => none
  | .makeSlice t l c => makeV E st.h key t (st.ev l) (st.ev c)
  | .slice t x lo hi mx => if mx.isSome = true ∧ hi.isSome = false then none else v (sliceV E st.h t (st.ev x) (lo.map st.ev) (hi.map st.ev) (mx.map st.ev))
  | .fieldAddr s x f => v (fieldA E s (st.ev x) f)
  | .field t x f => v (fieldV E t (st.ev x) f)
  | .indexAddr t x i => v (indexA E st.h t (st.ev x) (st.ev i))
  | .index t x i => v (indexV E t (st.ev x) (st.ev i))
  | .extract x i => v (extractV (st.ev x) i)
  | .nilCheck x => v (chkV (st.ev x))
  | .call c => evCall E call fid st o.dst c
  | _ => none

/-- May the operation run (its guard)? -/
def wantedV (ops : Array Oper) (st : St) (o : Oper) : Option Bool :=
  match o.guard with
  | none => some true
  | some (j, want) => match ops[j]? with
    | some oj => match oj.dst with
      | some d => match st.s d with
        | .bool b => some (b == want)
        | .ud => some false
        | _ => none
      | none => none
    | none => none

def dstOk (st : St) (o : Oper) : Bool := match o.dst with | some d => decide (d < st.nt) && decide (d < 1000) | none => true

def stepOp (E : Env) (call : CallT) (fid : Nat) (ops : Array Oper) (st : St) (o : Oper) : Option St :=
  if dstOk st o then
    match wantedV ops st o with
    | some true => (evOp E call fid st o).map fun p => st.put o.dst p.1 p.2
    | some false => some (st.put o.dst .ud st.h)
    | none => none
  else none

def runOps (E : Env) (call : CallT) (fid : Nat) (ops : Array Oper) : List Oper → St → Option St
  | [], st => some st
  | o :: l, st => (stepOp E call fid ops st o).bind (runOps E call fid ops l)

end Go.Proofs.YtlglhokpaplifaaGreatDoor.Ev
