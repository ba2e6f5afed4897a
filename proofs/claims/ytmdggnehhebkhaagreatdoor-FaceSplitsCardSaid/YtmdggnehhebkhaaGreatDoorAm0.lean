/- The abstract machine: a deterministic evaluator of translated Go code over values with no addresses in the data; definitions alone. -/
import Derived.WalkKit
import Derived.Orders
import Derived.Below
import Derived.Laws.BytesArg
import Derived.Lib.AppendStr
set_option linter.unusedVariables false
namespace Go.Am
open Go

/-- An abstract value. `undef` stands for anything. -/
inductive AV where
  | undef
  | bool (b : Bool)
  | int (k : IntKind) (n : Int)
  | str (s : ByteArray)
  | nilptr
  | loc (d off : Nat)
  | ptr (o ver off : Nat)
  | eptr (cs : List AV)
  | slice (n : Nat) (cs : List AV) (ex : Bool)
  | vec (o ver off n esz : Nat)
  | func (fn : Fn) (first cap : List AV)
  | nilfunc
  | niliface
  | iface (t : TypeId) (v : AV)
  | agg (cs : List AV)
  | tup (vs : List AV)
  deriving Inhabited

structure Ob where
  cells : List AV
  ver : Nat
  fz : Nat
  ty : Option (TypeId × Bool)

structure Hp where
  next : Nat
  ob : Nat → Option Ob

abbrev En := Nat → AV
abbrev Lo := Nat → Option (List AV)

structure St where
  e : En
  l : Lo
  h : Hp

def Hp.empty : Hp := ⟨0, fun _ => none⟩
def Hp.upd (H : Hp) (o : Nat) (b : Ob) : Hp := ⟨H.next, fun i => if i = o then some b else H.ob i⟩
/-- A new object; its number is `H.next`. -/
def Hp.new (H : Hp) (ty : Option (TypeId × Bool)) (cs : List AV) : Hp := ⟨H.next + 1, fun i => if i = H.next then some ⟨cs, H.next, 0, ty⟩ else H.ob i⟩
/-- An object written anew under a fresh version. -/
def Hp.re (H : Hp) (o : Nat) (cs : List AV) (fz : Nat) (ty : Option (TypeId × Bool)) : Hp := ⟨H.next + 1, fun i => if i = o then some ⟨cs, H.next, fz, ty⟩ else H.ob i⟩
/-- The type of a block that stays, or is one of elements of this type. -/
def reTy (ty : Option (TypeId × Bool)) (e : TypeId) : Option (TypeId × Bool) := match ty with
  | some (t, _) => if t = e then some (e, false) else none
  | none => none
def Hp.freeze (H : Hp) (o k : Nat) : Hp := match H.ob o with
  | some b => H.upd o ⟨b.cells, b.ver, max b.fz k, b.ty⟩
  | none => H

def En.upd (e : En) (d : Nat) (v : AV) : En := fun i => if i = d then v else e i
def clrV (d : Nat) : AV → AV
  | .loc d' off => if d' = d then .undef else .loc d' off
  | v => v
def En.clr (e : En) (d : Nat) : En := fun i => clrV d (e i)
def Lo.upd (l : Lo) (d : Nat) (cs : List AV) : Lo := fun i => if i = d then some cs else l i
def Lo.del (l : Lo) (d : Nat) : Lo := fun i => if i = d then none else l i

def AV.ofA : Value → AV
  | .bool b => .bool b
  | .int k n => .int k n
  | .string s => .str s
  | .pointer none => .nilptr
  | .slice none 0 0 => .slice 0 [] true
  | .nilFunc => .nilfunc
  | .nilIface => .niliface
  | _ => .undef
def AV.ofV : Value → AV
  | .agg cs => if cs.toList.all (·.oneCell') then .agg (cs.toList.map AV.ofA) else .undef
  | .tuple _ => .undef
  | v => AV.ofA v

def AV.isLoc : AV → Bool
  | .loc .. => true
  | _ => false

/-- The cells that a value takes in memory. -/
def acells : AV → Option (List AV)
  | .undef => none
  | .loc .. => none
  | .tup _ => none
  | .agg cs => some cs
  | v => some [v]

def splice {α : Type} (cs : List α) (off : Nat) (new : List α) : List α := cs.take off ++ (new ++ cs.drop (off + new.length))
def cut {α : Type} (cs : List α) (off k : Nat) : List α := (cs.drop off).take k

def runP {α : Type} (P : Program) : Sem α → Option α
  | .pure a => some a
  | .program k => runP P (k P)
  | _ => none

section types
variable (P : Program)
def szT (t : TypeId) : Option Nat := (P.info? t).map (·.size)
def aggT (t : TypeId) : Option Bool := match P.underlying t with
  | some (.struct _) => some true
  | some (.array _ _) => some true
  | some _ => some false
  | none => none
def zeroT (t : TypeId) : Option (List AV) := match P.info? t with
  | some i => match i.zero with
    | some z => if z.cells.toList.all (·.oneCell') then some (z.cells.toList.map AV.ofA) else none
    | none => none
  | none => none
end types

/-- A list, one by one, the heap handed on. -/
def mapH (f : Hp → AV → Option (AV × Hp)) : Hp → List AV → Option (List AV × Hp)
  | H, [] => some ([], H)
  | H, v :: vs => match f H v with
    | some (v', H1) => match mapH f H1 vs with
      | some (vs', H2) => some (v' :: vs', H2)
      | none => none
    | none => none

/-- A value as data: what it leads to is frozen. With `q` no freezing is allowed. -/
def strip (q : Bool) : Nat → Hp → AV → Option (AV × Hp)
  | 0, _, _ => none
  | n + 1, H, v => match v with
    | .loc .. => none
    | .ptr .. => none
    | .vec o ver off k esz =>
      if q then none else
      match H.ob o with
      | some b =>
        if b.ver = ver ∧ off + k * esz ≤ b.cells.length then
          match mapH (strip q n) H (cut b.cells off (k * esz)) with
          | some (cs, H1) => some (.slice k cs false, H1.freeze o (off + k * esz))
          | none => none
        else none
      | none => none
    | .slice k cs _ => some (.slice k cs false, H)
    | .func fn first cap => match mapH (strip q n) H first with
      | some (first', H1) => match mapH (strip q n) H1 cap with
        | some (cap', H2) => some (.func fn first' cap', H2)
        | none => none
      | none => none
    | .iface t x => match strip q n H x with
      | some (x', H1) => some (.iface t x', H1)
      | none => none
    | .agg cs => match mapH (strip q n) H cs with
      | some (cs', H1) => some (.agg cs', H1)
      | none => none
    | .tup vs => match mapH (strip q n) H vs with
      | some (vs', H1) => some (.tup vs', H1)
      | none => none
    | v => some (v, H)

def depthS : Nat := 6

/-! ### Operators -/
def aint (op : BinOp) (k : IntKind) (a b : Int) : Option AV :=
  match op with
  | .add => some (.int k (k.wrap (a + b)))
  | .sub => some (.int k (k.wrap (a - b)))
  | .mul => some (.int k (k.wrap (a * b)))
  | .quo => if b = 0 then none else some (.int k (k.wrap (a.tdiv b)))
  | .rem => if b = 0 then none else some (.int k (a.tmod b))
  | .and => some (.int k (k.wrap (BitVec.ofInt k.bits a &&& BitVec.ofInt k.bits b).toNat))
  | .or => some (.int k (k.wrap (BitVec.ofInt k.bits a ||| BitVec.ofInt k.bits b).toNat))
  | .xor => some (.int k (k.wrap (BitVec.ofInt k.bits a ^^^ BitVec.ofInt k.bits b).toNat))
  | .andNot => some (.int k (k.wrap (BitVec.ofInt k.bits a &&& ~~~BitVec.ofInt k.bits b).toNat))
  | .eql => some (.bool (a == b))
  | .neq => some (.bool (a != b))
  | .lss => some (.bool (decide (a < b)))
  | .leq => some (.bool (decide (a ≤ b)))
  | .gtr => some (.bool (decide (b < a)))
  | .geq => some (.bool (decide (b ≤ a)))
  | .shl => if b < 0 then none else some (.int k (k.wrap (a * 2 ^ (min b.toNat k.bits))))
  | .shr => if b < 0 then none else some (.int k (a.fdiv (2 ^ (min b.toNat k.bits))))

def astr (op : BinOp) (x y : ByteArray) : Option AV :=
  match op with
  | .add => if x.size + y.size ≤ 9223372036854775807 then some (.str (x ++ y)) else none
  | .eql => some (.bool (x.toList == y.toList))
  | .neq => some (.bool !(x.toList == y.toList))
  | .lss => some (.bool (Op.bytesLess x.toList y.toList))
  | .leq => some (.bool (Op.bytesLess x.toList y.toList || x.toList == y.toList))
  | .gtr => some (.bool !(Op.bytesLess x.toList y.toList || x.toList == y.toList))
  | .geq => some (.bool !(Op.bytesLess x.toList y.toList))
  | _ => none

/-- A scalar as the machine has it. -/
def toV : AV → Option Value
  | .bool b => some (.bool b)
  | .int k n => some (.int k n)
  | .str s => some (.string s)
  | .nilptr => some (.pointer none)
  | .niliface => some .nilIface
  | .nilfunc => some .nilFunc
  | _ => none
def toVs : List AV → Option (List Value)
  | [] => some []
  | v :: vs => match toV v with
    | some u => match toVs vs with
      | some us => some (u :: us)
      | none => none
    | none => none

def isShift : BinOp → Bool
  | .shl => true
  | .shr => true
  | _ => false
def isEq : BinOp → Bool
  | .eql => true
  | .neq => true
  | _ => false
def eqRes (op : BinOp) (b : Bool) : Option AV := match op with
  | .eql => some (.bool b)
  | .neq => some (.bool !b)
  | _ => none
def nilSliceC : Operand → Bool
  | .const (.slice none _ _) => true
  | _ => false
def constO : Operand → Bool
  | .const _ => true
  | _ => false
def isAddr : AV → Bool
  | .loc .. => true
  | .ptr .. => true
  | .eptr .. => true
  | _ => false

/-- An address or a slice that is still good. -/
def okA (l : Lo) (H : Hp) : AV → Bool
  | .loc d _ => (l d).isSome
  | .ptr o ver _ => match H.ob o with
    | some b => decide (b.ver = ver)
    | none => false
  | .vec o ver _ _ _ => match H.ob o with
    | some b => decide (b.ver = ver)
    | none => false
  | .eptr _ => true
  | .slice .. => true
  | _ => false

/-- `cx`: one of the two operands is a constant; `cn`: the second is the constant nil slice. -/
def abin (P : Program) (l : Lo) (H : Hp) (op : BinOp) (t : TypeId) (cx cn : Bool) (x y : AV) : Option AV :=
  match x, y with
  | .int k a, .int k' b => if isShift op then aint op k a b else if k = k' then aint op k a b else none
  | .str a, .str b => astr op a b
  | .bool a, .bool b => match P.underlying t with
    | some .bool => eqRes op (a == b)
    | _ => none
  | .agg xs, .agg ys => if isEq op then match toVs xs, toVs ys with
      | some us, some vs => match runP P (do eqGuard op t (.tmp 0) (.tmp 0) (.agg us.toArray) (.agg vs.toArray); binOp op t (.agg us.toArray) (.agg vs.toArray)) with
        | some (.bool b) => some (.bool b)
        | _ => none
      | _, _ => none
    else none
  | .niliface, .niliface => if cx then match P.underlying t with
      | some (.interface _) => eqRes op true
      | _ => none
    else none
  | .niliface, .iface _ _ => match P.underlying t with
    | some (.interface _) => eqRes op false
    | _ => none
  | .iface _ _, .niliface => match P.underlying t with
    | some (.interface _) => eqRes op false
    | _ => none
  | .vec a b c d e, .slice .. => if cn && okA l H (.vec a b c d e) then match P.underlying t with
      | some (.slice _) => eqRes op false
      | _ => none
    else none
  | .slice n _ _, .slice .. => if cn ∧ n ≠ 0 then match P.underlying t with
      | some (.slice _) => eqRes op false
      | _ => none
    else none
  | .nilptr, .nilptr => match P.underlying t with
    | some (.pointer _) => eqRes op true
    | _ => none
  | x, .nilptr => if isAddr x && okA l H x then match P.underlying t with
      | some (.pointer _) => eqRes op false
      | _ => none
    else none
  | _, _ => none

def aun (op : UnOp) (x : AV) : Option AV :=
  match op, x with
  | .neg, .int k n => some (.int k (k.wrap (0 - n)))
  | .xor, .int k n => some (.int k (k.wrap (BitVec.ofInt k.bits (if k.signed then -1 else k.max) ^^^ BitVec.ofInt k.bits n).toNat))
  | .not, .bool b => some (.bool !b)
  | _, _ => none

/-! ### Memory -/
def rdA (l : Lo) (H : Hp) (a : AV) (k : Nat) : Option (List AV) :=
  match a with
  | .loc d off => match l d with
    | some cs => if off + k ≤ cs.length then some (cut cs off k) else none
    | none => none
  | .ptr o ver off => match H.ob o with
    | some b => if b.ver = ver ∧ off + k ≤ b.cells.length then some (cut b.cells off k) else none
    | none => none
  | .eptr cs => if k ≤ cs.length then some (cs.take k) else none
  | _ => none

def wrA (l : Lo) (H : Hp) (a : AV) (new : List AV) : Option (Lo × Hp) :=
  match a with
  | .loc d off => match l d with
    | some cs => if off + new.length ≤ cs.length then some (l.upd d (splice cs off new), H) else none
    | none => none
  | .ptr o ver off => match H.ob o with
    | some b => if b.ver = ver ∧ b.fz ≤ off ∧ off + new.length ≤ b.cells.length then some (l, H.upd o ⟨splice b.cells off new, b.ver, b.fz, b.ty⟩) else none
    | none => none
  | _ => none

def addA (a : AV) (off : Nat) : Option AV :=
  match a with
  | .loc d o => some (.loc d (o + off))
  | .ptr o ver p => some (.ptr o ver (p + off))
  | .eptr cs => if off ≤ cs.length then some (.eptr (cs.drop off)) else none
  | _ => none

/-- The elements of a slice, as cells. -/
def content (H : Hp) (v : AV) (esz : Nat) : Option (Nat × List AV) :=
  match v with
  | .slice n cs _ => if cs.length = n * esz then some (n, cs) else none
  | .vec o ver off n z => if z = esz then match H.ob o with
      | some b => if b.ver = ver ∧ off + n * esz ≤ b.cells.length then some (n, cut b.cells off (n * esz)) else none
      | none => none
    else none
  | _ => none

def fillA (place : Nat → Option (Nat × Nat)) : List AV → List (Nat × AV) → Option (List AV)
  | cells, [] => some cells
  | cells, (i, v) :: rest => match place i with
    | some (off, size) => match acells v with
      | some vs => if vs.length = size ∧ off + vs.length ≤ cells.length then fillA place (splice cells off vs) rest else none
      | none => none
    | none => none

def placeOf (P : Program) (fields : Array Field) (i : Nat) : Option (Nat × Nat) := match fields[i]? with
  | some f => match szT P f.type with
    | some s => some (f.offset, s)
    | none => none
  | none => none

def abuild (P : Program) (t : TypeId) (parts : List (Nat × AV)) : Option AV :=
  match zeroT P t with
  | some z => match P.underlying t with
    | some (.struct fields) => if fields.toList.all (fun f => (szT P f.type).isSome) then match fillA (placeOf P fields) z parts with
        | some cs => some (.agg cs)
        | none => none
      else none
    | some (.array _ e) => match szT P e with
      | some s => match fillA (fun i => some (i * s, s)) z parts with
        | some cs => some (.agg cs)
        | none => none
      | none => none
    | _ => none
  | none => none

def repl (n : Nat) (z : List AV) : List AV := (List.replicate n z).flatten

def abuildSlice (q : Bool) (P : Program) (H : Hp) (t : TypeId) (n : Nat) (parts : List (Nat × AV)) : Option (AV × Hp) :=
  match P.underlying t with
  | some (.slice e) => match szT P e with
    | some s => match zeroT P e with
      | some z => if z.length = s ∧ s ≠ 0 ∧ n * s ≤ 16777216 then match fillA (fun i => some (i * s, s)) (repl n z) parts with
          | some cs => match mapH (strip q depthS) H cs with
            | some (cs', H1) => some (.slice n cs' true, H1)
            | none => none
          | none => none
        else none
      | none => none
    | none => none
  | _ => none

def apart (P : Program) (t : TypeId) (cs : List AV) (off : Nat) : Option AV :=
  match aggT P t with
  | some true => match szT P t with
    | some s => if off + s ≤ cs.length then some (.agg (cut cs off s)) else none
    | none => none
  | some false => cs[off]?
  | none => none

def aload (P : Program) (l : Lo) (H : Hp) (t : TypeId) (a : AV) : Option AV :=
  match aggT P t with
  | some true => match szT P t with
    | some s => match rdA l H a s with
      | some cs => some (.agg cs)
      | none => none
    | none => none
  | some false => match rdA l H a 1 with
    | some [c] => some c
    | _ => none
  | none => none

def astore (P : Program) (l : Lo) (H : Hp) (t : TypeId) (a v : AV) : Option (Lo × Hp) :=
  match acells v with
  | some cs => match szT P t with
    | some s => if cs.length = s then wrA l H a cs else none
    | none => none
  | none => none

def afieldAddr (P : Program) (l : Lo) (H : Hp) (s : TypeId) (x : AV) (f : Nat) : Option AV :=
  if okA l H x then match P.underlying s with
  | some (.struct fields) => match fields[f]? with
    | some fd => match szT P fd.type with
      | some 0 => none
      | some (_ + 1) => addA x fd.offset
      | none => none
    | none => none
  | _ => none
  else none

def afield (P : Program) (s : TypeId) (x : AV) (f : Nat) : Option AV :=
  match P.underlying s, x with
  | some (.struct fields), .agg cs => match fields[f]? with
    | some fd => apart P fd.type cs fd.offset
    | none => none
  | _, _ => none

def aindexAddr (P : Program) (l : Lo) (H : Hp) (t : TypeId) (x i : AV) : Option AV :=
  if okA l H x then match i with
  | .int _ i => match P.underlying t with
    | some (.slice e) => match szT P e with
      | some s => match x with
        | .slice n cs _ => if 0 ≤ i ∧ i < n ∧ i.toNat * s ≤ cs.length then some (.eptr (cs.drop (i.toNat * s))) else none
        | .vec o ver off n esz => if 0 ≤ i ∧ i < n ∧ esz = s then some (.ptr o ver (off + i.toNat * s)) else none
        | _ => none
      | none => none
    | some (.array n e) => match szT P e with
      | some s => if 0 ≤ i ∧ i < n then addA x (i.toNat * s) else none
      | none => none
    | _ => none
  | _ => none
  else none

def aindex (P : Program) (t : TypeId) (x i : AV) : Option AV :=
  match i with
  | .int _ i => match P.underlying t, x with
    | some .string, .str s => if 0 ≤ i then match s[i.toNat]? with
        | some b => some (.int .u8 b.toNat)
        | none => none
      else none
    | some (.array n e), .agg cs => match szT P e with
      | some s => if 0 ≤ i ∧ i < n then apart P e cs (i.toNat * s) else none
      | none => none
    | _, _ => none
  | _ => none

/-- A bound of a slicing: absent, or a whole number from 0 up. -/
def bnd (o : Option AV) (dflt : Nat) : Option Nat := match o with
  | none => some dflt
  | some (.int _ i) => if 0 ≤ i then some i.toNat else none
  | some _ => none

def aslice (P : Program) (H : Hp) (t : TypeId) (x : AV) (lo hi mx : Option AV) : Option AV :=
  match P.underlying t, x with
  | some .string, .str s => match mx, bnd lo 0, bnd hi s.size with
    | none, some l, some h => if l ≤ h ∧ h ≤ s.size then some (.str (s.extract l h)) else none
    | _, _, _ => none
  | some (.slice e), .slice n cs ex => match szT P e, bnd lo 0, bnd hi n, bnd mx n with
    | some s, some l, some h, some m =>
      if l ≤ h ∧ h ≤ m ∧ m ≤ n ∧ (mx.isSome → hi.isSome) ∧ cs.length = n * s then
        some (.slice (h - l) (cut cs (l * s) ((h - l) * s)) (if mx.isSome then m == h else ex && h == n))
      else none
    | _, _, _, _ => none
  | some (.slice e), .vec o ver off n esz => match szT P e, bnd lo 0, bnd hi n with
    | some s, some l, some h => match mx with
      | none => if l ≤ h ∧ h ≤ n ∧ esz = s ∧ okA (fun _ => none) H (.vec o ver off n esz) then
            if l = 0 ∨ l < h then some (.vec o ver (off + l * s) (h - l) s) else some (.slice 0 [] false)
          else none
      | some m => match bnd (some m) 0 with
        | some m => if l = h ∧ h = m ∧ h ≤ n ∧ hi.isSome ∧ okA (fun _ => none) H (.vec o ver off n esz) then some (.slice 0 [] true) else none
        | none => none
    | _, _, _ => none
  | some (.array n e), .ptr o ver off => match mx, szT P e, bnd lo 0, bnd hi n, H.ob o with
    | none, some s, some l, some h, some b =>
      if l ≤ h ∧ h ≤ n ∧ (l = 0 ∨ l < h) ∧ b.ver = ver ∧ off + n * s ≤ b.cells.length then some (.vec o ver (off + l * s) (h - l) s) else none
    | _, _, _, _, _ => none
  | _, _ => none

def u8s (s : ByteArray) : List AV := s.data.toList.map fun b => .int .u8 b.toNat
def numsOfA : List AV → Option (List Int)
  | [] => some []
  | .int .u8 n :: rest => match numsOfA rest with
    | some bs => some (n :: bs)
    | none => none
  | _ :: _ => none

def aconv (q : Bool) (P : Program) (H : Hp) (src dst : TypeId) (x : AV) : Option (AV × Hp) :=
  match P.underlying src, P.underlying dst, x with
  | some _, some (.int k), .int _ n => some (.int k (k.wrap n), H)
  | some .string, some .string, .str s => some (.str s, H)
  | some (.slice e), some .string, x => match P.underlying e with
    | some (.int .u8) => match content H x 1 with
      | some (_, cs) => match numsOfA cs with
        | some bs => some (.str (strOfNums bs), H)
        | none => none
      | none => none
    | _ => none
  | some .string, some (.slice e), .str s => if q then none else match P.underlying e with
    | some (.int .u8) => some (.vec H.next H.next 0 s.size 1, H.new none (u8s s))
    | _ => none
  | _, _, _ => none

def amakeSlice (P : Program) (H : Hp) (t : TypeId) (n c : AV) : Option (AV × Hp) :=
  match P.underlying t with
  | some (.slice e) => match n, c, P.info? e, zeroT P e with
    | .int _ n, .int _ c, some i, some z =>
      if 0 ≤ n ∧ n ≤ c ∧ c * (i.bytes + 1) ≤ 70368744177664 ∧ c ≤ 70368744177664 ∧ z.length = i.size ∧ i.size ≠ 0 then
        some (.vec H.next H.next 0 n.toNat i.size, H.new (some (e, false)) (repl n.toNat z))
      else none
    | _, _, _, _ => none
  | _ => none

/-- The cells that are appended: of a slice, or of a string. -/
def srcA (H : Hp) (x : AV) (esz : Nat) : Option (Nat × List AV) := match x with
  | .str s => if esz = 1 then some (s.size, u8s s) else none
  | x => content H x esz

def aappend (P : Program) (H : Hp) (ts : Array TypeId) (s x : AV) : Option (AV × Hp) :=
  match ts[0]?, ts[1]? with
  | some st, some xt => match P.underlying st, P.underlying xt with
    | some (.slice _), some (.int _) => none
    | some (.slice e), some _ => match P.info? e with
      | some i => if i.size = 0 ∨ (zeroT P e).map (·.length) ≠ some i.size then none else match srcA H x i.size with
        | some (k, ys0) => match mapH (strip false depthS) H ys0 with
          | some (ys, H1) => match s with
            | .slice n cs ex =>
              if k = 0 then some (.slice n cs ex, H1)
              else if ex = true ∧ cs.length = n * i.size ∧ (n + k) * (i.bytes + 1) ≤ 70368744177664 then
                some (.vec H1.next H1.next 0 (n + k) i.size, H1.new (some (e, false)) (cs ++ ys))
              else none
            | .vec o ver off n esz => match H1.ob o with
              | some b =>
                if b.ver ≠ ver then none
                else if k = 0 then some (.vec o ver off n esz, H1)
                else if esz = i.size ∧ off + n * esz ≤ b.cells.length ∧ b.fz ≤ off + n * esz ∧ (n + k) * (i.bytes + 1) ≤ 70368744177664 then
                  some (.vec o H1.next 0 (n + k) esz, H1.re o (cut b.cells off (n * esz) ++ ys) (b.fz - off) (reTy b.ty e))
                else none
              | none => none
            | _ => none
          | none => none
        | none => none
      | none => none
    | _, _ => none
  | _, _ => none

def alen (P : Program) (H : Hp) (t : TypeId) (x : AV) : Option AV :=
  match P.underlying t with
  | some .string => match x with
    | .str s => some (.int .i64 s.size)
    | _ => none
  | some (.array n _) => some (.int .i64 n)
  | some (.slice _) => match x with
    | .slice n _ _ => some (.int .i64 n)
    | .vec a b c n d => if okA (fun _ => none) H (.vec a b c n d) then some (.int .i64 n) else none
    | _ => none
  | _ => none

def amin : AV → AV → Option AV
  | .int k x, .int _ y => some (.int k (if y < x then y else x))
  | _, _ => none
def amax : AV → AV → Option AV
  | .int k x, .int _ y => some (.int k (if y > x then y else x))
  | _, _ => none
def foldA (f : AV → AV → Option AV) : AV → List AV → Option AV
  | x, [] => some x
  | x, y :: ys => match f x y with
    | some z => foldA f z ys
    | none => none

/-! ### The machine -/
structure Cfg where
  P : Program
  base : Nat → Nat → Option Value
  isPure : FuncId → Bool
  esc : FuncId → Nat → Bool
  orc : FuncId → Option (List AV → Option AV)
  sorc : FuncId → Option (List AV → Hp → Option (AV × Hp))

def opnd (e : En) : Operand → AV
  | .tmp t => e t
  | .const v => AV.ofV v
  | .global _ => .undef
  | .func f => .func (.func f) [] []

def opndO (e : En) (o : Option Operand) : Option AV := o.map (opnd e)

/-- Calls: the flag forbids whatever would turn the heap. -/
abbrev CA := Bool → FuncId → List AV → Hp → Option (AV × Hp)

def acall (ca : CA) (q : Bool) (f : AV) (args : List AV) (H : Hp) : Option (AV × Hp) :=
  match f with
  | .func (.func k) first cap => ca q k (first ++ (args ++ cap)) H
  | _ => none

def hd2 (l : List AV) : Option (AV × AV) := match l with
  | [x, y] => some (x, y)
  | _ => none

def evCall (P : Program) (ca : CA) (q : Bool) (e : En) (H : Hp) (c : Call) : Option (AV × Hp) :=
  match c.callee with
  | .value f => acall ca q (opnd e f) (c.args.toList.map (opnd e)) H
  | .builtin .len => match c.argTypes[0]?, c.args.toList with
    | some t, [x] => match alen P H t (opnd e x) with
      | some v => some (v, H)
      | none => none
    | _, _ => none
  | .builtin .append => if q then none else match c.args.toList with
    | [s, x] => aappend P H c.argTypes (opnd e s) (opnd e x)
    | _ => none
  | .builtin .min => match c.args.toList with
    | x :: xs => match foldA amin (opnd e x) (xs.map (opnd e)) with
      | some v => some (v, H)
      | none => none
    | [] => none
  | .builtin .max => match c.args.toList with
    | x :: xs => match foldA amax (opnd e x) (xs.map (opnd e)) with
      | some v => some (v, H)
      | none => none
    | [] => none
  | _ => none

/-- A value where no address of a local variable may stand. -/
def noLoc (v : AV) : Option AV := if v.isLoc then none else some v
def noLocs : List AV → Bool
  | [] => true
  | v :: vs => !v.isLoc && noLocs vs

def val (s : St) (v : Option AV) : Option (AV × St) := match v with
  | some v => some (v, s)
  | none => none
def valH (s : St) (v : Option (AV × Hp)) : Option (AV × St) := match v with
  | some (v, H) => some (v, ⟨s.e, s.l, H⟩)
  | none => none

/-- A new variable of some cells, at the place that the operation writes. -/
def newVarA (esc : Nat → Bool) (dst : Option Tmp) (s : St) (t : TypeId) (cs : List AV) : Option (AV × St) := match dst with
  | some d => if esc d then some (.ptr s.h.next s.h.next 0, ⟨s.e, s.l, s.h.new (some (t, true)) cs⟩)
    else some (.loc d 0, ⟨s.e.clr d, s.l.upd d cs, s.h⟩)
  | none => none

def evOp (P : Program) (esc : Nat → Bool) (ca : CA) (q : Bool) (s : St) (o : Oper) : Option (AV × St) :=
  match o.op with
  | .move x => some (opnd s.e x, s)
  | .assign x => some (opnd s.e x, s)
  | .pick c a b => match opnd s.e c with
    | .bool true => some (opnd s.e a, s)
    | .bool false => some (opnd s.e b, s)
    | _ => none
  | .alloc t => if q then none else match zeroT P t with
    | some z => newVarA esc o.dst s t z
    | none => none
  | .box t x => if q then none else match acells (opnd s.e x) with
    | some cs => newVarA esc o.dst s t cs
    | none => none
  | .build t parts => val s (abuild P t (parts.toList.map fun p => (p.1, opnd s.e p.2)))
  | .buildSlice t n parts => valH s (abuildSlice q P s.h t n (parts.toList.map fun p => (p.1, opnd s.e p.2)))
  | .load t a => val s (aload P s.l s.h t (opnd s.e a))
  | .store t a x => if q then none else match astore P s.l s.h t (opnd s.e a) (opnd s.e x) with
    | some (l, H) => some (.undef, ⟨s.e, l, H⟩)
    | none => none
  | .nilCheck x => match opnd s.e x with
    | .loc d off => if okA s.l s.h (.loc d off) then some (.loc d off, s) else none
    | .ptr a b c => if okA s.l s.h (.ptr a b c) then some (.ptr a b c, s) else none
    | .eptr cs => some (.eptr cs, s)
    | .func (.func k) first cap => some (.func (.func k) first cap, s)
    | _ => none
  | .binOp op t x y _ => val s (abin P s.l s.h op t (constO x || constO y) (nilSliceC y) (opnd s.e x) (opnd s.e y))
  | .unOp op _ x => val s (aun op (opnd s.e x))
  | .convert src dst x => valH s (aconv q P s.h src dst (opnd s.e x))
  | .makeInterface t x => match P.underlying t, noLoc (opnd s.e x) with
    | some (.interface _), _ => none
    | some _, some v => some (.iface t v, s)
    | _, _ => none
  | .makeFunc fn first cap => if noLocs (first.toList.map (opnd s.e)) && noLocs (cap.toList.map (opnd s.e)) then some (.func fn (first.toList.map (opnd s.e)) (cap.toList.map (opnd s.e)), s) else none
  | .makeSlice t n c => if q then none else valH s (amakeSlice P s.h t (opnd s.e n) (opnd s.e c))
  | .slice t x lo hi mx => val s (aslice P s.h t (opnd s.e x) (opndO s.e lo) (opndO s.e hi) (opndO s.e mx))
  | .fieldAddr t x f => val s (afieldAddr P s.l s.h t (opnd s.e x) f)
  | .field t x f => val s (afield P t (opnd s.e x) f)
  | .indexAddr t x i => val s (aindexAddr P s.l s.h t (opnd s.e x) (opnd s.e i))
  | .index t x i => val s (aindex P t (opnd s.e x) (opnd s.e i))
  | .extract x i => match opnd s.e x with
    | .tup vs => val s vs[i]?
    | _ => none
  | .call c => valH s (evCall P ca q s.e s.h c)
  | _ => none

def wantA (ops : Array Oper) (e : En) (o : Oper) : Option Bool := match o.guard with
  | none => some true
  | some (j, want) => match (ops[j]?).bind (·.dst) with
    | some t => match e t with
      | .bool b => some (b == want)
      | .tup [] => some false
      | _ => none
    | none => none

def putA (nt : Nat) (s : St) (d : Option Tmp) (v : AV) : Option St := match d with
  | some d => if d < nt then some ⟨s.e.upd d v, s.l, s.h⟩ else none
  | none => some s

/-- One operation of a region, its guard looked at. -/
def evOne (P : Program) (esc : Nat → Bool) (ca : CA) (q : Bool) (nt : Nat) (ops : Array Oper) (s : St) (o : Oper) : Option St :=
  match wantA ops s.e o with
  | some true => match evOp P esc ca q s o with
    | some (v, s1) => putA nt s1 o.dst v
    | none => none
  | some false => putA nt s o.dst (.tup [])
  | none => none

def evOps (P : Program) (esc : Nat → Bool) (ca : CA) (q : Bool) (nt : Nat) (ops : Array Oper) : List Oper → St → Option St
  | [], s => some s
  | o :: rest, s => match evOne P esc ca q nt ops s o with
    | some s1 => evOps P esc ca q nt ops rest s1
    | none => none

/-! ### Regions that draw their order -/
/-- What must come ahead of each operation. -/
def ddi (x : Nat) (r : List Nat) : List Nat := if r.contains x then r else x :: r
def dd : List Nat → List Nat
  | [] => []
  | x :: xs => ddi x (dd xs)
def reachL : List Oper → List (List Nat) → List (List Nat)
  | [], acc => acc
  | o :: rest, acc => reachL rest (acc ++ [dd ((o.after.toList.filter (Region.binds .any)).flatMap fun e => e.on :: acc.getD e.on [])])
def reach (ops : List Oper) : List (List Nat) := reachL ops []

def isAlloc (o : Oper) : Bool := match o.op with
  | .alloc _ => o.guard.isNone
  | _ => false
/-- An operation that may turn the memory, by its sign. -/
def loud (isPure : FuncId → Bool) (o : Oper) : Bool := match o.op with
  | .store .. => true
  | .box .. => true
  | .makeSlice .. => true
  | .call c => match c.callee with
    | .value (.func f) => !isPure f
    | .builtin .append => true
    | .builtin .len => false
    | .builtin .min => false
    | .builtin .max => false
    | _ => true
  | _ => false
def preLen (isPure : FuncId → Bool) : List Oper → Nat
  | [] => 0
  | o :: rest => if loud isPure o then 0 else preLen isPure rest + 1

def tmpsOf (o : Oper) : List Tmp := o.op.operands.toList.filterMap fun | .tmp t => some t | _ => none
def guardTmp (ops : List Oper) (o : Oper) : List Tmp := match o.guard with
  | some (j, _) => ((ops[j]?).bind (·.dst)).toList
  | none => []

def allB (n : Nat) (f : Nat → Bool) : Bool := (List.range n).all f

/-- `f` operations that only read (and new variables) ahead of others that stand in one order. -/
def orderOk (ops : List Oper) (f : Nat) : Bool :=
  let r := reach ops
  decide (f ≤ ops.length) &&
  -- whatever an operation waits for stands ahead of it
  allB ops.length (fun i => match ops[i]? with
    | some o => (o.after.toList.filter (Region.binds .any)).all fun e => decide (e.on < i)
    | none => true) &&
  -- each of the first f: what it looks at is written ahead of it, or by none of them; no two write one temporary
  allB f (fun i => match ops[i]? with
    | some o => allB f (fun j => match ops[j]? with
      | some p => match p.dst with
        | some d => (if (tmpsOf o ++ guardTmp ops o).contains d then decide (j < i) && (r.getD i []).contains j else true) && (decide (i = j) || !(o.dst == some d))
        | none => true
      | none => true)
    | none => true) &&
  -- the others stand behind all that is ahead of them
  allB (ops.length - f) (fun j => allB (f + j) fun i => (r.getD (f + j) []).contains i)

def allocSlots (ops : List Oper) : List Nat := ops.filterMap fun o => if isAlloc o then o.dst else none
def clrAll (s : St) : List Nat → St
  | [] => s
  | d :: ds => clrAll ⟨s.e.clr d, s.l.del d, s.h⟩ ds
def noSlot (ds : List Nat) : AV → Bool
  | .loc d _ => !ds.contains d
  | _ => true

/-- The first operations of a region that draws: the values, the new variables not yet there. -/
def evPre (P : Program) (esc : Nat → Bool) (ca : CA) (nt : Nat) (ops : Array Oper) (ds : List Nat) : List Oper → St → Option St
  | [], s => some s
  | o :: rest, s =>
    if isAlloc o then
      match o.dst with
      | some d => if esc d then none else match putA nt s (some d) (.loc d 0) with
        | some s1 => evPre P esc ca nt ops ds rest s1
        | none => none
      | none => none
    else match wantA ops s.e o with
      | some true => match evOp P esc ca true s o with
        | some (v, s1) => if noSlot ds v then match putA nt s1 o.dst v with
            | some s2 => evPre P esc ca nt ops ds rest s2
            | none => none
          else none
        | none => none
      | some false => match putA nt s o.dst (.tup []) with
        | some s2 => evPre P esc ca nt ops ds rest s2
        | none => none
      | none => none

/-- The new variables of the first operations. -/
def addSlots (P : Program) : List Oper → Lo → Option Lo
  | [], l => some l
  | o :: rest, l =>
    if isAlloc o then
      match o.dst, o.op with
      | some d, .alloc t => match zeroT P t with
        | some z => addSlots P rest (l.upd d z)
        | none => none
      | _, _ => none
    else addSlots P rest l

def evDraw (P : Program) (esc : Nat → Bool) (isPure : FuncId → Bool) (ca : CA) (nt : Nat) (ops : Array Oper) (s : St) : Option St :=
  let l := ops.toList
  let f := preLen isPure l
  if orderOk l f then
    let ds := allocSlots (l.take f)
    match evPre P esc ca nt ops ds (l.take f) (clrAll s ds) with
    | some s1 => match addSlots P (l.take f) s1.l with
      | some lo => evOps P esc ca false nt ops (l.drop f) ⟨s1.e, lo, s1.h⟩
      | none => none
    | none => none
  else none

inductive Ex where
  | normal
  | exit (id : Nat)
  | ret

abbrev EV := Code → St → Option (Ex × St)

structure Lvl where
  ev : FuncId → Nat → EV
  ca : CA

def evCode (C : Cfg) (r : Lvl) (fn : FuncId) (nt : Nat) (c : Code) (s : St) : Option (Ex × St) :=
  match c with
  | .skip => some (.normal, s)
  | .region _ ops draw => match (if draw then evDraw C.P (C.esc fn) C.isPure r.ca nt ops s else evOps C.P (C.esc fn) r.ca false nt ops ops.toList s) with
    | some s1 => some (.normal, s1)
    | none => none
  | .seq a b => match r.ev fn nt a s with
    | some (.normal, s1) => r.ev fn nt b s1
    | some (x, s1) => some (x, s1)
    | none => none
  | .cond c x y => match opnd s.e c with
    | .bool true => r.ev fn nt x s
    | .bool false => r.ev fn nt y s
    | _ => none
  | .block id b => match r.ev fn nt b s with
    | some (.exit id', s1) => if id' = id then some (.normal, s1) else some (.exit id', s1)
    | some (x, s1) => some (x, s1)
    | none => none
  | .loop b => match r.ev fn nt b s with
    | some (.normal, s1) => r.ev fn nt (.loop b) s1
    | some (x, s1) => some (x, s1)
    | none => none
  | .exit id => some (.exit id, s)
  | .ret => some (.ret, s)
  | _ => none

def argE (args : List AV) : En := fun i => args.getD i .undef

def resA (P : Program) (s : St) : List ResultVar → Option (List AV)
  | [] => some []
  | .tmp t :: rest => match noLoc (s.e t), resA P s rest with
    | some v, some vs => some (v :: vs)
    | _, _ => none
  | .cell a t :: rest => match aload P s.l s.h t (s.e a), resA P s rest with
    | some v, some vs => some (v :: vs)
    | _, _ => none
def oneOf : List AV → AV
  | [v] => v
  | vs => .tup vs

def evBody (C : Cfg) (r : Lvl) (f : FuncId) (args : List AV) (H : Hp) : Option (AV × Hp) :=
  match C.P.funcs[f]? with
  | some fn => match fn.body with
    | some c => match r.ev f fn.ntmps c ⟨argE args, fun _ => none, H⟩ with
      | some (.exit _, _) => none
      | some (_, s) => match resA C.P s fn.results.toList with
        | some vs => some (oneOf vs, s.h)
        | none => none
      | none => none
    | none => none
  | none => none

def evCa (C : Cfg) (r : Lvl) : CA := fun q f args H =>
  if C.isPure f then
    match mapH (strip q depthS) H args with
    | some (args', H1) => match C.orc f with
      | some g => match g args' with
        | some v => some (v, H1)
        | none => none
      | none => match evBody C r f args' Hp.empty with
        | some (v, Hc) => match strip false depthS Hc v with
          | some (v', _) => some (v', H1)
          | none => none
        | none => none
    | none => none
  else if q then none
  else if noLocs args then
    match C.sorc f with
    | some g => g args H
    | none => evBody C r f args H
  else none

def lvl (C : Cfg) : Nat → Lvl
  | 0 => ⟨fun _ _ _ _ => none, fun _ _ _ _ => none⟩
  | n + 1 => ⟨evCode C (lvl C n), evCa C (lvl C n)⟩

end Go.Am
