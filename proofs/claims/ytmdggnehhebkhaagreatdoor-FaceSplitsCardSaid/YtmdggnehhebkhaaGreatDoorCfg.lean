/- The evaluator's table for this program: which functions are pure, which variables' addresses go on, which of the library's functions are taken by their contracts. -/
import Derived.Test.YtmdggnehhebkhaaGreatDoorProg
import Derived.Test.YtmdggnehhebkhaaGreatDoorAm13
import Derived.KernelRfl
import Derived.Lib.Bytealg
import Derived.Lib.Atoi
import Derived.Lib.ItoaNum
import Derived.Shelf.Unicode.DecodeSlow
set_option linter.unusedVariables false
namespace Go.Proofs.YtmdggnehhebkhaaGreatDoor
open Go Go.Am
/-- The variables whose address goes on. -/
def escT : List (Nat × List Nat) := [
  (16, [3]),
  (50, [12]),
  (51, [8]),
  (24, [5]),
  (48, [6, 7]),
  (52, [5]),
  (91, [33]),
  (125, [3]),
  (64, [10]),
  (65, [10]),
  (66, [15]),
  (67, [15]),
  (87, [12]),
  (105, [5]),
  (108, [6]),
  (136, [7]),
  (144, [7]),
  (170, [2]),
  (103, [5]),
  (160, [5]),
  (185, [3]),
  (189, [3]),
  (206, [5]),
  (196, [7]),
  (197, [9]),
  (232, [4]),
  (240, [1]),
  (246, [2, 3])]
/-- The functions that write what they are given. -/
def impT : List Nat := [
  27,
  29,
  82,
  83,
  41,
  42,
  49,
  92,
  126,
  127,
  128,
  68,
  115,
  117,
  137,
  138,
  139,
  140,
  141,
  142,
  143,
  168,
  169,
  170,
  158,
  177,
  178,
  179,
  180,
  181,
  182,
  183,
  184,
  185,
  186,
  188,
  207,
  209,
  210,
  194,
  195,
  196,
  197,
  198,
  199,
  200,
  201,
  212,
  213,
  214,
  216,
  223,
  225,
  226,
  227,
  230,
  235,
  236,
  241,
  242,
  244,
  245,
  246,
  247,
  256,
  257,
  258,
  259,
  260,
  264,
  270,
  269,
  271]
def digs : ByteArray := ⟨#[48, 49, 50, 51, 52, 53, 54, 55, 56, 57]⟩
def isDig (b : UInt8) : Bool := decide (48 ≤ b.toNat) && decide (b.toNat ≤ 57)
def cutL (s : ByteArray) : ByteArray := ⟨(s.data.toList.dropWhile isDig).toArray⟩
def cutR (s : ByteArray) : ByteArray := ⟨((s.data.toList.reverse.dropWhile isDig).reverse).toArray⟩
def sameB (s t : ByteArray) : Bool := s.data.toList == t.data.toList

def oIndexByte : List AV → Option AV
  | [.str s, .int .u8 c] => if 0 ≤ c ∧ c < 256 then some (.int .i64 (Lib.indexByte s.data.toList (UInt8.ofNat c.toNat))) else none
  | _ => none
def oItoa : List AV → Option AV
  | [.int .i64 n] => if 0 ≤ n ∧ n < 100 then some (.str ⟨(Lib.itoa n).toArray⟩) else none
  | _ => none
def oAtoi : List AV → Option AV
  | [.str s] => if s.size ≤ 18 then (match Lib.atoi s.data.toList with
    | some n => some (.tup [.int .i64 n, .niliface])
    | none => none) else none
  | _ => none
def oCutL : List AV → Option AV
  | [.str s, .str d] => if sameB d digs then some (.str (cutL s)) else none
  | _ => none
def oCutR : List AV → Option AV
  | [.str s, .str d] => if sameB d digs then (if s.size ≤ 9223372036854775807 then some (.str (cutR s)) else none) else none
  | _ => none
def oCount : List AV → Option AV
  | [.str s, .str t] => match t.data.toList with
    | [c] => some (.int .i64 (Lib.countByte s.data.toList c))
    | _ => none
  | _ => none
def orcF (f : Nat) : Option (List AV → Option AV) :=
  if f = 57 then some oIndexByte
  else if f = 17 then some oItoa
  else if f = 23 then some oAtoi
  else if f = 22 then some oCutL
  else if f = 21 then some oCutR
  else if f = 89 then some oCount
  else none

/-- A Builder's mark of itself. -/
def sCopyCheck : List AV → Hp → Option (AV × Hp)
  | [.ptr o ver 0], H => match H.ob o with
    | some b => if b.ver = ver ∧ b.fz = 0 ∧ b.ty = some (61, true) then match b.cells with
      | [.nilptr, buf] => some (.tup [], H.upd o ⟨[.ptr o ver 0, buf], b.ver, b.fz, b.ty⟩)
      | [.ptr o' ver' 0, buf] => if o' = o ∧ ver' = ver then some (.tup [], H) else none
      | _ => none
      else none
    | none => none
  | _, _ => none
def bytesOf : List AV → Option (List UInt8)
  | [] => some []
  | .int .u8 n :: rest => if 0 ≤ n ∧ n < 256 then match bytesOf rest with
    | some l => some (UInt8.ofNat n.toNat :: l)
    | none => none
    else none
  | _ => none
/-- A Builder's text: its bytes are frozen. -/
def sString : List AV → Hp → Option (AV × Hp)
  | [.ptr o ver 0], H => match H.ob o with
    | some b => if b.ver = ver ∧ b.ty = some (61, true) then match b.cells with
      | [_, .vec o2 ver2 off n 1] => match H.ob o2 with
        | some b2 => if b2.ver = ver2 ∧ off + n ≤ b2.cells.length ∧ n ≠ 0 ∧ n ≤ 4611686018427387904 ∧ b2.ty = some (5, false) then match bytesOf (cut b2.cells off n) with
          | some l => some (.str ⟨l.toArray⟩, H.freeze o2 (off + n))
          | none => none
          else none
        | none => none
      | _ => none
      else none
    | none => none
  | _, _ => none
def sorcF (f : Nat) : Option (List AV → Hp → Option (AV × Hp)) :=
  if f = 49 then some sCopyCheck
  else if f = 29 then some sString
  else none

def escOf (T : List (Nat × List Nat)) (f d : Nat) : Bool := match T with
  | [] => false
  | (g, l) :: rest => if g = f then l.contains d else escOf rest f d

/-- The library's tables, as they stand from the start on. -/
def baseM (b i : Nat) : Option Value :=
  if b = 4 then (if i < 256 then some (.int .u8 (Lib.firstT i)) else none)
  else if b = 5 then (if i < 32 then some (.int .u8 (if i % 2 = 0 then Lib.accLo (i / 2) else Lib.accHi (i / 2))) else none)
  else none
noncomputable def cfg : Cfg := ⟨Tryz.prog, baseM, fun f => !impT.contains f, escOf escT, orcF, sorcF⟩
end Go.Proofs.YtmdggnehhebkhaaGreatDoor
