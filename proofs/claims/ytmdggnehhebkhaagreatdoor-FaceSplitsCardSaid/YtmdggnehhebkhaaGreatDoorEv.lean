/- Helps for gone-through code: facts of this program's types, laws of the evaluator's small parts. -/
import Derived.Test.YtmdggnehhebkhaaGreatDoorCfg
set_option linter.unusedVariables false
set_option maxRecDepth 100000
namespace Go.Proofs.YtmdggnehhebkhaaGreatDoor
open Go Go.Am

theorem upd_same (e : En) (d : Nat) (v : AV) : En.upd e d v d = v := if_pos rfl
theorem upd_other (e : En) (d i : Nat) (v : AV) (h : i ≠ d) : En.upd e d v i = e i := if_neg h

@[simp] theorem cfgP : cfg.P = Tryz.prog := rfl
@[simp] theorem und_string : Tryz.prog.underlying 9 = some .string := by kernel_rfl
@[simp] theorem und_int : Tryz.prog.underlying 3 = some (.int .i64) := by kernel_rfl
@[simp] theorem und_bool : Tryz.prog.underlying 4 = some .bool := by kernel_rfl
@[simp] theorem und_u8 : Tryz.prog.underlying 5 = some (.int .u8) := by kernel_rfl
@[simp] theorem und_u64 : Tryz.prog.underlying 43 = some (.int .u64) := by kernel_rfl
@[simp] theorem und_bytes : Tryz.prog.underlying 44 = some (.slice 5) := by kernel_rfl
@[simp] theorem und_strings : Tryz.prog.underlying 64 = some (.slice 9) := by kernel_rfl
@[simp] theorem sz_u8 : szT Tryz.prog 5 = some 1 := by kernel_rfl
@[simp] theorem sz_string : szT Tryz.prog 9 = some 1 := by kernel_rfl
@[simp] theorem agg_u8 : aggT Tryz.prog 5 = some false := by kernel_rfl
@[simp] theorem agg_string : aggT Tryz.prog 9 = some false := by kernel_rfl

theorem wrap_i64 {n : Int} (h1 : -9223372036854775808 ≤ n) (h2 : n < 9223372036854775808) : IntKind.i64.wrap n = n := by
  unfold IntKind.wrap
  simp [IntKind.bits, IntKind.signed]
  split <;> omega
theorem wrap_u64 {n : Int} (h1 : 0 ≤ n) (h2 : n < 18446744073709551616) : IntKind.u64.wrap n = n := by
  unfold IntKind.wrap
  simp [IntKind.bits, IntKind.signed]
  omega
theorem wrap_u8 {n : Int} (h1 : 0 ≤ n) (h2 : n < 256) : IntKind.u8.wrap n = n := by
  unfold IntKind.wrap
  simp [IntKind.bits, IntKind.signed]
  omega

theorem Wp.condT {C : Cfg} {fn : FuncId} {nt : Nat} {s : St} {Q : Ex → St → Prop} {c : Operand} {x y : Code} (hc : opnd s.e c = .bool true) (h : Wp C fn nt x s Q) : Wp C fn nt (.cond c x y) s Q := Wp.cond (b := true) hc h
theorem Wp.condF {C : Cfg} {fn : FuncId} {nt : Nat} {s : St} {Q : Ex → St → Prop} {c : Operand} {x y : Code} (hc : opnd s.e c = .bool false) (h : Wp C fn nt y s Q) : Wp C fn nt (.cond c x y) s Q := Wp.cond (b := false) hc h

/-- A pure function's call. -/
theorem pure_of {C : Cfg} {q : Bool} {f : FuncId} {args args' : List AV} {H H1 H2 Hc : Hp} {v v' : AV} (hp : C.isPure f = true) (ho : C.orc f = none) (hs : mapH (strip q depthS) H args = some (args', H1))
    (hb : evBody C (top C) f args' Hp.empty = some (v, Hc)) (hv : strip false depthS Hc v = some (v', H2)) : (top C).ca q f args H = some (v', H1) := by
  refine top_ca ?_
  unfold evCa
  simp only [hp, if_true, hs, ho, hb, hv]
/-- A pure function taken by its contract. -/
theorem orc_of {C : Cfg} {q : Bool} {f : FuncId} {args args' : List AV} {H H1 : Hp} {v : AV} {g : List AV → Option AV} (hp : C.isPure f = true) (ho : C.orc f = some g) (hs : mapH (strip q depthS) H args = some (args', H1))
    (hb : g args' = some v) : (top C).ca q f args H = some (v, H1) := by
  refine top_ca ?_
  unfold evCa
  simp only [hp, if_true, hs, ho, hb]

@[simp] theorem abin_add {P : Program} {l : Lo} {H : Hp} {t : TypeId} {cx cn : Bool} {k : IntKind} {a b : Int} : abin P l H .add t cx cn (.int k a) (.int k b) = aint .add k a b := by simp [abin, isShift]
@[simp] theorem abin_sub {P : Program} {l : Lo} {H : Hp} {t : TypeId} {cx cn : Bool} {k : IntKind} {a b : Int} : abin P l H .sub t cx cn (.int k a) (.int k b) = aint .sub k a b := by simp [abin, isShift]
@[simp] theorem abin_mul {P : Program} {l : Lo} {H : Hp} {t : TypeId} {cx cn : Bool} {k : IntKind} {a b : Int} : abin P l H .mul t cx cn (.int k a) (.int k b) = aint .mul k a b := by simp [abin, isShift]
@[simp] theorem abin_quo {P : Program} {l : Lo} {H : Hp} {t : TypeId} {cx cn : Bool} {k : IntKind} {a b : Int} : abin P l H .quo t cx cn (.int k a) (.int k b) = aint .quo k a b := by simp [abin, isShift]
@[simp] theorem abin_rem {P : Program} {l : Lo} {H : Hp} {t : TypeId} {cx cn : Bool} {k : IntKind} {a b : Int} : abin P l H .rem t cx cn (.int k a) (.int k b) = aint .rem k a b := by simp [abin, isShift]
@[simp] theorem abin_and {P : Program} {l : Lo} {H : Hp} {t : TypeId} {cx cn : Bool} {k : IntKind} {a b : Int} : abin P l H .and t cx cn (.int k a) (.int k b) = aint .and k a b := by simp [abin, isShift]
@[simp] theorem abin_or {P : Program} {l : Lo} {H : Hp} {t : TypeId} {cx cn : Bool} {k : IntKind} {a b : Int} : abin P l H .or t cx cn (.int k a) (.int k b) = aint .or k a b := by simp [abin, isShift]
@[simp] theorem abin_xor {P : Program} {l : Lo} {H : Hp} {t : TypeId} {cx cn : Bool} {k : IntKind} {a b : Int} : abin P l H .xor t cx cn (.int k a) (.int k b) = aint .xor k a b := by simp [abin, isShift]
@[simp] theorem abin_andNot {P : Program} {l : Lo} {H : Hp} {t : TypeId} {cx cn : Bool} {k : IntKind} {a b : Int} : abin P l H .andNot t cx cn (.int k a) (.int k b) = aint .andNot k a b := by simp [abin, isShift]
@[simp] theorem abin_eql {P : Program} {l : Lo} {H : Hp} {t : TypeId} {cx cn : Bool} {k : IntKind} {a b : Int} : abin P l H .eql t cx cn (.int k a) (.int k b) = aint .eql k a b := by simp [abin, isShift]
@[simp] theorem abin_neq {P : Program} {l : Lo} {H : Hp} {t : TypeId} {cx cn : Bool} {k : IntKind} {a b : Int} : abin P l H .neq t cx cn (.int k a) (.int k b) = aint .neq k a b := by simp [abin, isShift]
@[simp] theorem abin_lss {P : Program} {l : Lo} {H : Hp} {t : TypeId} {cx cn : Bool} {k : IntKind} {a b : Int} : abin P l H .lss t cx cn (.int k a) (.int k b) = aint .lss k a b := by simp [abin, isShift]
@[simp] theorem abin_leq {P : Program} {l : Lo} {H : Hp} {t : TypeId} {cx cn : Bool} {k : IntKind} {a b : Int} : abin P l H .leq t cx cn (.int k a) (.int k b) = aint .leq k a b := by simp [abin, isShift]
@[simp] theorem abin_gtr {P : Program} {l : Lo} {H : Hp} {t : TypeId} {cx cn : Bool} {k : IntKind} {a b : Int} : abin P l H .gtr t cx cn (.int k a) (.int k b) = aint .gtr k a b := by simp [abin, isShift]
@[simp] theorem abin_geq {P : Program} {l : Lo} {H : Hp} {t : TypeId} {cx cn : Bool} {k : IntKind} {a b : Int} : abin P l H .geq t cx cn (.int k a) (.int k b) = aint .geq k a b := by simp [abin, isShift]
@[simp] theorem abin_shl {P : Program} {l : Lo} {H : Hp} {t : TypeId} {cx cn : Bool} {k k' : IntKind} {a b : Int} : abin P l H .shl t cx cn (.int k a) (.int k' b) = aint .shl k a b := by simp [abin, isShift]
@[simp] theorem abin_shr {P : Program} {l : Lo} {H : Hp} {t : TypeId} {cx cn : Bool} {k k' : IntKind} {a b : Int} : abin P l H .shr t cx cn (.int k a) (.int k' b) = aint .shr k a b := by simp [abin, isShift]
theorem abin_str {P : Program} {l : Lo} {H : Hp} {op : BinOp} {t : TypeId} {cx cn : Bool} {a b : ByteArray} : abin P l H op t cx cn (.str a) (.str b) = astr op a b := by
  simp [abin]
theorem abin_bool {P : Program} {l : Lo} {H : Hp} {op : BinOp} {t : TypeId} {cx cn : Bool} {a b : Bool} (h : P.underlying t = some .bool) : abin P l H op t cx cn (.bool a) (.bool b) = eqRes op (a == b) := by
  simp [abin, h]
theorem bget (s : ByteArray) (i : Nat) : s[i]? = s.data.toList[i]? := by
  rw [Array.getElem?_toList]
  rfl
theorem aindex_str {P : Program} {t : TypeId} {s : ByteArray} {k : IntKind} {i : Nat} {b : UInt8} (h : P.underlying t = some .string) (hb : s.data.toList[i]? = some b) : aindex P t (.str s) (.int k (i : Int)) = some (.int .u8 b.toNat) := by
  simp [aindex, h, bget, hb]
theorem aconv_int {q : Bool} {P : Program} {H : Hp} {src dst : TypeId} {k k' : IntKind} {n : Int} (h1 : (P.underlying src).isSome = true) (h2 : P.underlying dst = some (.int k)) : aconv q P H src dst (.int k' n) = some (.int k (k.wrap n), H) := by
  unfold aconv
  rw [h2]
  cases h : P.underlying src with
  | none => rw [h] at h1; cases h1
  | some u => rfl
theorem alen_str {P : Program} {H : Hp} {t : TypeId} {s : ByteArray} (h : P.underlying t = some .string) : alen P H t (.str s) = some (.int .i64 s.size) := by simp [alen, h]

/-- A string of some bytes. -/
def B (l : List UInt8) : ByteArray := ⟨l.toArray⟩
theorem B_eta (s : ByteArray) : B s.data.toList = s := by cases s; simp [B]
@[simp] theorem B_list (l : List UInt8) : (B l).data.toList = l := by simp [B]
@[simp] theorem size_B (l : List UInt8) : (B l).size = l.length := by simp [B, ByteArray.size]
theorem bytes_ext {s t : ByteArray} (h : s.data.toList = t.data.toList) : s = t := by rw [← B_eta s, h, B_eta]
theorem extract_B (l : List UInt8) (a b : Nat) : (B l).extract a b = B ((l.drop a).take (b - a)) := by
  apply bytes_ext
  simp [ByteArray.data_extract, B]
@[simp] theorem append_B (l m : List UInt8) : B l ++ B m = B (l ++ m) := by
  apply bytes_ext
  simp [B, ByteArray.data_append]
theorem B_inj {l m : List UInt8} : B l = B m ↔ l = m := ⟨fun h => by have := congrArg (fun s => s.data.toList) h; simpa using this, fun h => by rw [h]⟩
theorem aslice_str {P : Program} {H : Hp} {t : TypeId} {l : List UInt8} {lo hi : Option AV} {a b : Nat} (ht : P.underlying t = some .string) (ha : bnd lo 0 = some a) (hb : bnd hi l.length = some b) (h1 : a ≤ b) (h2 : b ≤ l.length) :
    aslice P H t (.str (B l)) lo hi none = some (.str (B ((l.drop a).take (b - a)))) := by
  simp [aslice, ht, ha, hb, h1, h2, extract_B]
theorem bnd_none (d : Nat) : bnd none d = some d := rfl
theorem bnd_nat (k : IntKind) (n d : Nat) : bnd (some (.int k (n : Int))) d = some n := by simp [bnd]
attribute [simp] evOps evOne evOp wantA putA opnd evCall AV.ofV AV.ofA upd_same upd_other aint val valH alen_str hd2 eqRes abin_str abin_bool aconv_int opndO constO nilSliceC
end Go.Proofs.YtmdggnehhebkhaaGreatDoor
