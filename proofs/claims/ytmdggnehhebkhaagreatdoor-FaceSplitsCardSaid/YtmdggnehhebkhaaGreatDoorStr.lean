/- The library's functions on strings that face.Split calls. -/
import Derived.Test.YtmdggnehhebkhaaGreatDoorSum2
set_option linter.unusedVariables false
set_option linter.unusedSimpArgs false
set_option maxRecDepth 100000
namespace Go.Proofs.YtmdggnehhebkhaaGreatDoor
open Go Go.Am

theorem noSlot_nil (v : AV) : noSlot [] v = true := by cases v <;> rfl
/-- A region that draws, of operations that only read. -/
theorem Wp.drawP {C : Cfg} {fn : FuncId} {nt id : Nat} {ops : Array Oper} {s s1 : St} {Q : Ex → St → Prop} (hf : preLen C.isPure ops.toList = ops.toList.length) (ho : orderOk ops.toList ops.toList.length = true) (hd : allocSlots ops.toList = [])
    (h : evPre C.P (C.esc fn) (top C).ca nt ops [] ops.toList s = some s1) (k : Q .normal s1) : Wp C fn nt (.region id ops true) s Q := by
  have hl : ∀ (l : List Oper) (lo : Lo), allocSlots l = [] → addSlots C.P l lo = some lo ∨ addSlots C.P l lo = none := by
    intro l
    induction l with
    | nil => intro lo _; exact .inl rfl
    | cons o rest ih =>
      intro lo hnil
      unfold addSlots
      unfold allocSlots at hnil
      simp only [List.filterMap_cons] at hnil
      by_cases ha : isAlloc o = true
      · simp only [ha, if_true] at hnil ⊢
        cases hdst : o.dst with
        | none => exact .inr rfl
        | some d => rw [hdst] at hnil; simp at hnil
      · simp only [ha] at hnil ⊢
        exact ih lo (by unfold allocSlots; simpa using hnil)
  refine Wp.draw (s1 := s1) ?_ k
  have hpre : ∀ (l : List Oper) (s s1 : St), evPre C.P (C.esc fn) (top C).ca nt ops [] l s = some s1 → allocSlots l = [] → ∀ lo, addSlots C.P l lo = some lo := by
    intro l
    induction l with
    | nil => intro s s1 _ _ lo; rfl
    | cons o rest ih =>
      intro s s1 he hnil lo
      have hna : isAlloc o = false := by
        cases ha : isAlloc o with
        | false => rfl
        | true =>
          simp only [evPre, ha, if_true] at he
          unfold allocSlots at hnil
          simp only [List.filterMap_cons, ha, if_true] at hnil
          cases hdst : o.dst with
          | none => rw [hdst] at he; cases he
          | some d => rw [hdst] at hnil; simp at hnil
      have hrest : allocSlots rest = [] := by
        unfold allocSlots at hnil ⊢
        simpa [List.filterMap_cons, hna] using hnil
      simp only [evPre, hna, Bool.false_eq_true, if_false] at he
      have key : ∃ s2, evPre C.P (C.esc fn) (top C).ca nt ops [] rest s2 = some s1 := by
        split at he
        · split at he
          · split at he
            · split at he
              · exact ⟨_, he⟩
              · cases he
            · cases he
          · cases he
        · split at he
          · exact ⟨_, he⟩
          · cases he
        · cases he
      obtain ⟨s2, h2⟩ := key
      simp only [addSlots, hna, Bool.false_eq_true, if_false]
      exact ih s2 s1 h2 hrest lo
  simp only [evDraw, hf, ho, if_true, List.take_length, hd, clrAll, h, hpre _ _ _ h hd, List.drop_length, evOps]

/-- One operation more. -/
theorem evOps_step {P : Program} {esc : Nat → Bool} {ca : CA} {q : Bool} {nt : Nat} {ops : Array Oper} {o : Oper} {rest : List Oper} {s s1 s2 : St} (h1 : evOne P esc ca q nt ops s o = some s1) (h2 : evOps P esc ca q nt ops rest s1 = some s2) :
    evOps P esc ca q nt ops (o :: rest) s = some s2 := by
  simp only [evOps, h1]; exact h2
theorem evPre_step {P : Program} {esc : Nat → Bool} {ca : CA} {nt : Nat} {ops : Array Oper} {o : Oper} {rest : List Oper} {s s1 s2 : St} (ha : isAlloc o = false) (h1 : evOne P esc ca true nt ops s o = some s1) (h2 : evPre P esc ca nt ops [] rest s1 = some s2) :
    evPre P esc ca nt ops [] (o :: rest) s = some s2 := by
  unfold evPre
  rw [if_neg (by simp [ha])]
  unfold evOne at h1
  cases hw : wantA ops s.e o with
  | none => rw [hw] at h1; cases h1
  | some b =>
    rw [hw] at h1
    cases b with
    | false => simp only at h1 ⊢; rw [h1]; exact h2
    | true =>
      simp only at h1 ⊢
      cases he : evOp P esc ca true s o with
      | none => rw [he] at h1; cases h1
      | some vs =>
        rw [he] at h1
        simp only [noSlot_nil, if_true] at h1 ⊢
        rw [h1]; exact h2

def PreTo (C : Cfg) (fn : FuncId) (nt : Nat) (ops : Array Oper) (l : List Oper) (s : St) (K : St → Prop) : Prop := ∃ s1, evPre C.P (C.esc fn) (top C).ca nt ops [] l s = some s1 ∧ K s1
theorem PreTo.nil {C : Cfg} {fn : FuncId} {nt : Nat} {ops : Array Oper} {s : St} {K : St → Prop} (h : K s) : PreTo C fn nt ops [] s K := ⟨s, rfl, h⟩
theorem PreTo.step {C : Cfg} {fn : FuncId} {nt : Nat} {ops : Array Oper} {o : Oper} {rest : List Oper} {s s1 : St} {K : St → Prop} (ha : isAlloc o = false) (h1 : evOne C.P (C.esc fn) (top C).ca true nt ops s o = some s1)
    (h2 : PreTo C fn nt ops rest s1 K) : PreTo C fn nt ops (o :: rest) s K := let ⟨s2, h3, h4⟩ := h2; ⟨s2, evPre_step ha h1 h3, h4⟩
theorem Wp.drawE {C : Cfg} {fn : FuncId} {nt id : Nat} {ops : Array Oper} {s : St} {Q : Ex → St → Prop} (hf : preLen C.isPure ops.toList = ops.toList.length) (ho : orderOk ops.toList ops.toList.length = true) (hd : allocSlots ops.toList = [])
    (h : PreTo C fn nt ops ops.toList s (Q .normal)) : Wp C fn nt (.region id ops true) s Q := let ⟨_, h1, h2⟩ := h; Wp.drawP hf ho hd h1 h2
def OpsTo (C : Cfg) (fn : FuncId) (nt : Nat) (ops : Array Oper) (l : List Oper) (s : St) (K : St → Prop) : Prop := ∃ s1, evOps C.P (C.esc fn) (top C).ca false nt ops l s = some s1 ∧ K s1
theorem OpsTo.nil {C : Cfg} {fn : FuncId} {nt : Nat} {ops : Array Oper} {s : St} {K : St → Prop} (h : K s) : OpsTo C fn nt ops [] s K := ⟨s, rfl, h⟩
theorem OpsTo.step {C : Cfg} {fn : FuncId} {nt : Nat} {ops : Array Oper} {o : Oper} {rest : List Oper} {s s1 : St} {K : St → Prop} (h1 : evOne C.P (C.esc fn) (top C).ca false nt ops s o = some s1)
    (h2 : OpsTo C fn nt ops rest s1 K) : OpsTo C fn nt ops (o :: rest) s K := let ⟨s2, h3, h4⟩ := h2; ⟨s2, evOps_step h1 h3, h4⟩
theorem Wp.regionE {C : Cfg} {fn : FuncId} {nt id : Nat} {ops : Array Oper} {s : St} {Q : Ex → St → Prop} (h : OpsTo C fn nt ops ops.toList s (Q .normal)) : Wp C fn nt (.region id ops false) s Q := let ⟨_, h1, h2⟩ := h; Wp.region h1 h2

/-- The bytes of `figs` that stand in a text, as Go cuts it at a byte. -/
def bef (c : UInt8) (l : List UInt8) : List UInt8 := l.takeWhile (· != c)
def aft (c : UInt8) (l : List UInt8) : List UInt8 := (l.dropWhile (· != c)).tail

attribute [simp] noSlot_nil evPre isAlloc astr

@[simp] theorem toList_B (l : List UInt8) : (B l).toList = l := by rw [Lib.toList_data, B_list]
theorem beq_dec {l m : List UInt8} : (l == m) = decide (l = m) := by
  by_cases h : l = m
  · subst h; simp
  · simp [h]

/-- HasPrefix. -/
theorem hasPrefix_ca (q : Bool) (H : Hp) (l p : List UInt8) (h1 : l.length < 4611686018427387904) (h2 : p.length < 4611686018427387904) :
    (top cfg).ca q 33 [.str (B l), .str (B p)] H = some (.bool (p.isPrefixOf l), H) := by
  refine pure_of (Hc := Hp.empty) (H2 := Hp.empty) (v := .bool (p.isPrefixOf l)) (by kernel_rfl) (by kernel_rfl) rfl ?_ rfl
  refine body_of Tryz.func33 rfl ?_
  refine Wp.seq (Wp.region (by simp [Tryz.ntmps33]; rfl) ?_)
  by_cases hle : p.length ≤ l.length
  · have es : aslice Tryz.prog Hp.empty 9 (.str (B l)) none (some (.int .i64 (p.length : Int))) none = some (.str (B (l.take p.length))) := by
      rw [aslice_str und_string (bnd_none _) (bnd_nat _ _ _) (by omega) hle]; simp
    have eb : (l.take p.length == p) = p.isPrefixOf l := by
      rw [beq_dec, Bool.eq_iff_iff, decide_eq_true_iff, List.isPrefixOf_iff_prefix]
      constructor
      · intro h; rw [← h]; exact List.take_prefix _ _
      · intro h; exact (List.prefix_iff_eq_take.1 h).symm
    refine Wp.seq (Wp.region (by simp [Tryz.ntmps33, argE, hle, es, eb]; rfl) ?_)
    refine Wp.ret ⟨.inr rfl, rfl, [.bool (p.isPrefixOf l)], ?_, rfl⟩
    simp [resA, noLoc, AV.isLoc, Tryz.f33]
  · have eb : p.isPrefixOf l = false := by
      cases h : p.isPrefixOf l with
      | false => rfl
      | true => rw [List.isPrefixOf_iff_prefix] at h; exact absurd h.length_le hle
    refine Wp.seq (Wp.region (by simp [Tryz.ntmps33, argE, hle]; rfl) ?_)
    refine Wp.ret ⟨.inr rfl, rfl, [.bool false], ?_, by rw [eb]; rfl⟩
    simp [resA, noLoc, AV.isLoc, Tryz.f33]

attribute [simp] acall

def cutPre (p l : List UInt8) : List UInt8 := if p.isPrefixOf l then l.drop p.length else l
theorem cutPrefix0_ca (q : Bool) (H : Hp) (l p : List UInt8) (h1 : l.length < 4611686018427387904) (h2 : p.length < 4611686018427387904) :
    (top cfg).ca q 19 [.str (B l), .str (B p)] H = some (.tup [.str (B (cutPre p l)), .bool (p.isPrefixOf l)], H) := by
  refine pure_of (Hc := Hp.empty) (H2 := Hp.empty) (v := .tup [.str (B (cutPre p l)), .bool (p.isPrefixOf l)]) (by kernel_rfl) (by kernel_rfl) rfl ?_ rfl
  refine body_of Tryz.func19 rfl ?_
  have hp := fun H => hasPrefix_ca false H l p h1 h2
  unfold cutPre
  refine Wp.seq (Wp.region (by simp [Tryz.ntmps19]; rfl) ?_)
  refine Wp.seq (Wp.seq (Wp.region (by simp [Tryz.ntmps19, argE, hp, aun]; rfl) ?_))
  cases hb : p.isPrefixOf l with
  | false =>
    refine Wp.condT (by simp) ?_
    refine Wp.seq (Wp.region (by simp [Tryz.ntmps19, argE]; rfl) ?_)
    refine Wp.ret ⟨.inr rfl, rfl, [.str (B l), .bool false], ?_, rfl⟩
    simp [resA, noLoc, AV.isLoc, Tryz.f19]
  | true =>
    refine Wp.condF (by simp) ?_
    have hle : p.length ≤ l.length := (List.isPrefixOf_iff_prefix.1 hb).length_le
    have es : aslice Tryz.prog Hp.empty 9 (.str (B l)) (some (.int .i64 (p.length : Int))) none none = some (.str (B (l.drop p.length))) := by
      rw [aslice_str und_string (bnd_nat _ _ _) (bnd_none _) hle (Nat.le_refl _)]
      congr 3
      rw [List.take_of_length_le]; simp
    refine Wp.skip ?_
    refine Wp.seq (Wp.region (by simp [Tryz.ntmps19, argE, es]; rfl) ?_)
    refine Wp.ret ⟨.inr rfl, rfl, [.str (B (l.drop p.length)), .bool true], ?_, rfl⟩
    simp [resA, noLoc, AV.isLoc, Tryz.f19]

theorem cutPrefix_ca (q : Bool) (H : Hp) (l p : List UInt8) (h1 : l.length < 4611686018427387904) (h2 : p.length < 4611686018427387904) :
    (top cfg).ca q 11 [.str (B l), .str (B p)] H = some (.tup [.str (B (cutPre p l)), .bool (p.isPrefixOf l)], H) := by
  refine pure_of (Hc := Hp.empty) (H2 := Hp.empty) (v := .tup [.str (B (cutPre p l)), .bool (p.isPrefixOf l)]) (by kernel_rfl) (by kernel_rfl) rfl ?_ rfl
  refine body_of Tryz.func11 rfl ?_
  have hp := fun H => cutPrefix0_ca false H l p h1 h2
  refine Wp.seq (Wp.region (by simp [Tryz.ntmps11]; rfl) ?_)
  refine Wp.seq (Wp.region (by simp [Tryz.ntmps11, argE, hp]; rfl) ?_)
  refine Wp.ret ⟨.inr rfl, rfl, [.str (B (cutPre p l)), .bool (p.isPrefixOf l)], ?_, rfl⟩
  simp [resA, noLoc, AV.isLoc, Tryz.f11]

theorem indexByte_ca (q : Bool) (H : Hp) (l : List UInt8) (c : UInt8) : (top cfg).ca q 57 [.str (B l), .int .u8 (c.toNat : Int)] H = some (.int .i64 (Lib.indexByte l c), H) := by
  refine orc_of (g := oIndexByte) (by kernel_rfl) rfl rfl ?_
  have hc : (c.toNat : Int) < 256 := by have := c.toNat_lt; omega
  simp [oIndexByte, hc]

theorem index1_ca (q : Bool) (H : Hp) (l : List UInt8) (c : UInt8) : (top cfg).ca q 34 [.str (B l), .str (B [c])] H = some (.int .i64 (Lib.indexByte l c), H) := by
  refine pure_of (Hc := Hp.empty) (H2 := Hp.empty) (v := .int .i64 (Lib.indexByte l c)) (by kernel_rfl) (by kernel_rfl) rfl ?_ rfl
  refine body_of Tryz.func34 rfl ?_
  have hp := fun H => indexByte_ca false H l c
  have hx : aindex Tryz.prog 9 (.str (B [c])) (.int .i64 0) = some (.int .u8 c.toNat) := aindex_str (i := 0) und_string (by simp)
  refine Wp.seq (Wp.region (by simp [Tryz.ntmps34]; rfl) ?_)
  refine Wp.seq (Wp.region (by simp [Tryz.ntmps34, argE]; rfl) ?_)
  refine Wp.seq (Wp.block (Wp.seq (Wp.region (by simp [Tryz.ntmps34, argE]; rfl) ?_)))
  by_cases he : l = [c]
  · subst he
    refine Wp.condT (by simp) ?_
    refine Wp.seq (Wp.region (by simp [Tryz.ntmps34]; rfl) ?_)
    refine Wp.ret ⟨.inr rfl, rfl, [.int .i64 0], ?_, by simp [oneOf, Lib.indexByte]⟩
    simp [resA, noLoc, AV.isLoc, Tryz.f34]
  have he' : ¬ [c] = l := fun h => he h.symm
  refine Wp.condF (by simp [he']) ?_
  refine Wp.seq (Wp.region (by simp [Tryz.ntmps34, argE]; rfl) ?_)
  refine Wp.condT (by simp) ?_
  refine Wp.seq (Wp.region (by simp [Tryz.ntmps34, argE, hp, hx]; rfl) ?_)
  refine Wp.ret ⟨.inr rfl, rfl, [.int .i64 (Lib.indexByte l c)], ?_, rfl⟩
  simp [resA, noLoc, AV.isLoc, Tryz.f34]

theorem indexByte_eq (c : UInt8) : ∀ l : List UInt8, Lib.indexByte l c = if c ∈ l then ((bef c l).length : Int) else -1 := by
  intro l
  induction l with
  | nil => rfl
  | cons b l ih =>
    unfold Lib.indexByte bef
    by_cases h : b = c
    · subst h; simp
    · have h' : (b == c) = false := by simp [h]
      have h2 : (b != c) = true := by simp [h]
      rw [h', List.takeWhile_cons, h2, ih]
      have hm : c ∈ b :: l ↔ c ∈ l := by simp [Ne.symm h]
      unfold bef
      by_cases hc : c ∈ l
      · simp only [hm, hc, if_true, List.length_cons]
        rw [if_neg (by simp), if_neg]
        · omega
        · simp
      · simp [hm, hc]

def cutRes (c : UInt8) (l : List UInt8) : List AV := if c ∈ l then [.str (B (bef c l)), .str (B (aft c l)), .bool true] else [.str (B l), .str (B []), .bool false]
theorem bef_lt {c : UInt8} {l : List UInt8} (h : c ∈ l) : (bef c l).length < l.length := by
  induction l with
  | nil => simp at h
  | cons b l ih =>
    unfold bef
    by_cases hb : b = c
    · subst hb; simp
    · have h2 : (b != c) = true := by simp [hb]
      rw [List.takeWhile_cons, h2]
      have := ih (by simpa [Ne.symm hb] using h)
      unfold bef at this
      simpa using this
theorem bef_take (c : UInt8) (l : List UInt8) : l.take (bef c l).length = bef c l := by
  unfold bef
  have := List.takeWhile_prefix (p := (· != c)) (l := l)
  exact (List.prefix_iff_eq_take.1 this).symm
theorem aft_drop (c : UInt8) (l : List UInt8) : l.drop ((bef c l).length + 1) = aft c l := by
  unfold aft bef
  rw [← List.tail_drop]
  congr 1
  have h := List.takeWhile_append_dropWhile (p := (· != c)) (l := l)
  have h2 := List.drop_left (l₁ := l.takeWhile (· != c)) (l₂ := l.dropWhile (· != c))
  rw [h] at h2
  exact h2

theorem cut0_ca (q : Bool) (H : Hp) (l : List UInt8) (c : UInt8) (h1 : l.length < 4611686018427387904) : (top cfg).ca q 20 [.str (B l), .str (B [c])] H = some (.tup (cutRes c l), H) := by
  by_cases hm : c ∈ l
  · refine pure_of (Hc := Hp.empty) (H2 := Hp.empty) (v := .tup (cutRes c l)) (by kernel_rfl) (by kernel_rfl) rfl ?_ (by unfold cutRes; rw [if_pos hm]; rfl)
    refine body_of Tryz.func20 rfl ?_
    have hp := fun H => index1_ca false H l c
    rw [indexByte_eq, if_pos hm] at hp
    have hlt := bef_lt hm
    have es1 : aslice Tryz.prog Hp.empty 9 (.str (B l)) none (some (.int .i64 ((bef c l).length : Int))) none = some (.str (B (bef c l))) := by
      rw [aslice_str und_string (bnd_none _) (bnd_nat _ _ _) (by omega) (by omega)]; simp [bef_take]
    have ew : IntKind.i64.wrap (((bef c l).length : Int) + 1) = (((bef c l).length + 1 : Nat) : Int) := by rw [wrap_i64 (by omega) (by omega)]; omega
    have es2 : aslice Tryz.prog Hp.empty 9 (.str (B l)) (some (.int .i64 (((bef c l).length + 1 : Nat) : Int))) none none = some (.str (B (aft c l))) := by
      rw [aslice_str und_string (bnd_nat _ _ _) (bnd_none _) (by omega) (Nat.le_refl _), aft_drop]
      congr 3
      rw [List.take_of_length_le]
      rw [← aft_drop]; simp
    generalize (bef c l).length + 1 = m at ew es2
    refine Wp.seq (Wp.region (by simp [Tryz.ntmps20]; rfl) ?_)
    refine Wp.seq (Wp.seq (Wp.region (by simp [Tryz.ntmps20, argE, hp]; rfl) ?_))
    refine Wp.seq (Wp.region (by simp [Tryz.ntmps20]; rfl) ?_)
    refine Wp.condT (by simp) ?_
    refine Wp.seq (Wp.drawP (by kernel_rfl) (by kernel_rfl) (by kernel_rfl) (by simp [Tryz.ntmps20, argE, es1, es2, ew]; rfl) ?_)
    refine Wp.ret ⟨.inr rfl, rfl, [.str (B (bef c l)), .str (B (aft c l)), .bool true], ?_, by unfold cutRes; rw [if_pos hm]; rfl⟩
    simp [resA, noLoc, AV.isLoc, Tryz.f20]
  · refine pure_of (Hc := Hp.empty) (H2 := Hp.empty) (v := .tup (cutRes c l)) (by kernel_rfl) (by kernel_rfl) rfl ?_ (by unfold cutRes; rw [if_neg hm]; rfl)
    refine body_of Tryz.func20 rfl ?_
    have hp := fun H => index1_ca false H l c
    rw [indexByte_eq, if_neg hm] at hp
    refine Wp.seq (Wp.region (by simp [Tryz.ntmps20]; rfl) ?_)
    refine Wp.seq (Wp.seq (Wp.region (by simp [Tryz.ntmps20, argE, hp]; rfl) ?_))
    refine Wp.seq (Wp.region (by simp [Tryz.ntmps20]; rfl) ?_)
    refine Wp.condF (by simp) ?_
    refine Wp.skip ?_
    refine Wp.seq (Wp.region (by simp [Tryz.ntmps20, argE]; rfl) ?_)
    refine Wp.ret ⟨.inr rfl, rfl, [.str (B l), .str (B []), .bool false], ?_, by unfold cutRes; rw [if_neg hm]; rfl⟩
    simp [resA, noLoc, AV.isLoc, Tryz.f20]
    rfl

theorem cut_ca (q : Bool) (H : Hp) (l : List UInt8) (c : UInt8) (h1 : l.length < 4611686018427387904) : (top cfg).ca q 12 [.str (B l), .str (B [c])] H = some (.tup (cutRes c l), H) := by
  have hr : ∃ a b d, cutRes c l = [.str (B a), .str (B b), .bool d] := by unfold cutRes; split <;> exact ⟨_, _, _, rfl⟩
  have hp := fun H => cut0_ca false H l c h1
  obtain ⟨a, b, d, hr⟩ := hr
  rw [hr] at hp ⊢
  refine pure_of (Hc := Hp.empty) (H2 := Hp.empty) (v := .tup [.str (B a), .str (B b), .bool d]) (by kernel_rfl) (by kernel_rfl) rfl ?_ rfl
  refine body_of Tryz.func12 rfl ?_
  refine Wp.seq (Wp.region (by simp [Tryz.ntmps12]; rfl) ?_)
  refine Wp.seq (Wp.region (by simp [Tryz.ntmps12, argE, hp]; rfl) ?_)
  refine Wp.ret ⟨.inr rfl, rfl, [.str (B a), .str (B b), .bool d], ?_, rfl⟩
  simp [resA, noLoc, AV.isLoc, Tryz.f12]
end Go.Proofs.YtmdggnehhebkhaaGreatDoor
