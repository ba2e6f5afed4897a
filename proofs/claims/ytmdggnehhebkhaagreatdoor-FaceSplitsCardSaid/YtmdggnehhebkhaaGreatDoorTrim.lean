/- strings.Trim at the figures, and face.summed. -/
import Derived.Test.YtmdggnehhebkhaaGreatDoorCnt
set_option linter.unusedVariables false
set_option linter.unusedSimpArgs false
set_option maxRecDepth 100000
namespace Go.Proofs.YtmdggnehhebkhaaGreatDoor
open Go Go.Am

theorem imp_of {C : Cfg} {f : FuncId} {args : List AV} {H H' : Hp} {v : AV} (hp : C.isPure f = false) (hs : C.sorc f = none) (hn : noLocs args = true) (hb : evBody C (top C) f args H = some (v, H')) : (top C).ca false f args H = some (v, H') := by
  refine top_ca ?_
  unfold evCa
  simp only [hp, hn, hs, Bool.false_eq_true, if_false, if_true, hb]

def isFig (b : UInt8) : Bool := figs.contains b
def figSet : List AV := (List.range 256).map fun i => .bool (isFig (UInt8.ofNat i))
theorem figSet_get (b : UInt8) : figSet[b.toNat]? = some (.bool (isFig b)) := by
  unfold figSet
  have hb : b.toNat < 256 := b.toNat_lt
  rw [List.getElem?_map, List.getElem?_range hb]
  simp
theorem figSet_len : figSet.length = 256 := by simp [figSet]

theorem mkSet_ca (q : Bool) (H : Hp) : (top cfg).ca q 40 [.str (B figs)] H = some (.tup [.agg figSet, .bool true], H) :=
  top_ca_of (n := 80) (by kernel_rfl)

@[simp] theorem und_set : Tryz.prog.underlying 75 = some (.array 256 4) := by kernel_rfl
@[simp] theorem sz_bool : szT Tryz.prog 4 = some 1 := by kernel_rfl
@[simp] theorem sz_set : szT Tryz.prog 75 = some 256 := by kernel_rfl
@[simp] theorem agg_bool : aggT Tryz.prog 4 = some false := by kernel_rfl

theorem contains_ca (H : Hp) (b : UInt8) (h0 : H.ob 0 = some ⟨figSet, 0, 0, some (75, true)⟩) : (top cfg).ca false 68 [.ptr 0 0 0, .int .u8 (b.toNat : Int)] H = some (.bool (isFig b), H) := by
  refine imp_of (by kernel_rfl) (by kernel_rfl) rfl ?_
  have hb : (b.toNat : Int) < 256 := by have := b.toNat_lt; omega
  have hia : ∀ lo, aindexAddr Tryz.prog lo H 75 (.ptr 0 0 0) (.int .u8 (b.toNat : Int)) = some (.ptr 0 0 b.toNat) := fun lo => by
    simp [aindexAddr, okA, h0, hb, addA]
  have hld : ∀ lo, aload Tryz.prog lo H 4 (.ptr 0 0 b.toNat) = some (.bool (isFig b)) := fun lo => ld_byte agg_bool h0 rfl (figSet_get b)
  have hok : ∀ lo, okA lo H (.ptr 0 0 0) = true := fun lo => by simp [okA, h0]
  refine body_of Tryz.func68 rfl ?_
  refine Wp.seq (Wp.region (by simp [Tryz.ntmps68]; rfl) ?_)
  refine Wp.seq (Wp.regionE ?_)
  repeat (refine OpsTo.step (by simp [Tryz.ntmps68, argE, hia, hld, hok]; rfl) ?_)
  refine OpsTo.nil ?_
  refine Wp.ret ⟨.inr rfl, rfl, [.bool (isFig b)], ?_, rfl⟩
  simp [resA, noLoc, AV.isLoc, Tryz.f68]

theorem trimR_ca (H : Hp) (l : List UInt8) (hl : l.length < 4611686018427387904) (h0 : H.ob 0 = some ⟨figSet, 0, 0, some (75, true)⟩) : (top cfg).ca false 42 [.str (B l), .ptr 0 0 0] H = some (.str (B ((l.reverse.dropWhile isFig).reverse)), H) := by
  refine imp_of (by kernel_rfl) (by kernel_rfl) rfl ?_
  refine body_of Tryz.func42 rfl ?_
  refine Wp.seq (Wp.region (by simp [Tryz.ntmps42]; rfl) ?_)
  refine Wp.seq (Wp.mono (Q := fun x s' => x = .normal ∧ s'.h = H ∧ s'.e 0 = .str (B ((l.reverse.dropWhile isFig).reverse))) (Wp.block (Wp.loopI (fun n s1 => ∃ m : List UInt8, m.length = n ∧ m.length ≤ l.length ∧ (m.reverse.dropWhile isFig).reverse = (l.reverse.dropWhile isFig).reverse ∧ s1.h = H ∧ s1.e 0 = .str (B m) ∧ s1.e 1 = .ptr 0 0 0) (fun n s1 hI => ?_) (n := l.length) ?_)) ?_)
  · obtain ⟨m, hm, hml, hmd, hh, h0e, h1e⟩ := hI
    obtain ⟨e, lo, h⟩ := s1
    simp only at hh h0e h1e
    subst hh
    refine Wp.seq (Wp.seq (Wp.region (by simp [Tryz.ntmps42, h0e, h1e]; rfl) ?_))
    rcases List.eq_nil_or_concat m with hmb | ⟨i, b, hmb⟩
    · subst hmb
      refine Wp.condF (by simp) (Wp.exit ?_)
      exact ⟨rfl, rfl, by rw [← hmd]; simp [h0e]⟩
    · have hpos : (0 : Int) < ((m.length : Nat) : Int) := by rw [hmb]; simp
      have hlen : m.length = i.length + 1 := by rw [hmb]; simp
      refine Wp.condT (by simp [hpos]; rw [hmb]; simp) (Wp.skip ?_)
      have hc := contains_ca h b h0
      have hw : IntKind.i64.wrap ((m.length : Int) - 1) = (i.length : Int) := by rw [wrap_i64 (by omega) (by omega)]; omega
      have hx : aindex Tryz.prog 9 (.str (B m)) (.int .i64 (i.length : Int)) = some (.int .u8 b.toNat) := aindex_str und_string (by rw [B_list, hmb]; simp)
      have hs : ∀ H, aslice Tryz.prog H 9 (.str (B m)) none (some (.int .i64 (i.length : Int))) none = some (.str (B i)) := fun H => by
        rw [aslice_str und_string (bnd_none _) (bnd_nat _ _ _) (by omega) (by omega)]; rw [hmb]; simp
      cases hf : isFig b with
      | false =>
        refine Wp.block (Wp.seq (Wp.seq (Wp.regionE ?_)))
        repeat (refine OpsTo.step (by simp [Tryz.ntmps42, h0e, h1e, hw, hx, hc, hf, aun]; rfl) ?_)
        refine OpsTo.nil ?_
        refine Wp.condT (by simp) (Wp.exit ?_)
        refine ⟨rfl, rfl, ?_⟩
        rw [← hmd, hmb, List.concat_eq_append, List.reverse_append, List.reverse_singleton, List.singleton_append, List.dropWhile_cons_of_neg (by simp [hf]), List.reverse_cons, List.reverse_reverse, ← List.concat_eq_append, ← hmb]
        simp [h0e]
      | true =>
        refine Wp.block (Wp.seq (Wp.seq (Wp.regionE ?_)))
        repeat (refine OpsTo.step (by simp [Tryz.ntmps42, h0e, h1e, hw, hx, hc, hf, aun]; rfl) ?_)
        refine OpsTo.nil ?_
        refine Wp.condF (by simp) (Wp.skip ?_)
        refine Wp.regionE ?_
        repeat (refine OpsTo.step (by simp [Tryz.ntmps42, h0e, h1e, hw, hs]; rfl) ?_)
        refine OpsTo.nil ?_
        refine ⟨i.length, by omega, i, rfl, by omega, ?_, rfl, by simp, by simp [h1e]⟩
        rw [← hmd, hmb, List.concat_eq_append, List.reverse_append, List.reverse_singleton, List.singleton_append, List.dropWhile_cons_of_pos hf]
  · exact ⟨l, rfl, Nat.le_refl _, rfl, rfl, by simp [argE], by simp [argE]⟩
  · rintro x s' ⟨rfl, hh, he⟩
    obtain ⟨e, lo, h⟩ := s'
    simp only at hh he
    subst hh
    show Wp _ _ _ _ _ _
    refine Wp.seq (Wp.region (by simp [Tryz.ntmps42, he]; rfl) ?_)
    refine Wp.ret ⟨.inr rfl, rfl, [.str (B ((l.reverse.dropWhile isFig).reverse))], ?_, rfl⟩
    simp [resA, noLoc, AV.isLoc, Tryz.f42]

theorem trimL_ca (H : Hp) (l : List UInt8) (hl : l.length < 4611686018427387904) (h0 : H.ob 0 = some ⟨figSet, 0, 0, some (75, true)⟩) : (top cfg).ca false 41 [.str (B l), .ptr 0 0 0] H = some (.str (B (l.dropWhile isFig)), H) := by
  refine imp_of (by kernel_rfl) (by kernel_rfl) rfl ?_
  refine body_of Tryz.func41 rfl ?_
  refine Wp.seq (Wp.region (by simp [Tryz.ntmps41]; rfl) ?_)
  refine Wp.seq (Wp.mono (Q := fun x s' => x = .normal ∧ s'.h = H ∧ s'.e 0 = .str (B (l.dropWhile isFig))) (Wp.block (Wp.loopI (fun n s1 => ∃ m : List UInt8, m.length = n ∧ m.length ≤ l.length ∧ m.dropWhile isFig = l.dropWhile isFig ∧ s1.h = H ∧ s1.e 0 = .str (B m) ∧ s1.e 1 = .ptr 0 0 0) (fun n s1 hI => ?_) (n := l.length) ?_)) ?_)
  · obtain ⟨m, hm, hml, hmd, hh, h0e, h1e⟩ := hI
    obtain ⟨e, lo, h⟩ := s1
    simp only at hh h0e h1e
    subst hh
    refine Wp.seq (Wp.seq (Wp.region (by simp [Tryz.ntmps41, h0e, h1e]; rfl) ?_))
    rcases (show m = [] ∨ ∃ b i, m = b :: i by cases m with | nil => exact .inl rfl | cons b i => exact .inr ⟨b, i, rfl⟩) with hmb | ⟨b, i, hmb⟩
    · subst hmb
      refine Wp.condF (by simp) (Wp.exit ?_)
      exact ⟨rfl, rfl, by rw [← hmd]; simp [h0e]⟩
    · have hpos : (0 : Int) < ((m.length : Nat) : Int) := by rw [hmb]; simp
      have hlen : m.length = i.length + 1 := by rw [hmb]; simp
      refine Wp.condT (by simp [hpos]; rw [hmb]; simp) (Wp.skip ?_)
      have hc := contains_ca h b h0
      have hw : True := trivial
      have hx : aindex Tryz.prog 9 (.str (B m)) (.int .i64 0) = some (.int .u8 b.toNat) := aindex_str (i := 0) und_string (by rw [B_list, hmb]; simp)
      have hs : ∀ H, aslice Tryz.prog H 9 (.str (B m)) (some (.int .i64 1)) none none = some (.str (B i)) := fun H => by
        have := aslice_str (P := Tryz.prog) (H := H) (lo := some (.int .i64 ((1 : Nat) : Int))) (hi := none) (l := m) und_string (bnd_nat _ 1 _) (bnd_none _) (by omega) (Nat.le_refl _)
        rw [hmb] at this ⊢; simpa using this
      cases hf : isFig b with
      | false =>
        refine Wp.block (Wp.seq (Wp.seq (Wp.regionE ?_)))
        repeat (refine OpsTo.step (by simp [Tryz.ntmps41, h0e, h1e, hw, hx, hc, hf, aun]; rfl) ?_)
        refine OpsTo.nil ?_
        refine Wp.condT (by simp) (Wp.exit ?_)
        refine ⟨rfl, rfl, ?_⟩
        rw [← hmd, hmb, List.dropWhile_cons_of_neg (by simp [hf]), ← hmb]
        simp [h0e]
      | true =>
        refine Wp.block (Wp.seq (Wp.seq (Wp.regionE ?_)))
        repeat (refine OpsTo.step (by simp [Tryz.ntmps41, h0e, h1e, hw, hx, hc, hf, aun]; rfl) ?_)
        refine OpsTo.nil ?_
        refine Wp.condF (by simp) (Wp.skip ?_)
        refine Wp.regionE ?_
        repeat (refine OpsTo.step (by simp [Tryz.ntmps41, h0e, h1e, hw, hs]; rfl) ?_)
        refine OpsTo.nil ?_
        refine ⟨i.length, by omega, i, rfl, by omega, ?_, rfl, by simp, by simp [h1e]⟩
        rw [← hmd, hmb, List.dropWhile_cons_of_pos hf]
  · exact ⟨l, rfl, Nat.le_refl _, rfl, rfl, by simp [argE], by simp [argE]⟩
  · rintro x s' ⟨rfl, hh, he⟩
    obtain ⟨e, lo, h⟩ := s'
    simp only at hh he
    subst hh
    show Wp _ _ _ _ _ _
    refine Wp.seq (Wp.region (by simp [Tryz.ntmps41, he]; rfl) ?_)
    refine Wp.ret ⟨.inr rfl, rfl, [.str (B (l.dropWhile isFig))], ?_, rfl⟩
    simp [resA, noLoc, AV.isLoc, Tryz.f41]


theorem acells_agg (cs : List AV) (h : cs = figSet) : acells (.agg cs) = some cs := by
  subst h
  rfl
@[simp] theorem next_empty : Hp.empty.next = 0 := rfl
theorem escTrim : cfg.esc 24 5 = true := by kernel_rfl

/-- strings.Trim at the figures. -/
theorem trim_ca (q : Bool) (H : Hp) (l : List UInt8) (hl : l.length < 4611686018427387904) (hne : l ≠ []) : (top cfg).ca q 24 [.str (B l), .str (B figs)] H = some (.str (B ((l.reverse.dropWhile isFig).reverse.dropWhile isFig)), H) := by
  have hz0 : (zeroT Tryz.prog 75).map List.length = some 256 := by kernel_rfl
  obtain ⟨z, hz, hzl⟩ := Option.map_eq_some_iff.1 hz0
  have hsp : splice z 0 figSet = figSet := by
    unfold splice
    rw [List.take_zero, List.nil_append, List.drop_eq_nil_of_le (by rw [hzl, figSet_len]; omega), List.append_nil]
  have hst : ∀ lo, astore Tryz.prog lo (Hp.empty.new (some (75, true)) z) 75 (.ptr 0 0 0) (.agg figSet) = some (lo, (Hp.empty.new (some (75, true)) z).upd 0 ⟨figSet, 0, 0, some (75, true)⟩) := fun lo => by
    have hob : (Hp.empty.new (some (75, true)) z).ob 0 = some ⟨z, 0, 0, some (75, true)⟩ := rfl
    simp only [astore, acells_agg _ rfl, sz_set, figSet_len, if_true, wrA, hob, hzl, hsp]
    simp
  generalize hH : (Hp.empty.new (some (75, true)) z).upd 0 ⟨figSet, 0, 0, some (75, true)⟩ = HT at hst
  have hT0 : HT.ob 0 = some ⟨figSet, 0, 0, some (75, true)⟩ := by subst hH; rfl
  have hmk := fun H => mkSet_ca false H
  have hR := trimR_ca HT l hl hT0
  have hlen : (l.reverse.dropWhile isFig).reverse.length ≤ l.length := by
    rw [List.length_reverse]
    exact Nat.le_trans (List.dropWhile_sublist _).length_le (by simp)
  have hL := trimL_ca HT (l.reverse.dropWhile isFig).reverse (by omega) hT0
  have hesc := escTrim
  refine pure_of (Hc := HT) (H2 := HT) (v := .str (B ((l.reverse.dropWhile isFig).reverse.dropWhile isFig))) (by kernel_rfl) (by kernel_rfl) rfl ?_ rfl
  refine body_of Tryz.func24 rfl ?_
  have e0 : (⟨#[]⟩ : ByteArray) = B [] := rfl
  have hl0 : (l == []) = false := by rw [beq_dec]; simp [hne]
  have hf0 : (figs == []) = false := rfl
  have hf1 : figs.length = 16 := rfl
  refine Wp.seq (Wp.region (by simp [Tryz.ntmps24]; rfl) ?_)
  refine Wp.seq (Wp.seq (Wp.regionE ?_))
  repeat (refine OpsTo.step (by simp [Tryz.ntmps24, argE, e0, hl0, hf0]; rfl) ?_)
  refine OpsTo.nil ?_
  refine Wp.condF (by simp) (Wp.skip ?_)
  refine Wp.seq (Wp.seq (Wp.regionE ?_))
  repeat (refine OpsTo.step (by simp [Tryz.ntmps24, argE, hf1]; rfl) ?_)
  refine OpsTo.nil ?_
  refine Wp.condF (by simp) (Wp.skip ?_)
  refine Wp.seq (Wp.seq (Wp.regionE ?_))
  iterate 5 (refine OpsTo.step (by simp [Tryz.ntmps24, argE, hmk]; rfl) ?_)
  refine OpsTo.step (s1 := ⟨_, _, Hp.empty.new (some (75, true)) z⟩) (by simp [Tryz.ntmps24, hz, newVarA, hesc]; exact ⟨rfl, rfl⟩) ?_
  repeat (refine OpsTo.step (by simp [Tryz.ntmps24, hst]; rfl) ?_)
  refine OpsTo.nil ?_
  refine Wp.seq (Wp.regionE ?_)
  repeat (refine OpsTo.step (by simp [Tryz.ntmps24]; rfl) ?_)
  refine OpsTo.nil ?_
  refine Wp.condT (by simp) ?_
  refine Wp.seq (Wp.regionE ?_)
  repeat (refine OpsTo.step (by simp [Tryz.ntmps24, argE, hR, hL]; rfl) ?_)
  refine OpsTo.nil ?_
  refine Wp.ret ⟨.inr rfl, rfl, [.str (B ((l.reverse.dropWhile isFig).reverse.dropWhile isFig))], ?_, rfl⟩
  simp [resA, noLoc, AV.isLoc, Tryz.f24]

def sumOk (l : List UInt8) : Bool := decide (l.length = 8) && l.all isFig
theorem dropW_nil {p : UInt8 → Bool} : ∀ (l : List UInt8), l.dropWhile p = [] ↔ l.all p = true := by
  intro l
  induction l with
  | nil => simp
  | cons b l ih =>
    cases hb : p b with
    | false => simp [List.dropWhile_cons_of_neg, hb]
    | true => simp [List.dropWhile_cons_of_pos, hb, ih]
theorem trim_nil (l : List UInt8) : ((l.reverse.dropWhile isFig).reverse.dropWhile isFig == []) = l.all isFig := by
  rw [beq_dec, Bool.eq_iff_iff, decide_eq_true_iff, dropW_nil]
  constructor
  · intro h
    have h2 : (l.reverse.dropWhile isFig).all isFig = true := by simpa using h
    have h3 := List.takeWhile_append_dropWhile (p := isFig) (l := l.reverse)
    have h4 : (l.reverse.takeWhile isFig).all isFig = true := List.all_takeWhile
    have h5 : l.reverse.all isFig = true := by rw [← h3, List.all_append, h2, h4]; rfl
    simpa using h5
  · intro h
    have : l.reverse.dropWhile isFig = [] := by rw [dropW_nil]; simpa using h
    rw [this]; rfl

theorem trim_nil2 (l : List UInt8) : ((l.reverse.dropWhile isFig).reverse.dropWhile isFig).isEmpty = l.all isFig := by
  rw [← trim_nil]
  cases (l.reverse.dropWhile isFig).reverse.dropWhile isFig <;> rfl
/-- face.summed. -/
theorem summed_ca (q : Bool) (H : Hp) (l : List UInt8) (hl : l.length < 4611686018427387904) : (top cfg).ca q 14 [.str (B l)] H = some (.bool (sumOk l), H) := by
  refine pure_of (Hc := Hp.empty) (H2 := Hp.empty) (v := .bool (sumOk l)) (by kernel_rfl) (by kernel_rfl) rfl ?_ rfl
  refine body_of Tryz.func14 rfl ?_
  have e0 : (⟨#[]⟩ : ByteArray) = B [] := rfl
  refine Wp.seq (Wp.region (by simp [Tryz.ntmps14]; rfl) ?_)
  by_cases h8 : l.length = 8
  · have hne : l ≠ [] := by intro h; rw [h] at h8; cases h8
    have ht := fun H => trim_ca false H l hl hne
    have h8' : ((l.length : Int) == 8) = true := by rw [h8]; rfl
    refine Wp.seq (Wp.regionE ?_)
    repeat (refine OpsTo.step (by simp [Tryz.ntmps14, argE, h8', figs_B, ht, e0, trim_nil2]; rfl) ?_)
    refine OpsTo.nil ?_
    refine Wp.ret ⟨.inr rfl, rfl, [.bool (l.all isFig)], ?_, by simp [sumOk, h8, oneOf]⟩
    simp [resA, noLoc, AV.isLoc, Tryz.f14, trim_nil2]
  · have h8' : ((l.length : Int) == 8) = false := by rw [beq_eq_false_iff_ne]; omega
    refine Wp.seq (Wp.regionE ?_)
    repeat (refine OpsTo.step (by simp [Tryz.ntmps14, argE, h8']; rfl) ?_)
    refine OpsTo.nil ?_
    refine Wp.ret ⟨.inr rfl, rfl, [.bool false], ?_, by simp [sumOk, h8, oneOf]⟩
    simp [resA, noLoc, AV.isLoc, Tryz.f14]
end Go.Proofs.YtmdggnehhebkhaaGreatDoor
