/- face.count. -/
import Derived.Test.YtmdggnehhebkhaaGreatDoorStr
set_option linter.unusedVariables false
set_option linter.unusedSimpArgs false
set_option maxRecDepth 100000
namespace Go.Proofs.YtmdggnehhebkhaaGreatDoor
open Go Go.Am

def decV (l : List UInt8) : Nat := l.foldl (fun n b => n * 10 + (b.toNat - 48)) 0
def cntOk (d : List UInt8) : Bool := !d.isEmpty && decide (d.length ≤ 6) && (decide (d.head? ≠ some 48) || decide (d = [48])) && d.all isDig

theorem cutLeft_ca (q : Bool) (H : Hp) (l : List UInt8) : (top cfg).ca q 22 [.str (B l), .str (B (figs.take 10))] H = some (.str (B (l.dropWhile isDig)), H) := by
  refine orc_of (g := oCutL) (by kernel_rfl) rfl rfl ?_
  have h : sameB (B (figs.take 10)) digs = true := by rfl
  simp only [oCutL, h, if_true, cutL, B_list]; rfl
theorem cutRight_ca (q : Bool) (H : Hp) (l : List UInt8) (hl : l.length ≤ 9223372036854775807) : (top cfg).ca q 21 [.str (B l), .str (B (figs.take 10))] H = some (.str (B (l.reverse.dropWhile isDig).reverse), H) := by
  refine orc_of (g := oCutR) (by kernel_rfl) rfl rfl ?_
  have h : sameB (B (figs.take 10)) digs = true := by rfl
  have hz : (B l).size ≤ 9223372036854775807 := by show l.toArray.size ≤ _; rw [List.size_toArray]; exact hl
  simp only [oCutR, h, hz, if_true, cutR, B_list]; rfl
theorem digVal {b : UInt8} (h : isDig b = true) : Lib.digitVal b = some (b.toNat - 48) := by
  unfold isDig at h
  unfold Lib.digitVal
  simp at h
  rw [if_pos h]
theorem decFrom_all : ∀ (l : List UInt8) (acc : Nat), l.all isDig = true → Lib.decFrom acc l = some (l.foldl (fun n b => n * 10 + (b.toNat - 48)) acc) := by
  intro l
  induction l with
  | nil => intro acc _; rfl
  | cons b l ih =>
    intro acc h
    simp only [List.all_cons, Bool.and_eq_true] at h
    simp only [Lib.decFrom, digVal h.1, List.foldl_cons]
    exact ih _ h.2
theorem atoi_all {l : List UInt8} (h0 : l ≠ []) (h : l.all isDig = true) : Lib.atoi l = some (decV l : Int) := by
  cases l with
  | nil => exact absurd rfl h0
  | cons b l =>
    have hb : isDig b = true := by simp only [List.all_cons, Bool.and_eq_true] at h; exact h.1
    have h1 : (b == 45) = false := by cases hx : b == 45 with
      | false => rfl
      | true => rw [beq_iff_eq] at hx; subst hx; simp [isDig] at hb
    have h2 : (b == 43) = false := by cases hx : b == 43 with
      | false => rfl
      | true => rw [beq_iff_eq] at hx; subst hx; simp [isDig] at hb
    simp only [Lib.atoi, h1, h2, Bool.false_eq_true, if_false, Lib.decNat, List.isEmpty_cons, decFrom_all _ _ h, Option.map_some]
    rfl
theorem atoi_ca (q : Bool) (H : Hp) {l : List UInt8} (h0 : l ≠ []) (h : l.all isDig = true) (hl : l.length ≤ 18) : (top cfg).ca q 23 [.str (B l)] H = some (.tup [.int .i64 (decV l), .niliface], H) := by
  refine orc_of (g := oAtoi) (by kernel_rfl) rfl rfl ?_
  simp [oAtoi, hl, atoi_all h0 h]

theorem dropWhile_all {l : List UInt8} (h : l.all isDig = true) : l.dropWhile isDig = [] := by
  induction l with
  | nil => rfl
  | cons b l ih => simp only [List.all_cons, Bool.and_eq_true] at h; rw [List.dropWhile_cons_of_pos h.1, ih h.2]
theorem dropWhile_head {l : List UInt8} (h : l.all isDig = false) : ∃ b r, l.dropWhile isDig = b :: r ∧ isDig b = false := by
  induction l with
  | nil => simp at h
  | cons b l ih =>
    cases hb : isDig b with
    | false => exact ⟨b, l, List.dropWhile_cons_of_neg (by simp [hb]), hb⟩
    | true =>
      rw [List.dropWhile_cons_of_pos hb]
      exact ih (by simpa [hb] using h)
theorem cutR_ne {b : UInt8} {r : List UInt8} (h : isDig b = false) : ((b :: r).reverse.dropWhile isDig).reverse ≠ [] := by
  intro e
  have e2 : (b :: r).reverse.dropWhile isDig = [] := by simpa using e
  have : ∀ (m : List UInt8), m.dropWhile isDig = [] → ∀ x, x ∈ m → isDig x = true := by
    intro m
    induction m with
    | nil => intro _ x hx; simp at hx
    | cons a m ih =>
      intro hm x hx
      cases ha : isDig a with
      | false => rw [List.dropWhile_cons_of_neg (by simp [ha])] at hm; cases hm
      | true =>
        rw [List.dropWhile_cons_of_pos ha] at hm
        rcases List.mem_cons.1 hx with rfl | hx
        · exact ha
        · exact ih hm x hx
  rw [this _ e2 b (by simp)] at h
  cases h

/-- face.count. -/
theorem count_ca (q : Bool) (H : Hp) (d : List UInt8) (hl : d.length < 4611686018427387904) : (top cfg).ca q 13 [.str (B d)] H = some (.tup [.int .i64 (if cntOk d then (decV d : Int) else 0), .bool (cntOk d)], H) := by
  refine pure_of (Hc := Hp.empty) (H2 := Hp.empty) (v := .tup [.int .i64 (if cntOk d then (decV d : Int) else 0), .bool (cntOk d)]) (by kernel_rfl) (by kernel_rfl) rfl ?_ rfl
  refine body_of Tryz.func13 rfl ?_
  refine Wp.seq (Wp.region (by simp [Tryz.ntmps13]; rfl) ?_)
  have es : ∀ H, aslice Tryz.prog H 9 (.str (B figs)) none (some (.int .i64 10)) none = some (.str (B (figs.take 10))) := fun H => by
    exact aslice_str (hi := some (.int .i64 ((10 : Nat) : Int))) und_string (bnd_none _) (bnd_nat _ 10 _) (by omega) (by decide)
  have bad : cntOk d = false → ∀ e : En, e 2 = .int .i64 0 → e 3 = .bool false → ∀ lo, (Ex.ret = .normal ∨ Ex.ret = .ret) ∧ (⟨e, lo, Hp.empty⟩ : St).h = Hp.empty ∧ ∃ vs, resA cfg.P ⟨e, lo, Hp.empty⟩ Tryz.f13.results.toList = some vs ∧ oneOf vs = .tup [.int .i64 (if cntOk d then (decV d : Int) else 0), .bool (cntOk d)] := by
    intro hb e h2 h3 lo
    refine ⟨.inr rfl, rfl, [.int .i64 0, .bool false], ?_, by simp [hb, oneOf]⟩
    simp [resA, noLoc, AV.isLoc, Tryz.f13, h2, h3]
  have e0 : (⟨#[]⟩ : ByteArray) = B [] := rfl
  have e1 : (⟨#[48]⟩ : ByteArray) = B [48] := rfl
  by_cases h0 : d = []
  · refine Wp.seq (Wp.seq (Wp.drawE (by kernel_rfl) (by kernel_rfl) (by kernel_rfl) ?_))
    repeat (refine PreTo.step rfl (by simp [Tryz.ntmps13, argE, h0, e0]; rfl) ?_)
    refine PreTo.nil ?_
    refine Wp.condT (by simp) ?_
    refine Wp.seq (Wp.region (by simp [Tryz.ntmps13]; rfl) ?_)
    refine Wp.ret (bad (by simp [cntOk, h0]) _ ?_ ?_ _) <;> simp
  obtain ⟨b, r, hd⟩ : ∃ b r, d = b :: r := by cases d with
    | nil => exact absurd rfl h0
    | cons b r => exact ⟨b, r, rfl⟩
  have hne : (d == []) = false := by rw [hd]; rfl
  by_cases h6 : d.length ≤ 6
  rotate_left
  · have h6' : (6 : Int) < (d.length : Int) := by omega
    refine Wp.seq (Wp.seq (Wp.drawE (by kernel_rfl) (by kernel_rfl) (by kernel_rfl) ?_))
    repeat (refine PreTo.step rfl (by simp [Tryz.ntmps13, argE, hne, e0, h6']; rfl) ?_)
    refine PreTo.nil ?_
    refine Wp.condT (by simp) ?_
    refine Wp.seq (Wp.region (by simp [Tryz.ntmps13]; rfl) ?_)
    refine Wp.ret (bad (by simp [cntOk, h6]) _ ?_ ?_ _) <;> simp
  have h6' : ¬ (6 : Int) < (d.length : Int) := by omega
  have hx : aindex Tryz.prog 9 (.str (B d)) (.int .i64 0) = some (.int .u8 b.toNat) := aindex_str (i := 0) und_string (by simp [hd])
  by_cases hz : b = 48 ∧ d ≠ [48]
  · obtain ⟨hb, h48⟩ := hz
    have hb' : ((b.toNat : Int) == 48) = true := by subst hb; rfl
    have h48' : (d == [48]) = false := by rw [beq_dec]; simp [h48]
    refine Wp.seq (Wp.seq (Wp.drawE (by kernel_rfl) (by kernel_rfl) (by kernel_rfl) ?_))
    repeat (refine PreTo.step rfl (by simp [Tryz.ntmps13, argE, hne, e0, e1, h6', hx, hb', h48']; rfl) ?_)
    refine PreTo.nil ?_
    refine Wp.condT (by simp) ?_
    refine Wp.seq (Wp.region (by simp [Tryz.ntmps13]; rfl) ?_)
    refine Wp.ret (bad (by simp [cntOk, hd, hb]; intro _ h; simp [hd, hb, h] at h48) _ ?_ ?_ _) <;> simp
  have hcl := cutLeft_ca true Hp.empty d
  have hcr := cutRight_ca true Hp.empty (d.dropWhile isDig) (by have := (List.dropWhile_sublist isDig (l := d)).length_le; omega)
  have hzz : ((b.toNat : Int) == 48) = false ∨ (((b.toNat : Int) == 48) = true ∧ (d == [48]) = true) := by
    by_cases hb : b = 48
    · refine .inr ⟨by subst hb; rfl, ?_⟩
      rw [beq_dec, decide_eq_true_iff]
      apply Classical.byContradiction
      exact fun h => hz ⟨hb, h⟩
    · refine .inl ?_
      rw [beq_eq_false_iff_ne]
      intro h
      apply hb
      apply UInt8.toNat_inj.1
      show b.toNat = 48
      omega
  have hok : cntOk d = d.all isDig := by
    unfold cntOk
    have h1 : (decide (d.head? ≠ some 48) || decide (d = [48])) = true := by
      rw [Bool.or_eq_true, decide_eq_true_iff, decide_eq_true_iff]
      by_cases hb : b = 48
      · right
        apply Classical.byContradiction
        exact fun h => hz ⟨hb, h⟩
      · left; rw [hd]; simp [hb]
    rw [h1]
    simp [hd]
    intro _ _
    rw [hd] at h6
    simpa using h6
  cases ha : d.all isDig with
  | false =>
    obtain ⟨c, m, hm, hc⟩ := dropWhile_head ha
    have hne2 : (((d.dropWhile isDig).reverse.dropWhile isDig).reverse == []) = false := by
      rw [beq_dec, decide_eq_false_iff_not, hm]; exact cutR_ne hc
    rcases hzz with h48 | ⟨h48, h48'⟩
    · refine Wp.seq (Wp.seq (Wp.drawE (by kernel_rfl) (by kernel_rfl) (by kernel_rfl) ?_))
      repeat (refine PreTo.step rfl (by simp [Tryz.ntmps13, argE, hne, e0, e1, h6', hx, h48, figs_B, es, hcl, hcr, hne2]; rfl) ?_)
      refine PreTo.nil ?_
      refine Wp.condT (by simp) ?_
      refine Wp.seq (Wp.region (by simp [Tryz.ntmps13]; rfl) ?_)
      refine Wp.ret (bad (by rw [hok, ha]) _ ?_ ?_ _) <;> simp
    · refine Wp.seq (Wp.seq (Wp.drawE (by kernel_rfl) (by kernel_rfl) (by kernel_rfl) ?_))
      repeat (refine PreTo.step rfl (by simp [Tryz.ntmps13, argE, hne, e0, e1, h6', hx, h48, h48', figs_B, es, hcl, hcr, hne2]; rfl) ?_)
      refine PreTo.nil ?_
      refine Wp.condT (by simp) ?_
      refine Wp.seq (Wp.region (by simp [Tryz.ntmps13]; rfl) ?_)
      refine Wp.ret (bad (by rw [hok, ha]) _ ?_ ?_ _) <;> simp
  | true =>
    have hdw := dropWhile_all ha
    rw [hdw] at hcl hcr
    have hat := atoi_ca false Hp.empty h0 ha (by omega)
    rcases hzz with h48 | ⟨h48, h48'⟩
    · refine Wp.seq (Wp.seq (Wp.drawE (by kernel_rfl) (by kernel_rfl) (by kernel_rfl) ?_))
      repeat (refine PreTo.step rfl (by simp [Tryz.ntmps13, argE, hne, e0, e1, h6', hx, h48, figs_B, es, hcl, hcr]; rfl) ?_)
      refine PreTo.nil ?_
      refine Wp.condF (by simp) (Wp.skip ?_)
      refine Wp.seq (Wp.region (by simp [Tryz.ntmps13, argE, hat]; rfl) ?_)
      refine Wp.seq (Wp.region (by simp [Tryz.ntmps13]; rfl) ?_)
      refine Wp.ret ⟨.inr rfl, rfl, [.int .i64 (decV d), .bool true], ?_, by simp [hok, ha, oneOf]⟩
      simp [resA, noLoc, AV.isLoc, Tryz.f13]
    · refine Wp.seq (Wp.seq (Wp.drawE (by kernel_rfl) (by kernel_rfl) (by kernel_rfl) ?_))
      repeat (refine PreTo.step rfl (by simp [Tryz.ntmps13, argE, hne, e0, e1, h6', hx, h48, h48', figs_B, es, hcl, hcr]; rfl) ?_)
      refine PreTo.nil ?_
      refine Wp.condF (by simp) (Wp.skip ?_)
      refine Wp.seq (Wp.region (by simp [Tryz.ntmps13, argE, hat]; rfl) ?_)
      refine Wp.seq (Wp.region (by simp [Tryz.ntmps13]; rfl) ?_)
      refine Wp.ret ⟨.inr rfl, rfl, [.int .i64 (decV d), .bool true], ?_, by simp [hok, ha, oneOf]⟩
      simp [resA, noLoc, AV.isLoc, Tryz.f13]
end Go.Proofs.YtmdggnehhebkhaaGreatDoor
