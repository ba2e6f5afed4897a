/- face.Split, gone through. -/
import Derived.Test.YtmdggnehhebkhaaGreatDoorTrim
set_option linter.unusedVariables false
set_option linter.unusedSimpArgs false
set_option maxRecDepth 100000
namespace Go.Proofs.YtmdggnehhebkhaaGreatDoor
open Go Go.Am

def cA (c : UInt8) (l : List UInt8) : List UInt8 := if c ∈ l then bef c l else l
def cB (c : UInt8) (l : List UInt8) : List UInt8 := if c ∈ l then aft c l else []
theorem cutRes_eq (c : UInt8) (l : List UInt8) : cutRes c l = [.str (B (cA c l)), .str (B (cB c l)), .bool (decide (c ∈ l))] := by
  unfold cutRes cA cB
  by_cases h : c ∈ l <;> simp [h]
theorem cA_len (c : UInt8) (l : List UInt8) : (cA c l).length ≤ l.length := by
  unfold cA
  split
  · rename_i h; exact Nat.le_of_lt (bef_lt h)
  · exact Nat.le_refl _
theorem cB_len (c : UInt8) (l : List UInt8) : (cB c l).length ≤ l.length := by
  unfold cB
  split
  · rw [← aft_drop]; simp
  · simp

def verB : List UInt8 := [116, 111, 117, 99, 104, 115, 116, 111, 110, 101, 32, 49, 32]
def formBad (r : List UInt8) : Bool := !decide (10 ∈ r) || (!decide (32 ∈ cA 10 r) || (!cntOk (cA 32 (cA 10 r)) || !sumOk (cB 32 (cA 10 r))))
/-- A file, parted. -/
def splitF (l : List UInt8) : List UInt8 × List UInt8 × Nat :=
  if verB.isPrefixOf l then
    let r := l.drop 13
    let n := decV (cA 32 (cA 10 r))
    let s := cB 10 r
    if formBad r then ([], [], 10)
    else if s.length < n then ([], [], 11)
    else if sumS (s.take n) ≠ cB 32 (cA 10 r) then ([], [], 51)
    else (s.take n, s.drop n, 0)
  else ([], [], 50)
def resOf (p : List UInt8 × List UInt8 × Nat) : List AV := [.str (B p.1), .str (B p.2.1), .int .i64 (p.2.2 : Int)]

theorem faceSum_ca (q : Bool) (H : Hp) (l : List UInt8) (hl : l.length < 4611686018427387904) : (top cfg).ca q 7 [.str (B l)] H = some (.str (B (sumS l)), H) := by
  obtain ⟨Hc, h⟩ := faceSum_body l hl
  exact pure_of (Hc := Hc) (H2 := Hc) (v := .str (B (sumS l))) (by kernel_rfl) (by kernel_rfl) rfl h rfl
theorem refSum_ca (q : Bool) (H : Hp) (l : List UInt8) (hl : l.length < 4611686018427387904) : (top cfg).ca q 8 [.str (B l)] H = some (.str (B (sumS l)), H) :=
  pure_of (Hc := Hp.empty) (H2 := Hp.empty) (v := .str (B (sumS l))) (by kernel_rfl) (by kernel_rfl) rfl (refSum_body l hl) rfl

theorem split_ca (q : Bool) (H : Hp) (l : List UInt8) (hl : l.length < 4611686018427387904) : (top cfg).ca q 5 [.str (B l)] H = some (.tup (resOf (splitF l)), H) := by
  refine pure_of (Hc := Hp.empty) (H2 := Hp.empty) (v := .tup (resOf (splitF l))) (by kernel_rfl) (by kernel_rfl) rfl ?_ rfl
  refine body_of Tryz.func5 rfl ?_
  have e0 : (⟨#[]⟩ : ByteArray) = B [] := rfl
  have ev : (⟨#[116, 111, 117, 99, 104, 115, 116, 111, 110, 101, 32, 49, 32]⟩ : ByteArray) = B verB := rfl
  have enl : (⟨#[10]⟩ : ByteArray) = B [10] := rfl
  have esp : (⟨#[32]⟩ : ByteArray) = B [32] := rfl
  have bad : ∀ (k : Nat), splitF l = ([], [], k) → ∀ e : En, e 2 = .str (B []) → e 3 = .str (B []) → e 4 = .int .i64 (k : Int) → ∀ lo, (Ex.ret = .normal ∨ Ex.ret = .ret) ∧ (⟨e, lo, Hp.empty⟩ : St).h = Hp.empty ∧ ∃ vs, resA cfg.P ⟨e, lo, Hp.empty⟩ Tryz.f5.results.toList = some vs ∧ oneOf vs = .tup (resOf (splitF l)) := by
    intro k hk e h2 h3 h4 lo
    refine ⟨.inr rfl, rfl, resOf (splitF l), ?_, rfl⟩
    rw [hk]
    simp [resA, noLoc, AV.isLoc, Tryz.f5, h2, h3, h4, resOf]
  have hcp := fun H => cutPrefix_ca false H l verB hl (by decide)
  refine Wp.seq (Wp.region (by simp [Tryz.ntmps5, e0]; rfl) ?_)
  refine Wp.seq (Wp.regionE ?_)
  repeat (refine OpsTo.step (by simp [Tryz.ntmps5, argE, ev, hcp]; rfl) ?_)
  refine OpsTo.nil ?_
  cases hv : verB.isPrefixOf l with
  | false =>
    refine Wp.seq (Wp.seq (Wp.region (by simp [Tryz.ntmps5, aun]; rfl) ?_))
    refine Wp.condT (by simp) ?_
    refine Wp.seq (Wp.region (by simp [Tryz.ntmps5, e0]; rfl) ?_)
    refine Wp.ret (bad 50 (by simp [splitF, hv]) _ ?_ ?_ ?_ _) <;> simp
  | true =>
  refine Wp.seq (Wp.seq (Wp.region (by simp [Tryz.ntmps5, aun]; rfl) ?_))
  refine Wp.condF (by simp) (Wp.skip ?_)
  have hr : cutPre verB l = l.drop 13 := by unfold cutPre; rw [if_pos hv]; rfl
  rw [hr]
  have hrl : (l.drop 13).length ≤ l.length := by simp
  have hsp : splitF l = (if formBad (l.drop 13) then ([], [], 10) else if (cB 10 (l.drop 13)).length < decV (cA 32 (cA 10 (l.drop 13))) then ([], [], 11) else if sumS ((cB 10 (l.drop 13)).take (decV (cA 32 (cA 10 (l.drop 13))))) ≠ cB 32 (cA 10 (l.drop 13)) then ([], [], 51) else ((cB 10 (l.drop 13)).take (decV (cA 32 (cA 10 (l.drop 13)))), (cB 10 (l.drop 13)).drop (decV (cA 32 (cA 10 (l.drop 13)))), 0)) := by
    unfold splitF; rw [if_pos hv]
  generalize l.drop 13 = r at hrl hsp
  have hc1 := fun H => cut_ca false H r 10 (by omega)
  have hA1 := cA_len 10 r
  have hB1 := cB_len 10 r
  have hc2 := fun H => cut_ca false H (cA 10 r) 32 (by omega)
  rw [cutRes_eq] at hc1 hc2
  have hA2 := cA_len 32 (cA 10 r)
  have hB2 := cB_len 32 (cA 10 r)
  have hcn := fun H => count_ca false H (cA 32 (cA 10 r)) (by omega)
  have hsm := fun H => summed_ca false H (cB 32 (cA 10 r)) (by omega)
  unfold formBad at hsp
  generalize cA 10 r = hd at *
  generalize cB 10 r = s at *
  generalize cA 32 hd = d at *
  generalize cB 32 hd = sm at *
  generalize decide (10 ∈ r) = ok at *
  generalize decide (32 ∈ hd) = two at *
  refine Wp.seq (Wp.regionE ?_)
  repeat (refine OpsTo.step (by simp [Tryz.ntmps5, enl, hc1]; rfl) ?_)
  refine OpsTo.nil (Wp.seq (Wp.regionE ?_))
  repeat (refine OpsTo.step (by simp [Tryz.ntmps5, esp, hc2]; rfl) ?_)
  refine OpsTo.nil (Wp.seq (Wp.regionE ?_))
  repeat (refine OpsTo.step (by simp [Tryz.ntmps5, hcn]; rfl) ?_)
  refine OpsTo.nil ?_
  cases ok with
  | false =>
    refine Wp.seq (Wp.block (Wp.seq (Wp.regionE ?_)))
    repeat (refine OpsTo.step (by simp [Tryz.ntmps5, aun]; rfl) ?_)
    refine OpsTo.nil (Wp.condT (by simp) ?_)
    refine Wp.seq (Wp.region (by simp [Tryz.ntmps5, e0]; rfl) ?_)
    refine Wp.ret (bad 10 (by simp [hsp]) _ ?_ ?_ ?_ _) <;> simp
  | true =>
  cases two with
  | false =>
    refine Wp.seq (Wp.block (Wp.seq (Wp.regionE ?_)))
    repeat (refine OpsTo.step (by simp [Tryz.ntmps5, aun]; rfl) ?_)
    refine OpsTo.nil (Wp.condT (by simp) ?_)
    refine Wp.seq (Wp.region (by simp [Tryz.ntmps5, e0]; rfl) ?_)
    refine Wp.ret (bad 10 (by simp [hsp]) _ ?_ ?_ ?_ _) <;> simp
  | true =>
  cases hco : cntOk d with
  | false =>
    refine Wp.seq (Wp.block (Wp.seq (Wp.regionE ?_)))
    repeat (refine OpsTo.step (by simp [Tryz.ntmps5, aun, hco]; rfl) ?_)
    refine OpsTo.nil (Wp.condT (by simp) ?_)
    refine Wp.seq (Wp.region (by simp [Tryz.ntmps5, e0]; rfl) ?_)
    refine Wp.ret (bad 10 (by simp [hsp, hco]) _ ?_ ?_ ?_ _) <;> simp
  | true =>
  cases hso : sumOk sm with
  | false =>
    refine Wp.seq (Wp.block (Wp.seq (Wp.regionE ?_)))
    repeat (refine OpsTo.step (by simp [Tryz.ntmps5, aun, hco, hsm, hso]; rfl) ?_)
    refine OpsTo.nil (Wp.condT (by simp) ?_)
    refine Wp.seq (Wp.region (by simp [Tryz.ntmps5, e0]; rfl) ?_)
    refine Wp.ret (bad 10 (by simp [hsp, hco, hso]) _ ?_ ?_ ?_ _) <;> simp
  | true =>
  simp only [hco, hso, Bool.not_true, Bool.or_self, Bool.false_eq_true, if_false] at hsp
  generalize decV d = n at *
  refine Wp.seq (Wp.block (Wp.seq (Wp.regionE ?_)))
  repeat (refine OpsTo.step (by simp [Tryz.ntmps5, aun, hco, hsm, hso]; rfl) ?_)
  refine OpsTo.nil (Wp.condF (by simp) (Wp.seq (Wp.regionE ?_)))
  by_cases hn : s.length < n
  · rw [if_pos hn] at hsp
    repeat (refine OpsTo.step (by simp [Tryz.ntmps5, hn]; rfl) ?_)
    refine OpsTo.nil (Wp.condT (by simp) ?_)
    refine Wp.seq (Wp.region (by simp [Tryz.ntmps5, e0]; rfl) ?_)
    refine Wp.ret (bad 11 hsp _ ?_ ?_ ?_ _) <;> simp
  rw [if_neg hn] at hsp
  repeat (refine OpsTo.step (by simp [Tryz.ntmps5, hn]; rfl) ?_)
  have hsl1 : ∀ H, aslice Tryz.prog H 9 (.str (B s)) none (some (.int .i64 (n : Int))) none = some (.str (B (s.take n))) := fun H => by
    rw [aslice_str und_string (bnd_none _) (bnd_nat _ _ _) (by omega) (by omega)]; simp
  have hsl2 : ∀ H, aslice Tryz.prog H 9 (.str (B s)) (some (.int .i64 (n : Int))) none none = some (.str (B (s.drop n))) := fun H => by
    rw [aslice_str und_string (bnd_nat _ _ _) (bnd_none _) (by omega) (by omega)]
    congr 3
    rw [List.take_of_length_le]; simp
  have hsum := fun H => faceSum_ca false H (s.take n) (by simp; omega)
  refine OpsTo.nil (Wp.condF (by simp) (Wp.seq (Wp.regionE ?_)))
  by_cases hq : sumS (s.take n) = sm
  · rw [if_neg (by simp [hq])] at hsp
    repeat (refine OpsTo.step (by simp [Tryz.ntmps5, hco, hsl1, hsum, hq]; rfl) ?_)
    refine OpsTo.nil (Wp.condF (by simp) (Wp.skip ?_))
    refine Wp.seq (Wp.drawE (by kernel_rfl) (by kernel_rfl) (by kernel_rfl) ?_)
    repeat (refine PreTo.step rfl (by simp [Tryz.ntmps5, hco, hsl1, hsl2]; rfl) ?_)
    refine PreTo.nil ?_
    refine Wp.ret ⟨.inr rfl, rfl, resOf (splitF l), ?_, rfl⟩
    rw [hsp]
    simp [resA, noLoc, AV.isLoc, Tryz.f5, resOf]
  · rw [if_pos hq] at hsp
    have hq' : (sumS (s.take n) == sm) = false := by rw [beq_dec]; simp [hq]
    repeat (refine OpsTo.step (by simp [Tryz.ntmps5, hco, hsl1, hsum, hq, hq']; rfl) ?_)
    refine OpsTo.nil (Wp.condT (by simp) ?_)
    refine Wp.seq (Wp.region (by simp [Tryz.ntmps5, e0]; rfl) ?_)
    refine Wp.ret (bad 51 hsp _ ?_ ?_ ?_ _) <;> simp
end Go.Proofs.YtmdggnehhebkhaaGreatDoor
