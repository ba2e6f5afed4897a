/- FaceSplits, by the evaluator: true at every text. -/
import Derived.Test.YtmdggnehhebkhaaGreatDoorLaw
set_option linter.unusedVariables false
set_option linter.unusedSimpArgs false
set_option maxRecDepth 100000
namespace Go.Proofs.YtmdggnehhebkhaaGreatDoor
open Go Go.Am

theorem anchor_ca (q : Bool) (H : Hp) : (top cfg).ca q 4 [] H = some (.bool true, H) :=
  top_ca_of (n := 90) (by kernel_rfl)

theorem ref_ca (q : Bool) (H : Hp) (l : List UInt8) (hl : l.length < 2305843009213693952) : (top cfg).ca q 6 [.str (B l)] H = some (.tup (resOf (splitF l)), H) := by
  cases hv : verB.isPrefixOf l with
  | false =>
    have : splitF l = ([], [], 50) := by unfold splitF; rw [hv]; rfl
    rw [this]
    exact refSplit_pre q H l (by omega) hv
  | true =>
    obtain ⟨r, hr⟩ := List.isPrefixOf_iff_prefix.1 hv
    subst hr
    obtain ⟨k, st, h⟩ := refSplit_ca q H r (by simp at hl; omega)
    rw [h, ansR_eq st]

theorem faceSplits_ca (q : Bool) (H : Hp) (l : List UInt8) (hl : l.length < 2305843009213693952) : (top cfg).ca q 3 [.str (B l)] H = some (.bool true, H) := by
  refine pure_of (Hc := Hp.empty) (H2 := Hp.empty) (v := .bool true) (by kernel_rfl) (by kernel_rfl) rfl ?_ rfl
  refine body_of Tryz.func3 rfl ?_
  have ha := fun H => anchor_ca false H
  refine Wp.seq (Wp.region (by simp [Tryz.ntmps3]; rfl) ?_)
  refine Wp.seq (Wp.seq (Wp.regionE ?_))
  repeat (refine OpsTo.step (by simp [Tryz.ntmps3, ha, aun]; rfl) ?_)
  refine OpsTo.nil (Wp.condF (by simp) (Wp.skip ?_))
  by_cases h2 : (2000 : Int) < (l.length : Int)
  · refine Wp.seq (Wp.seq (Wp.regionE ?_))
    repeat (refine OpsTo.step (by simp [Tryz.ntmps3, argE, h2]; rfl) ?_)
    refine OpsTo.nil (Wp.condT (by simp) (Wp.seq (Wp.region (by simp [Tryz.ntmps3]; rfl) ?_)))
    refine Wp.ret ⟨.inr rfl, rfl, [.bool true], ?_, rfl⟩
    simp [resA, noLoc, AV.isLoc, Tryz.f3]
  refine Wp.seq (Wp.seq (Wp.regionE ?_))
  repeat (refine OpsTo.step (by simp [Tryz.ntmps3, argE, h2]; rfl) ?_)
  refine OpsTo.nil (Wp.condF (by simp) (Wp.skip ?_))
  have hs := fun H => split_ca false H l (by omega)
  have hr := fun H => ref_ca false H l (by omega)
  have hm := fun H => faceSum_ca false H l (by omega)
  have hn := fun H => refSum_ca false H l (by omega)
  unfold resOf at hs hr
  generalize (splitF l).1 = a at hs hr
  generalize (splitF l).2.1 = b at hs hr
  generalize ((splitF l).2.2 : Int) = c at hs hr
  generalize sumS l = d at hm hn
  refine Wp.seq (Wp.regionE ?_)
  repeat (refine OpsTo.step (by simp [Tryz.ntmps3, argE, hs]; rfl) ?_)
  refine OpsTo.nil (Wp.seq (Wp.regionE ?_))
  repeat (refine OpsTo.step (by simp [Tryz.ntmps3, argE, hr]; rfl) ?_)
  refine OpsTo.nil (Wp.seq (Wp.regionE ?_))
  repeat (refine OpsTo.step (by simp [Tryz.ntmps3, argE, hm, hn]; rfl) ?_)
  refine OpsTo.nil ?_
  refine Wp.ret ⟨.inr rfl, rfl, [.bool true], ?_, rfl⟩
  simp [resA, noLoc, AV.isLoc, Tryz.f3]
end Go.Proofs.YtmdggnehhebkhaaGreatDoor
