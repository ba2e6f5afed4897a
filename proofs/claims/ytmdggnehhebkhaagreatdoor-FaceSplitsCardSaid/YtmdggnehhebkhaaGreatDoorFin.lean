/-
  Whatever text is given, touchstonelaw27.FaceSplits answers true: a text is parted into a body and what stands behind it as the document says, or refused, and the sum is the document's; the text reads afterwards as before.
  Conditions: the card's own alone (the listed tables of Go's library hold what the program's text lays, which the given tie shows).
-/
import Derived.Test.YtmdggnehhebkhaaGreatDoorOkk
import Derived.Test.YtmdggnehhebkhaaGreatDoorRows
import Derived.Test.YtmdggnehhebkhaaGreatDoorCards
import Derived.Test.YtmdggnehhebkhaaGreatDoorTie
import Derived.ProofKit
import Derived.OpenShut
import Derived.LaidMore
import Derived.Lay
import Derived.SevenTiedAt
import Derived.Stop.Joined
import Derived.Lib.LaidIn
import Derived.SizedLaws
import Derived.Lib.LaidU8T
set_option linter.unusedVariables false
namespace Go.Proofs.YtmdggnehhebkhaaGreatDoor
open Go.ChangeShapes Go.WideShapes Go.ChangeAt Go.RowKit
open Go.ChangeMaps (open_string shut_string)

theorem own : ownKnob Tryz.prog.godebug = none := by kernel_rfl
theorem first_is : Rows.laid_unicode_utf8_first = Lib.firstData := by kernel_rfl
theorem accept_is : (Rows.laid_unicode_utf8_acceptRanges : DataW Unit) = Lib.acceptData := by kernel_rfl
theorem u8_types : U8Types Tryz.prog Tryz.lays260_ren := U8Types.of260 Tryz.lays260
theorem u8_extra : U8Extra Tryz.prog Tryz.lays260_ren := ⟨by kernel_rfl, by kernel_rfl, by kernel_rfl, by kernel_rfl, by kernel_rfl, by kernel_rfl, by kernel_rfl⟩
theorem tabs_laid {W : World} (h3 : Lib.VarReads Tryz.prog W "unicode/utf8.first" Rows.laid_unicode_utf8_first) (h4 : Lib.VarReads Tryz.prog W "unicode/utf8.acceptRanges" Rows.laid_unicode_utf8_acceptRanges) :
    Lib.Utf8Tabs 4 5 W := by
  rw [first_is] at h3
  rw [accept_is] at h4
  exact utf8Tabs_of_readsT u8_types u8_extra h3 h4
theorem base_of {W : World} (h : Lib.Utf8Tabs 4 5 W) : BaseAt W := by
  intro b i u hu
  unfold baseM at hu
  split at hu
  · rename_i hb
    split at hu
    · rename_i hi; cases hu; subst hb; exact h.1 i hi
    · cases hu
  · split at hu
    · rename_i hb
      split at hu
      · rename_i hi
        cases hu; subst hb
        obtain ⟨h1, h2⟩ := h.2 (i / 2) (by omega)
        by_cases hm : i % 2 = 0
        · rw [if_pos hm]
          rw [show 2 * (i / 2) = i by omega] at h1
          exact h1
        · rw [if_neg hm]
          rw [show 2 * (i / 2) + 1 = i by omega] at h2
          exact h2
      · cases hu
    · cases hu

set_option maxRecDepth 100000 in
set_option maxHeartbeats 2000000 in
theorem faceSplits_lifted (os : Os) (started : os.Started) (H : Type) (enc : TypeId × Value → H) :
    ReturnsInHanded {} Tryz.checked os 3 .any (fun w args => (Rows.faceSplitsSpec.pre enc Tryz.prog Tryz.f3 Rows.faceSplitsRow.domain false w args ∧ laidMetH Tryz.prog Rows.faceSplitsRow.laid w) ∧ sizedMet enc Tryz.prog Tryz.f3 (OpenSpec.ofChange Rows.faceSplitsSpec) false w args)
      (Rows.faceSplitsSpec.post enc Tryz.prog Tryz.f3 false true false false) := by
  refine returnsInHanded_of_change_and (C := Tryz.checked) (X := fun w _ => laidMetH Tryz.prog Rows.faceSplitsRow.laid w) (fun _ _ _ hh h => h.of_heap hh) own started (by kernel_rfl) Tryz.func3
    (ChangeSpec.witness_shaped (enc := enc) (C := Tryz.checked) (os := os) (X := fun w _ => laidMetH Tryz.prog Rows.faceSplitsRow.laid w) false (World.laidAll Tryz.prog os Rows.faceSplitsRow.laid) #[.string ⟨#[]⟩] 8 (World.laidAll_os _ _ _)
      (World.shaped_of_ZipB (by kernel_rfl) (by kernel_rfl)) (by kernel_rfl) (by kernel_rfl) (by kernel_rfl)
      (by rw [MakeChecks.laidMetH_plain _ _ _ (by kernel_rfl)]; exact laidMet_laidAll _ (by kernel_rfl) (by kernel_rfl))) ?_
  intro W base args ds gs before hval0 hW hc hz hL _
  have hval : ∀ (j : Nat) t v, Tryz.f3.params[j]? = some t → args[j]? = some v → Value.okWide Tryz.prog W .any base t v := hval0
  have hW' := hW
  obtain ⟨p, q, hA0, hV, rfl, _, _⟩ := hW
  have hA : DataW.TrodAll enc Tryz.prog W 0 (fun _ => true) true Tryz.f3.params.toList args.toList ds p := hA0
  rw [Tryz.params3] at hA hval
  obtain ⟨v0, d0, rfl, rfl, h0⟩ := trodAll_one hA
  obtain ⟨rfl, rfl⟩ := trodVars_none hV
  obtain ⟨s, rfl, rfl, rfl, ws⟩ := open_string Tryz.underlying9 (hval 0 9 v0 rfl rfl) h0
  clear hA0 hV hval0
  rw [MakeChecks.laidMetH_plain _ _ _ (by kernel_rfl)] at hL
  have htab := tabs_laid (Lib.laidMet.reads hL (.tail _ (.tail _ (.tail _ (.tail _ (.tail _ (.tail _ (.head _)))))))) (Lib.laidMet.reads hL (.tail _ (.tail _ (.tail _ (.head _)))))
  have hs : s.size < 2305843009213693952 := by
    have h1 := sized_string hz (j := 0) (t := 9) (bytes := s.data.toList) (by rw [Tryz.params3]; rfl) rfl
    have h2 := reachBytes_lt
    rw [Array.length_toList] at h1
    have h3 : s.size ≤ reachBytes := h1
    omega
  clear hz
  refine (faceSplits_calls s hs W (base_of htab)).mono ?_
  rintro e W' ⟨rfl, bel⟩
  refine ⟨_, rfl, _, _, _, [], [], [], hW', ?_, ?_, ?_, bel.frame _, fun h => by cases h⟩
  · exact trodAll_mk1 (shut_bool Tryz.underlying4 _)
  · exact trodAll_mk1 (shut_string Tryz.underlying9 ws)
  · rfl

theorem faceSplits_holds : Rows.FaceSplitsSaid :=
  OpenClaim.holds_of_wide 3 Tryz.f3 rfl rfl rfl rfl rfl rfl rfl ⟨rfl, rfl, rfl, rfl, rfl⟩ rfl rfl rfl rfl rfl (by kernel_rfl) Tryz.func3 (by kernel_rfl)
    (of_decide_eq_true (by kernel_rfl)) (by unfold Func.isWrapper; first | (rw [if_pos (by decide +kernel)]; kernel_rfl) | (rw [if_neg (by decide +kernel)]; exact ⟨rfl, rfl⟩))
    (fun os started H enc _ => faceSplits_lifted os started H enc)
theorem faceSplits_card_holds : Rows.FaceSplitsCardSaid :=
  Claim7.holds_tied_plain_at .later [] [.data, .data, .data, .data, .sentinel, .sentinel, .pinned] true Rows.faceSplitsCard.stood.harness true faceSplits_holds (fun _ h => by cases h) (by kernel_rfl) (fun _ h => by cases h) faceSplits_row_tie rfl ⟨rfl, rfl⟩ (by kernel_rfl) rfl
    (fun f fn hf hfn => by
      obtain rfl : f = 3 := Option.some.inj ((show Tryz.prog.funcNamed "touchstone/touchstonelaw27.FaceSplits" = some 3 by kernel_rfl).symm.trans hf) |>.symm
      obtain rfl : fn = Tryz.f3 := (Option.some.inj (Tryz.func3.symm.trans hfn)).symm
      exact ⟨by kernel_rfl, fun j t ht => by
        rw [Tryz.params3] at ht
        have hm : t ∈ [9] := by simpa using Array.mem_of_getElem? ht
        have hall : ([9].all fun u => !Tryz.prog.wantsStandIn u) = true := by kernel_rfl
        exact (show Tryz.prog.wantsStandIn t = false by simpa using List.all_eq_true.1 hall t hm)⟩)
    (by kernel_rfl)
#print axioms faceSplits_holds
#print axioms faceSplits_card_holds
end Go.Proofs.YtmdggnehhebkhaaGreatDoor
