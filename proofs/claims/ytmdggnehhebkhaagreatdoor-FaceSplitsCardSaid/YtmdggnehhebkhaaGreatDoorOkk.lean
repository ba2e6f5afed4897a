/- Every oracle answers rightly; so the machine comes to what the evaluator answers. -/
import Derived.Test.YtmdggnehhebkhaaGreatDoorSor
import Derived.Test.YtmdggnehhebkhaaGreatDoorRng
import Derived.Test.YtmdggnehhebkhaaGreatDoorFSp
set_option linter.unusedVariables false
set_option maxRecDepth 100000
namespace Go.Proofs.YtmdggnehhebkhaaGreatDoor
open Go Go.Am Go.RowKit
theorem ok : Ok cfg where
  num := noNum
  mixed := mixed
  orc := fun f g h => by
    have h : orcF f = some g := h
    unfold orcF at h
    split at h
    · rename_i e; subst e; cases h; exact law_indexByte
    · split at h
      · rename_i e; subst e; cases h; exact law_itoa
      · split at h
        · rename_i e; subst e; cases h; exact law_atoi
        · split at h
          · rename_i e; subst e; cases h; exact law_cutLeft
          · split at h
            · rename_i e; subst e; cases h; exact law_cutRight
            · split at h
              · rename_i e; subst e; cases h; exact law_count
              · cases h
  sorc := fun f g h => by
    have h : sorcF f = some g := h
    unfold sorcF at h
    split at h
    · rename_i e; subst e; cases h; exact law_copyCheck
    · split at h
      · rename_i e; subst e; cases h; exact law_string
      · cases h

/-- A world in which the library's tables stand. -/
def BaseAt (w : World) : Prop := ∀ b i u, baseM b i = some u → w.cell? ⟨b, i, none⟩ = some u
theorem baseM_one {b i : Nat} {u : Value} (h : baseM b i = some u) : u.oneCell' = true := by
  unfold baseM at h
  split at h
  · split at h
    · cases h; rfl
    · cases h
  · split at h
    · split at h
      · cases h; rfl
      · cases h
    · cases h
/-- What the evaluator answers to data in an empty heap, the machine comes to; nothing that was there turns. -/
theorem calls_of {f : FuncId} {args : List AV} {b : Bool} (h : (top cfg).ca false f args Hp.empty = some (.bool b, Hp.empty)) (cargs : Array Value) (w : World) (hw : BaseAt w) (hr : RelDL baseM args cargs.toList) :
    Calls Tryz.prog f cargs w fun e w' => e = .returned (.bool b) ∧ Below w.heap.size w w' := by
  obtain ⟨_, _, _, hc⟩ := top_ok ok false f args Hp.empty (.bool b) Hp.empty h
  let g : Gh := ⟨baseM, fun _ => (0, 0, 0)⟩
  have rh : RH g Hp.empty w := ⟨fun b i u h => ⟨hw b i u h, baseM_one h⟩, fun o b h => (by cases h), fun o o' b b' h => (by cases h), fun o b t h => (by cases h)⟩
  refine (hc g w cargs rh (fun _ _ _ h => h) ⟨hr.1, fun i v u h1 h2 => .data _ _ (hr.2 i v u h1 h2)⟩).mono ?_
  rintro e w' ⟨u, g', rfl, hu, _, st⟩
  have := rel_bool hu
  subst this
  exact ⟨rfl, st.os, st.tape, st.output, st.size, fun k hk => (st.keep k hk fun o ob ho => by cases ho).1⟩
theorem faceSplits_calls (s : ByteArray) (hs : s.size < 2305843009213693952) (w : World) (hw : BaseAt w) :
    Calls Tryz.prog 3 #[.string s] w fun e w' => e = .returned (.bool true) ∧ Below w.heap.size w w' := by
  have e : B s.data.toList = s := by apply ByteArray.ext; apply Array.ext'; rfl
  refine calls_of (faceSplits_ca false Hp.empty s.data.toList (by rw [Array.length_toList]; exact hs)) _ w hw ?_
  rw [e]
  exact ⟨rfl, fun i v u h1 h2 => by
    match i, h1, h2 with
    | 0, h1, h2 => cases h1; cases h2; exact .str _
    | i + 1, h1, h2 => simp at h1⟩
end Go.Proofs.YtmdggnehhebkhaaGreatDoor
