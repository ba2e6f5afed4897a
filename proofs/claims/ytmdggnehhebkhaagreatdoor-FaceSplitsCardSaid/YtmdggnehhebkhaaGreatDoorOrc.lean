/- The oracles' laws. -/
import Derived.Test.YtmdggnehhebkhaaGreatDoorCfg
import Derived.Test.YtmdggnehhebkhaaGreatDoorShelf
set_option linter.unusedVariables false
set_option linter.unusedSimpArgs false
set_option maxRecDepth 100000
namespace Go.Proofs.YtmdggnehhebkhaaGreatDoor
open Go Go.Am Go.RowKit

theorem noNum : NoNum Tryz.prog := by
  have h : (Tryz.prog.funcs.toList.all fun fn => !(fn.name == "runtime.NumGoroutine")) = true := by kernel_rfl
  intro k fn hk
  rw [List.all_eq_true] at h
  have := h fn (List.mem_of_getElem? (by rw [Array.getElem?_toList]; exact hk))
  simpa using this
theorem mixed : Tryz.prog.follows .mixedOrders = true := by kernel_rfl

theorem below_ok {gh : Gh} {w w' : World} (rh : RH gh Hp.empty w) (b : Below w.heap.size w w') : RH gh Hp.empty w' ∧ Step gh Hp.empty w gh Hp.empty w' :=
  ⟨rh.grown fun k hk => b.block k hk, step_grown b.os b.tape b.output b.size fun k hk => b.block k hk⟩

/-- An oracle's law where the answer is a scalar. -/
def OLaw (f : FuncId) (g : List AV → Option AV) : Prop := ∀ args v, g args = some v → (∃ fn, Tryz.prog.funcs[f]? = some fn ∧ fn.body.isNone = false) ∧
    ∀ (gh : Gh) (w : World) (cargs : Array Value), RH gh Hp.empty w → Sub baseM gh.m → RelDL gh.m args cargs.toList →
      Calls Tryz.prog f cargs w fun e w' => ∃ u g' H', e = .returned u ∧ RelD g'.m v u ∧ RH g' H' w' ∧ Step gh Hp.empty w g' H' w'

theorem cargs1 {m : Mem} {a : AV} {cargs : Array Value} (h : RelDL m [a] cargs.toList) : ∃ u, cargs = #[u] ∧ RelD m a u := by
  obtain ⟨h1, h2⟩ := h
  match hc : cargs.toList, h1 with
  | [u], _ => exact ⟨u, by rw [← Array.toArray_toList (xs := cargs), hc], h2 0 a u rfl (by rw [hc]; rfl)⟩
theorem cargs2 {m : Mem} {a b : AV} {cargs : Array Value} (h : RelDL m [a, b] cargs.toList) : ∃ u v, cargs = #[u, v] ∧ RelD m a u ∧ RelD m b v := by
  obtain ⟨h1, h2⟩ := h
  match hc : cargs.toList, h1 with
  | [u, v], _ => exact ⟨u, v, by rw [← Array.toArray_toList (xs := cargs), hc], h2 0 a u rfl (by rw [hc]; rfl), h2 1 b v rfl (by rw [hc]; rfl)⟩
theorem rd_str {m : Mem} {s : ByteArray} {u : Value} (h : RelD m (.str s) u) : u = .string s := by cases h; rfl
theorem rd_int {m : Mem} {k : IntKind} {n : Int} {u : Value} (h : RelD m (.int k n) u) : u = .int k n := by cases h; rfl

theorem law_indexByte : OLaw 57 oIndexByte := by
  intro args v h
  unfold oIndexByte at h
  split at h
  · rename_i s c
    split at h
    · rename_i hc
      cases h
      refine ⟨⟨_, Tryz.func57, rfl⟩, fun gh w cargs rh hb hr => ?_⟩
      obtain ⟨u1, u2, rfl, h1, h2⟩ := cargs2 hr
      obtain rfl := rd_str h1; obtain rfl := rd_int h2
      refine (Tryz.stringslite_IndexByte s c w).mono ?_
      rintro e w' ⟨rfl, rfl⟩
      exact ⟨_, gh, Hp.empty, rfl, .int _ _, rh, Step.refl _ _ _⟩
    · cases h
  · cases h
theorem law_count : OLaw 89 oCount := by
  intro args v h
  unfold oCount at h
  split at h
  · rename_i s t
    split at h
    · rename_i c hc
      cases h
      refine ⟨⟨_, Tryz.func89, rfl⟩, fun gh w cargs rh hb hr => ?_⟩
      obtain ⟨u1, u2, rfl, h1, h2⟩ := cargs2 hr
      obtain rfl := rd_str h1; obtain rfl := rd_str h2
      have ht : t = ⟨#[c]⟩ := by
        cases t with
        | mk d => congr 1; rw [← Array.toArray_toList (xs := d)]; simp only at hc; rw [hc]
      subst ht
      refine (Tryz.strings_Count_one s c w).mono ?_
      rintro e w' ⟨rfl, rfl⟩
      exact ⟨_, gh, Hp.empty, rfl, .int _ _, rh, Step.refl _ _ _⟩
    · cases h
  · cases h
theorem law_itoa : OLaw 17 oItoa := by
  intro args v h
  unfold oItoa at h
  split at h
  · rename_i n
    split at h
    · rename_i hn
      cases h
      refine ⟨⟨_, Tryz.func17, rfl⟩, fun gh w cargs rh hb hr => ?_⟩
      obtain ⟨u1, rfl, h1⟩ := cargs1 hr
      obtain rfl := rd_int h1
      obtain ⟨i, rfl⟩ := Int.eq_ofNat_of_zero_le hn.1
      have hi : i < 100 := by omega
      refine (Tryz.strconv_Itoa_small i hi w).mono ?_
      rintro e w' ⟨rfl, rfl⟩
      refine ⟨_, gh, Hp.empty, rfl, ?_, rh, Step.refl _ _ _⟩
      have : Lib.itoa (i : Int) = Lib.decDigits i := by unfold Lib.itoa; rw [if_neg (by omega)]; rfl
      rw [this]; exact .str _
    · cases h
  · cases h
theorem law_atoi : OLaw 23 oAtoi := by
  intro args v h
  unfold oAtoi at h
  split at h
  · rename_i s
    split at h
    · rename_i hl
      split at h
      · rename_i n hn
        cases h
        refine ⟨⟨_, Tryz.func23, rfl⟩, fun gh w cargs rh hb hr => ?_⟩
        obtain ⟨u1, rfl, h1⟩ := cargs1 hr
        obtain rfl := rd_str h1
        refine (Tryz.strconv_Atoi s n hl hn w).mono ?_
        rintro e w' ⟨rfl, t, rfl⟩
        have hbw : Below w.heap.size w (Lib.bytesWorld w 5 t) := ⟨rfl, rfl, rfl, by rw [Lib.bytesWorld_size]; omega, fun j hj => Lib.bytesWorld_at_old w 5 t j hj⟩
        obtain ⟨a1, a2⟩ := below_ok rh hbw
        refine ⟨_, gh, Hp.empty, rfl, ?_, a1, a2⟩
        refine .tup _ _ rfl fun i v u h1 h2 => ?_
        match i, h1, h2 with
        | 0, h1, h2 => cases h1; cases h2; exact .int _ _
        | 1, h1, h2 => cases h1; cases h2; exact .niliface
        | i + 2, h1, h2 => simp at h1
      · cases h
    · cases h
  · cases h
end Go.Proofs.YtmdggnehhebkhaaGreatDoor
