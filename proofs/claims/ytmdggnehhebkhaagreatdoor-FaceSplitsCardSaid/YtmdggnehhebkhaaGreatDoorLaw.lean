/- The plain law: the document's Split answers as face.Split. -/
import Derived.Test.YtmdggnehhebkhaaGreatDoorRef
set_option linter.unusedVariables false
set_option linter.unusedSimpArgs false
set_option maxRecDepth 100000
namespace Go.Proofs.YtmdggnehhebkhaaGreatDoor
open Go Go.Am

theorem bef_app {c : UInt8} {a b : List UInt8} (h : c ∉ a) : bef c (a ++ c :: b) = a := by
  unfold bef
  rw [List.takeWhile_append_of_pos]
  · simp
  · intro x hx; simp; intro e; subst e; exact h hx
theorem aft_app {c : UInt8} {a b : List UInt8} (h : c ∉ a) : aft c (a ++ c :: b) = b := by
  rw [← aft_drop, bef_app h]; simp
theorem split_at {c : UInt8} {l : List UInt8} (h : c ∈ l) : l = bef c l ++ c :: aft c l ∧ c ∉ bef c l := by
  induction l with
  | nil => simp at h
  | cons b l ih =>
    by_cases hb : b = c
    · subst hb; simp [bef, aft]
    · have h' : c ∈ l := by simpa [Ne.symm hb] using h
      obtain ⟨h1, h2⟩ := ih h'
      have e1 : bef c (b :: l) = b :: bef c l := by simp [bef, hb]
      have e2 : aft c (b :: l) = aft c l := by simp [aft, hb]
      rw [e1, e2]
      refine ⟨by rw [List.cons_append, ← h1], ?_⟩
      simp [h2, Ne.symm hb]
theorem cAB {c : UInt8} {l : List UInt8} (h : c ∈ l) : cA c l = bef c l ∧ cB c l = aft c l := by simp [cA, cB, h]

theorem fig_no (c : UInt8) (hc : isFig c = false) {l : List UInt8} (h : l.all isFig = true) : c ∉ l := fun hm => by
  rw [List.all_eq_true] at h; rw [h c hm] at hc; cases hc
theorem dig_no (c : UInt8) (hc : isDig c = false) {l : List UInt8} (h : l.all isDig = true) : c ∉ l := fun hm => by
  rw [List.all_eq_true] at h; rw [h c hm] at hc; cases hc

/-- The form of a right head. -/
structure Form (r d sm s : List UInt8) : Prop where
  eq : r = d ++ 32 :: (sm ++ 10 :: s)
  cnt : cntOk d = true
  sum : sumOk sm = true

theorem cnt_parts {d : List UInt8} (h : cntOk d = true) : d ≠ [] ∧ d.length ≤ 6 ∧ (d.head? ≠ some 48 ∨ d = [48]) ∧ d.all isDig = true := by
  unfold cntOk at h
  simp only [Bool.and_eq_true, Bool.or_eq_true, decide_eq_true_iff, Bool.not_eq_true'] at h
  obtain ⟨⟨⟨h1, h2⟩, h3⟩, h4⟩ := h
  refine ⟨?_, h2, h3, h4⟩
  intro e; rw [e] at h1; cases h1
theorem sum_parts {l : List UInt8} (h : sumOk l = true) : l.length = 8 ∧ l.all isFig = true := by
  unfold sumOk at h
  simpa using h

theorem form_calc {r d sm s : List UInt8} (f : Form r d sm s) : formBad r = false ∧ cA 32 (cA 10 r) = d ∧ cB 10 r = s ∧ cB 32 (cA 10 r) = sm := by
  obtain ⟨_, _, _, hd⟩ := cnt_parts f.cnt
  obtain ⟨_, hs⟩ := sum_parts f.sum
  have n1 : (10 : UInt8) ∉ d ++ 32 :: sm := by
    have a := dig_no 10 (by decide) hd
    have b := fig_no 10 (by decide) hs
    simp [a, b]
  have e : r = (d ++ 32 :: sm) ++ 10 :: s := by rw [f.eq]; simp
  have m1 : (10 : UInt8) ∈ r := by rw [e]; simp
  have b1 : cA 10 r = d ++ 32 :: sm := by rw [(cAB m1).1, e, bef_app n1]
  have b2 : cB 10 r = s := by rw [(cAB m1).2, e, aft_app n1]
  have m2 : (32 : UInt8) ∈ d ++ 32 :: sm := by simp
  have n2 : (32 : UInt8) ∉ d := dig_no 32 (by decide) hd
  have b3 : cA 32 (d ++ 32 :: sm) = d := by rw [(cAB m2).1, bef_app n2]
  have b4 : cB 32 (d ++ 32 :: sm) = sm := by rw [(cAB m2).2, aft_app n2]
  refine ⟨?_, by rw [b1, b3], b2, by rw [b1, b4]⟩
  unfold formBad
  rw [b1, b3, b4, f.cnt, f.sum]
  simp [m1, m2]

theorem form_of {r : List UInt8} (h : formBad r = false) : Form r (cA 32 (cA 10 r)) (cB 32 (cA 10 r)) (cB 10 r) := by
  unfold formBad at h
  simp only [Bool.or_eq_false_iff, Bool.not_eq_false', decide_eq_true_iff] at h
  obtain ⟨h1, h2, h3, h4⟩ := h
  refine ⟨?_, h3, h4⟩
  obtain ⟨e1, _⟩ := split_at h1
  obtain ⟨e2, _⟩ := split_at h2
  rw [(cAB h2).1, (cAB h2).2]
  conv => lhs; rw [e1, ← (cAB h1).1, e2]
  rw [(cAB h1).2]
  simp

/-- A right head, in the document's places. -/
theorem form_ref {r d sm s : List UInt8} (f : Form r d sm s) {k : Nat} (st : Stop r k) : k = d.length ∧ ¬ RBad r k ∧ smOf r k = sm ∧ r.drop (k + 10) = s ∧ r.take k = d := by
  obtain ⟨c1, c2, c3, c4⟩ := cnt_parts f.cnt
  obtain ⟨s1, s2⟩ := sum_parts f.sum
  have hk : k = d.length := by
    have hlt : ¬ d.length < k := by
      intro h
      have h1 : (r.take k)[d.length]? = some 32 := by
        rw [List.getElem?_take_of_lt h, f.eq, List.getElem?_append_right (Nat.le_refl _)]; simp
      have := List.all_eq_true.1 st.all 32 (List.mem_of_getElem? h1)
      revert this; decide
    have hge : ¬ k < d.length := by
      intro h
      have h1 : r[k]? = d[k]? := by rw [f.eq, List.getElem?_append_left h]
      rcases st.stop with h7 | hn | ⟨b, hb, hd⟩
      · omega
      · rw [h1, List.getElem?_eq_getElem h] at hn; cases hn
      · rw [h1] at hb
        rw [List.all_eq_true.1 c4 b (List.mem_of_getElem? hb)] at hd; cases hd
    omega
  subst hk
  have g0 : r.take d.length = d := by rw [f.eq]; simp
  have g1 : r[d.length]? = some 32 := by rw [f.eq, List.getElem?_append_right (Nat.le_refl _)]; simp
  have g2 : r.drop (d.length + 1) = sm ++ 10 :: s := by rw [f.eq, List.drop_append]; simp
  have g3 : smOf r d.length = sm := by
    unfold smOf; rw [g2, List.take_append_of_le_length (by omega), List.take_of_length_le (by omega)]
  have g4 : r.drop (d.length + 10) = s := by
    rw [show d.length + 10 = (d.length + 1) + 9 by omega, ← List.drop_drop, g2, List.drop_append]
    rw [s1]; simp [s1]
  have g5 : r[d.length + 9]? = some 10 := by
    rw [show d.length + 9 = (d.length + 1) + 8 by omega, ← List.getElem?_drop, g2, List.getElem?_append_right (by omega)]
    simp [s1]
  refine ⟨rfl, ?_, g3, g4, g0⟩
  intro hb
  have hpos : 0 < d.length := List.length_pos_iff.2 c1
  rcases hb with h | h | ⟨h1, h2⟩ | h | h | h | h
  · omega
  · omega
  · have h0 : r[0]? = d[0]? := by rw [f.eq, List.getElem?_append_left hpos]
    rcases c3 with c | c
    · rw [h0] at h1; exact c (by rw [List.head?_eq_getElem?]; exact h1)
    · rw [c] at h2; simp at h2
  · have : r.length = d.length + (1 + (8 + (1 + s.length))) := by rw [f.eq]; simp [s1]; omega
    omega
  · exact h g1
  · exact h g5
  · rw [g3, s2] at h; cases h

theorem ref_form {r : List UInt8} {k : Nat} (st : Stop r k) (h : ¬ RBad r k) : Form r (r.take k) (smOf r k) (r.drop (k + 10)) := by
  unfold RBad at h
  simp only [not_or] at h
  obtain ⟨h1, h2, h3, h4, h5, h6, h7⟩ := h
  have e5 : r[k]? = some 32 := Classical.not_not.1 h5
  have e6 : r[k + 9]? = some 10 := Classical.not_not.1 h6
  have hd : ∀ (i : Nat) (b : UInt8), r[i]? = some b → r.drop i = b :: r.drop (i + 1) := fun i b hb => by
    obtain ⟨hlt, hv⟩ := List.getElem?_eq_some_iff.1 hb
    rw [List.drop_eq_getElem_cons hlt, hv]
  refine ⟨?_, ?_, ?_⟩
  · conv => lhs; rw [← List.take_append_drop k r]
    congr 1
    rw [hd k 32 e5]
    congr 1
    unfold smOf
    conv => lhs; rw [← List.take_append_drop 8 (r.drop (k + 1))]
    congr 1
    rw [List.drop_drop, show k + 1 + 8 = k + 9 by omega, hd (k + 9) 10 e6]
  · unfold cntOk
    have hl : (r.take k).length = k := by rw [List.length_take]; exact Nat.min_eq_left st.le
    have hne : (r.take k).isEmpty = false := by
      cases hx : r.take k with
      | nil => rw [hx] at hl; simp at hl; omega
      | cons a b => rfl
    rw [hne, st.all, hl]
    have : (decide ((r.take k).head? ≠ some 48) || decide (r.take k = [48])) = true := by
      rw [Bool.or_eq_true, decide_eq_true_iff, decide_eq_true_iff]
      by_cases h0 : (r.take k).head? = some 48
      · right
        have h0' : r[0]? = some 48 := by
          rw [List.head?_eq_getElem?, List.getElem?_take_of_lt (by omega)] at h0; exact h0
        have hk1 : k = 1 := by
          apply Classical.byContradiction
          intro hk; exact h3 ⟨h0', by omega⟩
        subst hk1
        rw [List.take_one, List.head?_eq_getElem?, h0']; rfl
      · exact .inl h0
    rw [this]
    simp; omega
  · unfold sumOk
    have hl : (smOf r k).length = 8 := by unfold smOf; simp; omega
    have ha : (smOf r k).all isFig = true := by simpa using h7
    rw [hl, ha]; rfl

theorem ansR_eq {r : List UInt8} {k : Nat} (st : Stop r k) : ansR r k = splitF (verB ++ r) := by
  have hp : verB.isPrefixOf (verB ++ r) = true := by rw [List.isPrefixOf_iff_prefix]; exact List.prefix_append _ _
  have hdr : (verB ++ r).drop 13 = r := by rw [List.drop_append]; simp [verB]
  unfold splitF
  rw [if_pos hp, hdr]
  by_cases hb : RBad r k
  · have : formBad r = true := by
      cases h : formBad r with
      | true => rfl
      | false => exact absurd hb (form_ref (form_of h) st).2.1
    unfold ansR
    rw [if_pos hb]
    simp [this]
  · obtain ⟨f1, f2, f3, f4⟩ := form_calc (ref_form st hb)
    unfold ansR
    rw [if_neg hb]
    simp only [f1, f2, f3, f4]
    rfl
end Go.Proofs.YtmdggnehhebkhaaGreatDoor
