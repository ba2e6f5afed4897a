/- The document's Split, gone through. -/
import Derived.Test.YtmdggnehhebkhaaGreatDoorSpl
set_option linter.unusedVariables false
set_option linter.unusedSimpArgs false
set_option maxRecDepth 100000
set_option maxHeartbeats 1000000
namespace Go.Proofs.YtmdggnehhebkhaaGreatDoor
open Go Go.Am

/-- Where the digits end. -/
structure Stop (r : List UInt8) (k : Nat) : Prop where
  all : (r.take k).all isDig = true
  le7 : k ≤ 7
  le : k ≤ r.length
  stop : k = 7 ∨ r[k]? = none ∨ ∃ b, r[k]? = some b ∧ isDig b = false
def smOf (r : List UInt8) (k : Nat) : List UInt8 := (r.drop (k + 1)).take 8
def RBad (r : List UInt8) (k : Nat) : Prop := k < 1 ∨ 6 < k ∨ (r[0]? = some 48 ∧ 1 < k) ∨ r.length < k + 10 ∨ r[k]? ≠ some 32 ∨ r[k + 9]? ≠ some 10 ∨ (smOf r k).all isFig = false
open Classical in
noncomputable def ansR (r : List UInt8) (k : Nat) : List UInt8 × List UInt8 × Nat :=
  if RBad r k then ([], [], 10)
  else if (r.drop (k + 10)).length < decV (r.take k) then ([], [], 11)
  else if sumS ((r.drop (k + 10)).take (decV (r.take k))) ≠ smOf r k then ([], [], 51)
  else ((r.drop (k + 10)).take (decV (r.take k)), (r.drop (k + 10)).drop (decV (r.take k)), 0)

theorem isDig_iff (b : UInt8) : isDig b = (decide ((48 : Int) ≤ (b.toNat : Int)) && decide ((b.toNat : Int) ≤ 57)) := by
  unfold isDig
  congr 1 <;> (rw [Bool.eq_iff_iff, decide_eq_true_iff, decide_eq_true_iff]; omega)
theorem decV_snoc (l : List UInt8) (b : UInt8) : decV (l ++ [b]) = decV l * 10 + (b.toNat - 48) := by simp [decV, List.foldl_append]
theorem decV_lt (l : List UInt8) (h : l.all isDig = true) : decV l < 10 ^ l.length := by
  have key : ∀ (l : List UInt8) (acc : Nat), l.all isDig = true → l.foldl (fun n b => n * 10 + (b.toNat - 48)) acc < (acc + 1) * 10 ^ l.length := by
    intro l
    induction l with
    | nil => intro acc _; simp
    | cons b l ih =>
      intro acc h
      simp only [List.all_cons, Bool.and_eq_true] at h
      have h1 := ih (acc * 10 + (b.toNat - 48)) h.2
      have h2 := h.1
      unfold isDig at h2
      simp only [Bool.and_eq_true, decide_eq_true_iff] at h2
      rw [List.foldl_cons, List.length_cons, Nat.pow_succ]
      refine Nat.lt_of_lt_of_le h1 ?_
      rw [Nat.mul_comm (10 ^ l.length) 10, ← Nat.mul_assoc]
      exact Nat.mul_le_mul_right _ (by omega)
  have := key l 0 h
  simpa [decV] using this

theorem refSplit_pre (q : Bool) (H : Hp) (l : List UInt8) (hl : l.length < 4611686018427387904) (hv : verB.isPrefixOf l = false) : (top cfg).ca q 6 [.str (B l)] H = some (.tup (resOf ([], [], 50)), H) := by
  refine pure_of (Hc := Hp.empty) (H2 := Hp.empty) (v := .tup (resOf ([], [], 50))) (by kernel_rfl) (by kernel_rfl) rfl ?_ rfl
  refine body_of Tryz.func6 rfl ?_
  have e0 : (⟨#[]⟩ : ByteArray) = B [] := rfl
  have ev : (⟨#[116, 111, 117, 99, 104, 115, 116, 111, 110, 101, 32, 49, 32]⟩ : ByteArray) = B verB := rfl
  refine Wp.seq (Wp.region (by simp [Tryz.ntmps6, e0]; rfl) ?_)
  by_cases h13 : l.length < 13
  · have h13' : ((l.length : Int) < 13) := by omega
    refine Wp.seq (Wp.seq (Wp.regionE ?_))
    repeat (refine OpsTo.step (by simp [Tryz.ntmps6, argE, h13']; rfl) ?_)
    refine OpsTo.nil (Wp.condT (by simp) ?_)
    refine Wp.seq (Wp.region (by simp [Tryz.ntmps6, e0]; rfl) ?_)
    refine Wp.ret ⟨.inr rfl, rfl, resOf ([], [], 50), ?_, rfl⟩
    simp [resA, noLoc, AV.isLoc, Tryz.f6, resOf]
  · have h13' : ¬ ((l.length : Int) < 13) := by omega
    have hs : ∀ H, aslice Tryz.prog H 9 (.str (B l)) none (some (.int .i64 13)) none = some (.str (B (l.take 13))) := fun H => by
      have := aslice_str (P := Tryz.prog) (H := H) (lo := none) (hi := some (.int .i64 ((13 : Nat) : Int))) (l := l) und_string (bnd_none _) (bnd_nat _ 13 _) (by omega) (by omega)
      simpa using this
    have hne : (l.take 13 == verB) = false := by
      cases h : l.take 13 == verB with
      | false => rfl
      | true =>
        rw [beq_dec, decide_eq_true_iff] at h
        have : verB.isPrefixOf l = true := by rw [List.isPrefixOf_iff_prefix, ← h]; exact List.take_prefix _ _
        rw [hv] at this; cases this
    refine Wp.seq (Wp.seq (Wp.regionE ?_))
    repeat (refine OpsTo.step (by simp [Tryz.ntmps6, argE, h13', hs, ev, hne]; rfl) ?_)
    refine OpsTo.nil (Wp.condT (by simp) ?_)
    refine Wp.seq (Wp.region (by simp [Tryz.ntmps6, e0]; rfl) ?_)
    refine Wp.ret ⟨.inr rfl, rfl, resOf ([], [], 50), ?_, rfl⟩
    simp [resA, noLoc, AV.isLoc, Tryz.f6, resOf]

theorem isFig_fin : ∀ n : Fin 256, isFig (UInt8.ofNat n.val) = ((decide (48 ≤ n.val) && decide (n.val ≤ 57)) || (decide (97 ≤ n.val) && decide (n.val ≤ 102))) := by decide
theorem isFig_iff (b : UInt8) : isFig b = ((decide ((48 : Int) ≤ (b.toNat : Int)) && decide ((b.toNat : Int) ≤ 57)) || (decide ((97 : Int) ≤ (b.toNat : Int)) && decide ((b.toNat : Int) ≤ 102))) := by
  have h := isFig_fin ⟨b.toNat, b.toNat_lt⟩
  simp only [UInt8.ofNat_toNat] at h
  rw [h]
  have e : ∀ (a c : Nat), decide (a ≤ c) = decide ((a : Int) ≤ (c : Int)) := fun a c => by rw [Bool.eq_iff_iff, decide_eq_true_iff, decide_eq_true_iff]; omega
  rw [e 48, e b.toNat 57, e 97, e b.toNat 102]
  rfl
theorem body_ofE {C : Cfg} {f : FuncId} {args : List AV} {H : Hp} {P : AV → Prop} {F : Func} {c : Code} (hf : C.P.funcs[f]? = some F) (hb : F.body = some c)
    (h : Wp C f F.ntmps c ⟨argE args, fun _ => none, H⟩ fun x s => (x = .normal ∨ x = .ret) ∧ ∃ vs, resA C.P s F.results.toList = some vs ∧ P (oneOf vs)) : ∃ v Hc, evBody C (top C) f args H = some (v, Hc) ∧ P v := by
  obtain ⟨x, s, h1, h2, vs, h4, h5⟩ := h
  refine ⟨oneOf vs, s.h, ?_, h5⟩
  unfold evBody
  simp only [hf, hb, h1]
  rcases h2 with rfl | rfl <;> simp only [h4]

theorem refSplit_ca (q : Bool) (H : Hp) (r : List UInt8) (hl : r.length < 2305843009213693952) : ∃ k, Stop r k ∧ (top cfg).ca q 6 [.str (B (verB ++ r))] H = some (.tup (resOf (ansR r k)), H) := by
  have hll : (verB ++ r).length = 13 + r.length := by simp [verB]; omega
  have hget : ∀ j, (verB ++ r)[13 + j]? = r[j]? := fun j => by rw [List.getElem?_append_right (by simp [verB])]; simp [verB]
  have hdrop : ∀ j, (verB ++ r).drop (13 + j) = r.drop j := fun j => by
    rw [List.drop_append]; simp [verB]
  have htk : (verB ++ r).take 13 = verB := by rw [List.take_append_of_le_length (by simp [verB])]; rfl
  generalize verB ++ r = l at *
  have e0 : (⟨#[]⟩ : ByteArray) = B [] := rfl
  have ev : (⟨#[116, 111, 117, 99, 104, 115, 116, 111, 110, 101, 32, 49, 32]⟩ : ByteArray) = B verB := rfl
  suffices hmain : ∃ v Hc, evBody cfg (top cfg) 6 [.str (B l)] Hp.empty = some (v, Hc) ∧ ∃ k, Stop r k ∧ v = .tup (resOf (ansR r k)) by
    obtain ⟨v, Hc, h1, k, hk, rfl⟩ := hmain
    exact ⟨k, hk, pure_of (Hc := Hc) (H2 := Hc) (v := .tup (resOf (ansR r k))) (by kernel_rfl) (by kernel_rfl) rfl h1 rfl⟩
  refine body_ofE Tryz.func6 rfl ?_
  have bad : ∀ (k c : Nat), Stop r k → ansR r k = ([], [], c) → ∀ s : St, s.e 2 = .str (B []) → s.e 3 = .str (B []) → s.e 4 = .int .i64 (c : Int) → (Ex.ret = .normal ∨ Ex.ret = .ret) ∧ ∃ vs, resA cfg.P s Tryz.f6.results.toList = some vs ∧ ∃ k, Stop r k ∧ oneOf vs = .tup (resOf (ansR r k)) := by
    intro k c hk hc s h2 h3 h4
    refine ⟨.inr rfl, resOf (ansR r k), ?_, k, hk, rfl⟩
    rw [hc]
    simp [resA, noLoc, AV.isLoc, Tryz.f6, h2, h3, h4, resOf]
  have h13' : ¬ ((l.length : Int) < 13) := by omega
  have hs13 : ∀ H, aslice Tryz.prog H 9 (.str (B l)) none (some (.int .i64 13)) none = some (.str (B verB)) := fun H => by
    have := aslice_str (P := Tryz.prog) (H := H) (lo := none) (hi := some (.int .i64 ((13 : Nat) : Int))) (l := l) und_string (bnd_none _) (bnd_nat _ 13 _) (by omega) (by omega)
    simpa [htk] using this
  have hvv : (verB == verB) = true := by simp
  refine Wp.seq (Wp.region (by simp [Tryz.ntmps6, e0]; rfl) ?_)
  refine Wp.seq (Wp.seq (Wp.regionE ?_))
  repeat (refine OpsTo.step (by simp [Tryz.ntmps6, argE, h13', hs13, ev, hvv]; rfl) ?_)
  refine OpsTo.nil (Wp.condF (by simp) (Wp.skip ?_))
  refine Wp.seq (Wp.region (by simp [Tryz.ntmps6]; rfl) ?_)
  refine Wp.seq (Wp.region (by simp [Tryz.ntmps6]; rfl) ?_)
  refine Wp.seq (Wp.region (by simp [Tryz.ntmps6]; rfl) ?_)
  refine Wp.seq (Wp.mono (Q := fun x s' => x = .normal ∧ ∃ k, Stop r k ∧ s'.h = Hp.empty ∧ s'.e 0 = .str (B l) ∧ s'.e 5 = .int .i64 ((13 + k : Nat) : Int) ∧ s'.e 6 = .int .i64 (decV (r.take k)) ∧ s'.e 7 = .int .i64 (k : Int)) (Wp.block (Wp.loopI (fun n s1 => ∃ k, k + n = 7 ∧ k ≤ r.length ∧ (r.take k).all isDig = true ∧ s1.h = Hp.empty ∧ s1.e 0 = .str (B l) ∧ s1.e 5 = .int .i64 ((13 + k : Nat) : Int) ∧ s1.e 6 = .int .i64 (decV (r.take k)) ∧ s1.e 7 = .int .i64 (k : Int)) (fun n s1 hI => ?_) (n := 7) ?_)) ?_)
  · obtain ⟨k, hkn, hkl, hall, hh, h0, h5, h6, h7⟩ := hI
    obtain ⟨e, lo, h⟩ := s1
    simp only at hh h0 h5 h6 h7
    subst hh
    have hout : (k = 7 ∨ r[k]? = none ∨ ∃ b, r[k]? = some b ∧ isDig b = false) → ∀ s : St, s.h = Hp.empty → s.e 0 = .str (B l) → s.e 5 = .int .i64 ((13 + k : Nat) : Int) → s.e 6 = .int .i64 (decV (r.take k)) → s.e 7 = .int .i64 (k : Int) → (Ex.normal = .normal ∧ ∃ k, Stop r k ∧ s.h = Hp.empty ∧ s.e 0 = .str (B l) ∧ s.e 5 = .int .i64 ((13 + k : Nat) : Int) ∧ s.e 6 = .int .i64 (decV (r.take k)) ∧ s.e 7 = .int .i64 (k : Int)) :=
      fun hst s h1 h2 h3 h4 h5 => ⟨rfl, k, ⟨hall, by omega, hkl, hst⟩, h1, h2, h3, h4, h5⟩
    generalize hp : 13 + k = p at h5 hout
    by_cases hlt : k < r.length
    · have hb := List.getElem?_eq_getElem hlt
      generalize r[k] = b at hb
      have hpl : p < l.length := by omega
      have hx : aindex Tryz.prog 9 (.str (B l)) (.int .i64 (p : Int)) = some (.int .u8 b.toNat) := aindex_str und_string (by rw [B_list, ← hp, hget]; exact hb)
      have hdg := isDig_iff b
      by_cases h48 : (48 : Int) ≤ (b.toNat : Int)
      · by_cases h57 : (b.toNat : Int) ≤ 57
        · have hdg : isDig b = true := by rw [hdg]; simp [h48, h57]
          by_cases hk7 : k < 7
          · have hk7' : (k : Int) < 7 := by omega
            refine Wp.seq (Wp.seq (Wp.regionE ?_))
            repeat (refine OpsTo.step (by simp [Tryz.ntmps6, h0, h5, h6, h7, hpl, hx, h48, h57, hk7']; rfl) ?_)
            refine OpsTo.nil (Wp.condT (by simp) (Wp.skip ?_))
            have hdv := decV_lt _ hall
            rw [List.length_take, Nat.min_eq_left hkl] at hdv
            have hV : decV (r.take k) < 10000000 := Nat.lt_of_lt_of_le hdv (Nat.pow_le_pow_right (by decide) (by omega : k ≤ 7))
            have hsn : decV (r.take (k + 1)) = decV (r.take k) * 10 + (b.toNat - 48) := by rw [List.take_add_one, hb]; exact decV_snoc _ _
            have hal2 : (r.take (k + 1)).all isDig = true := by rw [List.take_add_one, hb, List.all_append, hall]; simp [hdg]
            generalize decV (r.take k) = V at h6 hV hsn
            have w1 : IntKind.i64.wrap (10 * (V : Int)) = 10 * (V : Int) := wrap_i64 (by omega) (by omega)
            have w2 : IntKind.u8.wrap ((b.toNat : Int) - 48) = ((b.toNat - 48 : Nat) : Int) := by rw [wrap_u8 (by omega) (by omega)]; omega
            have w3 : IntKind.i64.wrap ((b.toNat - 48 : Nat) : Int) = ((b.toNat - 48 : Nat) : Int) := wrap_i64 (by omega) (by omega)
            have w4 : IntKind.i64.wrap (10 * (V : Int) + ((b.toNat - 48 : Nat) : Int)) = ((V * 10 + (b.toNat - 48) : Nat) : Int) := by rw [wrap_i64 (by omega) (by omega)]; omega
            generalize b.toNat - 48 = D at w2 w3 w4 hsn
            generalize V * 10 + D = V2 at w4 hsn
            have w5 : IntKind.i64.wrap ((p : Int) + 1) = ((p + 1 : Nat) : Int) := by rw [wrap_i64 (by omega) (by omega)]; omega
            have w6 : IntKind.i64.wrap ((k : Int) + 1) = ((k + 1 : Nat) : Int) := by rw [wrap_i64 (by omega) (by omega)]; omega
            refine Wp.block (Wp.seq (Wp.regionE ?_))
            repeat (refine OpsTo.step (by simp [Tryz.ntmps6, h0, h5, h6, h7, hx, w1, w2, w3, w4]; rfl) ?_)
            refine OpsTo.nil (Wp.seq (Wp.regionE ?_))
            repeat (refine OpsTo.step (by simp [Tryz.ntmps6, h0, h5, h6, h7, w5]; rfl) ?_)
            refine OpsTo.nil (Wp.regionE ?_)
            repeat (refine OpsTo.step (by simp [Tryz.ntmps6, h0, h5, h6, h7, w6]; rfl) ?_)
            refine OpsTo.nil ⟨n - 1, by omega, k + 1, by omega, by omega, hal2, rfl, ?_, ?_, ?_, ?_⟩
            · simp [h0]
            · rw [← Nat.add_assoc, hp]; simp
            · rw [hsn]; simp
            · simp
          · have hk7' : ¬ (k : Int) < 7 := by omega
            refine Wp.seq (Wp.seq (Wp.regionE ?_))
            repeat (refine OpsTo.step (by simp [Tryz.ntmps6, h0, h5, h6, h7, hpl, hx, h48, h57, hk7']; rfl) ?_)
            refine OpsTo.nil (Wp.condF (by simp) (Wp.exit (hout (.inl (by omega)) _ rfl ?_ ?_ ?_ ?_))) <;> simp [h0, h5, h6, h7]
        · have hdg : isDig b = false := by rw [hdg]; simp [h57]
          refine Wp.seq (Wp.seq (Wp.regionE ?_))
          repeat (refine OpsTo.step (by simp [Tryz.ntmps6, h0, h5, h6, h7, hpl, hx, h48, h57]; rfl) ?_)
          refine OpsTo.nil (Wp.condF (by simp) (Wp.exit (hout (.inr (.inr ⟨b, hb, hdg⟩)) _ rfl ?_ ?_ ?_ ?_))) <;> simp [h0, h5, h6, h7]
      · have hdg : isDig b = false := by rw [hdg]; simp [h48]
        refine Wp.seq (Wp.seq (Wp.regionE ?_))
        repeat (refine OpsTo.step (by simp [Tryz.ntmps6, h0, h5, h6, h7, hpl, hx, h48]; rfl) ?_)
        refine OpsTo.nil (Wp.condF (by simp) (Wp.exit (hout (.inr (.inr ⟨b, hb, hdg⟩)) _ rfl ?_ ?_ ?_ ?_))) <;> simp [h0, h5, h6, h7]
    · have hpl : ¬ p < l.length := by omega
      refine Wp.seq (Wp.seq (Wp.regionE ?_))
      repeat (refine OpsTo.step (by simp [Tryz.ntmps6, h0, h5, h6, h7, hpl]; rfl) ?_)
      refine OpsTo.nil (Wp.condF (by simp) (Wp.exit (hout (.inr (.inl (List.getElem?_eq_none (by omega)))) _ rfl ?_ ?_ ?_ ?_))) <;> simp [h0, h5, h6, h7]
  · exact ⟨0, rfl, Nat.zero_le _, rfl, rfl, by simp [argE], by simp, by simp [decV], by simp⟩
  rintro x s' ⟨rfl, k, hst, hh, h0, h5, h6, h7⟩
  obtain ⟨e, lo, h⟩ := s'
  simp only at hh h0 h5 h6 h7
  subst hh
  show Wp _ _ _ _ _ _
  have hle := hst.le
  have hl7 := hst.le7
  have hdv := decV_lt _ hst.all
  rw [List.length_take, Nat.min_eq_left hle] at hdv
  have hV : decV (r.take k) < 10000000 := Nat.lt_of_lt_of_le hdv (Nat.pow_le_pow_right (by decide) (by omega : k ≤ 7))
  have ans10 : RBad r k → ansR r k = ([], [], 10) := fun h => by unfold ansR; rw [if_pos h]
  by_cases hA : k < 1
  · have hA' : (k : Int) < 1 := by omega
    refine Wp.seq (Wp.seq (Wp.regionE ?_))
    repeat (refine OpsTo.step (by simp [Tryz.ntmps6, h0, h5, h6, h7, hA']; rfl) ?_)
    refine OpsTo.nil (Wp.condT (by simp) (Wp.seq (Wp.region (by simp [Tryz.ntmps6, e0]; rfl) ?_)))
    refine Wp.ret (bad k 10 hst (ans10 (.inl hA)) _ ?_ ?_ ?_) <;> simp
  have hA' : ¬ (k : Int) < 1 := by omega
  by_cases hB : 6 < k
  · have hB' : (6 : Int) < (k : Int) := by omega
    refine Wp.seq (Wp.seq (Wp.regionE ?_))
    repeat (refine OpsTo.step (by simp [Tryz.ntmps6, h0, h5, h6, h7, hA', hB']; rfl) ?_)
    refine OpsTo.nil (Wp.condT (by simp) (Wp.seq (Wp.region (by simp [Tryz.ntmps6, e0]; rfl) ?_)))
    refine Wp.ret (bad k 10 hst (ans10 (.inr (.inl hB))) _ ?_ ?_ ?_) <;> simp
  have hB' : ¬ (6 : Int) < (k : Int) := by omega
  have hb0 := List.getElem?_eq_getElem (show 0 < r.length by omega)
  generalize r[0] = b0 at hb0
  have hx0 : aindex Tryz.prog 9 (.str (B l)) (.int .i64 13) = some (.int .u8 b0.toNat) := aindex_str (i := 13) und_string (by rw [B_list]; exact (hget 0).trans hb0)
  have w0 : IntKind.i64.wrap (((13 + k : Nat) : Int) - (k : Int)) = 13 := by rw [wrap_i64 (by omega) (by omega)]; omega
  have wD : IntKind.i64.wrap ((l.length : Int) - ((13 + k : Nat) : Int)) = ((r.length - k : Nat) : Int) := by rw [wrap_i64 (by omega) (by omega)]; omega
  have w1 : IntKind.i64.wrap (((13 + k : Nat) : Int) + 1) = ((13 + (k + 1) : Nat) : Int) := by rw [wrap_i64 (by omega) (by omega)]; omega
  have w9 : IntKind.i64.wrap (((13 + k : Nat) : Int) + 9) = ((13 + (k + 9) : Nat) : Int) := by rw [wrap_i64 (by omega) (by omega)]; omega
  have w10 : IntKind.i64.wrap (((13 + k : Nat) : Int) + 10) = ((13 + (k + 10) : Nat) : Int) := by rw [wrap_i64 (by omega) (by omega)]; omega
  have hgk := hget k
  have hg9 := hget (k + 9)
  have hd10 := hdrop (k + 10)
  have hd1 := hdrop (k + 1)
  generalize hp : 13 + k = p at h5 w0 wD w1 w9 w10 hgk
  generalize hp1 : 13 + (k + 1) = p1 at w1 hd1
  generalize hp9 : 13 + (k + 9) = p9 at w9 hg9
  generalize hp10 : 13 + (k + 10) = p10 at w10 hd10
  have hz : (((b0.toNat : Int) == 48) = true ∧ (1 : Int) < (k : Int) ∧ r[0]? = some 48 ∧ 1 < k) ∨ ((b0.toNat : Int) == 48) = false ∨ (((b0.toNat : Int) == 48) = true ∧ ¬ (1 : Int) < (k : Int)) := by
    cases h : ((b0.toNat : Int) == 48) with
    | false => exact .inr (.inl rfl)
    | true =>
      by_cases h1 : 1 < k
      · refine .inl ⟨rfl, by omega, ?_, h1⟩
        rw [hb0]
        congr 1
        apply UInt8.toNat_inj.1
        rw [beq_iff_eq] at h
        show b0.toNat = 48
        omega
      · exact .inr (.inr ⟨rfl, by omega⟩)
  rcases hz with ⟨z1, z2, z3, z4⟩ | hz
  · refine Wp.seq (Wp.seq (Wp.regionE ?_))
    repeat (refine OpsTo.step (by simp [Tryz.ntmps6, h0, h5, h6, h7, hA', hB', w0, hx0, z1, z2]; rfl) ?_)
    refine OpsTo.nil (Wp.condT (by simp) (Wp.seq (Wp.region (by simp [Tryz.ntmps6, e0]; rfl) ?_)))
    refine Wp.ret (bad k 10 hst (ans10 (.inr (.inr (.inl ⟨z3, z4⟩)))) _ ?_ ?_ ?_) <;> simp
  refine Wp.seq (Wp.mono (Q := fun x s' => (x = .ret ∧ (∃ vs, resA cfg.P s' Tryz.f6.results.toList = some vs ∧ ∃ k, Stop r k ∧ oneOf vs = .tup (resOf (ansR r k)))) ∨ (x = .normal ∧ k + 10 ≤ r.length ∧ r[k]? = some 32 ∧ r[k + 9]? = some 10 ∧ s'.h = Hp.empty ∧ s'.e 0 = .str (B l) ∧ s'.e 5 = .int .i64 (p : Int) ∧ s'.e 6 = .int .i64 (decV (r.take k)))) ?_ ?_)
  · by_cases hD : r.length < k + 10
    · have hD' : ((r.length - k : Nat) : Int) < 10 := by omega
      generalize r.length - k = rem at wD hD'
      rcases hz with z1 | ⟨z1, z2⟩
      · refine Wp.seq (Wp.regionE ?_)
        repeat (refine OpsTo.step (by simp [Tryz.ntmps6, h0, h5, h6, h7, hA', hB', w0, hx0, z1, wD, hD']; rfl) ?_)
        refine OpsTo.nil (Wp.condT (by simp) (Wp.seq (Wp.region (by simp [Tryz.ntmps6, e0]; rfl) ?_)))
        refine Wp.ret (.inl ⟨rfl, (bad k 10 hst (ans10 (.inr (.inr (.inr (.inl hD))))) _ ?_ ?_ ?_).2⟩) <;> simp
      · refine Wp.seq (Wp.regionE ?_)
        repeat (refine OpsTo.step (by simp [Tryz.ntmps6, h0, h5, h6, h7, hA', hB', w0, hx0, z1, z2, wD, hD']; rfl) ?_)
        refine OpsTo.nil (Wp.condT (by simp) (Wp.seq (Wp.region (by simp [Tryz.ntmps6, e0]; rfl) ?_)))
        refine Wp.ret (.inl ⟨rfl, (bad k 10 hst (ans10 (.inr (.inr (.inr (.inl hD))))) _ ?_ ?_ ?_).2⟩) <;> simp
    have hD' : ¬ ((r.length - k : Nat) : Int) < 10 := by omega
    have hb1 := List.getElem?_eq_getElem (show k < r.length by omega)
    have hb2 := List.getElem?_eq_getElem (show k + 9 < r.length by omega)
    generalize r[k] = b1 at hb1
    generalize r[k + 9] = b2 at hb2
    have hx1 : aindex Tryz.prog 9 (.str (B l)) (.int .i64 (p : Int)) = some (.int .u8 b1.toNat) := aindex_str und_string (by rw [B_list]; exact hgk.trans hb1)
    have hx9 : aindex Tryz.prog 9 (.str (B l)) (.int .i64 (p9 : Int)) = some (.int .u8 b2.toNat) := aindex_str und_string (by rw [B_list]; exact hg9.trans hb2)
    have hu : ∀ (b : UInt8) (c : UInt8), ((b.toNat : Int) != (c.toNat : Int)) = decide (b ≠ c) := fun b c => by
      rw [Bool.eq_iff_iff, bne_iff_ne, decide_eq_true_iff]
      constructor
      · intro h e; exact h (by rw [e])
      · intro h e; exact h (UInt8.toNat_inj.1 (by omega))
    have hu1 := hu b1 32
    have hu2 := hu b2 10
    simp only [show (32 : UInt8).toNat = 32 from rfl, show (10 : UInt8).toNat = 10 from rfl] at hu1 hu2
    have hL : k + 10 ≤ r.length := by omega
    generalize r.length - k = rem at wD hD'
    by_cases hE : b1 = 32
    rotate_left
    · have hE' : ((b1.toNat : Int) != 32) = true := by rw [show ((32 : Int)) = ((32 : Nat) : Int) from rfl, hu1]; simp [hE]
      rcases hz with z1 | ⟨z1, z2⟩
      · refine Wp.seq (Wp.regionE ?_)
        repeat (refine OpsTo.step (by simp [Tryz.ntmps6, h0, h5, h6, h7, hA', hB', w0, hx0, z1, wD, hD', hx1, hE']; rfl) ?_)
        refine OpsTo.nil (Wp.condT (by simp) (Wp.seq (Wp.region (by simp [Tryz.ntmps6, e0]; rfl) ?_)))
        refine Wp.ret (.inl ⟨rfl, (bad k 10 hst (ans10 (.inr (.inr (.inr (.inr (.inl (by rw [hb1]; simp [hE]))))))) _ ?_ ?_ ?_).2⟩) <;> simp
      · refine Wp.seq (Wp.regionE ?_)
        repeat (refine OpsTo.step (by simp [Tryz.ntmps6, h0, h5, h6, h7, hA', hB', w0, hx0, z1, z2, wD, hD', hx1, hE']; rfl) ?_)
        refine OpsTo.nil (Wp.condT (by simp) (Wp.seq (Wp.region (by simp [Tryz.ntmps6, e0]; rfl) ?_)))
        refine Wp.ret (.inl ⟨rfl, (bad k 10 hst (ans10 (.inr (.inr (.inr (.inr (.inl (by rw [hb1]; simp [hE]))))))) _ ?_ ?_ ?_).2⟩) <;> simp
    have hE' : ((b1.toNat : Int) != 32) = false := by rw [show ((32 : Int)) = ((32 : Nat) : Int) from rfl, hu1]; simp [hE]
    by_cases hF : b2 = 10
    rotate_left
    · have hF' : ((b2.toNat : Int) != 10) = true := by rw [show ((10 : Int)) = ((10 : Nat) : Int) from rfl, hu2]; simp [hF]
      rcases hz with z1 | ⟨z1, z2⟩
      · refine Wp.seq (Wp.regionE ?_)
        repeat (refine OpsTo.step (by simp [Tryz.ntmps6, h0, h5, h6, h7, hA', hB', w0, hx0, z1, wD, hD', hx1, hE', w9, hx9, hF']; rfl) ?_)
        refine OpsTo.nil (Wp.condT (by simp) (Wp.seq (Wp.region (by simp [Tryz.ntmps6, e0]; rfl) ?_)))
        refine Wp.ret (.inl ⟨rfl, (bad k 10 hst (ans10 (.inr (.inr (.inr (.inr (.inr (.inl (by rw [hb2]; simp [hF])))))))) _ ?_ ?_ ?_).2⟩) <;> simp
      · refine Wp.seq (Wp.regionE ?_)
        repeat (refine OpsTo.step (by simp [Tryz.ntmps6, h0, h5, h6, h7, hA', hB', w0, hx0, z1, z2, wD, hD', hx1, hE', w9, hx9, hF']; rfl) ?_)
        refine OpsTo.nil (Wp.condT (by simp) (Wp.seq (Wp.region (by simp [Tryz.ntmps6, e0]; rfl) ?_)))
        refine Wp.ret (.inl ⟨rfl, (bad k 10 hst (ans10 (.inr (.inr (.inr (.inr (.inr (.inl (by rw [hb2]; simp [hF])))))))) _ ?_ ?_ ?_).2⟩) <;> simp
    have hF' : ((b2.toNat : Int) != 10) = false := by rw [show ((10 : Int)) = ((10 : Nat) : Int) from rfl, hu2]; simp [hF]
    rcases hz with z1 | ⟨z1, z2⟩
    · refine Wp.seq (Wp.regionE ?_)
      repeat (refine OpsTo.step (by simp [Tryz.ntmps6, h0, h5, h6, h7, hA', hB', w0, hx0, z1, wD, hD', hx1, hE', w9, hx9, hF']; rfl) ?_)
      refine OpsTo.nil (Wp.condF (by simp) (Wp.skip (.inr ⟨rfl, hL, by rw [hb1, hE], by rw [hb2, hF], rfl, ?_, ?_, ?_⟩))) <;> simp [h0, h5, h6]
    · refine Wp.seq (Wp.regionE ?_)
      repeat (refine OpsTo.step (by simp [Tryz.ntmps6, h0, h5, h6, h7, hA', hB', w0, hx0, z1, z2, wD, hD', hx1, hE', w9, hx9, hF']; rfl) ?_)
      refine OpsTo.nil (Wp.condF (by simp) (Wp.skip (.inr ⟨rfl, hL, by rw [hb1, hE], by rw [hb2, hF], rfl, ?_, ?_, ?_⟩))) <;> simp [h0, h5, h6]
  rintro x s' (⟨rfl, hbad⟩ | ⟨rfl, hL, hsp, hnl, hh, h0, h5, h6⟩)
  · exact ⟨.inr rfl, hbad⟩
  obtain ⟨e, lo, h⟩ := s'
  simp only at hh h0 h5 h6
  subst hh
  show Wp _ _ _ _ _ _
  have hsl : ∀ H, aslice Tryz.prog H 9 (.str (B l)) (some (.int .i64 (p1 : Int))) (some (.int .i64 (p9 : Int))) none = some (.str (B (smOf r k))) := fun H => by
    rw [aslice_str und_string (bnd_nat _ _ _) (bnd_nat _ _ _) (by omega) (by omega), hd1]
    unfold smOf
    rw [show p9 - p1 = 8 by omega]
  have hsml : (smOf r k).length = 8 := by unfold smOf; simp; omega
  have hgood : (smOf r k).all isFig = true → ¬ RBad r k := by
    intro hall hb
    rcases hb with h | h | ⟨h1, h2⟩ | h | h | h | h
    · omega
    · omega
    · rcases hz with z1 | ⟨z1, z2⟩
      · rw [hb0] at h1; cases h1; cases z1
      · omega
    · omega
    · exact h hsp
    · exact h hnl
    · rw [hall] at h; cases h
  refine Wp.seq (Wp.regionE ?_)
  repeat (refine OpsTo.step (by simp [Tryz.ntmps6, h0, h5, h6, w1, w9, hsl]; rfl) ?_)
  refine OpsTo.nil (Wp.seq (Wp.seq (Wp.region (by simp [Tryz.ntmps6]; rfl) ?_)))
  have hRsm : (smOf r k).all isFig = false → RBad r k := fun h => .inr (.inr (.inr (.inr (.inr (.inr h)))))
  generalize hsm : smOf r k = sm at *
  refine Wp.mono (Q := fun x s' => (x = .ret ∧ (∃ vs, resA cfg.P s' Tryz.f6.results.toList = some vs ∧ ∃ k, Stop r k ∧ oneOf vs = .tup (resOf (ansR r k)))) ∨ (x = .normal ∧ sm.all isFig = true ∧ s'.h = Hp.empty ∧ s'.e 0 = .str (B l) ∧ s'.e 5 = .int .i64 (p : Int) ∧ s'.e 6 = .int .i64 (decV (r.take k)) ∧ s'.e 8 = .str (B sm))) (Wp.block (Wp.loopI (fun n s1 => ∃ j, j + n = 8 ∧ (sm.take j).all isFig = true ∧ s1.h = Hp.empty ∧ s1.e 0 = .str (B l) ∧ s1.e 5 = .int .i64 (p : Int) ∧ s1.e 6 = .int .i64 (decV (r.take k)) ∧ s1.e 8 = .str (B sm) ∧ s1.e 9 = .int .i64 (j : Int)) (fun n s1 hI => ?_) (n := 8) ?_)) ?_
  · obtain ⟨j, hjn, hall, hh, h0, h5, h6, h8, h9⟩ := hI
    obtain ⟨e, lo, h⟩ := s1
    simp only at hh h0 h5 h6 h8 h9
    subst hh
    by_cases hj : j < 8
    · have hj' : (j : Int) < 8 := by omega
      have hb := List.getElem?_eq_getElem (show j < sm.length by omega)
      generalize sm[j] = b at hb
      have hx : aindex Tryz.prog 9 (.str (B sm)) (.int .i64 (j : Int)) = some (.int .u8 b.toNat) := aindex_str und_string (by rw [B_list]; exact hb)
      have hfg := isFig_iff b
      have wj : IntKind.i64.wrap ((j : Int) + 1) = ((j + 1 : Nat) : Int) := by rw [wrap_i64 (by omega) (by omega)]; omega
      refine Wp.seq (Wp.seq (Wp.regionE ?_))
      repeat (refine OpsTo.step (by simp [Tryz.ntmps6, h9, hj']; rfl) ?_)
      refine OpsTo.nil (Wp.condT (by simp) (Wp.skip ?_))
      cases hf : isFig b with
      | true =>
        have hal2 : (sm.take (j + 1)).all isFig = true := by rw [List.take_add_one, hb, List.all_append, hall]; simp [hf]
        rw [hf] at hfg
        refine Wp.seq (Wp.mono (Q := fun x s' => x = .normal ∧ s'.h = Hp.empty ∧ s'.e 0 = .str (B l) ∧ s'.e 5 = .int .i64 (p : Int) ∧ s'.e 6 = .int .i64 (decV (r.take k)) ∧ s'.e 8 = .str (B sm) ∧ s'.e 9 = .int .i64 (j : Int)) (Wp.block (Wp.seq (Wp.regionE ?_))) ?_)
        · by_cases c1 : (48 : Int) ≤ (b.toNat : Int)
          · by_cases c2 : (b.toNat : Int) ≤ 57
            · repeat (refine OpsTo.step (by simp [Tryz.ntmps6, h8, h9, hx, c1, c2, aun]; rfl) ?_)
              refine OpsTo.nil (Wp.condF (by simp) (Wp.skip ⟨rfl, rfl, ?_, ?_, ?_, ?_, ?_⟩)) <;> simp [h0, h5, h6, h8, h9]
            · by_cases c3 : (97 : Int) ≤ (b.toNat : Int)
              · by_cases c4 : (b.toNat : Int) ≤ 102
                · repeat (refine OpsTo.step (by simp [Tryz.ntmps6, h8, h9, hx, c1, c2, c3, c4, aun]; rfl) ?_)
                  refine OpsTo.nil (Wp.condF (by simp) (Wp.skip ⟨rfl, rfl, ?_, ?_, ?_, ?_, ?_⟩)) <;> simp [h0, h5, h6, h8, h9]
                · simp [c1, c2, c3, c4] at hfg
              · simp [c1, c2, c3] at hfg
          · have c3 : ¬ (97 : Int) ≤ (b.toNat : Int) := by omega
            simp [c1, c3] at hfg
        · rintro x s' ⟨rfl, hh, h0, h5, h6, h8, h9⟩
          obtain ⟨e, lo, h⟩ := s'
          simp only at hh h0 h5 h6 h8 h9
          subst hh
          show Wp _ _ _ _ _ _
          refine Wp.regionE ?_
          repeat (refine OpsTo.step (by simp [Tryz.ntmps6, h9, wj]; rfl) ?_)
          refine OpsTo.nil ⟨n - 1, by omega, j + 1, by omega, hal2, rfl, ?_, ?_, ?_, ?_, ?_⟩ <;> simp [h0, h5, h6, h8, h9]
      | false =>
        have hno : sm.all isFig = false := by
          cases h : sm.all isFig with
          | false => rfl
          | true =>
            rw [List.all_eq_true] at h
            rw [h b (List.mem_of_getElem? hb)] at hf; cases hf
        rw [hf] at hfg
        refine Wp.seq (Wp.block (Wp.seq (Wp.regionE ?_)))
        by_cases c1 : (48 : Int) ≤ (b.toNat : Int)
        · by_cases c2 : (b.toNat : Int) ≤ 57
          · simp [c1, c2] at hfg
          · by_cases c3 : (97 : Int) ≤ (b.toNat : Int)
            · by_cases c4 : (b.toNat : Int) ≤ 102
              · simp [c1, c2, c3, c4] at hfg
              · repeat (refine OpsTo.step (by simp [Tryz.ntmps6, h8, h9, hx, c1, c2, c3, c4, aun]; rfl) ?_)
                refine OpsTo.nil (Wp.condT (by simp) (Wp.seq (Wp.region (by simp [Tryz.ntmps6, e0]; rfl) ?_)))
                refine Wp.ret (.inl ⟨rfl, (bad k 10 hst (ans10 (hRsm hno)) _ ?_ ?_ ?_).2⟩) <;> simp
            · repeat (refine OpsTo.step (by simp [Tryz.ntmps6, h8, h9, hx, c1, c2, c3, aun]; rfl) ?_)
              refine OpsTo.nil (Wp.condT (by simp) (Wp.seq (Wp.region (by simp [Tryz.ntmps6, e0]; rfl) ?_)))
              refine Wp.ret (.inl ⟨rfl, (bad k 10 hst (ans10 (hRsm hno)) _ ?_ ?_ ?_).2⟩) <;> simp
        · have c3 : ¬ (97 : Int) ≤ (b.toNat : Int) := by omega
          repeat (refine OpsTo.step (by simp [Tryz.ntmps6, h8, h9, hx, c1, c3, aun]; rfl) ?_)
          refine OpsTo.nil (Wp.condT (by simp) (Wp.seq (Wp.region (by simp [Tryz.ntmps6, e0]; rfl) ?_)))
          refine Wp.ret (.inl ⟨rfl, (bad k 10 hst (ans10 (hRsm hno)) _ ?_ ?_ ?_).2⟩) <;> simp
    · have hj' : ¬ (j : Int) < 8 := by omega
      refine Wp.seq (Wp.seq (Wp.regionE ?_))
      repeat (refine OpsTo.step (by simp [Tryz.ntmps6, h9, hj']; rfl) ?_)
      refine OpsTo.nil (Wp.condF (by simp) (Wp.exit (.inr ⟨rfl, ?_, rfl, ?_, ?_, ?_, ?_⟩)))
      · rwa [List.take_of_length_le (by omega)] at hall
      all_goals simp [h0, h5, h6, h8]
  · exact ⟨0, rfl, rfl, rfl, by simp [h0], by simp [h5], by simp [h6], by simp, by simp⟩
  rintro x s' (⟨rfl, hbad⟩ | ⟨rfl, hall, hh, h0, h5, h6, h8⟩)
  · exact ⟨.inr rfl, hbad⟩
  obtain ⟨e, lo, h⟩ := s'
  simp only at hh h0 h5 h6 h8
  subst hh
  have hnb := hgood hall
  have hsl10 : ∀ H, aslice Tryz.prog H 9 (.str (B l)) (some (.int .i64 (p10 : Int))) none none = some (.str (B (r.drop (k + 10)))) := fun H => by
    rw [aslice_str und_string (bnd_nat _ _ _) (bnd_none _) (by omega) (by omega), hd10]
    congr 3
    rw [List.take_of_length_le]; simp; omega
  show Wp _ _ _ _ _ _
  refine Wp.seq (Wp.regionE ?_)
  repeat (refine OpsTo.step (by simp [Tryz.ntmps6, h0, h5, h6, h8, w10, hsl10]; rfl) ?_)
  refine OpsTo.nil (Wp.seq (Wp.seq (Wp.regionE ?_)))
  have hans : ansR r k = (if (r.drop (k + 10)).length < decV (r.take k) then ([], [], 11) else if sumS ((r.drop (k + 10)).take (decV (r.take k))) ≠ smOf r k then ([], [], 51) else ((r.drop (k + 10)).take (decV (r.take k)), (r.drop (k + 10)).drop (decV (r.take k)), 0)) := by
    unfold ansR; rw [if_neg hnb]
  rw [hsm] at hans
  have hrl : (r.drop (k + 10)).length ≤ r.length := by simp
  generalize r.drop (k + 10) = rest at *
  generalize decV (r.take k) = n at *
  by_cases hn : rest.length < n
  · rw [if_pos hn] at hans
    repeat (refine OpsTo.step (by simp [Tryz.ntmps6, h0, h5, h6, h8, hn]; rfl) ?_)
    refine OpsTo.nil (Wp.condT (by simp) (Wp.seq (Wp.region (by simp [Tryz.ntmps6, e0]; rfl) ?_)))
    refine Wp.ret (bad k 11 hst hans _ ?_ ?_ ?_) <;> simp
  rw [if_neg hn] at hans
  repeat (refine OpsTo.step (by simp [Tryz.ntmps6, h0, h5, h6, h8, hn]; rfl) ?_)
  have hsl1 : ∀ H, aslice Tryz.prog H 9 (.str (B rest)) none (some (.int .i64 (n : Int))) none = some (.str (B (rest.take n))) := fun H => by
    rw [aslice_str und_string (bnd_none _) (bnd_nat _ _ _) (by omega) (by omega)]; simp
  have hsl2 : ∀ H, aslice Tryz.prog H 9 (.str (B rest)) (some (.int .i64 (n : Int))) none none = some (.str (B (rest.drop n))) := fun H => by
    rw [aslice_str und_string (bnd_nat _ _ _) (bnd_none _) (by omega) (by omega)]
    congr 3
    rw [List.take_of_length_le]; simp
  have hsum := fun H => refSum_ca false H (rest.take n) (by simp; omega)
  refine OpsTo.nil (Wp.condF (by simp) (Wp.skip ?_))
  refine Wp.seq (Wp.seq (Wp.regionE ?_))
  by_cases hq : sumS (rest.take n) = sm
  · rw [if_neg (by simp [hq])] at hans
    repeat (refine OpsTo.step (by simp [Tryz.ntmps6, h0, h5, h6, h8, hsl1, hsum, hq]; rfl) ?_)
    refine OpsTo.nil (Wp.condF (by simp) (Wp.skip ?_))
    refine Wp.seq (Wp.drawE (by kernel_rfl) (by kernel_rfl) (by kernel_rfl) ?_)
    repeat (refine PreTo.step rfl (by simp [Tryz.ntmps6, h0, h5, h6, h8, hsl1, hsl2]; rfl) ?_)
    refine PreTo.nil ?_
    refine Wp.ret ⟨.inr rfl, resOf (ansR r k), ?_, k, hst, rfl⟩
    rw [hans]
    simp [resA, noLoc, AV.isLoc, Tryz.f6, resOf]
  · rw [if_pos hq] at hans
    have hq' : (sumS (rest.take n) == sm) = false := by rw [beq_dec]; simp [hq]
    repeat (refine OpsTo.step (by simp [Tryz.ntmps6, h0, h5, h6, h8, hsl1, hsum, hq, hq']; rfl) ?_)
    refine OpsTo.nil (Wp.condT (by simp) (Wp.seq (Wp.region (by simp [Tryz.ntmps6, e0]; rfl) ?_)))
    refine Wp.ret (bad k 51 hst hans _ ?_ ?_ ?_) <;> simp
end Go.Proofs.YtmdggnehhebkhaaGreatDoor
