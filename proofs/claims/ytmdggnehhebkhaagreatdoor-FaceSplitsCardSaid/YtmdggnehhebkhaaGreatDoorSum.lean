/- The two sums (face.Sum and the document's) come to one function of the bytes. -/
import Derived.Test.YtmdggnehhebkhaaGreatDoorEv
set_option linter.unusedVariables false
set_option linter.unusedSimpArgs false
set_option maxRecDepth 100000
namespace Go.Proofs.YtmdggnehhebkhaaGreatDoor
open Go Go.Am

def stepN (n : Nat) (c : UInt8) : Nat := (n * 31 + c.toNat) % 4294967291
def sumN (l : List UInt8) : Nat := l.foldl stepN 1
def figs : List UInt8 := [48, 49, 50, 51, 52, 53, 54, 55, 56, 57, 97, 98, 99, 100, 101, 102]
def figAt (n : Nat) : UInt8 := figs.getD (n % 16) 0
/-- The last k figures of a number. -/
def figsOf : Nat → Nat → List UInt8
  | 0, _ => []
  | k + 1, n => figsOf k (n / 16) ++ [figAt n]
def sumS (l : List UInt8) : List UInt8 := figsOf 8 (sumN l)

theorem stepN_lt (n : Nat) (c : UInt8) : stepN n c < 4294967291 := Nat.mod_lt _ (by decide)
theorem sumN_lt (l : List UInt8) : sumN l < 4294967291 := by
  unfold sumN
  have : ∀ (l : List UInt8) (n : Nat), n < 4294967291 → l.foldl stepN n < 4294967291 := by
    intro l
    induction l with
    | nil => intro n h; exact h
    | cons c l ih => intro n h; exact ih _ (stepN_lt n c)
  exact this l 1 (by decide)
theorem sumN_take {l : List UInt8} {i : Nat} {b : UInt8} (h : l[i]? = some b) : sumN (l.take (i + 1)) = stepN (sumN (l.take i)) b := by
  unfold sumN
  rw [List.take_add_one, h, List.foldl_append]
  rfl
theorem figAt_get (n : Nat) : figs[n % 16]? = some (figAt n) := by
  have : n % 16 < 16 := Nat.mod_lt _ (by decide)
  unfold figAt
  rw [List.getD_eq_getElem?_getD]
  cases h : figs[n % 16]? with
  | none => rw [List.getElem?_eq_none_iff] at h; simp [figs] at h; omega
  | some b => rfl
theorem figsOf_length (k n : Nat) : (figsOf k n).length = k := by
  induction k generalizing n with
  | zero => rfl
  | succ k ih => simp [figsOf, ih]
theorem sumS_length (l : List UInt8) : (sumS l).length = 8 := figsOf_length 8 _

theorem figs_B : (⟨#[48, 49, 50, 51, 52, 53, 54, 55, 56, 57, 97, 98, 99, 100, 101, 102]⟩ : ByteArray) = B figs := rfl

theorem div16 (n i : Nat) : n / 16 ^ i / 16 = n / 16 ^ (i + 1) := by rw [Nat.div_div_eq_div_mul, Nat.pow_succ]
theorem figsOf_succ (i n : Nat) : figAt (n / 16 ^ i) :: figsOf i n = figsOf (i + 1) n := by
  induction i generalizing n with
  | zero => simp [figsOf]
  | succ i ih =>
    have := ih (n / 16)
    rw [Nat.div_div_eq_div_mul, ← Nat.pow_succ'] at this
    show figAt (n / 16 ^ (i + 1)) :: (figsOf i (n / 16) ++ [figAt n]) = figsOf (i + 1) (n / 16) ++ [figAt n]
    rw [← this]; rfl

/-- The document's sum. -/
theorem refSum_body (l : List UInt8) (hl : l.length < 4611686018427387904) : evBody cfg (top cfg) 8 [.str (B l)] Hp.empty = some (.str (B (sumS l)), Hp.empty) := by
  refine body_of Tryz.func8 rfl ?_
  refine Wp.seq (Wp.region (by simp [Tryz.ntmps8]; rfl) ?_)
  refine Wp.seq (Wp.region (by simp [Tryz.ntmps8]; rfl) ?_)
  refine Wp.seq (Wp.seq (Wp.region (by simp [Tryz.ntmps8]; rfl) ?_))
  refine Wp.block (Wp.loopI (fun n s1 => ∃ i, i + n = l.length ∧ s1.h = Hp.empty ∧ s1.e 0 = .str (B l) ∧ s1.e 3 = .int .i64 (sumN (l.take i)) ∧ s1.e 4 = .int .i64 i) (fun n s1 hI => ?_) (n := l.length) ?_)
  · obtain ⟨i, hi, hh, h0, h3, h4⟩ := hI
    obtain ⟨e, lo, h⟩ := s1
    simp only at hh h0 h3 h4
    subst hh
    refine Wp.seq (Wp.seq (Wp.region (by simp [Tryz.ntmps8, h0, h3, h4]; rfl) ?_))
    refine Wp.cond (by simp; rfl) ?_
    by_cases hlt : i < l.length
    · rw [if_pos (by simpa using hlt)]
      refine Wp.skip ?_
      have hb := List.getElem?_eq_getElem hlt
      generalize l[i] = b at hb
      have hb' : (B l).data.toList[i]? = some b := by simpa using hb
      have ei : aindex Tryz.prog 9 (.str (B l)) (.int .i64 (i : Int)) = some (.int .u8 b.toNat) := aindex_str und_string hb'
      have hs := sumN_lt (l.take i)
      have hc : b.toNat < 256 := b.toNat_lt
      have e1 : IntKind.i64.wrap ((sumN (l.take i) : Int) * 31) = (sumN (l.take i) : Int) * 31 := wrap_i64 (by omega) (by omega)
      have e2 : IntKind.i64.wrap (b.toNat : Int) = b.toNat := wrap_i64 (by omega) (by omega)
      have e3 : IntKind.i64.wrap ((sumN (l.take i) : Int) * 31 + b.toNat) = (sumN (l.take i) : Int) * 31 + b.toNat := wrap_i64 (by omega) (by omega)
      have e4 : ((sumN (l.take i) : Int) * 31 + b.toNat).tmod 4294967291 = (stepN (sumN (l.take i)) b : Nat) := by
        rw [Int.tmod_eq_emod_of_nonneg (by omega)]; unfold stepN; omega
      have e5 : IntKind.i64.wrap ((i : Int) + 1) = ((i + 1 : Nat) : Int) := by rw [wrap_i64 (by omega) (by omega)]; omega
      refine Wp.seq (Wp.block (Wp.region (by simp [Tryz.ntmps8, h0, h3, h4, ei, e1, e2, e3, e4]; rfl) ?_))
      refine Wp.region (by simp [Tryz.ntmps8, h0, h3, h4, e5]; rfl) ?_
      refine ⟨n - 1, by omega, i + 1, by omega, rfl, ?_, ?_, ?_⟩
      · simp [h0]
      · simp [sumN_take hb]
      · simp
    · rw [if_neg (by simpa using hlt)]
      refine Wp.exit ?_
      have : i = l.length := by omega
      subst this
      rw [List.take_length] at h3
      show Wp _ _ _ _ _ _
      refine Wp.seq (Wp.region (by simp [Tryz.ntmps8]; rfl) ?_)
      refine Wp.seq (Wp.seq (Wp.region (by simp [Tryz.ntmps8]; rfl) ?_))
      refine Wp.block (Wp.loopI (fun n s1 => ∃ i, i + n = 8 ∧ s1.h = Hp.empty ∧ s1.e 3 = .int .i64 (sumN l / 16 ^ i : Nat) ∧ s1.e 5 = .str (B (figsOf i (sumN l))) ∧ s1.e 6 = .int .i64 i) (fun n s1 hI => ?_) (n := 8) ?_)
      · obtain ⟨i, hi, hh, h3, h5, h6⟩ := hI
        obtain ⟨e, lo, h⟩ := s1
        simp only at hh h3 h5 h6
        subst hh
        refine Wp.seq (Wp.seq (Wp.region (by simp [Tryz.ntmps8, h3, h5, h6]; rfl) ?_))
        refine Wp.cond (by simp; rfl) ?_
        have hd := figAt_get (sumN l / 16 ^ i)
        have hlt16 : sumN l / 16 ^ i % 16 < 16 := Nat.mod_lt _ (by decide)
        have hN : sumN l / 16 ^ i < 4294967291 := Nat.lt_of_le_of_lt (Nat.div_le_self _ _) (sumN_lt l)
        have hfg := figsOf_succ i (sumN l)
        have hdv := div16 (sumN l) i
        generalize sumN l / 16 ^ i = V at h3 hd hlt16 hN hfg hdv
        generalize figAt V = fg at hd hfg
        by_cases hlt : i < 8
        · rw [if_pos (by simp; omega)]
          refine Wp.skip ?_
          have e1 : (V : Int).tmod 16 = ((V % 16 : Nat) : Int) := by rw [Int.tmod_eq_emod_of_nonneg (by omega)]; omega
          have e2 : IntKind.i64.wrap (((V % 16 : Nat) : Int) + 1) = ((V % 16 + 1 : Nat) : Int) := by rw [wrap_i64 (by omega) (by omega)]; omega
          have e3 : IntKind.i64.wrap ((V : Int) / 16) = ((V / 16 : Nat) : Int) := by
            rw [wrap_i64 (by omega) (by omega)]; omega
          have e4 : IntKind.i64.wrap ((i : Int) + 1) = ((i + 1 : Nat) : Int) := by rw [wrap_i64 (by omega) (by omega)]; omega
          generalize hM : V % 16 = M at hd hlt16 e1 e2
          generalize hV' : V / 16 = V' at hdv e3
          generalize hM1 : M + 1 = M1 at e2
          have es : aslice Tryz.prog Hp.empty 9 (.str (B figs)) (some (.int .i64 (M : Int))) (some (.int .i64 (M1 : Int))) none = some (.str (B [fg])) := by
            rw [aslice_str und_string (bnd_nat _ _ _) (bnd_nat _ _ _) (by omega) (by simp [figs]; omega)]
            congr 3
            rw [show M1 - M = 1 by omega]
            rw [List.take_one, List.head?_drop, hd]; rfl
          refine Wp.seq (Wp.block (Wp.seq (Wp.region (by simp [Tryz.ntmps8, h3, h5, h6, figs_B, e1, e2, es, astr, figsOf_length, (show 1 + i ≤ 9223372036854775807 by omega)]; rfl) ?_)))
          refine Wp.region (by simp [Tryz.ntmps8, h3, h5, h6, e3]; rfl) ?_
          refine Wp.region (by simp [Tryz.ntmps8, h3, h5, h6, e4]; rfl) ?_
          refine ⟨n - 1, by omega, i + 1, by omega, rfl, ?_, ?_, ?_⟩
          · rw [← hdv]; simp
          · simp [hfg]
          · simp
        · rw [if_neg (by simp; omega)]
          refine Wp.exit ?_
          have : i = 8 := by omega
          subst this
          refine Wp.seq (Wp.region (by simp [Tryz.ntmps8, h5]; rfl) ?_)
          refine Wp.ret ⟨.inr rfl, rfl, [.str (B (figsOf 8 (sumN l)))], ?_, rfl⟩
          simp [resA, noLoc, AV.isLoc, Tryz.f8]
      · exact ⟨0, rfl, rfl, by simp [h3], by simp [figsOf, B], by simp⟩
  · exact ⟨0, by simp, rfl, by simp [argE], by simp [sumN], by simp⟩
end Go.Proofs.YtmdggnehhebkhaaGreatDoor
