/- face.Sum comes to the document's sum. -/
import Derived.Test.YtmdggnehhebkhaaGreatDoorSum
set_option linter.unusedVariables false
set_option linter.unusedSimpArgs false
set_option maxRecDepth 100000
namespace Go.Proofs.YtmdggnehhebkhaaGreatDoor
open Go Go.Am

theorem body_of' {C : Cfg} {f : FuncId} {args : List AV} {H : Hp} {v : AV} {F : Func} {c : Code} (hf : C.P.funcs[f]? = some F) (hb : F.body = some c)
    (h : Wp C f F.ntmps c ⟨argE args, fun _ => none, H⟩ fun x s => (x = .normal ∨ x = .ret) ∧ ∃ vs, resA C.P s F.results.toList = some vs ∧ oneOf vs = v) : ∃ Hc, evBody C (top C) f args H = some (v, Hc) := by
  obtain ⟨x, s, h1, h2, vs, h4, h5⟩ := h
  refine ⟨s.h, ?_⟩
  unfold evBody
  simp only [hf, hb, h1]
  rcases h2 with rfl | rfl <;> simp only [h4, h5]

def cell8 (b : UInt8) : AV := .int .u8 b.toNat
def H1 (l : List UInt8) : Hp := Hp.empty.new none (l.map cell8)
theorem u8s_B (l : List UInt8) : u8s (B l) = l.map cell8 := by simp [u8s, cell8]
theorem ld_byte {P : Program} {lo : Lo} {H : Hp} {t : TypeId} {o ver off : Nat} {b : Ob} {c : AV} (ha : aggT P t = some false) (hb : H.ob o = some b) (hv : b.ver = ver) (hc : b.cells[off]? = some c) : aload P lo H t (.ptr o ver off) = some c := by
  have hlt : off < b.cells.length := (List.getElem?_eq_some_iff.1 hc).1
  have : cut b.cells off 1 = [c] := by
    unfold cut
    rw [List.take_one, List.head?_drop, hc]; rfl
  simp [aload, ha, rdA, hb, hv, this, show off + 1 ≤ b.cells.length by omega]
theorem ia_vec {P : Program} {lo : Lo} {H : Hp} {t e : TypeId} {o ver off n i : Nat} {k : IntKind} {b : Ob} (ht : P.underlying t = some (.slice e)) (hs : szT P e = some 1) (hb : H.ob o = some b) (hv : b.ver = ver) (hi : i < n) :
    aindexAddr P lo H t (.vec o ver off n 1) (.int k (i : Int)) = some (.ptr o ver (off + i)) := by
  simp [aindexAddr, okA, ht, hs, hb, hv, hi]
theorem st_byte {P : Program} {lo : Lo} {H : Hp} {t : TypeId} {o ver off : Nat} {b : Ob} {k : IntKind} {n : Int} (hs : szT P t = some 1) (hb : H.ob o = some b) (hv : b.ver = ver) (hf : b.fz ≤ off) (hlt : off < b.cells.length) :
    astore P lo H t (.ptr o ver off) (.int k n) = some (lo, H.upd o ⟨splice b.cells off [.int k n], b.ver, b.fz, b.ty⟩) := by
  simp [astore, acells, hs, wrA, hb, hv, hf, show off + 1 ≤ b.cells.length by omega]
theorem nums_cells (l : List UInt8) : numsOfA (l.map cell8) = some (l.map fun b => (b.toNat : Int)) := by
  induction l with
  | nil => rfl
  | cons b l ih => simp [numsOfA, cell8] at ih ⊢; rw [ih]
theorem str_nums (l : List UInt8) : strOfNums (l.map fun b => (b.toNat : Int)) = B l := by
  unfold strOfNums B
  congr 2
  rw [List.map_map]
  conv => rhs; rw [← List.map_id l]
  apply List.map_congr_left
  intro b _
  simp
/-- The cells of the figures' row when k of them stand. -/
def outC (k n : Nat) : List AV := List.replicate (8 - k) (.int .u8 0) ++ (figsOf k n).map cell8
theorem outC_length (k n : Nat) (h : k ≤ 8) : (outC k n).length = 8 := by simp [outC, figsOf_length]; omega
theorem outC_set (k n : Nat) (h : k < 8) : splice (outC k n) (7 - k) [cell8 (figAt (n / 16 ^ k))] = outC (k + 1) n := by
  unfold splice outC
  rw [← figsOf_succ]
  have e : 8 - k = (7 - k) + 1 := by omega
  rw [e, List.replicate_succ', List.append_assoc, List.take_append_of_le_length (by simp), List.take_of_length_le (by simp), show 8 - (k + 1) = 7 - k by omega]
  congr 1
  rw [List.drop_append]
  simp
theorem and15 (n : Nat) : (BitVec.ofNat 64 n &&& 15#64).toNat = n % 16 := by
  have h : (15#64).toNat = 2 ^ 4 - 1 := by decide
  rw [BitVec.toNat_and, h, Nat.and_two_pow_sub_one_eq_mod, BitVec.toNat_ofNat]
  omega

/-- face.Sum. -/
theorem faceSum_body (l : List UInt8) (hl : l.length < 4611686018427387904) : ∃ Hc, evBody cfg (top cfg) 7 [.str (B l)] Hp.empty = some (.str (B (sumS l)), Hc) := by
  refine body_of' Tryz.func7 rfl ?_
  refine Wp.seq (Wp.region (by simp [Tryz.ntmps7]; rfl) ?_)
  refine Wp.seq (Wp.region (by simp [Tryz.ntmps7]; rfl) ?_)
  have hcv : aconv false Tryz.prog Hp.empty 9 44 (.str (B l)) = some (.vec 0 0 0 l.length 1, H1 l) := by
    simp [aconv, u8s_B, H1]; rfl
  have hb0 : (H1 l).ob 0 = some ⟨l.map cell8, 0, 0, none⟩ := rfl
  have hln : alen Tryz.prog (H1 l) 44 (.vec 0 0 0 l.length 1) = some (.int .i64 l.length) := by
    simp [alen, okA, hb0]
  refine Wp.seq (Wp.seq (Wp.region (by simp [Tryz.ntmps7, argE, hcv, hln]; rfl) ?_))
  refine Wp.block (Wp.loopI (fun n s1 => ∃ i, i + n = l.length ∧ s1.h = H1 l ∧ s1.e 9 = .vec 0 0 0 l.length 1 ∧ s1.e 10 = .int .i64 l.length ∧ s1.e 3 = .int .u64 (sumN (l.take i)) ∧ s1.e 11 = .int .i64 i) (fun n s1 hI => ?_) (n := l.length) ?_)
  · obtain ⟨i, hi, hh, h9, h10, h3, h11⟩ := hI
    obtain ⟨e, lo, h⟩ := s1
    simp only at hh h9 h10 h3 h11
    subst hh
    refine Wp.seq (Wp.region (by simp [Tryz.ntmps7, h9, h10, h3, h11]; rfl) ?_)
    refine Wp.seq (Wp.cond (by simp; rfl) ?_)
    by_cases hlt : i < l.length
    · rw [if_pos (by simpa using hlt)]
      refine Wp.skip ?_
      have hb := List.getElem?_eq_getElem hlt
      generalize l[i] = b at hb
      have hia : ∀ lo, aindexAddr Tryz.prog lo (H1 l) 44 (.vec 0 0 0 l.length 1) (.int .i64 (i : Int)) = some (.ptr 0 0 (0 + i)) := fun lo => ia_vec und_bytes sz_u8 hb0 rfl hlt
      have hld : ∀ lo, aload Tryz.prog lo (H1 l) 5 (.ptr 0 0 (0 + i)) = some (.int .u8 b.toNat) := fun lo => ld_byte agg_u8 hb0 rfl (by simp [hb, cell8])
      have hs := sumN_lt (l.take i)
      have hc : b.toNat < 256 := b.toNat_lt
      have hw := sumN_take hb
      generalize sumN (l.take i) = V at h3 hs hw
      have e1 : IntKind.u64.wrap ((V : Int) * 31) = (V : Int) * 31 := wrap_u64 (by omega) (by omega)
      have e2 : IntKind.u64.wrap (b.toNat : Int) = b.toNat := wrap_u64 (by omega) (by omega)
      have e3 : IntKind.u64.wrap ((V : Int) * 31 + b.toNat) = (V : Int) * 31 + b.toNat := wrap_u64 (by omega) (by omega)
      have e4 : ((V : Int) * 31 + b.toNat).tmod 4294967291 = (stepN V b : Nat) := by
        rw [Int.tmod_eq_emod_of_nonneg (by omega)]; unfold stepN; omega
      have e5 : IntKind.i64.wrap ((i : Int) + 1) = ((i + 1 : Nat) : Int) := by rw [wrap_i64 (by omega) (by omega)]; omega
      simp only [Nat.zero_add] at hia hld
      refine Wp.seq (Wp.block (Wp.seq (Wp.region (by simp [Tryz.ntmps7, h9, h10, h3, h11, hia, hld]; rfl) ?_)))
      refine Wp.region (by simp [Tryz.ntmps7, h9, h10, h3, h11, e1, e2, e3, e4]; rfl) ?_
      refine Wp.region (by simp [Tryz.ntmps7, h11, e5]; rfl) ?_
      refine ⟨n - 1, by omega, i + 1, by omega, rfl, ?_, ?_, ?_, ?_⟩
      · simp [h9]
      · simp [h10]
      · simp [hw]
      · simp
    · rw [if_neg (by simpa using hlt)]
      refine Wp.exit ?_
      have : i = l.length := by omega
      subst this
      rw [List.take_length] at h3
      have hmk : amakeSlice Tryz.prog (H1 l) 44 (.int .i64 8) (.int .i64 8) = some (.vec 1 1 0 8 1, (H1 l).new (some (5, false)) (outC 0 (sumN l))) := by
        have hi0 : (Tryz.prog.info? 5).map (fun i => (i.bytes, i.size)) = some (1, 1) := by kernel_rfl
        have hz : zeroT Tryz.prog 5 = some [.int .u8 0] := by kernel_rfl
        obtain ⟨i, hi, h12⟩ := Option.map_eq_some_iff.1 hi0
        obtain ⟨h1, h2⟩ := Prod.mk.inj h12
        simp [amakeSlice, hi, h1, h2, hz]
        exact ⟨rfl, rfl⟩
      refine Wp.seq (Wp.region (by simp [Tryz.ntmps7, hmk]; rfl) ?_)
      refine Wp.seq (Wp.seq (Wp.region (by simp [Tryz.ntmps7]; rfl) ?_))
      refine Wp.block (Wp.loopI (fun n s1 => ∃ k, k + n = 8 ∧ s1.h.ob 1 = some ⟨outC k (sumN l), 1, 0, some (5, false)⟩ ∧ s1.e 3 = .int .u64 (sumN l / 16 ^ k : Nat) ∧ s1.e 6 = .vec 1 1 0 8 1 ∧ s1.e 7 = .int .i64 (7 - k : Int)) (fun n s1 hI => ?_) (n := 8) ?_)
      · obtain ⟨k, hk, hh, h3, h6, h7⟩ := hI
        obtain ⟨e, lo, h⟩ := s1
        simp only at hh h3 h6 h7
        refine Wp.seq (Wp.seq (Wp.region (by simp [Tryz.ntmps7, h3, h6, h7]; rfl) ?_))
        refine Wp.cond (by simp; rfl) ?_
        have hd := figAt_get (sumN l / 16 ^ k)
        have hN : sumN l / 16 ^ k < 4294967291 := Nat.lt_of_le_of_lt (Nat.div_le_self _ _) (sumN_lt l)
        have hdv := div16 (sumN l) k
        by_cases hlt : k < 8
        · rw [if_pos (by simp; omega)]
          refine Wp.skip ?_
          have hset := outC_set k (sumN l) hlt
          generalize sumN l / 16 ^ k = V at h3 hd hN hdv hset
          generalize figAt V = fg at hd hset
          have e1 : aint .and .u64 (V : Int) 15 = some (.int .u64 ((V % 16 : Nat) : Int)) := by
            have : ((BitVec.ofInt IntKind.u64.bits (V : Int) &&& BitVec.ofInt IntKind.u64.bits 15).toNat : Int) = ((V % 16 : Nat) : Int) := congrArg _ (and15 V)
            unfold aint
            simp only [this]
            rw [wrap_u64 (by omega) (by omega)]
          have e2 : aindex Tryz.prog 9 (.str (B figs)) (.int .u64 ((V % 16 : Nat) : Int)) = some (.int .u8 fg.toNat) := aindex_str und_string (by rw [B_list]; exact hd)
          have e3 : ((V : Int)).fdiv 16 = ((V / 16 : Nat) : Int) := by
            rw [Int.fdiv_eq_ediv_of_nonneg _ (by omega)]; omega
          have e7 : (7 - (k : Int)) = ((7 - k : Nat) : Int) := by omega
          have hia : ∀ lo, aindexAddr Tryz.prog lo h 44 (.vec 1 1 0 8 1) (.int .i64 (7 - (k : Int))) = some (.ptr 1 1 (7 - k)) := fun lo => by
            rw [e7, ia_vec und_bytes sz_u8 hh rfl (by omega), Nat.zero_add]
          have hst : ∀ lo, astore Tryz.prog lo h 5 (.ptr 1 1 (7 - k)) (.int .u8 fg.toNat) = some (lo, h.upd 1 ⟨outC (k + 1) (sumN l), 1, 0, some (5, false)⟩) := fun lo => by
            rw [st_byte sz_u8 hh rfl (Nat.zero_le _) (by rw [outC_length _ _ (by omega)]; omega)]
            rw [← hset]; rfl
          have e4 : IntKind.i64.wrap ((7 - (k : Int)) - 1) = (7 - ((k + 1 : Nat) : Int)) := by rw [wrap_i64 (by omega) (by omega)]; omega
          generalize V % 16 = M at e1 e2
          generalize hV' : V / 16 = V' at hdv e3
          refine Wp.seq (Wp.block (Wp.seq (Wp.region (by simp [-aint, Tryz.ntmps7, h3, h6, h7, figs_B, e1, e2, hia, hst]; rfl) ?_)))
          refine Wp.region (by simp [Tryz.ntmps7, h3, h6, h7, IntKind.bits, e3]; rfl) ?_
          refine Wp.region (by simp [Tryz.ntmps7, h3, h6, h7, e4]; rfl) ?_
          refine ⟨n - 1, by omega, k + 1, by omega, ?_, ?_, ?_, ?_⟩
          · simp [Hp.upd]
          · rw [← hdv]; simp
          · simp [h6]
          · simp
        · rw [if_neg (by simp; omega)]
          refine Wp.exit ?_
          have : k = 8 := by omega
          subst this
          have hcs : outC 8 (sumN l) = (sumS l).map cell8 := by simp [outC, sumS]
          rw [hcs] at hh
          have hcv : aconv false Tryz.prog h 44 9 (.vec 1 1 0 8 1) = some (.str (B (sumS l)), h) := by
            have hcut : cut ((sumS l).map cell8) 0 8 = (sumS l).map cell8 := by
              unfold cut; rw [List.drop_zero, List.take_of_length_le]; simp [sumS_length]
            simp [aconv, content, hh, sumS_length, hcut, nums_cells, str_nums]
          refine Wp.seq (Wp.region (by simp [Tryz.ntmps7, h6, hcv]; rfl) ?_)
          refine Wp.ret ⟨.inr rfl, [.str (B (sumS l))], ?_, rfl⟩
          simp [resA, noLoc, AV.isLoc, Tryz.f7]
      · exact ⟨0, rfl, rfl, by simp [h3], by simp, by simp⟩
  · exact ⟨0, by simp, rfl, by simp, by simp, by simp [sumN], by simp⟩

end Go.Proofs.YtmdggnehhebkhaaGreatDoor
