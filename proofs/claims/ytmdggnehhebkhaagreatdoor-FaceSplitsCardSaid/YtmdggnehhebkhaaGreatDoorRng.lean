/- face.cutLeft and face.cutRight: their walks. -/
import Derived.Test.YtmdggnehhebkhaaGreatDoorOrc
import Derived.Laws.RangeAny
import Derived.Shelf.Unicode.DecodeLast
import Derived.Lib.TrimU
set_option linter.unusedVariables false
set_option linter.unusedSimpArgs false
set_option maxRecDepth 100000
set_option maxHeartbeats 2000000
namespace Go
/-- An iterator over a string, set to a place. -/
def World.setIter (w : World) (b : Nat) (s : ByteArray) (p : Nat) : World := { w with heap := w.heap.setIfInBounds b (.stringIter s p) }
theorem World.setIter_size (w : World) (b : Nat) (s : ByteArray) (p : Nat) : (w.setIter b s p).heap.size = w.heap.size := by simp [World.setIter]
theorem World.setIter_here (w : World) (b : Nat) (s : ByteArray) (p : Nat) (h : b < w.heap.size) : (w.setIter b s p).heap[b]? = some (.stringIter s p) := by
  simp [World.setIter, h]
theorem World.setIter_other (w : World) (b : Nat) (s : ByteArray) (p k : Nat) (h : k ≠ b) : (w.setIter b s p).heap[k]? = w.heap[k]? := by
  simp only [World.setIter]
  rw [Array.getElem?_setIfInBounds, if_neg (Ne.symm h)]
theorem World.iter_old (w : World) (s : ByteArray) (p k : Nat) (h : k < w.heap.size) : (w.iter s p).heap[k]? = w.heap[k]? := Go.RowKit.Below.heap_alloc w _ k h
theorem World.iter_size (w : World) (s : ByteArray) (p : Nat) : (w.iter s p).heap.size = w.heap.size + 1 := by simp [World.iter]
theorem World.iterPos_of (w : World) (b : Nat) (s : ByteArray) (p : Nat) (h : w.heap[b]? = some (.stringIter s p)) : w.iterPos b = p := by simp [World.iterPos, h]
theorem run_next_at {P : Program} (w : World) (b : Nat) (s : ByteArray) (pos : Nat) (ty : TypeId) (hb : w.heap[b]? = some (.stringIter s pos)) (h : pos < s.size) :
    (Instr.next (.pointer (some ⟨b, 0, none⟩)) true ty).run P w = .ok (.tuple #[.bool true, .int .i64 pos, .int .i32 (Utf8.decode s pos).1]) (w.setIter b s (pos + (Utf8.decode s pos).2)) := by
  simp [Instr.next, getObj, setObj, Sem.run_bind, Sem.run, hb, Result.andThen, h, goInt, World.setIter]
theorem run_next_out {P : Program} (w : World) (b : Nat) (s : ByteArray) (pos : Nat) (ty : TypeId) (hb : w.heap[b]? = some (.stringIter s pos)) (h : ¬ pos < s.size) :
    (Instr.next (.pointer (some ⟨b, 0, none⟩)) true ty).run P w = .ok (.tuple #[.bool false]) w := by
  simp [Instr.next, getObj, Sem.run, hb, h]
end Go
namespace Go.Proofs.YtmdggnehhebkhaaGreatDoor
open Go Go.Am Go.RowKit
theorem below_setIter {B : Nat} {a w : World} (h : Below B a w) (b : Nat) (hb : B ≤ b) (s : ByteArray) (p : Nat) : Below B a (w.setIter b s p) :=
  h.trans ⟨rfl, rfl, rfl, by rw [World.setIter_size]; exact Nat.le_refl _, fun k hk => World.setIter_other _ _ _ _ _ (by omega)⟩
theorem below_iter {B : Nat} {a w : World} (h : Below B a w) (hB : B ≤ w.heap.size) (s : ByteArray) (p : Nat) : Below B a (w.iter s p) := h.alloc hB _

theorem digs_size : digs.size = 10 := rfl
theorem digs_decode (k : Nat) (h : k < 10) : Utf8.decode digs k = (48 + k, 1) := by
  have h0 : (List.range 10).all (fun k => Utf8.decode digs k == (48 + k, 1)) = true := by kernel_rfl
  exact eq_of_beq (List.all_eq_true.1 h0 k (List.mem_range.2 h))
theorem decode_dig (s : ByteArray) (pos : Nat) (h : pos < s.size) : (isDig (s[pos]'h) = decide (48 ≤ (Utf8.decode s pos).1 ∧ (Utf8.decode s pos).1 < 58)) ∧ (isDig (s[pos]'h) = true → (Utf8.decode s pos).2 = 1) := by
  unfold isDig
  by_cases ha : (s[pos]'h).toNat < 128
  · rw [decode_ascii s pos h ha]
    refine ⟨?_, fun _ => rfl⟩
    rw [← Bool.decide_and]
    apply decide_eq_decide.2
    omega
  · have := decode_high s pos h (by omega)
    refine ⟨?_, fun hh => ?_⟩
    · rw [← Bool.decide_and]
      apply decide_eq_decide.2
      omega
    · simp only [Bool.and_eq_true, decide_eq_true_eq] at hh
      omega

theorem cutL_at (s : ByteArray) (pos : Nat) (hp : pos ≤ s.size) (hd : ∀ i (h : i < s.size), i < pos → isDig (s[i]'h) = true) (he : ∀ h : pos < s.size, isDig (s[pos]'h) = false) : cutL s = s.extract pos s.size := by
  have hl : s.data.toList.length = s.size := by rw [Array.length_toList]; rfl
  have hget : ∀ i (h : i < s.size), s.data.toList[i]'(by omega) = s[i]'h := fun i h => by rw [Array.getElem_toList]; rfl
  have h1 : s.data.toList.dropWhile isDig = s.data.toList.drop pos := by
    conv => lhs; rw [← List.take_append_drop pos s.data.toList]
    rw [List.dropWhile_append_of_pos]
    · by_cases hq : pos < s.size
      · rw [List.drop_eq_getElem_cons (by omega)]
        rw [List.dropWhile_cons_of_neg]
        rw [hget pos hq, he hq]; simp
      · rw [List.drop_eq_nil_of_le (by omega)]; rfl
    · intro x hx
      obtain ⟨i, hi, rfl⟩ := List.mem_iff_getElem.1 hx
      simp only [List.length_take] at hi
      rw [List.getElem_take, hget i (by omega)]
      exact hd i (by omega) (by omega)
  unfold cutL
  rw [h1]
  apply ByteArray.ext
  rw [ByteArray.data_extract]
  apply Array.ext'
  rw [Array.toList_extract, List.extract_eq_take_drop]
  simp only []
  rw [List.take_of_length_le (by rw [List.length_drop, hl]; omega)]

theorem int_eq_dec (c k : Nat) (h : ¬ (48 ≤ c ∧ c < 48 + k)) : ((c : Int) == 48 + (k : Int)) = decide (48 ≤ c ∧ c < 48 + (k + 1)) := by
  rw [Bool.eq_iff_iff]
  simp only [beq_iff_eq, decide_eq_true_eq]
  omega
theorem cutLeft_walk (s : ByteArray) (w : World) :
    Calls Tryz.prog 22 #[.string s, .string digs] w fun e w' => e = .returned (.string (cutL s)) ∧ Below w.heap.size w w' := by
  go_enter Tryz.func22, Tryz.ntmps22
  go_wp2
  go_loopw [7] (fun _ wr => ∃ pos : Nat, wr.heap[w.heap.size]? = some (.stringIter s pos) ∧ Below w.heap.size w wr ∧ w.heap.size < wr.heap.size ∧ pos ≤ s.size ∧ ∀ i (h : i < s.size), i < pos → isDig (s[i]'h) = true) (fun _ wr => s.size - wr.iterPos w.heap.size)
  case atStart => exact ⟨0, World.iter_heap w s 0, below_iter (Below.refl _ w) (Nat.le_refl _) s 0, by rw [World.iter_size]; omega, Nat.zero_le _, fun i h h0 => by omega⟩
  case round =>
    obtain ⟨pos, hit, hb, hlt, hpos, hdig⟩ := hrel
    by_cases hp : pos < s.size
    · have hnx : ∀ ty, (Instr.next (.pointer (some ⟨w.heap.size, 0, none⟩)) true ty).run Tryz.prog wr = _ := fun ty => run_next_at wr w.heap.size s pos ty hit hp
      obtain ⟨hd1, hd2⟩ := decode_dig s pos hp
      obtain ⟨c, d, hcd⟩ : ∃ c d, Utf8.decode s pos = (c, d) := ⟨_, _, rfl⟩
      have hc31 : c ≤ 2147483647 := by have := decode_le s pos; rw [hcd] at this; exact this
      rw [hcd] at hnx hd1 hd2
      simp only [] at hnx hd1 hd2
      have hb1 := below_setIter hb w.heap.size (Nat.le_refl _) s (pos + d)
      have hi1 := World.setIter_here wr w.heap.size s (pos + d) hlt
      have hs1 := World.setIter_size wr w.heap.size s (pos + d)
      generalize wr.setIter w.heap.size s (pos + d) = w1 at hnx hb1 hi1 hs1
      have H1 : Hid (w.heap.size < w1.heap.size) := by show _ < _; omega
      clear hs1
      go_wp2
      clear hnx
      obtain ⟨wo, rfl⟩ : ∃ wo : World, wo = wr := ⟨_, rfl⟩
      go_loopw [7] (fun v wr => ∃ k : Nat, v = .bool (decide (48 ≤ c ∧ c < 48 + k)) ∧ k ≤ 10 ∧ wr.heap[w1.heap.size]? = some (.stringIter digs k) ∧ Below w1.heap.size w1 wr ∧ w1.heap.size < wr.heap.size) (fun _ wr => 10 - wr.iterPos w1.heap.size)
      case atStart => exact ⟨0, by simp, by omega, World.iter_heap w1 digs 0, below_iter (Below.refl _ w1) (Nat.le_refl _) digs 0, by rw [World.iter_size]; omega⟩
      case round =>
        obtain ⟨k, rfl, hk, kit, kb, klt⟩ := hrel
        by_cases hk10 : k < 10
        · have hnx : ∀ ty, (Instr.next (.pointer (some ⟨w1.heap.size, 0, none⟩)) true ty).run Tryz.prog wr = _ := fun ty => run_next_at wr w1.heap.size digs k ty kit hk10
          rw [digs_decode k hk10] at hnx
          simp only [] at hnx
          have kb1 := below_setIter kb w1.heap.size (Nat.le_refl _) digs (k + 1)
          have ki1 := World.setIter_here wr w1.heap.size digs (k + 1) klt
          have ks1 := World.setIter_size wr w1.heap.size digs (k + 1)
          have km : wr.iterPos w1.heap.size = k := World.iterPos_of _ _ _ _ kit
          generalize wr.setIter w1.heap.size digs (k + 1) = w2 at hnx kb1 ki1 ks1
          have K1 : Hid (w1.heap.size < w2.heap.size) := by show _ < _; omega
          clear ks1
          have KM : Hid (w2.iterPos w1.heap.size = k + 1) := World.iterPos_of _ _ _ _ ki1
          by_cases hin : 48 ≤ c ∧ c < 48 + k
          · have hin2 : decide (48 ≤ c ∧ c < 48 + k) = true := decide_eq_true hin
            have hin3 : decide (48 ≤ c ∧ c < 48 + (k + 1)) = true := decide_eq_true ⟨hin.1, by omega⟩
            rw [hin2]
            go_wp2
            exact ⟨⟨k + 1, by rw [hin3], by omega, ki1, kb1, K1.out⟩, by rw [KM.out, km]; omega⟩
          · have hin2 : decide (48 ≤ c ∧ c < 48 + k) = false := decide_eq_false hin
            rw [hin2]
            go_wp2
            exact ⟨⟨k + 1, by rw [int_eq_dec c k hin], by omega, ki1, kb1, K1.out⟩, by rw [KM.out, km]; omega⟩
        · have hnx : ∀ ty, (Instr.next (.pointer (some ⟨w1.heap.size, 0, none⟩)) true ty).run Tryz.prog wr = _ := fun ty => run_next_out wr w1.heap.size digs k ty kit hk10
          obtain rfl : k = 10 := by omega
          cases hin : decide (48 ≤ c ∧ c < 48 + 10) with
          | true =>
            go_wp2
            have hin' : decide (48 ≤ c ∧ c < 58) = true := hin
            have hdp : isDig s[pos] = true := by rw [hd1]; exact hin'
            have hd1' : d = 1 := hd2 hdp
            subst hd1'
            have hN : wr.heap[w.heap.size]? = some (.stringIter s (pos + 1)) := by rw [kb.block _ H1.out]; exact hi1
            refine ⟨⟨pos + 1, hN, hb1.trans (kb.mono (Nat.le_of_lt H1.out)), by have := H1.out; omega, by omega, fun i h hi => ?_⟩, by rw [World.iterPos_of _ _ _ _ hN, World.iterPos_of _ _ _ _ hit]; omega⟩
            by_cases he : i = pos
            · subst he; exact hdp
            · exact hdig i h (by omega)
          | false =>
            go_wp2
            have hin' : decide (48 ≤ c ∧ c < 58) = false := hin
            go_ret
            exact ⟨by rw [cutL_at s pos hpos hdig fun _ => by rw [hd1]; exact hin']; rfl, hb1.trans (kb.mono (Nat.le_of_lt H1.out))⟩
    · have hnx : ∀ ty, (Instr.next (.pointer (some ⟨w.heap.size, 0, none⟩)) true ty).run Tryz.prog wr = _ := fun ty => run_next_out wr w.heap.size s pos ty hit hp
      go_wp2
      go_ret
      refine ⟨?_, hb⟩
      obtain rfl : pos = s.size := by omega
      rw [cutL_at s s.size (Nat.le_refl _) hdig fun h => absurd h (Nat.lt_irrefl _)]
      show Ending.returned (Value.string ⟨#[]⟩) = _
      congr 2
      apply ByteArray.ext
      rw [ByteArray.data_extract]
      simp

/-! ### From the end -/
theorem bytes_last (t : ByteArray) (h : 0 < t.size) : t.data.toList = t.data.toList.take (t.size - 1) ++ [t[t.size - 1]'(by omega)] := by
  have hl : t.data.toList.length = t.size := by rw [Array.length_toList]; rfl
  conv => lhs; rw [← List.take_append_drop (t.size - 1) t.data.toList]
  congr 1
  rw [List.drop_eq_getElem_cons (by omega), List.drop_eq_nil_of_le (by omega), Array.getElem_toList]
  rfl
theorem last_dig (t : ByteArray) (h : 0 < t.size) : (isDig (t[t.size - 1]'(by omega)) = decide (48 ≤ (Lib.decodeLastL t.data.toList).1 ∧ (Lib.decodeLastL t.data.toList).1 < 58)) ∧
    (isDig (t[t.size - 1]'(by omega)) = true → (Lib.decodeLastL t.data.toList).2 = 1) := by
  have hl : t.data.toList.length = t.size := by rw [Array.length_toList]; rfl
  have hne : t.data.toList ≠ [] := fun e => by rw [e] at hl; simp at hl; omega
  have hget : (t.data.toList.getD (t.data.toList.length - 1) 0) = t[t.size - 1]'(by omega) := by
    rw [List.getD_eq_getElem?_getD, List.getElem?_eq_getElem (by omega), Option.getD_some, Array.getElem_toList]
    simp only [hl]
    rfl
  unfold isDig Lib.decodeLastL
  rw [if_neg hne, hget]
  by_cases ha : (t[t.size - 1]'(by omega)).toNat < 128
  · rw [if_pos ha]
    refine ⟨?_, fun _ => rfl⟩
    rw [← Bool.decide_and]
    apply decide_eq_decide.2
    simp only []
    omega
  · rw [if_neg ha]
    dsimp only
    have key : ¬ (if Lib.lastStart t.data.toList + (Lib.decodeL (t.data.toList.drop (Lib.lastStart t.data.toList))).2 = t.data.toList.length then Lib.decodeL (t.data.toList.drop (Lib.lastStart t.data.toList)) else (Utf8.runeError, 1)).1 < 128 := by
      split
      · rename_i he
        intro hlt
        have hst := Lib.lastStart_lt _ hne
        have hsz : 0 < (⟨(t.data.toList.drop (Lib.lastStart t.data.toList)).toArray⟩ : ByteArray).size := by
          show 0 < (t.data.toList.drop (Lib.lastStart t.data.toList)).toArray.size
          simp only [List.size_toArray, List.length_drop]; omega
        unfold Lib.decodeL at hlt he
        by_cases hb : ((⟨(t.data.toList.drop (Lib.lastStart t.data.toList)).toArray⟩ : ByteArray)[0]'hsz).toNat < 128
        · rw [decode_ascii _ 0 hsz hb] at he
          simp only [] at he
          apply ha
          have e1 : Lib.lastStart t.data.toList = t.size - 1 := by omega
          have e2 : ((⟨(t.data.toList.drop (Lib.lastStart t.data.toList)).toArray⟩ : ByteArray)[0]'hsz) = t[t.size - 1]'(by omega) := by
            show (t.data.toList.drop (Lib.lastStart t.data.toList)).toArray[0]'hsz = _
            rw [List.getElem_toArray, List.getElem_drop, Array.getElem_toList]
            simp only [e1, Nat.add_zero]
            rfl
          rw [← e2]; exact hb
        · have := (decode_high _ 0 hsz (by omega)).1
          omega
      · decide
    refine ⟨?_, fun hh => ?_⟩
    · rw [← Bool.decide_and]
      apply decide_eq_decide.2
      omega
    · simp only [Bool.and_eq_true, decide_eq_true_eq] at hh
      omega
theorem cutR_stop (t : ByteArray) (h : 0 < t.size) (hd : isDig (t[t.size - 1]'(by omega)) = false) : cutR t = t := by
  unfold cutR
  rw [bytes_last t h, List.reverse_append, List.reverse_singleton, List.singleton_append, List.dropWhile_cons_of_neg (by rw [hd]; simp)]
  apply ByteArray.ext
  apply Array.ext'
  simp only [List.reverse_cons, List.reverse_reverse]
  exact (bytes_last t h).symm
theorem cutR_step (t : ByteArray) (h : 0 < t.size) (hd : isDig (t[t.size - 1]'(by omega)) = true) : cutR (t.extract 0 (t.size - 1)) = cutR t := by
  have e : (t.extract 0 (t.size - 1)).data.toList = t.data.toList.take (t.size - 1) := by
    rw [ByteArray.data_extract, Array.toList_extract, List.extract_eq_take_drop]; simp
  unfold cutR
  rw [e]
  conv => rhs; rw [bytes_last t h, List.reverse_append, List.reverse_singleton, List.singleton_append, List.dropWhile_cons_of_pos hd]
theorem cutR_nil (t : ByteArray) (h : t.size = 0) : cutR t = t := by
  have hl : t.data.toList.length = t.size := by rw [Array.length_toList]; rfl
  have : t.data.toList = [] := List.eq_nil_of_length_eq_zero (by omega)
  unfold cutR
  rw [this]
  apply ByteArray.ext
  apply Array.ext'
  rw [this]; rfl
theorem tabs_below {g3 g4 : Nat} {w w' : World} (h : Lib.Utf8Tabs g3 g4 w) (b : Below w.heap.size w w') : Lib.Utf8Tabs g3 g4 w' := by
  have key : ∀ a u, w.cell? a = some u → w'.cell? a = some u := fun a u hu => by
    rw [World.cell?_of_block (w := w) (b.block _ (World.block_lt_of_cell? w _ hu))]; exact hu
  exact ⟨fun c hc => key _ _ (h.1 c hc), fun i hi => ⟨key _ _ (h.2 i hi).1, key _ _ (h.2 i hi).2⟩⟩
def strLen : Value → Nat
  | .string t => t.size
  | _ => 0
theorem cutRight_walk (s : ByteArray) (hs : s.size ≤ 9223372036854775807) (w : World) (hT : Lib.Utf8Tabs 4 5 w) :
    Calls Tryz.prog 21 #[.string s, .string digs] w fun e w' => e = .returned (.string (cutR s)) ∧ Below w.heap.size w w' := by
  have HT : Hid (Lib.Utf8Tabs 4 5 w) := hT
  clear hT
  go_enter Tryz.func21, Tryz.ntmps21
  go_wp2
  go_loopw [0] (fun v wr => ∃ t : ByteArray, v = .string t ∧ t.size ≤ s.size ∧ cutR t = cutR s ∧ Below w.heap.size w wr) (fun v _ => strLen v)
  case atStart => exact ⟨s, rfl, Nat.le_refl _, rfl, Below.refl _ w⟩
  case round =>
    obtain ⟨t, rfl, ht, hcut, hb⟩ := hrel
    have HC : Hid (cutR t = cutR s) := hcut
    clear hcut
    by_cases h0 : t.size = 0
    · have hz : (t.size : Int) = 0 := by omega
      go_wp2
      go_ret
      exact ⟨by rw [← HC.out, cutR_nil t h0]; rfl, hb⟩
    · have hz : (0 : Int) < (t.size : Int) := by omega
      have H0 : Hid (0 < t.size) := by show 0 < t.size; omega
      clear h0
      go_wp2_with (go_at_call 35; refine (Tryz.utf8_DecodeLastRuneInString t _ (Nat.le_trans ht hs) (tabs_below HT.out hb)).mono ?_)
      rintro e w1 ⟨rfl, hb1⟩
      obtain ⟨hd1, hd2⟩ := last_dig t H0.out
      have hlt : t.data.toList.length = t.size := by rw [Array.length_toList]; rfl
      have hwd := Lib.decodeLastL_width t.data.toList (by have := H0.out; omega)
      have hru := Lib.decodeLastL_rune t.data.toList
      obtain ⟨c, d, hcd⟩ : ∃ c d, Lib.decodeLastL t.data.toList = (c, d) := ⟨_, _, rfl⟩
      rw [hcd] at hd1 hd2 hwd hru ⊢
      simp only [] at hd1 hd2 hwd hru ⊢
      rw [hlt] at hwd
      have HW : Hid (1 ≤ d ∧ d ≤ t.size) := hwd
      have hb2 : Below w.heap.size w w1 := hb.trans (hb1.mono hb.size)
      have HS : Hid (w.heap.size ≤ w1.heap.size) := hb2.size
      clear hwd hlt hb1
      go_wp2
      obtain ⟨wo, rfl⟩ : ∃ wo : World, wo = wr := ⟨_, rfl⟩
      go_loopw [7] (fun v wr => ∃ k : Nat, v = .bool (decide (48 ≤ c ∧ c < 48 + k)) ∧ k ≤ 10 ∧ wr.heap[w1.heap.size]? = some (.stringIter digs k) ∧ Below w1.heap.size w1 wr ∧ w1.heap.size < wr.heap.size) (fun _ wr => 10 - wr.iterPos w1.heap.size)
      case atStart => exact ⟨0, by simp, by omega, World.iter_heap w1 digs 0, below_iter (Below.refl _ w1) (Nat.le_refl _) digs 0, by rw [World.iter_size]; omega⟩
      case round =>
        obtain ⟨k, rfl, hk, kit, kb, klt⟩ := hrel
        by_cases hk10 : k < 10
        · have hnx : ∀ ty, (Instr.next (.pointer (some ⟨w1.heap.size, 0, none⟩)) true ty).run Tryz.prog wr = _ := fun ty => run_next_at wr w1.heap.size digs k ty kit hk10
          rw [digs_decode k hk10] at hnx
          simp only [] at hnx
          have kb1 := below_setIter kb w1.heap.size (Nat.le_refl _) digs (k + 1)
          have ki1 := World.setIter_here wr w1.heap.size digs (k + 1) klt
          have ks1 := World.setIter_size wr w1.heap.size digs (k + 1)
          have km : wr.iterPos w1.heap.size = k := World.iterPos_of _ _ _ _ kit
          generalize wr.setIter w1.heap.size digs (k + 1) = w2 at hnx kb1 ki1 ks1
          have K1 : Hid (w1.heap.size < w2.heap.size) := by show _ < _; omega
          clear ks1
          have KM : Hid (w2.iterPos w1.heap.size = k + 1) := World.iterPos_of _ _ _ _ ki1
          by_cases hin : 48 ≤ c ∧ c < 48 + k
          · have hin2 : decide (48 ≤ c ∧ c < 48 + k) = true := decide_eq_true hin
            have hin3 : decide (48 ≤ c ∧ c < 48 + (k + 1)) = true := decide_eq_true ⟨hin.1, by omega⟩
            rw [hin2]
            go_wp2
            exact ⟨⟨k + 1, by rw [hin3], by omega, ki1, kb1, K1.out⟩, by rw [KM.out, km]; omega⟩
          · have hin2 : decide (48 ≤ c ∧ c < 48 + k) = false := decide_eq_false hin
            rw [hin2]
            go_wp2
            exact ⟨⟨k + 1, by rw [int_eq_dec c k hin], by omega, ki1, kb1, K1.out⟩, by rw [KM.out, km]; omega⟩
        · have hnx : ∀ ty, (Instr.next (.pointer (some ⟨w1.heap.size, 0, none⟩)) true ty).run Tryz.prog wr = _ := fun ty => run_next_out wr w1.heap.size digs k ty kit hk10
          obtain rfl : k = 10 := by omega
          have HB : Hid (Below w.heap.size w wr) := hb2.trans (kb.mono HS.out)
          cases hin : decide (48 ≤ c ∧ c < 48 + 10) with
          | true =>
            have hin' : decide (48 ≤ c ∧ c < 58) = true := hin
            have hdp : isDig (t[t.size - 1]'(by have := H0.out; omega)) = true := by rw [hd1]; exact hin'
            have hd1' : d = 1 := hd2 hdp
            subst hd1'
            have HX : Hid (cutR (t.extract 0 (t.size - 1)) = cutR t) := cutR_step t H0.out hdp
            have hsub : (t.size : Int) - 1 = ((t.size - 1 : Nat) : Int) := by have := H0.out; omega
            go_wp2
            have hsz : (t.extract 0 (t.size - 1)).size = t.size - 1 := by rw [ByteArray.size_extract]; omega
            exact ⟨⟨t.extract 0 (t.size - 1), rfl, by rw [hsz]; omega, HX.out.trans HC.out, HB.out⟩, by simp only [strLen]; rw [hsz]; have := H0.out; omega⟩
          | false =>
            have hin' : decide (48 ≤ c ∧ c < 58) = false := hin
            have HX : Hid (cutR t = t) := cutR_stop t H0.out (by rw [hd1]; exact hin')
            go_wp2
            go_ret
            exact ⟨by rw [← HC.out, HX.out]; rfl, HB.out⟩

theorem sameB_eq {d : ByteArray} (h : sameB d digs = true) : d = digs := by
  unfold sameB at h
  apply ByteArray.ext
  apply Array.ext'
  exact eq_of_beq h
theorem tabs_of {gh : Gh} {H : Hp} {w : World} (rh : RH gh H w) (hb : Am.Sub baseM gh.m) : Lib.Utf8Tabs 4 5 w := by
  refine ⟨fun c hc => (rh.inv _ _ _ (hb _ _ _ ?_)).1, fun i hi => ⟨(rh.inv _ _ _ (hb _ _ _ ?_)).1, (rh.inv _ _ _ (hb _ _ _ ?_)).1⟩⟩
  · simp only [baseM, if_true, hc]
  · simp only [baseM, if_true]
    rw [if_neg (by decide), if_pos (by omega), if_pos (by omega)]
    congr 4; omega
  · simp only [baseM, if_true]
    rw [if_neg (by decide), if_pos (by omega), if_neg (by omega)]
    congr 4; omega
theorem law_cutLeft : OLaw 22 oCutL := by
  intro args v h
  unfold oCutL at h
  split at h
  · rename_i s d
    split at h
    · rename_i hd
      cases h
      obtain rfl := sameB_eq hd
      refine ⟨⟨_, Tryz.func22, rfl⟩, fun gh w cargs rh hb hr => ?_⟩
      obtain ⟨u1, u2, rfl, h1, h2⟩ := cargs2 hr
      obtain rfl := rd_str h1; obtain rfl := rd_str h2
      refine (cutLeft_walk s w).mono ?_
      rintro e w' ⟨rfl, hbw⟩
      obtain ⟨a1, a2⟩ := below_ok rh hbw
      exact ⟨_, gh, Hp.empty, rfl, .str _, a1, a2⟩
    · cases h
  · cases h
theorem law_cutRight : OLaw 21 oCutR := by
  intro args v h
  unfold oCutR at h
  split at h
  · rename_i s d
    split at h
    · rename_i hd
      split at h
      · rename_i hs
        cases h
        obtain rfl := sameB_eq hd
        refine ⟨⟨_, Tryz.func21, rfl⟩, fun gh w cargs rh hb hr => ?_⟩
        obtain ⟨u1, u2, rfl, h1, h2⟩ := cargs2 hr
        obtain rfl := rd_str h1; obtain rfl := rd_str h2
        refine (cutRight_walk s hs w (tabs_of rh hb)).mono ?_
        rintro e w' ⟨rfl, hbw⟩
        obtain ⟨a1, a2⟩ := below_ok rh hbw
        exact ⟨_, gh, Hp.empty, rfl, .str _, a1, a2⟩
      · cases h
    · cases h
  · cases h
end Go.Proofs.YtmdggnehhebkhaaGreatDoor
