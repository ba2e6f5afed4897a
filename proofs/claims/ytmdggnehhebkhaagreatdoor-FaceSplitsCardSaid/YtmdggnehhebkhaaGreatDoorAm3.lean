/- Each operation of the abstract machine is the machine's own: building, reading, writing, addresses, numbers, texts. -/
import Derived.Test.YtmdggnehhebkhaaGreatDoorAm2
set_option linter.unusedVariables false
namespace Go.Am
open Go

section
variable {P : Program} {g : Gh} {H : Hp} {w : World}

theorem szT_info {t : TypeId} {s : Nat} (h : szT P t = some s) : ∃ i, P.info? t = some i ∧ i.size = s := by
  unfold szT at h
  cases hi : P.info? t with
  | none => rw [hi] at h; cases h
  | some i => rw [hi] at h; exact ⟨i, rfl, by simpa using h⟩
theorem run_sizeOf_szT {t : TypeId} {s : Nat} (h : szT P t = some s) (w : World) : (sizeOf t).run P w = .ok s w := by
  obtain ⟨i, h1, h2⟩ := szT_info h
  simp [sizeOf, typeInfo, h1, h2]
theorem zeroT_info {t : TypeId} {z : List AV} (h : zeroT P t = some z) : ∃ i zv, P.info? t = some i ∧ i.zero = some zv ∧ z = zv.cells.toList.map AV.ofA ∧ ∀ x, x ∈ zv.cells.toList → x.oneCell' = true := by
  unfold zeroT at h
  cases hi : P.info? t with
  | none => rw [hi] at h; cases h
  | some i =>
    rw [hi] at h
    cases hz : i.zero with
    | none => simp [hz] at h
    | some zv =>
      simp only [hz] at h
      split at h
      · rename_i ha
        simp only [Option.some.injEq] at h
        exact ⟨i, zv, rfl, hz, h.symm, fun x hx => List.all_eq_true.1 ha x hx⟩
      · cases h
theorem run_zeroValue_of {t : TypeId} {i : TypeInfo} {z : Value} (h : P.info? t = some i) (hz : i.zero = some z) (w : World) : (zeroValue t).run P w = .ok z w := by simp [zeroValue, typeInfo, h, hz]
theorem relL_ofA (g : Gh) (H : Hp) (us : List Value) : RelL g H (us.map AV.ofA) us := ⟨by simp, fun i v u a b => by
  rw [List.getElem?_map, b] at a
  simp only [Option.map_some, Option.some.injEq] at a
  subst a
  exact .data _ _ (relD_ofA _ _)⟩
theorem run_isAgg_of {t : TypeId} {b : Bool} (h : aggT P t = some b) (w : World) : (isAgg t).run P w = .ok b w := by
  unfold aggT at h
  split at h
  · rename_i fs e; cases h; simp [isAgg, run_underlying e]
  · rename_i n e0 e; cases h; simp [isAgg, run_underlying e]
  · rename_i d h1 h2 e
    cases h
    simp only [isAgg, Sem.run_bind, run_underlying e, Result.andThen_ok]
    cases d <;> first | rfl | exact (h1 _ e).elim | exact (h2 _ _ e).elim
  · cases h

theorem all_splice {us vs : List Value} {off : Nat} (h1 : ∀ x, x ∈ us → x.oneCell' = true) (h2 : ∀ x, x ∈ vs → x.oneCell' = true) : ∀ x, x ∈ splice us off vs → x.oneCell' = true := fun x hx => by
  unfold splice at hx
  rcases List.mem_append.1 hx with h | h
  · exact h1 x (List.mem_of_mem_take h)
  · rcases List.mem_append.1 h with h | h
    · exact h2 x h
    · exact h1 x (List.mem_of_mem_drop h)
theorem all_cut {us : List Value} {off k : Nat} (h1 : ∀ x, x ∈ us → x.oneCell' = true) : ∀ x, x ∈ cut us off k → x.oneCell' = true := fun x hx => by
  unfold cut at hx
  exact h1 x (List.mem_of_mem_drop (List.mem_of_mem_take hx))

theorem foldl_set (off : Nat) : ∀ (vs : List Value) (k : Nat) (cells : Array Value), off + k + vs.length ≤ cells.size →
    ((vs.zipIdx k).foldl (fun cs (p : Value × Nat) => cs.setIfInBounds (off + p.2) p.1) cells).toList = splice cells.toList (off + k) vs
  | [], k, cells, _ => by simp [splice_nil]
  | v :: vs, k, cells, h => by
    simp only [List.zipIdx_cons, List.foldl_cons]
    rw [foldl_set off vs (k + 1) _ (by simp at h ⊢; omega), splice_cons _ _ _ _ (by simp at h ⊢; omega)]
    simp [Nat.add_assoc]

def PairsR (g : Gh) (H : Hp) (lam : Nat → Option Nat) (ps : List (Nat × AV)) (cs : List (Nat × Value)) : Prop :=
  cs.length = ps.length ∧ ∀ (i : Nat) (p : Nat × AV) (c : Nat × Value), ps[i]? = some p → cs[i]? = some c → c.1 = p.1 ∧ RelT g H lam p.2 c.2

theorem fill_ok {lam : Nat → Option Nat} {place : Nat → Option (Nat × Nat)} {place' : Nat → Option (Nat × Nat)} (hp : ∀ i p, place i = some p → place' i = some p) :
    ∀ (ps : List (Nat × AV)) (qs : List (Nat × Value)) (cells cs : List AV) (arr : Array Value), fillA place cells ps = some cs → PairsR g H lam ps qs → RelL g H cells arr.toList → (∀ x, x ∈ arr.toList → x.oneCell' = true) →
      ∃ arr', Instr.fill place' arr qs = some arr' ∧ RelL g H cs arr'.toList ∧ (∀ x, x ∈ arr'.toList → x.oneCell' = true) := by
  intro ps
  induction ps with
  | nil =>
    intro qs cells cs arr h hq hr h1
    obtain rfl : qs = [] := List.eq_nil_of_length_eq_zero hq.1
    simp only [fillA, Option.some.injEq] at h
    subst h
    exact ⟨arr, by simp [Instr.fill], hr, h1⟩
  | cons p ps ih =>
    intro qs cells cs arr h hq hr h1
    obtain ⟨i, v⟩ := p
    cases qs with
    | nil => have := hq.1; simp at this
    | cons c qs =>
      obtain ⟨j, u⟩ := c
      obtain ⟨e1, e2⟩ := hq.2 0 _ _ rfl rfl
      simp only at e1 e2
      subst e1
      simp only [fillA] at h
      split at h
      · rename_i off size hpl
        split at h
        · rename_i vs hvs
          split at h
          · rename_i hc
            have hl : v.isLoc = false := by cases v <;> first | rfl | simp [acells] at hvs
            obtain ⟨r1, r2⟩ := cells_of (e2.rel hl) hvs
            have hsz : u.cells.size = vs.length := by have := r1.1; simpa using this
            have hsz2 : arr.size = cells.length := by have := hr.1; simpa using this
            have hfold : (u.cells.zipIdx.foldl (fun cs (p : Value × Nat) => cs.setIfInBounds (off + p.2) p.1) arr).toList = splice arr.toList off u.cells.toList := by
              rw [← Array.foldl_toList, Array.toList_zipIdx]
              have := foldl_set off u.cells.toList 0 arr (by simp; omega)
              simpa using this
            obtain ⟨arr', f1, f2, f3⟩ := ih qs _ cs (u.cells.zipIdx.foldl (fun cs (p : Value × Nat) => cs.setIfInBounds (off + p.2) p.1) arr) h
              ⟨by have := hq.1; simpa using this, fun i p c a b => hq.2 (i + 1) p c (by simpa using a) (by simpa using b)⟩
              (by rw [hfold]; exact hr.splice r1 off) (by rw [hfold]; exact all_splice h1 r2)
            refine ⟨arr', ?_, f2, f3⟩
            simp only [Instr.fill, hp _ _ hpl]
            rw [if_neg (by simp; omega)]
            exact f1
          · cases h
        · cases h
      · cases h

theorem run_build_ok {lam : Nat → Option Nat} {t : TypeId} {ps : List (Nat × AV)} {v : AV} {qs : Array (Nat × Value)} (h : abuild P t ps = some v) (hq : PairsR g H lam ps qs.toList) :
    ∃ u, (Instr.build t qs).run P w = .ok u w ∧ Rel g H v u := by
  unfold abuild at h
  split at h
  · rename_i z hz
    obtain ⟨i, zv, hi, hiz, rfl, hone⟩ := zeroT_info hz
    split at h
    · rename_i fields hu
      split at h
      · rename_i hall
        split at h
        · rename_i cs hf
          cases h
          have hm : ∃ places, fields.toList.mapM (fun f => (P.info? f.type).map fun i => (f.offset, i.size)) = some places ∧ ∀ k p, placeOf P fields k = some p → places.toArray[k]? = some p := by
            have key : ∀ (fs : List Field), (fs.all fun f => (szT P f.type).isSome) = true → ∃ places, fs.mapM (fun f => (P.info? f.type).map fun i => (f.offset, i.size)) = some places ∧
                places.length = fs.length ∧ ∀ (k : Nat) (f : Field), fs[k]? = some f → ∃ s, szT P f.type = some s ∧ places[k]? = some (f.offset, s) := by
              intro fs
              induction fs with
              | nil => intro _; exact ⟨[], by simp, rfl, fun k f h => by simp at h⟩
              | cons f fs ih =>
                intro ha
                simp only [List.all_cons, Bool.and_eq_true] at ha
                obtain ⟨places, a1, a2, a3⟩ := ih ha.2
                obtain ⟨s, hs⟩ := Option.isSome_iff_exists.1 ha.1
                obtain ⟨fi, b1, b2⟩ := szT_info hs
                refine ⟨(f.offset, s) :: places, by simp [List.mapM_cons, b1, b2, a1], by simp [a2], fun k f' hk => ?_⟩
                cases k with
                | zero => simp only [List.getElem?_cons_zero, Option.some.injEq] at hk; subst hk; exact ⟨s, hs, rfl⟩
                | succ k => simp only [List.getElem?_cons_succ] at hk ⊢; exact a3 k f' hk
            obtain ⟨places, a1, a2, a3⟩ := key fields.toList hall
            refine ⟨places, a1, fun k p hp => ?_⟩
            unfold placeOf at hp
            split at hp
            · rename_i f hf'
              obtain ⟨s, b1, b2⟩ := a3 k f (by simpa using hf')
              simp only [b1, Option.some.injEq] at hp
              subst hp
              simpa using b2
            · cases hp
          obtain ⟨places, a1, a2⟩ := hm
          obtain ⟨arr', f1, f2, f3⟩ := fill_ok (g := g) (H := H) a2 ps qs.toList _ cs zv.cells hf hq (relL_ofA _ _ _) hone
          exact ⟨.agg arr', run_build w t qs arr' (by simp only [Program.built, hi, hu, hiz, a1]; exact f1), .agg _ _ f2.1 f3 f2.2⟩
        · cases h
      · cases h
    · rename_i n e hu
      split at h
      · rename_i s hs
        split at h
        · rename_i cs hf
          cases h
          obtain ⟨ei, b1, b2⟩ := szT_info hs
          obtain ⟨arr', f1, f2, f3⟩ := fill_ok (g := g) (H := H) (place' := fun i => some (i * s, s)) (fun _ _ h => h) ps qs.toList _ cs zv.cells hf hq (relL_ofA _ _ _) hone
          exact ⟨.agg arr', run_build w t qs arr' (by simp [Program.built, hi, hu, hiz, b1, b2]; exact f1), .agg _ _ f2.1 f3 f2.2⟩
        · cases h
      · cases h
    · cases h
  · cases h

/-! ### Reading -/
/-- A place in memory that holds these cells. -/
def Holds (w : World) (b off : Nat) (us : List Value) : Prop := ∀ (i : Nat) (u : Value), us[i]? = some u → w.cell? ⟨b, off + i, none⟩ = some u ∧ u.oneCell' = true

theorem holds_row {cs : Array Value} {T : TypeId} {fz : Nat × Nat} {b off k : Nat} (h : w.heap[b]? = some (.cells cs T fz)) (h1 : ∀ x, x ∈ cut cs.toList off k → x.oneCell' = true) : Holds w b off (cut cs.toList off k) := fun i u hu => by
  refine ⟨?_, h1 u (List.mem_iff_getElem?.2 ⟨i, hu⟩)⟩
  rw [cell_of_row _ _ _ _ _ _ h]
  unfold cut at hu
  rw [List.getElem?_take] at hu
  split at hu
  · rw [List.getElem?_drop] at hu; simpa using hu
  · cases hu
theorem Holds.cut {b off : Nat} {us : List Value} (h : Holds w b off us) (i k : Nat) : Holds w b (off + i) (cut us i k) := fun j u hu => by
  unfold Am.cut at hu
  rw [List.getElem?_take] at hu
  split at hu
  · rw [List.getElem?_drop] at hu
    have := h (i + j) u hu
    rwa [← Nat.add_assoc] at this
  · cases hu

theorem rdA_ok {lam : Nat → Option Nat} {l : Lo} (rh : RH g H w) (rl : RL g H lam l w) {a : AV} {u : Value} {k : Nat} {cs : List AV} (hr : RelT g H lam a u) (h : rdA l H a k = some cs) :
    ∃ b off us, u = .pointer (some ⟨b, off, none⟩) ∧ us.length = k ∧ Holds w b off us ∧ RelL g H cs us := by
  cases a with
  | loc d off =>
    simp only [rdA] at h
    split at h
    · rename_i cs0 hl
      split at h
      · rename_i hk
        cases h
        obtain ⟨b, cc, T, fz, h1, h2, h3, h4, h5, h6⟩ := rl.lo d cs0 hl
        have hlen : cc.toList.length = cs0.length := by simpa using h3
        have hrel : RelL g H cs0 cc.toList := ⟨hlen, fun i v u a b => by
          obtain ⟨u', f1, f2, _⟩ := h4 i v a
          have : cc.toList[i]? = some u' := by simpa using f1
          rw [this] at b; cases b; exact f2⟩
        have hone : ∀ x, x ∈ cc.toList → x.oneCell' = true := fun x hx => by
          obtain ⟨i, hi⟩ := List.mem_iff_getElem?.1 hx
          have hi' : i < cs0.length := by rw [← hlen]; exact (List.getElem?_eq_some_iff.1 hi).1
          obtain ⟨u', f1, _, f3⟩ := h4 i cs0[i] (List.getElem?_eq_getElem hi')
          have : cc.toList[i]? = some u' := by simpa using f1
          rw [this] at hi; cases hi; exact f3
        exact ⟨b, off, cut cc.toList off k, hr b h1, by simp [cut]; omega, holds_row h2 (all_cut hone), hrel.cut off k⟩
      · cases h
    · cases h
  | ptr o ver off =>
    simp only [rdA] at h
    split at h
    · rename_i ob hb
      split at h
      · rename_i hk
        cases h
        have hu := rel_ptr hr hb hk.1
        obtain ⟨arr, T, fz, f1, f2, f3, f4, f5, _⟩ := rh.row hb
        exact ⟨_, _, cut (cut arr.toList (g.φ o).2.1 ob.cells.length) off k, hu, by simp [cut]; omega, (holds_row f1 f5).cut off k, f4.cut off k⟩
      · cases h
    · cases h
  | eptr cs0 =>
    simp only [rdA] at h
    split at h
    · cases h
      obtain ⟨b, off, us, rfl, h1, h2⟩ := rel_eptr hr
      rename_i hk
      have hh : Holds w b off (us.take k) := fun i u hu => by
        rw [List.getElem?_take] at hu
        split at hu
        · exact rh.inv _ _ _ (h1 i u hu)
        · cases hu
      exact ⟨b, off, us.take k, rfl, by simp [h2.1]; omega, hh, (RelDL.rel (g := g) (H := H) h2).take k⟩
    · cases h
  | _ => simp [rdA] at h

theorem addr_add (b off i : Nat) : (⟨b, off, none⟩ : Addr).add i = ⟨b, off + i, none⟩ := by unfold Addr.add; split <;> simp_all

theorem run_loadCells_holds {b off : Nat} {us : List Value} (h : Holds w b off us) : (loadCells ⟨b, off, none⟩ us.length).run P w = .ok us.toArray w :=
  run_loadCells_list w _ us fun j v hv => by rw [addr_add]; exact (h j v hv).1

theorem run_load_ok {lam : Nat → Option Nat} {l : Lo} (rh : RH g H w) (rl : RL g H lam l w) {a : AV} {u : Value} {t : TypeId} {v : AV} (hr : RelT g H lam a u) (h : aload P l H t a = some v) :
    ∃ x, (Instr.loadAt t u).run P w = .ok x w ∧ Rel g H v x := by
  unfold aload at h
  split at h
  · rename_i ha
    split at h
    · rename_i s hs
      split at h
      · rename_i cs hc
        cases h
        obtain ⟨b, off, us, rfl, hl, hh, hrel⟩ := rdA_ok rh rl hr hc
        subst hl
        refine ⟨.agg us.toArray, ?_, .agg _ _ (by simpa using hrel.1) (fun u hu => ?_) (by simpa using hrel.2)⟩
        · simp [Instr.loadAt, Instr.sureAddr, loadVar, run_isAgg_of ha, run_sizeOf_szT hs, run_loadCells_holds hh]
        · obtain ⟨i, hi⟩ := List.mem_iff_getElem?.1 (by simpa using hu)
          exact (hh i u hi).2
      · cases h
    · cases h
  · rename_i ha
    split at h
    · rename_i c hc
      cases h
      obtain ⟨b, off, us, rfl, hl, hh, hrel⟩ := rdA_ok rh rl hr hc
      cases us with
      | nil => simp at hl
      | cons u us =>
        obtain rfl : us = [] := List.eq_nil_of_length_eq_zero (by simpa using hl)
        have h0 := (hh 0 u rfl).1
        refine ⟨u, ?_, hrel.2 0 v u rfl rfl⟩
        have h0' : w.cell? ⟨b, off, none⟩ = some u := by simpa using h0
        simp [Instr.loadAt, Instr.sureAddr, loadVar, run_isAgg_of ha, h0']
    · cases h
  · cases h

end
end Go.Am
