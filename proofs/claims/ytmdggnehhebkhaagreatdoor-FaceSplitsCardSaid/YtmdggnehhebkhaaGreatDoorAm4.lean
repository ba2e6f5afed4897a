/- Each operation of the abstract machine is the machine's own: writing, addresses, slices, appending. -/
import Derived.Test.YtmdggnehhebkhaaGreatDoorAm3
import Derived.Laws.IdiomCopy
set_option linter.unusedVariables false
namespace Go.Am
open Go

/-- A frame's memory since it was entered. -/
structure FR (g0 : Gh) (H0 : Hp) (w0 : World) (g : Gh) (lam : Nat → Option Nat) (s : St) (w : World) : Prop where
  rh : RH g s.h w
  rl : RL g s.h lam s.l w
  step : Step g0 H0 w0 g s.h w
  low : ∀ d b, lam d = some b → w0.heap.size ≤ b

section
variable {P : Program} {g0 : Gh} {H0 : Hp} {w0 : World} {g : Gh} {lam : Nat → Option Nat} {w : World} {s : St}

/-- Behind whatever leaves the frame's own variables alone. -/
theorem FR.next (fr : FR g0 H0 w0 g lam s w) {g' : Gh} {H' : Hp} {w' : World} (rh : RH g' H' w') (st : Step g s.h w g' H' w') : FR g0 H0 w0 g' lam ⟨s.e, s.l, H'⟩ w' :=
  ⟨rh, fr.rl.step st, fr.step.trans st, fr.low⟩

theorem FR.same (fr : FR g0 H0 w0 g lam s w) : FR g0 H0 w0 g lam ⟨s.e, s.l, s.h⟩ w := fr
theorem FR.env (fr : FR g0 H0 w0 g lam s w) (e : En) : FR g0 H0 w0 g lam ⟨e, s.l, s.h⟩ w := ⟨fr.rh, fr.rl, fr.step, fr.low⟩

theorem RL.lt {H : Hp} {l : Lo} (rl : RL g H lam l w) {d b : Nat} (h : lam d = some b) : b < w.heap.size ∧ ∀ i, g.m b i = none := by
  cases hl : l d with
  | none => have := rl.dead d hl; rw [h] at this; cases this
  | some cs =>
    obtain ⟨b', cc, T, fz, h1, h2, _, _, _, h6⟩ := rl.lo d cs hl
    rw [h] at h1; cases h1
    exact ⟨(Array.getElem?_eq_some_iff.1 h2).1, h6⟩

/-- A local variable written. -/
theorem FR.writeLoc (fr : FR g0 H0 w0 g lam s w) {d off : Nat} {cs new : List AV} {us : List Value} (hl : s.l d = some cs) (hle : off + new.length ≤ cs.length) (hr : RelL g s.h new us)
    {b : Nat} (hb : lam d = some b) (h1 : ∀ x, x ∈ us → x.oneCell' = true) :
    FR g0 H0 w0 g lam ⟨s.e, s.l.upd d (splice cs off new), s.h⟩ (w.setCells b off us) ∧ (∀ P : Program, (storeCells ⟨b, off, none⟩ us).run P w = .ok () (w.setCells b off us)) := by
  obtain ⟨b', cc, T, fz, e1, e2, e3, e4, e5, e6⟩ := fr.rl.lo d cs hl
  rw [hb] at e1; cases e1
  have wc := WC.setCells w b off us
  have hlen : off + us.length ≤ cc.size := by rw [hr.1, e3]; exact hle
  have hh := heap_setCells_here b T fz us off w cc e2 hlen
  refine ⟨⟨⟨fun b' i u hu => ?_, fun o ob ho => ?_, fr.rh.inj, fun o ob t ho ht => (by
    obtain ⟨c1, z1, h, hz⟩ := fr.rh.typ o ob t ho ht
    exact ⟨c1, z1, by rw [wc.other _ (fr.rl.apart d b o ob hb ho) (fr.rh.lt ho)]; exact h, hz⟩)⟩, ⟨fun d' cs' hd' => ?_, fun d' hd' => ?_, fr.rl.inj, fr.rl.apart⟩, ?_, fr.low⟩, fun P => ?_⟩
  · obtain ⟨c1, c2⟩ := fr.rh.inv b' i u hu
    have hne : b' ≠ b := fun e => by subst e; rw [e6] at hu; cases hu
    exact ⟨by rw [World.cell?_of_block (w := w) (wc.other b' hne (World.block_lt_of_cell? w _ c1))]; exact c1, c2⟩
  · obtain ⟨q1, q2, q3, ds, T1, fz1, f1, f2, f3, f4, f5, f6⟩ := fr.rh.ob o ob ho
    have hne := fr.rl.apart d b o ob hb ho
    exact ⟨q1, q2, q3, ds, T1, fz1, by rw [wc.other _ hne (fr.rh.lt ho)]; exact f1, f2, f3, f4, f5, f6⟩
  · simp only [Lo.upd] at hd'
    split at hd'
    · rename_i e; subst e; cases hd'
      have hsl : (splice cc.toList off us).length = cc.size := by rw [splice_length _ _ _ (by simpa using hlen)]; simp
      refine ⟨b, _, T, fz, hb, hh, by rw [List.size_toArray, hsl, e3, splice_length _ _ _ hle], fun i v hv => ?_, fun i hi => e5 i (by rw [List.size_toArray, hsl] at hi; exact hi), e6⟩
      have hcc : RelL g s.h cs cc.toList := ⟨by simpa using e3, fun i v u a c => by
        obtain ⟨u', f1, f2, _⟩ := e4 i v a
        have : cc.toList[i]? = some u' := by simpa using f1
        rw [this] at c; cases c; exact f2⟩
      have hone : ∀ x, x ∈ cc.toList → x.oneCell' = true := fun x hx => by
        obtain ⟨i, hi⟩ := List.mem_iff_getElem?.1 hx
        have hi' : i < cs.length := by rw [← hcc.1]; exact (List.getElem?_eq_some_iff.1 hi).1
        obtain ⟨u', f1, _, f3⟩ := e4 i cs[i] (List.getElem?_eq_getElem hi')
        have : cc.toList[i]? = some u' := by simpa using f1
        rw [this] at hi; cases hi; exact f3
      obtain ⟨u, a, r⟩ := (hcc.splice hr off).mem i v hv
      exact ⟨u, by simpa using a, r, all_splice hone h1 u (List.mem_iff_getElem?.2 ⟨i, a⟩)⟩
    · rename_i hne
      obtain ⟨b2, cc2, T2, fz2, f1, f2, f3⟩ := fr.rl.lo d' cs' hd'
      have hb2 : b2 ≠ b := fun e => hne (fr.rl.inj d' d b (e ▸ f1) hb)
      exact ⟨b2, cc2, T2, fz2, f1, by rw [wc.other _ hb2 (fr.rl.lt f1).1]; exact f2, f3⟩
  · simp only [Lo.upd] at hd'
    split at hd'
    · cases hd'
    · exact fr.rl.dead d' hd'
  · have st := fr.step
    refine ⟨wc.os.trans st.os, wc.tape.trans st.tape, wc.output.trans st.output, Nat.le_trans st.size wc.size, fun k hk hn => ?_, st.ext, st.cls⟩
    obtain ⟨c1, c2⟩ := st.keep k hk hn
    have := fr.low d b hb
    exact ⟨by rw [wc.other k (by omega) (Nat.lt_of_lt_of_le hk st.size)]; exact c1, c2⟩
  · have := run_storeCells_cells (P := P) b off us 0 w (fun j hj => ?_) (fun j hj => ?_) h1
    · simpa using this
    · rw [cell_of_row _ _ _ _ _ _ e2]
      simp only [Nat.add_zero]
      rw [Array.getElem?_eq_getElem (by omega)]; rfl
    · have := e5 (off + j) (by omega)
      simp only [World.frozen?, e2, Nat.add_zero]
      simpa using this

/-- An object written. -/
theorem FR.writeOb (fr : FR g0 H0 w0 g lam s w) {o off : Nat} {b : Ob} (hb : s.h.ob o = some b) (hf : b.fz ≤ off) {new : List AV} (hle : off + new.length ≤ b.cells.length) {us : List Value} (hr : RelL g s.h new us)
    (h1 : ∀ x, x ∈ us → x.oneCell' = true) :
    FR g0 H0 w0 g lam ⟨s.e, s.l, s.h.upd o ⟨splice b.cells off new, b.ver, b.fz, b.ty⟩⟩ (w.setCells (g.φ o).1 ((g.φ o).2.1 + off) us) ∧ Ext g s.h g (s.h.upd o ⟨splice b.cells off new, b.ver, b.fz, b.ty⟩) ∧
      (∀ P : Program, (storeCells ⟨(g.φ o).1, (g.φ o).2.1 + off, none⟩ us).run P w = .ok () (w.setCells (g.φ o).1 ((g.φ o).2.1 + off) us)) := by
  obtain ⟨arr, T, fz, f1, f2, f3, f4, f5, f6, f7⟩ := fr.rh.row hb
  have hlen : (g.φ o).2.1 + off + us.length ≤ arr.size := by rw [hr.1]; omega
  have hh := heap_setCells_here (g.φ o).1 T fz us ((g.φ o).2.1 + off) w arr f1 hlen
  have wc := WC.setCells w (g.φ o).1 ((g.φ o).2.1 + off) us
  have hsl : (splice arr.toList ((g.φ o).2.1 + off) us).length = arr.size := by rw [splice_length _ _ _ (by simpa using hlen)]; simp
  have hcut : cut (splice arr.toList ((g.φ o).2.1 + off) us) (g.φ o).2.1 b.cells.length = splice (cut arr.toList (g.φ o).2.1 b.cells.length) off us := by
    have hul : us.length = new.length := hr.1
    apply List.ext_getElem?
    intro i
    have hcl : (cut arr.toList (g.φ o).2.1 b.cells.length).length = b.cells.length := by simp [cut]; omega
    rw [splice_get _ _ _ (by rw [hcl]; omega)]
    unfold cut
    rw [List.getElem?_take]
    by_cases hi : i < b.cells.length
    · rw [if_pos hi, List.getElem?_drop, splice_get _ _ _ (by simpa using hlen)]
      by_cases ha : i < off
      · rw [if_pos ha, if_pos (by omega), List.getElem?_take, if_pos hi, List.getElem?_drop]
      · rw [if_neg ha, if_neg (by omega)]
        by_cases hc : i < off + us.length
        · rw [if_pos hc, if_pos (by omega), show (g.φ o).2.1 + i - ((g.φ o).2.1 + off) = i - off by omega]
        · rw [if_neg hc, if_neg (by omega), List.getElem?_take, if_pos hi, List.getElem?_drop]
    · rw [if_neg hi, if_neg (by omega), if_neg (by omega), List.getElem?_take, if_neg hi]
  have rh' := fr.rh.write hb f1 hh (by rw [List.size_toArray, hsl]) wc (fun i u hu => ?_) (cells := splice b.cells off new) (splice_length _ _ _ hle)
    (by rw [splice_length _ _ _ hle, hcut]; exact f4.splice hr off) (by rw [splice_length _ _ _ hle, hcut]; exact all_splice f5 h1)
  · have st := step_write fr.rh hb wc (splice b.cells off new) b.fz b.ty
    refine ⟨fr.next rh' st, st.ext, fun P => ?_⟩
    have := run_storeCells_cells (P := P) (g.φ o).1 ((g.φ o).2.1 + off) us 0 w (fun j hj => ?_) (fun j hj => ?_) h1
    · simpa using this
    · rw [cell_of_row _ _ _ _ _ _ f1]
      simp only [Nat.add_zero]
      rw [Array.getElem?_eq_getElem (by omega)]; rfl
    · have := f6 ((g.φ o).2.1 + off + j) (by omega) (by omega)
      simp only [World.frozen?, f1, Nat.add_zero]
      simpa using this
  · have : i < (g.φ o).2.1 + b.fz := by
      rcases Nat.lt_or_ge i ((g.φ o).2.1 + b.fz) with h | h
      · exact h
      · rw [f7 i h] at hu; cases hu
    have e := splice_get arr.toList ((g.φ o).2.1 + off) us (by simpa using hlen) i
    rw [if_pos (by omega)] at e
    simpa using e

theorem run_store_ok (fr : FR g0 H0 w0 g lam s w) {a v : AV} {u x : Value} {t : TypeId} {l' : Lo} {H' : Hp} (ha : RelT g s.h lam a u) (hv : RelT g s.h lam v x) (h : astore P s.l s.h t a v = some (l', H')) :
    ∃ w', (Instr.storeAt t u x).run P w = .ok () w' ∧ FR g0 H0 w0 g lam ⟨s.e, l', H'⟩ w' ∧ Ext g s.h g H' := by
  unfold astore at h
  split at h
  · rename_i cs hc
    have hl : v.isLoc = false := by cases v <;> first | rfl | simp [acells] at hc
    obtain ⟨r1, r2⟩ := cells_of (hv.rel hl) hc
    split at h
    · rename_i n hn
      split at h
      · rename_i hln
        have hsz : x.cells.size = n := by have := r1.1; rw [hln] at this; simpa using this
        have run : ∀ b off w', u = .pointer (some ⟨b, off, none⟩) → (storeCells ⟨b, off, none⟩ x.cells.toList).run P w = .ok () w' → (Instr.storeAt t u x).run P w = .ok () w' := fun b off w' hu hs => by
          subst hu
          simp only [Instr.storeAt, Instr.sureAddr, Sem.run_bind, Sem.run_pure, Result.andThen_ok, storeVar, run_sizeOf_szT hn]
          rw [if_neg (by simp [hsz])]
          exact hs
        cases a with
        | loc d off =>
          simp only [wrA] at h
          split at h
          · rename_i cs0 hl0
            split at h
            · rename_i hle
              cases h
              obtain ⟨b, cc, T, fz, e1, _⟩ := fr.rl.lo d cs0 hl0
              obtain ⟨fr', hrun⟩ := fr.writeLoc hl0 hle r1 e1 r2
              exact ⟨_, run b off _ (ha b e1) (hrun P), fr', Ext.refl _ _⟩
            · cases h
          · cases h
        | ptr o ver off =>
          simp only [wrA] at h
          split at h
          · rename_i b hb
            split at h
            · rename_i hcond
              cases h
              obtain ⟨fr', hx, hrun⟩ := fr.writeOb hb hcond.2.1 hcond.2.2 r1 r2
              exact ⟨_, run _ _ _ (rel_ptr ha hb hcond.1) (hrun P), fr', hx⟩
            · cases h
          · cases h
        | _ => simp [wrA] at h
      · cases h
    · cases h
  · cases h

/-! ### Addresses -/
theorem addA_ok (H : Hp) {a a' : AV} {u : Value} {off : Nat} (h : addA a off = some a') (hr : RelT g H lam a u) : (∀ b o, u = .pointer (some ⟨b, o, none⟩) → RelT g H lam a' (.pointer (some ⟨b, o + off, none⟩))) := by
  intro b o hu
  cases a with
  | loc d p =>
    simp only [addA, Option.some.injEq] at h; subst h
    intro b' hb'
    have := hr b' hb'
    rw [hu] at this; cases this; rfl
  | ptr x ver p =>
    simp only [addA, Option.some.injEq] at h; subst h
    cases hr with
    | data _ _ h => cases h
    | ptr _ _ _ _ h1 h2 h3 h4 =>
      refine Rel.ptr _ _ _ _ h1 h2 rfl fun ob hob hv => ?_
      have := h4 ob hob hv
      rw [hu] at this; cases this
      simp [Nat.add_assoc]
  | eptr cs =>
    simp only [addA] at h
    split at h
    · cases h
      obtain ⟨b', o', us, e, h1, h2⟩ := rel_eptr hr
      rw [hu] at e; cases e
      refine Rel.data _ _ (.eptr _ (us.drop off) _ _ (by simp [h2.1]) (fun i x hx => ?_) (fun i v x hv hx => ?_))
      · rw [List.getElem?_drop] at hx
        have := h1 _ _ hx
        rwa [← Nat.add_assoc] at this
      · rw [List.getElem?_drop] at hv hx
        exact h2.2 _ _ _ hv hx
    · cases h
  | _ => simp [addA] at h

/-- Where an address stands, the machine has a pointer; a stale one may be anything. -/
theorem sure_ptr {H : Hp} {w : World} {l : Lo} {k : Nat} {a : AV} {u : Value} {cs : List AV} (rh : RH g H w) (rl : RL g H lam l w) (hr : RelT g H lam a u) (h : rdA l H a k = some cs) : ∃ b off, u = .pointer (some ⟨b, off, none⟩) := by
  obtain ⟨b, off, us, e, _⟩ := rdA_ok rh rl hr h
  exact ⟨b, off, e⟩

end
end Go.Am
