/- The stateful oracles' laws: (*strings.Builder).copyCheck and (*strings.Builder).String. -/
import Derived.Test.YtmdggnehhebkhaaGreatDoorBld
import Derived.Shelf.Strings.Builder1
set_option linter.unusedVariables false
set_option linter.unusedSimpArgs false
set_option maxRecDepth 100000
set_option maxHeartbeats 1000000
namespace Go.Am
open Go
theorem RH.fzTurn {g : Gh} {H : Hp} {w w' : World} (rh : RH g H w) {o : Nat} {b : Ob} (hb : H.ob o = some b) {cs : Array Value} {T : TypeId} {fz fz' : Nat × Nat}
    (h0 : w.heap[(g.φ o).1]? = some (.cells cs T fz)) (h1 : w'.heap[(g.φ o).1]? = some (.cells cs T fz')) (wc : WC w w' (g.φ o).1) (hq : FzOk fz' ((g.φ o).2.1 + b.fz)) : RH g H w' ∧ Step g H w g H w' := by
  refine ⟨⟨fun b' i u hu => ?_, fun o' b' ho' => ?_, rh.inj, fun o' b' t ho' ht => ?_⟩, ⟨wc.os, wc.tape, wc.output, wc.size, fun k hk hn => ⟨wc.other k (fun e => hn o b hb e.symm) hk, fun _ => rfl⟩, Ext.refl g H, fun o' ob h => .inr ⟨o', ob, h, rfl⟩⟩⟩
  · obtain ⟨c1, c2⟩ := rh.inv b' i u hu
    refine ⟨?_, c2⟩
    have hlt := World.block_lt_of_cell? w _ c1
    by_cases hbb : b' = (g.φ o).1
    · subst hbb
      rw [cell_of_row _ _ _ _ _ _ h1, ← cell_of_row _ _ _ _ _ _ h0, c1]
    · rw [World.cell?_of_block (w := w) (wc.other b' hbb hlt)]; exact c1
  · obtain ⟨q1, q2, q3, ds, T1, fz1, f1, f2, f3, f4, f5, f6⟩ := rh.ob o' b' ho'
    by_cases hne : o' = o
    · subst hne
      rw [hb] at ho'; cases ho'
      rw [h0] at f1; cases f1
      exact ⟨q1, q2, q3, cs, T, fz', h1, f2, f3, f4, fun i h _ => hq.out h, f6⟩
    · exact ⟨q1, q2, q3, ds, T1, fz1, by rw [wc.other _ (rh.inj o' o b' b ho' hb hne) (rh.lt ho')]; exact f1, f2, f3, f4, f5, f6⟩
  · obtain ⟨cs1, fz1, h, hz, hq1⟩ := rh.typ o' b' t ho' ht
    by_cases hne : o' = o
    · subst hne
      rw [hb] at ho'; cases ho'
      rw [h0] at h; cases h
      exact ⟨_, _, h1, hz, hq⟩
    · exact ⟨cs1, fz1, by rw [wc.other _ (rh.inj o' o b' b ho' hb hne) (rh.lt ho')]; exact h, hz, hq1⟩
theorem WC.setCell (w : World) (b o : Nat) (v : Value) : WC w (w.setCell ⟨b, o, none⟩ v) b :=
  ⟨rfl, rfl, rfl, by simp [World.setCell], fun k h _ => Go.RowKit.Below.heap_setCell w ⟨b, o, none⟩ v k h⟩
theorem WC.freeze (w : World) (b o n : Nat) : WC w (w.freeze ⟨b, o, none⟩ n) b := by
  unfold World.freeze
  split
  · exact WC.refl w b
  · exact ⟨rfl, rfl, rfl, by simp, fun k h _ => by
      simp only [Array.getElem?_modify]
      rw [if_neg (by omega)]⟩
theorem heap_freeze (w : World) (b o n : Nat) (hn : n ≠ 0) {cs : Array Value} {T : TypeId} {fz : Nat × Nat} (h : w.heap[b]? = some (.cells cs T fz)) :
    (w.freeze ⟨b, o, none⟩ n).heap[b]? = some (.cells cs T (if fz.1 == fz.2 then (o, o + n) else (min fz.1 o, max fz.2 (o + n)))) := by
  obtain ⟨lo, hi⟩ := fz
  simp only [World.freeze, if_neg hn, Array.getElem?_modify, if_true, h, Option.map_some]
/-- Cells that are frozen by the machine too. -/
theorem RH.frozen {g : Gh} {H : Hp} {w : World} (rh : RH g H w) {o : Nat} {b : Ob} (hb : H.ob o = some b) {t : TypeId × Bool} (ht : b.ty = some t) {off n : Nat} (hn : n ≠ 0) (h : off + n ≤ b.fz) :
    RH g H (w.freeze ⟨(g.φ o).1, (g.φ o).2.1 + off, none⟩ n) ∧ Step g H w g H (w.freeze ⟨(g.φ o).1, (g.φ o).2.1 + off, none⟩ n) := by
  obtain ⟨cs, fz, h1, _, hq⟩ := rh.typ o b t hb ht
  refine rh.fzTurn hb h1 (heap_freeze w _ _ _ hn h1) (WC.freeze _ _ _ _) ?_
  unfold FzOk at hq ⊢
  split
  · right; simp only []; omega
  · rename_i hne
    have hne : fz.1 ≠ fz.2 := by simpa using hne
    right; simp only []; omega
theorem RH.drew {g : Gh} {H : Hp} {w : World} (rh : RH g H w) : RH g H w.drew ∧ Step g H w g H w.drew :=
  ⟨rh.grown fun k _ => rfl, step_grown rfl rfl rfl (Nat.le_refl _) fun k _ => rfl⟩
end Go.Am
namespace Go.Lib
theorem liesAt_bytes_at {P : Program} {e : TypeId} (hc : P.cellsOf e = 1) (count off n : Nat) (hn : off + n ≤ count) : liesAt P P.depth e count off e n = true := by
  have hd : P.depth = (2 * (P.types.size + Made.depth) + 1) + 1 := rfl
  rw [hd]
  simp only [liesAt, Bool.or_eq_true]
  left
  rw [hd]
  simp [rowAt, hc, hn, sameLayout, Nat.mod_one]
theorem run_unsafeString_at {P : Program} (w : World) (pt it ty e : TypeId) (hp : P.underlying pt = some (.pointer e)) (hc : P.cellsOf e = 1) (g off cells : Nat) (hsh : w.shape? g = some (e, cells)) (l : List UInt8) (h0 : l ≠ []) (hn : off + l.length ≤ cells) (h63 : l.length ≤ 9223372036854775807)
    (hcell : ∀ j x, l[j]? = some x → w.cell? ((⟨g, off, none⟩ : Addr).add j) = some (.int .u8 x.toNat)) :
    (Builtin.unsafeString_ #[pt, it] ty #[.pointer (some ⟨g, off, none⟩), .int .i64 l.length]).run P w = .ok (.string ⟨l.toArray⟩) (w.freeze ⟨g, off, none⟩ l.length) := by
  have hl : l.length ≠ 0 := by simpa using h0
  have hlb := run_loadBytes (P := P) w l ⟨g, off, none⟩ .empty hcell
  have hlies := liesAt_bytes_at (P := P) hc (cells / P.cellsOf e) off l.length (by rw [hc]; simpa using hn)
  have h63' : ¬ (9223372036854775807 : Int) < (l.length : Int) := by omega
  have hmax : IntKind.i64.max = 9223372036854775807 := rfl
  have hneg : ¬ (l.length : Int) < 0 := by omega
  refine Eq.trans (congrArg (fun x => Sem.run P x w) (show Builtin.unsafeString_ #[pt, it] ty #[.pointer (some ⟨g, off, none⟩), .int .i64 l.length] = (asInt (.int .i64 l.length) >>= _) from rfl)) ?_
  simp [asInt, asIntOf, hmax, h63', hneg, hl, variablesAt, hsh, elemOf, run_underlying hp, hlies, hlb]
end Go.Lib
namespace Go.Proofs.YtmdggnehhebkhaaGreatDoor
open Go Go.Am Go.RowKit

theorem bytesOf_rel {g : Gh} {H : Hp} : ∀ (cs : List AV) (l : List UInt8) (us : List Value), bytesOf cs = some l → RelL g H cs us → us = l.map fun x => .int .u8 x.toNat := by
  intro cs
  induction cs with
  | nil => intro l us h hr; cases h; rw [hr.nil_inv]; rfl
  | cons c cs ih =>
    intro l us h hr
    obtain ⟨u, us', rfl, h1, h2⟩ := hr.cons_inv
    unfold bytesOf at h
    split at h
    · rename_i e; cases e
    · rename_i n rest e
      cases e
      split at h
      · rename_i hn
        split at h
        · rename_i l' hl'
          cases h
          rw [rel_int h1, ih _ _ hl' h2]
          simp only [List.map_cons]
          congr 2
          rw [UInt8.toNat_ofNat']
          omega
        · cases h
      · cases h
    · cases h

theorem law_copyCheck (args : List AV) (H : Hp) (v : AV) (H' : Hp) (h : sCopyCheck args H = some (v, H')) (_ : noLocs args = true) :
    (∃ fn, Tryz.prog.funcs[49]? = some fn ∧ fn.body.isNone = false) ∧ BodyOk Tryz.prog baseM 49 args H v H' := by
  unfold sCopyCheck at h
  split at h
  · rename_i o ver H0
    split at h
    · rename_i b hb
      split at h
      · rename_i hc
        obtain ⟨hv, hf, ht⟩ := hc
        refine ⟨⟨_, Tryz.func49, rfl⟩, fun g w cargs rh hm hr => ?_⟩
        obtain ⟨u, us, hcs, hu, hn⟩ := hr.cons_inv
        obtain rfl := hn.nil_inv
        have hu0 := rel_ptr hu hb hv
        obtain ⟨cs, T, fz, e1, e2, e3, e4, e5, e6, e7⟩ := rh.row hb
        obtain ⟨cs', fz', t1, t2, t3⟩ := rh.typ o b _ hb ht
        rw [e1] at t1; cases t1
        have t2 := t2 rfl
        have h0 : (g.φ o).2.1 = 0 := by omega
        have hcut : cut cs.toList (g.φ o).2.1 b.cells.length = cs.toList := by
          unfold cut; rw [h0, List.drop_zero, List.take_of_length_le]; simp; omega
        rw [hcut] at e4 e5
        rw [h0] at hu0
        simp only [Nat.add_zero] at hu0
        subst hu0
        have hca : cargs = #[.pointer (some ⟨(g.φ o).1, 0, none⟩)] := by rw [← Array.toArray_toList (xs := cargs), hcs]
        subst hca
        split at h
        · rename_i buf hcells
          simp only [Option.some.injEq, Prod.mk.injEq] at h; obtain ⟨rfl, rfl⟩ := h
          rw [hcells] at e4
          obtain ⟨u0, us1, hl0, r0, r1⟩ := e4.cons_inv
          obtain ⟨u1, us2, rfl, r1', r2⟩ := r1.cons_inv
          obtain rfl := r2.nil_inv
          obtain rfl := rel_nilptr r0
          have hcsE : cs = #[.pointer none, u1] := by rw [← Array.toArray_toList (xs := cs), hl0]
          subst hcsE
          have c0 : w.cell? ⟨(g.φ o).1, 0, none⟩ = some (.pointer none) := by rw [Lib.cell_of_heap e1]; rfl
          have hfr : w.frozen? ⟨(g.φ o).1, 0, none⟩ = false := by
            have := e6 0 (by omega) (by simp)
            simp only [World.frozen?, e1]
            simpa using this
          refine (cc_fresh _ w c0 (by simp [World.shape?, e1]) hfr).mono ?_
          rintro e w' ⟨rfl, rfl⟩
          have wc := WC.setCell w (g.φ o).1 0 (.pointer (some ⟨(g.φ o).1, 0, none⟩))
          have hh := heap_setCell_here w (g.φ o).1 0 _ _ _ (.pointer (some ⟨(g.φ o).1, 0, none⟩)) e1
          have hcut2 : cut (#[.pointer none, u1].setIfInBounds 0 (.pointer (some ⟨(g.φ o).1, 0, none⟩)) : Array Value).toList (g.φ o).2.1 [AV.ptr o ver 0, buf].length = [.pointer (some ⟨(g.φ o).1, 0, none⟩), u1] := by
            rw [h0]; rfl
          refine ⟨_, g, rfl, .data _ _ (.tup _ _ rfl (by simp)), ?_, step_write rh hb wc _ _ _⟩
          refine rh.write hb e1 hh (by simp) wc (fun i u hu2 => ?_) (by rw [hcells]; rfl) ?_ ?_
          · rw [e7 i (by omega)] at hu2; cases hu2
          · rw [hcut2]; exact .cons hu (.cons r1' (.nil _ _))
          · rw [hcut2]
            intro x hx
            simp only [List.mem_cons, List.not_mem_nil, or_false] at hx
            rcases hx with rfl | rfl
            · rfl
            · exact e5 _ (by simp)
        · rename_i o' ver' buf hcells
          split at h
          · rename_i heq
            obtain ⟨rfl, rfl⟩ := heq
            simp only [Option.some.injEq, Prod.mk.injEq] at h; obtain ⟨rfl, rfl⟩ := h
            rw [hcells] at e4
            obtain ⟨u0, us1, hl0, r0, r1⟩ := e4.cons_inv
            obtain ⟨u1, us2, rfl, r1', r2⟩ := r1.cons_inv
            obtain rfl := r2.nil_inv
            have hu1 := rel_ptr r0 hb hv
            rw [h0] at hu1
            simp only [Nat.add_zero] at hu1
            subst hu1
            have hcsE : cs = #[.pointer (some ⟨(g.φ o').1, 0, none⟩), u1] := by rw [← Array.toArray_toList (xs := cs), hl0]
            subst hcsE
            have c0 : w.cell? ⟨(g.φ o').1, 0, none⟩ = some (.pointer (some ⟨(g.φ o').1, 0, none⟩)) := by rw [Lib.cell_of_heap e1]; rfl
            refine (cc_used _ w c0).mono ?_
            rintro e w' ⟨rfl, rfl⟩
            exact ⟨_, g, rfl, .data _ _ (.tup _ _ rfl (by simp)), rh, Step.refl _ _ _⟩
          · cases h
        · cases h
      · cases h
    · cases h
  · cases h

theorem str_walk (b0 g off cap cells : Nat) (l : List UInt8) (w : World) (c0 : w.cell? ⟨b0, 1, none⟩ = some (.slice (some ⟨g, off, none⟩) l.length cap)) (hcap : cap ≠ 0)
    (hsh : w.shape? g = some (5, cells)) (hn : off + l.length ≤ cells) (h63 : l.length ≤ 9223372036854775807) (h0 : l ≠ [])
    (hcell : ∀ j x, l[j]? = some x → w.cell? ⟨g, off + j, none⟩ = some (.int .u8 x.toNat)) :
    Calls Tryz.prog 29 #[.pointer (some ⟨b0, 0, none⟩)] w fun e w' => e = .returned (.string ⟨l.toArray⟩) ∧ w' = w.drew.freeze ⟨g, off, none⟩ l.length := by
  have c1 : w.drew.cell? ⟨b0, 1, none⟩ = some (.slice (some ⟨g, off, none⟩) l.length cap) := c0
  have hSD : (Builtin.unsafeSliceData_ #[44] 95 #[.slice (some ⟨g, off, none⟩) l.length cap]).run Tryz.prog w.drew = .ok (.pointer (some ⟨g, off, none⟩)) w.drew :=
    Lib.run_unsafeSliceData_row _ _ _ _ _ _ hcap
  have hUS : (Builtin.unsafeString_ #[95, 3] 9 #[.pointer (some ⟨g, off, none⟩), .int .i64 l.length]).run Tryz.prog w.drew = .ok (.string ⟨l.toArray⟩) (w.drew.freeze ⟨g, off, none⟩ l.length) := by
    refine Lib.run_unsafeString_at w.drew _ _ _ 5 (by kernel_rfl) (by kernel_rfl) g off cells hsh l h0 hn h63 ?_
    intro j x hx
    rw [addr_add]
    exact hcell j x hx
  clear hsh hcell c0
  go_enter Tryz.func29, Tryz.ntmps29
  go_wp2
  go_region
  all_goals (go_wp2; go_ret; exact ⟨rfl, rfl⟩)

theorem law_string (args : List AV) (H : Hp) (v : AV) (H' : Hp) (h : sString args H = some (v, H')) (_ : noLocs args = true) :
    (∃ fn, Tryz.prog.funcs[29]? = some fn ∧ fn.body.isNone = false) ∧ BodyOk Tryz.prog baseM 29 args H v H' := by
  unfold sString at h
  split at h
  · rename_i o ver H0
    split at h
    · rename_i b hb
      split at h
      · rename_i hc
        obtain ⟨hv, ht⟩ := hc
        split at h
        · rename_i c0 o2 ver2 off n hcells
          split at h
          · rename_i b2 hb2
            split at h
            · rename_i hc2
              obtain ⟨hv2, hle, hn0, hn63, ht2⟩ := hc2
              split at h
              · rename_i l hl
                simp only [Option.some.injEq, Prod.mk.injEq] at h; obtain ⟨rfl, rfl⟩ := h
                refine ⟨⟨_, Tryz.func29, rfl⟩, fun g w cargs rh hm hr => ?_⟩
                obtain ⟨u, us, hcs, hu, hn⟩ := hr.cons_inv
                obtain rfl := hn.nil_inv
                have hu0 := rel_ptr hu hb hv
                obtain ⟨cs, T, fz, e1, e2, e3, e4, e5, e6, e7⟩ := rh.row hb
                obtain ⟨cs', fz', t1, t2, t3⟩ := rh.typ o b _ hb ht
                rw [e1] at t1; cases t1
                have t2 := t2 rfl
                have h0 : (g.φ o).2.1 = 0 := by omega
                have hcut : cut cs.toList (g.φ o).2.1 b.cells.length = cs.toList := by
                  unfold cut; rw [h0, List.drop_zero, List.take_of_length_le]; simp; omega
                rw [hcut] at e4 e5
                rw [h0] at hu0
                simp only [Nat.add_zero] at hu0
                subst hu0
                have hca : cargs = #[.pointer (some ⟨(g.φ o).1, 0, none⟩)] := by rw [← Array.toArray_toList (xs := cargs), hcs]
                subst hca
                rw [hcells] at e4
                obtain ⟨u0, us1, hl0, r0, r1⟩ := e4.cons_inv
                obtain ⟨u1, us2, rfl, r1', r2⟩ := r1.cons_inv
                obtain rfl := r2.nil_inv
                obtain ⟨cap, hu1, d1, d2⟩ := rel_vec r1' hb2 hv2
                subst hu1
                have hcsE : cs = #[u0, .slice (some ⟨(g.φ o2).1, (g.φ o2).2.1 + off, none⟩) n cap] := by rw [← Array.toArray_toList (xs := cs), hl0]
                have k1 : w.cell? ⟨(g.φ o).1, 1, none⟩ = some (.slice (some ⟨(g.φ o2).1, (g.φ o2).2.1 + off, none⟩) n cap) := by rw [Lib.cell_of_heap e1, hcsE]; rfl
                obtain ⟨ds, T2, fz2, f1, f2, f3, f4, f5, f6, f7⟩ := rh.row hb2
                obtain ⟨ds', fz2', t1', t2', t3'⟩ := rh.typ o2 b2 _ hb2 ht2
                rw [f1] at t1'; cases t1'
                have hcl : (cut b2.cells off n).length = n := by simp [cut]; omega
                have hbr := bytesOf_rel _ _ _ hl (f4.cut off n)
                have hlen : l.length = n := by
                  have := congrArg List.length hbr
                  simp only [List.length_map] at this
                  rw [← this]; simp [cut]; omega
                have hlne : l ≠ [] := by intro e; rw [e] at hlen; simp at hlen; omega
                obtain ⟨g', hφ, rh', st', _⟩ := rh.freeze hb2 (off + n) hle
                have hfz : (H.freeze o2 (off + n)).ob o2 = some ⟨b2.cells, b2.ver, max b2.fz (off + n), b2.ty⟩ := by
                  simp [Hp.freeze, hb2, Hp.upd]
                rw [← hlen] at k1
                refine (str_walk (g.φ o).1 (g.φ o2).1 ((g.φ o2).2.1 + off) cap ds.size l w k1 (by omega) (by simp [World.shape?, f1]) (by rw [hlen]; omega) (by omega) hlne (fun j x hx => ?_)).mono ?_
                · have hj : j < n := by rw [← hlen]; exact (List.getElem?_eq_some_iff.1 hx).1
                  have h3 : (cut (cut ds.toList (g.φ o2).2.1 b2.cells.length) off n)[j]? = some (.int .u8 x.toNat) := by
                    rw [show cut (cut ds.toList (g.φ o2).2.1 b2.cells.length) off n = _ from hbr, List.getElem?_map, hx]; rfl
                  unfold cut at h3
                  rw [List.getElem?_take, if_pos hj, List.getElem?_drop, List.getElem?_take, if_pos (by omega), List.getElem?_drop] at h3
                  rw [Lib.cell_of_heap f1]
                  rw [← h3]; simp [Nat.add_assoc]
                · rintro e w' ⟨rfl, rfl⟩
                  obtain ⟨rh2, st2⟩ := rh'.drew
                  have := rh2.frozen hfz ht2 (off := off) (n := n) hn0 (by simp only []; omega)
                  rw [hφ] at this
                  rw [hlen]
                  exact ⟨_, g', rfl, .data _ _ (.str _), this.1, (st'.trans st2).trans this.2⟩
              · cases h
            · cases h
          · cases h
        · cases h
      · cases h
    · cases h
  · cases h
end Go.Proofs.YtmdggnehhebkhaaGreatDoor
