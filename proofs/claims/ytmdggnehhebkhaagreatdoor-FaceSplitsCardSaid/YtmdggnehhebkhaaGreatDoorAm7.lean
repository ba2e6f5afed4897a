/- Each operation of the abstract machine is the machine's own: literals, appending, new variables. -/
import Derived.Test.YtmdggnehhebkhaaGreatDoorAm6
set_option linter.unusedVariables false
namespace Go.Am
open Go

section
variable {P : Program} {g0 : Gh} {H0 : Hp} {w0 : World} {g : Gh} {lam : Nat → Option Nat} {w : World} {s : St}

theorem FR.strip (fr : FR g0 H0 w0 g lam s w) {g' : Gh} {H' : Hp} (h : Stripped g s.h w g' H') : FR g0 H0 w0 g' lam ⟨s.e, s.l, H'⟩ w := fr.next h.rh h.step

/-- A new block of cells that never turn. -/
theorem RH.addData {H : Hp} (rh : RH g H w) {arr : Array Value} {T : TypeId} (h1 : ∀ x, x ∈ arr.toList → x.oneCell' = true) {w' : World} (hk : ∀ k, k < w.heap.size → w'.heap[k]? = w.heap[k]?)
    (hn : w'.heap[w.heap.size]? = some (.cells arr T (0, 0))) : RH (g.commit w.heap.size 0 arr.size arr) H w' ∧ Ext g H (g.commit w.heap.size 0 arr.size arr) H ∧ InM (g.commit w.heap.size 0 arr.size arr).m w.heap.size 0 arr.toList := by
  have rg := rh.grown hk
  have x : Ext g H (g.commit w.heap.size 0 arr.size arr) H := ⟨fun b i u hu => by
    simp only [Gh.commit]
    rw [if_neg (fun h => by rw [h.1, rh.none_at (Nat.le_refl _)] at hu; cases hu)]
    exact hu, Nat.le_refl _, fun o b' _ _ h => ⟨⟨b', h, rfl⟩, rfl⟩⟩
  refine ⟨⟨fun b i u hu => ?_, fun o b hb => ?_, rh.inj, rg.typ⟩, x, fun i u hu => ?_⟩
  · simp only [Gh.commit] at hu
    split at hu
    · rename_i h
      obtain ⟨rfl, _, h2⟩ := h
      refine ⟨by rw [cell_of_row _ _ _ _ _ _ hn]; exact hu, h1 u (List.mem_iff_getElem?.2 ⟨i, by simpa using hu⟩)⟩
    · exact rg.inv b i u hu
  · obtain ⟨q1, q2, q3, ds, T1, fz1, f1, f2, f3, f4, f5, f6⟩ := rg.ob o b hb
    refine ⟨q1, q2, q3, ds, T1, fz1, f1, f2, f3, fun i v hv => ?_, f5, fun i hi => ?_⟩
    · obtain ⟨u, a, r, c⟩ := f4 i v hv
      exact ⟨u, a, r.mono x, c⟩
    · have hne : (g.φ o).1 ≠ w.heap.size := by have := rh.lt hb; omega
      simp only [Gh.commit]
      rw [if_neg (fun h => hne h.1)]
      exact f6 i hi
  · have hi : i < arr.size := by have := (List.getElem?_eq_some_iff.1 hu).1; simpa using this
    simp only [Gh.commit, Nat.zero_add]
    rw [if_pos ⟨trivial, Nat.zero_le _, hi⟩]
    simpa using hu

theorem step_data {H : Hp} {w' : World} (arr : Array Value) (x : Ext g H (g.commit w.heap.size 0 arr.size arr) H) (hos : w'.os = w.os) (ht : w'.tape = w.tape) (ho : w'.output = w.output) (hs : w.heap.size ≤ w'.heap.size)
    (hk : ∀ k, k < w.heap.size → w'.heap[k]? = w.heap[k]?) : Step g H w (g.commit w.heap.size 0 arr.size arr) H w' :=
  ⟨hos, ht, ho, hs, fun k h _ => ⟨hk k h, fun i => by simp only [Gh.commit]; rw [if_neg (by omega)]⟩, x, fun o ob h => .inr ⟨o, ob, h, rfl⟩⟩

theorem abuildSlice_ok (fr : FR g0 H0 w0 g lam s w) {q : Bool} {t : TypeId} {n : Nat} {ps : List (Nat × AV)} {v : AV} {H' : Hp} {qs : Array (Nat × Value)} (h : abuildSlice q P s.h t n ps = some (v, H')) (hq : PairsR g s.h lam ps qs.toList) :
    ∃ y g' w', (Instr.buildSlice t n qs).run P w = .ok y w' ∧ FR g0 H0 w0 g' lam ⟨s.e, s.l, H'⟩ w' ∧ Step g s.h w g' H' w' ∧ Rel g' H' v y := by
  unfold abuildSlice at h
  split at h
  · rename_i e hu
    split at h
    · rename_i sz hs
      split at h
      · rename_i z hz
        split at h
        · rename_i hc
          obtain ⟨c1, c2, c3⟩ := hc
          split at h
          · rename_i cs hf
            split at h
            · rename_i cs' H1 hst
              cases h
              obtain ⟨i, zv, hi, hiz, rfl, hone⟩ := zeroT_info hz
              have hzs : zv.cells.size = sz := by simpa using c1
              have hl : ((Array.range (n * sz)).map (fun x => zv.cells[x % zv.cells.size]!)).toList = (List.replicate n zv.cells.toList).flatten := rangeZ_toList zv.cells n _ (by omega) (by rw [hzs])
              obtain ⟨arr, f1, f2, f3⟩ := fill_ok (g := g) (H := s.h) (place' := fun i => some (i * sz, sz)) (fun _ _ h => h) ps qs.toList _ cs ((Array.range (n * sz)).map (fun x => zv.cells[x % zv.cells.size]!)) hf hq
                (by rw [hl]; exact relL_repl (relL_ofA _ _ _) _) (by rw [hl]; exact all_repl hone _)
              obtain ⟨g1, s1, r1⟩ := stripL_ok q w depthS hst fr.rh f2
              have hrun : (Instr.buildSlice t n qs).run P w = .ok (.slice (some ⟨w.heap.size, 0, none⟩) n n) (w.alloc (.cells arr e)) := by
                have hle : ¬ (n * sz > 2 ^ 24) := by have : (2 : Nat) ^ 24 = 16777216 := by decide
                                                     omega
                simp only [Instr.buildSlice, Sem.run_bind, run_underlying hu, Result.andThen_ok, run_sizeOf_szT hs]
                rw [if_neg hle]
                by_cases h0 : n * sz = 0
                · have hr0 : Array.range 0 = #[] := rfl
                  have f1' : Instr.fill (fun i => some (i * sz, sz)) #[] qs.toList = some arr := by
                    have : ((Array.range (n * sz)).map (fun x => zv.cells[x % zv.cells.size]!)) = #[] := by rw [h0, hr0]; simp
                    rw [← this]; exact f1
                  simp [h0, hr0, f1', newRow]
                · rw [if_neg h0]
                  simp [run_zeroValue_of hi hiz, f1, newRow]
              have hk : ∀ k, k < w.heap.size → (w.alloc (.cells arr e)).heap[k]? = w.heap[k]? := fun k hk => Go.RowKit.Below.heap_alloc w _ k hk
              have fr1 := fr.strip s1
              obtain ⟨rh2, x2, im⟩ := s1.rh.addData (T := e) f3 hk (heap_alloc_new w _)
              have st2 := step_data (w' := w.alloc (.cells arr e)) arr x2 rfl rfl rfl (by simp) hk
              refine ⟨_, _, _, hrun, fr1.next rh2 st2, s1.step.trans st2, Rel.data _ _ (.slice _ _ _ arr.toList _ _ _ (Nat.le_refl _) (fun _ => rfl) r1.1 im (fun i v u a b => (r1.2 i v u a b).mono x2.mem))⟩
            · cases h
          · cases h
        · cases h
      · cases h
    · cases h
  · cases h

/-! ### Appending -/
theorem src_plain {H : Hp} (rh : RH g H w) {x : AV} {u : Value} {esz k : Nat} {ys : List AV} (hr : RelT g H lam x u) (h : content H x esz = some (k, ys)) :
    ∃ us, ys.length = k * esz ∧ RelL g H ys us ∧ (∀ x, x ∈ us → x.oneCell' = true) ∧ (∀ (P : Program) (w' : World), (Builtin.lenOf u).run P w' = .ok k w') ∧
      (∀ (P : Program) (w' : World), (∀ a, w'.cell? a = w.cell? a) → (Builtin.firstCells esz k u).run P w' = .ok us.toArray w') := by
  rcases content_ok rh (hr.rel (content_noloc h)) h with ⟨c, rfl, rfl, rfl⟩ | ⟨b, off, cap, us, rfl, hlen, hh, hrel⟩
  · exact ⟨[], by simp, .nil _ _, by simp, fun P w' => rfl, fun P w' _ => by simp [Builtin.firstCells]⟩
  · refine ⟨us, by rw [← hrel.1]; exact hlen, hrel, fun x hx => ?_, fun P w' => rfl, fun P w' hw => run_firstCells_some w' esz k _ _ _ us hlen fun j v hv => ?_⟩
    · obtain ⟨i, hi⟩ := List.mem_iff_getElem?.1 hx
      exact (hh i x hi).2
    · rw [addr_add, hw]; exact (hh j v hv).1

theorem src_ok {H : Hp} (rh : RH g H w) {x : AV} {u : Value} {esz k : Nat} {ys : List AV} (hr : RelT g H lam x u) (h : srcA H x esz = some (k, ys)) :
    ∃ us, ys.length = k * esz ∧ RelL g H ys us ∧ (∀ x, x ∈ us → x.oneCell' = true) ∧ (∀ (P : Program) (w' : World), (Builtin.lenOf u).run P w' = .ok k w') ∧
      (∀ (P : Program) (w' : World), (∀ a, w'.cell? a = w.cell? a) → (Builtin.firstCells esz k u).run P w' = .ok us.toArray w') := by
  cases x with
  | str sb =>
    simp only [srcA] at h
    split at h
    · rename_i he
      subst he
      cases h
      obtain rfl := rel_str hr
      exact ⟨Lib.strCells sb, by rw [← (u8s_rel g H sb).1, Lib.strCells_length, Nat.mul_one], u8s_rel g H sb, Lib.strCells_oneCell sb, fun P w' => rfl, fun P w' _ => Lib.run_firstCells_string w' 1 sb⟩
    · cases h
  | _ => exact src_plain rh hr h

theorem run_append_fits' {ts : Array TypeId} {ty st xt e : TypeId} {dx : TypeDesc} {i : TypeInfo} (h0 : ts[0]? = some st) (h1 : ts[1]? = some xt) (hu : P.underlying st = some (.slice e)) (hx : P.underlying xt = some dx)
    (hd : ∀ k, dx ≠ .int k) (hi : P.info? e = some i) {base : Option Addr} {sLen sCap k : Nat} {x : Value} {us : List Value} (hle : sLen + k ≤ sCap) (hlen : (Builtin.lenOf x).run P w = .ok k w)
    (hfc : (Builtin.firstCells i.size k x).run P w = .ok us.toArray w) {w' : World} (hs : ∀ a, base = some a → (storeCells (a.add (sLen * i.size)) us).run P w = .ok () w') (hn : base = none → w' = w) :
    (Builtin.append_ ts ty #[.slice base sLen sCap, x]).run P w = .ok (.slice base (sLen + k) sCap) w' := by
  have hz : (match dx with | .int _ => true | _ => false) = false := by cases dx <;> first | rfl | exact absurd rfl (hd _)
  simp only [Builtin.append_, h0, h1, List.getElem?_toArray, List.getElem?_cons_zero, List.getElem?_cons_succ, Sem.run_bind, run_underlying hu, run_underlying hx, Result.andThen_ok, sizeOf, typeInfo, run_program, hi, Sem.run_pure]
  cases base with
  | none =>
    obtain rfl := hn rfl
    cases dx <;> first
      | exact absurd rfl (hd _)
      | simp [hlen, hle, hfc]
  | some a =>
    have := hs a rfl
    cases dx <;> first
      | exact absurd rfl (hd _)
      | simp [hlen, hle, hfc, this]

theorem run_append_grows' {ts : Array TypeId} {ty st xt e : TypeId} {dx : TypeDesc} {i : TypeInfo} {zv : Value} (h0 : ts[0]? = some st) (h1 : ts[1]? = some xt) (hu : P.underlying st = some (.slice e)) (hx : P.underlying xt = some dx)
    (hd : ∀ k, dx ≠ .int k) (hi : P.info? e = some i) (hz : i.zero = some zv) {base : Option Addr} {sLen sCap k : Nat} {x : Value} {old us : List Value} (hlt : sCap < sLen + k) (hb : (sLen + k) * (i.bytes + 1) ≤ 70368744177664)
    (hlen : (Builtin.lenOf x).run P w = .ok k w) (hfo : (Builtin.firstCells i.size sLen (.slice base sLen sCap)).run P w.drew = .ok old.toArray w.drew) (hfc : (Builtin.firstCells i.size k x).run P w.drew = .ok us.toArray w.drew) :
    (Builtin.append_ ts ty #[.slice base sLen sCap, x]).run P w = .ok (.slice (some ⟨w.heap.size, 0, none⟩) (sLen + k) (grownCap w (sLen + k) sCap e))
      (w.drew.alloc (.cells (old.toArray ++ (us.toArray ++ Builtin.zeroCells zv.cells (grownCap w (sLen + k) sCap e - (sLen + k)))) e)) := by
  have hmul : (sLen + k) * i.bytes + (sLen + k) ≤ 70368744177664 := by rw [← Nat.mul_succ]; exact hb
  have hbig : ¬ ((sLen + k : Nat) : Int) > IntKind.i64.max := by
    have : IntKind.i64.max = 9223372036854775807 := by decide
    rw [this]; omega
  have hnx : ¬ (Builtin.nextslicecap (sLen + k) sCap * i.bytes > 2 ^ 48) := by
    have := growslice_fits (bytes := i.bytes) hlt (by omega)
    have h2 : (2 : Nat) ^ 48 = 281474976710656 := by decide
    omega
  simp only [Builtin.append_, h0, h1, List.getElem?_toArray, List.getElem?_cons_zero, List.getElem?_cons_succ, Sem.run_bind, run_underlying hu, run_underlying hx, Result.andThen_ok, sizeOf, typeInfo, run_program, hi, Sem.run_pure]
  have hbig' : ¬ ((9223372036854775807 : Int) < ((sLen : Int) + (k : Int))) := by omega
  have hnx' : ¬ (2 ^ 48 < Builtin.nextslicecap (sLen + k) sCap * i.bytes) := hnx
  cases dx <;> first
    | exact absurd rfl (hd _)
    | simp [hlen, Nat.not_le.2 hlt, hbig', hnx', hfo, hfc, Question.forced, zeroValue, typeInfo, hi, hz, newRow, grownCap]

theorem strip_keeps {q : Bool} : ∀ (n : Nat) (H : Hp) (v v' : AV) (H' : Hp), strip q n H v = some (v', H') → v.isLoc = false := by
  intro n H v v' H' h
  cases n with
  | zero => simp [strip] at h
  | succ n => cases v <;> first | rfl | simp [strip] at h

theorem zeroCells_size (z : Array Value) (n : Nat) : (Builtin.zeroCells z n).size = n * z.size := by simp [Builtin.zeroCells]

theorem aappend_ok (fr : FR g0 H0 w0 g lam s w) {ts : Array TypeId} {ty : TypeId} {a x v : AV} {ua ux : Value} {H' : Hp} (ha : RelT g s.h lam a ua) (hx : RelT g s.h lam x ux) (h : aappend P s.h ts a x = some (v, H')) :
    ∃ y g' w', (Builtin.append_ ts ty #[ua, ux]).run P w = .ok y w' ∧ FR g0 H0 w0 g' lam ⟨s.e, s.l, H'⟩ w' ∧ Ext g s.h g' H' ∧ Rel g' H' v y := by
  unfold aappend at h
  split at h
  · rename_i st xt h0 h1
    split at h
    · cases h
    · rename_i e dx hneg hu hd
      split at h
      · rename_i i hi
        split at h
        · cases h
        · rename_i hcond
          have hsz0 : i.size ≠ 0 := fun e => hcond (.inl e)
          obtain ⟨z, hz, hzl⟩ : ∃ z, zeroT P e = some z ∧ z.length = i.size := by
            cases hz : zeroT P e with
            | none => exact absurd (.inr (by rw [hz]; simp)) hcond
            | some z => refine ⟨z, rfl, ?_⟩
                        rcases Nat.decEq z.length i.size with hne | he
                        · exact absurd (.inr (by rw [hz]; simpa using hne)) hcond
                        · exact he
          obtain ⟨i', zv, b1, b2, rfl, b4⟩ := zeroT_info hz
          rw [hi] at b1; cases b1
          have hzs : zv.cells.size = i.size := by simpa using hzl
          have hdx : ∀ k, dx ≠ .int k := fun k e => hneg k e
          split at h
          · rename_i k ys0 hsrc
            obtain ⟨us, l1, r1, o1, f1, f2⟩ := src_ok fr.rh hx hsrc
            split at h
            · rename_i ys H1 hst
              obtain ⟨g1, s1, rd⟩ := stripL_ok false w depthS hst fr.rh r1
              have fr1 := fr.strip s1
              have x1 := s1.step.ext
              have r2 : RelL g1 H1 ys us := rd.rel
              have hul : us.length = k * i.size := by rw [r1.1]; exact l1
              split at h
              · rename_i n cs ex
                split at h
                · -- nothing is appended
                  rename_i hk
                  subst hk
                  cases h
                  obtain rfl : us = [] := List.eq_nil_of_length_eq_zero (by simpa using hul)
                  have hrel : Rel g1 _ (.slice n cs ex) ua := Rel.mono x1 ha
                  have hf : (Builtin.firstCells i.size 0 ux).run P w = .ok ([] : List Value).toArray w := f2 P w (fun _ => rfl)
                  rcases rel_slice ha with ⟨cap, rfl, rfl, rfl, hc⟩ | ⟨b, off, cap, us', rfl, hcap, hc, h2, h3⟩
                  · exact ⟨_, g1, w, run_append_fits' h0 h1 hu hd hdx hi (Nat.zero_le _) (f1 P w) hf (fun a e => by cases e) (fun _ => rfl), fr1, x1, hrel⟩
                  · exact ⟨_, g1, w, run_append_fits' h0 h1 hu hd hdx hi (by simpa using hcap) (f1 P w) hf (fun a e => rfl) (fun e => by cases e), fr1, x1, hrel⟩
                · rename_i hk
                  split at h
                  · rename_i hc
                    obtain ⟨c1, c2, c3⟩ := hc
                    subst c1
                    cases h
                    -- a new array
                    obtain ⟨base, cap, old, hua, hcap, hold, hro, hoo, hfo⟩ : ∃ (base : Option Addr) (cap : Nat) (old : List Value), ua = .slice base n cap ∧ cap = n ∧ old.length = n * i.size ∧ RelL g1 H1 cs old ∧ (∀ x, x ∈ old → x.oneCell' = true) ∧
                        (Builtin.firstCells i.size n (.slice base n cap)).run P w.drew = .ok old.toArray w.drew := by
                      rcases rel_slice ha with ⟨cap, rfl, rfl, rfl, hc⟩ | ⟨b, off, cap, us', rfl, hcap, hc, h2, h3⟩
                      · exact ⟨none, cap, [], rfl, hc rfl, by simp, .nil _ _, by simp, by simp [Builtin.firstCells]⟩
                      · refine ⟨_, cap, us', rfl, hc rfl, by rw [h3.1]; exact c2, (RelDL.rel (g := g) (H := s.h) h3).mono x1, fun x hx => ?_, run_firstCells_some w.drew i.size n _ _ _ us' (by rw [h3.1]; exact c2) fun j v hv => ?_⟩
                        · obtain ⟨j, hj⟩ := List.mem_iff_getElem?.1 hx
                          exact (fr.rh.inv _ _ _ (h2 j x hj)).2
                        · rw [addr_add]; exact (fr.rh.inv _ _ _ (h2 j v hv)).1
                    subst hcap hua
                    have hrun := run_append_grows' (ty := ty) (P := P) (w := w) h0 h1 hu hd hdx hi b2 (sCap := cap) (sLen := cap) (base := base) (by omega) c3 (f1 P w) hfo (f2 P w.drew (fun _ => rfl))
                    have hg := grownCap_ge w (cap + k) cap e
                    generalize hcap' : grownCap w (cap + k) cap e = nc at hrun hg
                    have hsz : (old.toArray ++ (us.toArray ++ Builtin.zeroCells zv.cells (nc - (cap + k)))).size = nc * i.size := by
                      simp only [Array.size_append, List.size_toArray, zeroCells_size, hold, hul, hzs]
                      rw [← Nat.add_mul, ← Nat.add_mul]; congr 1; omega
                    have hcl : (cs ++ ys).length = (cap + k) * i.size := by rw [List.length_append, ← hro.1, ← r2.1, hold, hul, ← Nat.add_mul]
                    have hcut : cut (old.toArray ++ (us.toArray ++ Builtin.zeroCells zv.cells (nc - (cap + k)))).toList 0 (cs ++ ys).length = old ++ us := by
                      rw [hcl]
                      simp only [cut, List.drop_zero, Array.toList_append]
                      rw [← List.append_assoc, List.take_append_of_le_length (by rw [List.length_append, hold, hul, ← Nat.add_mul]; exact Nat.le_refl _)]
                      exact List.take_of_length_le (by rw [List.length_append, hold, hul, ← Nat.add_mul]; exact Nat.le_refl _)
                    have hkk : ∀ c, c < w.heap.size → (w.drew.alloc (.cells (old.toArray ++ (us.toArray ++ Builtin.zeroCells zv.cells (nc - (cap + k)))) e)).heap[c]? = w.heap[c]? := fun c hc => Go.RowKit.Below.heap_alloc w.drew _ c hc
                    refine ⟨_, _, _, hrun, fr1.next (fr1.rh.newOb (arr := old.toArray ++ (us.toArray ++ Builtin.zeroCells zv.cells (nc - (cap + k)))) (T := e) (fz := (0, 0)) (cs := cs ++ ys) (ty := some (e, false)) (fun t h => by cases h; exact ⟨rfl, fun h => (by cases h), .inl rfl⟩)
                      (by rw [hcl, hsz]; exact Nat.mul_le_mul_right _ hg) (by rw [hcut]; exact hro.append r2) (by rw [hcut]; exact fun x hx => (List.mem_append.1 hx).elim (hoo x) (o1 x)) (fun i hi => by simp) hkk (heap_alloc_new w.drew _))
                      (step_new fr1.rh _ _ _ rfl rfl rfl (by simp) hkk), x1.trans (ext_new _ _ _ _), ?_⟩
                    refine Rel.vec _ _ _ _ _ _ (Nat.lt_succ_self _) (Nat.lt_succ_self _) rfl fun b hb hv => ⟨nc, by simp [Gh.put], hg, ?_⟩
                    simp only [Gh.put, if_true, hsz]
                    omega
                  · cases h
              · rename_i o ver off n esz
                split at h
                · rename_i b hb
                  split at h
                  · cases h
                  · rename_i hver
                    have hver : b.ver = ver := Classical.not_not.1 hver
                    have hrel : Rel g1 H1 (.vec o ver off n esz) ua := Rel.mono x1 ha
                    obtain ⟨cap, hua, d1, d2⟩ := rel_vec hrel hb hver
                    split at h
                    · rename_i hk
                      subst hk
                      cases h
                      obtain rfl : us = [] := List.eq_nil_of_length_eq_zero (by simpa using hul)
                      have hf : (Builtin.firstCells i.size 0 ux).run P w = .ok ([] : List Value).toArray w := f2 P w (fun _ => rfl)
                      rw [hua] at hrel ⊢
                      exact ⟨_, g1, w, run_append_fits' h0 h1 hu hd hdx hi (by simpa using d1) (f1 P w) hf (fun a e => rfl) (fun e => by cases e), fr1, x1, hrel⟩
                    · rename_i hk
                      split at h
                      · rename_i hc
                        obtain ⟨c1, c2, c3, c4⟩ := hc
                        cases h
                        subst c1 hua
                        obtain ⟨arr, T, fz, e1, e2, e3, e4, e5, e6, e7⟩ := s1.rh.row hb
                        have hcb : (cut b.cells off (n * i.size) ++ ys).length = (n + k) * i.size := by
                          rw [List.length_append, ← r2.1, hul, Nat.add_mul]
                          congr 1
                          simp [cut]; omega
                        have hold : (cut (cut arr.toList (g1.φ o).2.1 b.cells.length) off (n * i.size)).length = n * i.size := by simp [cut]; omega
                        by_cases hfit : n + k ≤ cap
                        · -- in place
                          have hmul : (n + k) * i.size ≤ cap * i.size := Nat.mul_le_mul_right _ hfit
                          rw [Nat.add_mul] at hmul
                          have hle : (g1.φ o).2.1 + off + n * i.size + us.length ≤ arr.size := by omega
                          have hh := heap_setCells_here (g1.φ o).1 T fz us ((g1.φ o).2.1 + off + n * i.size) w arr e1 hle
                          have hsl : (splice arr.toList ((g1.φ o).2.1 + off + n * i.size) us).length = arr.size := by rw [splice_length _ _ _ (by simpa using hle)]; simp
                          have wc := WC.setCells w (g1.φ o).1 ((g1.φ o).2.1 + off + n * i.size) us
                          have hcut : cut (splice arr.toList ((g1.φ o).2.1 + off + n * i.size) us) ((g1.φ o).2.1 + off) (cut b.cells off (n * i.size) ++ ys).length =
                              cut (cut arr.toList (g1.φ o).2.1 b.cells.length) off (n * i.size) ++ us := by
                            rw [hcb]
                            apply List.ext_getElem?
                            intro j
                            unfold cut at hold ⊢
                            rw [List.getElem?_take, List.getElem?_drop, splice_get _ _ _ (by simpa using hle)]
                            rw [Nat.add_mul, ← hul]
                            by_cases h1 : j < n * i.size
                            · rw [if_pos (by omega), if_pos (by omega), List.getElem?_append_left (by rw [hold]; exact h1), List.getElem?_take, if_pos h1, List.getElem?_drop, List.getElem?_take, if_pos (by omega), List.getElem?_drop, Nat.add_assoc]
                            · rw [List.getElem?_append_right (by rw [hold]; omega), hold]
                              by_cases h2 : j < n * i.size + us.length
                              · rw [if_pos h2, if_neg (by omega), if_pos (by omega), show (g1.φ o).2.1 + off + j - ((g1.φ o).2.1 + off + n * i.size) = j - n * i.size by omega]
                              · rw [if_neg h2, List.getElem?_eq_none (by omega)]
                          have hst' : (storeCells ((⟨(g1.φ o).1, (g1.φ o).2.1 + off, none⟩ : Addr).add (n * i.size)) us).run P w = .ok () (w.setCells (g1.φ o).1 ((g1.φ o).2.1 + off + n * i.size) us) := by
                            rw [addr_add]
                            have := run_storeCells_cells (P := P) (g1.φ o).1 ((g1.φ o).2.1 + off + n * i.size) us 0 w (fun j hj => by
                              rw [cell_of_row _ _ _ _ _ _ e1]
                              simp only [Nat.add_zero]
                              rw [Array.getElem?_eq_getElem (by omega)]; rfl) (fun j hj => by
                              have := e6 ((g1.φ o).2.1 + off + n * i.size + j) (by omega) (by omega)
                              simp only [World.frozen?, e1, Nat.add_zero]
                              simpa using this) o1
                            simpa using this
                          have hrun := run_append_fits' (ty := ty) h0 h1 hu hd hdx hi hfit (f1 P w) (f2 P w (fun _ => rfl)) (w' := w.setCells (g1.φ o).1 ((g1.φ o).2.1 + off + n * i.size) us)
                            (base := some ⟨(g1.φ o).1, (g1.φ o).2.1 + off, none⟩) (fun a e => by cases e; exact hst') (fun e => by cases e)
                          have hkc : ∀ c, c < w.heap.size → c ≠ (g1.φ o).1 → (w.setCells (g1.φ o).1 ((g1.φ o).2.1 + off + n * i.size) us).heap[c]? = w.heap[c]? := fun c h1 h2 => wc.other c h2 h1
                          have rh2 := s1.rh.reOb hb (w' := w.setCells (g1.φ o).1 ((g1.φ o).2.1 + off + n * i.size) us) (p := ((g1.φ o).1, (g1.φ o).2.1 + off, (g1.φ o).2.2))
                            (arr := (splice arr.toList ((g1.φ o).2.1 + off + n * i.size) us).toArray) (T := T) (fz := fz) (cs := cut b.cells off (n * i.size) ++ ys) (k := b.fz - off) (ty := reTy b.ty e) (fun t ht => by
                              unfold reTy at ht
                              split at ht
                              · rename_i t0 x0 hty0
                                split at ht
                                · rename_i he0; cases ht; subst he0
                                  obtain ⟨c1', z1', hh1, _, hq1⟩ := s1.rh.typ o b _ hb hty0
                                  rw [e1] at hh1; cases hh1
                                  exact ⟨rfl, fun h => (by cases h), hq1.mono (by simp only []; omega)⟩
                                · cases ht
                              · cases ht) hh (by rw [List.size_toArray, hsl]; exact e2)
                            (by rw [List.size_toArray, hsl, hcb, Nat.add_mul, ← hul]; simp only []; omega) (by rw [hcb, Nat.add_mul]; omega) (by rw [hcut]; exact (e4.cut _ _).append r2)
                            (by rw [hcut]; exact fun x hx => (List.mem_append.1 hx).elim (all_cut e5 x) (o1 x)) (fun j h1 h2 => e6 j (by simp only [] at h1; omega) (by rw [List.size_toArray, hsl] at h2; exact h2))
                            (fun j h1 => e7 j (by simp only [] at h1; omega)) hkc (fun j u hu' => by
                              have hj : j < (g1.φ o).2.1 + b.fz := by
                                rcases Nat.lt_or_ge j ((g1.φ o).2.1 + b.fz) with h | h
                                · exact h
                                · rw [e7 j h] at hu'; cases hu'
                              have hc1 := (s1.rh.inv _ _ _ hu').1
                              rw [cell_of_row _ _ _ _ _ _ e1] at hc1
                              rw [cell_of_row _ _ _ _ _ _ hh]
                              have := splice_get arr.toList ((g1.φ o).2.1 + off + n * i.size) us (by simpa using hle) j
                              rw [if_pos (by omega)] at this
                              rw [← hc1]; simpa using this) (.inl rfl)
                          have st2 := step_re s1.rh hb (w' := w.setCells (g1.φ o).1 ((g1.φ o).2.1 + off + n * i.size) us) ((g1.φ o).1, (g1.φ o).2.1 + off, (g1.φ o).2.2) (cut b.cells off (n * i.size) ++ ys) (b.fz - off) (reTy b.ty e) wc.os wc.tape wc.output wc.size hkc (.inl rfl)
                          refine ⟨_, _, _, hrun, fr1.next rh2 st2, x1.trans st2.ext, ?_⟩
                          refine Rel.vec _ _ _ _ _ _ (Nat.lt_succ_of_lt (s1.rh.ob o b hb).1) (Nat.lt_succ_self _) rfl fun b' hb' hv' => ⟨cap, by simp [Gh.put], hfit, ?_⟩
                          simp only [Gh.put, if_true]
                          omega
                        · -- a new array
                          have hfo : (Builtin.firstCells i.size n (.slice (some ⟨(g1.φ o).1, (g1.φ o).2.1 + off, none⟩) n cap)).run P w.drew = .ok (cut (cut arr.toList (g1.φ o).2.1 b.cells.length) off (n * i.size)).toArray w.drew :=
                            run_firstCells_some w.drew i.size n _ _ _ _ hold fun j v hv => by
                              rw [addr_add]; exact ((holds_row e1 e5).cut off (n * i.size) j v hv).1
                          have hrun := run_append_grows' (ty := ty) (P := P) (w := w) h0 h1 hu hd hdx hi b2 (sCap := cap) (sLen := n) (base := some ⟨(g1.φ o).1, (g1.φ o).2.1 + off, none⟩) (by omega) c4 (f1 P w) hfo (f2 P w.drew (fun _ => rfl))
                          have hg := grownCap_ge w (n + k) cap e
                          generalize hcap' : grownCap w (n + k) cap e = nc at hrun hg
                          generalize hob : cut (cut arr.toList (g1.φ o).2.1 b.cells.length) off (n * i.size) = old at hrun hold hfo
                          have hro : RelL g1 H1 (cut b.cells off (n * i.size)) old := by rw [← hob]; exact e4.cut _ _
                          have hoo : ∀ x, x ∈ old → x.oneCell' = true := by rw [← hob]; exact all_cut e5
                          have hsz : (old.toArray ++ (us.toArray ++ Builtin.zeroCells zv.cells (nc - (n + k)))).size = nc * i.size := by
                            simp only [Array.size_append, List.size_toArray, zeroCells_size, hold, hul, hzs]
                            rw [← Nat.add_mul, ← Nat.add_mul]; congr 1; omega
                          have hcut : cut (old.toArray ++ (us.toArray ++ Builtin.zeroCells zv.cells (nc - (n + k)))).toList 0 (cut b.cells off (n * i.size) ++ ys).length = old ++ us := by
                            rw [hcb]
                            simp only [cut, List.drop_zero, Array.toList_append]
                            rw [← List.append_assoc, List.take_append_of_le_length (by rw [List.length_append, hold, hul, ← Nat.add_mul]; exact Nat.le_refl _)]
                            exact List.take_of_length_le (by rw [List.length_append, hold, hul, ← Nat.add_mul]; exact Nat.le_refl _)
                          have hkk : ∀ c, c < w.heap.size → (w.drew.alloc (.cells (old.toArray ++ (us.toArray ++ Builtin.zeroCells zv.cells (nc - (n + k)))) e)).heap[c]? = w.heap[c]? := fun c hc => Go.RowKit.Below.heap_alloc w.drew _ c hc
                          have rh2 := s1.rh.reOb hb (w' := w.drew.alloc (.cells (old.toArray ++ (us.toArray ++ Builtin.zeroCells zv.cells (nc - (n + k)))) e)) (p := (w.heap.size, 0, nc * i.size))
                            (arr := old.toArray ++ (us.toArray ++ Builtin.zeroCells zv.cells (nc - (n + k)))) (T := e) (fz := (0, 0)) (cs := cut b.cells off (n * i.size) ++ ys) (k := b.fz - off) (ty := reTy b.ty e) (fun t ht => by
                              unfold reTy at ht
                              split at ht
                              · split at ht
                                · cases ht; exact ⟨rfl, fun h => (by cases h), .inl rfl⟩
                                · cases ht
                              · cases ht) (heap_alloc_new w.drew _) hsz
                            (by rw [hsz, hcb]; simp only [Nat.zero_add]; exact Nat.mul_le_mul_right _ hg) (by rw [hcb, Nat.add_mul]; omega) (by rw [hcut]; exact hro.append r2)
                            (by rw [hcut]; exact fun x hx => (List.mem_append.1 hx).elim (hoo x) (o1 x)) (fun j h1 h2 => by simp) (fun j h1 => s1.rh.none_at (Nat.le_refl _) j) (fun c h1 h2 => hkk c h1)
                            (fun j u hu' => by rw [World.cell?_of_block (w := w) (hkk _ (s1.rh.lt hb))]; exact (s1.rh.inv _ _ _ hu').1) (.inr rfl)
                          have st2 := step_re s1.rh hb (w' := w.drew.alloc (.cells (old.toArray ++ (us.toArray ++ Builtin.zeroCells zv.cells (nc - (n + k)))) e)) (w.heap.size, 0, nc * i.size) (cut b.cells off (n * i.size) ++ ys) (b.fz - off) (reTy b.ty e) rfl rfl rfl (by simp) (fun c h1 h2 => hkk c h1) (.inr rfl)
                          refine ⟨_, _, _, hrun, fr1.next rh2 st2, x1.trans st2.ext, ?_⟩
                          refine Rel.vec _ _ _ _ _ _ (Nat.lt_succ_of_lt (s1.rh.ob o b hb).1) (Nat.lt_succ_self _) rfl fun b' hb' hv' => ⟨nc, by simp [Gh.put], hg, ?_⟩
                          simp [Gh.put]
                      · cases h
                · cases h
              · cases h
            · cases h
          · cases h
      · cases h
    · cases h
  · cases h

/-! ### New variables -/
theorem clr_rel {H : Hp} {d : Nat} {lam' : Nat → Option Nat} (hl : ∀ d', d' ≠ d → lam' d' = lam d') {v : AV} {u : Value} (h : RelT g H lam v u) : RelT g H lam' (clrV d v) u := by
  cases v <;> first
    | exact h
    | skip
  rename_i d' off
  simp only [clrV]
  split
  · exact RelT.undef _ _ _ _
  · rename_i hne
    intro b hb
    rw [hl d' hne] at hb
    exact h b hb

/-- A new local variable. -/
theorem FR.newLoc (fr : FR g0 H0 w0 g lam s w) {d : Nat} {cs : List AV} {arr : Array Value} {T : TypeId} (hr : RelL g s.h cs arr.toList) (ho : ∀ x, x ∈ arr.toList → x.oneCell' = true) :
    FR g0 H0 w0 g (fun i => if i = d then some w.heap.size else lam i) ⟨s.e.clr d, s.l.upd d cs, s.h⟩ (w.alloc (.cells arr T)) := by
  have hk : ∀ k, k < w.heap.size → (w.alloc (.cells arr T)).heap[k]? = w.heap[k]? := fun k hk => Go.RowKit.Below.heap_alloc w _ k hk
  refine ⟨fr.rh.grown hk, ⟨fun d' cs' hd' => ?_, fun d' hd' => ?_, fun d1 d2 b h1 h2 => ?_, fun d' b o ob h1 h2 => ?_⟩, fr.step.trans (step_grown rfl rfl rfl (by simp) hk), fun d' b h => ?_⟩
  · simp only [Lo.upd] at hd'
    split at hd'
    · rename_i e; subst e; cases hd'
      refine ⟨w.heap.size, arr, T, (0, 0), by simp, heap_alloc_new w _, by have := hr.1; simpa using this, fun i v hv => ?_, fun i _ => by simp, fun i => fr.rh.none_at (Nat.le_refl _) i⟩
      obtain ⟨u, a, r⟩ := hr.mem i v hv
      exact ⟨u, by simpa using a, r, ho u (List.mem_iff_getElem?.2 ⟨i, a⟩)⟩
    · rename_i hne
      obtain ⟨b, cc, T', fz, e1, e2, e3⟩ := fr.rl.lo d' cs' hd'
      exact ⟨b, cc, T', fz, by simp only [if_neg hne]; exact e1, by rw [hk _ (fr.rl.lt e1).1]; exact e2, e3⟩
  · simp only [Lo.upd] at hd'
    split at hd'
    · cases hd'
    · rename_i hne; simp only [if_neg hne]; exact fr.rl.dead d' hd'
  · split at h1
    · rename_i e1
      split at h2
      · rename_i e2; rw [e1, e2]
      · cases h1; exact absurd (fr.rl.lt h2).1 (Nat.lt_irrefl _)
    · split at h2
      · cases h2; exact absurd (fr.rl.lt h1).1 (Nat.lt_irrefl _)
      · exact fr.rl.inj d1 d2 b h1 h2
  · split at h1
    · cases h1; have := fr.rh.lt h2; omega
    · exact fr.rl.apart d' b o ob h1 h2
  · split at h
    · cases h; exact fr.step.size
    · exact fr.low d' b h

end
end Go.Am
