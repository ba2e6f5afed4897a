/- The abstract machine's memory against the machine's: reading, writing, new variables, freezing, growing. -/
import Derived.Test.YtmdggnehhebkhaaGreatDoorAm1
set_option linter.unusedVariables false
namespace Go.Am
open Go

/-- One block at most turned, and none went. -/
structure WC (w w' : World) (blk : Nat) : Prop where
  os : w'.os = w.os
  tape : w'.tape = w.tape
  output : w'.output = w.output
  size : w.heap.size ≤ w'.heap.size
  other : ∀ k, k ≠ blk → k < w.heap.size → w'.heap[k]? = w.heap[k]?

theorem WC.refl (w : World) (b : Nat) : WC w w b := ⟨rfl, rfl, rfl, Nat.le_refl _, fun _ _ _ => rfl⟩
theorem WC.alloc (w : World) (o : Obj) : WC w (w.alloc o) w.heap.size := ⟨rfl, rfl, rfl, by simp, fun k h1 h2 => Go.RowKit.Below.heap_alloc w o k h2⟩
theorem WC.drewN {w w' : World} {b : Nat} (h : WC w w' b) : WC w.drew w' b := ⟨h.os, h.tape, h.output, h.size, h.other⟩

theorem heap_setCells_other (b : Nat) : ∀ (vs : List Value) (o : Nat) (w : World) (k : Nat), k ≠ b → (w.setCells b o vs).heap[k]? = w.heap[k]?
  | [], _, _, _, _ => rfl
  | v :: r, o, w, k, h => by rw [World.setCells, heap_setCells_other b r _ _ k h, heap_setCell_other _ _ _ _ h]
theorem size_setCells (b : Nat) : ∀ (vs : List Value) (o : Nat) (w : World), (w.setCells b o vs).heap.size = w.heap.size
  | [], _, _ => rfl
  | v :: r, o, w => by rw [World.setCells, size_setCells b r, World.size_setCell]
theorem setCells_rest (b : Nat) : ∀ (vs : List Value) (o : Nat) (w : World), (w.setCells b o vs).os = w.os ∧ (w.setCells b o vs).tape = w.tape ∧ (w.setCells b o vs).output = w.output
  | [], _, _ => ⟨rfl, rfl, rfl⟩
  | v :: r, o, w => by rw [World.setCells]; exact setCells_rest b r _ _
theorem WC.setCells (w : World) (b o : Nat) (vs : List Value) : WC w (w.setCells b o vs) b :=
  ⟨(setCells_rest b vs o w).1, (setCells_rest b vs o w).2.1, (setCells_rest b vs o w).2.2, by rw [size_setCells]; exact Nat.le_refl _, fun k h _ => heap_setCells_other b vs o w k h⟩

theorem splice_length {α : Type} (cs : List α) (off : Nat) (new : List α) (h : off + new.length ≤ cs.length) : (splice cs off new).length = cs.length := by simp [splice]; omega
theorem splice_get {α : Type} (cs : List α) (off : Nat) (new : List α) (h : off + new.length ≤ cs.length) (i : Nat) :
    (splice cs off new)[i]? = if i < off then cs[i]? else if i < off + new.length then new[i - off]? else cs[i]? := by
  unfold splice
  by_cases h1 : i < off
  · rw [if_pos h1, List.getElem?_append_left (by simp; omega), List.getElem?_take, if_pos h1]
  · rw [if_neg h1, List.getElem?_append_right (by simp; omega)]
    have e : (cs.take off).length = off := by simp; omega
    rw [e]
    by_cases h2 : i < off + new.length
    · rw [if_pos h2, List.getElem?_append_left (by omega)]
    · rw [if_neg h2, List.getElem?_append_right (by omega), List.getElem?_drop]
      congr 1; omega
theorem splice_nil {α : Type} (cs : List α) (off : Nat) : splice cs off [] = cs := by simp [splice]
theorem splice_cons {α : Type} (cs : List α) (off : Nat) (c : α) (new : List α) (h : off + (new.length + 1) ≤ cs.length) : splice cs off (c :: new) = splice (cs.set off c) (off + 1) new := by
  apply List.ext_getElem?
  intro i
  rw [splice_get _ _ _ (by simpa using h), splice_get _ _ _ (by simp; omega)]
  simp only [List.length_cons, List.getElem?_set]
  by_cases h1 : i < off
  · rw [if_pos h1, if_pos (by omega), if_neg (by omega)]
  · rw [if_neg h1]
    by_cases h2 : i = off
    · subst h2; rw [if_pos (by omega), if_pos (by omega), if_pos rfl, if_pos (by omega)]; simp
    · rw [if_neg (show ¬ i < off + 1 by omega)]
      by_cases h3 : i < off + (new.length + 1)
      · rw [if_pos h3, if_pos (by omega), show i - off = (i - (off + 1)) + 1 by omega, List.getElem?_cons_succ]
      · rw [if_neg h3, if_neg (by omega), if_neg (by omega)]

theorem heap_setCell_here (w : World) (g i : Nat) (cs : Array Value) (t : TypeId) (fz : Nat × Nat) (v : Value) (hg : w.heap[g]? = some (.cells cs t fz)) :
    (w.setCell ⟨g, i, none⟩ v).heap[g]? = some (.cells (cs.setIfInBounds i v) t fz) := by
  simp only [World.setCell, Array.getElem?_modify, if_true, hg, Option.map_some]
  rfl
theorem heap_setCells_here (g : Nat) (t : TypeId) (fz : Nat × Nat) : ∀ (vs : List Value) (o : Nat) (w : World) (cs : Array Value), w.heap[g]? = some (.cells cs t fz) → o + vs.length ≤ cs.size →
    (w.setCells g o vs).heap[g]? = some (.cells (splice cs.toList o vs).toArray t fz)
  | [], o, w, cs, h, _ => by rw [splice_nil]; simpa [World.setCells] using h
  | v :: r, o, w, cs, h, hl => by
    have := heap_setCells_here g t fz r (o + 1) (w.setCell ⟨g, o, none⟩ v) (cs.setIfInBounds o v) (heap_setCell_here w g o cs t fz v h) (by simp at hl ⊢; omega)
    rw [World.setCells, this, splice_cons _ _ _ _ (by simpa using hl)]
    simp

theorem RelL.splice {g : Gh} {H : Hp} {cs new : List AV} {us vs : List Value} (h : RelL g H cs us) (k : RelL g H new vs) (off : Nat) : RelL g H (splice cs off new) (splice us off vs) := by
  unfold Am.splice
  refine (h.take off).append (k.append ?_)
  rw [k.1]
  exact h.drop _

/-! ### Cells of values -/
theorem cells_of {g : Gh} {H : Hp} {v : AV} {u : Value} {cs : List AV} (h : Rel g H v u) (hc : acells v = some cs) : RelL g H cs u.cells.toList ∧ ∀ (x : Value), x ∈ u.cells.toList → x.oneCell' = true := by
  have one : ∀ {x : Value}, x.oneCell' = true → Rel g H v x → cs = [v] → RelL g H cs x.cells.toList ∧ ∀ (y : Value), y ∈ x.cells.toList → y.oneCell' = true := fun {x} h1 h2 h3 => by
    subst h3
    have : x.cells = #[x] := by cases x <;> first | rfl | simp [Value.oneCell'] at h1
    rw [this]
    exact ⟨.cons h2 (.nil _ _), by simpa using h1⟩
  cases v with
  | undef => cases hc
  | loc d off => cases hc
  | tup vs => cases hc
  | agg cs0 =>
    cases hc
    obtain ⟨us, rfl, h1, h2⟩ := rel_agg h
    exact ⟨h1, h2⟩
  | bool b => cases hc; have := rel_bool h; subst this; exact one rfl h rfl
  | int k n => cases hc; have := rel_int h; subst this; exact one rfl h rfl
  | str s => cases hc; have := rel_str h; subst this; exact one rfl h rfl
  | nilptr => cases hc; have := rel_nilptr h; subst this; exact one rfl h rfl
  | nilfunc => cases hc; have := rel_nilfunc h; subst this; exact one rfl h rfl
  | niliface => cases hc; have := rel_niliface h; subst this; exact one rfl h rfl
  | ptr o ver off =>
    cases hc
    have h0 := h
    cases h with
    | data _ _ h => cases h
    | ptr _ _ _ _ h1 h2 h3 h4 => exact one h3 h0 rfl
  | vec o ver off n esz =>
    cases hc
    have h0 := h
    cases h with
    | data _ _ h => cases h
    | vec _ _ _ _ _ _ h1 h2 h3 h4 => exact one h3 h0 rfl
  | eptr cs0 => cases hc; obtain ⟨b, off, us, rfl, _⟩ := rel_eptr h; exact one rfl h rfl
  | slice n cs0 ex =>
    cases hc
    rcases rel_slice h with ⟨cap, rfl, _⟩ | ⟨b, off, cap, us, rfl, _⟩
    · exact one rfl h rfl
    · exact one rfl h rfl
  | func fn f c => cases hc; obtain ⟨vf, vc, rfl, _⟩ := rel_func h; exact one rfl h rfl
  | iface t v => cases hc; obtain ⟨x, rfl, _⟩ := rel_iface h; exact one rfl h rfl

/-! ### An object, whole -/
/-- An object's block, and its cells there. -/
theorem RH.row {g : Gh} {H : Hp} {w : World} (rh : RH g H w) {o : Nat} {b : Ob} (hb : H.ob o = some b) :
    ∃ cs T fz, w.heap[(g.φ o).1]? = some (.cells cs T fz) ∧ cs.size = (g.φ o).2.2 ∧ (g.φ o).2.1 + b.cells.length ≤ cs.size ∧
      RelL g H b.cells (cut cs.toList (g.φ o).2.1 b.cells.length) ∧ (∀ x, x ∈ cut cs.toList (g.φ o).2.1 b.cells.length → x.oneCell' = true) ∧
      (∀ i, (g.φ o).2.1 + b.fz ≤ i → i < cs.size → ¬ (fz.1 ≤ i ∧ i < fz.2)) ∧ (∀ i, (g.φ o).2.1 + b.fz ≤ i → g.m (g.φ o).1 i = none) := by
  obtain ⟨h1, h2, h3, cs, T, fz, e1, e2, e3, e4, e5, e6⟩ := rh.ob o b hb
  have hl : (cut cs.toList (g.φ o).2.1 b.cells.length).length = b.cells.length := by simp [cut]; omega
  have hg : ∀ i, i < b.cells.length → (cut cs.toList (g.φ o).2.1 b.cells.length)[i]? = cs[(g.φ o).2.1 + i]? := fun i hi => by
    unfold cut; rw [List.getElem?_take, if_pos hi, List.getElem?_drop]; simp
  refine ⟨cs, T, fz, e1, e2, e3, ⟨hl, fun i v u hv hu => ?_⟩, fun x hx => ?_, e5, e6⟩
  · have hi : i < b.cells.length := (List.getElem?_eq_some_iff.1 hv).1
    obtain ⟨u', f1, f2, _⟩ := e4 i v hv
    rw [hg i hi, f1] at hu
    cases hu
    exact f2
  · obtain ⟨i, hi, rfl⟩ := List.mem_iff_getElem.1 hx
    rw [hl] at hi
    obtain ⟨u', f1, _, f3⟩ := e4 i b.cells[i] (List.getElem?_eq_getElem hi)
    have := hg i hi
    rw [f1, List.getElem?_eq_getElem (by omega)] at this
    cases this
    exact f3

theorem rh_mk {g : Gh} {H : Hp} {cells : List AV} {cs : Array Value} {base : Nat} (hl : base + cells.length ≤ cs.size) (h : RelL g H cells (cut cs.toList base cells.length))
    (h1 : ∀ x, x ∈ cut cs.toList base cells.length → x.oneCell' = true) (i : Nat) (v : AV) (hv : cells[i]? = some v) : ∃ u, cs[base + i]? = some u ∧ Rel g H v u ∧ u.oneCell' = true := by
  obtain ⟨u, a, r⟩ := h.mem i v hv
  refine ⟨u, ?_, r, h1 u (List.mem_iff_getElem?.2 ⟨i, a⟩)⟩
  have hi : i < cells.length := (List.getElem?_eq_some_iff.1 hv).1
  unfold cut at a
  rw [List.getElem?_take, if_pos hi, List.getElem?_drop] at a
  simpa using a

theorem RH.lt {g : Gh} {H : Hp} {w : World} (rh : RH g H w) {o : Nat} {b : Ob} (hb : H.ob o = some b) : (g.φ o).1 < w.heap.size := by
  obtain ⟨_, _, _, cs, T, fz, e1, _⟩ := rh.ob o b hb
  exact (Array.getElem?_eq_some_iff.1 e1).1
theorem RH.none_at {g : Gh} {H : Hp} {w : World} (rh : RH g H w) {b : Nat} (hb : w.heap.size ≤ b) (i : Nat) : g.m b i = none := by
  cases h : g.m b i with
  | none => rfl
  | some u =>
    have := (rh.inv b i u h).1
    have := World.block_lt_of_cell? w _ this
    simp at this
    omega

theorem ext_upd (g : Gh) {H : Hp} {o : Nat} {b : Ob} (hb : H.ob o = some b) (cs : List AV) (fz : Nat) (ty : Option (TypeId × Bool)) : Ext g H g (H.upd o ⟨cs, b.ver, fz, ty⟩) :=
  ⟨fun _ _ _ h => h, Nat.le_refl _, fun o' b' _ _ h => by
    simp only [Hp.upd] at h
    split at h
    · rename_i e; subst e; cases h; exact ⟨⟨b, hb, rfl⟩, rfl⟩
    · exact ⟨⟨b', h, rfl⟩, rfl⟩⟩

/-- An object written in place: what is frozen is as it was. -/
theorem RH.write {g : Gh} {H : Hp} {w w' : World} (rh : RH g H w) {o : Nat} {b : Ob} (hb : H.ob o = some b) {cs cs' : Array Value} {T : TypeId} {fz : Nat × Nat}
    (h0 : w.heap[(g.φ o).1]? = some (.cells cs T fz)) (h1 : w'.heap[(g.φ o).1]? = some (.cells cs' T fz)) (hs : cs'.size = cs.size) (wc : WC w w' (g.φ o).1)
    (hm : ∀ i u, g.m (g.φ o).1 i = some u → cs'[i]? = cs[i]?) {cells : List AV} (hl : cells.length = b.cells.length)
    (hr : RelL g H cells (cut cs'.toList (g.φ o).2.1 cells.length)) (ho : ∀ x, x ∈ cut cs'.toList (g.φ o).2.1 cells.length → x.oneCell' = true) :
    RH g (H.upd o ⟨cells, b.ver, b.fz, b.ty⟩) w' := by
  have x := ext_upd g hb cells b.fz b.ty
  obtain ⟨p1, p2, p3, cs0, T0, fz0, e1, e2, e3, e4, e5, e6⟩ := rh.ob o b hb
  rw [h0] at e1; cases e1
  refine ⟨fun b' i u hu => ?_, fun o' b' ho' => ?_, fun o1 o2 b1 b2 h1 h2 hne => ?_, fun o' b' t ho' ht => ?_⟩
  · obtain ⟨c1, c2⟩ := rh.inv b' i u hu
    refine ⟨?_, c2⟩
    have hlt := World.block_lt_of_cell? w _ c1
    by_cases hbb : b' = (g.φ o).1
    · subst hbb
      rw [cell_of_row _ _ _ _ _ _ h1, hm i u hu, ← cell_of_row _ _ _ _ _ _ h0, c1]
    · rw [World.cell?_of_block (w := w) (wc.other b' hbb hlt)]; exact c1
  · simp only [Hp.upd] at ho'
    split at ho'
    · rename_i e; subst e; cases ho'
      refine ⟨p1, p2, by simpa [hl] using p3, cs', T, fz, h1, hs.trans e2, by rw [hs]; simpa [hl] using e3, fun i v hv => ?_, fun i a c => e5 i a (by omega), e6⟩
      obtain ⟨u, f1, f2, f3⟩ := rh_mk (by rw [hs, hl]; exact e3) hr ho i v hv
      exact ⟨u, f1, f2.mono x, f3⟩
    · rename_i hne
      obtain ⟨q1, q2, q3, ds, T1, fz1, f1, f2, f3, f4, f5, f6⟩ := rh.ob o' b' ho'
      have hblk := rh.inj o' o b' b ho' hb hne
      refine ⟨q1, q2, q3, ds, T1, fz1, by rw [wc.other _ hblk (rh.lt ho')]; exact f1, f2, f3, fun i v hv => ?_, f5, f6⟩
      obtain ⟨u, a, r, c⟩ := f4 i v hv
      exact ⟨u, a, r.mono x, c⟩
  · have key : ∀ o1 b1, (if o1 = o then some (⟨cells, b.ver, b.fz, b.ty⟩ : Ob) else H.ob o1) = some b1 → ∃ b0, H.ob o1 = some b0 := fun o1 b1 h => by
      split at h
      · rename_i e; subst e; exact ⟨b, hb⟩
      · exact ⟨b1, h⟩
    obtain ⟨c1, d1⟩ := key o1 b1 h1
    obtain ⟨c2, d2⟩ := key o2 b2 h2
    exact rh.inj o1 o2 c1 c2 d1 d2 hne
  · simp only [Hp.upd] at ho'
    split at ho'
    · rename_i e; subst e; cases ho'
      obtain ⟨cs1, fz1, h, hz, hq⟩ := rh.typ _ b t hb ht
      rw [h0] at h; cases h
      exact ⟨_, _, h1, fun e => by rw [hs, hl]; exact hz e, hq⟩
    · rename_i hne
      obtain ⟨cs1, fz1, h, hz⟩ := rh.typ o' b' t ho' ht
      exact ⟨cs1, fz1, by rw [wc.other _ (rh.inj o' o b' b ho' hb hne) (rh.lt ho')]; exact h, hz⟩

theorem step_write {g : Gh} {H : Hp} {w w' : World} (rh : RH g H w) {o : Nat} {b : Ob} (hb : H.ob o = some b) (wc : WC w w' (g.φ o).1) (cells : List AV) (fz : Nat) (ty : Option (TypeId × Bool)) :
    Step g H w g (H.upd o ⟨cells, b.ver, fz, ty⟩) w' :=
  ⟨wc.os, wc.tape, wc.output, wc.size, fun k hk hn => ⟨wc.other k (fun e => hn o b hb e.symm) hk, fun _ => rfl⟩, ext_upd g hb cells fz ty, fun o' b' h => .inr (by
    simp only [Hp.upd] at h
    split at h
    · rename_i e; subst e; exact ⟨_, b, hb, rfl⟩
    · exact ⟨o', b', h, rfl⟩)⟩

/-- A world in which only new blocks came. -/
theorem RH.grown {g : Gh} {H : Hp} {w w' : World} (rh : RH g H w) (hk : ∀ k, k < w.heap.size → w'.heap[k]? = w.heap[k]?) : RH g H w' where
  inv := fun b i u hu => by
    obtain ⟨c1, c2⟩ := rh.inv b i u hu
    exact ⟨by rw [World.cell?_of_block (w := w) (hk b (World.block_lt_of_cell? w _ c1))]; exact c1, c2⟩
  ob := fun o b hb => by
    obtain ⟨q1, q2, q3, ds, T1, fz1, f1, f2, f3, f4, f5, f6⟩ := rh.ob o b hb
    exact ⟨q1, q2, q3, ds, T1, fz1, by rw [hk _ (rh.lt hb)]; exact f1, f2, f3, f4, f5, f6⟩
  inj := rh.inj
  typ := fun o b t hb ht => by
    obtain ⟨cs, fz, h, hz⟩ := rh.typ o b t hb ht
    exact ⟨cs, fz, by rw [hk _ (rh.lt hb)]; exact h, hz⟩

theorem step_grown {g : Gh} {H : Hp} {w w' : World} (hos : w'.os = w.os) (ht : w'.tape = w.tape) (ho : w'.output = w.output) (hs : w.heap.size ≤ w'.heap.size) (hk : ∀ k, k < w.heap.size → w'.heap[k]? = w.heap[k]?) : Step g H w g H w' :=
  ⟨hos, ht, ho, hs, fun k h _ => ⟨hk k h, fun _ => rfl⟩, Ext.refl g H, fun o ob h => .inr ⟨o, ob, h, rfl⟩⟩

/-- Where a new object lies. -/
def Gh.put (g : Gh) (o : Nat) (p : Nat × Nat × Nat) : Gh := ⟨g.m, fun i => if i = o then p else g.φ i⟩

theorem ext_new (g : Gh) {H : Hp} (ty : Option (TypeId × Bool)) (cs : List AV) (p : Nat × Nat × Nat) : Ext g H (g.put H.next p) (H.new ty cs) :=
  ⟨fun _ _ _ h => h, Nat.le_succ _, fun o b' h1 h2 h => by
    simp only [Hp.new] at h
    rw [if_neg (by omega)] at h
    exact ⟨⟨b', h, rfl⟩, by simp [Gh.put]; omega⟩⟩

/-- A new object in a new block. -/
theorem RH.newOb {g : Gh} {H : Hp} {w : World} (rh : RH g H w) {arr : Array Value} {T : TypeId} {fz : Nat × Nat} {cs : List AV} {ty : Option (TypeId × Bool)} (hty : ∀ t, ty = some t → T = t.1 ∧ (t.2 = true → arr.size = cs.length) ∧ FzOk fz 0) (hl : cs.length ≤ arr.size)
    (hr : RelL g H cs (cut arr.toList 0 cs.length)) (ho : ∀ x, x ∈ cut arr.toList 0 cs.length → x.oneCell' = true) (hf : ∀ i, i < arr.size → ¬ (fz.1 ≤ i ∧ i < fz.2)) {w' : World}
    (hk : ∀ k, k < w.heap.size → w'.heap[k]? = w.heap[k]?) (hn : w'.heap[w.heap.size]? = some (.cells arr T fz)) :
    RH (g.put H.next (w.heap.size, 0, arr.size)) (H.new ty cs) w' := by
  have x := ext_new g (H := H) ty cs (w.heap.size, 0, arr.size)
  have rg := rh.grown hk
  have hφ : ∀ o, o < H.next → (g.put H.next (w.heap.size, 0, arr.size)).φ o = g.φ o := fun o h => by simp [Gh.put]; omega
  have hφn : (g.put H.next (w.heap.size, 0, arr.size)).φ H.next = (w.heap.size, 0, arr.size) := by simp [Gh.put]
  refine ⟨rg.inv, fun o b hb => ?_, fun o1 o2 b1 b2 h1 h2 hne => ?_, fun o b t hb ht => ?_⟩
  · simp only [Hp.new] at hb
    split at hb
    · rename_i e; subst e; cases hb
      rw [hφn]
      refine ⟨Nat.lt_succ_self _, Nat.lt_succ_self _, Nat.zero_le _, arr, T, fz, hn, rfl, by simpa using hl, fun i v hv => ?_, fun i _ h => hf i h, fun i _ => rh.none_at (Nat.le_refl _) i⟩
      obtain ⟨u, f1, f2, f3⟩ := rh_mk (by simpa using hl) hr ho i v hv
      exact ⟨u, by simpa using f1, f2.mono x, f3⟩
    · obtain ⟨q1, q2, q3, ds, T1, fz1, f1, f2, f3, f4, f5, f6⟩ := rg.ob o b hb
      rw [hφ o q1]
      exact ⟨Nat.lt_succ_of_lt q1, Nat.lt_succ_of_lt q2, q3, ds, T1, fz1, f1, f2, f3, fun i v hv => by
        obtain ⟨u, a, r, c⟩ := f4 i v hv
        exact ⟨u, a, r.mono x, c⟩, f5, f6⟩
  · simp only [Hp.new] at h1 h2
    have key : ∀ o b, H.ob o = some b → (g.φ o).1 ≠ w.heap.size := fun o b h => by have := rh.lt h; omega
    split at h1
    · rename_i e; subst e
      rw [if_neg (Ne.symm hne)] at h2
      rw [hφn, hφ o2 (rh.ob o2 b2 h2).1]
      exact Ne.symm (key o2 b2 h2)
    · split at h2
      · rename_i e; subst e
        rw [hφn, hφ o1 (rh.ob o1 b1 h1).1]
        exact key o1 b1 h1
      · rw [hφ o1 (rh.ob o1 b1 h1).1, hφ o2 (rh.ob o2 b2 h2).1]
        exact rh.inj o1 o2 b1 b2 h1 h2 hne
  · simp only [Hp.new] at hb
    split at hb
    · rename_i e; subst e; cases hb
      rw [hφn]
      obtain ⟨rfl, hz, hq⟩ := hty t ht
      exact ⟨_, _, hn, hz, hq.mono (Nat.zero_le _)⟩
    · obtain ⟨cs1, fz1, h⟩ := rg.typ o b t hb ht
      rw [hφ o (rg.ob o b hb).1]
      exact ⟨cs1, fz1, h⟩

theorem step_new {g : Gh} {H : Hp} {w w' : World} (rh : RH g H w) (ty : Option (TypeId × Bool)) (cs : List AV) (n : Nat) (hos : w'.os = w.os) (ht : w'.tape = w.tape) (ho : w'.output = w.output) (hs : w.heap.size ≤ w'.heap.size)
    (hk : ∀ k, k < w.heap.size → w'.heap[k]? = w.heap[k]?) : Step g H w (g.put H.next (w.heap.size, 0, n)) (H.new ty cs) w' :=
  ⟨hos, ht, ho, hs, fun k h _ => ⟨hk k h, fun _ => rfl⟩, ext_new g ty cs _, fun o ob h => by
    simp only [Hp.new] at h
    split at h
    · rename_i e; subst e; exact .inl (by simp [Gh.put])
    · rename_i hne
      exact .inr ⟨o, ob, h, by simp [Gh.put, hne]⟩⟩

theorem ext_re (g : Gh) {H : Hp} {o : Nat} (cs : List AV) (fz : Nat) (ty : Option (TypeId × Bool)) (p : Nat × Nat × Nat) : Ext g H (g.put o p) (H.re o cs fz ty) :=
  ⟨fun _ _ _ h => h, Nat.le_succ _, fun o' b' h1 h2 h => by
    simp only [Hp.re] at h
    split at h
    · cases h; simp at h2
    · rename_i hne
      exact ⟨⟨b', h, rfl⟩, by simp [Gh.put, hne]⟩⟩

/-- An object written anew, in its own block or in a new one. -/
theorem RH.reOb {g : Gh} {H : Hp} {w w' : World} (rh : RH g H w) {o : Nat} {b : Ob} (hb : H.ob o = some b) {p : Nat × Nat × Nat} {arr : Array Value} {T : TypeId} {fz : Nat × Nat} {cs : List AV} {k : Nat} {ty : Option (TypeId × Bool)} (hty : ∀ t, ty = some t → T = t.1 ∧ (t.2 = true → arr.size = cs.length) ∧ FzOk fz (p.2.1 + k))
    (hn : w'.heap[p.1]? = some (.cells arr T fz)) (hz : arr.size = p.2.2) (hl : p.2.1 + cs.length ≤ arr.size) (hkl : k ≤ cs.length)
    (hr : RelL g H cs (cut arr.toList p.2.1 cs.length)) (ho : ∀ x, x ∈ cut arr.toList p.2.1 cs.length → x.oneCell' = true)
    (hf : ∀ i, p.2.1 + k ≤ i → i < arr.size → ¬ (fz.1 ≤ i ∧ i < fz.2)) (hm : ∀ i, p.2.1 + k ≤ i → g.m p.1 i = none)
    (hk : ∀ c, c < w.heap.size → c ≠ (g.φ o).1 → w'.heap[c]? = w.heap[c]?) (hcm : ∀ i u, g.m (g.φ o).1 i = some u → w'.cell? ⟨(g.φ o).1, i, none⟩ = some u)
    (hp : p.1 = (g.φ o).1 ∨ p.1 = w.heap.size) : RH (g.put o p) (H.re o cs k ty) w' := by
  have x := ext_re g (H := H) (o := o) cs k ty p
  have hlt := rh.lt hb
  refine ⟨fun b' i u hu => ?_, fun o' b' ho' => ?_, fun o1 o2 b1 b2 h1 h2 hne => ?_, fun o' b' t ho' ht => ?_⟩
  · obtain ⟨c1, c2⟩ := rh.inv b' i u hu
    refine ⟨?_, c2⟩
    have hlt' := World.block_lt_of_cell? w _ c1
    by_cases hbb : b' = (g.φ o).1
    · subst hbb; exact hcm i u hu
    · rw [World.cell?_of_block (w := w) (hk b' hlt' hbb)]; exact c1
  · simp only [Hp.re] at ho'
    split at ho'
    · rename_i e; subst e; cases ho'
      have hφ : (g.put o' p).φ o' = p := by simp [Gh.put]
      rw [hφ]
      refine ⟨Nat.lt_succ_of_lt (rh.ob _ _ hb).1, Nat.lt_succ_self _, hkl, arr, T, fz, hn, hz, hl, fun i v hv => ?_, hf, hm⟩
      obtain ⟨u, f1, f2, f3⟩ := rh_mk hl hr ho i v hv
      exact ⟨u, f1, f2.mono x, f3⟩
    · rename_i hne
      obtain ⟨q1, q2, q3, ds, T1, fz1, f1, f2, f3, f4, f5, f6⟩ := rh.ob o' b' ho'
      have hφ : (g.put o p).φ o' = g.φ o' := by simp [Gh.put, hne]
      rw [hφ]
      refine ⟨Nat.lt_succ_of_lt q1, Nat.lt_succ_of_lt q2, q3, ds, T1, fz1, by rw [hk _ (rh.lt ho') (rh.inj o' o b' b ho' hb hne)]; exact f1, f2, f3, fun i v hv => ?_, f5, f6⟩
      obtain ⟨u, a, r, c⟩ := f4 i v hv
      exact ⟨u, a, r.mono x, c⟩
  · simp only [Hp.re] at h1 h2
    have key : ∀ o' b', o' ≠ o → H.ob o' = some b' → p.1 ≠ (g.φ o').1 := fun o' b' hn' h => by
      rcases hp with e | e
      · rw [e]; exact rh.inj o o' b b' hb h (Ne.symm hn')
      · have := rh.lt h; omega
    split at h1
    · rename_i e; subst e
      rw [if_neg (Ne.symm hne)] at h2
      have e2 : (g.put o1 p).φ o2 = g.φ o2 := by simp [Gh.put, Ne.symm hne]
      have e1 : (g.put o1 p).φ o1 = p := by simp [Gh.put]
      rw [e1, e2]
      exact key o2 b2 (Ne.symm hne) h2
    · rename_i hn1
      split at h2
      · rename_i e; subst e
        have e1 : (g.put o2 p).φ o1 = g.φ o1 := by simp [Gh.put, hn1]
        have e2 : (g.put o2 p).φ o2 = p := by simp [Gh.put]
        rw [e1, e2]
        exact Ne.symm (key o1 b1 hn1 h1)
      · rename_i hn2
        have e1 : (g.put o p).φ o1 = g.φ o1 := by simp [Gh.put, hn1]
        have e2 : (g.put o p).φ o2 = g.φ o2 := by simp [Gh.put, hn2]
        rw [e1, e2]
        exact rh.inj o1 o2 b1 b2 h1 h2 hne
  · simp only [Hp.re] at ho'
    split at ho'
    · rename_i e; subst e; cases ho'
      obtain ⟨rfl, hz1, hq1⟩ := hty t ht
      have hφ : (g.put o' p).φ o' = p := by simp [Gh.put]
      rw [hφ]
      exact ⟨_, _, hn, hz1, hq1⟩
    · rename_i hne
      have hφ : (g.put o p).φ o' = g.φ o' := by simp [Gh.put, hne]
      obtain ⟨cs1, fz1, h, hz⟩ := rh.typ o' b' t ho' ht
      rw [hφ]
      exact ⟨cs1, fz1, by rw [hk _ (rh.lt ho') (rh.inj o' o b' b ho' hb hne)]; exact h, hz⟩

theorem step_re {g : Gh} {H : Hp} {w w' : World} (rh : RH g H w) {o : Nat} {b : Ob} (hb : H.ob o = some b) (p : Nat × Nat × Nat) (cs : List AV) (k : Nat) (ty : Option (TypeId × Bool)) (hos : w'.os = w.os) (ht : w'.tape = w.tape) (ho : w'.output = w.output) (hs : w.heap.size ≤ w'.heap.size)
    (hk : ∀ c, c < w.heap.size → c ≠ (g.φ o).1 → w'.heap[c]? = w.heap[c]?) (hp : p.1 = (g.φ o).1 ∨ p.1 = w.heap.size) : Step g H w (g.put o p) (H.re o cs k ty) w' :=
  ⟨hos, ht, ho, hs, fun c h hn => ⟨hk c h (fun e => hn o b hb e.symm), fun _ => rfl⟩, ext_re g cs k ty p, fun o' ob h => by
    simp only [Hp.re] at h
    split at h
    · rename_i e; subst e
      rcases hp with e | e
      · exact .inr ⟨_, b, hb, by simp [Gh.put, e]⟩
      · exact .inl (by simp [Gh.put, e])
    · rename_i hne
      exact .inr ⟨o', ob, h, by simp [Gh.put, hne]⟩⟩

/-- Cells that are never to turn again: some of an object's first ones. -/
def Gh.commit (g : Gh) (blk lo hi : Nat) (cs : Array Value) : Gh := ⟨fun b i => if b = blk ∧ lo ≤ i ∧ i < hi then cs[i]? else g.m b i, g.φ⟩

theorem RH.freeze {g : Gh} {H : Hp} {w : World} (rh : RH g H w) {o : Nat} {b : Ob} (hb : H.ob o = some b) (k : Nat) (hk : k ≤ b.cells.length) :
    ∃ g', g'.φ = g.φ ∧ RH g' (H.freeze o k) w ∧ Step g H w g' (H.freeze o k) w ∧
      ∀ cs T fz, w.heap[(g.φ o).1]? = some (.cells cs T fz) → ∀ i, (g.φ o).2.1 ≤ i → i < (g.φ o).2.1 + k → g'.m (g.φ o).1 i = cs[i]? := by
  obtain ⟨p1, p2, p3, cs, T, fz, e1, e2, e3, e4, e5, e6⟩ := rh.ob o b hb
  have hH : H.freeze o k = H.upd o ⟨b.cells, b.ver, max b.fz k, b.ty⟩ := by simp [Hp.freeze, hb]
  have hx : ∀ b' i u, g.m b' i = some u → (g.commit (g.φ o).1 (g.φ o).2.1 ((g.φ o).2.1 + k) cs).m b' i = some u := fun b' i u hu => by
    simp only [Gh.commit]
    split
    · rename_i h
      obtain ⟨rfl, _, _⟩ := h
      have := (rh.inv _ i u hu).1
      rw [cell_of_row _ _ _ _ _ _ e1] at this
      exact this
    · exact hu
  have x : Ext g H (g.commit (g.φ o).1 (g.φ o).2.1 ((g.φ o).2.1 + k) cs) (H.freeze o k) := by
    rw [hH]
    exact ⟨hx, Nat.le_refl _, fun o' b' _ _ h => by
      simp only [Hp.upd] at h
      split at h
      · rename_i e; subst e; cases h; exact ⟨⟨b, hb, rfl⟩, rfl⟩
      · exact ⟨⟨b', h, rfl⟩, rfl⟩⟩
  have key : ∀ o1 b1, (H.freeze o k).ob o1 = some b1 → ∃ b0, H.ob o1 = some b0 := fun o1 b1 h => by
    rw [hH] at h
    simp only [Hp.upd] at h
    split at h
    · rename_i e; subst e; exact ⟨b, hb⟩
    · exact ⟨b1, h⟩
  refine ⟨g.commit (g.φ o).1 (g.φ o).2.1 ((g.φ o).2.1 + k) cs, rfl, ⟨fun b' i u hu => ?_, fun o' b' ho' => ?_, fun o1 o2 b1 b2 h1 h2 hne => ?_, fun o' b' t ho' ht => ?_⟩, ?_, fun cs' T' fz' h i h1 h2 => ?_⟩
  · simp only [Gh.commit] at hu
    split at hu
    · rename_i h
      obtain ⟨rfl, h1, h2⟩ := h
      refine ⟨by rw [cell_of_row _ _ _ _ _ _ e1]; exact hu, ?_⟩
      obtain ⟨u', f1, _, f3⟩ := e4 (i - (g.φ o).2.1) (b.cells[i - (g.φ o).2.1]'(by omega)) (List.getElem?_eq_getElem (by omega))
      rw [show (g.φ o).2.1 + (i - (g.φ o).2.1) = i by omega, hu] at f1
      cases f1
      exact f3
    · exact rh.inv b' i u hu
  · rw [hH] at ho'
    simp only [Hp.upd] at ho'
    split at ho'
    · rename_i e; subst e; cases ho'
      refine ⟨by rw [hH]; exact p1, by rw [hH]; exact p2, by simp; omega, cs, T, fz, e1, e2, e3, fun i v hv => ?_, fun i h1 h2 => e5 i (by simp only [Gh.commit] at h1; omega) h2, fun i h1 => ?_⟩
      · obtain ⟨u, a, r, c⟩ := e4 i v hv
        exact ⟨u, a, r.mono x, c⟩
      · simp only [Gh.commit] at h1 ⊢
        rw [if_neg (by omega)]
        exact e6 i (by omega)
    · rename_i hne
      obtain ⟨q1, q2, q3, ds, T1, fz1, f1, f2, f3, f4, f5, f6⟩ := rh.ob o' b' ho'
      refine ⟨by rw [hH]; exact q1, by rw [hH]; exact q2, q3, ds, T1, fz1, f1, f2, f3, fun i v hv => ?_, f5, fun i h1 => ?_⟩
      · obtain ⟨u, a, r, c⟩ := f4 i v hv
        exact ⟨u, a, r.mono x, c⟩
      · simp only [Gh.commit] at h1 ⊢
        rw [if_neg (fun h => rh.inj o' o b' b ho' hb hne h.1)]
        exact f6 i h1
  · obtain ⟨c1, d1⟩ := key o1 b1 h1
    obtain ⟨c2, d2⟩ := key o2 b2 h2
    exact rh.inj o1 o2 c1 c2 d1 d2 hne
  · rw [hH] at ho'
    simp only [Hp.upd] at ho'
    split at ho'
    · rename_i e; subst e; cases ho'
      obtain ⟨cs1, fz1, h, hz, hq⟩ := rh.typ _ b t hb ht
      exact ⟨cs1, fz1, h, hz, hq.mono (by simp only [Gh.commit]; omega)⟩
    · exact rh.typ o' b' t ho' ht
  · refine ⟨rfl, rfl, rfl, Nat.le_refl _, fun c hc hn => ⟨rfl, fun i => ?_⟩, x, fun o' b' h => .inr ?_⟩
    · simp only [Gh.commit]
      rw [if_neg (fun h => hn o b hb h.1.symm)]
    · obtain ⟨c1, d1⟩ := key o' b' h
      exact ⟨o', c1, d1, rfl⟩
  · rw [e1] at h; cases h
    simp only [Gh.commit]
    rw [if_pos ⟨trivial, h1, h2⟩]

/-! ### A value as data -/
structure Stripped (g : Gh) (H : Hp) (w : World) (g' : Gh) (H' : Hp) : Prop where
  phi : g'.φ = g.φ
  rh : RH g' H' w
  step : Step g H w g' H' w

theorem Stripped.refl {g : Gh} {H : Hp} {w : World} (rh : RH g H w) : Stripped g H w g H := ⟨rfl, rh, Step.refl g H w⟩
theorem Stripped.trans {g g1 g2 : Gh} {H H1 H2 : Hp} {w : World} (a : Stripped g H w g1 H1) (b : Stripped g1 H1 w g2 H2) : Stripped g H w g2 H2 := ⟨b.phi.trans a.phi, b.rh, a.step.trans b.step⟩

theorem mapH_ok {f : Hp → AV → Option (AV × Hp)} {w : World}
    (hf : ∀ g H v v' H' u, f H v = some (v', H') → RH g H w → Rel g H v u → ∃ g', Stripped g H w g' H' ∧ RelD g'.m v' u) :
    ∀ (vs vs' : List AV) (g : Gh) (H H' : Hp) (us : List Value), mapH f H vs = some (vs', H') → RH g H w → RelL g H vs us → ∃ g', Stripped g H w g' H' ∧ RelDL g'.m vs' us := by
  intro vs
  induction vs with
  | nil =>
    intro vs' g H H' us h rh hr
    simp only [mapH, Option.some.injEq, Prod.mk.injEq] at h
    obtain ⟨rfl, rfl⟩ := h
    exact ⟨g, .refl rh, hr.1, fun i v u h => by simp at h⟩
  | cons v vs ih =>
    intro vs' g H H' us h rh hr
    obtain ⟨u, us, rfl, h1, h2⟩ := hr.cons_inv
    simp only [mapH] at h
    split at h
    · rename_i v1 H1 e1
      split at h
      · rename_i vs1 H2 e2
        simp only [Option.some.injEq, Prod.mk.injEq] at h
        obtain ⟨rfl, rfl⟩ := h
        obtain ⟨g1, s1, r1⟩ := hf g H v v1 H1 u e1 rh h1
        obtain ⟨g2, s2, r2⟩ := ih vs1 g1 H1 H2 us e2 s1.rh (h2.mono s1.step.ext)
        refine ⟨g2, s1.trans s2, by simp [r2.1], fun i v u a b => ?_⟩
        cases i with
        | zero => simp only [List.getElem?_cons_zero, Option.some.injEq] at a b; subst a b; exact r1.mono s2.step.ext.mem
        | succ i => simp only [List.getElem?_cons_succ] at a b; exact r2.2 i v u a b
      · simp at h
    · simp at h

theorem strip_ok (q : Bool) (w : World) : ∀ (n : Nat) (g : Gh) (H : Hp) (v v' : AV) (H' : Hp) (u : Value), strip q n H v = some (v', H') → RH g H w → Rel g H v u → ∃ g', Stripped g H w g' H' ∧ RelD g'.m v' u := by
  intro n
  induction n with
  | zero => intro g H v v' H' u h; simp [strip] at h
  | succ n ih =>
    have ihL := mapH_ok (f := strip q n) (w := w) (fun g H v v' H' u => ih g H v v' H' u)
    intro g H v v' H' u h rh hr
    cases v with
    | loc d off => simp [strip] at h
    | ptr o ver off => simp [strip] at h
    | undef => simp only [strip, Option.some.injEq, Prod.mk.injEq] at h; obtain ⟨rfl, rfl⟩ := h; exact ⟨g, .refl rh, .undef _⟩
    | bool b => simp only [strip, Option.some.injEq, Prod.mk.injEq] at h; obtain ⟨rfl, rfl⟩ := h; have := rel_bool hr; subst this; exact ⟨g, .refl rh, .bool _⟩
    | int k m => simp only [strip, Option.some.injEq, Prod.mk.injEq] at h; obtain ⟨rfl, rfl⟩ := h; have := rel_int hr; subst this; exact ⟨g, .refl rh, .int _ _⟩
    | str s => simp only [strip, Option.some.injEq, Prod.mk.injEq] at h; obtain ⟨rfl, rfl⟩ := h; have := rel_str hr; subst this; exact ⟨g, .refl rh, .str _⟩
    | nilptr => simp only [strip, Option.some.injEq, Prod.mk.injEq] at h; obtain ⟨rfl, rfl⟩ := h; have := rel_nilptr hr; subst this; exact ⟨g, .refl rh, .nilptr⟩
    | nilfunc => simp only [strip, Option.some.injEq, Prod.mk.injEq] at h; obtain ⟨rfl, rfl⟩ := h; have := rel_nilfunc hr; subst this; exact ⟨g, .refl rh, .nilfunc⟩
    | niliface => simp only [strip, Option.some.injEq, Prod.mk.injEq] at h; obtain ⟨rfl, rfl⟩ := h; have := rel_niliface hr; subst this; exact ⟨g, .refl rh, .niliface⟩
    | eptr cs =>
      simp only [strip, Option.some.injEq, Prod.mk.injEq] at h; obtain ⟨rfl, rfl⟩ := h
      obtain ⟨b, off, us, rfl, h1, h2⟩ := rel_eptr hr
      exact ⟨g, .refl rh, .eptr _ us b off h2.1 h1 h2.2⟩
    | slice k cs ex =>
      simp only [strip, Option.some.injEq, Prod.mk.injEq] at h; obtain ⟨rfl, rfl⟩ := h
      rcases rel_slice hr with ⟨cap, rfl, rfl, rfl, h1⟩ | ⟨b, off, cap, us, rfl, hcap, h1, h2, h3⟩
      · exact ⟨g, .refl rh, .slice0 false cap (by simp)⟩
      · exact ⟨g, .refl rh, .slice k cs false us b off cap hcap (by simp) h3.1 h2 h3.2⟩
    | vec o ver off k esz =>
      simp only [strip] at h
      split at h
      · simp at h
      split at h
      · rename_i b hb
        split at h
        · rename_i hc
          obtain ⟨hv, hle⟩ := hc
          split at h
          · rename_i cs H1 e1
            simp only [Option.some.injEq, Prod.mk.injEq] at h
            obtain ⟨rfl, rfl⟩ := h
            obtain ⟨cap, rfl, hcap, _⟩ := rel_vec hr hb hv
            obtain ⟨arr, T, fz, f1, f2, f3, f4, f5, _⟩ := rh.row hb
            obtain ⟨g1, s1, r1⟩ := ihL _ _ g H H1 _ e1 rh (f4.cut off (k * esz))
            have hb1 : ∃ b1, H1.ob o = some b1 ∧ off + k * esz ≤ b1.cells.length := by
              have key : ∀ (n : Nat) (H : Hp) (v v' : AV) (H' : Hp), strip q n H v = some (v', H') → ∀ (o : Nat) (b : Ob), H.ob o = some b → ∃ b1, H'.ob o = some b1 ∧ b1.cells = b.cells := by
                have keyL : ∀ (f : Hp → AV → Option (AV × Hp)), (∀ H v v' H', f H v = some (v', H') → ∀ (o : Nat) (b : Ob), H.ob o = some b → ∃ b1, H'.ob o = some b1 ∧ b1.cells = b.cells) →
                    ∀ (vs vs' : List AV) (H H' : Hp), mapH f H vs = some (vs', H') → ∀ (o : Nat) (b : Ob), H.ob o = some b → ∃ b1, H'.ob o = some b1 ∧ b1.cells = b.cells := by
                  intro f hf vs
                  induction vs with
                  | nil => intro vs' H H' h o b hb; simp only [mapH, Option.some.injEq, Prod.mk.injEq] at h; obtain ⟨rfl, rfl⟩ := h; exact ⟨b, hb, rfl⟩
                  | cons v vs ih =>
                    intro vs' H H' h o b hb
                    simp only [mapH] at h
                    split at h
                    · rename_i v1 H1 e1
                      split at h
                      · rename_i vs1 H2 e2
                        simp only [Option.some.injEq, Prod.mk.injEq] at h
                        obtain ⟨rfl, rfl⟩ := h
                        obtain ⟨b1, c1, d1⟩ := hf _ _ _ _ e1 o b hb
                        obtain ⟨b2, c2, d2⟩ := ih _ _ _ e2 o b1 c1
                        exact ⟨b2, c2, d2.trans d1⟩
                      · simp at h
                    · simp at h
                intro n
                induction n with
                | zero => intro H v v' H' h; simp [strip] at h
                | succ n ihn =>
                  intro H v v' H' h o b hb
                  cases v <;> simp only [strip] at h <;>
                    first
                    | (simp at h; done)
                    | (simp only [Option.some.injEq, Prod.mk.injEq] at h; obtain ⟨rfl, rfl⟩ := h; exact ⟨b, hb, rfl⟩)
                    | skip
                  · split at h
                    · simp at h
                    split at h
                    · rename_i bb hbb
                      split at h
                      · split at h
                        · rename_i cs H1 e1
                          simp only [Option.some.injEq, Prod.mk.injEq] at h
                          obtain ⟨rfl, rfl⟩ := h
                          obtain ⟨b1, c1, d1⟩ := keyL _ ihn _ _ _ _ e1 o b hb
                          unfold Hp.freeze
                          split
                          · rename_i b2 hb2
                            simp only [Hp.upd]
                            split
                            · rename_i e; subst e; rw [c1] at hb2; cases hb2; exact ⟨_, rfl, d1⟩
                            · exact ⟨b1, c1, d1⟩
                          · exact ⟨b1, c1, d1⟩
                        · simp at h
                      · simp at h
                    · simp at h
                  · split at h
                    · rename_i f1 H1 e1
                      split at h
                      · rename_i c1 H2 e2
                        simp only [Option.some.injEq, Prod.mk.injEq] at h
                        obtain ⟨rfl, rfl⟩ := h
                        obtain ⟨b1, c1, d1⟩ := keyL _ ihn _ _ _ _ e1 o b hb
                        obtain ⟨b2, c2, d2⟩ := keyL _ ihn _ _ _ _ e2 o b1 c1
                        exact ⟨b2, c2, d2.trans d1⟩
                      · simp at h
                    · simp at h
                  all_goals
                    split at h
                    · simp only [Option.some.injEq, Prod.mk.injEq] at h
                      obtain ⟨rfl, rfl⟩ := h
                      first
                      | exact keyL _ ihn _ _ _ _ (by assumption) o b hb
                      | exact ihn _ _ _ _ (by assumption) o b hb
                    · simp at h
              have keyL2 : ∀ (vs vs' : List AV) (H H' : Hp), mapH (strip q n) H vs = some (vs', H') → ∀ (o : Nat) (b : Ob), H.ob o = some b → ∃ b1, H'.ob o = some b1 ∧ b1.cells = b.cells := by
                intro vs
                induction vs with
                | nil => intro vs' H H' h o b hb; simp only [mapH, Option.some.injEq, Prod.mk.injEq] at h; obtain ⟨rfl, rfl⟩ := h; exact ⟨b, hb, rfl⟩
                | cons v vs ih =>
                  intro vs' H H' h o b hb
                  simp only [mapH] at h
                  split at h
                  · rename_i v1 H1 e1
                    split at h
                    · rename_i vs1 H2 e2
                      simp only [Option.some.injEq, Prod.mk.injEq] at h
                      obtain ⟨rfl, rfl⟩ := h
                      obtain ⟨b1, c1, d1⟩ := key n _ _ _ _ e1 o b hb
                      obtain ⟨b2, c2, d2⟩ := ih _ _ _ e2 o b1 c1
                      exact ⟨b2, c2, d2.trans d1⟩
                    · simp at h
                  · simp at h
              obtain ⟨b1, c1, d1⟩ := keyL2 _ _ _ _ e1 o b hb
              exact ⟨b1, c1, by rw [d1]; exact hle⟩
            obtain ⟨b1, hb1, hl1⟩ := hb1
            obtain ⟨g2, p2, rh2, st2, m2⟩ := s1.rh.freeze hb1 (off + k * esz) hl1
            refine ⟨g2, s1.trans ⟨p2, rh2, st2⟩, ?_⟩
            have hphi : g1.φ o = g.φ o := by rw [s1.phi]
            rw [hphi] at m2
            refine .slice k cs false (cut (cut arr.toList (g.φ o).2.1 b.cells.length) off (k * esz)) _ _ cap hcap (by simp) r1.1 (fun i u hu => ?_) (fun i v u a c => (r1.2 i v u a c).mono st2.ext.mem)
            have hi : i < k * esz := by
              have := (List.getElem?_eq_some_iff.1 hu).1
              simp [cut] at this; omega
            have : arr[(g.φ o).2.1 + off + i]? = some u := by
              simp only [cut] at hu
              rw [List.getElem?_take, if_pos hi, List.getElem?_drop, List.getElem?_take, if_pos (by omega), List.getElem?_drop] at hu
              rw [← hu]; simp [Nat.add_assoc]
            rw [m2 arr T fz f1 _ (by omega) (by omega), this]
          · simp at h
        · simp at h
      · simp at h
    | func fn f c =>
      simp only [strip] at h
      split at h
      · rename_i f1 H1 e1
        split at h
        · rename_i c1 H2 e2
          simp only [Option.some.injEq, Prod.mk.injEq] at h
          obtain ⟨rfl, rfl⟩ := h
          obtain ⟨vf, vc, rfl, h1, h2⟩ := rel_func hr
          obtain ⟨g1, s1, r1⟩ := ihL _ _ g H H1 _ e1 rh h1
          obtain ⟨g2, s2, r2⟩ := ihL _ _ g1 H1 H2 _ e2 s1.rh (h2.mono s1.step.ext)
          exact ⟨g2, s1.trans s2, .func _ _ _ _ _ r1.1 r2.1 (fun i v u a b => (r1.2 i v u a b).mono s2.step.ext.mem) r2.2⟩
        · simp at h
      · simp at h
    | iface t x =>
      simp only [strip] at h
      split at h
      · rename_i x1 H1 e1
        simp only [Option.some.injEq, Prod.mk.injEq] at h
        obtain ⟨rfl, rfl⟩ := h
        obtain ⟨y, rfl, h1⟩ := rel_iface hr
        obtain ⟨g1, s1, r1⟩ := ih g H x x1 H1 y e1 rh h1
        exact ⟨g1, s1, .iface _ _ _ r1⟩
      · simp at h
    | agg cs =>
      simp only [strip] at h
      split at h
      · rename_i c1 H1 e1
        simp only [Option.some.injEq, Prod.mk.injEq] at h
        obtain ⟨rfl, rfl⟩ := h
        obtain ⟨us, rfl, h1, h2⟩ := rel_agg hr
        obtain ⟨g1, s1, r1⟩ := ihL _ _ g H H1 _ e1 rh h1
        exact ⟨g1, s1, .agg _ _ r1.1 h2 r1.2⟩
      · simp at h
    | tup cs =>
      simp only [strip] at h
      split at h
      · rename_i c1 H1 e1
        simp only [Option.some.injEq, Prod.mk.injEq] at h
        obtain ⟨rfl, rfl⟩ := h
        obtain ⟨us, rfl, h1⟩ := rel_tup hr
        obtain ⟨g1, s1, r1⟩ := ihL _ _ g H H1 _ e1 rh h1
        exact ⟨g1, s1, .tup _ _ r1.1 r1.2⟩
      · simp at h

theorem stripL_ok (q : Bool) (w : World) (n : Nat) {vs vs' : List AV} {g : Gh} {H H' : Hp} {us : List Value} (h : mapH (strip q n) H vs = some (vs', H')) (rh : RH g H w) (hr : RelL g H vs us) :
    ∃ g', Stripped g H w g' H' ∧ RelDL g'.m vs' us := mapH_ok (f := strip q n) (w := w) (fun g H v v' H' u => strip_ok q w n g H v v' H' u) vs vs' g H H' us h rh hr

/-- With the flag nothing turns. -/
theorem mapH_same {f : Hp → AV → Option (AV × Hp)} (hf : ∀ H v v' H', f H v = some (v', H') → H' = H) : ∀ (vs vs' : List AV) (H H' : Hp), mapH f H vs = some (vs', H') → H' = H := by
  intro vs
  induction vs with
  | nil => intro vs' H H' h; simp only [mapH, Option.some.injEq, Prod.mk.injEq] at h; exact h.2.symm
  | cons v vs ih =>
    intro vs' H H' h
    simp only [mapH] at h
    split at h
    · rename_i v1 H1 e1
      split at h
      · rename_i vs1 H2 e2
        simp only [Option.some.injEq, Prod.mk.injEq] at h
        rw [← h.2, ih _ _ _ e2, hf _ _ _ _ e1]
      · simp at h
    · simp at h
theorem strip_same : ∀ (n : Nat) (H : Hp) (v v' : AV) (H' : Hp), strip true n H v = some (v', H') → H' = H := by
  intro n
  induction n with
  | zero => intro H v v' H' h; simp [strip] at h
  | succ n ih =>
    have ihL := mapH_same ih
    intro H v v' H' h
    cases v <;> simp only [strip] at h <;>
      first
      | (simp at h; done)
      | (simp only [Option.some.injEq, Prod.mk.injEq] at h; exact h.2.symm)
      | skip
    · split at h
      · rename_i f1 H1 e1
        split at h
        · rename_i c1 H2 e2
          simp only [Option.some.injEq, Prod.mk.injEq] at h
          rw [← h.2, ihL _ _ _ _ e2, ihL _ _ _ _ e1]
        · simp at h
      · simp at h
    all_goals
      split at h
      · simp only [Option.some.injEq, Prod.mk.injEq] at h
        rw [← h.2]
        first
        | exact ihL _ _ _ _ (by assumption)
        | exact ih _ _ _ _ (by assumption)
      · simp at h

end Go.Am
