/- The relation between the abstract machine's values and memory and the machine's own; its plain laws. -/
import Derived.Test.YtmdggnehhebkhaaGreatDoorAm0
set_option linter.unusedVariables false
namespace Go.Am
open Go

/-- Cells that never turn again. -/
abbrev Mem := Nat → Nat → Option Value

inductive RelD (m : Mem) : AV → Value → Prop
  | undef (u : Value) : RelD m .undef u
  | bool (b : Bool) : RelD m (.bool b) (.bool b)
  | int (k : IntKind) (n : Int) : RelD m (.int k n) (.int k n)
  | str (s : ByteArray) : RelD m (.str s) (.string s)
  | nilptr : RelD m .nilptr (.pointer none)
  | nilfunc : RelD m .nilfunc .nilFunc
  | niliface : RelD m .niliface .nilIface
  | eptr (cs : List AV) (us : List Value) (b off : Nat) (hl : us.length = cs.length) (hm : ∀ (i : Nat) (u : Value), us[i]? = some u → m b (off + i) = some u)
      (hr : ∀ (i : Nat) (v : AV) (u : Value), cs[i]? = some v → us[i]? = some u → RelD m v u) : RelD m (.eptr cs) (.pointer (some ⟨b, off, none⟩))
  | slice0 (ex : Bool) (cap : Nat) (hx : ex = true → cap = 0) : RelD m (.slice 0 [] ex) (.slice none 0 cap)
  | slice (n : Nat) (cs : List AV) (ex : Bool) (us : List Value) (b off cap : Nat) (hc : n ≤ cap) (hx : ex = true → cap = n) (hl : us.length = cs.length) (hm : ∀ (i : Nat) (u : Value), us[i]? = some u → m b (off + i) = some u)
      (hr : ∀ (i : Nat) (v : AV) (u : Value), cs[i]? = some v → us[i]? = some u → RelD m v u) : RelD m (.slice n cs ex) (.slice (some ⟨b, off, none⟩) n cap)
  | func (fn : Fn) (f c : List AV) (vf vc : Array Value) (h1 : vf.toList.length = f.length) (h2 : vc.toList.length = c.length)
      (r1 : ∀ (i : Nat) (v : AV) (u : Value), f[i]? = some v → vf.toList[i]? = some u → RelD m v u) (r2 : ∀ (i : Nat) (v : AV) (u : Value), c[i]? = some v → vc.toList[i]? = some u → RelD m v u) : RelD m (.func fn f c) (.func fn vf vc)
  | iface (t : TypeId) (v : AV) (u : Value) (h : RelD m v u) : RelD m (.iface t v) (.iface t u)
  | agg (cs : List AV) (us : Array Value) (hl : us.toList.length = cs.length) (h1 : ∀ (u : Value), u ∈ us.toList → u.oneCell' = true)
      (hr : ∀ (i : Nat) (v : AV) (u : Value), cs[i]? = some v → us.toList[i]? = some u → RelD m v u) : RelD m (.agg cs) (.agg us)
  | tup (cs : List AV) (us : Array Value) (hl : us.toList.length = cs.length)
      (hr : ∀ (i : Nat) (v : AV) (u : Value), cs[i]? = some v → us.toList[i]? = some u → RelD m v u) : RelD m (.tup cs) (.tuple us)

/-- Where things lie: what never turns; each object's block, its first cell there, the block's size. -/
structure Gh where
  m : Mem
  φ : Nat → Nat × Nat × Nat

inductive Rel (g : Gh) (H : Hp) : AV → Value → Prop
  | data (v : AV) (u : Value) (h : RelD g.m v u) : Rel g H v u
  | ptr (o ver off : Nat) (u : Value) (h1 : o < H.next) (h2 : ver < H.next) (h3 : u.oneCell' = true)
      (h : ∀ b, H.ob o = some b → b.ver = ver → u = .pointer (some ⟨(g.φ o).1, (g.φ o).2.1 + off, none⟩)) : Rel g H (.ptr o ver off) u
  | vec (o ver off n esz : Nat) (u : Value) (h1 : o < H.next) (h2 : ver < H.next) (h3 : u.oneCell' = true)
      (h : ∀ b, H.ob o = some b → b.ver = ver → ∃ cap, u = .slice (some ⟨(g.φ o).1, (g.φ o).2.1 + off, none⟩) n cap ∧ n ≤ cap ∧ (g.φ o).2.1 + off + cap * esz ≤ (g.φ o).2.2) : Rel g H (.vec o ver off n esz) u
  | func (fn : Fn) (f c : List AV) (vf vc : Array Value) (h1 : vf.toList.length = f.length) (h2 : vc.toList.length = c.length)
      (r1 : ∀ (i : Nat) (v : AV) (u : Value), f[i]? = some v → vf.toList[i]? = some u → Rel g H v u) (r2 : ∀ (i : Nat) (v : AV) (u : Value), c[i]? = some v → vc.toList[i]? = some u → Rel g H v u) : Rel g H (.func fn f c) (.func fn vf vc)
  | iface (t : TypeId) (v : AV) (u : Value) (h : Rel g H v u) : Rel g H (.iface t v) (.iface t u)
  | agg (cs : List AV) (us : Array Value) (hl : us.toList.length = cs.length) (h1 : ∀ (u : Value), u ∈ us.toList → u.oneCell' = true)
      (hr : ∀ (i : Nat) (v : AV) (u : Value), cs[i]? = some v → us.toList[i]? = some u → Rel g H v u) : Rel g H (.agg cs) (.agg us)
  | tup (cs : List AV) (us : Array Value) (hl : us.toList.length = cs.length)
      (hr : ∀ (i : Nat) (v : AV) (u : Value), cs[i]? = some v → us.toList[i]? = some u → Rel g H v u) : Rel g H (.tup cs) (.tuple us)

theorem RelD.mono {m m' : Mem} (hm : ∀ (b i : Nat) (u : Value), m b i = some u → m' b i = some u) {v : AV} {u : Value} (h : RelD m v u) : RelD m' v u := by
  induction h with
  | undef u => exact .undef u
  | bool b => exact .bool b
  | int k n => exact .int k n
  | str s => exact .str s
  | nilptr => exact .nilptr
  | nilfunc => exact .nilfunc
  | niliface => exact .niliface
  | eptr cs us b off hl hmm hr ih => exact .eptr cs us b off hl (fun i u h => hm _ _ _ (hmm i u h)) ih
  | slice0 ex cap hx => exact .slice0 ex cap hx
  | slice n cs ex us b off cap hc hx hl hmm hr ih => exact .slice n cs ex us b off cap hc hx hl (fun i u h => hm _ _ _ (hmm i u h)) ih
  | func fn f c vf vc h1 h2 r1 r2 i1 i2 => exact .func fn f c vf vc h1 h2 i1 i2
  | iface t v u h ih => exact .iface t v u ih
  | agg cs us hl h1 hr ih => exact .agg cs us hl h1 ih
  | tup cs us hl hr ih => exact .tup cs us hl ih

/-- What was valid stays where it was; what never turned doesn't. -/
structure Ext (g : Gh) (H : Hp) (g' : Gh) (H' : Hp) : Prop where
  mem : ∀ (b i : Nat) (u : Value), g.m b i = some u → g'.m b i = some u
  next : H.next ≤ H'.next
  obs : ∀ o b', o < H.next → b'.ver < H.next → H'.ob o = some b' → (∃ b, H.ob o = some b ∧ b.ver = b'.ver) ∧ g'.φ o = g.φ o

theorem Ext.refl (g : Gh) (H : Hp) : Ext g H g H := ⟨fun _ _ _ h => h, Nat.le_refl _, fun o b' _ _ h => ⟨⟨b', h, rfl⟩, rfl⟩⟩
theorem Ext.trans {g g1 g2 : Gh} {H H1 H2 : Hp} (a : Ext g H g1 H1) (b : Ext g1 H1 g2 H2) : Ext g H g2 H2 :=
  ⟨fun x i u h => b.mem _ _ _ (a.mem _ _ _ h), Nat.le_trans a.next b.next, fun o b' h1 h2 h => by
    obtain ⟨⟨b1, e1, e2⟩, e3⟩ := b.obs o b' (Nat.lt_of_lt_of_le h1 a.next) (Nat.lt_of_lt_of_le h2 a.next) h
    obtain ⟨⟨b0, f1, f2⟩, f3⟩ := a.obs o b1 h1 (by rw [e2]; exact h2) e1
    exact ⟨⟨b0, f1, f2.trans e2⟩, e3.trans f3⟩⟩

theorem Rel.mono {g g' : Gh} {H H' : Hp} (x : Ext g H g' H') {v : AV} {u : Value} (h : Rel g H v u) : Rel g' H' v u := by
  induction h with
  | data v u h => exact .data v u (h.mono x.mem)
  | ptr o ver off u h1 h2 h3 h =>
    refine .ptr o ver off u (Nat.lt_of_lt_of_le h1 x.next) (Nat.lt_of_lt_of_le h2 x.next) h3 fun b hb hv => ?_
    subst hv
    obtain ⟨⟨b0, e1, e2⟩, e3⟩ := x.obs o b h1 h2 hb
    rw [e3]; exact h b0 e1 e2
  | vec o ver off n esz u h1 h2 h3 h =>
    refine .vec o ver off n esz u (Nat.lt_of_lt_of_le h1 x.next) (Nat.lt_of_lt_of_le h2 x.next) h3 fun b hb hv => ?_
    subst hv
    obtain ⟨⟨b0, e1, e2⟩, e3⟩ := x.obs o b h1 h2 hb
    rw [e3]; exact h b0 e1 e2
  | func fn f c vf vc h1 h2 r1 r2 i1 i2 => exact .func fn f c vf vc h1 h2 i1 i2
  | iface t v u h ih => exact .iface t v u ih
  | agg cs us hl h1 hr ih => exact .agg cs us hl h1 ih
  | tup cs us hl hr ih => exact .tup cs us hl ih

/-! ### Lists of cells -/
/-- Cells that are as abstract ones. -/
def RelL (g : Gh) (H : Hp) (cs : List AV) (us : List Value) : Prop := us.length = cs.length ∧ ∀ (i : Nat) (v : AV) (u : Value), cs[i]? = some v → us[i]? = some u → Rel g H v u
def RelDL (m : Mem) (cs : List AV) (us : List Value) : Prop := us.length = cs.length ∧ ∀ (i : Nat) (v : AV) (u : Value), cs[i]? = some v → us[i]? = some u → RelD m v u

theorem RelL.nil (g : Gh) (H : Hp) : RelL g H [] [] := ⟨rfl, fun i v u h => by simp at h⟩
theorem RelL.cons {g : Gh} {H : Hp} {v : AV} {u : Value} {cs : List AV} {us : List Value} (h : Rel g H v u) (t : RelL g H cs us) : RelL g H (v :: cs) (u :: us) :=
  ⟨by simp [t.1], fun i v' u' h1 h2 => by
    cases i with
    | zero => simp only [List.getElem?_cons_zero, Option.some.injEq] at h1 h2; subst h1 h2; exact h
    | succ i => simp only [List.getElem?_cons_succ] at h1 h2; exact t.2 i v' u' h1 h2⟩
theorem RelL.cons_inv {g : Gh} {H : Hp} {v : AV} {cs : List AV} {us : List Value} (h : RelL g H (v :: cs) us) : ∃ u us', us = u :: us' ∧ Rel g H v u ∧ RelL g H cs us' := by
  obtain ⟨hl, hr⟩ := h
  cases us with
  | nil => simp at hl
  | cons u us => exact ⟨u, us, rfl, hr 0 v u rfl rfl, by simpa using hl, fun i v' u' h1 h2 => hr (i + 1) v' u' (by simpa using h1) (by simpa using h2)⟩
theorem RelL.nil_inv {g : Gh} {H : Hp} {us : List Value} (h : RelL g H [] us) : us = [] := List.eq_nil_of_length_eq_zero h.1
theorem RelL.mono {g g' : Gh} {H H' : Hp} (x : Ext g H g' H') {cs : List AV} {us : List Value} (h : RelL g H cs us) : RelL g' H' cs us := ⟨h.1, fun i v u h1 h2 => (h.2 i v u h1 h2).mono x⟩
theorem RelL.append {g : Gh} {H : Hp} {cs ds : List AV} {us vs : List Value} (h : RelL g H cs us) (k : RelL g H ds vs) : RelL g H (cs ++ ds) (us ++ vs) := by
  refine ⟨by simp [h.1, k.1], fun i v u h1 h2 => ?_⟩
  by_cases hi : i < cs.length
  · rw [List.getElem?_append_left hi] at h1
    rw [List.getElem?_append_left (by rw [h.1]; exact hi)] at h2
    exact h.2 i v u h1 h2
  · rw [List.getElem?_append_right (by omega)] at h1
    rw [List.getElem?_append_right (by rw [h.1]; omega), h.1] at h2
    exact k.2 _ v u h1 h2
theorem RelL.take {g : Gh} {H : Hp} {cs : List AV} {us : List Value} (h : RelL g H cs us) (n : Nat) : RelL g H (cs.take n) (us.take n) := by
  refine ⟨by simp [h.1], fun i v u h1 h2 => ?_⟩
  rw [List.getElem?_take] at h1 h2
  split at h1
  · rename_i hi; rw [if_pos hi] at h2; exact h.2 i v u h1 h2
  · simp at h1
theorem RelL.drop {g : Gh} {H : Hp} {cs : List AV} {us : List Value} (h : RelL g H cs us) (n : Nat) : RelL g H (cs.drop n) (us.drop n) := by
  refine ⟨by simp [h.1], fun i v u h1 h2 => ?_⟩
  rw [List.getElem?_drop] at h1 h2
  exact h.2 _ v u h1 h2
theorem RelL.cut {g : Gh} {H : Hp} {cs : List AV} {us : List Value} (h : RelL g H cs us) (off k : Nat) : RelL g H (cut cs off k) ((us.drop off).take k) := (h.drop off).take k
theorem RelL.mem {g : Gh} {H : Hp} {cs : List AV} {us : List Value} (h : RelL g H cs us) (i : Nat) (v : AV) (hv : cs[i]? = some v) : ∃ u, us[i]? = some u ∧ Rel g H v u := by
  have hi : i < us.length := by rw [h.1]; exact (List.getElem?_eq_some_iff.1 hv).1
  exact ⟨us[i], List.getElem?_eq_getElem hi, h.2 i v _ hv (List.getElem?_eq_getElem hi)⟩
theorem RelDL.rel {g : Gh} {H : Hp} {cs : List AV} {us : List Value} (h : RelDL g.m cs us) : RelL g H cs us := ⟨h.1, fun i v u h1 h2 => .data _ _ (h.2 i v u h1 h2)⟩

/-- A list in memory from a place on. -/
def InM (m : Mem) (b off : Nat) (us : List Value) : Prop := ∀ (i : Nat) (u : Value), us[i]? = some u → m b (off + i) = some u

/-! ### Inversions -/
theorem rel_bool {g : Gh} {H : Hp} {b : Bool} {u : Value} (h : Rel g H (.bool b) u) : u = .bool b := by
  cases h with
  | data _ _ h => cases h; rfl
theorem rel_int {g : Gh} {H : Hp} {k : IntKind} {n : Int} {u : Value} (h : Rel g H (.int k n) u) : u = .int k n := by
  cases h with
  | data _ _ h => cases h; rfl
theorem rel_str {g : Gh} {H : Hp} {s : ByteArray} {u : Value} (h : Rel g H (.str s) u) : u = .string s := by
  cases h with
  | data _ _ h => cases h; rfl
theorem rel_nilptr {g : Gh} {H : Hp} {u : Value} (h : Rel g H .nilptr u) : u = .pointer none := by
  cases h with
  | data _ _ h => cases h; rfl
theorem rel_niliface {g : Gh} {H : Hp} {u : Value} (h : Rel g H .niliface u) : u = .nilIface := by
  cases h with
  | data _ _ h => cases h; rfl
theorem rel_nilfunc {g : Gh} {H : Hp} {u : Value} (h : Rel g H .nilfunc u) : u = .nilFunc := by
  cases h with
  | data _ _ h => cases h; rfl
theorem rel_agg {g : Gh} {H : Hp} {cs : List AV} {u : Value} (h : Rel g H (.agg cs) u) : ∃ us, u = .agg us ∧ RelL g H cs us.toList ∧ ∀ (x : Value), x ∈ us.toList → x.oneCell' = true := by
  cases h with
  | data _ _ h => cases h with | agg _ us hl h1 hr => exact ⟨us, rfl, ⟨hl, fun i v u a b => .data _ _ (hr i v u a b)⟩, h1⟩
  | agg _ us hl h1 hr => exact ⟨us, rfl, ⟨hl, hr⟩, h1⟩
theorem rel_tup {g : Gh} {H : Hp} {cs : List AV} {u : Value} (h : Rel g H (.tup cs) u) : ∃ us, u = .tuple us ∧ RelL g H cs us.toList := by
  cases h with
  | data _ _ h => cases h with | tup _ us hl hr => exact ⟨us, rfl, ⟨hl, fun i v u a b => .data _ _ (hr i v u a b)⟩⟩
  | tup _ us hl hr => exact ⟨us, rfl, ⟨hl, hr⟩⟩
theorem rel_func {g : Gh} {H : Hp} {fn : Fn} {f c : List AV} {u : Value} (h : Rel g H (.func fn f c) u) : ∃ vf vc, u = .func fn vf vc ∧ RelL g H f vf.toList ∧ RelL g H c vc.toList := by
  cases h with
  | data _ _ h => cases h with | func _ _ _ vf vc h1 h2 r1 r2 => exact ⟨vf, vc, rfl, ⟨h1, fun i v u a b => .data _ _ (r1 i v u a b)⟩, ⟨h2, fun i v u a b => .data _ _ (r2 i v u a b)⟩⟩
  | func _ _ _ vf vc h1 h2 r1 r2 => exact ⟨vf, vc, rfl, ⟨h1, r1⟩, ⟨h2, r2⟩⟩
theorem rel_iface {g : Gh} {H : Hp} {t : TypeId} {v : AV} {u : Value} (h : Rel g H (.iface t v) u) : ∃ x, u = .iface t x ∧ Rel g H v x := by
  cases h with
  | data _ _ h => cases h with | iface _ _ x h => exact ⟨x, rfl, .data _ _ h⟩
  | iface _ _ x h => exact ⟨x, rfl, h⟩
theorem rel_eptr {g : Gh} {H : Hp} {cs : List AV} {u : Value} (h : Rel g H (.eptr cs) u) : ∃ b off us, u = .pointer (some ⟨b, off, none⟩) ∧ InM g.m b off us ∧ RelDL g.m cs us := by
  cases h with
  | data _ _ h => cases h with | eptr _ us b off hl hm hr => exact ⟨b, off, us, rfl, hm, hl, hr⟩
theorem rel_slice {g : Gh} {H : Hp} {n : Nat} {cs : List AV} {ex : Bool} {u : Value} (h : Rel g H (.slice n cs ex) u) :
    (∃ cap, u = .slice none 0 cap ∧ n = 0 ∧ cs = [] ∧ (ex = true → cap = 0)) ∨ ∃ b off cap us, u = .slice (some ⟨b, off, none⟩) n cap ∧ n ≤ cap ∧ (ex = true → cap = n) ∧ InM g.m b off us ∧ RelDL g.m cs us := by
  cases h with
  | data _ _ h => cases h with
    | slice0 _ cap hx => exact .inl ⟨cap, rfl, rfl, rfl, hx⟩
    | slice _ _ _ us b off cap hc hx hl hm hr => exact .inr ⟨b, off, cap, us, rfl, hc, hx, hm, hl, hr⟩
theorem rel_ptr {g : Gh} {H : Hp} {o ver off : Nat} {u : Value} (h : Rel g H (.ptr o ver off) u) {b : Ob} (hb : H.ob o = some b) (hv : b.ver = ver) : u = .pointer (some ⟨(g.φ o).1, (g.φ o).2.1 + off, none⟩) := by
  cases h with
  | data _ _ h => cases h
  | ptr _ _ _ _ h1 h2 h3 h => exact h b hb hv
theorem rel_vec {g : Gh} {H : Hp} {o ver off n esz : Nat} {u : Value} (h : Rel g H (.vec o ver off n esz) u) {b : Ob} (hb : H.ob o = some b) (hv : b.ver = ver) :
    ∃ cap, u = .slice (some ⟨(g.φ o).1, (g.φ o).2.1 + off, none⟩) n cap ∧ n ≤ cap ∧ (g.φ o).2.1 + off + cap * esz ≤ (g.φ o).2.2 := by
  cases h with
  | data _ _ h => cases h
  | vec _ _ _ _ _ _ h1 h2 h3 h => exact h b hb hv
theorem rel_loc {g : Gh} {H : Hp} {d off : Nat} {u : Value} (h : Rel g H (.loc d off) u) : False := by
  cases h with
  | data _ _ h => cases h

/-! ### Memory -/
/-- What is frozen lies below a place. -/
def FzOk (fz : Nat × Nat) (n : Nat) : Prop := fz.1 = fz.2 ∨ fz.2 ≤ n
theorem FzOk.out {fz : Nat × Nat} {n i : Nat} (h : FzOk fz n) (hi : n ≤ i) : ¬ (fz.1 ≤ i ∧ i < fz.2) := by
  unfold FzOk at h; omega
theorem FzOk.mono {fz : Nat × Nat} {n m : Nat} (h : FzOk fz n) (hm : n ≤ m) : FzOk fz m := by
  unfold FzOk at h ⊢; omega
structure RH (g : Gh) (H : Hp) (w : World) : Prop where
  inv : ∀ (b i : Nat) (u : Value), g.m b i = some u → w.cell? ⟨b, i, none⟩ = some u ∧ u.oneCell' = true
  ob : ∀ o b, H.ob o = some b → o < H.next ∧ b.ver < H.next ∧ b.fz ≤ b.cells.length ∧
    ∃ cs T fz, w.heap[(g.φ o).1]? = some (.cells cs T fz) ∧ cs.size = (g.φ o).2.2 ∧ (g.φ o).2.1 + b.cells.length ≤ cs.size ∧
      (∀ (i : Nat) (v : AV), b.cells[i]? = some v → ∃ u, cs[(g.φ o).2.1 + i]? = some u ∧ Rel g H v u ∧ u.oneCell' = true) ∧
      (∀ i, (g.φ o).2.1 + b.fz ≤ i → i < cs.size → ¬ (fz.1 ≤ i ∧ i < fz.2)) ∧
      (∀ i, (g.φ o).2.1 + b.fz ≤ i → g.m (g.φ o).1 i = none)
  inj : ∀ o o' b b', H.ob o = some b → H.ob o' = some b' → o ≠ o' → (g.φ o).1 ≠ (g.φ o').1
  typ : ∀ o b t, H.ob o = some b → b.ty = some t → ∃ cs fz, w.heap[(g.φ o).1]? = some (.cells cs t.1 fz) ∧ (t.2 = true → cs.size = b.cells.length) ∧ FzOk fz ((g.φ o).2.1 + b.fz)

/-- A frame's own variables: each in a block of its own. -/
structure RL (g : Gh) (H : Hp) (lam : Nat → Option Nat) (l : Lo) (w : World) : Prop where
  lo : ∀ d cs, l d = some cs → ∃ b cc T fz, lam d = some b ∧ w.heap[b]? = some (.cells cc T fz) ∧ cc.size = cs.length ∧
    (∀ (i : Nat) (v : AV), cs[i]? = some v → ∃ u, cc[i]? = some u ∧ Rel g H v u ∧ u.oneCell' = true) ∧
    (∀ i, i < cc.size → ¬ (fz.1 ≤ i ∧ i < fz.2)) ∧ (∀ i, g.m b i = none)
  dead : ∀ d, l d = none → lam d = none
  inj : ∀ d d' b, lam d = some b → lam d' = some b → d = d'
  apart : ∀ d b o ob, lam d = some b → H.ob o = some ob → (g.φ o).1 ≠ b

/-- What became of the world since. -/
structure Step (g : Gh) (H : Hp) (w : World) (g' : Gh) (H' : Hp) (w' : World) : Prop where
  os : w'.os = w.os
  tape : w'.tape = w.tape
  output : w'.output = w.output
  size : w.heap.size ≤ w'.heap.size
  keep : ∀ b, b < w.heap.size → (∀ o ob, H.ob o = some ob → (g.φ o).1 ≠ b) → w'.heap[b]? = w.heap[b]? ∧ ∀ i, g'.m b i = g.m b i
  ext : Ext g H g' H'
  cls : ∀ o ob, H'.ob o = some ob → w.heap.size ≤ (g'.φ o).1 ∨ ∃ o' ob', H.ob o' = some ob' ∧ (g.φ o').1 = (g'.φ o).1

theorem Step.refl (g : Gh) (H : Hp) (w : World) : Step g H w g H w :=
  ⟨rfl, rfl, rfl, Nat.le_refl _, fun _ _ _ => ⟨rfl, fun _ => rfl⟩, Ext.refl g H, fun o ob h => .inr ⟨o, ob, h, rfl⟩⟩

theorem Step.trans {g g1 g2 : Gh} {H H1 H2 : Hp} {w w1 w2 : World} (a : Step g H w g1 H1 w1) (b : Step g1 H1 w1 g2 H2 w2) : Step g H w g2 H2 w2 where
  os := b.os.trans a.os
  tape := b.tape.trans a.tape
  output := b.output.trans a.output
  size := Nat.le_trans a.size b.size
  ext := a.ext.trans b.ext
  keep := fun x hx hn => by
    obtain ⟨e1, e2⟩ := a.keep x hx hn
    obtain ⟨f1, f2⟩ := b.keep x (Nat.lt_of_lt_of_le hx a.size) (fun o ob ho he => by
      rcases a.cls o ob ho with h | ⟨o', ob', h1, h2⟩
      · omega
      · exact hn o' ob' h1 (h2.trans he))
    exact ⟨f1.trans e1, fun i => (f2 i).trans (e2 i)⟩
  cls := fun o ob ho => by
    rcases b.cls o ob ho with h | ⟨o', ob', h1, h2⟩
    · exact .inl (Nat.le_trans a.size h)
    · rcases a.cls o' ob' h1 with h | ⟨o2, ob2, h3, h4⟩
      · exact .inl (by omega)
      · exact .inr ⟨o2, ob2, h3, h4.trans h2⟩

/-- A frame's variables through whatever doesn't touch them. -/
theorem RL.step {g g' : Gh} {H H' : Hp} {lam : Nat → Option Nat} {l : Lo} {w w' : World} (h : RL g H lam l w) (s : Step g H w g' H' w') : RL g' H' lam l w' where
  lo := fun d cs hd => by
    obtain ⟨b, cc, T, fz, h1, h2, h3, h4, h5, h6⟩ := h.lo d cs hd
    have hb : b < w.heap.size := (Array.getElem?_eq_some_iff.1 h2).1
    obtain ⟨e1, e2⟩ := s.keep b hb (fun o ob ho => h.apart d b o ob h1 ho)
    exact ⟨b, cc, T, fz, h1, by rw [e1, h2], h3, fun i v hv => by
      obtain ⟨u, a, r, c⟩ := h4 i v hv
      exact ⟨u, a, r.mono s.ext, c⟩, h5, fun i => by rw [e2, h6]⟩
  dead := h.dead
  inj := h.inj
  apart := fun d b o ob hd ho he => by
    rcases s.cls o ob ho with hc | ⟨o', ob', h1, h2⟩
    · have hb : b < w.heap.size := by
        cases hl : l d with
        | none => have := h.dead d hl; rw [hd] at this; cases this
        | some cs =>
          obtain ⟨b', cc, T, fz, h1, h2, _⟩ := h.lo d cs hl
          rw [hd] at h1; cases h1
          exact (Array.getElem?_eq_some_iff.1 h2).1
      omega
    · exact h.apart d b o' ob' hd h1 (h2.trans he)

/-- A value of a frame: an address of one of its own variables, or any other. -/
def RelT (g : Gh) (H : Hp) (lam : Nat → Option Nat) (v : AV) (u : Value) : Prop :=
  match v with
  | .loc d off => ∀ b, lam d = some b → u = .pointer (some ⟨b, off, none⟩)
  | v => Rel g H v u

theorem RelT.of {g : Gh} {H : Hp} {lam : Nat → Option Nat} {v : AV} {u : Value} (h : Rel g H v u) : RelT g H lam v u := by
  cases v <;> first | exact h | exact (rel_loc h).elim
theorem RelT.rel {g : Gh} {H : Hp} {lam : Nat → Option Nat} {v : AV} {u : Value} (h : RelT g H lam v u) (hv : v.isLoc = false) : Rel g H v u := by
  cases v <;> first | exact h | simp [AV.isLoc] at hv
theorem RelT.mono {g g' : Gh} {H H' : Hp} (x : Ext g H g' H') {lam : Nat → Option Nat} {v : AV} {u : Value} (h : RelT g H lam v u) : RelT g' H' lam v u := by
  cases v <;> first | exact Rel.mono x h | exact h
theorem RelT.undef (g : Gh) (H : Hp) (lam : Nat → Option Nat) (u : Value) : RelT g H lam .undef u := Rel.data _ _ (.undef u)

/-! ### Constants -/
theorem relD_ofA (m : Mem) (v : Value) : RelD m (AV.ofA v) v := by
  unfold AV.ofA
  split
  · exact .bool _
  · exact .int _ _
  · exact .str _
  · exact .nilptr
  · exact .slice0 true 0 (fun _ => rfl)
  · exact .nilfunc
  · exact .niliface
  · exact .undef _
theorem rel_ofV (g : Gh) (H : Hp) (v : Value) : Rel g H (AV.ofV v) v := by
  unfold AV.ofV
  split
  · rename_i cs
    split
    · rename_i h
      refine .data _ _ (.agg _ _ (by simp) (fun u hu => List.all_eq_true.1 h u hu) fun i v u a b => ?_)
      rw [List.getElem?_map, b] at a
      simp only [Option.map_some, Option.some.injEq] at a
      subst a
      exact relD_ofA _ _
    · exact .data _ _ (.undef _)
  · exact .data _ _ (.undef _)
  · exact .data _ _ (relD_ofA _ _)

end Go.Am
