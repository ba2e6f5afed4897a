/- Regions that draw their order: whatever order is drawn, the abstract machine's own answer comes. -/
import Derived.Test.YtmdggnehhebkhaaGreatDoorAm9
set_option linter.unusedVariables false
namespace Go.Am
open Go

theorem allB_spec {n : Nat} {f : Nat → Bool} (h : allB n f = true) (i : Nat) (hi : i < n) : f i = true := List.all_eq_true.1 h i (List.mem_range.2 hi)

/-! ### What must come ahead -/
theorem mem_dd : ∀ (l : List Nat) (x : Nat), x ∈ dd l ↔ x ∈ l := by
  intro l
  induction l with
  | nil => intro x; exact Iff.rfl
  | cons a l ih =>
    intro x
    simp only [dd, ddi]
    split
    · rename_i h
      have h' : a ∈ dd l := by simpa using h
      rw [ih, List.mem_cons]
      refine ⟨.inr, fun hx => hx.elim (fun e => ?_) id⟩
      subst e; exact (ih _).1 h'
    · rw [List.mem_cons, List.mem_cons, ih]
def ahead (o : Oper) (acc : List (List Nat)) : List Nat := dd ((o.after.toList.filter (Region.binds .any)).flatMap fun e => e.on :: acc.getD e.on [])

theorem reachL_get : ∀ (ops : List Oper) (acc : List (List Nat)), (reachL ops acc).length = acc.length + ops.length ∧ (∀ i, i < acc.length → (reachL ops acc)[i]? = acc[i]?) ∧
    ∀ i o, ops[i]? = some o → (reachL ops acc)[acc.length + i]? = some (ahead o ((reachL ops acc).take (acc.length + i))) := by
  intro ops
  induction ops with
  | nil => intro acc; exact ⟨rfl, fun i _ => rfl, fun i o h => by simp at h⟩
  | cons o ops ih =>
    intro acc
    obtain ⟨h1, h2, h3⟩ := ih (acc ++ [dd ((o.after.toList.filter (Region.binds .any)).flatMap fun e => e.on :: acc.getD e.on [])])
    simp only [reachL]
    refine ⟨by rw [h1]; simp; omega, fun i hi => by rw [h2 i (by simp; omega), List.getElem?_append_left hi], fun i p hp => ?_⟩
    cases i with
    | zero =>
      simp only [List.getElem?_cons_zero, Option.some.injEq] at hp
      subst hp
      have e : (reachL ops (acc ++ [dd ((o.after.toList.filter (Region.binds .any)).flatMap fun e => e.on :: acc.getD e.on [])])).take acc.length = acc := by
        apply List.ext_getElem?
        intro j
        rw [List.getElem?_take]
        by_cases hj : j < acc.length
        · rw [if_pos hj, h2 j (by simp; omega), List.getElem?_append_left hj]
        · rw [if_neg hj, List.getElem?_eq_none (by omega)]
      rw [Nat.add_zero, h2 _ (by simp), List.getElem?_append_right (Nat.le_refl _), Nat.sub_self, e]
      rfl
    | succ i =>
      simp only [List.getElem?_cons_succ] at hp
      have := h3 i p hp
      simp only [List.length_append, List.length_cons, List.length_nil, Nat.zero_add] at this
      rw [show acc.length + (i + 1) = acc.length + 1 + i by omega]
      exact this

theorem reach_get {ops : List Oper} {i : Nat} {o : Oper} (h : ops[i]? = some o) (hb : ∀ e, e ∈ o.after.toList.filter (Region.binds .any) → e.on < i) :
    ∀ j, j ∈ (reach ops).getD i [] → ∃ e, e ∈ o.after.toList.filter (Region.binds .any) ∧ (j = e.on ∨ j ∈ (reach ops).getD e.on []) := by
  intro j hj
  have := (reachL_get ops []).2.2 i o h
  simp only [List.length_nil, Nat.zero_add] at this
  rw [reach, List.getD_eq_getElem?_getD, this] at hj
  simp only [Option.getD_some, ahead, mem_dd, List.mem_flatMap] at hj
  obtain ⟨e, he, hje⟩ := hj
  refine ⟨e, he, ?_⟩
  rcases List.mem_cons.1 hje with h | h
  · exact .inl h
  · right
    have hlt := hb e he
    rw [List.getD_eq_getElem?_getD, List.getElem?_take, if_pos hlt] at h
    rw [reach, List.getD_eq_getElem?_getD]; exact h

/-! ### The order, read off -/
structure Order (l : List Oper) (f : Nat) : Prop where
  le : f ≤ l.length
  back : ∀ (i : Nat) (o : Oper), l[i]? = some o → ∀ (e : Edge), e ∈ o.after.toList.filter (Region.binds .any) → e.on < i
  looks : ∀ (i j : Nat) (o p : Oper) (d : Nat), i < f → j < f → l[i]? = some o → l[j]? = some p → p.dst = some d → d ∈ tmpsOf o ++ guardTmp l o → j < i ∧ j ∈ (reach l).getD i []
  one : ∀ (i j : Nat) (o p : Oper) (d : Nat), i < f → j < f → l[i]? = some o → l[j]? = some p → p.dst = some d → i ≠ j → o.dst ≠ some d
  post : ∀ j i, f ≤ j → j < l.length → i < j → i ∈ (reach l).getD j []

theorem order_of {l : List Oper} {f : Nat} (h : orderOk l f = true) : Order l f := by
  simp only [orderOk, Bool.and_eq_true, decide_eq_true_eq] at h
  obtain ⟨⟨⟨h1, h2⟩, h3⟩, h4⟩ := h
  refine ⟨h1, fun i o ho e he => ?_, fun i j o p d hi hj ho hp hd hmem => ?_, fun i j o p d hi hj ho hp hd hne => ?_, fun j i hj hjl hij => ?_⟩
  · have := allB_spec h2 i (List.getElem?_eq_some_iff.1 ho).1
    rw [ho] at this
    have := List.all_eq_true.1 this e he
    simpa using this
  · have := allB_spec h3 i hi
    rw [ho] at this
    have := allB_spec this j hj
    rw [hp] at this
    simp only [hd, Bool.and_eq_true] at this
    have := this.1
    rw [if_pos (by simpa using hmem)] at this
    simpa using this
  · have := allB_spec h3 i hi
    rw [ho] at this
    have := allB_spec this j hj
    rw [hp] at this
    simp only [hd, Bool.and_eq_true] at this
    have := this.2
    intro e
    simp [hne, e] at this
  · have := allB_spec (allB_spec h4 (j - f) (by omega)) i (by omega)
    rw [show f + (j - f) = j by omega] at this
    simpa using this

/-! ### The first operations, one by one -/
def PreStep (P : Program) (esc : Nat → Bool) (ca : CA) (nt : Nat) (ops : Array Oper) (ds : List Nat) (o : Oper) (s s' : St) : Prop :=
  (isAlloc o = true ∧ ∃ d, o.dst = some d ∧ esc d = false ∧ putA nt s (some d) (.loc d 0) = some s') ∨
  (isAlloc o = false ∧ ((wantA ops s.e o = some true ∧ ∃ v s1, evOp P esc ca true s o = some (v, s1) ∧ noSlot ds v = true ∧ putA nt s1 o.dst v = some s') ∨ (wantA ops s.e o = some false ∧ putA nt s o.dst (.tup []) = some s')))

theorem evPre_steps {P : Program} {esc : Nat → Bool} {ca : CA} {nt : Nat} {ops : Array Oper} {ds : List Nat} : ∀ (l : List Oper) (s s' : St), evPre P esc ca nt ops ds l s = some s' →
    ∃ tr : Nat → St, tr 0 = s ∧ tr l.length = s' ∧ ∀ i o, l[i]? = some o → PreStep P esc ca nt ops ds o (tr i) (tr (i + 1)) := by
  intro l
  induction l with
  | nil => intro s s' h; simp only [evPre, Option.some.injEq] at h; exact ⟨fun _ => s, rfl, h, fun i o h => by simp at h⟩
  | cons o l ih =>
    intro s s' h
    have fin : ∀ s1, evPre P esc ca nt ops ds l s1 = some s' → PreStep P esc ca nt ops ds o s s1 → ∃ tr : Nat → St, tr 0 = s ∧ tr (o :: l).length = s' ∧ ∀ i p, (o :: l)[i]? = some p → PreStep P esc ca nt ops ds p (tr i) (tr (i + 1)) := by
      intro s1 h1 h2
      obtain ⟨tr, t0, t1, t2⟩ := ih s1 s' h1
      refine ⟨fun i => match i with | 0 => s | i + 1 => tr i, rfl, t1, fun i p hp => ?_⟩
      cases i with
      | zero => simp only [List.getElem?_cons_zero, Option.some.injEq] at hp; subst hp; show PreStep P esc ca nt ops ds o s (tr 0); rw [t0]; exact h2
      | succ i => simp only [List.getElem?_cons_succ] at hp; exact t2 i p hp
    simp only [evPre] at h
    split at h
    · rename_i ha
      split at h
      · rename_i d hd
        split at h
        · cases h
        · rename_i he
          split at h
          · rename_i s1 hp
            exact fin s1 h (.inl ⟨ha, d, hd, by simpa using he, hp⟩)
          · cases h
      · cases h
    · rename_i ha
      split at h
      · rename_i hw
        split at h
        · rename_i v s1 hev
          split at h
          · rename_i hns
            split at h
            · rename_i s2 hp
              exact fin s2 h (.inr ⟨by simpa using ha, .inl ⟨hw, v, s1, hev, hns, hp⟩⟩)
            · cases h
          · cases h
        · cases h
      · rename_i hw
        split at h
        · rename_i s2 hp
          exact fin s2 h (.inr ⟨by simpa using ha, .inr ⟨hw, hp⟩⟩)
        · cases h
      · cases h

theorem addSlots_get {P : Program} : ∀ (l : List Oper) (l0 lo : Lo), addSlots P l l0 = some lo →
    (∀ (i j : Nat) (o p : Oper) (d : Nat), l[i]? = some o → l[j]? = some p → isAlloc o = true → isAlloc p = true → o.dst = some d → i ≠ j → p.dst ≠ some d) →
    (∀ d, d ∉ allocSlots l → lo d = l0 d) ∧ ∀ (i : Nat) (o : Oper) (d : Nat), l[i]? = some o → isAlloc o = true → o.dst = some d → ∃ t z, o.op = .alloc t ∧ zeroT P t = some z ∧ lo d = some z := by
  intro l
  induction l with
  | nil => intro l0 lo h _; simp only [addSlots, Option.some.injEq] at h; subst h; exact ⟨fun d _ => rfl, fun i o d h => by simp at h⟩
  | cons o l ih =>
    intro l0 lo h hone
    have hone' : ∀ (i j : Nat) (o p : Oper) (d : Nat), l[i]? = some o → l[j]? = some p → isAlloc o = true → isAlloc p = true → o.dst = some d → i ≠ j → p.dst ≠ some d :=
      fun i j o p d h1 h2 h3 h4 h5 h6 => hone (i + 1) (j + 1) o p d (by simpa using h1) (by simpa using h2) h3 h4 h5 (by omega)
    simp only [addSlots] at h
    split at h
    · rename_i ha
      split at h
      · rename_i d t hd ht
        split at h
        · rename_i z hz
          obtain ⟨r1, r2⟩ := ih _ _ h hone'
          have hnd : d ∉ allocSlots l := fun hm => by
            simp only [allocSlots, List.mem_filterMap] at hm
            obtain ⟨p, hp, hpd⟩ := hm
            obtain ⟨j, hj⟩ := List.mem_iff_getElem?.1 hp
            split at hpd
            · rename_i hpa
              exact hone 0 (j + 1) o p d rfl (by simpa using hj) ha hpa hd (by omega) hpd
            · cases hpd
          have hslots : allocSlots (o :: l) = d :: allocSlots l := by simp [allocSlots, ha, hd]
          refine ⟨fun d' hd' => ?_, fun i p d' hp hpa hpd => ?_⟩
          · rw [hslots] at hd'
            rw [r1 d' (fun h => hd' (List.mem_cons_of_mem _ h))]
            simp only [Lo.upd]
            rw [if_neg (fun e => hd' (by rw [e]; exact List.mem_cons_self ..))]
          · cases i with
            | zero =>
              simp only [List.getElem?_cons_zero, Option.some.injEq] at hp
              subst hp
              rw [hd] at hpd; cases hpd
              exact ⟨t, z, ht, hz, by rw [r1 d hnd]; simp [Lo.upd]⟩
            | succ i => simp only [List.getElem?_cons_succ] at hp; exact r2 i p d' hp hpa hpd
        · cases h
      · cases h
    · rename_i ha
      obtain ⟨r1, r2⟩ := ih _ _ h hone'
      have hslots : allocSlots (o :: l) = allocSlots l := by simp [allocSlots, ha]
      refine ⟨fun d' hd' => r1 d' (by rw [hslots] at hd'; exact hd'), fun i p d' hp hpa hpd => ?_⟩
      cases i with
      | zero => simp only [List.getElem?_cons_zero, Option.some.injEq] at hp; subst hp; rw [hpa] at ha; exact absurd rfl ha
      | succ i => simp only [List.getElem?_cons_succ] at hp; exact r2 i p d' hp hpa hpd

section
variable {P : Program} {g0 : Gh} {H0 : Hp} {w0 : World} {nt : Nat} {g : Gh} {lam : Nat → Option Nat} {w : World} {s : St} {a : Act}

/-- Variables let go. -/
theorem clr1 (fs : FS g0 H0 w0 nt g lam s a w) (d : Nat) : FS g0 H0 w0 nt g (fun i => if i = d then none else lam i) ⟨s.e.clr d, s.l.del d, s.h⟩ a w := by
  refine ⟨⟨fs.fr.rh, ⟨fun d' cs hd' => ?_, fun d' hd' => ?_, fun d1 d2 b h1 h2 => ?_, fun d' b o ob h1 h2 => ?_⟩, fs.fr.step, fun d' b h => ?_⟩, fun i => ?_, fs.sz, fs.df⟩
  · simp only [Lo.del] at hd'
    split at hd'
    · cases hd'
    · rename_i hne
      obtain ⟨b, cc, T, fz, e1, e2⟩ := fs.fr.rl.lo d' cs hd'
      exact ⟨b, cc, T, fz, by simp only [if_neg hne]; exact e1, e2⟩
  · simp only [Lo.del] at hd'
    split at hd'
    · rename_i e; simp [e]
    · rename_i hne; simp only [if_neg hne]; exact fs.fr.rl.dead d' hd'
  · split at h1
    · cases h1
    · split at h2
      · cases h2
      · exact fs.fr.rl.inj d1 d2 b h1 h2
  · split at h1
    · cases h1
    · exact fs.fr.rl.apart d' b o ob h1 h2
  · split at h
    · cases h
    · exact fs.fr.low d' b h
  · exact clr_rel (d := d) (fun d' hd' => by simp [hd']) (fs.env i)

theorem clrAll_ok : ∀ (ds : List Nat) (s : St) (lam : Nat → Option Nat), FS g0 H0 w0 nt g lam s a w → ∃ lam', FS g0 H0 w0 nt g lam' (clrAll s ds) a w := by
  intro ds
  induction ds with
  | nil => intro s lam h; exact ⟨lam, h⟩
  | cons d ds ih => intro s lam h; exact ih _ _ (clr1 h d)

theorem clrAll_spec : ∀ (ds : List Nat) (s : St), (clrAll s ds).h = s.h ∧ (∀ d, d ∈ ds → (clrAll s ds).l d = none) ∧ (∀ d, s.l d = none → (clrAll s ds).l d = none) ∧
    (∀ t d off, (clrAll s ds).e t = .loc d off → d ∉ ds ∧ s.e t = .loc d off) := by
  intro ds
  induction ds with
  | nil => intro s; exact ⟨rfl, fun d h => by simp at h, fun d h => h, fun t d off h => ⟨by simp, h⟩⟩
  | cons d ds ih =>
    intro s
    obtain ⟨h1, h2, h3, h4⟩ := ih ⟨s.e.clr d, s.l.del d, s.h⟩
    refine ⟨h1, fun d' hd' => ?_, fun d' hd' => h3 d' (by simp only [Lo.del]; split <;> first | rfl | exact hd'), fun t d' off h => ?_⟩
    · rcases List.mem_cons.1 hd' with rfl | h
      · exact h3 d' (by simp [Lo.del])
      · exact h2 d' h
    · obtain ⟨k1, k2⟩ := h4 t d' off h
      simp only [En.clr] at k2
      have : d' ≠ d ∧ s.e t = .loc d' off := by
        cases hv : s.e t <;> rw [hv] at k2 <;> simp only [clrV] at k2 <;> try (cases k2; done)
        split at k2
        · cases k2
        · rename_i hne; cases k2; exact ⟨hne, rfl⟩
      exact ⟨fun hm => by rcases List.mem_cons.1 hm with e | e; exact this.1 e; exact k1 e, this.2⟩

/-- Some variables not looked at. -/
theorem FR.forget {e e' : En} {l l' : Lo} {H : Hp} (fr : FR g0 H0 w0 g lam ⟨e, l, H⟩ w) (ds : List Nat) (h1 : ∀ d, d ∈ ds → l' d = none) (h2 : ∀ d, d ∉ ds → l' d = l d) :
    FR g0 H0 w0 g (fun d => if d ∈ ds then none else lam d) ⟨e', l', H⟩ w := by
  refine ⟨fr.rh, ⟨fun d' cs hd' => ?_, fun d' hd' => ?_, fun d1 d2 b h1 h2 => ?_, fun d' b o ob h1 h2 => ?_⟩, fr.step, fun d' b h => ?_⟩
  · by_cases hm : d' ∈ ds
    · have hd' : l' d' = some cs := hd'
      rw [h1 d' hm] at hd'; cases hd'
    · have hd' : l' d' = some cs := hd'
      rw [h2 d' hm] at hd'
      obtain ⟨b, cc, T, fz, e1, e2⟩ := fr.rl.lo d' cs hd'
      exact ⟨b, cc, T, fz, by simp only [if_neg hm]; exact e1, e2⟩
  · by_cases hm : d' ∈ ds
    · simp [hm]
    · have hd' : l' d' = none := hd'
      rw [h2 d' hm] at hd'; simp only [if_neg hm]; exact fr.rl.dead d' hd'
  · split at h1
    · cases h1
    · split at h2
      · cases h2
      · exact fr.rl.inj d1 d2 b h1 h2
  · split at h1
    · cases h1
    · exact fr.rl.apart d' b o ob h1 h2
  · split at h
    · cases h
    · exact fr.low d' b h

end
end Go.Am
