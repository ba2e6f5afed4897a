/- Rows of operations, in the order of the text. -/
import Derived.Test.YtmdggnehhebkhaaGreatDoorAm8
set_option linter.unusedVariables false
namespace Go.Am
open Go

/-- The temporaries of a frame. -/
def EnvR (g : Gh) (H : Hp) (lam : Nat → Option Nat) (e : En) (a : Act) : Prop := ∀ i, RelT g H lam (e i) (a.tmps.getD i undef)

theorem relT_skip (g : Gh) (H : Hp) (lam : Nat → Option Nat) : RelT g H lam (.tup []) undef := RelT.of (.tup [] #[] rfl (fun i v u h => by simp at h))

/-- A frame, whole. -/
structure FS (g0 : Gh) (H0 : Hp) (w0 : World) (nt : Nat) (g : Gh) (lam : Nat → Option Nat) (s : St) (a : Act) (w : World) : Prop where
  fr : FR g0 H0 w0 g lam s w
  env : EnvR g s.h lam s.e a
  sz : nt ≤ a.tmps.size
  df : a.defers = []

section
variable {P : Program} {g0 : Gh} {H0 : Hp} {w0 : World} {nt : Nat} {g : Gh} {lam : Nat → Option Nat} {w : World} {s : St} {a : Act}

theorem opnd_rel {H : Hp} {e : En} (h : EnvR g H lam e a) (x : Operand) : RelT g H lam (opnd e x) (a.eval x) := by
  cases x with
  | tmp t => exact h t
  | const v => exact RelT.of (rel_ofV g H v)
  | global n => exact RelT.undef _ _ _ _
  | func f => exact RelT.of (Rel.func _ _ _ _ _ (by simp) (by simp) (fun i v u h => by simp at h) (fun i v u h => by simp at h))

theorem getD_put {d : Nat} {u : Value} (hd : d < a.tmps.size) (i : Nat) : (a.put (some d) u).tmps.getD i undef = if i = d then u else a.tmps.getD i undef := by
  simp only [Act.put, Array.getD_eq_getD_getElem?, Array.getElem?_setIfInBounds]
  by_cases h : d = i
  · subst h; simp [hd]
  · rw [if_neg h, if_neg (Ne.symm h)]

theorem putA_ok {s1 : St} {d : Option Tmp} {v : AV} (h : putA nt s d v = some s1) : s1.l = s.l ∧ s1.h = s.h ∧ ((d = none ∧ s1 = s) ∨ ∃ t, d = some t ∧ t < nt ∧ s1.e = s.e.upd t v) := by
  unfold putA at h
  split at h
  · split at h
    · rename_i t ht; cases h; exact ⟨rfl, rfl, .inr ⟨_, rfl, ht, rfl⟩⟩
    · cases h
  · cases h; exact ⟨rfl, rfl, .inl ⟨rfl, rfl⟩⟩

theorem env_put {H : Hp} {e : En} (h : EnvR g H lam e a) {d : Nat} {v : AV} {u : Value} (hd : d < a.tmps.size) (hr : RelT g H lam v u) : EnvR g H lam (e.upd d v) (a.put (some d) u) := fun i => by
  rw [getD_put hd]
  simp only [En.upd]
  split
  · exact hr
  · exact h i

/-- Behind an operation. -/
theorem FS.put {s' s1 : St} {g' : Gh} {lam' : Nat → Option Nat} {w' : World} {d : Option Tmp} {v : AV} {u : Value} (fr : FR g0 H0 w0 g' lam' s' w') (he : EnvR g' s'.h lam' s'.e a) (hsz : nt ≤ a.tmps.size) (hdf : a.defers = [])
    (hr : RelT g' s'.h lam' v u) (h : putA nt s' d v = some s1) : FS g0 H0 w0 nt g' lam' s1 (a.put d u) w' := by
  obtain ⟨h1, h2, ⟨rfl, rfl⟩ | ⟨t, rfl, h3, h4⟩⟩ := putA_ok h
  · exact ⟨fr, he, hsz, hdf⟩
  · obtain ⟨e1, l1, hh1⟩ := s1
    simp only at h1 h2 h4
    subst h1 h2 h4
    exact ⟨fr.env _, env_put he (Nat.lt_of_lt_of_le h3 hsz) hr, by simp only [Act.put, Array.size_setIfInBounds]; exact hsz, hdf⟩

theorem env_mono {H H' : Hp} {g' : Gh} (x : Ext g H g' H') {e : En} (h : EnvR g H lam e a) : EnvR g' H' lam e a := fun i => (h i).mono x

theorem want_ok {ops : Array Oper} {o : Oper} {b : Bool} {H : Hp} {e : En} (h : wantA ops e o = some b) (he : EnvR g H lam e a) : Region.wanted o (yielded ops a.tmps) = b := by
  unfold wantA at h
  split at h
  · rename_i hg; cases h; simp [Region.wanted, hg]
  · rename_i j want hg
    split at h
    · rename_i t ht
      split at h
      · rename_i c hc
        cases h
        have := he t
        rw [hc] at this
        have hb := rel_bool this
        have ht' : a.tmps[t]? = some (.bool c) := by
          simp only [Array.getD_eq_getD_getElem?] at hb
          cases hx : a.tmps[t]? with
          | none => rw [hx] at hb; simp [undef] at hb
          | some y => rw [hx] at hb; simpa using hb
        simp only [Region.wanted, hg, yielded, ht, Option.bind_some, ht']
        cases c <;> cases want <;> rfl
      · rename_i hc
        cases h
        have := he t
        rw [hc] at this
        obtain ⟨us, hu, hl⟩ := rel_tup this
        have ht' : a.tmps[t]? = none ∨ a.tmps[t]? = some (.tuple us) := by
          simp only [Array.getD_eq_getD_getElem?] at hu
          cases hx : a.tmps[t]? with
          | none => exact .inl rfl
          | some y => rw [hx] at hu; exact .inr (by simpa using hu)
        rcases ht' with e1 | e1 <;> simp only [Region.wanted, hg, yielded, ht, Option.bind_some, e1] <;> cases want <;> rfl
      · cases h
    · cases h

theorem cells_size {v : Value} {l : List Value} (h : v.cells.toList = l) : v.cells.size = l.length := by rw [← h]; simp

/-- A new variable. -/
theorem newVar_ok (fs : FS g0 H0 w0 nt g lam s a w) {esc : Nat → Bool} {dst : Option Tmp} {cs : List AV} {v : AV} {s' s1 : St} {arr : Array Value} {T : TypeId} (h : newVarA esc dst s T cs = some (v, s')) (hp : putA nt s' dst v = some s1)
    (hr : RelL g s.h cs arr.toList) (ho : ∀ x, x ∈ arr.toList → x.oneCell' = true) :
    ∃ g' lam', FS g0 H0 w0 nt g' lam' s1 (a.put dst (.pointer (some ⟨w.heap.size, 0, none⟩))) (w.alloc (.cells arr T)) := by
  unfold newVarA at h
  split at h
  · rename_i d
    split at h
    · cases h
      have hk : ∀ k, k < w.heap.size → (w.alloc (.cells arr T)).heap[k]? = w.heap[k]? := fun k hk => Go.RowKit.Below.heap_alloc w _ k hk
      have hcl : cs.length = arr.size := by have := hr.1; simpa using this.symm
      have hcut : cut arr.toList 0 cs.length = arr.toList := by
        simp only [cut, List.drop_zero]
        exact List.take_of_length_le (by rw [hcl]; simp)
      have st := step_new (w' := w.alloc (.cells arr T)) fs.fr.rh (some (T, true)) cs arr.size rfl rfl rfl (by simp) hk
      have rh2 := fs.fr.rh.newOb (arr := arr) (T := T) (fz := (0, 0)) (cs := cs) (ty := some (T, true)) (fun t h => by cases h; exact ⟨rfl, fun _ => hcl.symm, .inl rfl⟩) (by omega) (by rw [hcut]; exact hr) (by rw [hcut]; exact ho) (fun i _ => by simp) hk (heap_alloc_new w _)
      refine ⟨_, lam, FS.put (fs.fr.next rh2 st) (env_mono st.ext fs.env) fs.sz fs.df ?_ hp⟩
      exact Rel.ptr _ _ _ _ (Nat.lt_succ_self _) (Nat.lt_succ_self _) rfl fun b hb hv => by simp [Gh.put]
    · cases h
      refine ⟨g, _, FS.put (fs.fr.newLoc (d := d) (T := T) hr ho) (fun i => ?_) fs.sz fs.df ?_ hp⟩
      · exact clr_rel (d := d) (fun d' hd' => by simp [hd']) (fs.env i)
      · intro b hb; have hb' : w.heap.size = b := by simpa using hb
        subst hb'; rfl
  · cases h

theorem evOne_ok {m0 : Mem} {esc : Nat → Bool} {ca : CA} (hca : CaOk P m0 ca) (hnum : NoNum P) (hm0 : Sub m0 g0.m) {q : Bool} {ops : Array Oper} {o : Oper} {s1 : St} (h : evOne P esc ca q nt ops s o = some s1) (fs : FS g0 H0 w0 nt g lam s a w)
    {next : Act → World → Prop} {Q : Exit → Act → World → Prop} (k : ∀ a' g' lam' w', FS g0 H0 w0 nt g' lam' s1 a' w' → next a' w') :
    if Region.wanted o (yielded ops a.tmps) = true then o.wp P a w next Q else next (a.put o.dst undef) w := by
  unfold evOne at h
  split at h
  · rename_i hw
    rw [want_ok hw fs.env, if_pos rfl]
    split at h
    · rename_i v s' hev
      by_cases hn : isNew o = false
      · refine evOp_ok hca hnum hm0 hn hev fs.fr (fun x _ => opnd_rel fs.env x) fun u g' w' fr' x' _ hr => ?_
        have he := evOp_env hn hev
        exact k _ _ _ _ (FS.put fr' (by rw [he]; exact env_mono x' fs.env) fs.sz fs.df hr h)
      · obtain ⟨dst, op, ty, pos, after, guard⟩ := o
        cases op <;> first | exact absurd rfl hn | skip
        · rename_i t
          simp only [evOp] at hev
          split at hev
          · cases hev
          split at hev
          · rename_i z hz
            obtain ⟨i, zv, hi, hiz, rfl, hone⟩ := zeroT_info hz
            obtain ⟨g', lam', fs'⟩ := newVar_ok (T := t) fs hev h (arr := zv.cells) (relL_ofA _ _ _) hone
            exact wp_val (by simp [execOp, Instr.alloc, run_zeroValue_of hi hiz, newVar, newRow]) (k _ _ _ _ fs')
          · cases hev
        · rename_i t x
          simp only [evOp] at hev
          split at hev
          · cases hev
          split at hev
          · rename_i cs hc
            have hl : (opnd s.e x).isLoc = false := by cases hx : opnd s.e x <;> first | rfl | (rw [hx] at hc; simp [acells] at hc)
            obtain ⟨r1, r2⟩ := cells_of ((opnd_rel fs.env x).rel hl) hc
            obtain ⟨g', lam', fs'⟩ := newVar_ok (T := t) fs hev h (arr := (a.eval x).cells) r1 r2
            exact wp_val (by simp [execOp, Instr.box, newVar, newRow]) (k _ _ _ _ fs')
          · cases hev
    · cases h
  · rename_i hw
    rw [want_ok hw fs.env, if_neg (by simp)]
    exact k _ _ _ _ (FS.put fs.fr fs.env fs.sz fs.df (relT_skip _ _ _) h)
  · cases h

theorem evOps_ok {m0 : Mem} {esc : Nat → Bool} {ca : CA} (hca : CaOk P m0 ca) (hnum : NoNum P) (hm0 : Sub m0 g0.m) {q : Bool} {ops : Array Oper} : ∀ (l : List Oper) (s s1 : St) (g : Gh) (lam : Nat → Option Nat) (a : Act) (w : World), evOps P esc ca q nt ops l s = some s1 →
    FS g0 H0 w0 nt g lam s a w → ∀ {Q : Exit → Act → World → Prop}, (∀ a' g' lam' w', FS g0 H0 w0 nt g' lam' s1 a' w' → Q .normal a' w') → wpList P ops Q l a w := by
  intro l
  induction l with
  | nil => intro s s1 g lam a w h fs Q k; simp only [evOps, Option.some.injEq] at h; subst h; exact k _ _ _ _ fs
  | cons o rest ih =>
    intro s s1 g lam a w h fs Q k
    simp only [evOps] at h
    split at h
    · rename_i s2 h2
      refine wpList_step fun K hK => ?_
      exact evOne_ok hca hnum hm0 h2 fs fun a' g' lam' w' fs' => hK _ _ (ih s2 s1 g' lam' a' w' h fs' k)
    · cases h

end
end Go.Am
