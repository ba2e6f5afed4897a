/- Each operation of the abstract machine is the machine's own: all of them; a row of operations. -/
import Derived.Test.YtmdggnehhebkhaaGreatDoorAm7
set_option linter.unusedVariables false
namespace Go.Am
open Go

/-- A memory holds at least what another one holds. -/
def Sub (m m' : Mem) : Prop := ∀ (b i : Nat) (u : Value), m b i = some u → m' b i = some u
theorem Sub.trans {m m1 m2 : Mem} (h : Sub m m1) (k : Sub m1 m2) : Sub m m2 := fun b i u x => k _ _ _ (h _ _ _ x)

/-- Calls that answer rightly wherever the base memory stands. -/
def CaOk (P : Program) (m0 : Mem) (ca : CA) : Prop := ∀ (q : Bool) (k : FuncId) (args : List AV) (H : Hp) (r : AV) (H' : Hp), ca q k args H = some (r, H') →
  (∃ fn, P.funcs[k]? = some fn ∧ fn.body.isNone = false) ∧ noLocs args = true ∧ (q = true → H' = H) ∧
  ∀ (g : Gh) (w : World) (cargs : Array Value), RH g H w → Sub m0 g.m → RelL g H args cargs.toList →
    Calls P k cargs w fun e w' => ∃ u g', e = .returned u ∧ Rel g' H' r u ∧ RH g' H' w' ∧ Step g H w g' H' w'

def NoNum (P : Program) : Prop := ∀ (k : Nat) (fn : Func), P.funcs[k]? = some fn → (fn.name == "runtime.NumGoroutine") = false

def isNew (o : Oper) : Bool := match o.op with
  | .alloc _ => true
  | .box _ _ => true
  | _ => false

section
variable {P : Program} {g0 : Gh} {H0 : Hp} {w0 : World} {g : Gh} {lam : Nat → Option Nat} {w : World} {s : St}

theorem relL_of_T {H : Hp} : ∀ (vs : List AV) (us : List Value), us.length = vs.length → (∀ (i : Nat) (v : AV) (u : Value), vs[i]? = some v → us[i]? = some u → RelT g H lam v u) → noLocs vs = true → RelL g H vs us := by
  intro vs us hl hr hn
  refine ⟨hl, fun i v u a b => (hr i v u a b).rel ?_⟩
  have key : ∀ (vs : List AV) (i : Nat) (v : AV), noLocs vs = true → vs[i]? = some v → v.isLoc = false := by
    intro vs
    induction vs with
    | nil => intro i v _ h; simp at h
    | cons x vs ih =>
      intro i v hn h
      simp only [noLocs, Bool.and_eq_true, Bool.not_eq_true'] at hn
      cases i with
      | zero => simp only [List.getElem?_cons_zero, Option.some.injEq] at h; subst h; exact hn.1
      | succ i => simp only [List.getElem?_cons_succ] at h; exact ih i v hn.2 h
  exact key vs i v hn a

theorem noLocs_append : ∀ (a b : List AV), noLocs (a ++ b) = true → noLocs a = true ∧ noLocs b = true := by
  intro a
  induction a with
  | nil => intro b h; exact ⟨rfl, h⟩
  | cons x a ih =>
    intro b h
    simp only [List.cons_append, noLocs, Bool.and_eq_true] at h ⊢
    obtain ⟨h1, h2⟩ := ih b h.2
    exact ⟨⟨h.1, h1⟩, h2⟩

theorem wp_val {o : Oper} {a : Act} {next : Act → World → Prop} {Q : Exit → Act → World → Prop} {u : Value} {w' : World} (h : (execOp a.eval o).run P w = .ok (.value u) w') (k : next (a.put o.dst u) w') : o.wp P a w next Q := by
  unfold Oper.wp; rw [h]; exact k
theorem wp_skip' {o : Oper} {a : Act} {next : Act → World → Prop} {Q : Exit → Act → World → Prop} {w' : World} (h : (execOp a.eval o).run P w = .ok .skip w') (k : next (a.put o.dst undef) w') : o.wp P a w next Q := by
  unfold Oper.wp; rw [h]; exact k

/-- What the operations of a row look at stands as the abstract machine has it. -/
def Ops (g : Gh) (H : Hp) (lam : Nat → Option Nat) (e : En) (a : Act) (o : Oper) : Prop := ∀ x, x ∈ o.op.operands → RelT g H lam (opnd e x) (a.eval x)

theorem val_some {s s' : St} {x : Option AV} {v : AV} (h : val s x = some (v, s')) : x = some v ∧ s' = s := by
  unfold val at h
  split at h
  · simp only [Option.some.injEq, Prod.mk.injEq] at h; exact ⟨by rw [h.1], h.2.symm⟩
  · cases h
theorem valH_some {s s' : St} {x : Option (AV × Hp)} {v : AV} (h : valH s x = some (v, s')) : x = some (v, s'.h) ∧ s' = ⟨s.e, s.l, s'.h⟩ := by
  unfold valH at h
  split at h
  · simp only [Option.some.injEq, Prod.mk.injEq] at h
    obtain ⟨rfl, rfl⟩ := h
    exact ⟨rfl, rfl⟩
  · cases h

theorem opndO_rel {e : En} {a : Act} {H : Hp} {o : Option Operand} (h : ∀ x, o = some x → RelT g H lam (opnd e x) (a.eval x)) : (∀ v, opndO e o = some v → ∃ u, o.map a.eval = some u ∧ RelT g H lam v u) ∧ (opndO e o = none → o.map a.eval = none) := by
  cases o with
  | none => exact ⟨fun v h => by simp [opndO] at h, fun _ => rfl⟩
  | some x => exact ⟨fun v h' => by simp only [opndO, Option.map_some, Option.some.injEq] at h'; subst h'; exact ⟨_, rfl, h x rfl⟩, fun h' => by simp [opndO] at h'⟩

theorem pairs_rel {e : En} {a : Act} {H : Hp} {ps : Array (Nat × Operand)} (h : ∀ x, x ∈ (ps.toList.map (·.2)) → RelT g H lam (opnd e x) (a.eval x)) :
    PairsR g H lam (ps.toList.map fun p => (p.1, opnd e p.2)) (ps.map fun (i, x) => (i, a.eval x)).toList := by
  refine ⟨by simp, fun i p c hp hc => ?_⟩
  simp only [Array.toList_map, List.getElem?_map] at hp hc
  cases hx : ps.toList[i]? with
  | none => rw [hx] at hp; cases hp
  | some q =>
    rw [hx] at hp hc
    simp only [Option.map_some, Option.some.injEq] at hp hc
    subst hp hc
    exact ⟨rfl, h q.2 (List.mem_map.2 ⟨q, List.mem_iff_getElem?.2 ⟨i, hx⟩, rfl⟩)⟩

theorem args_rel {e : En} {a : Act} {H : Hp} {xs : Array Operand} (h : ∀ x, x ∈ xs.toList → RelT g H lam (opnd e x) (a.eval x)) :
    (xs.map a.eval).toList.length = (xs.toList.map (opnd e)).length ∧ ∀ (i : Nat) (v : AV) (u : Value), (xs.toList.map (opnd e))[i]? = some v → (xs.map a.eval).toList[i]? = some u → RelT g H lam v u := by
  refine ⟨by simp, fun i v u hv hu => ?_⟩
  simp only [Array.toList_map, List.getElem?_map] at hv hu
  cases hx : xs.toList[i]? with
  | none => rw [hx] at hv; cases hv
  | some q =>
    rw [hx] at hv hu
    simp only [Option.map_some, Option.some.injEq] at hv hu
    subst hv hu
    exact h q (List.mem_iff_getElem?.2 ⟨i, hx⟩)

theorem evOp_env {esc : Nat → Bool} {ca : CA} {q : Bool} {o : Oper} {v : AV} {s' : St} (hn : isNew o = false) (h : evOp P esc ca q s o = some (v, s')) : s'.e = s.e := by
  obtain ⟨dst, op, ty, pos, after, guard⟩ := o
  cases op <;> simp only [evOp] at h <;>
    first
    | (cases h; done)
    | (obtain ⟨_, rfl⟩ := val_some h; rfl)
    | (obtain ⟨_, h2⟩ := valH_some h; rw [h2])
    | (simp [isNew] at hn; done)
    | skip
  all_goals (repeat' split at h) <;>
    first
    | (cases h; done)
    | (simp only [Option.some.injEq, Prod.mk.injEq] at h; obtain ⟨_, rfl⟩ := h; rfl)
    | (obtain ⟨_, rfl⟩ := val_some h; rfl)
    | (obtain ⟨_, h2⟩ := valH_some h; rw [h2])

/-- With the flag nothing turns. -/
theorem evOp_q {m0 : Mem} {esc : Nat → Bool} {ca : CA} (hca : CaOk P m0 ca) {o : Oper} {v : AV} {s' : St} (h : evOp P esc ca true s o = some (v, s')) : s' = s := by
  obtain ⟨dst, op, ty, pos, after, guard⟩ := o
  cases op <;> simp only [evOp, if_true] at h <;>
    first
    | (cases h; done)
    | exact (val_some h).2
    | skip
  all_goals try ((repeat' split at h) <;>
    first
    | (cases h; done)
    | (simp only [Option.some.injEq, Prod.mk.injEq] at h; exact h.2.symm)
    | exact (val_some h).2
    | skip)
  · obtain ⟨h1, h2⟩ := valH_some h
    suffices hh : s'.h = s.h by rw [h2, hh]
    clear h2 h
    unfold abuildSlice at h1
    (repeat' split at h1) <;> try (cases h1; done)
    rename_i hst
    have := mapH_same (strip_same _) _ _ _ _ hst
    simp only [Option.some.injEq, Prod.mk.injEq] at h1
    rw [← h1.2, this]
  · obtain ⟨h1, h2⟩ := valH_some h
    suffices hh : s'.h = s.h by rw [h2, hh]
    clear h2 h
    unfold aconv at h1
    simp only [if_true] at h1
    (repeat' split at h1) <;> first | (cases h1; done) | (simp only [Option.some.injEq, Prod.mk.injEq] at h1; exact h1.2.symm)
  · obtain ⟨h1, h2⟩ := valH_some h
    suffices hh : s'.h = s.h by rw [h2, hh]
    clear h2 h
    unfold evCall at h1
    simp only [if_true] at h1
    split at h1
    · unfold acall at h1
      split at h1
      · exact (hca _ _ _ _ _ _ h1).2.2.1 rfl
      · cases h1
    all_goals ((repeat' split at h1) <;> first | (cases h1; done) | (simp only [Option.some.injEq, Prod.mk.injEq] at h1; exact h1.2.symm))

theorem aindex_noloc {t : TypeId} {x i v : AV} (h : aindex P t x i = some v) : x.isLoc = false ∧ i.isLoc = false := by
  unfold aindex at h
  split at h
  · refine ⟨?_, rfl⟩
    split at h
    · rfl
    · rfl
    · cases h
  · cases h

theorem arr1 {x : Operand} {xs : Array Operand} (h : xs.toList = [x]) : xs = #[x] := by rw [← Array.toArray_toList (xs := xs), h]
theorem arr2 {x y : Operand} {xs : Array Operand} (h : xs.toList = [x, y]) : xs = #[x, y] := by rw [← Array.toArray_toList (xs := xs), h]

theorem evOp_ok {m0 : Mem} {esc : Nat → Bool} {ca : CA} (hca : CaOk P m0 ca) (hnum : NoNum P) (hm0 : Sub m0 g0.m) {q : Bool} {o : Oper} {v : AV} {s' : St} (hn : isNew o = false) (h : evOp P esc ca q s o = some (v, s'))
    (fr : FR g0 H0 w0 g lam s w) {a : Act} (hop : Ops g s.h lam s.e a o) {next : Act → World → Prop} {Q : Exit → Act → World → Prop}
    (k : ∀ u g' w', FR g0 H0 w0 g' lam s' w' → Ext g s.h g' s'.h → (q = true → Step g s.h w g' s'.h w') → RelT g' s'.h lam v u → next (a.put o.dst u) w') : o.wp P a w next Q := by
  obtain ⟨dst, op, ty, pos, after, guard⟩ := o
  have same : ∀ {x : AV} {u : Value}, s' = s → v = x → RelT g s.h lam x u → next (a.put dst u) w := fun {x u} h1 h2 h3 => by
    subst h1 h2; exact k u g w fr (Ext.refl _ _) (fun _ => Step.refl _ _ _) h3
  cases op <;> simp only [evOp] at h <;> try (cases h; done)
  case move x => cases h; exact wp_val (by simp [execOp]) (same rfl rfl (hop x (by simp [Op.operands])))
  case assign x => cases h; exact wp_val (by simp [execOp]) (same rfl rfl (hop x (by simp [Op.operands])))
  case pick c x y =>
    have hc := hop c (by simp [Op.operands])
    split at h
    · rename_i e; cases h
      rw [e] at hc; have := rel_bool hc
      exact wp_val (by simp [execOp, this, asBool]) (same rfl rfl (hop x (by simp [Op.operands])))
    · rename_i e; cases h
      rw [e] at hc; have := rel_bool hc
      exact wp_val (by simp [execOp, this, asBool]) (same rfl rfl (hop y (by simp [Op.operands])))
    · cases h
  case alloc t => simp [isNew] at hn
  case box t x => simp [isNew] at hn
  case build t parts =>
    obtain ⟨h1, h2⟩ := val_some h
    obtain ⟨u, e, r⟩ := run_build_ok (w := w) h1 (pairs_rel (ps := parts) fun x hx => hop x (by simpa [Op.operands] using hx))
    exact wp_val (by simp only [execOp, Sem.run_bind, e, Result.andThen_ok]; rfl) (same h2 rfl (RelT.of r))
  case buildSlice t n parts =>
    obtain ⟨h1, h2⟩ := valH_some h
    obtain ⟨y, g', w', e, fr', st, r⟩ := abuildSlice_ok fr h1 (pairs_rel (ps := parts) fun x hx => hop x (by simpa [Op.operands] using hx))
    exact wp_val (by simp only [execOp, Sem.run_bind, e, Result.andThen_ok]; rfl) (k y g' w' (by rw [h2]; exact fr') st.ext (fun _ => st) (RelT.of r))
  case load t x =>
    obtain ⟨h1, h2⟩ := val_some h
    obtain ⟨u, e, r⟩ := run_load_ok (w := w) fr.rh fr.rl (hop x (by simp [Op.operands])) h1
    exact wp_val (by simp only [execOp, Sem.run_bind, e, Result.andThen_ok]; rfl) (same h2 rfl (RelT.of r))
  case store t x y =>
    split at h
    · cases h
    · rename_i hq
      split at h
      · rename_i l' H' hs
        cases h
        obtain ⟨w', e, fr', x'⟩ := run_store_ok fr (hop x (by simp [Op.operands])) (hop y (by simp [Op.operands])) hs
        exact wp_skip' (by simp only [execOp, Sem.run_bind, e, Result.andThen_ok]; rfl) (k undef g w' fr' x' (fun h => absurd h hq) (RelT.undef _ _ _ _))
      · cases h
  case nilCheck x =>
    have hx := hop x (by simp [Op.operands])
    split at h
    · rename_i d off e
      split at h
      · rename_i hok
        cases h
        rw [e] at hx
        obtain ⟨b, o, hu⟩ := ok_ptr fr hok rfl hx
        exact wp_val (u := a.eval x) (by simp [execOp, hu]) (same rfl rfl hx)
      · cases h
    · rename_i o ver off e
      split at h
      · rename_i hok
        cases h
        rw [e] at hx
        obtain ⟨b, o, hu⟩ := ok_ptr fr hok rfl hx
        exact wp_val (u := a.eval x) (by simp [execOp, hu]) (same rfl rfl hx)
      · cases h
    · rename_i cs e
      cases h
      rw [e] at hx
      obtain ⟨b, o, us, hu, _⟩ := rel_eptr hx
      exact wp_val (u := a.eval x) (by simp [execOp, hu]) (same rfl rfl hx)
    · rename_i f first cap e
      cases h
      rw [e] at hx
      obtain ⟨vf, vc, hu, _⟩ := rel_func hx
      exact wp_val (u := a.eval x) (by simp [execOp, hu]) (same rfl rfl hx)
    · cases h
  case binOp op t x y yt =>
    obtain ⟨h1, h2⟩ := val_some h
    obtain ⟨z, e, r⟩ := abin_ok fr (hop x (by simp [Op.operands])) (hop y (by simp [Op.operands])) (fun hn => by
      cases y with
      | const v => cases v with
        | slice b n c => cases b with
          | none => exact ⟨n, c, rfl⟩
          | some _ => simp [nilSliceC] at hn
        | _ => simp [nilSliceC] at hn
      | _ => simp [nilSliceC] at hn) h1
    exact wp_val (by
      show Sem.run P ((do eqGuard op t x y (a.eval x) (a.eval y); binOp op t (a.eval x) (a.eval y) : Sem Value) >>= fun u => pure (Next.value u)) w = _
      rw [Sem.run_bind, e]; rfl) (same h2 rfl (RelT.of r))
  case unOp op t x =>
    obtain ⟨h1, h2⟩ := val_some h
    have hl : (opnd s.e x).isLoc = false := by
      cases hx : opnd s.e x <;> first | rfl | (rw [hx] at h1; cases op <;> simp [aun] at h1)
    obtain ⟨z, e, r⟩ := aun_ok (w := w) (P := P) ((hop x (by simp [Op.operands])).rel hl) h1
    exact wp_val (by simp only [execOp, Sem.run_bind, e, Result.andThen_ok]; rfl) (same h2 rfl (RelT.of r))
  case convert src dst' x =>
    obtain ⟨h1, h2⟩ := valH_some h
    obtain ⟨y, g', w', e, fr', st, r⟩ := aconv_ok fr (hop x (by simp [Op.operands])) h1
    exact wp_val (by simp only [execOp, Sem.run_bind, e, Result.andThen_ok]; rfl) (k y g' w' (by rw [h2]; exact fr') st.ext (fun _ => st) (RelT.of r))
  case makeInterface t x =>
    split at h
    · cases h
    · rename_i d v' hni hu hv
      cases h
      unfold noLoc at hv
      split at hv
      · cases hv
      · rename_i hl
        cases hv
        have hx := (hop x (by simp [Op.operands])).rel (by simpa using hl)
        exact wp_val (by
          simp only [execOp, Instr.makeInterface, Sem.run_bind, run_underlying hu, Result.andThen_ok]
          cases d <;> first | rfl | exact (hni _ hu).elim) (same rfl rfl (Rel.iface _ _ _ hx))
    · cases h
  case makeFunc fn first cap =>
    split at h
    · rename_i hc
      cases h
      simp only [Bool.and_eq_true] at hc
      obtain ⟨l1, r1⟩ := args_rel (g := g) (H := s.h) (lam := lam) (e := s.e) (a := a) (xs := first) fun x hx => hop x (by simp [Op.operands]; exact .inl (by simpa using hx))
      obtain ⟨l2, r2⟩ := args_rel (g := g) (H := s.h) (lam := lam) (e := s.e) (a := a) (xs := cap) fun x hx => hop x (by simp [Op.operands]; exact .inr (by simpa using hx))
      have q1 := relL_of_T _ _ l1 r1 hc.1
      have q2 := relL_of_T _ _ l2 r2 hc.2
      exact wp_val (by simp [execOp, Instr.makeFunc]) (same rfl rfl (Rel.func _ _ _ _ _ q1.1 q2.1 q1.2 q2.2))
    · cases h
  case makeSlice t n c =>
    split at h
    · cases h
    · rename_i hq
      obtain ⟨h1, h2⟩ := valH_some h
      obtain ⟨y, g', w', e, fr', x', r⟩ := amakeSlice_ok fr (hop n (by simp [Op.operands])) (hop c (by simp [Op.operands])) h1
      exact wp_val (by simp only [execOp, Sem.run_bind, e, Result.andThen_ok]; rfl) (k y g' w' (by rw [h2]; exact fr') x' (fun h => absurd h hq) (RelT.of r))
  case slice t x lo hi mx =>
    obtain ⟨h1, h2⟩ := val_some h
    have a1 := opndO_rel (g := g) (H := s.h) (lam := lam) (e := s.e) (a := a) (o := lo) fun y hy => hop y (by subst hy; simp [Op.operands])
    have a2 := opndO_rel (g := g) (H := s.h) (lam := lam) (e := s.e) (a := a) (o := hi) fun y hy => hop y (by subst hy; simp [Op.operands])
    have a3 := opndO_rel (g := g) (H := s.h) (lam := lam) (e := s.e) (a := a) (o := mx) fun y hy => hop y (by subst hy; simp [Op.operands])
    obtain ⟨y, e, r⟩ := run_slice_ok (P := P) fr (hop x (by simp [Op.operands])) a1.1 a1.2 a2.1 a2.2 a3.1 a3.2 h1
    exact wp_val (by simp only [execOp, Sem.run_bind, e, Result.andThen_ok]; rfl) (same h2 rfl r)
  case fieldAddr t x f =>
    obtain ⟨h1, h2⟩ := val_some h
    obtain ⟨y, e, r⟩ := run_fieldAddr_ok fr (hop x (by simp [Op.operands])) h1
    exact wp_val (by simp only [execOp, Sem.run_bind, e, Result.andThen_ok]; rfl) (same h2 rfl r)
  case field t x f =>
    obtain ⟨h1, h2⟩ := val_some h
    have hl : (opnd s.e x).isLoc = false := by
      cases hx : opnd s.e x <;> first | rfl | (rw [hx] at h1; unfold afield at h1; split at h1 <;> simp_all)
    obtain ⟨y, e, r⟩ := run_field_ok (w := w) ((hop x (by simp [Op.operands])).rel hl) h1
    exact wp_val (by simp only [execOp, Sem.run_bind, e, Result.andThen_ok]; rfl) (same h2 rfl (RelT.of r))
  case indexAddr t x i =>
    obtain ⟨h1, h2⟩ := val_some h
    obtain ⟨y, e, r⟩ := run_indexAddr_ok fr (hop x (by simp [Op.operands])) (hop i (by simp [Op.operands])) h1
    exact wp_val (by simp only [execOp, Sem.run_bind, e, Result.andThen_ok]; rfl) (same h2 rfl r)
  case index t x i =>
    obtain ⟨h1, h2⟩ := val_some h
    obtain ⟨hl, hl2⟩ := aindex_noloc h1
    obtain ⟨y, e, r⟩ := run_index_ok (w := w) ((hop x (by simp [Op.operands])).rel hl) ((hop i (by simp [Op.operands])).rel hl2) h1
    exact wp_val (by simp only [execOp, Sem.run_bind, e, Result.andThen_ok]; rfl) (same h2 rfl (RelT.of r))
  case extract x i =>
    split at h
    · rename_i vs e
      obtain ⟨h1, h2⟩ := val_some h
      have hx := hop x (by simp [Op.operands])
      rw [e] at hx
      obtain ⟨us, hu, hr⟩ := rel_tup hx
      obtain ⟨u, hi, r⟩ := hr.mem i v h1
      have hi' : us[i]? = some u := by simpa using hi
      exact wp_val (by simp [execOp, hu, Instr.extract, hi']) (same h2 rfl (RelT.of r))
    · cases h
  case call c =>
    obtain ⟨h1, h2⟩ := valH_some h
    unfold evCall at h1
    have hargs := args_rel (g := g) (H := s.h) (lam := lam) (e := s.e) (a := a) (xs := c.args) fun x hx => hop x (by simp [Op.operands, Call.operands]; exact .inr (by simpa using hx))
    split at h1
    · rename_i f hcal
      unfold acall at h1
      split at h1
      · rename_i kf first cap hf
        have hfr := hop f (by simp [Op.operands, Call.operands, hcal])
        rw [hf] at hfr
        obtain ⟨vf, vc, hu, r1, r2⟩ := rel_func hfr
        obtain ⟨⟨fn, hfn, hbody⟩, hno, _, hcalls⟩ := hca _ _ _ _ _ _ h1
        have hno2 := (noLocs_append _ _ hno).2
        have hno3 := (noLocs_append _ _ hno2).1
        have ra := relL_of_T _ _ hargs.1 hargs.2 hno3
        have hrel : RelL g s.h (first ++ (c.args.toList.map (opnd s.e) ++ cap)) (vf ++ (c.args.map a.eval) ++ vc).toList := by
          simp only [Array.toList_append, List.append_assoc]
          exact r1.append (ra.append r2)
        have hc := hcalls g w (vf ++ (c.args.map a.eval) ++ vc) fr.rh (hm0.trans fr.step.ext.mem) hrel
        have hrun : (execOp a.eval ⟨dst, .call c, ty, pos, after, guard⟩).run P w = .ok (.enter kf (vf ++ (c.args.map a.eval) ++ vc)) w := by
          have hnm : ¬ fn.name = "runtime.NumGoroutine" := by have := hnum kf fn hfn; simpa using this
          have hbd : ¬ fn.body = none := by intro e; rw [e] at hbody; cases hbody
          simp [execOp, resolve, hcal, hu, Deferred.ofValue, invoke, callFunc, hfn, hnm, hbd]
        unfold Oper.wp
        rw [hrun]
        refine hc.mono ?_
        rintro e w' ⟨u, g', rfl, hr, rh', st⟩
        exact k u g' w' (by rw [h2]; exact fr.next rh' st) st.ext (fun _ => st) (RelT.of hr)
      · cases h1
    · rename_i hcal
      split at h1
      · rename_i t x ht hx
        split at h1
        · rename_i v' hv
          have hx' := arr1 hx
          obtain ⟨rfl, hh⟩ : v' = v ∧ s.h = s'.h := by simpa using h1
          have hrx := hop x (by simp [Op.operands, Call.operands, hcal, hx'])
          obtain ⟨z, e, r⟩ := alen_ok (w := w) (P := P) (ty := ty) (ts := c.argTypes) ht hrx hv
          exact wp_val (by simp [execOp, resolve, hcal, invoke, builtin, hx', e]) (same (by rw [h2, ← hh]) rfl (RelT.of r))
        · cases h1
      · cases h1
    · rename_i hcal
      split at h1
      · cases h1
      · rename_i hq
        split at h1
        · rename_i x y hx
          have hx' := arr2 hx
          obtain ⟨z, g', w', e, fr', x', r⟩ := aappend_ok (ty := ty) fr (hop x (by simp [Op.operands, Call.operands, hcal, hx'])) (hop y (by simp [Op.operands, Call.operands, hcal, hx'])) h1
          exact wp_val (by simp [execOp, resolve, hcal, invoke, builtin, hx', e]) (k z g' w' (by rw [h2]; exact fr') x' (fun h => absurd h hq) (RelT.of r))
        · cases h1
    · rename_i hcal
      split at h1
      · rename_i x xs hx
        split at h1
        · rename_i v' hv
          obtain ⟨rfl, hh⟩ : v' = v ∧ s.h = s'.h := by simpa using h1
          have hm : x ∈ c.args := by rw [← Array.mem_toList_iff, hx]; exact List.mem_cons_self ..
          have hxa : (c.args.map a.eval).toList = a.eval x :: xs.map a.eval := by simp [hx]
          obtain ⟨z, e, r⟩ := foldMin_ok (g := g) (H := s.h) (lam := lam) (w := w) (P := P) (xs.map (opnd s.e)) (xs.map a.eval) (opnd s.e x) v' (a.eval x) hv (hop x (by simp [Op.operands, Call.operands, hcal, hm])) (by simp)
            (fun i y z a' b' => hargs.2 (i + 1) y z (by rw [hx]; simpa using a') (by rw [hxa]; simpa using b'))
          exact wp_val (by simp only [execOp, resolve, hcal, Sem.run_bind, Sem.run_pure, Result.andThen_ok, invoke, builtin, Builtin.min_, hxa, e]) (same (by rw [h2, ← hh]) rfl r)
        · cases h1
      · cases h1
    · rename_i hcal
      split at h1
      · rename_i x xs hx
        split at h1
        · rename_i v' hv
          obtain ⟨rfl, hh⟩ : v' = v ∧ s.h = s'.h := by simpa using h1
          have hm : x ∈ c.args := by rw [← Array.mem_toList_iff, hx]; exact List.mem_cons_self ..
          have hxa : (c.args.map a.eval).toList = a.eval x :: xs.map a.eval := by simp [hx]
          obtain ⟨z, e, r⟩ := foldMax_ok (g := g) (H := s.h) (lam := lam) (w := w) (P := P) (xs.map (opnd s.e)) (xs.map a.eval) (opnd s.e x) v' (a.eval x) hv (hop x (by simp [Op.operands, Call.operands, hcal, hm])) (by simp)
            (fun i y z a' b' => hargs.2 (i + 1) y z (by rw [hx]; simpa using a') (by rw [hxa]; simpa using b'))
          exact wp_val (by simp only [execOp, resolve, hcal, Sem.run_bind, Sem.run_pure, Result.andThen_ok, invoke, builtin, Builtin.max_, hxa, e]) (same (by rw [h2, ← hh]) rfl r)
        · cases h1
      · cases h1
    · cases h1

end
end Go.Am
