/- The code and the calls: what the evaluator answers, the machine comes to. -/
import Derived.Test.YtmdggnehhebkhaaGreatDoorAm11
import Derived.LoopN
set_option linter.unusedVariables false
namespace Go.Am
open Go

section
variable {P : Program} {g0 : Gh} {H0 : Hp} {w0 : World} {nt : Nat} {g : Gh} {lam : Nat → Option Nat} {w : World} {s : St} {a : Act} {esc : Nat → Bool} {ca : CA} {m0 : Mem} {ops : Array Oper}

theorem FS.grown (fs : FS g0 H0 w0 nt g lam s a w) {w' : World} (hos : w'.os = w.os) (ht : w'.tape = w.tape) (ho : w'.output = w.output) (hh : w'.heap = w.heap) : FS g0 H0 w0 nt g lam s a w' :=
  ⟨fs.fr.next (fs.fr.rh.grown fun k _ => by rw [hh]) (step_grown hos ht ho (by rw [hh]; exact Nat.le_refl _) fun k _ => by rw [hh]), fs.env, fs.sz, fs.df⟩

theorem steps_const (hca : CaOk P m0 ca) {ds : List Nat} {l : List Oper} {tr : Nat → St} (h : ∀ i o, l[i]? = some o → PreStep P esc ca nt ops ds o (tr i) (tr (i + 1))) : ∀ i, i ≤ l.length → (tr i).l = (tr 0).l ∧ (tr i).h = (tr 0).h := by
  intro i
  induction i with
  | zero => intro _; exact ⟨rfl, rfl⟩
  | succ i ih =>
    intro hi
    obtain ⟨h1, h2⟩ := ih (by omega)
    obtain ⟨o, ho⟩ : ∃ o, l[i]? = some o := ⟨_, List.getElem?_eq_getElem (by omega)⟩
    rcases h i o ho with ⟨_, d, _, _, hp⟩ | ⟨_, ⟨_, v, s1, hev, _, hp⟩ | ⟨_, hp⟩⟩
    · obtain ⟨e1, e2, _⟩ := putA_ok hp
      exact ⟨e1.trans h1, e2.trans h2⟩
    · obtain ⟨e1, e2, _⟩ := putA_ok hp
      have := evOp_q hca hev
      subst this
      exact ⟨e1.trans h1, e2.trans h2⟩
    · obtain ⟨e1, e2, _⟩ := putA_ok hp
      exact ⟨e1.trans h1, e2.trans h2⟩

theorem mem_allocSlots : ∀ (l : List Oper) (i : Nat) (o : Oper) (d : Nat), l[i]? = some o → isAlloc o = true → o.dst = some d → d ∈ allocSlots l := by
  intro l i o d h ha hd
  unfold allocSlots
  rw [List.mem_filterMap]
  exact ⟨o, List.mem_of_getElem? h, by simp [ha, hd]⟩

theorem evDraw_ok (hca : CaOk P m0 ca) (hnum : NoNum P) (hm0 : Sub m0 g0.m) (hm : P.follows .mixedOrders = true) {isPure : FuncId → Bool} {s1 : St} (h : evDraw P esc isPure ca nt ops s = some s1) (fs : FS g0 H0 w0 nt g lam s a w)
    {id : Nat} {Q : Exit → Act → World → Prop} (k : ∀ a' g' lam' w', FS g0 H0 w0 nt g' lam' s1 a' w' → Q .normal a' w') : (Code.region id ops true).wp P Q a w := by
  simp only [evDraw] at h
  split at h
  · rename_i hor
    have or := order_of hor
    generalize hf : preLen isPure ops.toList = f at h or hor
    split at h
    · rename_i s2 hpre
      split at h
      · rename_i lo hadd
        generalize hds : allocSlots (ops.toList.take f) = ds at h hpre
        obtain ⟨tr, ht0, htf, hst⟩ := evPre_steps _ _ _ hpre
        have hlen : (ops.toList.take f).length = f := by rw [List.length_take]; exact Nat.min_eq_left or.le
        rw [hlen] at htf
        obtain ⟨lam1, fs1⟩ := clrAll_ok ds s lam (fs.grown (w' := { w with drawn := w.drawn + 1 }) rfl rfl rfl rfl)
        obtain ⟨c1, c2, c3, c4⟩ := clrAll_spec ds s
        have htk : ∀ i, i < f → (ops.toList.take f)[i]? = ops.toList[i]? := fun i hi => by rw [List.getElem?_take_of_lt hi]
        have hlt : ∀ (i : Nat) (o : Oper), (ops.toList.take f)[i]? = some o → i < f := fun i o hi => by
          have := (List.getElem?_eq_some_iff.1 hi).1; omega
        obtain ⟨a1, a2⟩ := addSlots_get _ _ _ hadd fun i j o p d hi hj _ _ hd hne => by
          have h1 := hlt i o hi; have h2 := hlt j p hj
          rw [htk i h1] at hi; rw [htk j h2] at hj
          intro hp
          exact or.one i j o p d h1 h2 hi hj hp hne hd
        rw [hds] at a1
        have hc := steps_const hca hst
        rw [hlen] at hc
        have hl2 : s2.l = (tr 0).l := by rw [← htf]; exact (hc f (Nat.le_refl _)).1
        have hh2 : s2.h = (tr 0).h := by rw [← htf]; exact (hc f (Nat.le_refl _)).2
        have p : Pre P esc ca nt ops f ds tr lo := by
          refine ⟨or, fun i o d hi ho ha hd => ?_, fun i o hi ho => ?_, fun d hd => ?_, fun t d off ht => ?_, fun d hd => ?_, fun i o d hi ho ha hd => ?_, fun d hd => ?_⟩
          · rw [← hds]; exact mem_allocSlots _ i o d (by rw [htk i hi]; exact ho) ha hd
          · exact hst i o (by rw [htk i hi]; exact ho)
          · rw [ht0]; exact c2 d hd
          · rw [ht0] at ht; exact (c4 t d off ht).1
          · rw [a1 d hd, hl2]
          · exact a2 i o d (by rw [htk i hi]; exact ho) ha hd
          · by_cases hx : d ∈ ds
            · exfalso
              rw [← hds] at hx
              unfold allocSlots at hx
              rw [List.mem_filterMap] at hx
              obtain ⟨o, ho, hod⟩ := hx
              split at hod
              · rename_i ha
                obtain ⟨i, hi⟩ := List.mem_iff_getElem?.1 ho
                have h1 := hlt i o hi
                rw [htk i h1] at hi
                exact hd i o h1 hi ha hod
              · cases hod
            · rw [a1 d hx, hl2]
        refine wp_region_any hm (pre_ok hca hnum hm0 p (s1 := s1) ?_ k ops.size _ g lam1 a _ (by simp) ?_ ?_ ?_ ?_)
        · rw [htf, ← hh2]; exact h
        · unfold leftN; exact Nat.le_trans (List.length_filter_le _ _) (by simp)
        · intro i _ hi; simp [doneB, hi]
        · intro i j hd; exfalso
          unfold doneB at hd
          rw [Array.getD_eq_getD_getElem?, Array.getElem?_replicate] at hd
          split at hd <;> simp at hd
        · have hno : ∀ i, doneB (Array.replicate ops.size false) i = false := fun i => by
            unfold doneB
            rw [Array.getD_eq_getD_getElem?, Array.getElem?_replicate]
            split <;> rfl
          have e1 : eT ops f tr (doneB (Array.replicate ops.size false)) = (tr 0).e := by
            funext t; unfold eT; rw [if_neg (fun ⟨i, _, h, _⟩ => by rw [hno] at h; cases h)]
          have e2 : lT ops f tr lo (doneB (Array.replicate ops.size false)) = (tr 0).l := by
            funext t; unfold lT; rw [if_neg (fun ⟨i, _, h, _⟩ => by rw [hno] at h; cases h)]
          unfold sT
          rw [e1, e2, ht0]
          exact fs1
      · cases h
    · cases h
  · cases h

def exM : Ex → Exit
  | .normal => .normal
  | .exit i => .exit i
  | .ret => .ret

/-- An evaluator of code that answers rightly; its rounds of a loop are at most n. -/
def EvOk (P : Program) (m0 : Mem) (n : Nat) (ev : FuncId → Nat → EV) : Prop :=
  ∀ (fn : FuncId) (nt : Nat) (c : Code) (s : St) (x : Ex) (s' : St), ev fn nt c s = some (x, s') → ∀ (g0 : Gh) (H0 : Hp) (w0 : World) (g : Gh) (lam : Nat → Option Nat) (a : Act) (w : World), Sub m0 g0.m → FS g0 H0 w0 nt g lam s a w →
    ∀ (Q : Exit → Act → World → Prop), (∀ a' g' lam' w', FS g0 H0 w0 nt g' lam' s' a' w' → Q (exM x) a' w') → c.wp P Q a w ∧ ∀ b, c = .loop b → Code.rounds P b Q n a w

theorem evCode_ok {C : Cfg} {r : Lvl} {n : Nat} (hev : EvOk C.P C.base n r.ev) (hca : CaOk C.P C.base r.ca) (hnum : NoNum C.P) (hm : C.P.follows .mixedOrders = true) : EvOk C.P C.base (n + 1) (evCode C r) := by
  intro fn nt c s x s' h g0 H0 w0 g lam a w hm0 fs Q k
  cases c with
  | skip =>
    simp only [evCode, Option.some.injEq, Prod.mk.injEq] at h; obtain ⟨rfl, rfl⟩ := h
    exact ⟨wp_skip (k _ _ _ _ fs), fun b e => by cases e⟩
  | region id ops draw =>
    refine ⟨?_, fun b e => by cases e⟩
    simp only [evCode] at h
    split at h
    · rename_i s1 h1
      simp only [Option.some.injEq, Prod.mk.injEq] at h; obtain ⟨rfl, rfl⟩ := h
      split at h1
      · rename_i hd; subst hd
        exact evDraw_ok hca hnum hm0 hm h1 fs k
      · rename_i hd
        have : draw = false := by simpa using hd
        subst this
        exact wp_region_list (evOps_ok hca hnum hm0 _ _ _ _ _ _ _ h1 fs k)
    · cases h
  | seq b c =>
    refine ⟨?_, fun b e => by cases e⟩
    simp only [evCode] at h
    split at h
    · rename_i s1 h1
      refine wp_seq (hev _ _ _ _ _ _ h1 _ _ _ _ _ _ _ hm0 fs _ fun a' g' lam' w' fs' => ?_).1
      exact (hev _ _ _ _ _ _ h _ _ _ _ _ _ _ hm0 fs' Q k).1
    · rename_i x1 s1 hne h1
      simp only [Option.some.injEq, Prod.mk.injEq] at h; obtain ⟨rfl, rfl⟩ := h
      refine wp_seq (hev _ _ _ _ _ _ h1 _ _ _ _ _ _ _ hm0 fs _ fun a' g' lam' w' fs' => ?_).1
      have := k a' g' lam' w' fs'
      cases x1 with
      | normal => exact absurd rfl hne
      | exit i => exact this
      | ret => exact this
    · cases h
  | cond c x1 y1 =>
    refine ⟨?_, fun b e => by cases e⟩
    simp only [evCode] at h
    have hc := opnd_rel fs.env c
    split at h
    · rename_i hb
      rw [hb] at hc
      exact wp_cond_true (rel_bool hc) (hev _ _ _ _ _ _ h _ _ _ _ _ _ _ hm0 fs Q k).1
    · rename_i hb
      rw [hb] at hc
      exact wp_cond_false (rel_bool hc) (hev _ _ _ _ _ _ h _ _ _ _ _ _ _ hm0 fs Q k).1
    · cases h
  | block id b =>
    refine ⟨?_, fun b e => by cases e⟩
    simp only [evCode] at h
    split at h
    · rename_i id' s1 h1
      refine wp_block (hev _ _ _ _ _ _ h1 _ _ _ _ _ _ _ hm0 fs _ fun a' g' lam' w' fs' => ?_).1
      show if id' = id then Q .normal a' w' else Q (.exit id') a' w'
      split at h
      · rename_i e
        simp only [Option.some.injEq, Prod.mk.injEq] at h; obtain ⟨rfl, rfl⟩ := h
        rw [if_pos e]; exact k _ _ _ _ fs'
      · rename_i e
        simp only [Option.some.injEq, Prod.mk.injEq] at h; obtain ⟨rfl, rfl⟩ := h
        rw [if_neg e]; exact k _ _ _ _ fs'
    · rename_i x1 s1 hne h1
      simp only [Option.some.injEq, Prod.mk.injEq] at h; obtain ⟨rfl, rfl⟩ := h
      refine wp_block (hev _ _ _ _ _ _ h1 _ _ _ _ _ _ _ hm0 fs _ fun a' g' lam' w' fs' => ?_).1
      have := k a' g' lam' w' fs'
      cases x1 with
      | normal => exact this
      | exit i => exact absurd rfl (hne i)
      | ret => exact this
    · cases h
  | loop b =>
    have key : Code.rounds C.P b Q (n + 1) a w := by
      simp only [evCode] at h
      split at h
      · rename_i s1 h1
        refine (hev _ _ _ _ _ _ h1 _ _ _ _ _ _ _ hm0 fs _ fun a' g' lam' w' fs' => ?_).1
        exact (hev _ _ _ _ _ _ h _ _ _ _ _ _ _ hm0 fs' Q k).2 b rfl
      · rename_i x1 s1 hne h1
        simp only [Option.some.injEq, Prod.mk.injEq] at h; obtain ⟨rfl, rfl⟩ := h
        refine (hev _ _ _ _ _ _ h1 _ _ _ _ _ _ _ hm0 fs _ fun a' g' lam' w' fs' => ?_).1
        have := k a' g' lam' w' fs'
        cases x1 with
        | normal => exact absurd rfl hne
        | exit i => exact this
        | ret => exact this
      · cases h
    exact ⟨wp_loop_rounds _ key, fun b' e => by cases e; exact key⟩
  | exit id =>
    simp only [evCode, Option.some.injEq, Prod.mk.injEq] at h; obtain ⟨rfl, rfl⟩ := h
    exact ⟨wp_exit (k _ _ _ _ fs), fun b e => by cases e⟩
  | ret =>
    simp only [evCode, Option.some.injEq, Prod.mk.injEq] at h; obtain ⟨rfl, rfl⟩ := h
    exact ⟨wp_ret (k _ _ _ _ fs), fun b e => by cases e⟩
  | _ => simp [evCode] at h

/-! ### Bodies -/
theorem aload_ptr {l : Lo} {H : Hp} (rh : RH g H w) (rl : RL g H lam l w) {x : AV} {u : Value} {t : TypeId} {v : AV} (hr : RelT g H lam x u) (h : aload P l H t x = some v) : ∃ b off, u = .pointer (some ⟨b, off, none⟩) := by
  unfold aload at h
  split at h
  · split at h
    · split at h
      · rename_i cs hc; exact sure_ptr rh rl hr hc
      · cases h
    · cases h
  · split at h
    · rename_i c hc; exact sure_ptr rh rl hr hc
    · cases h
  · cases h

theorem noLoc_some {v v' : AV} (h : noLoc v = some v') : v' = v ∧ v.isLoc = false := by
  unfold noLoc at h
  split at h
  · cases h
  · rename_i hl; cases h; exact ⟨rfl, by simpa using hl⟩

def resF (tmps : Array Value) : ResultVar → Sem Value
  | .tmp t => pure (tmps.getD t undef)
  | .cell c t => do loadVar t (← asAddr (tmps.getD c undef))
theorem results_eq (fn : Func) (tmps : Array Value) : results fn tmps = (fn.results.mapM (resF tmps) >>= fun vs => pure (if h : vs.size = 1 then vs[0] else .tuple vs)) := by
  unfold results
  congr 1

theorem resA_ok (fs : FS g0 H0 w0 nt g lam s a w) : ∀ (l : List ResultVar) (vs : List AV), resA P s l = some vs →
    ∃ us, (l.mapM (resF a.tmps)).run P w = .ok us w ∧ RelL g s.h vs us := by
  intro l
  induction l with
  | nil => intro vs h; simp only [resA, Option.some.injEq] at h; subst h; exact ⟨[], by simp, RelL.nil _ _⟩
  | cons x rest ih =>
    intro vs h
    cases x with
    | tmp t =>
      simp only [resA] at h
      split at h
      · rename_i v vs' h1 h2
        cases h
        obtain ⟨us, e1, e2⟩ := ih _ h2
        obtain ⟨rfl, hl⟩ := noLoc_some h1
        exact ⟨a.tmps.getD t undef :: us, by simp [List.mapM_cons, e1, resF], RelL.cons ((fs.env t).rel hl) e2⟩
      · cases h
    | cell c t =>
      simp only [resA] at h
      split at h
      · rename_i v vs' h1 h2
        cases h
        obtain ⟨us, e1, e2⟩ := ih _ h2
        obtain ⟨b, off, hu⟩ := aload_ptr fs.fr.rh fs.fr.rl (fs.env c) h1
        obtain ⟨x, e3, e4⟩ := run_load_ok fs.fr.rh fs.fr.rl (fs.env c) h1
        refine ⟨x :: us, ?_, RelL.cons e4 e2⟩
        rw [hu] at e3
        simp [Instr.loadAt, Instr.sureAddr] at e3
        have e5 : (resF a.tmps (.cell c t)).run P w = .ok x w := by simp only [resF, hu]; simpa [asAddr] using e3
        simp [List.mapM_cons, e1, e5]
      · cases h

theorem getD_args {args : List AV} {cargs : Array Value} {H : Hp} (h : RelL g H args cargs.toList) (k i : Nat) : RelT g H lam (args.getD i .undef) ((cargs ++ Array.replicate k undef).getD i undef) := by
  rcases Nat.lt_or_ge i args.length with hi | hi
  · have hs : i < cargs.size := by have := h.1; simp at this; omega
    refine RelT.of (h.2 i _ _ (by rw [List.getD_eq_getElem?_getD, List.getElem?_eq_getElem hi]; rfl) ?_)
    rw [Array.getD_eq_getD_getElem?, Array.getElem?_append_left hs, Array.getElem?_toList, Array.getElem?_eq_getElem hs]; rfl
  · rw [List.getD_eq_getElem?_getD, List.getElem?_eq_none hi]
    exact RelT.undef _ _ _ _

/-- What a call of a body comes to. -/
def BodyOk (P : Program) (m0 : Mem) (f : FuncId) (args : List AV) (H : Hp) (v : AV) (H' : Hp) : Prop :=
  ∀ (g : Gh) (w : World) (cargs : Array Value), RH g H w → Sub m0 g.m → RelL g H args cargs.toList →
    Calls P f cargs w fun e w' => ∃ u g', e = .returned u ∧ Rel g' H' v u ∧ RH g' H' w' ∧ Step g H w g' H' w'

theorem evBody_ok {C : Cfg} {r : Lvl} {n : Nat} (hev : EvOk C.P C.base n r.ev) {f : FuncId} {args : List AV} {H H' : Hp} {v : AV} (h : evBody C r f args H = some (v, H')) :
    (∃ fn, C.P.funcs[f]? = some fn ∧ fn.body.isNone = false) ∧ BodyOk C.P C.base f args H v H' := by
  unfold evBody at h
  split at h
  · rename_i fn hfn
    split at h
    · rename_i c hb
      refine ⟨⟨fn, hfn, by rw [hb]; rfl⟩, fun g w cargs rh hm0 hr => calls_of_wp hfn hb ?_⟩
      have fs : FS g H w fn.ntmps g (fun _ => none) ⟨argE args, fun _ => none, H⟩ { tmps := cargs ++ Array.replicate (fn.ntmps - cargs.size) undef, defers := [] } w :=
        ⟨⟨rh, ⟨fun d cs hd => (by cases hd), fun d _ => rfl, fun d d' b hd => (by cases hd), fun d b o ob hd => (by cases hd)⟩, Step.refl _ _ _, fun d b hd => (by cases hd)⟩,
          fun i => getD_args hr _ i, by simp; omega, rfl⟩
      have fin : ∀ (s1 : St) (vs : List AV), resA C.P s1 fn.results.toList = some vs → ∀ (a' : Act) (g' : Gh) (lam' : Nat → Option Nat) (w' : World), FS g H w fn.ntmps g' lam' s1 a' w' →
          a'.defers = [] ∧ ∃ v, (results fn a'.tmps).run C.P w' = .ok v w' ∧ ∃ u g', Ending.returned v = .returned u ∧ Rel g' s1.h (oneOf vs) u ∧ RH g' s1.h w' ∧ Step g H w g' s1.h w' := by
        intro s1 vs hvs a' g' lam' w' fs'
        obtain ⟨us, e1, e2⟩ := resA_ok fs' _ _ hvs
        refine ⟨fs'.df, if h : us.toArray.size = 1 then us.toArray[0] else .tuple us.toArray, ?_, _, g', rfl, ?_, fs'.fr.rh, fs'.fr.step⟩
        · rw [results_eq, Array.mapM_eq_mapM_toList]
          simp [e1]
        · match vs, us, e2 with
          | [], [], e2 => exact .tup _ _ (by simp) (by simp)
          | [v], [u], e2 => exact e2.2 0 v u rfl rfl
          | v1 :: v2 :: vs, u1 :: u2 :: us, e2 =>
            rw [dif_neg (by simp)]
            exact .tup _ _ (by simpa using e2.1) (by simpa using e2.2)
          | [], _ :: _, e2 => exact absurd e2.1 (by simp)
          | [_], [], e2 => exact absurd e2.1 (by simp)
          | [_], _ :: _ :: _, e2 => exact absurd e2.1 (by simp)
          | _ :: _ :: _, [], e2 => exact absurd e2.1 (by simp)
          | _ :: _ :: _, [_], e2 => exact absurd e2.1 (by simp)
      split at h
      · cases h
      · rename_i x s1 hne hx
        split at h
        · rename_i vs hvs
          simp only [Option.some.injEq, Prod.mk.injEq] at h; obtain ⟨rfl, rfl⟩ := h
          refine (hev _ _ _ _ _ _ hx _ _ _ _ _ _ _ hm0 fs _ fun a' g' lam' w' fs' => ?_).1
          cases x with
          | normal => exact fin s1 vs hvs a' g' lam' w' fs'
          | ret => exact fin s1 vs hvs a' g' lam' w' fs'
          | exit i => exact absurd rfl (hne i)
        · cases h
      · cases h
    · cases h
  · cases h

/-! ### Calls -/
/-- What is asked of the oracles. -/
structure Ok (C : Cfg) : Prop where
  num : NoNum C.P
  mixed : C.P.follows .mixedOrders = true
  orc : ∀ f g, C.orc f = some g → ∀ args v, g args = some v → (∃ fn, C.P.funcs[f]? = some fn ∧ fn.body.isNone = false) ∧
    ∀ (gh : Gh) (w : World) (cargs : Array Value), RH gh Hp.empty w → Sub C.base gh.m → RelDL gh.m args cargs.toList →
      Calls C.P f cargs w fun e w' => ∃ u g' H', e = .returned u ∧ RelD g'.m v u ∧ RH g' H' w' ∧ Step gh Hp.empty w g' H' w'
  sorc : ∀ f g, C.sorc f = some g → ∀ args H v H', g args H = some (v, H') → noLocs args = true → (∃ fn, C.P.funcs[f]? = some fn ∧ fn.body.isNone = false) ∧ BodyOk C.P C.base f args H v H'

theorem strip_noloc {q : Bool} {n : Nat} {H H' : Hp} {v v' : AV} (h : strip q n H v = some (v', H')) : v.isLoc = false := by
  cases v <;> first | rfl | (cases n <;> simp [strip] at h)
theorem mapH_noloc {q : Bool} {n : Nat} : ∀ (vs vs' : List AV) (H H' : Hp), mapH (strip q n) H vs = some (vs', H') → noLocs vs = true := by
  intro vs
  induction vs with
  | nil => intro vs' H H' h; rfl
  | cons v vs ih =>
    intro vs' H H' h
    simp only [mapH] at h
    split at h
    · rename_i x H1 h1
      split at h
      · rename_i xs H2 h2
        simp only [noLocs, strip_noloc h1, ih _ _ _ h2]; rfl
      · cases h
    · cases h

/-- A call on data in a heap of its own. -/
theorem alone {g1 gc : Gh} {H1 Hc : Hp} {w wc : World} (rh : RH g1 H1 w) (rc : RH gc Hc wc) (st : Step g1 Hp.empty w gc Hc wc) : RH ⟨gc.m, g1.φ⟩ H1 wc ∧ Step g1 H1 w ⟨gc.m, g1.φ⟩ H1 wc := by
  have hk : ∀ b, b < w.heap.size → wc.heap[b]? = w.heap[b]? ∧ ∀ i, gc.m b i = g1.m b i := fun b hb => st.keep b hb fun o ob h => by cases h
  refine ⟨⟨rc.inv, fun o b hb => ?_, rh.inj, fun o b t hb ht => (by
    obtain ⟨c1, z1, h, hz⟩ := rh.typ o b t hb ht
    exact ⟨c1, z1, by rw [(hk _ (rh.lt hb)).1]; exact h, hz⟩)⟩, ⟨st.os, st.tape, st.output, st.size, fun b hb _ => hk b hb, ⟨st.ext.mem, Nat.le_refl _, fun o b' _ _ h => ⟨⟨b', h, rfl⟩, rfl⟩⟩, fun o ob h => .inr ⟨o, ob, h, rfl⟩⟩⟩
  obtain ⟨h1, h2, h3, cs, T, fz, e1, e2, e3, e4, e5, e6⟩ := rh.ob o b hb
  have hlt := rh.lt hb
  have x : Ext g1 H1 ⟨gc.m, g1.φ⟩ H1 := ⟨st.ext.mem, Nat.le_refl _, fun o b' _ _ h => ⟨⟨b', h, rfl⟩, rfl⟩⟩
  refine ⟨h1, h2, h3, cs, T, fz, by rw [(hk _ hlt).1]; exact e1, e2, e3, fun i v hv => ?_, e5, fun i hi => ?_⟩
  · obtain ⟨u, f1, f2, f3⟩ := e4 i v hv
    exact ⟨u, f1, f2.mono x, f3⟩
  · rw [← e6 i hi]; exact (hk _ hlt).2 i

theorem RelD.rel' {H : Hp} {v : AV} {u : Value} (h : RelD g.m v u) : Rel g H v u := .data _ _ h

theorem evCa_ok {C : Cfg} {r : Lvl} {n : Nat} (ok : Ok C) (hev : EvOk C.P C.base n r.ev) : CaOk C.P C.base (evCa C r) := by
  intro q f args H v H' h
  unfold evCa at h
  split at h
  · split at h
    · rename_i args' H1 hst
      have hnl := mapH_noloc _ _ _ _ hst
      have hq : q = true → H1 = H := fun e => by subst e; exact mapH_same (strip_same _) _ _ _ _ hst
      split at h
      · rename_i og horc
        split at h
        · rename_i v1 hv1
          simp only [Option.some.injEq, Prod.mk.injEq] at h; obtain ⟨rfl, rfl⟩ := h
          obtain ⟨hb, hcall⟩ := ok.orc f og horc _ _ hv1
          refine ⟨hb, hnl, hq, fun g w cargs rh hm0 hr => ?_⟩
          obtain ⟨g1, s1, r1⟩ := stripL_ok q w depthS hst rh hr
          have rh0 : RH ⟨g1.m, g1.φ⟩ Hp.empty w := ⟨s1.rh.inv, fun o b hb => (by cases hb), fun o o' b b' hb => (by cases hb), fun o b t hb => (by cases hb)⟩
          refine (hcall g1 w cargs rh0 (hm0.trans s1.step.ext.mem) r1).mono fun e w' ⟨u, gc, Hc, he, hu, rc, st⟩ => ?_
          obtain ⟨a1, a2⟩ := alone s1.rh rc st
          exact ⟨u, ⟨gc.m, g1.φ⟩, he, .data _ _ hu, a1, s1.step.trans a2⟩
        · cases h
      · split at h
        · rename_i v1 Hc hv1
          split at h
          · rename_i v2 H2 hst2
            simp only [Option.some.injEq, Prod.mk.injEq] at h; obtain ⟨rfl, rfl⟩ := h
            obtain ⟨hb, hcall⟩ := evBody_ok hev hv1
            refine ⟨hb, hnl, hq, fun g w cargs rh hm0 hr => ?_⟩
            obtain ⟨g1, s1, r1⟩ := stripL_ok q w depthS hst rh hr
            have rh0 : RH g1 Hp.empty w := ⟨s1.rh.inv, fun o b hb => (by cases hb), fun o o' b b' hb => (by cases hb), fun o b t hb => (by cases hb)⟩
            refine (hcall g1 w cargs rh0 (hm0.trans s1.step.ext.mem) ⟨r1.1, fun i v u h1 h2 => .data _ _ (r1.2 i v u h1 h2)⟩).mono fun e w' ⟨u, gc, he, hu, rc, st⟩ => ?_
            obtain ⟨g2, s2, r2⟩ := strip_ok false w' depthS _ _ _ _ _ _ hst2 rc hu
            obtain ⟨a1, a2⟩ := alone s1.rh s2.rh (st.trans s2.step)
            exact ⟨u, ⟨g2.m, g1.φ⟩, he, .data _ _ r2, a1, s1.step.trans a2⟩
          · cases h
        · cases h
    · cases h
  · split at h
    · cases h
    · rename_i hq
      split at h
      · rename_i hnl
        have hq' : q = true → H' = H := fun e => absurd e hq
        split at h
        · rename_i og horc
          obtain ⟨hb, hcall⟩ := ok.sorc f og horc _ _ _ _ h hnl
          exact ⟨hb, hnl, hq', hcall⟩
        · obtain ⟨hb, hcall⟩ := evBody_ok hev h
          exact ⟨hb, hnl, hq', hcall⟩
      · cases h

theorem lvl_ok {C : Cfg} (ok : Ok C) : ∀ n, EvOk C.P C.base n (lvl C n).ev ∧ CaOk C.P C.base (lvl C n).ca := by
  intro n
  induction n with
  | zero => exact ⟨fun fn nt c s x s' h => (by cases h), fun q k args H r H' h => (by cases h)⟩
  | succ n ih => exact ⟨evCode_ok ih.1 ih.2 ok.num ok.mixed, evCa_ok ok ih.1⟩

end
end Go.Am
