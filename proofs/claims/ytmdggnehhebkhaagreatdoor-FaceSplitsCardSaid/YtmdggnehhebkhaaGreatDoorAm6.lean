/- Each operation of the abstract machine is the machine's own: numbers, comparisons, conversions, making, appending, new variables. -/
import Derived.Test.YtmdggnehhebkhaaGreatDoorAm5
import Derived.Laws.IdiomStrings
set_option linter.unusedVariables false
namespace Go.Am
open Go

theorem runP_run {α : Type} (P : Program) : ∀ (x : Sem α) (a : α), runP P x = some a → ∀ w, x.run P w = .ok a w
  | .pure b, a, h, w => by simp only [runP, Option.some.injEq] at h; subst h; rfl
  | .program k, a, h, w => by simp only [runP] at h; exact runP_run P (k P) a h w
  | .load .., a, h, w => by simp [runP] at h
  | .store .., a, h, w => by simp [runP] at h
  | .new .., a, h, w => by simp [runP] at h
  | .shape .., a, h, w => by simp [runP] at h
  | .freeze .., a, h, w => by simp [runP] at h
  | .frozen .., a, h, w => by simp [runP] at h
  | .getObj .., a, h, w => by simp [runP] at h
  | .setObj .., a, h, w => by simp [runP] at h
  | .choose .., a, h, w => by simp [runP] at h
  | .sys .., a, h, w => by simp [runP] at h
  | .mark .., a, h, w => by simp [runP] at h
  | .halt .., a, h, w => by simp [runP] at h

section
variable {P : Program} {g0 : Gh} {H0 : Hp} {w0 : World} {g : Gh} {lam : Nat → Option Nat} {w : World} {s : St}

theorem toV_rel {H : Hp} {v : AV} {u x : Value} (h : toV v = some u) (hr : Rel g H v x) : x = u := by
  cases v <;> simp only [toV] at h <;> try (cases h; done)
  all_goals (simp only [Option.some.injEq] at h; subst h)
  · exact rel_bool hr
  · exact rel_int hr
  · exact rel_str hr
  · exact rel_nilptr hr
  · exact rel_nilfunc hr
  · exact rel_niliface hr
theorem toVs_rel {H : Hp} : ∀ (vs : List AV) (us xs : List Value), toVs vs = some us → RelL g H vs xs → xs = us := by
  intro vs
  induction vs with
  | nil => intro us xs h hr; simp only [toVs, Option.some.injEq] at h; subst h; exact hr.nil_inv
  | cons v vs ih =>
    intro us xs h hr
    simp only [toVs] at h
    split at h
    · rename_i u hu
      split at h
      · rename_i us' hus
        simp only [Option.some.injEq] at h
        subst h
        obtain ⟨x, xs', rfl, h1, h2⟩ := hr.cons_inv
        rw [toV_rel hu h1, ih _ _ hus h2]
      · cases h
    · cases h

theorem eqRes_bool {op : BinOp} {b : Bool} {v : AV} (h : eqRes op b = some v) : isEq op = true ∧ ((op = .eql ∧ v = .bool b) ∨ (op = .neq ∧ v = .bool !b)) := by
  cases op <;> simp only [eqRes] at h <;> try (cases h; done)
  · simp only [Option.some.injEq] at h; exact ⟨rfl, .inl ⟨rfl, h.symm⟩⟩
  · simp only [Option.some.injEq] at h; exact ⟨rfl, .inr ⟨rfl, h.symm⟩⟩

/-- Two values held against each other. -/
theorem run_eq_ok {op : BinOp} {b : Bool} {v : AV} {H : Hp} (h : eqRes op b = some v) {t : TypeId} {x y : Value} {xo yo : Operand}
    (hg : ∀ op', isEq op' = true → (eqGuard op' t xo yo x y).run P w = .ok () w) (hs : ∀ op', isEq op' = true → binOp op' t x y = (if op' = .eql then (do pure (.bool (← Op.equal t x y))) else (do pure (.bool (!(← Op.equal t x y))))))
    (he : (Op.equal t x y).run P w = .ok b w) : ∃ z, (do eqGuard op t xo yo x y; binOp op t x y : Sem Value).run P w = .ok z w ∧ Rel g H v z := by
  obtain ⟨h1, ⟨rfl, rfl⟩ | ⟨rfl, rfl⟩⟩ := eqRes_bool h
  · refine ⟨.bool b, ?_, .data _ _ (.bool _)⟩
    simp only [Sem.run_bind, hg _ h1, Result.andThen_ok, hs _ h1, if_true, he, Sem.run_pure]
  · refine ⟨.bool !b, ?_, .data _ _ (.bool _)⟩
    simp only [Sem.run_bind, hg _ h1, Result.andThen_ok, hs _ h1, he, Sem.run_pure, if_false, reduceCtorEq]

theorem guard_noeq {op : BinOp} {t : TypeId} {xo yo : Operand} {x y : Value} (h : isEq op = false) : (eqGuard op t xo yo x y).run P w = .ok () w := by
  cases op <;> first | rfl | simp [isEq] at h

theorem guard_plain {op : BinOp} {t : TypeId} {xo yo : Operand} {x y : Value} (h1 : x ≠ .nilIface ∨ y ≠ .nilIface) (h2 : (∀ a, x ≠ .agg a) ∨ ∀ a, y ≠ .agg a) : (eqGuard op t xo yo x y).run P w = .ok () w := by
  have key : ∀ op', op' = .eql ∨ op' = .neq → (eqGuard op' t xo yo x y).run P w = .ok () w := by
    intro op' ho
    unfold eqGuard
    have : (match op' with | .eql => true | .neq => true | x => false) = true := by rcases ho with rfl | rfl <;> rfl
    rcases ho with rfl | rfl <;>
    · simp only [Bool.not_true, Bool.false_eq_true, if_false]
      split
      · simp at h1
      · simp at h2
      · rfl
  cases op <;> first | rfl | exact key _ (.inl rfl) | exact key _ (.inr rfl)

theorem aint_ok {H : Hp} {op : BinOp} {k k' : IntKind} {a b : Int} {v : AV} {t : TypeId} {xo yo : Operand} (hk : isShift op = true ∨ k = k') (h : aint op k a b = some v) :
    ∃ z, (do eqGuard op t xo yo (.int k a) (.int k' b); binOp op t (.int k a) (.int k' b) : Sem Value).run P w = .ok z w ∧ Rel g H v z := by
  have hg : (eqGuard op t xo yo (.int k a) (.int k' b)).run P w = .ok () w := guard_plain (.inl (by simp)) (.inl (by simp))
  simp only [Sem.run_bind, hg, Result.andThen_ok]
  have int : ∀ {x : Value}, (∃ n, x = .int k n ∧ v = .int k n) ∨ (∃ c, x = .bool c ∧ v = .bool c) → Rel g H v x := by
    rintro x (⟨n, rfl, rfl⟩ | ⟨c, rfl, rfl⟩)
    · exact .data _ _ (.int _ _)
    · exact .data _ _ (.bool _)
  cases op <;> simp only [isShift, Bool.false_eq_true, false_or, true_or] at hk
  case shl =>
    simp only [aint] at h
    split at h
    · cases h
    · rename_i hb; cases h
      exact ⟨_, by simp [binOp, Op.shift, hb], int (.inl ⟨_, rfl, rfl⟩)⟩
  case shr =>
    simp only [aint] at h
    split at h
    · cases h
    · rename_i hb; cases h
      exact ⟨_, by simp [binOp, Op.shift, hb], int (.inl ⟨_, rfl, rfl⟩)⟩
  case quo =>
    subst hk
    simp only [aint] at h
    split at h
    · cases h
    · rename_i hb; cases h
      exact ⟨_, by simp [binOp, Op.intDiv, hb], int (.inl ⟨_, rfl, rfl⟩)⟩
  case rem =>
    subst hk
    simp only [aint] at h
    split at h
    · cases h
    · rename_i hb; cases h
      exact ⟨_, by simp [binOp, Op.intDiv, hb], int (.inl ⟨_, rfl, rfl⟩)⟩
  case add => subst hk; cases h; exact ⟨_, by simp [binOp, Op.intArith], int (.inl ⟨_, rfl, rfl⟩)⟩
  case sub => subst hk; cases h; exact ⟨_, by simp [binOp, Op.intArith], int (.inl ⟨_, rfl, rfl⟩)⟩
  case mul => subst hk; cases h; exact ⟨_, by simp [binOp, Op.intArith], int (.inl ⟨_, rfl, rfl⟩)⟩
  case and => subst hk; cases h; exact ⟨_, by simp [binOp, Op.intBits], int (.inl ⟨_, rfl, rfl⟩)⟩
  case or => subst hk; cases h; exact ⟨_, by simp [binOp, Op.intBits], int (.inl ⟨_, rfl, rfl⟩)⟩
  case xor => subst hk; cases h; exact ⟨_, by simp [binOp, Op.intBits], int (.inl ⟨_, rfl, rfl⟩)⟩
  case andNot => subst hk; cases h; exact ⟨_, by simp [binOp, Op.intBits], int (.inl ⟨_, rfl, rfl⟩)⟩
  case eql => subst hk; cases h; exact ⟨_, by simp [binOp, Op.intCmp], int (.inr ⟨_, rfl, rfl⟩)⟩
  case neq => subst hk; cases h; exact ⟨_, by simp [binOp, Op.intCmp], int (.inr ⟨_, rfl, rfl⟩)⟩
  case lss => subst hk; cases h; exact ⟨_, by simp [binOp, Op.intCmp], int (.inr ⟨_, rfl, rfl⟩)⟩
  case leq => subst hk; cases h; exact ⟨_, by simp [binOp, Op.intCmp], int (.inr ⟨_, rfl, rfl⟩)⟩
  case gtr => subst hk; cases h; exact ⟨_, by simp [binOp, Op.intCmp], int (.inr ⟨_, rfl, rfl⟩)⟩
  case geq => subst hk; cases h; exact ⟨_, by simp [binOp, Op.intCmp], int (.inr ⟨_, rfl, rfl⟩)⟩

theorem astr_ok {H : Hp} {op : BinOp} {a b : ByteArray} {v : AV} {t : TypeId} {xo yo : Operand} (h : astr op a b = some v) :
    ∃ z, (do eqGuard op t xo yo (.string a) (.string b); binOp op t (.string a) (.string b) : Sem Value).run P w = .ok z w ∧ Rel g H v z := by
  have hg : (eqGuard op t xo yo (.string a) (.string b)).run P w = .ok () w := guard_plain (.inl (by simp)) (.inl (by simp))
  simp only [Sem.run_bind, hg, Result.andThen_ok]
  cases op <;> simp only [astr] at h <;> try (cases h; done)
  case add =>
    split at h
    · rename_i hle; cases h
      refine ⟨.string (a ++ b), ?_, .data _ _ (.str _)⟩
      have hx : ¬ (((a.size + b.size : Nat) : Int) > IntKind.i64.max) := by
        have : IntKind.i64.max = 9223372036854775807 := by decide
        rw [this]; omega
      simp only [binOp, Op.stringOp]
      rw [if_neg hx]
      rfl
    · cases h
  all_goals (cases h; exact ⟨_, by simp [binOp, Op.stringOp], .data _ _ (.bool _)⟩)

theorem eqIn_ptr (d : Nat) {t : TypeId} {e : TypeId} (hu : P.underlying t = some (.pointer e)) (a : Option Addr) : (Op.equalIn (d + 1) t (.pointer a) (.pointer none)).run P w = .ok a.isNone w := by
  cases a <;> simp [Op.equalIn, run_underlying hu]
theorem run_equal_ptr_nil {t : TypeId} {e : TypeId} (hu : P.underlying t = some (.pointer e)) (a : Option Addr) : (Op.equal t (.pointer a) (.pointer none)).run P w = .ok a.isNone w := eqIn_ptr 9999 hu a
theorem eqIn_slice (d : Nat) {t : TypeId} {e : TypeId} (hu : P.underlying t = some (.slice e)) (a : Addr) (n c n' c' : Nat) : (Op.equalIn (d + 1) t (.slice (some a) n c) (.slice none n' c')).run P w = .ok false w := by
  simp [Op.equalIn, run_underlying hu]
theorem run_equal_slice_nil {t : TypeId} {e : TypeId} (hu : P.underlying t = some (.slice e)) (a : Addr) (n c n' c' : Nat) : (Op.equal t (.slice (some a) n c) (.slice none n' c')).run P w = .ok false w := eqIn_slice 9999 hu a n c n' c'
theorem eqIn_bool (d : Nat) {t : TypeId} (hu : P.underlying t = some .bool) (a b : Bool) : (Op.equalIn (d + 1) t (.bool a) (.bool b)).run P w = .ok (a == b) w := by
  simp [Op.equalIn, run_underlying hu]
theorem run_equal_bool {t : TypeId} (hu : P.underlying t = some .bool) (a b : Bool) : (Op.equal t (.bool a) (.bool b)).run P w = .ok (a == b) w := eqIn_bool 9999 hu a b
theorem eqIn_iface (d : Nat) {t : TypeId} {ms : Array (String × TypeId)} (hu : P.underlying t = some (.interface ms)) : (Op.equalIn (d + 1) t .nilIface .nilIface).run P w = .ok true w ∧
    (∀ c x, (Op.equalIn (d + 1) t .nilIface (.iface c x)).run P w = .ok false w) ∧ (∀ c x, (Op.equalIn (d + 1) t (.iface c x) .nilIface).run P w = .ok false w) := by
  refine ⟨?_, fun c x => ?_, fun c x => ?_⟩ <;> simp [Op.equalIn, run_underlying hu]
theorem run_equal_iface {t : TypeId} {ms : Array (String × TypeId)} (hu : P.underlying t = some (.interface ms)) : (Op.equal t .nilIface .nilIface).run P w = .ok true w ∧
    (∀ c x, (Op.equal t .nilIface (.iface c x)).run P w = .ok false w) ∧ (∀ c x, (Op.equal t (.iface c x) .nilIface).run P w = .ok false w) := eqIn_iface 9999 hu

theorem guard_nil {op : BinOp} {t : TypeId} {xo yo : Operand} (h : (constO xo || constO yo) = true) : (eqGuard op t xo yo .nilIface .nilIface).run P w = .ok () w := by
  have key : ∀ op', op' = .eql ∨ op' = .neq → (eqGuard op' t xo yo .nilIface .nilIface).run P w = .ok () w := by
    intro op' ho
    cases xo with
    | const v => rcases ho with rfl | rfl <;> rfl
    | tmp i => cases yo with
      | const v => rcases ho with rfl | rfl <;> rfl
      | tmp i => simp [constO] at h
      | global i => simp [constO] at h
      | func i => simp [constO] at h
    | global i => cases yo with
      | const v => rcases ho with rfl | rfl <;> rfl
      | tmp i => simp [constO] at h
      | global i => simp [constO] at h
      | func i => simp [constO] at h
    | func i => cases yo with
      | const v => rcases ho with rfl | rfl <;> rfl
      | tmp i => simp [constO] at h
      | global i => simp [constO] at h
      | func i => simp [constO] at h
  cases op <;> first | rfl | exact key _ (.inl rfl) | exact key _ (.inr rfl)

theorem abin_ok (fr : FR g0 H0 w0 g lam s w) {op : BinOp} {t : TypeId} {xo yo : Operand} {x y v : AV} {a b : Value} (hx : RelT g s.h lam x a) (hy : RelT g s.h lam y b)
    (hn : nilSliceC yo = true → ∃ n c, b = .slice none n c) (h : abin P s.l s.h op t (constO xo || constO yo) (nilSliceC yo) x y = some v) :
    ∃ z, (do eqGuard op t xo yo a b; binOp op t a b : Sem Value).run P w = .ok z w ∧ Rel g s.h v z := by
  unfold abin at h
  split at h
  · rename_i k n k' m
    obtain rfl := rel_int hx
    obtain rfl := rel_int hy
    split at h
    · rename_i hs; exact aint_ok (.inl hs) h
    · split at h
      · rename_i he; exact aint_ok (.inr he) h
      · cases h
  · rename_i sa sb
    obtain rfl := rel_str hx
    obtain rfl := rel_str hy
    exact astr_ok h
  · rename_i ba bb
    obtain rfl := rel_bool hx
    obtain rfl := rel_bool hy
    split at h
    · rename_i hu
      exact run_eq_ok h (fun _ _ => guard_plain (.inl (by simp)) (.inl (by simp))) (fun op' h' => by cases op' <;> first | rfl | simp [isEq] at h') (run_equal_bool hu _ _)
    · cases h
  · rename_i xs ys
    split at h
    · split at h
      · rename_i us vs e1 e2
        split at h
        · rename_i c hc
          cases h
          obtain ⟨ua, rfl, r1, _⟩ := rel_agg hx
          obtain ⟨ub, rfl, r2, _⟩ := rel_agg hy
          have f1 := toVs_rel _ _ _ e1 r1
          have f2 := toVs_rel _ _ _ e2 r2
          subst f1 f2
          refine ⟨.bool c, ?_, .data _ _ (.bool _)⟩
          have := runP_run P _ _ hc w
          simpa [eqGuard] using this
        · cases h
      · cases h
    · cases h
  · obtain rfl := rel_niliface hx
    obtain rfl := rel_niliface hy
    split at h
    · rename_i hc
      split at h
      · rename_i ms hu
        exact run_eq_ok h (fun op' h' => guard_nil hc) (fun op' h' => by cases op' <;> first | rfl | simp [isEq] at h') (run_equal_iface hu).1
      · cases h
    · cases h
  · obtain rfl := rel_niliface hx
    obtain ⟨z, rfl, _⟩ := rel_iface hy
    split at h
    · rename_i ms hu
      exact run_eq_ok h (fun _ _ => guard_plain (.inr (by simp)) (.inl (by simp))) (fun op' h' => by cases op' <;> first | rfl | simp [isEq] at h') ((run_equal_iface hu).2.1 _ _)
    · cases h
  · obtain rfl := rel_niliface hy
    obtain ⟨z, rfl, _⟩ := rel_iface hx
    split at h
    · rename_i ms hu
      exact run_eq_ok h (fun _ _ => guard_plain (.inl (by simp)) (.inl (by simp))) (fun op' h' => by cases op' <;> first | rfl | simp [isEq] at h') ((run_equal_iface hu).2.2 _ _)
    · cases h
  · split at h
    · rename_i hc
      simp only [Bool.and_eq_true] at hc
      obtain ⟨c1, c2⟩ := hc
      split at h
      · rename_i e hu
        obtain ⟨n', c', rfl⟩ := hn c1
        simp only [okA] at c2
        split at c2
        · rename_i ob hb
          obtain ⟨cap, rfl, _, _⟩ := rel_vec hx hb (by simpa using c2)
          exact run_eq_ok h (fun _ _ => guard_plain (.inl (by simp)) (.inl (by simp))) (fun op' h' => by cases op' <;> first | rfl | simp [isEq] at h') (run_equal_slice_nil hu _ _ _ _ _)
        · cases c2
      · cases h
    · cases h
  · split at h
    · rename_i hc
      split at h
      · rename_i e hu
        obtain ⟨n', c', rfl⟩ := hn hc.1
        rcases rel_slice hx with ⟨cap, rfl, h0, _⟩ | ⟨b', off, cap, us, rfl, _⟩
        · exact absurd h0 hc.2
        · exact run_eq_ok h (fun _ _ => guard_plain (.inl (by simp)) (.inl (by simp))) (fun op' h' => by cases op' <;> first | rfl | simp [isEq] at h') (run_equal_slice_nil hu _ _ _ _ _)
      · cases h
    · cases h
  · obtain rfl := rel_nilptr hx
    obtain rfl := rel_nilptr hy
    split at h
    · rename_i e hu
      exact run_eq_ok h (fun _ _ => guard_plain (.inl (by simp)) (.inl (by simp))) (fun op' h' => by cases op' <;> first | rfl | simp [isEq] at h') (run_equal_ptr_nil hu none)
    · cases h
  · obtain rfl := rel_nilptr hy
    split at h
    · rename_i hc
      simp only [Bool.and_eq_true] at hc
      split at h
      · rename_i e hu
        obtain ⟨b', off, rfl⟩ := ok_ptr fr hc.2 hc.1 hx
        exact run_eq_ok h (fun _ _ => guard_plain (.inl (by simp)) (.inl (by simp))) (fun op' h' => by cases op' <;> first | rfl | simp [isEq] at h') (run_equal_ptr_nil hu _)
      · cases h
    · cases h
  · cases h

theorem aun_ok {H : Hp} {op : UnOp} {x v : AV} {a : Value} (hx : Rel g H x a) (h : aun op x = some v) : ∃ z, (Op.unary op a).run P w = .ok z w ∧ Rel g H v z := by
  unfold aun at h
  split at h
  · obtain rfl := rel_int hx; cases h
    exact ⟨_, by simp [Op.unary, Op.intArith], .data _ _ (.int _ _)⟩
  · obtain rfl := rel_int hx; cases h
    exact ⟨_, by simp [Op.unary, Op.intBits], .data _ _ (.int _ _)⟩
  · obtain rfl := rel_bool hx; cases h
    exact ⟨_, by simp [Op.unary], .data _ _ (.bool _)⟩
  · cases h

/-! ### The elements of a slice -/
theorem content_ok {H : Hp} (rh : RH g H w) {v : AV} {u : Value} {esz n : Nat} {cs : List AV} (hr : Rel g H v u) (h : content H v esz = some (n, cs)) :
    (∃ c, u = .slice none 0 c ∧ n = 0 ∧ cs = []) ∨ ∃ b off cap us, u = .slice (some ⟨b, off, none⟩) n cap ∧ us.length = n * esz ∧ Holds w b off us ∧ RelL g H cs us := by
  unfold content at h
  split at h
  · split at h
    · rename_i hl
      simp only [Option.some.injEq, Prod.mk.injEq] at h
      obtain ⟨rfl, rfl⟩ := h
      rcases rel_slice hr with ⟨cap, rfl, rfl, rfl, _⟩ | ⟨b, off, cap, us, rfl, _, _, h2, h3⟩
      · exact .inl ⟨cap, rfl, rfl, rfl⟩
      · exact .inr ⟨b, off, cap, us, rfl, by rw [h3.1]; exact hl, fun i u hu => rh.inv _ _ _ (h2 i u hu), h3.rel⟩
    · cases h
  · split at h
    · rename_i hz
      subst hz
      split at h
      · rename_i b hb
        split at h
        · rename_i hc
          simp only [Option.some.injEq, Prod.mk.injEq] at h
          obtain ⟨rfl, rfl⟩ := h
          obtain ⟨cap, rfl, _, _⟩ := rel_vec hr hb hc.1
          obtain ⟨arr, T, fz, f1, f2, f3, f4, f5, _⟩ := rh.row hb
          exact .inr ⟨_, _, cap, _, rfl, by simp [cut]; omega, (holds_row f1 f5).cut _ _, f4.cut _ _⟩
        · cases h
      · cases h
    · cases h
  · cases h

theorem content_noloc {H : Hp} {v : AV} {esz : Nat} {r : Nat × List AV} (h : content H v esz = some r) : v.isLoc = false := by
  cases v <;> first | rfl | simp [content] at h

theorem nums_rel {H : Hp} : ∀ (cs : List AV) (us : List Value) (xs : List Int), numsOfA cs = some xs → RelL g H cs us → us = xs.map (Value.int .u8) := by
  intro cs
  induction cs with
  | nil => intro us xs h hr; simp only [numsOfA, Option.some.injEq] at h; subst h; simpa using hr.nil_inv
  | cons c cs ih =>
    intro us xs h hr
    obtain ⟨u, us', rfl, h1, h2⟩ := hr.cons_inv
    unfold numsOfA at h
    split at h
    · rename_i heq; cases heq
    · rename_i n rest heq
      cases heq
      split at h
      · rename_i bs hb
        simp only [Option.some.injEq] at h
        subst h
        rw [rel_int h1, ih _ _ hb h2]; rfl
      · cases h
    · cases h

theorem u8s_rel (g : Gh) (H : Hp) (str : ByteArray) : RelL g H (u8s str) (Lib.strCells str) := by
  refine ⟨by simp [u8s, Lib.strCells], fun i v u a b => ?_⟩
  simp only [u8s, Lib.strCells, List.getElem?_map] at a b
  cases h : str.data.toList[i]? with
  | none => rw [h] at a; cases a
  | some c =>
    rw [h] at a b
    simp only [Option.map_some, Option.some.injEq] at a b
    subst a b
    exact .data _ _ (.int _ _)

theorem aconv_ok (fr : FR g0 H0 w0 g lam s w) {q : Bool} {src dst : TypeId} {x v : AV} {u : Value} {H' : Hp} (hr : RelT g s.h lam x u) (h : aconv q P s.h src dst x = some (v, H')) :
    ∃ y g' w', (convert src dst u).run P w = .ok y w' ∧ FR g0 H0 w0 g' lam ⟨s.e, s.l, H'⟩ w' ∧ Step g s.h w g' H' w' ∧ Rel g' H' v y := by
  unfold aconv at h
  split at h
  · rename_i d k k' n h1 h2
    cases h
    obtain rfl := rel_int hr
    refine ⟨_, g, w, ?_, fr, Step.refl _ _ _, .data _ _ (.int _ _)⟩
    simp only [convert, Sem.run_bind, run_underlying h1, run_underlying h2, Result.andThen_ok]
    cases d <;> simp [Conv.intToInt]
  · rename_i str h1 h2
    cases h
    obtain rfl := rel_str hr
    exact ⟨_, g, w, by simp only [convert, Sem.run_bind, run_underlying h1, run_underlying h2, Result.andThen_ok]; rfl, fr, Step.refl _ _ _, .data _ _ (.str _)⟩
  · rename_i x e h1 h2
    split at h
    · rename_i h3
      split at h
      · rename_i n cs hc
        split at h
        · rename_i bs hb
          cases h
          rcases content_ok fr.rh (hr.rel (content_noloc hc)) hc with ⟨c, rfl, rfl, rfl⟩ | ⟨b, off, cap, us, rfl, hlen, hh, hrel⟩
          · simp only [numsOfA, Option.some.injEq] at hb
            subst hb
            refine ⟨_, g, w, run_convert_bytes_nil w src e h1 h3 0 c dst h2, fr, Step.refl _ _ _, ?_⟩
            exact .data _ _ (.str _)
          · have hus := nums_rel _ _ _ hb hrel
            have hlb : bs.length = n := by have := congrArg List.length hus; simp at this; omega
            refine ⟨_, g, w, run_convert_bytes_arg w src e h1 h3 b off n cap bs hlb (fun i hi => ?_) dst h2, fr, Step.refl _ _ _, .data _ _ (.str _)⟩
            have := hh i (.int .u8 (bs.getD i 0)) (by rw [hus]; simp [List.getElem?_eq_getElem (show i < bs.length by omega), List.getD_eq_getElem?_getD])
            exact this.1
        · cases h
      · cases h
    · cases h
  · rename_i e str h1 h2
    split at h
    · cases h
    split at h
    · rename_i h3
      cases h
      obtain rfl := rel_str hr
      have hcap := grownCap_ge w str.size 0 e
      have hsz : (bytesRow str (grownCap w str.size 0 e)).size = grownCap w str.size 0 e := by
        have : str.data.size = str.size := rfl
        simp [bytesRow, this]; omega
      have hcut : cut (bytesRow str (grownCap w str.size 0 e)).toList 0 (u8s str).length = Lib.strCells str := by
        have : (u8s str).length = (Lib.strCells str).length := (u8s_rel g s.h str).1.symm
        rw [this]
        simp [cut, bytesRow, Lib.strCells]
      have hlen : (u8s str).length = str.size := by rw [(u8s_rel g s.h str).1.symm, Lib.strCells_length]
      have hk : ∀ k, k < w.heap.size → (w.drew.alloc (.cells (bytesRow str (grownCap w str.size 0 e)) e ((bytesRow str (grownCap w str.size 0 e)).size, (bytesRow str (grownCap w str.size 0 e)).size + 1))).heap[k]? = w.heap[k]? :=
        fun k hk => Go.RowKit.Below.heap_alloc w.drew _ k hk
      refine ⟨_, _, _, run_bytes_of_string w src dst e str h1 h2 h3, fr.next (fr.rh.newOb (arr := bytesRow str (grownCap w str.size 0 e)) (T := e)
        (fz := ((bytesRow str (grownCap w str.size 0 e)).size, (bytesRow str (grownCap w str.size 0 e)).size + 1)) (cs := u8s str) (ty := none) (fun t h => by cases h) (by rw [hlen, hsz]; exact hcap)
        (by rw [hcut]; exact u8s_rel g s.h str) (by rw [hcut]; exact Lib.strCells_oneCell str) (fun i hi => by simp; omega) hk (heap_alloc_new w.drew _))
        (step_new fr.rh _ _ _ rfl rfl rfl (by simp) hk), step_new fr.rh _ _ _ rfl rfl rfl (by simp) hk, ?_⟩
      refine Rel.vec _ _ _ _ _ _ (Nat.lt_succ_self _) (Nat.lt_succ_self _) rfl fun b hb hv => ⟨grownCap w str.size 0 e, by simp [Gh.put], hcap, by simp [Gh.put, hsz]⟩
    · cases h
  · cases h

/-! ### New slices -/
theorem repl_get {α : Type} (z : List α) (n i : Nat) (hz : z ≠ []) (hi : i < n * z.length) : (List.replicate n z).flatten[i]? = z[i % z.length]? := by
  induction n generalizing i with
  | zero => simp at hi
  | succ n ih =>
    rw [List.replicate_succ, List.flatten_cons]
    by_cases h : i < z.length
    · rw [List.getElem?_append_left h, Nat.mod_eq_of_lt h]
    · have hp : 0 < z.length := List.length_pos_iff.2 hz
      rw [List.getElem?_append_right (by omega), ih _ (by rw [Nat.add_mul] at hi; omega)]
      congr 1
      rw [Nat.mod_eq_sub_mod (show i ≥ z.length by omega)]
theorem repl_length {α : Type} (z : List α) (n : Nat) : (List.replicate n z).flatten.length = n * z.length := by simp

theorem rangeZ_get (z : Array Value) (n i : Nat) (hi : i < n) (hz : 0 < z.size) : ((Array.range n).map (fun x => z[x % z.size]!))[i]? = z[i % z.size]? := by
  have hm : i % z.size < z.size := Nat.mod_lt _ hz
  simp [hi, hm]

theorem rangeZ_toList (z : Array Value) (n m : Nat) (hz : 0 < z.size) (hm : m = n * z.size) : ((Array.range m).map (fun x => z[x % z.size]!)).toList = (List.replicate n z.toList).flatten := by
  subst hm
  apply List.ext_getElem?
  intro i
  by_cases hi : i < n * z.size
  · rw [repl_get _ _ _ (by intro h; have := congrArg List.length h; rw [Array.length_toList] at this; simp only [List.length_nil] at this; omega) (by simpa using hi)]
    rw [Array.getElem?_toList, rangeZ_get z (n * z.size) i hi hz, Array.getElem?_toList, Array.length_toList]
  · rw [List.getElem?_eq_none (by simp; omega), List.getElem?_eq_none (by simp; omega)]

theorem relL_repl {H : Hp} {z : List AV} {us : List Value} (h : RelL g H z us) (n : Nat) : RelL g H (repl n z) (List.replicate n us).flatten := by
  induction n with
  | zero => exact .nil _ _
  | succ n ih => simp only [repl, List.replicate_succ, List.flatten_cons]; exact h.append ih

theorem all_repl {us : List Value} (h : ∀ x, x ∈ us → x.oneCell' = true) (n : Nat) : ∀ x, x ∈ (List.replicate n us).flatten → x.oneCell' = true := fun x hx => by
  obtain ⟨l, h1, h2⟩ := List.mem_flatten.1 hx
  rw [List.mem_replicate] at h1
  rw [h1.2] at h2
  exact h x h2

theorem amakeSlice_ok (fr : FR g0 H0 w0 g lam s w) {t : TypeId} {n c v : AV} {un uc : Value} {H' : Hp} (hn : RelT g s.h lam n un) (hc : RelT g s.h lam c uc) (h : amakeSlice P s.h t n c = some (v, H')) :
    ∃ y g' w', (Instr.makeSlice t un uc).run P w = .ok y w' ∧ FR g0 H0 w0 g' lam ⟨s.e, s.l, H'⟩ w' ∧ Ext g s.h g' H' ∧ Rel g' H' v y := by
  unfold amakeSlice at h
  split at h
  · rename_i e hu
    split at h
    · rename_i k1 n1 k2 c1 i z hi hz
      split at h
      · rename_i hcond
        cases h
        obtain ⟨a1, a2, a3, a4, a5, a6⟩ := hcond
        obtain rfl := rel_int hn
        obtain rfl := rel_int hc
        obtain ⟨i', zv, b1, b2, rfl, b4⟩ := zeroT_info hz
        rw [hi] at b1; cases b1
        have hw1 : IntKind.i64.wrap n1 = n1 := IntWalk.i64_in _ (by omega)
        have hw2 : IntKind.i64.wrap c1 = c1 := IntWalk.i64_in _ (by omega)
        have hzs : zv.cells.size = i.size := by simpa using a5
        have hmul : (i.bytes : Int) * c1 ≤ 70368744177664 := by
          have h1 : c1 * (i.bytes + 1) = (i.bytes : Int) * c1 + c1 := by rw [Int.mul_add, Int.mul_comm]; simp
          omega
        have ht2 : ¬ (c1 < 0 ∨ (i.bytes : Int) * c1 > 2 ^ 48) := by
          have : (2 : Int) ^ 48 = 281474976710656 := by decide
          omega
        have hsz : ((Array.range (c1.toNat * i.size)).map (fun x => zv.cells[x % zv.cells.size]!)).size = c1.toNat * i.size := by simp
        have hl : ((Array.range (c1.toNat * i.size)).map (fun x => zv.cells[x % zv.cells.size]!)).toList = (List.replicate c1.toNat zv.cells.toList).flatten :=
          rangeZ_toList zv.cells c1.toNat _ (by omega) (by rw [hzs])
        have hrun : (Instr.makeSlice t (.int k1 n1) (.int k2 c1)).run P w = .ok (.slice (some ⟨w.heap.size, 0, none⟩) n1.toNat c1.toNat) (w.alloc (.cells ((Array.range (c1.toNat * i.size)).map (fun x => zv.cells[x % zv.cells.size]!)) e)) := by
          have hcc : ¬ (((decide (c1 < 0) || decide ((i.bytes : Int) * c1 > 2 ^ 48)) || decide (n1 < 0) || decide (n1 > c1)) = true) := by simp; omega
          simp only [Instr.makeSlice, Sem.run_bind, run_underlying hu, Result.andThen_ok, asInt, asIntOf, Sem.run_pure, typeInfo, run_program, hi, hw1, hw2, sizeOf, newRow]
          rw [if_neg hcc]
          simp only [Sem.run_bind, run_askRoom, Result.andThen_ok, Sem.run_pure, run_program, hi]
          by_cases hz0 : c1.toNat * i.size = 0
          · have hr0 : Array.range 0 = #[] := rfl
            simp [hz0, hr0]
          · rw [if_neg hz0]
            simp [zeroValue, typeInfo, hi, b2]
        have hcl : (repl n1.toNat (zv.cells.toList.map AV.ofA)).length = n1.toNat * i.size := by rw [repl, repl_length]; simp [hzs]
        have hle : n1.toNat ≤ c1.toNat := by omega
        have hcut : cut ((Array.range (c1.toNat * i.size)).map (fun x => zv.cells[x % zv.cells.size]!)).toList 0 (repl n1.toNat (zv.cells.toList.map AV.ofA)).length = (List.replicate n1.toNat zv.cells.toList).flatten := by
          rw [hl, hcl]
          obtain ⟨d, hd⟩ : ∃ d, c1.toNat = n1.toNat + d := ⟨c1.toNat - n1.toNat, by omega⟩
          rw [hd, ← List.replicate_append_replicate, List.flatten_append]
          simp only [cut, List.drop_zero]
          rw [List.take_append_of_le_length (by rw [repl_length, Array.length_toList, hzs]; exact Nat.le_refl _)]
          exact List.take_of_length_le (by rw [repl_length, Array.length_toList, hzs]; exact Nat.le_refl _)
        have hmulle : n1.toNat * i.size ≤ c1.toNat * i.size := Nat.mul_le_mul_right _ hle
        have hk : ∀ k, k < w.heap.size → (w.alloc (.cells ((Array.range (c1.toNat * i.size)).map (fun x => zv.cells[x % zv.cells.size]!)) e)).heap[k]? = w.heap[k]? := fun k hk => Go.RowKit.Below.heap_alloc w _ k hk
        refine ⟨_, _, _, hrun, fr.next (fr.rh.newOb (arr := (Array.range (c1.toNat * i.size)).map (fun x => zv.cells[x % zv.cells.size]!)) (T := e) (fz := (0, 0)) (cs := repl n1.toNat (zv.cells.toList.map AV.ofA)) (ty := some (e, false)) (fun t h => by cases h; exact ⟨rfl, fun h => (by cases h), .inl rfl⟩)
          (by rw [hcl, hsz]; exact hmulle) (by rw [hcut]; exact relL_repl (relL_ofA _ _ _) _) (by rw [hcut]; exact all_repl b4 _) (fun i hi => by simp) hk (heap_alloc_new w _)) (step_new fr.rh _ _ _ rfl rfl rfl (by simp) hk), ext_new _ _ _ _, ?_⟩
        refine Rel.vec _ _ _ _ _ _ (Nat.lt_succ_self _) (Nat.lt_succ_self _) rfl fun b hb hv => ⟨c1.toNat, by simp [Gh.put], hle, ?_⟩
        simp only [Gh.put, if_true, hsz]
        omega
      · cases h
    · cases h
  · cases h

theorem alen_ok {H : Hp} {t : TypeId} {x v : AV} {u : Value} {ty : TypeId} {ts : Array TypeId} (h0 : ts[0]? = some t) (hr : RelT g H lam x u) (h : alen P H t x = some v) :
    ∃ z, (Builtin.len_ ts ty #[u]).run P w = .ok z w ∧ Rel g H v z := by
  unfold alen at h
  split at h
  · rename_i hu
    split at h
    · cases h
      obtain rfl := rel_str hr
      exact ⟨_, by simp [Builtin.len_, h0, run_underlying hu, goInt], .data _ _ (.int _ _)⟩
    · cases h
  · rename_i n e hu
    cases h
    exact ⟨_, by simp [Builtin.len_, h0, run_underlying hu, goInt], .data _ _ (.int _ _)⟩
  · rename_i e hu
    split at h
    · cases h
      rcases rel_slice hr with ⟨cap, rfl, rfl, _⟩ | ⟨b, off, cap, us, rfl, _⟩
      · exact ⟨_, by simp [Builtin.len_, h0, run_underlying hu, goInt], .data _ _ (.int _ _)⟩
      · exact ⟨_, by simp [Builtin.len_, h0, run_underlying hu, goInt], .data _ _ (.int _ _)⟩
    · split at h
      · rename_i hok
        cases h
        simp only [okA] at hok
        split at hok
        · rename_i b hb
          obtain ⟨cap, rfl, _, _⟩ := rel_vec hr hb (by simpa using hok)
          exact ⟨_, by simp [Builtin.len_, h0, run_underlying hu, goInt], .data _ _ (.int _ _)⟩
        · cases hok
      · cases h
    · cases h
  · cases h

theorem foldMin_ok {H : Hp} : ∀ (ys : List AV) (us : List Value) (x v : AV) (u : Value), foldA amin x ys = some v → RelT g H lam x u → us.length = ys.length → (∀ (i : Nat) (y : AV) (z : Value), ys[i]? = some y → us[i]? = some z → RelT g H lam y z) →
    ∃ z, (us.foldlM Builtin.min2 u).run P w = .ok z w ∧ RelT g H lam v z := by
  intro ys
  induction ys with
  | nil => intro us x v u h hr hl _; simp only [foldA, Option.some.injEq] at h; subst h; obtain rfl := List.eq_nil_of_length_eq_zero hl; exact ⟨u, rfl, hr⟩
  | cons y ys ih =>
    intro us x v u h hr hl hy
    cases us with
    | nil => simp at hl
    | cons z us =>
      simp only [foldA] at h
      split at h
      · rename_i m hm
        have r1 := hy 0 y z rfl rfl
        unfold amin at hm
        split at hm
        · cases hm
          obtain rfl := rel_int hr
          obtain rfl := rel_int r1
          obtain ⟨z', e, r⟩ := ih us _ v (.int _ _) h (RelT.of (.data _ _ (.int _ _))) (by simpa using hl) (fun i y z a b => hy (i + 1) y z (by simpa using a) (by simpa using b))
          exact ⟨z', by simp only [List.foldlM_cons, Sem.run_bind, Builtin.min2, Sem.run_pure, Result.andThen_ok]; exact e, r⟩
        · cases hm
      · cases h
theorem foldMax_ok {H : Hp} : ∀ (ys : List AV) (us : List Value) (x v : AV) (u : Value), foldA amax x ys = some v → RelT g H lam x u → us.length = ys.length → (∀ (i : Nat) (y : AV) (z : Value), ys[i]? = some y → us[i]? = some z → RelT g H lam y z) →
    ∃ z, (us.foldlM Builtin.max2 u).run P w = .ok z w ∧ RelT g H lam v z := by
  intro ys
  induction ys with
  | nil => intro us x v u h hr hl _; simp only [foldA, Option.some.injEq] at h; subst h; obtain rfl := List.eq_nil_of_length_eq_zero hl; exact ⟨u, rfl, hr⟩
  | cons y ys ih =>
    intro us x v u h hr hl hy
    cases us with
    | nil => simp at hl
    | cons z us =>
      simp only [foldA] at h
      split at h
      · rename_i m hm
        have r1 := hy 0 y z rfl rfl
        unfold amax at hm
        split at hm
        · cases hm
          obtain rfl := rel_int hr
          obtain rfl := rel_int r1
          obtain ⟨z', e, r⟩ := ih us _ v (.int _ _) h (RelT.of (.data _ _ (.int _ _))) (by simpa using hl) (fun i y z a b => hy (i + 1) y z (by simpa using a) (by simpa using b))
          exact ⟨z', by simp only [List.foldlM_cons, Sem.run_bind, Builtin.max2, Sem.run_pure, Result.andThen_ok]; exact e, r⟩
        · cases hm
      · cases h

end
end Go.Am
