/- The limit of the levels: an evaluator without fuel, and its rules. -/
import Derived.Test.YtmdggnehhebkhaaGreatDoorAm12
set_option linter.unusedVariables false
namespace Go.Am
open Go

def Evt (p : Nat → Prop) : Prop := ∃ n, ∀ m, n ≤ m → p m
theorem Evt.of {p : Nat → Prop} (h : ∀ m, p m) : Evt p := ⟨0, fun m _ => h m⟩
theorem Evt.two {p q r : Nat → Prop} (hp : Evt p) (hq : Evt q) (h : ∀ m, p m → q m → r m) : Evt r :=
  let ⟨a, ha⟩ := hp; let ⟨b, hb⟩ := hq
  ⟨max a b, fun m hm => h m (ha m (Nat.le_trans (Nat.le_max_left _ _) hm)) (hb m (Nat.le_trans (Nat.le_max_right _ _) hm))⟩
theorem Evt.one {p r : Nat → Prop} (hp : Evt p) (h : ∀ m, p m → r m) : Evt r := let ⟨a, ha⟩ := hp; ⟨a, fun m hm => h m (ha m hm)⟩

/-- A row of levels comes to a level. -/
structure Lim (ρ : Nat → Lvl) (r : Lvl) : Prop where
  ev : ∀ fn nt c s x, r.ev fn nt c s = some x → Evt fun m => (ρ m).ev fn nt c s = some x
  ca : ∀ q f args H x, r.ca q f args H = some x → Evt fun m => (ρ m).ca q f args H = some x

section
variable {C : Cfg} {P : Program} {ρ : Nat → Lvl} {r : Lvl} {esc : Nat → Bool}

theorem evCall_lim (L : Lim ρ r) {q : Bool} {e : En} {H : Hp} {c : Call} {x : AV × Hp} (h : evCall P r.ca q e H c = some x) : Evt fun m => evCall P (ρ m).ca q e H c = some x := by
  unfold evCall at h ⊢
  split at h
  · unfold acall at h
    split at h
    · rename_i k first cap hf
      refine (L.ca _ _ _ _ _ h).one fun m hm => ?_
      simp only [acall, hf]; exact hm
    · cases h
  all_goals exact .of fun m => h

theorem evOp_lim (L : Lim ρ r) {q : Bool} {s : St} {o : Oper} {x : AV × St} (h : evOp P esc r.ca q s o = some x) : Evt fun m => evOp P esc (ρ m).ca q s o = some x := by
  by_cases hc : ∃ c, o.op = .call c
  · obtain ⟨c, hc⟩ := hc
    simp only [evOp, hc] at h ⊢
    unfold valH at h
    split at h
    · rename_i v H1 e1
      refine (evCall_lim L e1).one fun m hm => ?_
      simp only [hm, valH]; exact h
    · cases h
  · refine .of fun m => ?_
    rw [← h]
    unfold evOp
    split <;> first | rfl | (rename_i c hx; exact absurd ⟨c, hx⟩ hc)

theorem evOne_lim (L : Lim ρ r) {q : Bool} {nt : Nat} {ops : Array Oper} {s : St} {o : Oper} {x : St} (h : evOne P esc r.ca q nt ops s o = some x) : Evt fun m => evOne P esc (ρ m).ca q nt ops s o = some x := by
  unfold evOne at h
  split at h
  · rename_i hw
    split at h
    · rename_i v s1 h1
      refine (evOp_lim L h1).one fun m hm => ?_
      simp only [evOne, hw, hm]; exact h
    · cases h
  · rename_i hw
    refine .of fun m => ?_
    simp only [evOne, hw]; exact h
  · cases h

theorem evOps_lim (L : Lim ρ r) {q : Bool} {nt : Nat} {ops : Array Oper} : ∀ (l : List Oper) {s : St} {x : St}, evOps P esc r.ca q nt ops l s = some x → Evt fun m => evOps P esc (ρ m).ca q nt ops l s = some x := by
  intro l
  induction l with
  | nil => intro s x h; exact .of fun m => h
  | cons o rest ih =>
    intro s x h
    simp only [evOps] at h
    split at h
    · rename_i s1 h1
      refine (evOne_lim L h1).two (ih h) fun m a b => ?_
      simp only [evOps, a]; exact b
    · cases h

theorem evPre_lim (L : Lim ρ r) {nt : Nat} {ops : Array Oper} {ds : List Nat} : ∀ (l : List Oper) {s : St} {x : St}, evPre P esc r.ca nt ops ds l s = some x → Evt fun m => evPre P esc (ρ m).ca nt ops ds l s = some x := by
  intro l
  induction l with
  | nil => intro s x h; exact .of fun m => h
  | cons o rest ih =>
    intro s x h
    simp only [evPre] at h
    split at h
    · rename_i ha
      split at h
      · rename_i d hd
        split at h
        · cases h
        · rename_i he
          split at h
          · rename_i s1 h1
            refine (ih h).one fun m b => ?_
            have he' : esc d = false := by simpa using he
            simp only [evPre, ha, hd, he', h1, if_true, Bool.false_eq_true, if_false]; exact b
          · cases h
      · cases h
    · rename_i ha
      have ha' : isAlloc o = false := by simpa using ha
      split at h
      · rename_i hw
        split at h
        · rename_i v s1 h1
          split at h
          · rename_i hn
            split at h
            · rename_i s2 h2
              refine (evOp_lim L h1).two (ih h) fun m a b => ?_
              simp only [evPre, ha', hw, a, hn, h2, if_true, Bool.false_eq_true, if_false]; exact b
            · cases h
          · cases h
        · cases h
      · rename_i hw
        split at h
        · rename_i s2 h2
          refine (ih h).one fun m b => ?_
          simp only [evPre, ha', hw, h2, Bool.false_eq_true, if_false]; exact b
        · cases h
      · cases h

theorem evDraw_lim (L : Lim ρ r) {isPure : FuncId → Bool} {nt : Nat} {ops : Array Oper} {s : St} {x : St} (h : evDraw P esc isPure r.ca nt ops s = some x) : Evt fun m => evDraw P esc isPure (ρ m).ca nt ops s = some x := by
  simp only [evDraw] at h
  split at h
  · rename_i ho
    split at h
    · rename_i s1 h1
      split at h
      · rename_i lo h2
        refine (evPre_lim L _ h1).two (evOps_lim L _ h) fun m a b => ?_
        simp only [evDraw, ho, if_true, a, h2]; exact b
      · cases h
    · cases h
  · cases h

theorem evCode_lim (L : Lim ρ r) (fn : FuncId) (nt : Nat) (c : Code) (s : St) (x : Ex × St) (h : evCode C r fn nt c s = some x) : Evt fun m => evCode C (ρ m) fn nt c s = some x := by
  cases c with
  | region id ops draw =>
    simp only [evCode] at h
    split at h
    · rename_i s1 h1
      have : Evt fun m => (if draw = true then evDraw C.P (C.esc fn) C.isPure (ρ m).ca nt ops s else evOps C.P (C.esc fn) (ρ m).ca false nt ops ops.toList s) = some s1 := by
        split at h1
        · rename_i hd; simp only [hd, if_true]; exact evDraw_lim L h1
        · rename_i hd
          have : draw = false := by simpa using hd
          subst this
          exact evOps_lim L _ h1
      refine this.one fun m hm => ?_
      simp only [evCode, hm]; exact h
    · cases h
  | seq a b =>
    simp only [evCode] at h
    split at h
    · rename_i s1 h1
      refine (L.ev _ _ _ _ _ h1).two (L.ev _ _ _ _ _ h) fun m p q => ?_
      simp only [evCode, p]; exact q
    · rename_i x1 s1 hne h1
      refine (L.ev _ _ _ _ _ h1).one fun m p => ?_
      simp only [evCode, p]
      cases x1 with
      | normal => exact absurd rfl hne
      | _ => exact h
    · cases h
  | cond c y z =>
    simp only [evCode] at h
    split at h
    · rename_i hb
      refine (L.ev _ _ _ _ _ h).one fun m p => ?_
      simp only [evCode, hb]; exact p
    · rename_i hb
      refine (L.ev _ _ _ _ _ h).one fun m p => ?_
      simp only [evCode, hb]; exact p
    · cases h
  | block id b =>
    simp only [evCode] at h
    split at h
    · rename_i id' s1 h1
      refine (L.ev _ _ _ _ _ h1).one fun m p => ?_
      simp only [evCode, p]; exact h
    · rename_i x1 s1 hne h1
      refine (L.ev _ _ _ _ _ h1).one fun m p => ?_
      simp only [evCode, p]
      cases x1 with
      | exit i => exact absurd rfl (hne i)
      | _ => exact h
    · cases h
  | loop b =>
    simp only [evCode] at h
    split at h
    · rename_i s1 h1
      refine (L.ev _ _ _ _ _ h1).two (L.ev _ _ _ _ _ h) fun m p q => ?_
      simp only [evCode, p]; exact q
    · rename_i x1 s1 hne h1
      refine (L.ev _ _ _ _ _ h1).one fun m p => ?_
      simp only [evCode, p]
      cases x1 with
      | normal => exact absurd rfl hne
      | _ => exact h
    · cases h
  | _ => exact .of fun m => h

theorem evBody_lim (L : Lim ρ r) {f : FuncId} {args : List AV} {H : Hp} {x : AV × Hp} (h : evBody C r f args H = some x) : Evt fun m => evBody C (ρ m) f args H = some x := by
  unfold evBody at h
  split at h
  · rename_i fn hfn
    split at h
    · rename_i c hb
      generalize hr : r.ev f fn.ntmps c ⟨argE args, fun _ => none, H⟩ = res at h
      cases res with
      | none => cases h
      | some p =>
        refine (L.ev _ _ _ _ _ hr).one fun m hm => ?_
        simp only [evBody, hfn, hb, hm]; exact h
    · cases h
  · cases h

theorem evCa_lim (L : Lim ρ r) (q : Bool) (f : FuncId) (args : List AV) (H : Hp) (x : AV × Hp) (h : evCa C r q f args H = some x) : Evt fun m => evCa C (ρ m) q f args H = some x := by
  unfold evCa at h
  split at h
  · rename_i hp
    split at h
    · rename_i args' H1 h1
      split at h
      · rename_i g hg
        refine .of fun m => ?_
        simp only [evCa, hp, h1, hg, if_true]; exact h
      · rename_i hg
        split at h
        · rename_i v Hc h2
          refine (evBody_lim L h2).one fun m hm => ?_
          simp only [evCa, hp, h1, hg, hm, if_true]; exact h
        · cases h
    · cases h
  · rename_i hp
    have hp' : C.isPure f = false := by simpa using hp
    split at h
    · cases h
    · rename_i hq
      have hq' : q = false := by simpa using hq
      subst hq'
      split at h
      · rename_i hn
        split at h
        · rename_i g hg
          refine .of fun m => ?_
          simp only [evCa, hp', hn, hg, if_true, Bool.false_eq_true, if_false]; exact h
        · rename_i hg
          refine (evBody_lim L h).one fun m hm => ?_
          simp only [evCa, hp', hn, hg, if_true, Bool.false_eq_true, if_false]; exact hm
      · cases h

theorem lvl_up : ∀ n, Lim (fun _ => lvl C (n + 1)) (lvl C n) := by
  intro n
  induction n with
  | zero => exact ⟨fun _ _ _ _ _ h => (by cases h), fun _ _ _ _ _ h => (by cases h)⟩
  | succ n ih => exact ⟨fun fn nt c s x h => evCode_lim ih fn nt c s x h, fun q f args H x h => evCa_lim ih q f args H x h⟩

theorem lvl_mono {n m : Nat} (hm : n ≤ m) : (∀ fn nt c s x, (lvl C n).ev fn nt c s = some x → (lvl C m).ev fn nt c s = some x) ∧ (∀ q f args H x, (lvl C n).ca q f args H = some x → (lvl C m).ca q f args H = some x) := by
  induction hm with
  | refl => exact ⟨fun _ _ _ _ _ h => h, fun _ _ _ _ _ h => h⟩
  | step hm ih =>
    rename_i m
    exact ⟨fun fn nt c s x h => let ⟨k, hk⟩ := (lvl_up (C := C) m).ev _ _ _ _ _ (ih.1 _ _ _ _ _ h); hk k (Nat.le_refl _),
      fun q f args H x h => let ⟨k, hk⟩ := (lvl_up (C := C) m).ca _ _ _ _ _ (ih.2 _ _ _ _ _ h); hk k (Nat.le_refl _)⟩
end

open Classical in
noncomputable def limO {α : Type} (f : Nat → Option α) : Option α := if h : ∃ x, ∃ n, f n = some x then some h.choose else none
theorem limO_some {α : Type} {f : Nat → Option α} {x : α} (h : limO f = some x) : ∃ n, f n = some x := by
  unfold limO at h
  split at h
  · rename_i hx; cases h; exact hx.choose_spec
  · cases h
theorem limO_of {α : Type} {f : Nat → Option α} (mono : ∀ n m x, n ≤ m → f n = some x → f m = some x) {x : α} {n : Nat} (h : f n = some x) : limO f = some x := by
  unfold limO
  have hx : ∃ x, ∃ n, f n = some x := ⟨x, n, h⟩
  rw [dif_pos hx]
  obtain ⟨m, hm⟩ := hx.choose_spec
  have h1 := mono n (max n m) _ (Nat.le_max_left _ _) h
  have h2 := mono m (max n m) _ (Nat.le_max_right _ _) hm
  exact h2.symm.trans h1

/-- The limit. -/
noncomputable def top (C : Cfg) : Lvl := ⟨fun fn nt c s => limO fun n => (lvl C n).ev fn nt c s, fun q f args H => limO fun n => (lvl C n).ca q f args H⟩

section
variable {C : Cfg}
theorem top_lim : Lim (lvl C) (top C) :=
  ⟨fun fn nt c s x h => let ⟨n, hn⟩ := limO_some h; ⟨n, fun m hm => (lvl_mono hm).1 _ _ _ _ _ hn⟩, fun q f args H x h => let ⟨n, hn⟩ := limO_some h; ⟨n, fun m hm => (lvl_mono hm).2 _ _ _ _ _ hn⟩⟩
theorem top_ev_of {n : Nat} {fn : FuncId} {nt : Nat} {c : Code} {s : St} {x : Ex × St} (h : (lvl C n).ev fn nt c s = some x) : (top C).ev fn nt c s = some x :=
  limO_of (fun n m x hm h => (lvl_mono hm).1 _ _ _ _ _ h) h
theorem top_ca_of {n : Nat} {q : Bool} {f : FuncId} {args : List AV} {H : Hp} {x : AV × Hp} (h : (lvl C n).ca q f args H = some x) : (top C).ca q f args H = some x :=
  limO_of (fun n m x hm h => (lvl_mono hm).2 _ _ _ _ _ h) h
theorem top_ev {fn : FuncId} {nt : Nat} {c : Code} {s : St} {x : Ex × St} (h : evCode C (top C) fn nt c s = some x) : (top C).ev fn nt c s = some x :=
  let ⟨n, hn⟩ := evCode_lim top_lim _ _ _ _ _ h
  top_ev_of (n := n + 1) (hn n (Nat.le_refl _))
theorem top_ca {q : Bool} {f : FuncId} {args : List AV} {H : Hp} {x : AV × Hp} (h : evCa C (top C) q f args H = some x) : (top C).ca q f args H = some x :=
  let ⟨n, hn⟩ := evCa_lim top_lim _ _ _ _ _ h
  top_ca_of (n := n + 1) (hn n (Nat.le_refl _))

/-- What the limit answers, the machine comes to. -/
theorem top_ok (ok : Ok C) : CaOk C.P C.base (top C).ca := by
  intro q k args H r H' h
  obtain ⟨n, hn⟩ := limO_some h
  exact (lvl_ok ok n).2 q k args H r H' hn

/-! ### Rules -/
/-- Code that comes to an end where Q holds. -/
def Wp (C : Cfg) (fn : FuncId) (nt : Nat) (c : Code) (s : St) (Q : Ex → St → Prop) : Prop := ∃ x s', (top C).ev fn nt c s = some (x, s') ∧ Q x s'

variable {fn : FuncId} {nt : Nat} {s : St} {Q : Ex → St → Prop}
theorem Wp.mono {c : Code} {Q' : Ex → St → Prop} (h : Wp C fn nt c s Q) (k : ∀ x s', Q x s' → Q' x s') : Wp C fn nt c s Q' := let ⟨x, s', h1, h2⟩ := h; ⟨x, s', h1, k _ _ h2⟩
theorem Wp.skip (h : Q .normal s) : Wp C fn nt .skip s Q := ⟨_, _, top_ev (by simp only [evCode]), h⟩
theorem Wp.ret (h : Q .ret s) : Wp C fn nt .ret s Q := ⟨_, _, top_ev (by simp only [evCode]), h⟩
theorem Wp.exit {id : Nat} (h : Q (.exit id) s) : Wp C fn nt (.exit id) s Q := ⟨_, _, top_ev (by simp only [evCode]), h⟩
def thenQ (k : St → Prop) (Q : Ex → St → Prop) : Ex → St → Prop
  | .normal, s => k s
  | x, s => Q x s
theorem Wp.seq {a b : Code} (h : Wp C fn nt a s (thenQ (fun s1 => Wp C fn nt b s1 Q) Q)) : Wp C fn nt (.seq a b) s Q := by
  obtain ⟨x, s1, h1, h2⟩ := h
  cases x with
  | normal =>
    obtain ⟨y, s2, h3, h4⟩ := h2
    exact ⟨y, s2, top_ev (by simp only [evCode, h1]; exact h3), h4⟩
  | exit i => exact ⟨_, s1, top_ev (by simp only [evCode, h1]), h2⟩
  | ret => exact ⟨_, s1, top_ev (by simp only [evCode, h1]), h2⟩
theorem Wp.cond {c : Operand} {x y : Code} {b : Bool} (hc : opnd s.e c = .bool b) (h : Wp C fn nt (if b then x else y) s Q) : Wp C fn nt (.cond c x y) s Q := by
  obtain ⟨x1, s1, h1, h2⟩ := h
  refine ⟨x1, s1, top_ev ?_, h2⟩
  cases b with
  | true => simp only [evCode, hc]; exact h1
  | false => simp only [evCode, hc]; exact h1
def blockQ (id : Nat) (Q : Ex → St → Prop) : Ex → St → Prop
  | .exit id', s => if id' = id then Q .normal s else Q (.exit id') s
  | x, s => Q x s
theorem Wp.block {id : Nat} {b : Code} (h : Wp C fn nt b s (blockQ id Q)) : Wp C fn nt (.block id b) s Q := by
  obtain ⟨x, s1, h1, h2⟩ := h
  cases x with
  | normal => exact ⟨_, s1, top_ev (by simp only [evCode, h1]), h2⟩
  | ret => exact ⟨_, s1, top_ev (by simp only [evCode, h1]), h2⟩
  | exit i =>
    simp only [blockQ] at h2
    split at h2
    · rename_i e; exact ⟨_, s1, top_ev (by simp only [evCode, h1]; rw [if_pos e]), h2⟩
    · rename_i e; exact ⟨_, s1, top_ev (by simp only [evCode, h1]; rw [if_neg e]), h2⟩
theorem Wp.loop {b : Code} (h : Wp C fn nt b s (thenQ (fun s1 => Wp C fn nt (.loop b) s1 Q) Q)) : Wp C fn nt (.loop b) s Q := by
  obtain ⟨x, s1, h1, h2⟩ := h
  cases x with
  | normal =>
    obtain ⟨y, s2, h3, h4⟩ := h2
    exact ⟨y, s2, top_ev (by simp only [evCode, h1]; exact h3), h4⟩
  | exit i => exact ⟨_, s1, top_ev (by simp only [evCode, h1]), h2⟩
  | ret => exact ⟨_, s1, top_ev (by simp only [evCode, h1]), h2⟩
/-- A loop with a measure. -/
theorem Wp.loopI {b : Code} (I : Nat → St → Prop) (round : ∀ n s, I n s → Wp C fn nt b s (thenQ (fun s1 => ∃ m, m < n ∧ I m s1) Q)) {n : Nat} (h : I n s) : Wp C fn nt (.loop b) s Q := by
  induction n using Nat.strongRecOn generalizing s with
  | _ n ih =>
    refine Wp.loop ((round n s h).mono fun x s' hx => ?_)
    cases x with
    | normal => obtain ⟨m, hm, hI⟩ := hx; exact ih m hm hI
    | exit i => exact hx
    | ret => exact hx
theorem Wp.region {id : Nat} {ops : Array Oper} {s1 : St} (h : evOps C.P (C.esc fn) (top C).ca false nt ops ops.toList s = some s1) (k : Q .normal s1) : Wp C fn nt (.region id ops false) s Q :=
  ⟨_, s1, top_ev (by simp only [evCode, Bool.false_eq_true, if_false, h]), k⟩
theorem Wp.draw {id : Nat} {ops : Array Oper} {s1 : St} (h : evDraw C.P (C.esc fn) C.isPure (top C).ca nt ops s = some s1) (k : Q .normal s1) : Wp C fn nt (.region id ops true) s Q :=
  ⟨_, s1, top_ev (by simp only [evCode, if_true, h]), k⟩

/-- A call of a body. -/
theorem body_of {f : FuncId} {args : List AV} {H H' : Hp} {v : AV} {F : Func} {c : Code} (hf : C.P.funcs[f]? = some F) (hb : F.body = some c)
    (h : Wp C f F.ntmps c ⟨argE args, fun _ => none, H⟩ fun x s => (x = .normal ∨ x = .ret) ∧ s.h = H' ∧ ∃ vs, resA C.P s F.results.toList = some vs ∧ oneOf vs = v) : evBody C (top C) f args H = some (v, H') := by
  obtain ⟨x, s, h1, h2, h3, vs, h4, h5⟩ := h
  unfold evBody
  simp only [hf, hb, h1]
  rcases h2 with rfl | rfl <;> simp only [h4, h5, h3]
end
end Go.Am
