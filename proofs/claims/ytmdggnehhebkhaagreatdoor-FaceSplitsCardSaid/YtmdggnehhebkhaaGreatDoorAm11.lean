/- Regions that draw their order, closed. -/
import Derived.Test.YtmdggnehhebkhaaGreatDoorAm10
set_option linter.unusedVariables false
namespace Go.Am
open Go

section
variable {P : Program} {g0 : Gh} {H0 : Hp} {w0 : World} {nt : Nat} {g : Gh} {lam : Nat → Option Nat} {w : World} {s : St} {a : Act} {esc : Nat → Bool} {ca : CA} {m0 : Mem} {ops : Array Oper} {f : Nat} {ds : List Nat} {tr : Nat → St} {lo : Lo}

theorem want_ok2 {o : Oper} {b : Bool} {H : Hp} {e : En} (h : wantA ops e o = some b) (he : ∀ t, t ∈ guardTmp ops.toList o → RelT g H lam (e t) (a.tmps.getD t undef)) : Region.wanted o (yielded ops a.tmps) = b := by
  refine want_ok (g := g) (H := H) (lam := lam) (e := fun t => if t ∈ guardTmp ops.toList o then e t else .undef) ?_ fun t => ?_
  · rw [← h]
    unfold wantA
    cases hg : o.guard with
    | none => rfl
    | some jw =>
      obtain ⟨j, want⟩ := jw
      simp only []
      cases ht : (ops[j]?).bind (·.dst) with
      | none => rfl
      | some t =>
        have : t ∈ guardTmp ops.toList o := by simp [guardTmp, hg, ht]
        simp only [if_pos this]
  · by_cases hm : t ∈ guardTmp ops.toList o
    · simp only [if_pos hm]; exact he t hm
    · simp only [if_neg hm]; exact RelT.undef _ _ _ _

/-- The first operations of a region, gone through in the order of the text. -/
structure Pre (P : Program) (esc : Nat → Bool) (ca : CA) (nt : Nat) (ops : Array Oper) (f : Nat) (ds : List Nat) (tr : Nat → St) (lo : Lo) : Prop where
  order : Order ops.toList f
  slots : ∀ (i : Nat) (o : Oper) (d : Nat), i < f → ops.toList[i]? = some o → isAlloc o = true → o.dst = some d → d ∈ ds
  steps : ∀ (i : Nat) (o : Oper), i < f → ops.toList[i]? = some o → PreStep P esc ca nt ops ds o (tr i) (tr (i + 1))
  l0 : ∀ d, d ∈ ds → (tr 0).l d = none
  e0 : ∀ t d off, (tr 0).e t = .loc d off → d ∉ ds
  lo1 : ∀ d, d ∉ ds → lo d = (tr 0).l d
  lo2 : ∀ (i : Nat) (o : Oper) (d : Nat), i < f → ops.toList[i]? = some o → isAlloc o = true → o.dst = some d → ∃ t z, o.op = .alloc t ∧ zeroT P t = some z ∧ lo d = some z
  lo3 : ∀ d, (∀ (i : Nat) (o : Oper), i < f → ops.toList[i]? = some o → isAlloc o = true → o.dst = some d → False) → lo d = (tr 0).l d

def dstAt (ops : Array Oper) (i : Nat) : Option Nat := (ops.toList[i]?).bind (·.dst)
def allocAt (ops : Array Oper) (i : Nat) : Bool := match ops.toList[i]? with
  | some o => isAlloc o
  | none => false

theorem dst_some {i : Nat} {d : Nat} (h : dstAt ops i = some d) : ∃ o, ops.toList[i]? = some o ∧ o.dst = some d := by
  unfold dstAt at h
  cases ho : ops.toList[i]? with
  | none => rw [ho] at h; cases h
  | some o => rw [ho] at h; exact ⟨o, rfl, h⟩

theorem Pre.step_env (hca : CaOk P m0 ca) (p : Pre P esc ca nt ops f ds tr lo) {i : Nat} (hi : i < f) : (tr (i + 1)).l = (tr i).l ∧ (tr (i + 1)).h = (tr i).h ∧
    (∀ t, dstAt ops i ≠ some t → (tr (i + 1)).e t = (tr i).e t) := by
  have hlen : i < ops.toList.length := Nat.lt_of_lt_of_le hi p.order.le
  have ho : ops.toList[i]? = some ops.toList[i] := List.getElem?_eq_getElem hlen
  generalize ops.toList[i] = o at ho
  have key : ∀ s1 v, s1 = tr i → putA nt s1 o.dst v = some (tr (i + 1)) → _ := fun s1 v hs hp => by
    obtain ⟨h1, h2, h3⟩ := putA_ok hp
    subst hs
    exact (show (tr (i + 1)).l = (tr i).l ∧ (tr (i + 1)).h = (tr i).h ∧ (∀ t, dstAt ops i ≠ some t → (tr (i + 1)).e t = (tr i).e t) from ⟨h1, h2, fun t ht => by
      rcases h3 with ⟨_, e⟩ | ⟨d, hd, _, e⟩
      · rw [e]
      · rw [e]
        simp only [En.upd]
        rw [if_neg (fun e => ht (by simp [dstAt, ho, hd, e]))]⟩)
  rcases p.steps i o hi ho with ⟨_, d, hd, _, hp⟩ | ⟨_, ⟨_, v, s1, hev, _, hp⟩ | ⟨_, hp⟩⟩
  · rw [← hd] at hp; exact key _ _ rfl hp
  · exact key _ _ (evOp_q hca hev) hp
  · exact key _ _ rfl hp

theorem Pre.const (hca : CaOk P m0 ca) (p : Pre P esc ca nt ops f ds tr lo) : ∀ i, i ≤ f → (tr i).l = (tr 0).l ∧ (tr i).h = (tr 0).h := by
  intro i
  induction i with
  | zero => intro _; exact ⟨rfl, rfl⟩
  | succ i ih =>
    intro hi
    obtain ⟨a, b, _⟩ := p.step_env hca (i := i) (by omega)
    obtain ⟨c, d⟩ := ih (by omega)
    exact ⟨a.trans c, b.trans d⟩

theorem Pre.old (hca : CaOk P m0 ca) (p : Pre P esc ca nt ops f ds tr lo) {t : Nat} : ∀ k i, i ≤ k → k ≤ f → (∀ j, i ≤ j → j < k → dstAt ops j ≠ some t) → (tr k).e t = (tr i).e t := by
  intro k
  induction k with
  | zero => intro i hi _ _; obtain rfl : i = 0 := by omega
            rfl
  | succ k ih =>
    intro i hi hk h
    rcases Nat.lt_or_ge i (k + 1) with hlt | hge
    · rw [(p.step_env hca (i := k) (by omega)).2.2 t (h k (by omega) (by omega))]
      exact ih i (by omega) (by omega) fun j h1 h2 => h j h1 (by omega)
    · obtain rfl : i = k + 1 := by omega
      rfl

theorem Pre.uniq (p : Pre P esc ca nt ops f ds tr lo) {i j t : Nat} (hi : i < f) (hj : j < f) (h1 : dstAt ops i = some t) (h2 : dstAt ops j = some t) : i = j := by
  obtain ⟨o, ho, hd⟩ := dst_some h1
  obtain ⟨q, hq, he⟩ := dst_some h2
  rcases Nat.decEq i j with hne | he'
  · exact absurd hd (p.order.one i j o q t hi hj ho hq he hne)
  · exact he'

/-- The temporaries when just these operations are done. -/
noncomputable def eT (ops : Array Oper) (f : Nat) (tr : Nat → St) (T : Nat → Bool) : En := fun t =>
  open Classical in if ∃ i, i < f ∧ T i = true ∧ dstAt ops i = some t then (tr f).e t else (tr 0).e t
noncomputable def lT (ops : Array Oper) (f : Nat) (tr : Nat → St) (lo : Lo) (T : Nat → Bool) : Lo := fun d =>
  open Classical in if ∃ i, i < f ∧ T i = true ∧ allocAt ops i = true ∧ dstAt ops i = some d then lo d else (tr 0).l d
noncomputable def sT (ops : Array Oper) (f : Nat) (tr : Nat → St) (lo : Lo) (T : Nat → Bool) : St := ⟨eT ops f tr T, lT ops f tr lo T, (tr 0).h⟩

/-- What an operation looks at stands as it will when it is reached in the text. -/
theorem Pre.looks (hca : CaOk P m0 ca) (p : Pre P esc ca nt ops f ds tr lo) {T : Nat → Bool} {i : Nat} {o : Oper} (hi : i < f) (ho : ops.toList[i]? = some o) (hT : ∀ j, j ∈ (reach ops.toList).getD i [] → T j = true)
    {t : Nat} (ht : t ∈ tmpsOf o ++ guardTmp ops.toList o) : (tr i).e t = eT ops f tr T t := by
  unfold eT
  by_cases h : ∃ j, j < f ∧ dstAt ops j = some t
  · obtain ⟨j, hj, hd⟩ := h
    obtain ⟨q, hq, hqd⟩ := dst_some hd
    obtain ⟨h1, h2⟩ := p.order.looks i j o q t hi hj ho hq hqd ht
    rw [if_pos ⟨j, hj, hT j h2, hd⟩, p.old hca f (j + 1) (by omega) (Nat.le_refl _) fun k hk1 hk2 hk3 => by have := p.uniq hk2 hj hk3 hd; omega]
    exact p.old hca i (j + 1) (by omega) (by omega) fun k hk1 hk2 hk3 => by have := p.uniq (by omega) hj hk3 hd; omega
  · rw [if_neg (fun ⟨j, hj, _, hd⟩ => h ⟨j, hj, hd⟩)]
    exact p.old hca i 0 (by omega) (by omega) fun k _ hk2 hk3 => h ⟨k, by omega, hk3⟩

theorem Pre.eT_loc (hca : CaOk P m0 ca) (p : Pre P esc ca nt ops f ds tr lo) {T : Nat → Bool} {t d off : Nat} (h : eT ops f tr T t = .loc d off) (hd : d ∈ ds) : ∃ i, i < f ∧ T i = true ∧ dstAt ops i = some t ∧ d = t := by
  unfold eT at h
  split at h
  · rename_i hx
    obtain ⟨i, hi, hT, hdst⟩ := hx
    obtain ⟨o, ho, hod⟩ := dst_some hdst
    have e1 := p.old hca (t := t) f (i + 1) (by omega) (Nat.le_refl _) fun k hk1 hk2 hk3 => by have := p.uniq hk2 hi hk3 hdst; omega
    rw [e1] at h
    refine ⟨i, hi, hT, hdst, ?_⟩
    rcases p.steps i o hi ho with ⟨_, d', hd', _, hp⟩ | ⟨_, ⟨_, v, s1, hev, hns, hp⟩ | ⟨_, hp⟩⟩
    · rw [hod] at hd'; cases hd'
      obtain ⟨_, _, ⟨h3, _⟩ | ⟨t', h3, _, h4⟩⟩ := putA_ok hp
      · cases h3
      · cases h3; rw [h4] at h; simp only [En.upd, if_true] at h; cases h; rfl
    · rw [hod] at hp
      obtain ⟨_, _, ⟨h3, _⟩ | ⟨t', h3, _, h4⟩⟩ := putA_ok hp
      · cases h3
      · cases h3; rw [h4] at h; simp only [En.upd, if_true] at h; subst h
        simp [noSlot, hd] at hns
    · rw [hod] at hp
      obtain ⟨_, _, ⟨h3, _⟩ | ⟨t', h3, _, h4⟩⟩ := putA_ok hp
      · cases h3
      · cases h3; rw [h4] at h; simp only [En.upd, if_true] at h; cases h
  · exact absurd hd (p.e0 t d off h)

def add1 (T : Nat → Bool) (i : Nat) : Nat → Bool := fun j => if j = i then true else T j

theorem eT_add (hca : CaOk P m0 ca) (p : Pre P esc ca nt ops f ds tr lo) {T : Nat → Bool} {i : Nat} (hi : i < f) : eT ops f tr (add1 T i) = match dstAt ops i with
    | some d => (eT ops f tr T).upd d ((tr (i + 1)).e d)
    | none => eT ops f tr T := by
  cases hd : dstAt ops i with
  | none =>
    funext t
    simp only [eT]
    by_cases h : ∃ j, j < f ∧ T j = true ∧ dstAt ops j = some t
    · obtain ⟨j, h1, h2, h3⟩ := h
      rw [if_pos ⟨j, h1, by simp [add1, h2], h3⟩, if_pos ⟨j, h1, h2, h3⟩]
    · rw [if_neg h, if_neg]
      rintro ⟨j, h1, h2, h3⟩
      simp only [add1] at h2
      split at h2
      · rename_i e; rw [e, hd] at h3; cases h3
      · exact h ⟨j, h1, h2, h3⟩
  | some d =>
    funext t
    simp only [eT, En.upd]
    by_cases ht : t = d
    · subst ht
      rw [if_pos rfl, if_pos ⟨i, hi, by simp [add1], hd⟩]
      exact p.old hca f (i + 1) (by omega) (Nat.le_refl _) fun k hk1 hk2 hk3 => by have := p.uniq hk2 hi hk3 hd; omega
    · rw [if_neg ht]
      by_cases h : ∃ j, j < f ∧ T j = true ∧ dstAt ops j = some t
      · obtain ⟨j, h1, h2, h3⟩ := h
        rw [if_pos ⟨j, h1, by simp [add1, h2], h3⟩, if_pos ⟨j, h1, h2, h3⟩]
      · rw [if_neg h, if_neg]
        rintro ⟨j, h1, h2, h3⟩
        simp only [add1] at h2
        split at h2
        · rename_i e; rw [e, hd] at h3; cases h3; exact ht rfl
        · exact h ⟨j, h1, h2, h3⟩

theorem lT_add (p : Pre P esc ca nt ops f ds tr lo) {T : Nat → Bool} {i : Nat} (hi : i < f) : lT ops f tr lo (add1 T i) = if allocAt ops i = true then (match dstAt ops i with
    | some d => fun d' => if d' = d then lo d else lT ops f tr lo T d'
    | none => lT ops f tr lo T) else lT ops f tr lo T := by
  have plain : (∀ d, ¬ (allocAt ops i = true ∧ dstAt ops i = some d)) → lT ops f tr lo (add1 T i) = lT ops f tr lo T := fun hn => by
    funext d'
    simp only [lT]
    by_cases h : ∃ j, j < f ∧ T j = true ∧ allocAt ops j = true ∧ dstAt ops j = some d'
    · obtain ⟨j, h1, h2, h3⟩ := h
      rw [if_pos ⟨j, h1, by simp [add1, h2], h3⟩, if_pos ⟨j, h1, h2, h3⟩]
    · rw [if_neg h, if_neg]
      rintro ⟨j, h1, h2, h3⟩
      simp only [add1] at h2
      split at h2
      · rename_i e; rw [e] at h3; exact hn _ h3
      · exact h ⟨j, h1, h2, h3⟩
  by_cases ha : allocAt ops i = true
  · rw [if_pos ha]
    cases hd : dstAt ops i with
    | none => exact plain fun d h => by rw [hd] at h; cases h.2
    | some d =>
      funext d'
      simp only [lT]
      by_cases hdd : d' = d
      · subst hdd
        rw [if_pos ⟨i, hi, by simp [add1], ha, hd⟩, if_pos rfl]
      · rw [if_neg hdd]
        by_cases h : ∃ j, j < f ∧ T j = true ∧ allocAt ops j = true ∧ dstAt ops j = some d'
        · obtain ⟨j, h1, h2, h3⟩ := h
          rw [if_pos ⟨j, h1, by simp [add1, h2], h3⟩, if_pos ⟨j, h1, h2, h3⟩]
        · rw [if_neg h, if_neg]
          rintro ⟨j, h1, h2, h3⟩
          simp only [add1] at h2
          split at h2
          · rename_i e; rw [e, hd] at h3; exact hdd (by cases h3.2; rfl)
          · exact h ⟨j, h1, h2, h3⟩
  · rw [if_neg ha]
    exact plain fun d h => ha h.1

/-- One of the first operations, whichever comes next. -/
theorem Pre.one (hca : CaOk P m0 ca) (hnum : NoNum P) (hm0 : Sub m0 g0.m) (p : Pre P esc ca nt ops f ds tr lo) {T : Nat → Bool} {i : Nat} {o : Oper} (hi : i < f) (ho : ops.toList[i]? = some o) (hni : T i = false)
    (hT : ∀ j, j ∈ (reach ops.toList).getD i [] → T j = true) (fs : FS g0 H0 w0 nt g lam (sT ops f tr lo T) a w) {next : Act → World → Prop} {Q : Exit → Act → World → Prop}
    (k : ∀ a' g' lam' w', FS g0 H0 w0 nt g' lam' (sT ops f tr lo (add1 T i)) a' w' → next a' w') :
    if Region.wanted o (yielded ops a.tmps) = true then o.wp P a w next Q else next (a.put o.dst undef) w := by
  have hlook := fun t ht => p.looks hca hi ho hT (t := t) ht
  have hdst : dstAt ops i = o.dst := by simp [dstAt, ho]
  have hal : allocAt ops i = isAlloc o := by simp [allocAt, ho]
  have hfs := fs
  obtain ⟨hl, hh⟩ := p.const hca i (by omega)
  -- the frame behind an operation that is no new variable
  have close : ∀ (v : AV) (u : Value) (g' : Gh) (w' : World), isAlloc o = false → putA nt (tr i) o.dst v = some (tr (i + 1)) → RH g' (tr 0).h w' → Step g (tr 0).h w g' (tr 0).h w' → RelT g' (tr 0).h lam v u → next (a.put o.dst u) w' := by
    intro v u g' w' hna hp rh' st hr
    have hlT : lT ops f tr lo (add1 T i) = lT ops f tr lo T := by rw [lT_add p hi, if_neg (by rw [hal, hna]; simp)]
    have fr' : FR g0 H0 w0 g' lam (sT ops f tr lo T) w' := fs.fr.next rh' st
    obtain ⟨_, _, ⟨h3, h4⟩ | ⟨d, h3, h4, h5⟩⟩ := putA_ok hp
    · have he : eT ops f tr (add1 T i) = eT ops f tr T := by rw [eT_add hca p hi, hdst, h3]
      refine k _ g' lam w' ⟨?_, ?_, ?_, ?_⟩
      · show FR g0 H0 w0 g' lam ⟨_, lT ops f tr lo (add1 T i), _⟩ w'
        rw [hlT]; exact fr'.env _
      · rw [h3]
        show EnvR g' _ lam (eT ops f tr (add1 T i)) _
        rw [he]; exact env_mono st.ext fs.env
      · rw [h3]; exact fs.sz
      · rw [h3]; exact fs.df
    · have he : eT ops f tr (add1 T i) = (eT ops f tr T).upd d v := by
        rw [eT_add hca p hi, hdst, h3, h5]; simp [En.upd]
      refine k _ g' lam w' ⟨?_, ?_, ?_, ?_⟩
      · show FR g0 H0 w0 g' lam ⟨_, lT ops f tr lo (add1 T i), _⟩ w'
        rw [hlT]; exact fr'.env _
      · rw [h3]
        show EnvR g' _ lam (eT ops f tr (add1 T i)) _
        rw [he]; exact env_put (env_mono st.ext fs.env) (Nat.lt_of_lt_of_le h4 fs.sz) hr
      · rw [h3]; simp only [Act.put, Array.size_setIfInBounds]; exact fs.sz
      · rw [h3]; exact fs.df
  rcases p.steps i o hi ho with ⟨ha, d, hd, hesc, hp⟩ | ⟨hna, ⟨hw, v, s1, hev, hns, hp⟩ | ⟨hw, hp⟩⟩
  · -- a new variable
    obtain ⟨t, z, hop, hz, hlo⟩ := p.lo2 i o d hi ho ha hd
    obtain ⟨ti, zv, hti, hiz, rfl, hone⟩ := zeroT_info hz
    have hg : o.guard = none := by
      unfold isAlloc at ha; rw [hop] at ha; simpa using ha
    have hwn : Region.wanted o (yielded ops a.tmps) = true := by simp [Region.wanted, hg]
    rw [if_pos hwn]
    have hdt : d < nt := by
      obtain ⟨_, _, ⟨h3, _⟩ | ⟨d', h3, h4, _⟩⟩ := putA_ok hp
      · cases h3
      · cases h3; exact h4
    have hdds := p.slots i o d hi ho ha hd
    refine wp_val (u := .pointer (some ⟨w.heap.size, 0, none⟩)) (w' := w.alloc (.cells zv.cells t)) (by simp [execOp, hop, Instr.alloc, run_zeroValue_of hti hiz, newVar, newRow]) ?_
    have fr' := fs.fr.newLoc (d := d) (arr := zv.cells) (T := t) (relL_ofA _ _ _) hone
    have hlT : lT ops f tr lo (add1 T i) = (lT ops f tr lo T).upd d (zv.cells.toList.map AV.ofA) := by
      rw [lT_add p hi, hal, if_pos ha, hdst, hd]
      funext d'
      simp only [Lo.upd, hlo]
    have hv : (tr (i + 1)).e d = .loc d 0 := by
      obtain ⟨_, _, ⟨h3, _⟩ | ⟨d', h3, _, h5⟩⟩ := putA_ok hp
      · cases h3
      · cases h3; rw [h5]; simp [En.upd]
    have he : eT ops f tr (add1 T i) = (eT ops f tr T).upd d (.loc d 0) := by rw [eT_add hca p hi, hdst, hd, ← hv]
    refine k _ g (fun x => if x = d then some w.heap.size else lam x) _ ⟨?_, ?_, ?_, ?_⟩
    · show FR g0 H0 w0 g _ ⟨_, lT ops f tr lo (add1 T i), _⟩ _
      rw [hlT]; exact fr'.env _
    · rw [hd]
      show EnvR g _ _ (eT ops f tr (add1 T i)) _
      rw [he]
      refine env_put (fun t' => ?_) (Nat.lt_of_lt_of_le hdt fs.sz) (fun b hb => by
        have hb' : w.heap.size = b := by simpa using hb
        subst hb'; rfl)
      have h0 := fs.env t'
      have h1 : clrV d (eT ops f tr T t') = eT ops f tr T t' := by
        cases hx : eT ops f tr T t' with
        | loc d' off =>
          simp only [clrV]
          rw [if_neg]
          intro e
          subst e
          obtain ⟨j, hj, hTj, hjd, e2⟩ := p.eT_loc hca hx hdds
          subst e2
          have := p.uniq hj hi hjd (by rw [hdst, hd])
          subst this
          rw [hTj] at hni; cases hni
        | _ => rfl
      have h2 := clr_rel (d := d) (lam' := fun x => if x = d then some w.heap.size else lam x) (fun d' hd' => by simp [hd']) h0
      have h3 : (sT ops f tr lo T).e t' = eT ops f tr T t' := rfl
      rw [h3, h1] at h2
      exact h2
    · rw [hd]; simp only [Act.put, Array.size_setIfInBounds]; exact fs.sz
    · rw [hd]; exact fs.df
  · -- an operation that only reads
    have hwn : Region.wanted o (yielded ops a.tmps) = true := want_ok2 (g := g) (H := (tr 0).h) (lam := lam) hw fun t ht => by
      rw [hlook t (List.mem_append_right _ ht)]; exact fs.env t
    rw [if_pos hwn]
    obtain rfl := evOp_q hca hev
    have hn : isNew o = false := by
      obtain ⟨dst, op, ty, pos, after, guard⟩ := o
      cases op <;> first | rfl | simp [evOp] at hev
    let lam0 : Nat → Option Nat := fun d => if d ∈ ds then none else lam d
    have frq : FR g0 H0 w0 g lam0 (tr i) w := by
      have h := FR.forget (e' := (tr i).e) (l' := (tr i).l) fs.fr ds (fun d hd => by rw [hl]; exact p.l0 d hd) (fun d hd => by
        rw [hl]
        simp only [lT]
        rw [if_neg]
        rintro ⟨j, hj, _, hja, hjd⟩
        obtain ⟨q, hq, hqd⟩ := dst_some hjd
        have : isAlloc q = true := by simpa [allocAt, hq] using hja
        exact hd (p.slots j q d hj hq this hqd))
      have e : (⟨(tr i).e, (tr i).l, (tr 0).h⟩ : St) = tr i := by rw [← hh]
      rw [← e]; exact h
    have hopR : Ops g (tr i).h lam0 (tr i).e a o := fun x hx => by
      cases x with
      | tmp t =>
        have ht : t ∈ tmpsOf o := List.mem_filterMap.2 ⟨.tmp t, by simpa using hx, rfl⟩
        have := fs.env t
        have e := hlook t (List.mem_append_left _ ht)
        show RelT g (tr i).h lam0 ((tr i).e t) _
        rw [hh, e]
        have h0 : RelT g (tr 0).h lam (eT ops f tr T t) (a.tmps.getD t undef) := this
        cases hv : eT ops f tr T t with
        | loc d off =>
          rw [hv] at h0
          intro b hb
          simp only [lam0] at hb
          split at hb
          · cases hb
          · exact h0 b hb
        | _ => rw [hv] at h0; exact h0
      | const c => exact RelT.of (rel_ofV g _ c)
      | global n => exact RelT.undef _ _ _ _
      | func c => exact RelT.of (Rel.func _ _ _ _ _ (by simp) (by simp) (fun i v u h => by simp at h) (fun i v u h => by simp at h))
    refine evOp_ok hca hnum hm0 hn hev frq hopR fun u g' w' fr' x' st hr => ?_
    have st' := st rfl
    rw [hh] at st' hr
    refine close v u g' w' hna hp (by rw [← hh]; exact fr'.rh) st' ?_
    cases hv : v with
    | loc d off =>
      rw [hv] at hr hns
      intro b hb
      refine hr b ?_
      simp only [lam0]
      rw [if_neg (by simpa [noSlot] using hns)]
      exact hb
    | _ => rw [hv] at hr; exact hr
  · -- one that isn't wanted
    have hwn : Region.wanted o (yielded ops a.tmps) = false := want_ok2 (g := g) (H := (tr 0).h) (lam := lam) hw fun t ht => by
      rw [hlook t (List.mem_append_right _ ht)]; exact fs.env t
    rw [if_neg (by rw [hwn]; simp)]
    exact close (.tup []) undef g w hna hp fs.fr.rh (Step.refl _ _ _) (relT_skip _ _ _)

theorem wpOp_of {i : Nat} {o : Oper} {K : Act → World → Prop} {Q : Exit → Act → World → Prop} (ho : ops.toList[i]? = some o)
    (h : if Region.wanted o (yielded ops a.tmps) = true then o.wp P a w K Q else K (a.put o.dst undef) w) : wpOp P ops Q i K a w := by
  unfold wpOp
  have : ops[i]? = some o := by simpa using ho
  rw [this]
  simp only []
  split
  · rename_i hw; rw [if_pos hw] at h; exact .inl h
  · rename_i hw; rw [if_neg hw] at h; exact h

/-- What has been done so far of a region. -/
def doneB (listed : Array Bool) (i : Nat) : Bool := listed.getD i false

theorem ready_mem {listed : Array Bool} {i : Nat} (hs : listed.size = ops.size) (h : i ∈ Region.ready .any ops listed) :
    ∃ o, ops.toList[i]? = some o ∧ doneB listed i = false ∧ ∀ e, e ∈ o.after.toList.filter (Region.binds .any) → doneB listed e.on = true := by
  simp only [Region.ready, List.mem_filter, List.mem_range, Bool.and_eq_true, Bool.not_eq_true'] at h
  obtain ⟨h1, h2, h3⟩ := h
  have ho : ops.toList[i]? = some ops.toList[i] := List.getElem?_eq_getElem (by simpa using h1)
  refine ⟨_, ho, ?_, fun e he => ?_⟩
  · simp only [doneB]
    rw [Array.getD_eq_getD_getElem?] at h2 ⊢
    rw [Array.getElem?_eq_getElem (by omega)] at h2 ⊢
    exact h2
  · have ho' : ops[i]? = some ops.toList[i] := by simp
    rw [ho'] at h3
    simp only [Option.map_some, Option.getD_some, Array.all_eq_true'] at h3
    rw [List.mem_filter] at he
    have := h3 e (by simpa using he.1)
    simp only [he.2, Bool.not_true, Bool.false_or] at this
    exact this

theorem ready_some {listed : Array Bool} (hs : listed.size = ops.size) {i : Nat} (hi : i < ops.size) (hb : ∀ (i : Nat) (o : Oper), ops.toList[i]? = some o → ∀ (e : Edge), e ∈ o.after.toList.filter (Region.binds .any) → e.on < i)
    (hu : doneB listed i = false) : ∃ j, j ∈ Region.ready .any ops listed := by
  induction i using Nat.strongRecOn with
  | _ i ih =>
    by_cases h : ∃ j, j < i ∧ doneB listed j = false
    · obtain ⟨j, hj, hd⟩ := h
      exact ih j hj (by omega) hd
    · refine ⟨i, ?_⟩
      simp only [Region.ready, List.mem_filter, List.mem_range, Bool.and_eq_true, Bool.not_eq_true']
      have ho : ops.toList[i]? = some ops.toList[i] := List.getElem?_eq_getElem (by simpa using hi)
      have ho' : ops[i]? = some ops.toList[i] := by simp
      refine ⟨hi, ?_, ?_⟩
      · simp only [doneB] at hu
        rw [Array.getD_eq_getD_getElem?] at hu ⊢
        rw [Array.getElem?_eq_getElem (by omega)] at hu ⊢
        exact hu
      · rw [ho']
        simp only [Option.map_some, Option.getD_some, Array.all_eq_true']
        intro e he
        cases hbd : Region.binds .any e with
        | false => rfl
        | true =>
          simp only [Bool.not_true, Bool.false_or]
          have hlt := hb i _ ho e (List.mem_filter.2 ⟨by simpa using he, hbd⟩)
          cases hd : doneB listed e.on with
          | true => exact hd
          | false => exact absurd ⟨e.on, hlt, hd⟩ h

theorem done_set {listed : Array Bool} {i : Nat} (hi : i < listed.size) : doneB (listed.setIfInBounds i true) = add1 (doneB listed) i := by
  funext j
  simp only [doneB, add1, Array.getD_eq_getD_getElem?, Array.getElem?_setIfInBounds]
  by_cases h : i = j
  · subst h; simp [hi]
  · rw [if_neg h, if_neg (Ne.symm h)]

/-- How many are left. -/
def leftN (n : Nat) (T : Nat → Bool) : Nat := ((List.range n).filter fun i => !T i).length
theorem leftN_zero {n : Nat} {T : Nat → Bool} (h : leftN n T = 0) : ∀ i, i < n → T i = true := fun i hi => by
  have := List.eq_nil_of_length_eq_zero h
  rw [List.filter_eq_nil_iff] at this
  have := this i (List.mem_range.2 hi)
  simpa using this
theorem leftN_add : ∀ {n : Nat} {T : Nat → Bool} {i : Nat}, i < n → T i = false → leftN n (add1 T i) + 1 = leftN n T := by
  intro n
  induction n with
  | zero => intro T i h; omega
  | succ n ih =>
    intro T i hi hT
    simp only [leftN, List.range_succ, List.filter_append, List.length_append]
    by_cases h : i = n
    · subst h
      have e : ((List.range i).filter fun j => !(add1 T i) j) = (List.range i).filter fun j => !T j := List.filter_congr fun j hj => by
        rw [List.mem_range] at hj
        simp only [add1]
        rw [if_neg (by omega)]
      rw [e]
      simp [add1, hT]
    · have := ih (T := T) (i := i) (by omega) hT
      simp only [leftN] at this
      have e : ([n].filter fun j => !(add1 T i) j) = [n].filter fun j => !T j := List.filter_congr fun j hj => by
        simp only [List.mem_singleton] at hj
        subst hj
        simp only [add1]
        rw [if_neg (Ne.symm h)]
      rw [e]
      omega

/-- The operations behind the first ones come in the text's order. -/
theorem post_ok (hca : CaOk P m0 ca) (hnum : NoNum P) (hm0 : Sub m0 g0.m) (or : Order ops.toList f) {Q : Exit → Act → World → Prop} {s1 : St} (k : ∀ a' g' lam' w', FS g0 H0 w0 nt g' lam' s1 a' w' → Q .normal a' w') :
    ∀ (fuel j : Nat) (listed : Array Bool) (s : St) (g : Gh) (lam : Nat → Option Nat) (a : Act) (w : World), f ≤ j → listed.size = ops.size → (∀ i, i < ops.size → (doneB listed i = true ↔ i < j)) → ops.size ≤ fuel + j →
      evOps P esc ca false nt ops (ops.toList.drop j) s = some s1 → FS g0 H0 w0 nt g lam s a w → wpAny P .any ops Q fuel listed a w := by
  intro fuel
  induction fuel with
  | zero =>
    intro j listed s g lam a w hfj hs hd hfu hev fs
    have hdrop : ops.toList.drop j = [] := List.drop_eq_nil_of_le (by simp; omega)
    rw [hdrop] at hev
    simp only [evOps, Option.some.injEq] at hev
    subst hev
    refine ⟨?_, k _ _ _ _ fs⟩
    cases hr : Region.ready .any ops listed with
    | nil => rfl
    | cons i r =>
      obtain ⟨o, ho, hu, _⟩ := ready_mem hs (i := i) (by rw [hr]; exact List.mem_cons_self ..)
      have hi : i < ops.size := by have := (List.getElem?_eq_some_iff.1 ho).1; simpa using this
      have := (hd i hi).2 (by omega)
      rw [this] at hu; cases hu
  | succ fuel ih =>
    intro j listed s g lam a w hfj hs hd hfu hev fs
    refine ⟨fun hr => ?_, fun i hi => ?_⟩
    · have hall : ∀ i, i < ops.size → i < j := fun i hi => by
        refine (hd i hi).1 ?_
        cases hdi : doneB listed i with
        | true => rfl
        | false =>
          obtain ⟨j', hj'⟩ := ready_some hs hi or.back hdi
          rw [hr] at hj'; cases hj'
      have hdrop : ops.toList.drop j = [] := List.drop_eq_nil_of_le (by
        rcases Nat.lt_or_ge j ops.size with h | h
        · have := hall j h; omega
        · simpa using h)
      rw [hdrop] at hev
      simp only [evOps, Option.some.injEq] at hev
      subst hev
      exact k _ _ _ _ fs
    · obtain ⟨o, ho, hu, hrd⟩ := ready_mem hs hi
      have hin : i < ops.size := by have := (List.getElem?_eq_some_iff.1 ho).1; simpa using this
      have hji : j ≤ i := by
        rcases Nat.lt_or_ge i j with h | h
        · rw [(hd i hin).2 h] at hu; cases hu
        · exact h
      have hij : i = j := by
        rcases Nat.lt_or_ge j i with h | h
        · exfalso
          -- j stands ahead of i
          have hreach : ∀ (m : Nat) (x : Nat), m ≤ i → (∀ e, e ∈ ((ops.toList[m]?).map (·.after.toList.filter (Region.binds .any))).getD [] → doneB listed e.on = true) → x ∈ (reach ops.toList).getD m [] → doneB listed x = true := by
            intro m
            induction m using Nat.strongRecOn with
            | _ m ihm =>
              intro x hm he hx
              have hmo : ops.toList[m]? = some (ops.toList[m]'(by simp; omega)) := List.getElem?_eq_getElem _
              obtain ⟨e, he1, he2⟩ := reach_get hmo (or.back m _ hmo) x hx
              have hde := he e (by rw [hmo]; exact he1)
              rcases he2 with rfl | he2
              · exact hde
              · have hem := or.back m _ hmo e he1
                refine ihm e.on hem x (by omega) (fun e' he' => ?_) he2
                have hen : ops.toList[e.on]? = some (ops.toList[e.on]'(by simp; omega)) := List.getElem?_eq_getElem _
                rw [hen] at he'
                have h1 := or.back e.on _ hen e' he'
                have h2 := (hd e.on (by omega)).1 hde
                exact (hd e'.on (by omega)).2 (by omega)
          have := hreach i j (Nat.le_refl _) (fun e he => by rw [ho] at he; exact hrd e he) (or.post i j (by omega) (by simpa using hin) h)
          have := (hd j (by omega)).1 this
          omega
        · omega
      subst hij
      have hdrop : ops.toList.drop i = o :: ops.toList.drop (i + 1) := by
        have hlt : i < ops.toList.length := by simpa using hin
        rw [List.drop_eq_getElem_cons hlt]
        have : ops.toList[i] = o := by rw [List.getElem?_eq_getElem hlt] at ho; simpa using ho
        rw [this]
      rw [hdrop] at hev
      simp only [evOps] at hev
      split at hev
      · rename_i s2 h2
        refine wpOp_of ho (evOne_ok hca hnum hm0 h2 fs fun a' g' lam' w' fs' => ?_)
        refine ih (i + 1) (listed.setIfInBounds i true) s2 g' lam' a' w' (by omega) (by simpa using hs) (fun m hm => ?_) (by omega) hev fs'
        rw [done_set (by omega)]
        simp only [add1]
        by_cases hmi : m = i
        · rw [if_pos hmi]; simp; omega
        · rw [if_neg hmi, hd m hm]; omega
      · cases hev

/-- The first operations, in whatever order. -/
theorem pre_ok (hca : CaOk P m0 ca) (hnum : NoNum P) (hm0 : Sub m0 g0.m) (p : Pre P esc ca nt ops f ds tr lo) {Q : Exit → Act → World → Prop} {s1 : St} (hev : evOps P esc ca false nt ops (ops.toList.drop f) ⟨(tr f).e, lo, (tr 0).h⟩ = some s1)
    (k : ∀ a' g' lam' w', FS g0 H0 w0 nt g' lam' s1 a' w' → Q .normal a' w') :
    ∀ (fuel : Nat) (listed : Array Bool) (g : Gh) (lam : Nat → Option Nat) (a : Act) (w : World), listed.size = ops.size → leftN ops.size (doneB listed) ≤ fuel →
      (∀ i, f ≤ i → i < ops.size → doneB listed i = false) → (∀ i j, doneB listed i = true → j ∈ (reach ops.toList).getD i [] → doneB listed j = true) →
      FS g0 H0 w0 nt g lam (sT ops f tr lo (doneB listed)) a w → wpAny P .any ops Q fuel listed a w := by
  have hfl : f ≤ ops.size := by simpa using p.order.le
  -- all of the first ones done
  have full : ∀ (fuel : Nat) (listed : Array Bool) (g : Gh) (lam : Nat → Option Nat) (a : Act) (w : World), listed.size = ops.size → leftN ops.size (doneB listed) ≤ fuel →
      (∀ i, f ≤ i → i < ops.size → doneB listed i = false) → (∀ i, i < f → doneB listed i = true) →
      FS g0 H0 w0 nt g lam (sT ops f tr lo (doneB listed)) a w → wpAny P .any ops Q fuel listed a w := by
    intro fuel listed g lam a w hs hfu hpost hpre fs
    have he : eT ops f tr (doneB listed) = (tr f).e := by
      funext t
      simp only [eT]
      by_cases h : ∃ i, i < f ∧ doneB listed i = true ∧ dstAt ops i = some t
      · rw [if_pos h]
      · rw [if_neg h]
        exact (p.old hca f 0 (by omega) (Nat.le_refl _) fun j _ hj hd => h ⟨j, hj, hpre j hj, hd⟩).symm
    have hl : lT ops f tr lo (doneB listed) = lo := by
      funext d
      simp only [lT]
      by_cases h : ∃ i, i < f ∧ doneB listed i = true ∧ allocAt ops i = true ∧ dstAt ops i = some d
      · rw [if_pos h]
      · rw [if_neg h]
        refine (p.lo3 d fun i o hi ho ha hd => h ⟨i, hi, hpre i hi, by simp [allocAt, ho, ha], by simp [dstAt, ho, hd]⟩).symm
    have hsT : sT ops f tr lo (doneB listed) = ⟨(tr f).e, lo, (tr 0).h⟩ := by simp only [sT, he, hl]
    rw [hsT] at fs
    refine post_ok hca hnum hm0 p.order k fuel f listed _ g lam a w (Nat.le_refl _) hs (fun i hi => ⟨fun hd => ?_, hpre i⟩) ?_ hev fs
    · rcases Nat.lt_or_ge i f with h | h
      · exact h
      · rw [hpost i h hi] at hd; cases hd
    · have : ops.size - f ≤ leftN ops.size (doneB listed) := by
        have hsub : (List.range' f (ops.size - f)).Sublist ((List.range ops.size).filter fun i => !doneB listed i) := by
          have e : List.range ops.size = List.range f ++ List.range' f (ops.size - f) := by
            obtain ⟨q, hq⟩ : ∃ q, ops.size = f + q := ⟨ops.size - f, by omega⟩
            rw [hq, Nat.add_sub_cancel_left, List.range_eq_range', List.range_eq_range']
            have := List.range'_append_1 (s := 0) (m := f) (n := q)
            rw [Nat.zero_add] at this
            exact this.symm
          rw [e, List.filter_append]
          have e2 : ((List.range' f (ops.size - f)).filter fun i => !doneB listed i) = List.range' f (ops.size - f) := by
            rw [List.filter_eq_self]
            intro i hi
            rw [List.mem_range'_1] at hi
            rw [hpost i hi.1 (by omega)]; rfl
          rw [e2]
          exact List.sublist_append_right _ _
        have := hsub.length_le
        simpa [leftN] using this
      omega
  intro fuel
  induction fuel with
  | zero =>
    intro listed g lam a w hs hfu hpost hdc fs
    exact full 0 listed g lam a w hs hfu hpost (fun i hi => leftN_zero (n := ops.size) (T := doneB listed) (by omega) i (by omega)) fs
  | succ fuel ih =>
    intro listed g lam a w hs hfu hpost hdc fs
    by_cases hall : ∀ i, i < f → doneB listed i = true
    · exact full _ listed g lam a w hs hfu hpost hall fs
    · obtain ⟨i0, hi0, hd0⟩ : ∃ i, i < f ∧ doneB listed i = false := by
        apply Classical.byContradiction
        intro h
        refine hall fun i hi => ?_
        cases hd : doneB listed i with
        | true => rfl
        | false => exact absurd ⟨i, hi, hd⟩ h
      refine ⟨fun hr => ?_, fun i hi => ?_⟩
      · obtain ⟨j, hj⟩ := ready_some hs (i := i0) (by omega) p.order.back hd0
        rw [hr] at hj; cases hj
      · obtain ⟨o, ho, hu, hrd⟩ := ready_mem hs hi
        have hin : i < ops.size := by have := (List.getElem?_eq_some_iff.1 ho).1; simpa using this
        have hreach : ∀ j, j ∈ (reach ops.toList).getD i [] → doneB listed j = true := fun j hj => by
          obtain ⟨e, he1, he2⟩ := reach_get ho (p.order.back i o ho) j hj
          rcases he2 with rfl | he2
          · exact hrd e he1
          · exact hdc e.on j (hrd e he1) he2
        have hif : i < f := by
          rcases Nat.lt_or_ge i f with h | h
          · exact h
          · have := hreach i0 (p.order.post i i0 h (by simpa using hin) (by omega))
            rw [this] at hd0; cases hd0
        refine wpOp_of ho (p.one hca hnum hm0 hif ho hu hreach fs fun a' g' lam' w' fs' => ?_)
        have hds := done_set (listed := listed) (i := i) (by omega)
        refine ih (listed.setIfInBounds i true) g' lam' a' w' (by simpa using hs) ?_ (fun m h1 h2 => ?_) (fun m j h1 h2 => ?_) (by rw [hds]; exact fs')
        · rw [hds]; have := leftN_add hin hu; omega
        · rw [hds]; simp only [add1]; rw [if_neg (by omega)]; exact hpost m h1 h2
        · rw [hds] at h1 ⊢
          simp only [add1] at h1 ⊢
          split at h1
          · rename_i e
            subst e
            have := hreach j h2
            rw [this]; split <;> rfl
          · have := hdc m j h1 h2
            rw [this]; split <;> rfl

end
end Go.Am
