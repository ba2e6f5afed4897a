/- Each operation of the abstract machine is the machine's own: addresses, parts, slices, texts, numbers. -/
import Derived.Test.YtmdggnehhebkhaaGreatDoorAm4
set_option linter.unusedVariables false
namespace Go.Am
open Go

section
variable {P : Program} {g0 : Gh} {H0 : Hp} {w0 : World} {g : Gh} {lam : Nat → Option Nat} {w : World} {s : St}

theorem ok_ptr (fr : FR g0 H0 w0 g lam s w) {a : AV} {u : Value} (h : okA s.l s.h a = true) (hi : isAddr a = true) (hr : RelT g s.h lam a u) : ∃ b off, u = .pointer (some ⟨b, off, none⟩) := by
  cases a with
  | loc d off =>
    simp only [okA, Option.isSome_iff_exists] at h
    obtain ⟨cs, hl⟩ := h
    obtain ⟨b, cc, T, fz, e1, _⟩ := fr.rl.lo d cs hl
    exact ⟨b, off, hr b e1⟩
  | ptr o ver off =>
    simp only [okA] at h
    split at h
    · rename_i b hb; exact ⟨_, _, rel_ptr hr hb (by simpa using h)⟩
    · cases h
  | eptr cs => obtain ⟨b, off, us, e, _⟩ := rel_eptr hr; exact ⟨b, off, e⟩
  | _ => simp [isAddr] at hi

theorem addA_addr {a a' : AV} {off : Nat} (h : addA a off = some a') : isAddr a = true := by
  cases a <;> first | rfl | simp [addA] at h

theorem run_fieldAddr_ok (fr : FR g0 H0 w0 g lam s w) {t : TypeId} {x v : AV} {f : Nat} {u : Value} (hr : RelT g s.h lam x u) (h : afieldAddr P s.l s.h t x f = some v) :
    ∃ y, (Instr.fieldAt t u f).run P w = .ok y w ∧ RelT g s.h lam v y := by
  unfold afieldAddr at h
  split at h
  · rename_i hok
    split at h
    · rename_i fields hu
      split at h
      · rename_i fd hfd
        split at h
        · cases h
        · rename_i n hn
          obtain ⟨b, off, rfl⟩ := ok_ptr fr hok (addA_addr h) hr
          refine ⟨_, ?_, addA_ok s.h h hr b off rfl⟩
          simp [Instr.fieldAt, run_underlying hu, hfd, Instr.sureAddr, fieldPlace, run_sizeOf_szT hn, addr_add]
        · cases h
      · cases h
    · cases h
  · cases h

theorem part_ok {H : Hp} {cs : List AV} {us : Array Value} (hr : RelL g H cs us.toList) (h1 : ∀ x, x ∈ us.toList → x.oneCell' = true) {t : TypeId} {off : Nat} {v : AV} (h : apart P t cs off = some v) :
    ∃ y, (part t us off).run P w = .ok y w ∧ Rel g H v y := by
  unfold apart at h
  split at h
  · rename_i ha
    split at h
    · rename_i n hn
      split at h
      · rename_i hle
        cases h
        have hsz : us.size = cs.length := by have := hr.1; simpa using this
        have he : (us.extract off (off + n)).toList = cut us.toList off n := by
          simp [cut, Array.toList_extract, List.extract_eq_take_drop]
        refine ⟨.agg (us.extract off (off + n)), by simp [part, run_isAgg_of ha, run_sizeOf_szT hn], ?_⟩
        have : RelL g H (cut cs off n) (cut us.toList off n) := hr.cut off n
        rw [← he] at this
        exact .agg _ _ this.1 (by rw [he]; exact all_cut h1) this.2
      · cases h
    · cases h
  · rename_i ha
    obtain ⟨u, e, r⟩ := hr.mem off v h
    have e' : us[off]? = some u := by simpa using e
    exact ⟨u, by simp [part, run_isAgg_of ha, e'], r⟩
  · cases h

theorem run_field_ok {H : Hp} {t : TypeId} {x v : AV} {f : Nat} {u : Value} (hr : Rel g H x u) (h : afield P t x f = some v) :
    ∃ y, (Instr.field t u f).run P w = .ok y w ∧ Rel g H v y := by
  unfold afield at h
  split at h
  · rename_i fields cs hu
    split at h
    · rename_i fd hfd
      obtain ⟨us, rfl, h1, h2⟩ := rel_agg hr
      obtain ⟨y, e, r⟩ := part_ok (w := w) h1 h2 h
      exact ⟨y, by simp [Instr.field, run_underlying hu, hfd, asAgg, e], r⟩
    · cases h
  · cases h

theorem run_indexAddr_ok (fr : FR g0 H0 w0 g lam s w) {t : TypeId} {x i v : AV} {u j : Value} (hr : RelT g s.h lam x u) (hi : RelT g s.h lam i j) (h : aindexAddr P s.l s.h t x i = some v) :
    ∃ y, (Instr.indexAt t u j).run P w = .ok y w ∧ RelT g s.h lam v y := by
  unfold aindexAddr at h
  split at h
  · rename_i hok
    split at h
    · rename_i k n
      obtain rfl := rel_int hi
      split at h
      · rename_i e hu
        split at h
        · rename_i sz hs
          split at h
          · rename_i m cs ex
            split at h
            · rename_i hc
              cases h
              rcases rel_slice hr with ⟨cap, rfl, h0, _⟩ | ⟨b, off, cap, us, rfl, _, _, h2, h3⟩
              · omega
              · refine ⟨.pointer (some ⟨b, off + n.toNat * sz, none⟩), ?_, ?_⟩
                · simp [Instr.indexAt, asIntOf, run_underlying hu, hc.1, hc.2.1, run_sizeOf_szT hs, addr_add]
                · refine Rel.data _ _ (.eptr _ (us.drop (n.toNat * sz)) _ _ (by simp [h3.1]) (fun i x hx => ?_) (fun i v x hv hx => ?_))
                  · rw [List.getElem?_drop] at hx
                    have := h2 _ _ hx
                    rwa [← Nat.add_assoc] at this
                  · rw [List.getElem?_drop] at hv hx
                    exact h3.2 _ _ _ hv hx
            · cases h
          · rename_i o ver off m esz
            split at h
            · rename_i hc
              cases h
              simp only [okA] at hok
              split at hok
              · rename_i b hb
                obtain ⟨cap, rfl, _, _⟩ := rel_vec hr hb (by simpa using hok)
                refine ⟨.pointer (some ⟨(g.φ o).1, (g.φ o).2.1 + off + n.toNat * sz, none⟩), ?_, ?_⟩
                · simp [Instr.indexAt, asIntOf, run_underlying hu, hc.1, hc.2.1, run_sizeOf_szT hs, addr_add]
                · cases hr with
                  | data _ _ h => cases h
                  | vec _ _ _ _ _ _ h1 h2 h3 h4 =>
                    exact Rel.ptr _ _ _ _ h1 h2 rfl fun ob hob hv => by rw [← Nat.add_assoc]
              · cases hok
            · cases h
          · cases h
        · cases h
      · rename_i m e hu
        split at h
        · rename_i sz hs
          split at h
          · rename_i hc
            obtain ⟨b, off, rfl⟩ := ok_ptr fr hok (addA_addr h) hr
            refine ⟨_, ?_, addA_ok s.h h hr b off rfl⟩
            simp [Instr.indexAt, asIntOf, run_underlying hu, Instr.sureAddr, hc.1, hc.2, run_sizeOf_szT hs, addr_add]
          · cases h
        · cases h
      · cases h
    · cases h
  · cases h

theorem run_index_ok {H : Hp} {t : TypeId} {x i v : AV} {u j : Value} (hr : Rel g H x u) (hi : Rel g H i j) (h : aindex P t x i = some v) :
    ∃ y, (Instr.index t u j).run P w = .ok y w ∧ Rel g H v y := by
  unfold aindex at h
  split at h
  · rename_i k n
    obtain rfl := rel_int hi
    split at h
    · rename_i str hu
      obtain rfl := rel_str hr
      split at h
      · rename_i h0
        split at h
        · rename_i b hb
          cases h
          refine ⟨.int .u8 b.toNat, ?_, .data _ _ (.int _ _)⟩
          simp [Instr.index, asIntOf, run_underlying hu, h0, hb]
        · cases h
      · cases h
    · rename_i m e cs hu
      split at h
      · rename_i sz hs
        split at h
        · rename_i hc
          obtain ⟨us, rfl, h1, h2⟩ := rel_agg hr
          obtain ⟨y, e', r⟩ := part_ok (w := w) h1 h2 h
          exact ⟨y, by simp [Instr.index, asIntOf, run_underlying hu, hc.1, hc.2, run_sizeOf_szT hs, e'], r⟩
        · cases h
      · cases h
    · cases h
  · cases h

/-! ### Slicing -/
theorem bnd_ok {H : Hp} {o : Option AV} {d m : Nat} {v : Option Value} (h : bnd o d = some m) (hr : ∀ a, o = some a → ∃ u, v = some u ∧ RelT g H lam a u) (hn : o = none → v = none) :
    (o = none ∧ v = none ∧ m = d) ∨ ∃ (k : IntKind) (n : Int), v = some (.int k n) ∧ 0 ≤ n ∧ m = n.toNat ∧ o.isSome = true := by
  cases o with
  | none => simp only [bnd, Option.some.injEq] at h; exact .inl ⟨rfl, hn rfl, h.symm⟩
  | some a =>
    obtain ⟨u, hu, r⟩ := hr a rfl
    cases a <;> simp only [bnd] at h <;> try (cases h; done)
    rename_i k n
    split at h
    · rename_i h0
      simp only [Option.some.injEq] at h
      obtain rfl := rel_int r
      exact .inr ⟨k, n, hu, h0, h.symm, rfl⟩
    · cases h

theorem run_bound {k : IntKind} {n : Int} {y : Nat} {code : BoundsCode} (h0 : 0 ≤ n) (h1 : n.toNat ≤ y) : (Instr.sliceBound (.int k n) y code).run P w = .ok n.toNat w := by
  have : 0 ≤ n ∧ n ≤ (y : Int) := ⟨h0, by omega⟩
  simp only [Instr.sliceBound, asIntOf, Sem.run_bind, Sem.run_pure, Result.andThen_ok, if_pos this]

/-- The three bounds. -/
theorem run_bounds {H : Hp} {isS : Bool} {n cap l h m d : Nat} {lo hi mx : Option AV} {vlo vhi vmx : Option Value}
    (hl : bnd lo 0 = some l) (hh : bnd hi n = some h) (hm : bnd mx d = some m) (hd : mx = none → d = cap)
    (rl : ∀ a, lo = some a → ∃ u, vlo = some u ∧ RelT g H lam a u) (nl : lo = none → vlo = none)
    (rh : ∀ a, hi = some a → ∃ u, vhi = some u ∧ RelT g H lam a u) (nh : hi = none → vhi = none)
    (rm : ∀ a, mx = some a → ∃ u, vmx = some u ∧ RelT g H lam a u) (nm : mx = none → vmx = none)
    (h1 : l ≤ h) (h2 : h ≤ m) (h3 : m ≤ cap) (h4 : mx.isSome → hi.isSome) :
    (Instr.sliceBounds isS n cap vlo vhi vmx).run P w = .ok (l, h, m) w := by
  rcases bnd_ok hm rm nm with ⟨rfl, rfl, rfl⟩ | ⟨km, im, rfl, im0, rfl, hms⟩
  · obtain rfl := hd rfl
    rcases bnd_ok hh rh nh with ⟨rfl, rfl, rfl⟩ | ⟨kh, ih, rfl, ih0, rfl, _⟩
    · rcases bnd_ok hl rl nl with ⟨rfl, rfl, rfl⟩ | ⟨kl, il, rfl, il0, rfl, _⟩
      · simp [Instr.sliceBounds]
      · simp [Instr.sliceBounds, run_bound il0 h1]
    · rcases bnd_ok hl rl nl with ⟨rfl, rfl, rfl⟩ | ⟨kl, il, rfl, il0, rfl, _⟩
      · cases isS <;> simp [Instr.sliceBounds, run_bound ih0 h2]
      · cases isS <;> simp [Instr.sliceBounds, run_bound ih0 h2, run_bound il0 h1]
  · rcases bnd_ok hh rh nh with ⟨rfl, rfl, rfl⟩ | ⟨kh, ih, rfl, ih0, rfl, _⟩
    · simp [hms] at h4
    · rcases bnd_ok hl rl nl with ⟨rfl, rfl, rfl⟩ | ⟨kl, il, rfl, il0, rfl, _⟩
      · cases isS <;> simp [Instr.sliceBounds, run_bound im0 h3, run_bound ih0 h2]
      · cases isS <;> simp [Instr.sliceBounds, run_bound im0 h3, run_bound ih0 h2, run_bound il0 h1]

theorem relDL_cut {m : Mem} {cs : List AV} {us : List Value} (h : RelDL m cs us) (off k : Nat) : RelDL m (cut cs off k) (cut us off k) := by
  refine ⟨by simp [cut, h.1], fun i v u a b => ?_⟩
  unfold cut at a b
  rw [List.getElem?_take] at a b
  split at a
  · rename_i hi
    rw [if_pos hi] at b
    rw [List.getElem?_drop] at a b
    exact h.2 _ _ _ a b
  · cases a
theorem inM_cut {m : Mem} {b o : Nat} {us : List Value} (h : InM m b o us) (off k : Nat) : InM m b (o + off) (cut us off k) := fun i u hu => by
  unfold cut at hu
  rw [List.getElem?_take] at hu
  split at hu
  · rw [List.getElem?_drop] at hu
    have := h _ _ hu
    rwa [← Nat.add_assoc] at this
  · cases hu

theorem run_sliceAt_plain {t : TypeId} {x : Value} {lo hi mx : Option Value} {d : TypeDesc} (hu : P.underlying t = some d) (hd : ∀ n e, d ≠ .array n e) : (Instr.sliceAt t x lo hi mx).run P w = (Instr.slice t x lo hi mx).run P w := by
  simp only [Instr.sliceAt, Sem.run_bind, run_underlying hu, Result.andThen_ok]

theorem run_slice_ok (fr : FR g0 H0 w0 g lam s w) {t : TypeId} {x v : AV} {u : Value} {lo hi mx : Option AV} {vlo vhi vmx : Option Value} (hr : RelT g s.h lam x u)
    (rl : ∀ a, lo = some a → ∃ u, vlo = some u ∧ RelT g s.h lam a u) (nl : lo = none → vlo = none)
    (rh : ∀ a, hi = some a → ∃ u, vhi = some u ∧ RelT g s.h lam a u) (nh : hi = none → vhi = none)
    (rm : ∀ a, mx = some a → ∃ u, vmx = some u ∧ RelT g s.h lam a u) (nm : mx = none → vmx = none)
    (h : aslice P s.h t x lo hi mx = some v) : ∃ y, (Instr.sliceAt t u vlo vhi vmx).run P w = .ok y w ∧ RelT g s.h lam v y := by
  unfold aslice at h
  split at h
  · rename_i str hu
    obtain rfl := rel_str hr
    split at h
    · rename_i l h' e1 e2
      split at h
      · rename_i hc
        cases h
        obtain rfl := nm rfl
        have hb := run_bounds (P := P) (w := w) (H := s.h) (isS := false) (cap := str.size) (d := str.size) (m := str.size) (mx := none) (vmx := none) e1 e2 rfl (fun _ => rfl) rl nl rh nh (fun a e => by cases e) (fun _ => rfl) hc.1 hc.2 (Nat.le_refl _) (by simp)
        refine ⟨.string (str.extract l h'), ?_, Rel.data _ _ (.str _)⟩
        rw [run_sliceAt_plain hu (by intro n e h; cases h)]
        simp [Instr.slice, run_underlying hu, hb]
      · cases h
    · cases h
  · rename_i e n cs ex hu
    split at h
    · rename_i sz l h' m e0 e1 e2 e3
      split at h
      · rename_i hc
        cases h
        obtain ⟨c1, c2, c3, c4, c5⟩ := hc
        have core : ∀ (ao : Option Addr) (cap : Nat), n ≤ cap → u = .slice ao n cap → ∃ m', (mx.isSome = true → m' = m) ∧ (mx.isSome = false → m' = cap) ∧ h' ≤ m' ∧ m' ≤ cap ∧
            (Instr.sliceAt t u vlo vhi vmx).run P w = .ok (.slice (if m' = l then ao else ao.map (·.add (l * sz))) (h' - l) (m' - l)) w := by
          intro ao cap hcap hu'
          subst hu'
          cases hmx : mx with
          | none =>
            subst hmx
            refine ⟨cap, by simp, fun _ => rfl, by omega, Nat.le_refl _, ?_⟩
            have hb := run_bounds (P := P) (w := w) (H := s.h) (isS := true) (cap := cap) (d := cap) (m := cap) (mx := none) e1 e2 rfl (fun _ => rfl) rl nl rh nh rm nm c1 (by omega) (Nat.le_refl _) (by simp)
            rw [run_sliceAt_plain hu (by intro n e h; cases h)]
            simp [Instr.slice, run_underlying hu, hb, run_sizeOf_szT e0]
          | some a =>
            refine ⟨m, fun _ => rfl, by simp, c2, by omega, ?_⟩
            have hb := run_bounds (P := P) (w := w) (H := s.h) (isS := true) (cap := cap) (d := n) (m := m) e1 e2 e3 (fun h => by rw [hmx] at h; cases h) rl nl rh nh rm nm c1 c2 (by omega) c4
            rw [run_sliceAt_plain hu (by intro n e h; cases h)]
            simp [Instr.slice, run_underlying hu, hb, run_sizeOf_szT e0]
        rcases rel_slice hr with ⟨cap, hu', h0, h1, h2⟩ | ⟨b, off, cap, us, hu', hcap, h1, h2, h3⟩
        · subst h0 h1
          obtain ⟨m', d1, d2, d3, d4, d5⟩ := core none cap (Nat.zero_le _) (by rw [hu'])
          obtain rfl : m = 0 := by omega
          obtain rfl : h' = 0 := by omega
          obtain rfl : l = 0 := by omega
          refine ⟨_, d5, ?_⟩
          have : (if m' = 0 then (none : Option Addr) else Option.map (fun (x : Addr) => x.add (0 * sz)) none) = none := by split <;> rfl
          rw [this]
          simp only [cut, List.drop_nil, List.take_nil, Nat.sub_zero]
          refine Rel.data _ _ (.slice0 _ _ fun hx => ?_)
          cases hmx : mx with
          | none => rw [hmx] at hx d2; rw [d2 rfl]; exact h2 (by simpa using hx)
          | some a => rw [hmx] at d1; exact d1 rfl
        · obtain ⟨m', d1, d2, d3, d4, d5⟩ := core _ cap hcap hu'
          have hex : (if mx.isSome = true then m == h' else ex && h' == n) = true → m' - l = h' - l := fun hx => by
            cases hmx : mx with
            | none =>
              rw [hmx] at hx d2
              simp at hx
              have := h1 hx.1
              have := d2 rfl
              omega
            | some a =>
              rw [hmx] at hx d1
              simp at hx
              have := d1 rfl
              omega
          refine ⟨_, d5, ?_⟩
          by_cases hml : m' = l
          · rw [if_pos hml]
            obtain rfl : h' = l := by omega
            refine Rel.data _ _ (.slice _ _ _ [] b off _ (by omega) hex (by simp [cut]) (fun i u h => by simp at h) (fun i v u h1 h2 => by simp at h2))
          · rw [if_neg hml]
            simp only [Option.map_some, addr_add]
            have hd := relDL_cut h3 (l * sz) ((h' - l) * sz)
            exact Rel.data _ _ (.slice _ _ _ _ b (off + l * sz) _ (by omega) hex hd.1 (inM_cut h2 _ _) hd.2)
      · cases h
    · cases h
  · rename_i e o ver off n esz hu
    split at h
    · rename_i sz l h' e0 e1 e2
      split at h
      · split at h
        · rename_i hc
          obtain ⟨c1, c2, c3, c4⟩ := hc
          obtain rfl := nm rfl
          simp only [okA] at c4
          split at c4
          · rename_i b hb
            obtain ⟨cap, rfl, d1, d2⟩ := rel_vec hr hb (by simpa using c4)
            have hbd := run_bounds (P := P) (w := w) (H := s.h) (isS := true) (cap := cap) (d := cap) (m := cap) (mx := none) (vmx := none) e1 e2 rfl (fun _ => rfl) rl nl rh nh (fun a e => by cases e) (fun _ => rfl) c1 (by omega) (Nat.le_refl _) (by simp)
            have hrun : (Instr.sliceAt t (.slice (some ⟨(g.φ o).1, (g.φ o).2.1 + off, none⟩) n cap) vlo vhi none).run P w =
                .ok (.slice (if cap = l then some ⟨(g.φ o).1, (g.φ o).2.1 + off, none⟩ else some ⟨(g.φ o).1, (g.φ o).2.1 + off + l * sz, none⟩) (h' - l) (cap - l)) w := by
              rw [run_sliceAt_plain hu (by intro n e h; cases h)]
              simp [Instr.slice, run_underlying hu, hbd, run_sizeOf_szT e0, addr_add]
            refine ⟨_, hrun, ?_⟩
            split at h
            · rename_i hll
              cases h
              have haddr : (if cap = l then some (⟨(g.φ o).1, (g.φ o).2.1 + off, none⟩ : Addr) else some ⟨(g.φ o).1, (g.φ o).2.1 + off + l * sz, none⟩) = some ⟨(g.φ o).1, (g.φ o).2.1 + (off + l * sz), none⟩ := by
                by_cases hcl : cap = l
                · rcases hll with rfl | hll
                  · rw [if_pos hcl]; simp
                  · omega
                · rw [if_neg hcl, Nat.add_assoc]
              rw [haddr]
              cases hr with
              | data _ _ h => cases h
              | vec _ _ _ _ _ _ h1 h2 h3 h4 =>
                refine Rel.vec _ _ _ _ _ _ h1 h2 rfl fun ob hob hv => ⟨_, rfl, by omega, ?_⟩
                have : l * sz + (cap - l) * sz = cap * sz := by rw [← Nat.add_mul]; congr 1; omega
                subst c3
                omega
            · rename_i hll
              cases h
              obtain rfl : l = h' := by omega
              have hz : ∀ a : Option Addr, ∀ c, (∀ x, a = some x → x.spot = none) → RelD g.m (.slice 0 [] false) (.slice a 0 c) := fun a c hs => by
                cases a with
                | none => exact .slice0 _ _ (by simp)
                | some x =>
                  obtain ⟨b', o', sp⟩ := x
                  obtain rfl := hs _ rfl
                  exact .slice _ _ _ [] b' o' c (Nat.zero_le _) (by simp) rfl (fun i u h => by simp at h) (fun i v u h => by simp at h)
              rw [Nat.sub_self]
              exact Rel.data _ _ (hz _ _ (fun x hx => by split at hx <;> cases hx <;> rfl))
          · cases c4
        · cases h
      · rename_i a
        split at h
        · rename_i m em
          split at h
          · rename_i hc
            obtain ⟨c1, c2, c3, c4, c5⟩ := hc
            cases h
            subst c1 c2
            simp only [okA] at c5
            split at c5
            · rename_i b hb
              obtain ⟨cap, rfl, d1, d2⟩ := rel_vec hr hb (by simpa using c5)
              have hbd := run_bounds (P := P) (w := w) (H := s.h) (isS := true) (cap := cap) (d := 0) (m := l) (mx := some a) e1 e2 em (fun h => by cases h) rl nl rh nh rm nm (Nat.le_refl _) (Nat.le_refl _) (by omega) (fun _ => c4)
              refine ⟨.slice (some ⟨(g.φ o).1, (g.φ o).2.1 + off, none⟩) 0 0, ?_, Rel.data _ _ (.slice _ _ _ [] _ _ _ (Nat.le_refl _) (fun _ => rfl) rfl (fun i u h => by simp at h) (fun i v u h => by simp at h))⟩
              rw [run_sliceAt_plain hu (by intro n e h; cases h)]
              simp [Instr.slice, run_underlying hu, hbd, run_sizeOf_szT e0]
            · cases c5
          · cases h
        · cases h
    · cases h
  · rename_i n e o ver off hu
    split at h
    · rename_i sz l h' b e0 e1 e2 hb
      split at h
      · rename_i hc
        cases h
        obtain ⟨c1, c2, c3, c4, c5⟩ := hc
        obtain rfl := nm rfl
        have hu' := rel_ptr hr hb c4
        subst hu'
        have hbd := run_bounds (P := P) (w := w) (H := s.h) (isS := false) (cap := n) (d := n) (m := n) (mx := none) (vmx := none) e1 e2 rfl (fun _ => rfl) rl nl rh nh (fun a e => by cases e) (fun _ => rfl) c1 c2 (Nat.le_refl _) (by simp)
        have hrun : (Instr.sliceAt t (.pointer (some ⟨(g.φ o).1, (g.φ o).2.1 + off, none⟩)) vlo vhi none).run P w =
            .ok (.slice (some (if n = l then ⟨(g.φ o).1, (g.φ o).2.1 + off, none⟩ else ⟨(g.φ o).1, (g.φ o).2.1 + off + l * sz, none⟩)) (h' - l) (n - l)) w := by
          simp [Instr.sliceAt, run_underlying hu, Instr.sureAddr, hbd, run_sizeOf_szT e0, addr_add]
        refine ⟨_, hrun, ?_⟩
        have haddr : (if n = l then (⟨(g.φ o).1, (g.φ o).2.1 + off, none⟩ : Addr) else ⟨(g.φ o).1, (g.φ o).2.1 + off + l * sz, none⟩) = ⟨(g.φ o).1, (g.φ o).2.1 + (off + l * sz), none⟩ := by
          by_cases hcl : n = l
          · rcases c3 with rfl | c3
            · rw [if_pos hcl]; simp
            · omega
          · rw [if_neg hcl, Nat.add_assoc]
        rw [haddr]
        cases hr with
        | data _ _ h => cases h
        | ptr _ _ _ _ h1 h2 h3 h4 =>
          refine Rel.vec _ _ _ _ _ _ h1 h2 rfl fun ob hob hv => ⟨_, rfl, by omega, ?_⟩
          have : l * sz + (n - l) * sz = n * sz := by rw [← Nat.add_mul]; congr 1; omega
          obtain ⟨arr, T, fz, f1, f2, f3, _⟩ := fr.rh.row hb
          omega
      · cases h
    · cases h
  · cases h

end
end Go.Am
