/- From a function's text on plain data to the statement 'AC' on its calls, where data and variables are lent to it: the whole. -/
import Derived.Test.YthhfhllfbnpcgaaCoLa
namespace Go.Proofs.Ythhfhllfbnpcgaa.Co
open Go
set_option linter.unusedSimpArgs false
set_option linter.unusedVariables false
section
variable {P : Program} {w0 : World} {pb : Fence} {g : G} {m : Mem} {w w' : World}
theorem shL_len {γ : Nat → Nat} : ∀ {args : List RS} {vs cs : List Value}, ShL γ args vs cs → cs.length = (args.flatMap RS.fls).length ∧ args.length = vs.length
  | _, _, _, .nil => ⟨rfl, rfl⟩
  | _, _, _, .cons h hs => by
    obtain ⟨k1, k2⟩ := shL_len hs
    exact ⟨by simp [sh_len h, k1], by simp [k2]⟩
theorem startL_sound {S : Nat → Prop} {fls : List FL} {ca : List Value} {fps : Nat → Nat → Prop} (hbun : Bun S w fls ca fps) (hS : g.S = S) (hva : ∀ t, g.va (t + 1) = ca.getD t undef) (hnx : fls.length < m.nx) {ls : List FL} {i : Nat} {cs : List Value}
    (h1 : ∀ (j : Nat) f, ls[j]? = some f → fls[i + j]? = some f) (h2 : ∀ (j : Nat) u, cs[j]? = some u → ca[i + j]? = some u) (hl : ls.length = cs.length) : TRs g m w (startL i ls) cs := by
  refine ⟨by rw [startL_length, hl], fun j x u hx hu => ?_⟩
  rw [startL_get] at hx
  obtain ⟨f, hf, rfl⟩ := Option.map_eq_some_iff.1 hx
  have hf' := h1 j f hf
  have hu' := h2 j u hu
  cases f with
  | v l =>
    show Rep g.S w l u
    rw [hS]; exact hbun.view _ l u hf' hu'
  | o l =>
    have hlt := (List.getElem?_eq_some_iff.1 hf').1
    refine ⟨by omega, ?_, (hbun.own _ l u hf' hu').one⟩
    rw [hva, List.getD_eq_getElem?_getD, hu']; rfl
theorem startBox_lt : ∀ (bx : List (List FL)) (i k : Nat), startBox bx i k ≠ [] → k < bx.length
  | [], i, k, h => absurd (by cases k <;> rfl) h
  | l :: r, i, 0, h => by simp
  | l :: r, i, k + 1, h => by
    have := startBox_lt r _ k h
    simp only [List.length_cons]; omega
theorem startBox_ne : ∀ (bx : List (List FL)) (i k : Nat), (∀ l ∈ bx, l ≠ []) → k < bx.length → startBox bx i k ≠ []
  | [], i, k, _, h => by simp at h
  | l :: r, i, 0, hn, h => fun e => by
    have := startL_length l i
    simp only [startBox] at e
    rw [e] at this
    exact hn l (by simp) (List.eq_nil_of_length_eq_zero this.symm)
  | l :: r, i, k + 1, hn, h => startBox_ne r _ k (fun l hl => hn l (by simp [hl])) (by simpa using h)
theorem startBox_sound {S : Nat → Prop} {fls : List FL} {ca : List Value} {fps : Nat → Nat → Prop} (hbun : Bun S w fls ca fps) (hS : g.S = S) (hva : ∀ t, g.va (t + 1) = ca.getD t undef) (hnx : fls.length < m.nx) :
    ∀ (bx : List (List FL)) (bs : List BX) (i k : Nat) (b : BX), (∀ (j : Nat) f, bx.flatten[j]? = some f → fls[i + j]? = some f) → (∀ (j : Nat) u, (bs.flatMap BX.cs)[j]? = some u → ca[i + j]? = some u) → bx.length = bs.length →
      (∀ (j : Nat) l b, bx[j]? = some l → bs[j]? = some b → l.length = b.cs.length) → bs[k]? = some b → TRs g m w (startBox bx i k) b.cs
  | [], bs, i, k, b, _, _, hl, _, hb => by
    have : bs = [] := List.eq_nil_of_length_eq_zero hl.symm
    subst this
    simp at hb
  | l :: r, [], i, k, b, _, _, hl, _, _ => by simp at hl
  | l :: r, b0 :: bs, i, 0, b, h1, h2, hl, hz, hb => by
    injection hb with hb; subst hb
    exact startL_sound hbun hS hva hnx (fun j f hf => h1 j f (by rw [List.flatten_cons, List.getElem?_append_left (List.getElem?_eq_some_iff.1 hf).1]; exact hf))
      (fun j u hu => h2 j u (by rw [List.flatMap_cons, List.getElem?_append_left (List.getElem?_eq_some_iff.1 hu).1]; exact hu)) (hz 0 l b0 rfl rfl)
  | l :: r, b0 :: bs, i, k + 1, b, h1, h2, hl, hz, hb => by
    have hlz := hz 0 l b0 rfl rfl
    refine startBox_sound hbun hS hva hnx r bs (i + l.length) k b (fun j f hf => ?_) (fun j u hu => ?_) (by simpa using hl) (fun j l' b' a c => hz (j + 1) l' b' (by simpa using a) (by simpa using c)) (by simpa using hb)
    · have := h1 (l.length + j) f (by rw [List.flatten_cons, List.getElem?_append_right (by omega)]; simpa using hf)
      rw [Nat.add_assoc]; exact this
    · have := h2 (l.length + j) u (by rw [List.flatMap_cons, List.getElem?_append_right (by omega), hlz]; simpa using hu)
      rw [Nat.add_assoc]; exact this
theorem startRO_sound {S : Nat → Prop} {fls : List FL} {ca : List Value} {fps : Nat → Nat → Prop} (hbun : Bun S w fls ca fps) (hS : g.S = S) (hva : ∀ t, g.va (t + 1) = ca.getD t undef) (hnx : fls.length < m.nx) {n : Nat} (hb : ∀ k, k < n → m.box k ≠ []) :
    ∀ {args : List RS} {i : Nat} {vs cs : List Value}, okArgs n args = true → ShL g.β args vs cs → (∀ (j : Nat) f, (args.flatMap RS.fls)[j]? = some f → fls[i + j]? = some f) → (∀ (j : Nat) u, cs[j]? = some u → ca[i + j]? = some u) →
      ∀ t, SR g m w (startRO args i t) (vs.toArray.getD t undef)
  | [], i, vs, cs, _, h, _, _ => by
    intro t
    simp only [startRO]; trivial
  | r :: rs, i, vs, cs, ha, h, h1, h2 => by
    intro t
    cases h with
    | @cons _ v cs0 _ vs css h hs =>
    have hlen := sh_len h
    have hok' : okArgs n rs = true := by
      cases r with
      | val b ls => exact ha
      | ptr k => simp only [okArgs, Bool.and_eq_true] at ha; exact ha.2
      | clo f ks => simp only [okArgs, Bool.and_eq_true] at ha; exact ha.2
      | tup ss => simp [okArgs] at ha
    cases t with
    | succ t =>
      have := startRO_sound hbun hS hva hnx hb (i := i + r.fls.length) hok' hs (fun j f hf => ?_) (fun j u hu => ?_) t
      · cases r <;> simpa [startRO] using this
      · have := h1 (r.fls.length + j) f (by rw [List.flatMap_cons, List.getElem?_append_right (by omega)]; simpa using hf)
        rw [Nat.add_assoc]; exact this
      · have := h2 (r.fls.length + j) u (by rw [List.getElem?_append_right (by omega), hlen]; simpa using hu)
        rw [Nat.add_assoc]; exact this
    | zero =>
      have hv0 : (v :: vs).toArray.getD 0 undef = v := by simp
      rw [hv0]
      cases r with
      | val b ls =>
        cases h with
        | val h =>
          have := startL_sound (m := m) (g := g) hbun hS hva hnx (ls := ls) (i := i) (cs := cs0) (fun j f hf => h1 j f (by
              have hlt := (List.getElem?_eq_some_iff.1 hf).1
              rw [List.flatMap_cons]
              show (ls ++ _)[j]? = some f
              rw [List.getElem?_append_left hlt]; exact hf))
            (fun j u hu => h2 j u (by rw [List.getElem?_append_left (List.getElem?_eq_some_iff.1 hu).1]; exact hu)) (shv_len h).symm
          exact shv_vr h this
      | ptr k =>
        simp only [okArgs, Bool.and_eq_true, decide_eq_true_eq] at ha
        cases h
        exact ⟨rfl, hb k ha.1⟩
      | clo f ks =>
        simp only [okArgs, Bool.and_eq_true] at ha
        cases h
        exact ⟨rfl, fun k hk => hb k (by have := List.all_eq_true.1 ha.1 k hk; simpa using this)⟩
      | tup ss => simp [okArgs] at ha
theorem startRO_junk : ∀ (l : List RS) (i t : Nat), l.length ≤ t → startRO l i t = .junk
  | [], i, t, _ => by simp [startRO]
  | a :: l, i, 0, h => by simp at h
  | a :: l, i, t + 1, h => by
    have := startRO_junk l (i + a.fls.length) t (by simpa using h)
    cases a <;> simpa [startRO] using this
/-- A function to which data and variables are lent. -/
theorem AC.own {f : FuncId} {fn : Func} {c : Code} {args : List RS} {bx : List (List FL)} {post : RS → List (Option Leaf) → List (List FL) → Prop} (hf : P.funcs[f]? = some fn) (hb : fn.body = some c) (hn : (fn.name == "runtime.NumGoroutine") = false) (hmx : P.follows .mixedOrders = true) (hok : okC fn.ntmps c = true) (hla : args.length ≤ fn.ntmps)
    (hne : bx.all (fun l => !l.isEmpty) = true) (ha : okArgs bx.length args = true) (h : awp P c (retQO P fn.results.toList (args.flatMap RS.fls) bx.length post) (startRO args 0) (startMO args bx)) : AC P f bx args post := by
  refine ⟨⟨fn, hf, hn, by simp [hb]⟩, fun w vs cs bs S fps hsh hbun hbx hS => ?_⟩
  have hne' : ∀ l ∈ bx, l ≠ [] := fun l hl e => by have := List.all_eq_true.1 hne l hl; rw [e] at this; cases this
  let ca : List Value := cs ++ bs.flatMap BX.cs
  let g : G := ⟨S, bgs bs, fun t b => 0 < t ∧ fps (t - 1) b, fun t => ca.getD (t - 1) undef⟩
  let pb : Fence := ⟨fun b => (∃ i, fps i b) ∨ ∃ x ∈ bs, b = x.g, S, g, startMO args bx⟩
  obtain ⟨hcs, hlen⟩ := shL_len hsh
  have hbun : Bun S w (flsOf args bx) ca fps := hbun
  have hva : ∀ t, g.va (t + 1) = ca.getD t undef := fun t => rfl
  have hnx : (flsOf args bx).length < (startMO args bx).nx := by show _ < (flsOf args bx).length + bx.length + 1; omega
  have hbg : ∀ (k : Nat) b, bs[k]? = some b → bgs bs k = b.g := fun k b hk => by
    unfold bgs
    rw [List.getD_eq_getElem?_getD, List.getElem?_map, hk]; rfl
  have hbox : ∀ k, (startMO args bx).box k ≠ [] → k < bx.length := fun k hk => startBox_lt _ _ _ hk
  have hbat : ∀ k, k < bx.length → ∃ b, bs[k]? = some b ∧ b ∈ bs ∧ g.β k = b.g := fun k hk => by
    have hx := List.getElem?_eq_getElem (l := bs) (i := k) (by rw [← hbx.len]; exact hk)
    exact ⟨_, hx, List.getElem_mem _, hbg k _ hx⟩
  have htrb : ∀ k b, bs[k]? = some b → TRs g (startMO args bx) w ((startMO args bx).box k) b.cs := fun k b hk =>
    startBox_sound hbun rfl hva hnx bx bs (args.flatMap RS.fls).length k b (fun j f hf => by
        unfold flsOf
        rw [List.getElem?_append_right (by omega)]; simpa using hf)
      (fun j u hu => by
        show (cs ++ bs.flatMap BX.cs)[_]? = _
        rw [List.getElem?_append_right (by omega), hcs]; simpa using hu) hbx.len hbx.sz hk
  have htag : ∀ t l, (startMO args bx).tag t = .live l → ∃ i, t = i + 1 ∧ (flsOf args bx)[i]? = some (FL.o l) := by
    intro t l ht
    have ht : (if t = 0 then TG.gone else tagAt ((flsOf args bx)[t - 1]?)) = .live l := ht
    split at ht
    · cases ht
    · rename_i h0
      refine ⟨t - 1, by omega, ?_⟩
      unfold tagAt at ht
      split at ht
      · rename_i l' he
        injection ht with ht
        rw [he, ht]
      · cases ht
  have htagf : ∀ t l, (startMO args bx).tag t ≠ .frz l := by
    intro t l ht
    have ht : (if t = 0 then TG.gone else tagAt ((flsOf args bx)[t - 1]?)) = .frz l := ht
    split at ht
    · cases ht
    · unfold tagAt at ht
      split at ht <;> cases ht
  have hmf : MF w pb g (startMO args bx) w := by
    refine ⟨⟨fun k hk => ?_, fun k k' hk hk' he => ?_, fun k hk => ?_, fun k t l hk ht hfp => ?_, fun t l ht => ?_, fun t l ht => absurd ht (htagf t l), fun t l b ht hfp => ?_, fun t t' l l' b ht ht' hfp hfp' => ?_, hS⟩, Same.refl w, fun b _ _ => rfl, fun k hk => ?_, fun t l ht b hfp => ?_, fun b hb => .inr (.inl hb)⟩
    · have hlt := hbox k hk
      obtain ⟨b, k1, k2, k3⟩ := hbat k hlt
      refine ⟨by show k < (flsOf args bx).length + bx.length + 1; omega, b.cs, b.ty, ?_, htrb k b k1⟩
      rw [k3]
      exact (hbx.at_ b k2).1
    · have hlt := hbox k hk
      have hlt' := hbox k' hk'
      have h1 : (bs.map BX.g)[k]? = some (g.β k) := by
        obtain ⟨b, k1, k2, k3⟩ := hbat k hlt
        rw [List.getElem?_map, k1, k3]; rfl
      have h2 : (bs.map BX.g)[k']? = some (g.β k') := by
        obtain ⟨b, k1, k2, k3⟩ := hbat k' hlt'
        rw [List.getElem?_map, k1, k3]; rfl
      rw [← he] at h2
      exact (List.getElem?_inj (by rw [List.length_map, ← hbx.len]; exact hlt) hbx.nd).1 (h1.trans h2.symm)
    · obtain ⟨b, k1, k2, k3⟩ := hbat k (hbox k hk)
      rw [k3]; exact (hbx.at_ b k2).2.1
    · obtain ⟨b, k1, k2, k3⟩ := hbat k (hbox k hk)
      rw [k3] at hfp
      exact (hbx.at_ b k2).2.2 _ hfp.2
    · obtain ⟨i, rfl, hi⟩ := htag t l ht
      have hlt := (List.getElem?_eq_some_iff.1 hi).1
      have hlt' : i < ca.length := by rw [← hbun.len]; exact hlt
      refine ⟨by show i + 1 < (flsOf args bx).length + bx.length + 1; omega, ?_⟩
      have hu := List.getElem?_eq_getElem hlt'
      have : g.va (i + 1) = ca[i] := by
        rw [hva, List.getD_eq_getElem?_getD, hu]; rfl
      rw [this]
      exact (hbun.own i l _ hi hu).move (fun b hb => ⟨Nat.succ_pos _, hb⟩) (fun _ _ => rfl)
    · exact hbun.sub _ b hfp.2
    · have := hbun.dis _ _ b hfp.2 hfp'.2
      have := hfp.1
      have := hfp'.1
      omega
    · obtain ⟨b, k1, k2, k3⟩ := hbat k (hbox k hk)
      exact .inr (.inr ⟨b, k2, k3⟩)
    · exact .inr (.inl ⟨_, hfp.2⟩)
  have hsim : Sim w pb fn.ntmps g (startRO args 0) (startMO args bx) { tmps := vs.toArray ++ Array.replicate (fn.ntmps - vs.toArray.size) undef, defers := [] } w := by
    refine ⟨hmf, fun t => ?_, by simp; omega, rfl, Mv.refl _ _ _⟩
    rcases Nat.lt_or_ge t vs.length with hlt | hge
    · have := startRO_sound (m := startMO args bx) (g := g) hbun rfl hva hnx (n := bx.length) (fun k hk => startBox_ne _ _ _ hne' hk) (i := 0) ha hsh
        (fun j f hf => by
          unfold flsOf
          rw [Nat.zero_add, List.getElem?_append_left (List.getElem?_eq_some_iff.1 hf).1]; exact hf)
        (fun j u hu => by
          show (cs ++ bs.flatMap BX.cs)[_]? = _
          rw [Nat.zero_add, List.getElem?_append_left (List.getElem?_eq_some_iff.1 hu).1]; exact hu) t
      have e1 : (vs.toArray ++ Array.replicate (fn.ntmps - vs.toArray.size) undef).getD t undef = vs.toArray.getD t undef := by
        simp [Array.getD_eq_getD_getElem?, Array.getElem?_append, hlt]
      simp only [e1]
      exact this
    · rw [startRO_junk args 0 t (by omega)]
      trivial
  refine calls_of_wp hf hb (wp_mono (awp_sound hmx c hok h hsim) ?_)
  -- the end
  have fin : ∀ (r : Reg) (m : Mem) (g' : G) (a : Act) (w' : World), (match resAll P fn.results.toList r m with | some xs => (match outT xs m with | some (ys, m') => finO (args.flatMap RS.fls) bx.length ys m' post | none => False) | none => False) → Sim w pb fn.ntmps g' r m a w' →
      a.defers = [] ∧ ∃ v, (results fn a.tmps).run P w' = .ok v w' ∧ ∃ r lent bx' v' rcs bs' S' fps', post r lent bx' ∧ Ending.returned v = .returned v' ∧ Back w w' S fps bs (args.flatMap RS.fls) cs r lent bx' v' rcs bs' S' fps' := by
    intro r m g' a w' hq hs
    split at hq
    · rename_i xs hxs
      split at hq
      · rename_i ys m1 hys
        unfold finO at hq
        split at hq
        · rename_i bx' m2 hbx'
          obtain ⟨vs', v, h1, h2, h3, h4⟩ := results_sound (fn := fn) hs.mf.mem hs.regs hxs
          obtain ⟨rcs, fpsR, k1, k2⟩ := outT_sound (g := g') (w := w') hs.mf.mem.tdis (fun t l ht => (hs.mf.mem.tags t l ht).2) (fun t l ht => (hs.mf.mem.frz t l ht).2) xs vs' hys (fun _ => .inl rfl) rfl h3 h4
          have hb0 : ∀ k, k < bx.length → m.box k ≠ [] ∧ g'.β k = g.β k := fun k hk => hs.mv.β k (startBox_ne _ _ _ hne' hk)
          obtain ⟨bs', fpsB, q1, q2, q3, q4, q5⟩ := outX_sound hs.mf.mem (List.range bx.length) hbx' k2.tags k2.box (fun k hk => (hb0 k (by simpa using hk)).1)
          have ht2 : ∀ t, m2.tag t = m.tag t ∨ m2.tag t = .gone := fun t => by
            rcases q5.tags t with e | e
            · rw [e]; exact k2.tags t
            · exact .inr e
          obtain ⟨p1, fpL, p2, p3⟩ := lentAt_sound hs.mf.mem ht2 (args.flatMap RS.fls) cs 0 hcs.symm (fun j l u a b => by
            have hlt := (List.getElem?_eq_some_iff.1 a).1
            have hfl : j < (flsOf args bx).length := by unfold flsOf; simp only [List.length_append]; omega
            rw [Nat.zero_add, hs.mv.va (j + 1) (by show j + 1 < (flsOf args bx).length + bx.length + 1; omega)]
            show ca.getD (j + 1 - 1) undef = u
            rw [Nat.add_sub_cancel, List.getD_eq_getElem?_getD]
            show ((cs ++ bs.flatMap BX.cs)[j]?).getD undef = u
            rw [List.getElem?_append_left (by omega), b]; rfl)
          obtain ⟨j1, j2⟩ := mkRS_sh (bgs bs') k1 h2
          have hbsg : ∀ i, i < bs.length → bgs bs' i = bgs bs i := fun i hi => by
            have hib : i < bx.length := by rw [hbx.len]; exact hi
            obtain ⟨b', hx⟩ : ∃ b', bs'[i]? = some b' := ⟨_, List.getElem?_eq_getElem (l := bs') (i := i) (by rw [q1]; simpa using hib)⟩
            have hr : (List.range bx.length)[i]? = some i := by simp [hib]
            have e1 := (q3 i i b' hr hx).1
            have e2 : bgs bs' i = b'.g := by
              unfold bgs
              rw [List.getD_eq_getElem?_getD, List.getElem?_map, hx]; rfl
            rw [e2, e1, (hb0 i hib).2]
          have hbl : bs'.length = bs.length := by rw [q1, List.length_range, hbx.len]
          -- the parts are apart
          have bR := outed_bun hs.mf.mem (fun _ => .inl rfl) k2
          have bB := outed_bun hs.mf.mem k2.tags q5
          have live1 : ∀ t l, m1.tag t = .live l → m.tag t = .live l := fun t l a => by
            rcases k2.tags t with e | e
            · rw [← e]; exact a
            · rw [a] at e; cases e
          have live2 : ∀ t l, m2.tag t = .live l → m.tag t = .live l ∧ m1.tag t = .live l := fun t l a => by
            rcases q5.tags t with e | e
            · rw [a] at e; exact ⟨live1 t l e.symm, e.symm⟩
            · rw [a] at e; cases e
          have xRL : ∀ i j x, fpsR i x → ¬ fpL j x := fun i j x a a' => by
            obtain ⟨t, l, b1, b2, b3⟩ := k2.src i x a
            obtain ⟨t', l', _, c2, c3⟩ := p3 j x a'
            have := hs.mf.mem.tdis t t' l l' x b1 (live2 t' l' c2).1 b3 c3
            subst this
            rw [(live2 t l' c2).2] at b2; cases b2
          have xRB : ∀ i j x, fpsR i x → ¬ fpsB j x := fun i j x a a' => by
            obtain ⟨t, l, b1, b2, b3⟩ := k2.src i x a
            obtain ⟨t', l', c1, c2, c3⟩ := q5.src j x a'
            have := hs.mf.mem.tdis t t' l l' x b1 (live1 t' l' c1) b3 c3
            subst this
            rw [b2] at c1; cases c1
          have xLB : ∀ i j x, fpL i x → ¬ fpsB j x := fun i j x a a' => by
            obtain ⟨t, l, _, b2, b3⟩ := p3 i x a
            obtain ⟨t', l', c1, c2, c3⟩ := q5.src j x a'
            have := hs.mf.mem.tdis t t' l l' x (live2 t l b2).1 (live1 t' l' c1) b3 c3
            subst this
            rw [c2] at b2; cases b2
          have bAll := (bR.cat p2 xRL).cat bB (fun i j x a a' => by
            split at a
            · exact xRB _ _ x a a'
            · exact xLB _ _ x a a')
          rw [← j2] at bAll
          have hsrc : ∀ i b, (if i < ((mkRS ys).fls ++ lentO (lentAt 0 (args.flatMap RS.fls) m2)).length then (if i < (mkRS ys).fls.length then fpsR i b else fpL (i - (mkRS ys).fls.length) b) else fpsB (i - ((mkRS ys).fls ++ lentO (lentAt 0 (args.flatMap RS.fls) m2)).length) b) → ∃ t l, m.tag t = .live l ∧ g'.fp t b := by
            intro i b hib
            split at hib
            · split at hib
              · obtain ⟨t, l, b1, _, b3⟩ := k2.src _ b hib
                exact ⟨t, l, b1, b3⟩
              · obtain ⟨t, l, _, b2, b3⟩ := p3 _ b hib
                exact ⟨t, l, (live2 t l b2).1, b3⟩
            · obtain ⟨t, l, b1, _, b3⟩ := q5.src _ b hib
              exact ⟨t, l, live1 t l b1, b3⟩
          have hnotbox : ∀ b t l, m.tag t = .live l → g'.fp t b → ∀ x ∈ bs, b ≠ x.g := fun b t l ht hfp x hx he => by
            obtain ⟨k, hk⟩ := List.getElem?_of_mem hx
            have hkl : k < bx.length := by rw [hbx.len]; exact (List.getElem?_eq_some_iff.1 hk).1
            have h5 := hs.mf.mem.bfp k t l (hb0 k hkl).1 ht
            rw [(hb0 k hkl).2] at h5
            exact h5 (by show g'.fp t (bgs bs k); rw [hbg k x hk, ← he]; exact hfp)
          refine ⟨hs.defers, v, h1, mkRS ys, _, bx', v, rcs, bs', g'.S, _, hq, rfl, j1, p1, bAll, ⟨by rw [q2, q1], q4, fun b hb => ?_, ?_⟩, by omega, hbsg, fun i h5 h6 => (by omega), hs.mf.mem.Slt, fun b hb => ?_, fun i b hib => ?_, hs.mf.same, fun b h5 h6 h7 => ?_⟩
          · obtain ⟨i, hi⟩ := List.getElem?_of_mem hb
            have hil : i < bx.length := by have := (List.getElem?_eq_some_iff.1 hi).1; rw [q1] at this; simpa using this
            have hr : (List.range bx.length)[i]? = some i := by simp [hil]
            obtain ⟨e1, e2⟩ := q3 i i b hr hi
            refine ⟨e2, by rw [e1]; exact hs.mf.mem.bS i (hb0 i hil).1, fun j hj => ?_⟩
            obtain ⟨t, l, b1, b3⟩ := hsrc j b.g hj
            exact hs.mf.mem.bfp i t l (hb0 i hil).1 b1 (by rw [← e1]; exact b3)
          · have e1 : bs'.map BX.g = bs.map BX.g := by
              refine List.ext_getElem? fun i => ?_
              rcases Nat.lt_or_ge i bs.length with hi | hi
              · have := hbsg i hi
                unfold bgs at this
                rw [List.getD_eq_getElem?_getD, List.getD_eq_getElem?_getD] at this
                rw [List.getElem?_eq_getElem (by simp; omega), List.getElem?_eq_getElem (l := bs.map BX.g) (by simpa using hi)] at this ⊢
                simpa using this
              · rw [List.getElem?_eq_none (by simp; omega), List.getElem?_eq_none (by simpa using hi)]
            rw [e1]; exact hbx.nd
          · rcases hs.mf.sf b hb with h5 | h5 | h5 | ⟨x, hx, h5⟩
            · exact .inr (.inl h5)
            · exact .inl h5
            · exact .inr (.inr h5)
            · exfalso
              obtain ⟨k, hk⟩ := List.getElem?_of_mem hx
              have hkl : k < bx.length := by rw [hbx.len]; exact (List.getElem?_eq_some_iff.1 hk).1
              have h6 := hs.mf.mem.bS k (hb0 k hkl).1
              rw [(hb0 k hkl).2] at h6
              exact h6 (by show g'.S (bgs bs k); rw [hbg k x hk, ← h5]; exact hb)
          · obtain ⟨t, l, b1, b3⟩ := hsrc i b hib
            rcases hs.mf.tpb t l b1 b b3 with h5 | h5 | ⟨x, hx, h5⟩
            · exact .inl h5
            · exact .inr h5
            · exact absurd h5 (hnotbox b t l b1 b3 x hx)
          · refine hs.mf.keep b h5 (fun h8 => ?_)
            rcases h8 with ⟨i, h8⟩ | ⟨x, hx, h8⟩
            · exact h6 i h8
            · exact h7 x hx h8
        · exact hq.elim
      · exact hq.elim
    · exact hq.elim
  rintro e a w' ⟨r, m, g', hq, hs⟩
  cases e with
  | normal => exact fin r m g' a w' hq hs
  | ret => exact fin r m g' a w' hq hs
  | _ => exact hq.elim
end
end Go.Proofs.Ythhfhllfbnpcgaa.Co
