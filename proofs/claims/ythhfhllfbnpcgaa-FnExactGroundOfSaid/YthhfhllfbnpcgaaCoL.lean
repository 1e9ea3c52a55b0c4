/- The twelfth part of the theory: from a function's text on plain data to the statement 'AC' on its calls. -/
import Derived.Test.YthhfhllfbnpcgaaCoO
namespace Go.Proofs.Ythhfhllfbnpcgaa.Co
open Go
set_option linter.unusedSimpArgs false
set_option linter.unusedVariables false

def resS (P : Program) (rv : ResultVar) (r : Reg) (m : Mem) : Option (Bool × List TL) := match rv with
  | .tmp t => match r t with
    | .val b ls => some (b, ls)
    | _ => none
  | .cell a ty => match r a with
    | .ptr k off => match part P ty off (m.box k) with
      | some (.val b ls) => some (b, ls)
      | _ => none
    | _ => none
def resAll (P : Program) : List ResultVar → Reg → Mem → Option (List (Bool × List TL))
  | [], _, _ => some []
  | x :: xs, r, m => match resS P x r m, resAll P xs r m with
    | some y, some ys => some (y :: ys)
    | _, _ => none
/-- Cells handed back. -/
def outL : List TL → Mem → Option (List FL × Mem)
  | [], m => some ([], m)
  | .v l :: r, m => (outL r m).map fun p => (.v l :: p.1, p.2)
  | .nl :: r, m => (outL r m).map fun p => (.o (.ls []) :: p.1, p.2)
  | .o t :: r, m => match m.tag t with
    | .live l => (outL r (m.setTag t .gone)).map fun p => (.o l :: p.1, p.2)
    | .frz l => (outL r m).map fun p => (.v l :: p.1, p.2)
    | .gone => none
  | .s .. :: _, _ => none
def outT : List (Bool × List TL) → Mem → Option (List (Bool × List FL) × Mem)
  | [], m => some ([], m)
  | (b, ls) :: r, m => match outL ls m with
    | some (x, m1) => (outT r m1).map fun p => ((b, x) :: p.1, p.2)
    | none => none
def mkRS : List (Bool × List FL) → RS
  | [(b, ls)] => .val b ls
  | ys => .tup ys
def retQ (P : Program) (rs : List ResultVar) (post : RS → Mem → Prop) : Exit → Reg → Mem → Prop
  | .normal, r, m => match resAll P rs r m with
    | some xs => match outT xs m with
      | some (ys, m') => post (mkRS ys) m'
      | none => False
    | none => False
  | .ret, r, m => match resAll P rs r m with
    | some xs => match outT xs m with
      | some (ys, m') => post (mkRS ys) m'
      | none => False
    | none => False
  | _, _, _ => False
def flTL : FL → TL
  | .v l => .v l
  | .o l => .v l
/-- A call's registers: what is only shown. -/
def startR : List RS → Nat → Slot
  | .val b ls :: _, 0 => .val b (ls.map flTL)
  | _ :: r, t + 1 => startR r t
  | _, _ => .junk
def startM : Mem := { box := fun _ => [], tag := fun _ => .gone, nx := 1, ver := fun _ => 0 }
def allV : List RS → Bool
  | [] => true
  | .val _ ls :: r => (ls.all fun | .v _ => true | .o _ => false) && allV r
  | _ :: _ => false
section
variable {P : Program} {w0 : World} {pb : Fence} {g : G} {m : Mem} {w w' : World}

/-- Values handed back. -/
structure Outed (g : G) (m : Mem) (w : World) (fls : List FL) (cs : List Value) (m' : Mem) (fps : Nat → Nat → Prop) : Prop where
  len : fls.length = cs.length
  view : ∀ (i : Nat) l u, fls[i]? = some (FL.v l) → cs[i]? = some u → Rep g.S w l u
  own : ∀ (i : Nat) l u, fls[i]? = some (FL.o l) → cs[i]? = some u → Own w l u (fps i)
  src : ∀ i b, fps i b → ∃ t l, m.tag t = .live l ∧ m'.tag t = .gone ∧ g.fp t b
  dis : ∀ i j b, fps i b → fps j b → i = j
  tags : ∀ t, m'.tag t = m.tag t ∨ m'.tag t = .gone
  box : m'.box = m.box
theorem out_sound (hd : ∀ t t' l l' b, m.tag t = .live l → m.tag t' = .live l' → g.fp t b → g.fp t' b → t = t') (ho : ∀ t l, m.tag t = .live l → Own w l (g.va t) (g.fp t)) (hf : ∀ t l, m.tag t = .frz l → Rep g.S w l (g.va t)) :
    ∀ (ls : List TL) (cs : List Value) {m1 m' : Mem} {fls : List FL}, outL ls m1 = some (fls, m') → (∀ t, m1.tag t = m.tag t ∨ m1.tag t = .gone) → m1.box = m.box → TRs g m w ls cs →
      ∃ fps, Outed g m1 w fls cs m' fps
  | [], cs, m1, m', fls, h, h1, hb, hl => by
    injection h with h; injection h with h2 h3; subst h2; subst h3
    have hl0 := hl.len
    exact ⟨fun _ _ => False, by simpa using hl0, fun i l u h => by simp at h, fun i l u h => by simp at h, fun _ _ h => h.elim, fun _ _ _ h => h.elim, fun _ => .inl rfl, rfl⟩
  | x :: r, [], m1, m', fls, h, h1, hb, hl => by have := hl.len; simp at this
  | x :: r, c :: cs, m1, m', fls, h, h1, hb, hl => by
    have hx := hl.at_ 0 x c rfl rfl
    have plain : ∀ fl, (outL r m1).map (fun p => (fl :: p.1, p.2)) = some (fls, m') → (∀ l, fl = .v l → Rep g.S w l c) → (∀ l, fl = .o l → Own w l c (fun _ => False)) → ∃ fps, Outed g m1 w fls (c :: cs) m' fps := by
      intro fl h2 hv hw
      obtain ⟨p, hp, he⟩ := Option.map_eq_some_iff.1 h2
      injection he with he1 he2
      subst he1; subst he2
      obtain ⟨fps, k⟩ := out_sound hd ho hf r cs hp h1 hb hl.tail
      refine ⟨fun i => match i with | 0 => fun _ => False | i + 1 => fps i, by simpa using k.len, fun i l u a b => ?_, fun i l u a b => ?_, fun i b a => ?_, fun i j b a a' => ?_, k.tags, k.box⟩
      · cases i with
        | zero => injection a with a; injection b with b; subst b; exact hv l a
        | succ i => exact k.view i l u (by simpa using a) (by simpa using b)
      · cases i with
        | zero => injection a with a; injection b with b; subst b; exact hw l a
        | succ i => exact k.own i l u (by simpa using a) (by simpa using b)
      · cases i with
        | zero => exact a.elim
        | succ i => exact k.src i b a
      · cases i with
        | zero => exact a.elim
        | succ i => cases j with
          | zero => exact a'.elim
          | succ j => rw [k.dis i j b a a']
    cases x with
    | v l => exact plain _ h (fun l' e => by injection e with e; subst e; exact hx) (fun l' e => by cases e)
    | nl => exact plain _ h (fun l' e => by cases e) (fun l' e => by injection e with e; subst e; cases hx; exact .nil _)
    | s => cases h
    | o t =>
      simp only [outL] at h
      obtain ⟨_, rfl, _⟩ := hx
      split at h
      · rename_i l ht
        have ht0 : m.tag t = .live l := by
          rcases h1 t with h2 | h2
          · rw [← h2]; exact ht
          · rw [ht] at h2; cases h2
        obtain ⟨p, hp, he⟩ := Option.map_eq_some_iff.1 h
        injection he with he1 he2
        subst he1; subst he2
        have h1' : ∀ t', (m1.setTag t .gone).tag t' = m.tag t' ∨ (m1.setTag t .gone).tag t' = .gone := fun t' => by
          rw [setTag_tag]; split
          · exact .inr rfl
          · exact h1 t'
        obtain ⟨fps, k⟩ := out_sound hd ho hf r cs hp h1' hb hl.tail
        have hno : ∀ i b, fps i b → ¬ g.fp t b := by
          intro i b a a'
          obtain ⟨t', l', b1, _, b3⟩ := k.src i b a
          rw [setTag_tag] at b1
          split at b1
          · cases b1
          · rename_i hne
            have ht' : m.tag t' = .live l' := by
              rcases h1 t' with h2 | h2
              · rw [← h2]; exact b1
              · rw [b1] at h2; cases h2
            exact hne (hd t' t l' l b ht' ht0 b3 a')
        refine ⟨fun i => match i with | 0 => g.fp t | i + 1 => fps i, by simpa using k.len, fun i l' u a b => ?_, fun i l' u a b => ?_, fun i b a => ?_, fun i j b a a' => ?_, fun t' => ?_, k.box⟩
        · cases i with
          | zero => injection a with a; cases a
          | succ i => exact k.view i l' u (by simpa using a) (by simpa using b)
        · cases i with
          | zero => injection a with a; injection b with b; injection a with a; subst a; subst b; exact ho t l ht0
          | succ i => exact k.own i l' u (by simpa using a) (by simpa using b)
        · cases i with
          | zero =>
            refine ⟨t, l, ht, ?_, a⟩
            rcases k.tags t with h2 | h2
            · rw [h2, setTag_tag, if_pos rfl]
            · exact h2
          | succ i =>
            obtain ⟨t', l', b1, b2, b3⟩ := k.src i b a
            rw [setTag_tag] at b1
            split at b1
            · cases b1
            · exact ⟨t', l', b1, b2, b3⟩
        · cases i with
          | zero => cases j with
            | zero => rfl
            | succ j => exact absurd a (hno j b a')
          | succ i => cases j with
            | zero => exact absurd a' (hno i b a)
            | succ j => rw [k.dis i j b a a']
        · rcases k.tags t' with h2 | h2
          · rw [h2, setTag_tag]; split
            · exact .inr rfl
            · exact .inl rfl
          · exact .inr h2
      · rename_i l ht
        have ht0 : m.tag t = .frz l := by
          rcases h1 t with h2 | h2
          · rw [← h2]; exact ht
          · rw [ht] at h2; cases h2
        exact plain _ h (fun l' e => by injection e with e; subst e; exact hf t l ht0) (fun l' e => by cases e)
      · cases h
/-- Several values handed back. -/
theorem outT_sound (hd : ∀ t t' l l' b, m.tag t = .live l → m.tag t' = .live l' → g.fp t b → g.fp t' b → t = t') (ho : ∀ t l, m.tag t = .live l → Own w l (g.va t) (g.fp t)) (hf : ∀ t l, m.tag t = .frz l → Rep g.S w l (g.va t)) :
    ∀ (xs : List (Bool × List TL)) (vs : List Value) {m1 m' : Mem} {ys : List (Bool × List FL)}, outT xs m1 = some (ys, m') → (∀ t, m1.tag t = m.tag t ∨ m1.tag t = .gone) → m1.box = m.box →
      xs.length = vs.length → (∀ (i : Nat) b ls u, xs[i]? = some (b, ls) → vs[i]? = some u → VR g m w b ls u) → ∃ cs fps, ShT ys vs cs ∧ Outed g m1 w (ys.flatMap (·.2)) cs m' fps
  | [], [], m1, m', ys, h, h1, hb, hl, hv => by
    injection h with h; injection h with h2 h3; subst h2; subst h3
    exact ⟨[], fun _ _ => False, .nil, rfl, fun i l u h => by simp at h, fun i l u h => by simp at h, fun _ _ h => h.elim, fun _ _ _ h => h.elim, fun _ => .inl rfl, rfl⟩
  | (b, ls) :: r, v :: vs, m1, m', ys, h, h1, hb, hl, hv => by
    simp only [outT] at h
    split at h
    · rename_i x m2 hx
      obtain ⟨p, hp, he⟩ := Option.map_eq_some_iff.1 h
      injection he with he1 he2
      subst he1; subst he2
      have hv0 := hv 0 b ls v rfl rfl
      have key : ∃ cs0 : List Value, TRs g m w ls cs0 ∧ (∀ fls : List FL, fls.length = ls.length → ShV b fls v cs0) := by
        cases b with
        | true => obtain ⟨cs0, rfl, hc⟩ := hv0; exact ⟨cs0, hc, fun fls hl => .agg _ _ (by rw [hl, hc.len])⟩
        | false =>
          obtain ⟨z, rfl, hz⟩ := hv0
          refine ⟨[v], TRs.one hz, fun fls hl => ?_⟩
          match fls, hl with
          | [fl], _ => exact .one fl v hz.one
      obtain ⟨cs0, j1, j2⟩ := key
      obtain ⟨fps1, k1⟩ := out_sound hd ho hf ls cs0 hx h1 hb j1
      have htags : ∀ t, m2.tag t = m.tag t ∨ m2.tag t = .gone := fun t => by
        rcases k1.tags t with h2 | h2
        · rw [h2]; exact h1 t
        · exact .inr h2
      obtain ⟨cs, fps2, k2, k3⟩ := outT_sound hd ho hf r vs hp htags (k1.box.trans hb) (by simpa using hl) (fun i b' ls' u a c => hv (i + 1) b' ls' u (by simpa using a) (by simpa using c))
      have hlx : x.length = cs0.length := k1.len
      have hm0 : ∀ t l, m1.tag t = .live l → m.tag t = .live l := fun t l a => by
        rcases h1 t with h2 | h2
        · rw [← h2]; exact a
        · rw [a] at h2; cases h2
      refine ⟨cs0 ++ cs, fun i b' => if i < x.length then fps1 i b' else fps2 (i - x.length) b', .cons (j2 x (by rw [hlx, j1.len])) k2, ?_, fun i l u a c => ?_, fun i l u a c => ?_, fun i b' a => ?_, fun i j b' a a' => ?_, fun t => ?_, k3.box.trans k1.box⟩
      · simp [hlx, k3.len]
      · simp only [List.flatMap_cons] at a
        rcases Nat.lt_or_ge i x.length with hi | hi
        · rw [List.getElem?_append_left hi] at a
          rw [List.getElem?_append_left (by omega)] at c
          exact k1.view i l u a c
        · rw [List.getElem?_append_right hi] at a
          rw [List.getElem?_append_right (by omega), ← hlx] at c
          exact k3.view _ l u a c
      · simp only [List.flatMap_cons] at a
        rcases Nat.lt_or_ge i x.length with hi | hi
        · rw [List.getElem?_append_left hi] at a
          rw [List.getElem?_append_left (by omega)] at c
          simp only [hi, if_true]
          exact k1.own i l u a c
        · rw [List.getElem?_append_right hi] at a
          rw [List.getElem?_append_right (by omega), ← hlx] at c
          simp only [Nat.not_lt.2 hi, if_false]
          exact k3.own _ l u a c
      · split at a
        · obtain ⟨t, l, b1, b2, b3⟩ := k1.src i b' a
          refine ⟨t, l, b1, ?_, b3⟩
          rcases k3.tags t with h2 | h2
          · rw [h2]; exact b2
          · exact h2
        · obtain ⟨t, l, b1, b2, b3⟩ := k3.src _ b' a
          refine ⟨t, l, ?_, b2, b3⟩
          rcases k1.tags t with h2 | h2
          · rw [← h2]; exact b1
          · rw [b1] at h2; cases h2
      · have cross : ∀ i1 i2, fps1 i1 b' → ¬ fps2 i2 b' := by
          intro i1 i2 a1 a2
          obtain ⟨t, l, b1, b2, b3⟩ := k1.src i1 b' a1
          obtain ⟨t', l', c1, c2, c3⟩ := k3.src i2 b' a2
          have hc1 : m1.tag t' = .live l' := by
            rcases k1.tags t' with h2 | h2
            · rw [← h2]; exact c1
            · rw [c1] at h2; cases h2
          have := hd t t' l l' b' (hm0 t l b1) (hm0 t' l' hc1) b3 c3
          subst this
          rw [b2] at c1; cases c1
        split at a <;> split at a'
        · exact k1.dis i j b' a a'
        · exact absurd a' (cross _ _ a)
        · exact absurd a (cross _ _ a')
        · have := k3.dis _ _ b' a a'; omega
      · rcases k3.tags t with h2 | h2
        · rw [h2]; exact k1.tags t
        · exact .inr h2
    · cases h
  | [], _ :: _, _, _, _, _, _, _, hl, _ => by simp at hl
  | _ :: _, [], _, _, _, _, _, _, hl, _ => by simp at hl
theorem resS_sound {rv : ResultVar} {r : Reg} {a : Act} {b : Bool} {ls : List TL} (h : resS P rv r m = some (b, ls)) (hm : MemR g m w) (hr : ∀ t, SR g m w (r t) (a.tmps.getD t undef)) :
    ∃ v, (match rv with
      | .tmp t => pure (a.tmps.getD t undef)
      | .cell x t => do loadVar t (← asAddr (a.tmps.getD x undef)) : Sem Value).run P w = .ok v w ∧ VR g m w b ls v := by
  unfold resS at h
  split at h
  · rename_i t
    split at h
    · rename_i b' ls' hx
      injection h with h; injection h with h1 h2; subst h1; subst h2
      have hv := hr t
      rw [hx] at hv
      exact ⟨_, rfl, hv⟩
    · cases h
  · rename_i x ty
    split at h
    · rename_i k off hx
      split at h
      · rename_i b' ls' hp
        injection h with h; injection h with h1 h2; subst h1; subst h2
        have hv := hr x
        rw [hx] at hv
        obtain ⟨he, hk⟩ := hv
        obtain ⟨_, cs, ty', hb, hcs⟩ := hm.boxes k hk
        obtain ⟨u, hu, hs⟩ := part_load (b := g.β k) (o := 0) hp hcs (fun j v hj => by simp only [World.cell?, hb]; simpa using hj)
        refine ⟨u, ?_, hs⟩
        simp only [he, asAddr, Sem.run_bind, Sem.run_pure, Result.andThen_ok]
        simpa using hu
      · cases h
    · cases h
theorem resAll_sound {r : Reg} {a : Act} (hm : MemR g m w) (hr : ∀ t, SR g m w (r t) (a.tmps.getD t undef)) : ∀ (rs : List ResultVar) {xs : List (Bool × List TL)}, resAll P rs r m = some xs →
    ∃ vs : List Value, (rs.mapM (fun | .tmp t => pure (a.tmps.getD t undef) | .cell x t => do loadVar t (← asAddr (a.tmps.getD x undef)) : ResultVar → Sem Value)).run P w = .ok vs w ∧ xs.length = vs.length ∧
      ∀ (i : Nat) b ls u, xs[i]? = some (b, ls) → vs[i]? = some u → VR g m w b ls u
  | [], xs, h => by
    injection h with h; subst h
    exact ⟨[], by simp, rfl, fun i b ls u h => by simp at h⟩
  | x :: rs, xs, h => by
    simp only [resAll] at h
    split at h
    · rename_i y ys h1 h2
      injection h with h; subst h
      obtain ⟨vs, k1, k2, k3⟩ := resAll_sound hm hr rs h2
      obtain ⟨v, j1, j2⟩ := resS_sound (P := P) (rv := x) (b := y.1) (ls := y.2) h1 hm hr
      refine ⟨v :: vs, ?_, by simp [k2], fun i b ls u a c => ?_⟩
      · rw [List.mapM_cons]
        simp only [Sem.run_bind, j1, Result.andThen_ok, k1, Sem.run_pure]
      · cases i with
        | zero => injection a with a; injection c with c; subst a; subst c; exact j2
        | succ i => exact k3 i b ls u (by simpa using a) (by simpa using c)
    · cases h
theorem results_sound {fn : Func} {r : Reg} {a : Act} {xs : List (Bool × List TL)} (hm : MemR g m w) (hr : ∀ t, SR g m w (r t) (a.tmps.getD t undef)) (h : resAll P fn.results.toList r m = some xs) :
    ∃ (vs : List Value) (v : Value), (results fn a.tmps).run P w = .ok v w ∧ ((∃ u, vs = [u] ∧ v = u) ∨ (vs.length ≠ 1 ∧ v = .tuple vs.toArray)) ∧ xs.length = vs.length ∧ ∀ (i : Nat) b ls u, xs[i]? = some (b, ls) → vs[i]? = some u → VR g m w b ls u := by
  obtain ⟨vs, h1, h2, h3⟩ := resAll_sound (P := P) hm hr fn.results.toList h
  have hrun : (fn.results.mapM (fun | .tmp t => pure (a.tmps.getD t undef) | .cell x t => do loadVar t (← asAddr (a.tmps.getD x undef)) : ResultVar → Sem Value)).run P w = .ok vs.toArray w := by
    rw [← Array.toArray_toList (xs := fn.results), List.mapM_toArray, Sem.run_map, h1]
    rfl
  have hres : (results fn a.tmps).run P w = .ok (if h : vs.toArray.size = 1 then vs.toArray[0] else .tuple vs.toArray) w := by
    unfold results
    rw [Sem.run_bind]
    exact congrArg (fun x => Result.andThen x _) hrun
  by_cases hl : vs.length = 1
  · obtain ⟨u, rfl⟩ := List.length_eq_one_iff.1 hl
    exact ⟨[u], u, hres, .inl ⟨u, rfl, rfl⟩, h2, h3⟩
  · rw [dif_neg (by simpa using hl)] at hres
    exact ⟨vs, .tuple vs.toArray, hres, .inr ⟨hl, rfl⟩, h2, h3⟩

theorem mkRS_sh (gb : Nat → Nat) {ys : List (Bool × List FL)} {vs cs : List Value} {v : Value} (h : ShT ys vs cs) (hv : (∃ u, vs = [u] ∧ v = u) ∨ (vs.length ≠ 1 ∧ v = .tuple vs.toArray)) :
    Sh gb (mkRS ys) v cs ∧ (mkRS ys).fls = ys.flatMap (·.2) := by
  have hlen : ys.length = vs.length := by
    clear hv
    induction h with
    | nil => rfl
    | cons h hs ih => simp [ih]
  rcases hv with ⟨u, rfl, rfl⟩ | ⟨hne, rfl⟩
  · cases h with
    | @cons b ls v cs ss vs css h hs =>
      cases hs
      simp only [List.append_nil]
      exact ⟨.val h, by simp [mkRS, RS.fls]⟩
  · have : mkRS ys = .tup ys := by
      unfold mkRS
      split
      · simp at hlen; omega
      · rfl
    rw [this]
    exact ⟨.tup h, rfl⟩
theorem startR_sound {S : Nat → Prop} : ∀ {args : List RS} {gb : Nat → Nat} {vs cs : List Value}, allV args = true → ShL gb args vs cs → (∀ (i : Nat) l u, (args.flatMap RS.fls)[i]? = some (FL.v l) → cs[i]? = some u → Rep S w l u) → g.S = S →
    args.length = vs.length ∧ ∀ t, SR g m w (startR args t) (vs.toArray.getD t undef)
  | [], gb, vs, cs, _, h, hr, he => by
    cases h
    exact ⟨rfl, fun t => by simp only [startR]; trivial⟩
  | r :: rs, gb, vs, cs, ha, h, hr, he => by
    cases h with
    | @cons _ v cs0 _ vs css h hs =>
      cases r with
      | val b ls =>
        simp only [allV, Bool.and_eq_true] at ha
        cases h with
        | val h =>
          simp only [List.flatMap_cons, RS.fls] at hr
          have hl := shv_len h
          obtain ⟨k1, k2⟩ := startR_sound ha.2 hs (fun i l u a c => hr (ls.length + i) l u (by rw [List.getElem?_append_right (by omega)]; simpa using a) (by rw [← hl, List.getElem?_append_right (by omega)]; simpa using c)) he
          refine ⟨by simp [k1], fun t => ?_⟩
          cases t with
          | zero =>
            simp only [startR]
            have htr : TRs g m w (ls.map flTL) cs0 := by
              refine ⟨by simp [hl], fun i x u hx hu => ?_⟩
              rw [List.getElem?_map] at hx
              obtain ⟨fl, hf, rfl⟩ := Option.map_eq_some_iff.1 hx
              have hv := List.all_eq_true.1 ha.1 fl (List.mem_of_getElem? hf)
              cases fl with
              | o l => simp at hv
              | v l =>
                have hi : i < ls.length := (List.getElem?_eq_some_iff.1 hf).1
                have := hr i l u (by rw [List.getElem?_append_left hi]; exact hf) (by rw [List.getElem?_append_left (by omega)]; exact hu)
                rw [← he] at this
                exact this
            have := shv_vr h htr
            show VR g m w b (ls.map flTL) _
            simpa using this
          | succ t => simpa [startR] using k2 t
      | ptr => simp [allV] at ha
      | clo => simp [allV] at ha
      | tup => simp [allV] at ha
theorem allV_own : ∀ {args : List RS}, allV args = true → ∀ (i : Nat) fl, (args.flatMap RS.fls)[i]? = some fl → ∃ l, fl = .v l
  | [], _, i, fl, h => by simp at h
  | .val b ls :: r, ha, i, fl, h => by
    simp only [allV, Bool.and_eq_true] at ha
    have hm : fl ∈ ls ++ r.flatMap RS.fls := List.mem_of_getElem? (by simpa [RS.fls] using h)
    rcases List.mem_append.1 hm with hm | hm
    · have := List.all_eq_true.1 ha.1 fl hm
      cases fl with
      | v l => exact ⟨l, rfl⟩
      | o l => simp at this
    · obtain ⟨j, hj, he⟩ := List.mem_iff_getElem.1 hm
      exact allV_own ha.2 j fl (List.getElem?_eq_some_iff.2 ⟨hj, he⟩)
  | .ptr _ :: r, ha, _, _, _ => by simp [allV] at ha
  | .clo _ _ :: r, ha, _, _, _ => by simp [allV] at ha
  | .tup _ :: r, ha, _, _, _ => by simp [allV] at ha
/-- A function to which data is only shown. -/
theorem AC.pure {f : FuncId} {fn : Func} {c : Code} {args : List RS} {post : RS → Prop} (hf : P.funcs[f]? = some fn) (hb : fn.body = some c) (hn : (fn.name == "runtime.NumGoroutine") = false) (hmx : P.follows .mixedOrders = true) (hok : okC fn.ntmps c = true) (hla : args.length ≤ fn.ntmps)
    (ha : allV args = true) (h : awp P c (retQ P fn.results.toList fun r _ => post r) (startR args) startM) : AC P f [] args (fun r _ _ => post r) := by
  refine ⟨⟨fn, hf, hn, by simp [hb]⟩, fun w vs cs bs S fps hsh hbun hbl hS => ?_⟩
  let g : G := ⟨S, fun _ => 0, fun _ _ => False, fun _ => undef⟩
  let pb : Fence := ⟨fun _ => False, S, g, startM⟩
  have hbs : bs = [] := List.eq_nil_of_length_eq_zero (by simpa using hbl.len.symm)
  subst hbs
  simp only [List.flatten_nil, List.flatMap_nil, List.append_nil] at hbun
  obtain ⟨hlen, hregs⟩ := startR_sound (w := w) (g := g) (m := startM) (S := S) ha hsh hbun.view rfl
  have hmf : MF w pb g startM w := by
    refine ⟨⟨fun k hk => absurd rfl hk, fun k k' hk => absurd rfl hk, fun k hk => absurd rfl hk, fun k t l hk => absurd rfl hk, fun t l h => ?_, fun t l h => ?_, fun t l b h => ?_, fun t t' l l' b h => ?_, hS⟩, Same.refl w, fun b _ _ => rfl, fun k hk => absurd rfl hk, fun t l h => ?_, fun b hb => .inr (.inl hb)⟩ <;> cases h
  have hsim : Sim w pb fn.ntmps g (startR args) startM { tmps := vs.toArray ++ Array.replicate (fn.ntmps - vs.toArray.size) undef, defers := [] } w := by
    refine ⟨hmf, fun t => ?_, by simp; omega, rfl, Mv.refl _ _ _⟩
    rcases Nat.lt_or_ge t vs.length with hlt | hge
    · have := hregs t
      have e1 : (vs.toArray ++ Array.replicate (fn.ntmps - vs.toArray.size) undef).getD t undef = vs.toArray.getD t undef := by
        simp [Array.getD_eq_getD_getElem?, Array.getElem?_append, hlt]
      simp only [e1]
      exact this
    · have : startR args t = .junk := by
        have key : ∀ (l : List RS) (t : Nat), l.length ≤ t → startR l t = .junk := by
          intro l
          induction l with
          | nil => intro t _; simp [startR]
          | cons a l ih =>
            intro t ht
            cases t with
            | zero => simp at ht
            | succ t =>
              have := ih t (by simpa using ht)
              cases a <;> simpa [startR] using this
        exact key args t (by omega)
      rw [this]
      trivial
  refine calls_of_wp hf hb (wp_mono (awp_sound hmx c hok h hsim) ?_)
  -- the end
  have fin : ∀ (r : Reg) (m : Mem) (g' : G) (a : Act) (w' : World), (match resAll P fn.results.toList r m with | some xs => (match outT xs m with | some (ys, _) => post (mkRS ys) | none => False) | none => False) → Sim w pb fn.ntmps g' r m a w' →
      a.defers = [] ∧ ∃ v, (results fn a.tmps).run P w' = .ok v w' ∧ ∃ r lent bx' v' rcs bs' S' fps', post r ∧ Ending.returned v = .returned v' ∧ Back w w' S fps [] (args.flatMap RS.fls) cs r lent bx' v' rcs bs' S' fps' := by
    intro r m g' a w' hq hs
    split at hq
    · rename_i xs hxs
      split at hq
      · rename_i ys m' hys
        obtain ⟨vs', v, h1, h2, h3, h4⟩ := results_sound (fn := fn) hs.mf.mem hs.regs hxs
        obtain ⟨rcs, fps', k1, k2⟩ := outT_sound (g := g') (w := w') hs.mf.mem.tdis (fun t l ht => (hs.mf.mem.tags t l ht).2) (fun t l ht => (hs.mf.mem.frz t l ht).2) xs vs' hys (fun _ => .inl rfl) rfl h3 h4
        obtain ⟨j1, j2⟩ := mkRS_sh (bgs []) k1 h2
        refine ⟨hs.defers, v, h1, mkRS ys, [], [], v, rcs, [], g'.S, fps', hq, rfl, ?_⟩
        have hown : ownN (args.flatMap RS.fls) = 0 := ownN_views _ (allV_own ha)
        have hnew : ∀ i b, fps' i b → w.heap.size ≤ b ∧ ¬ g'.S b ∧ b < w'.heap.size := fun i b hib => by
          obtain ⟨t, l, b1, _, b3⟩ := k2.src i b hib
          obtain ⟨c1, c2⟩ := hs.mf.mem.tS t l b b1 b3
          rcases hs.mf.tpb t l b1 b b3 with h5 | h5
          · exact ⟨h5, c1, c2⟩
          · exact h5.elim
        refine ⟨j1, by rw [hown]; rfl, ?_, ⟨rfl, fun i l b h => by simp at h, (fun b h => by cases h), List.nodup_nil⟩, Nat.le_refl _, (fun i h => by cases h), (fun i _ h => by cases h), hs.mf.mem.Slt, fun b hb => ?_, fun i b hib => .inl (hnew i b hib).1, hs.mf.same, fun b hb _ _ => hs.mf.keep b hb (fun h => h)⟩
        · rw [j2]
          simp only [lentO, List.flatten_nil, List.append_nil, lentV, List.flatMap_nil]
          exact ⟨k2.len, k2.view, k2.own, fun i b hib => (hnew i b hib).2, k2.dis⟩
        · rcases hs.mf.sf b hb with h5 | h5 | h5
          · exact .inr (.inl h5)
          · exact .inl h5
          · exact h5.elim
      · exact hq.elim
    · exact hq.elim
  rintro e a w' ⟨r, m, g', hq, hs⟩
  cases e with
  | normal => exact fin r m g' a w' hq hs
  | ret => exact fin r m g' a w' hq hs
  | _ => exact hq.elim
end
end Go.Proofs.Ythhfhllfbnpcgaa.Co
