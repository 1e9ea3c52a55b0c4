/- The tenth part of the theory: a call of a function whose statement ('AC') is known, only data being shown to it. -/
import Derived.Test.YthhfhllfbnpcgaaCoI
namespace Go.Proofs.Ythhfhllfbnpcgaa.Co
open Go
set_option linter.unusedSimpArgs false
set_option linter.unusedVariables false

/-- Data that comes back gets its registers. -/
def bindM : List FL → Mem → List TL × Mem
  | [], m => ([], m)
  | .v l :: r, m => (.v l :: (bindM r m).1, (bindM r m).2)
  | .o l :: r, m => (.o m.nx :: (bindM r (m.newTag l)).1, (bindM r (m.newTag l)).2)
def bindT : List (Bool × List FL) → Mem → List (Bool × List TL) × Mem
  | [], m => ([], m)
  | (b, ls) :: r, m => ((b, (bindM ls m).1) :: (bindT r (bindM ls m).2).1, (bindT r (bindM ls m).2).2)
def FL.isView : FL → Bool
  | .v (.ls _) => true
  | _ => false
/-- What a call's arguments show. -/
def showL (m : Mem) : List TL → Option (List FL)
  | [] => some []
  | x :: r => match m.leaf x, showL m r with
    | some l, some ls => some (.v l :: ls)
    | _, _ => none
def showS (m : Mem) : List Slot → Option (List RS)
  | [] => some []
  | .val b ls :: r => match showL m ls, showS m r with
    | some x, some y => some (.val b x :: y)
    | _, _ => none
  | _ :: _ => none
def slotL : List Slot → List TL
  | [] => []
  | .val _ ls :: r => ls ++ slotL r
  | _ :: r => slotL r
def frzL (m : Mem) : List TL → Mem
  | [] => m
  | .o t :: r => frzL (frzT m t) r
  | .s t _ _ _ _ :: r => frzL (frzT m t) r
  | _ :: r => frzL m r
def retK (r : RS) (m : Mem) (xs : List TL) (K : Slot → Mem → Prop) : Prop := match r with
  | .val b ls => K (.val b (bindM ls (if ls.any FL.isView then frzL m xs else m)).1) (bindM ls (if ls.any FL.isView then frzL m xs else m)).2
  | .tup ss => K (.tup (bindT ss (if ss.any (fun p => p.2.any FL.isView) then frzL m xs else m)).1) (bindT ss (if ss.any (fun p => p.2.any FL.isView) then frzL m xs else m)).2
  | _ => False
def callPure (P : Program) (f : FuncId) (ss : List Slot) (m : Mem) (K : Slot → Mem → Prop) : Prop := match showS m ss with
  | some args => AC P f [] args fun r _ _ => retK r m (slotL ss) K
  | none => False
section
variable {P : Program} {w0 : World} {pb : Fence} {g : G} {m : Mem} {w w' : World}

/-- Own data that comes back. -/
theorem bind_sound : ∀ (fls : List FL) (vs : List Value) {g : G} {m : Mem} (fps : Nat → Nat → Prop), MF w0 pb g m w → fls.length = vs.length →
    (∀ (i : Nat) l u, fls[i]? = some (FL.v l) → vs[i]? = some u → Rep g.S w l u) → (∀ (i : Nat) l u, fls[i]? = some (FL.o l) → vs[i]? = some u → Own w l u (fps i)) →
    (∀ i, Free w0 pb g m w (fps i)) → (∀ i j b, fps i b → fps j b → i = j) →
    ∃ g', MF w0 pb g' (bindM fls m).2 w ∧ Mv g m w g' (bindM fls m).2 w ∧ TRs g' (bindM fls m).2 w (bindM fls m).1 vs ∧ g'.S = g.S ∧
      ∀ fp2, Free w0 pb g m w fp2 → (∀ i b, fp2 b → ¬ fps i b) → Free w0 pb g' (bindM fls m).2 w fp2
  | [], vs, g, m, fps, hm, hl, _, _, _, _ => by
    refine ⟨g, hm, Mv.refl _ _ _, ⟨by simpa [bindM] using hl, fun i x u h => by simp [bindM] at h⟩, rfl, fun fp2 h _ => h⟩
  | fl :: r, [], g, m, fps, hm, hl, _, _, _, _ => by simp at hl
  | .v l :: r, v :: vs, g, m, fps, hm, hl, hv, ho, hf, hd => by
    obtain ⟨g', h1, h2, h3, h4, h5⟩ := bind_sound r vs (fun i => fps (i + 1)) hm (by simpa using hl) (fun i l u h h' => hv (i + 1) l u (by simpa using h) (by simpa using h')) (fun i l u h h' => ho (i + 1) l u (by simpa using h) (by simpa using h')) (fun i => hf (i + 1)) (fun i j b h h' => by have := hd _ _ b h h'; omega)
    refine ⟨g', h1, h2, ⟨by simp [bindM, h3.len], fun i x u hx hu => ?_⟩, h4, fun fp2 k1 k2 => h5 fp2 k1 (fun i b hb => k2 (i + 1) b hb)⟩
    cases i with
    | zero => injection hx with hx; injection hu with hu; subst hx; subst hu; exact (hv 0 l v rfl rfl).move (fun b hb => (h2.S b hb).1) (fun _ _ => rfl)
    | succ i => exact h3.at_ i x u (by simpa [bindM] using hx) (by simpa using hu)
  | .o l :: r, v :: vs, g, m, fps, hm, hl, hv, ho, hf, hd => by
    obtain ⟨g1, k1, k2, k3, k4, k5, k6, k7⟩ := hm.own' (ho 0 l v rfl rfl) (hf 0)
    have hfree : ∀ fp2, Free w0 pb g m w fp2 → (∀ b, fp2 b → ¬ fps 0 b) → Free w0 pb g1 (m.newTag l) w fp2 := by
      intro fp2 hf2 hd2
      refine ⟨fun b hb => by rw [k4]; exact hf2.S b hb, fun b k hb hk => by rw [k5]; exact hf2.box b k hb hk, fun b t l' hb ht => ?_, hf2.pb⟩
      by_cases he : t = m.nx
      · rw [he, k6]; exact hd2 b hb
      · rw [k7 t he]
        rw [newTag_tag, if_neg he] at ht
        exact hf2.tag b t l' hb ht
    obtain ⟨g', h1, h2, h3, h4, h5⟩ := bind_sound r vs (fun i => fps (i + 1)) k1 (by simpa using hl) (fun i l u h h' => by rw [k4]; exact hv (i + 1) l u (by simpa using h) (by simpa using h')) (fun i l u h h' => ho (i + 1) l u (by simpa using h) (by simpa using h'))
      (fun i => hfree _ (hf (i + 1)) (fun b hb hb0 => by have := hd _ _ b hb hb0; omega)) (fun i j b h h' => by have := hd _ _ b h h'; omega)
    refine ⟨g', h1, k2.trans h2, ⟨by simp [bindM, h3.len], fun i x u hx hu => ?_⟩, h4.trans k4, fun fp2 j1 j2 => h5 fp2 (hfree fp2 j1 (j2 0)) (fun i b hb => j2 (i + 1) b hb)⟩
    cases i with
    | zero => injection hx with hx; injection hu with hu; subst hx; subst hu; exact (vr_one k3).mv h2
    | succ i => exact h3.at_ i x u (by simpa [bindM] using hx) (by simpa using hu)
theorem shv_len {b : Bool} {ls : List FL} {v : Value} {cs : List Value} (h : ShV b ls v cs) : cs.length = ls.length := by cases h <;> simp_all
theorem shv_vr {b : Bool} {ls : List FL} {v : Value} {cs : List Value} {xs : List TL} (h : ShV b ls v cs) (hx : TRs g m w xs cs) : VR g m w b xs v := by
  cases h with
  | agg ls cs hl => exact ⟨cs, rfl, hx⟩
  | one l v h1 =>
    have hl := hx.len
    match xs, hl with
    | [x], _ => exact ⟨x, rfl, hx.at_ 0 x v rfl rfl⟩
theorem bindT_sound : ∀ (ss : List (Bool × List FL)) (vs cs : List Value) {g : G} {m : Mem} (fps : Nat → Nat → Prop), MF w0 pb g m w → ShT ss vs cs →
    (∀ (i : Nat) l u, (ss.flatMap (·.2))[i]? = some (FL.v l) → cs[i]? = some u → Rep g.S w l u) → (∀ (i : Nat) l u, (ss.flatMap (·.2))[i]? = some (FL.o l) → cs[i]? = some u → Own w l u (fps i)) →
    (∀ i, Free w0 pb g m w (fps i)) → (∀ i j b, fps i b → fps j b → i = j) →
    ∃ g', MF w0 pb g' (bindT ss m).2 w ∧ Mv g m w g' (bindT ss m).2 w ∧ SR g' (bindT ss m).2 w (.tup (bindT ss m).1) (.tuple vs.toArray)
  | [], _, _, g, m, fps, hm, h, _, _, _, _ => by
    cases h
    exact ⟨g, hm, Mv.refl _ _ _, [], rfl, rfl, fun i b ls u h => by simp [bindT] at h⟩
  | (b, ls) :: r, _, _, g, m, fps, hm, h, hv, ho, hf, hd => by
    cases h with
    | @cons _ _ v cs _ vs css h hs =>
    have hl := shv_len h
    simp only [List.flatMap_cons] at hv ho
    have inl : ∀ (i : Nat) x, ls[i]? = some x → i < ls.length ∧ (ls ++ r.flatMap (·.2))[i]? = some x := fun i x hx => by
      have hlt := (List.getElem?_eq_some_iff.1 hx).1
      exact ⟨hlt, by rw [List.getElem?_append_left hlt]; exact hx⟩
    have inv : ∀ (i : Nat) x, cs[i]? = some x → (cs ++ css)[i]? = some x := fun i x hx => by rw [List.getElem?_append_left (List.getElem?_eq_some_iff.1 hx).1]; exact hx
    have hf0 : ∀ i, Free w0 pb g m w (fun b => i < ls.length ∧ fps i b) := fun i => (hf i).mono (fun b hb => hb.2)
    obtain ⟨g1, k1, k2, k3, k4, k5⟩ := bind_sound ls cs (fun i b => i < ls.length ∧ fps i b) hm hl.symm (fun i l u h1 h2 => hv i l u (inl i _ h1).2 (inv i _ h2))
      (fun i l u h1 h2 => (ho i l u (inl i _ h1).2 (inv i _ h2)).move (fun b hb => ⟨(inl i _ h1).1, hb⟩) (fun _ _ => rfl)) hf0 (fun i j b h h' => hd i j b h.2 h'.2)
    have shift : ∀ (i : Nat) x, (r.flatMap (·.2))[i]? = some x → (ls ++ r.flatMap (·.2))[ls.length + i]? = some x := fun i x hx => by rw [List.getElem?_append_right (by omega)]; simpa using hx
    have shiftv : ∀ (i : Nat) x, css[i]? = some x → (cs ++ css)[ls.length + i]? = some x := fun i x hx => by rw [← hl, List.getElem?_append_right (by omega)]; simpa using hx
    obtain ⟨g2, j1, j2, j3⟩ := bindT_sound r vs css (fun i => fps (ls.length + i)) k1 hs (fun i l u h1 h2 => by rw [k4]; exact hv _ l u (shift i _ h1) (shiftv i _ h2)) (fun i l u h1 h2 => ho _ l u (shift i _ h1) (shiftv i _ h2))
      (fun i => k5 _ (hf _) (fun i' b hb hb2 => by have := hd _ _ b hb hb2.2; omega)) (fun i j b h h' => by have := hd _ _ b h h'; omega)
    obtain ⟨vs', h1, h2, h3⟩ := j3
    have hvs : vs = vs' := by simpa using h1
    subst hvs
    refine ⟨g2, j1, k2.trans j2, v :: vs, rfl, by simp [bindT, h2], fun i b' ls' u hi hu => ?_⟩
    cases i with
    | zero =>
      injection hi with hi; injection hu with hu
      injection hi with hi1 hi2
      subst hi1; subst hi2; subst hu
      exact (shv_vr h k3).mv j2
    | succ i => exact h3 i b' ls' u (by simpa [bindT] using hi) (by simpa using hu)

/-- Registers and their values, in line. -/
inductive SRs (g : G) (m : Mem) (w : World) : List Slot → List Value → Prop
  | nil : SRs g m w [] []
  | cons {s : Slot} {v : Value} {ss : List Slot} {vs : List Value} (h : SR g m w s v) (hs : SRs g m w ss vs) : SRs g m w (s :: ss) (v :: vs)
theorem SRs.map {ρ : Operand → Slot} {ev : Operand → Value} (h : ∀ x, SR g m w (ρ x) (ev x)) : ∀ l : List Operand, SRs g m w (l.map ρ) (l.map ev)
  | [] => .nil
  | x :: r => .cons (h x) (SRs.map h r)
theorem SRs.append {a b : List Slot} {c d : List Value} (h : SRs g m w a c) (k : SRs g m w b d) : SRs g m w (a ++ b) (c ++ d) := by
  induction h with
  | nil => exact k
  | cons h _ ih => exact .cons h ih
theorem frzL_sound : ∀ (xs : List TL) {g : G} {m : Mem}, MF w0 pb g m w → ∃ g', MF w0 pb g' (frzL m xs) w ∧ Mv g m w g' (frzL m xs) w ∧ (∀ b, g.S b → g'.S b) ∧
    ∀ t l b, (TL.o t ∈ xs ∨ ∃ i sz j ver, TL.s t i sz j ver ∈ xs) → m.tag t = .live l → g.fp t b → g'.S b
  | [], g, m, hm => ⟨g, hm, Mv.refl _ _ _, fun _ h => h, fun t l b h => by rcases h with h | ⟨_, _, _, _, h⟩ <;> cases h⟩
  | x :: r, g, m, hm => by
    have pass : frzL m (x :: r) = frzL m r → (∀ t, x ≠ .o t) → (∀ t i sz j ver, x ≠ .s t i sz j ver) → ∃ g', MF w0 pb g' (frzL m (x :: r)) w ∧ Mv g m w g' (frzL m (x :: r)) w ∧ (∀ b, g.S b → g'.S b) ∧ ∀ t l b, (TL.o t ∈ x :: r ∨ ∃ i sz j ver, TL.s t i sz j ver ∈ x :: r) → m.tag t = .live l → g.fp t b → g'.S b := by
      intro he h1 h2
      obtain ⟨g', k1, k2, k3, k4⟩ := frzL_sound r hm
      rw [he]
      refine ⟨g', k1, k2, k3, fun t l b h => k4 t l b ?_⟩
      rcases h with h | ⟨i, sz, j, ver, h⟩
      · rcases List.mem_cons.1 h with h | h
        · exact absurd h.symm (h1 t)
        · exact .inl h
      · rcases List.mem_cons.1 h with h | h
        · exact absurd h.symm (h2 t i sz j ver)
        · exact .inr ⟨i, sz, j, ver, h⟩
    have step : ∀ t0, frzL m (x :: r) = frzL (frzT m t0) r → (∀ t, x = .o t → t = t0) → (∀ t i sz j ver, x = .s t i sz j ver → t = t0) → ∃ g', MF w0 pb g' (frzL m (x :: r)) w ∧ Mv g m w g' (frzL m (x :: r)) w ∧ (∀ b, g.S b → g'.S b) ∧ ∀ t l b, (TL.o t ∈ x :: r ∨ ∃ i sz j ver, TL.s t i sz j ver ∈ x :: r) → m.tag t = .live l → g.fp t b → g'.S b := by
      intro t0 he h1 h2
      obtain ⟨g1, j1, j2, j3, j4, j5⟩ := frz_sound hm t0
      obtain ⟨g', k1, k2, k3, k4⟩ := frzL_sound r j1
      rw [he]
      refine ⟨g', k1, j2.trans k2, fun b hb => k3 b (j3 b hb), fun t l b h ht hb => ?_⟩
      by_cases e : t = t0
      · subst e; exact k3 b (j4 l b ht hb)
      · have htag : (frzT m t0).tag t = .live l := by
          unfold frzT
          split
          · rw [setTag_tag, if_neg e]; exact ht
          · exact ht
        have hfp : (TL.o t ∈ r ∨ ∃ i sz j ver, TL.s t i sz j ver ∈ r) := by
          rcases h with h | ⟨i, sz, j, ver, h⟩
          · rcases List.mem_cons.1 h with h | h
            · exact absurd (h1 t h.symm) e
            · exact .inl h
          · rcases List.mem_cons.1 h with h | h
            · exact absurd (h2 t i sz j ver h.symm) e
            · exact .inr ⟨i, sz, j, ver, h⟩
        exact k4 t l b hfp htag (by rw [j5]; exact hb)
    cases x with
    | v l => exact pass rfl (fun _ h => by cases h) (fun _ _ _ _ _ h => by cases h)
    | nl => exact pass rfl (fun _ h => by cases h) (fun _ _ _ _ _ h => by cases h)
    | o t => exact step t rfl (fun _ h => by injection h with h; exact h.symm) (fun _ _ _ _ _ h => by cases h)
    | s t i sz j ver => exact step t rfl (fun _ h => by cases h) (fun _ _ _ _ _ h => by injection h with h; exact h.symm)

theorem showL_some : ∀ {xs : List TL} {fls : List FL}, showL m xs = some fls → fls.length = xs.length ∧ ∀ (i : Nat) x fl, xs[i]? = some x → fls[i]? = some fl → ∃ l, m.leaf x = some l ∧ fl = .v l
  | [], fls, h => by injection h with h; subst h; exact ⟨rfl, fun i x fl h => by simp at h⟩
  | x :: r, fls, h => by
    simp only [showL] at h
    split at h
    · rename_i l ls h1 h2
      injection h with h; subst h
      obtain ⟨k1, k2⟩ := showL_some h2
      refine ⟨by simp [k1], fun i y fl hy hf => ?_⟩
      cases i with
      | zero => injection hy with hy; injection hf with hf; subst hy; subst hf; exact ⟨l, h1, rfl⟩
      | succ i => exact k2 i y fl (by simpa using hy) (by simpa using hf)
    · cases h
/-- What is shown, as a call's arguments. -/
theorem show_sound (gb : Nat → Nat) : ∀ {ss : List Slot} {vs : List Value} {args : List RS}, showS m ss = some args → SRs g m w ss vs →
    ∃ cs, ShL gb args vs cs ∧ TRs g m w (slotL ss) cs ∧ showL m (slotL ss) = some (args.flatMap RS.fls)
  | [], vs, args, h, hs => by
    injection h with h; subst h
    cases hs
    exact ⟨[], .nil, ⟨rfl, fun i x u h => by simp [slotL] at h⟩, rfl⟩
  | s :: r, vs, args, h, hs => by
    cases hs with
    | @cons _ v _ vs hv hs =>
    cases s with
    | val b ls =>
      simp only [showS] at h
      split at h
      · rename_i x y h1 h2
        injection h with h; subst h
        obtain ⟨cs, k1, k2, k3⟩ := show_sound gb h2 hs
        obtain ⟨hl, hx⟩ := showL_some h1
        have hcat : ∀ {a c : List TL} {p q : List FL}, showL m a = some p → showL m c = some q → showL m (a ++ c) = some (p ++ q) := by
          intro a
          induction a with
          | nil => intro c p q h1 h2; injection h1 with h1; subst h1; simpa using h2
          | cons x a ih =>
            intro c p q h1 h2
            simp only [showL] at h1
            split at h1
            · rename_i l ls e1 e2
              injection h1 with h1; subst h1
              simp [showL, e1, ih e2 h2]
            · cases h1
        have key : ∃ cs0, ShV b x v cs0 ∧ TRs g m w ls cs0 := by
          cases b with
          | true =>
            obtain ⟨cs0, rfl, hc⟩ := hv
            exact ⟨cs0, .agg _ _ (by rw [hl, hc.len]), hc⟩
          | false =>
            obtain ⟨z, rfl, hz⟩ := hv
            match x, hl with
            | [fl], _ => exact ⟨[v], .one fl v hz.one, TRs.one hz⟩
        obtain ⟨cs0, j1, j2⟩ := key
        refine ⟨cs0 ++ cs, .cons (.val j1) k1, ⟨by simp [slotL, j2.len, k2.len], fun i y u hy hu => ?_⟩, hcat h1 k3⟩
        simp only [slotL] at hy
        rcases Nat.lt_or_ge i ls.length with hi | hi
        · rw [List.getElem?_append_left hi] at hy
          rw [List.getElem?_append_left (by rw [← j2.len]; exact hi)] at hu
          exact j2.at_ i y u hy hu
        · rw [List.getElem?_append_right hi] at hy
          rw [List.getElem?_append_right (by rw [← j2.len]; exact hi), ← j2.len] at hu
          exact k2.at_ _ y u hy hu
      · cases h
    | _ => cases h
theorem ownN_views : ∀ (fls : List FL), (∀ (i : Nat) fl, fls[i]? = some fl → ∃ l, fl = .v l) → ownN fls = 0
  | [], _ => rfl
  | .v l :: r, h => ownN_views r (fun i fl hi => h (i + 1) fl (by simpa using hi))
  | .o l :: r, h => by obtain ⟨l', h'⟩ := h 0 _ rfl; cases h'

/-- What a call leaves in the caller's memory. -/
def CallOk (w0 : World) (pb : Fence) (g : G) (m : Mem) (w : World) (K : Slot → Mem → Prop) (e : Ending) (w' : World) : Prop :=
  ∃ v s m' g', e = .returned v ∧ K s m' ∧ SR g' m' w' s v ∧ MF w0 pb g' m' w' ∧ Mv g m w g' m' w'
theorem pure_sound {f : FuncId} {ss : List Slot} {vs : List Value} {K : Slot → Mem → Prop} (h : callPure P f ss m K) (hm : MF w0 pb g m w) (hss : SRs g m w ss vs) :
    Enters P f ∧ Calls P f vs.toArray w (CallOk w0 pb g m w K) := by
  unfold callPure at h
  split at h
  · rename_i args hargs
    obtain ⟨cs, hsh, htr, hshow⟩ := show_sound (bgs []) hargs hss
    obtain ⟨hfl, hfx⟩ := showL_some hshow
    let Sc : Nat → Prop := fun b => g.S b ∨ ∃ t l, (TL.o t ∈ slotL ss ∨ ∃ i sz j ver, TL.s t i sz j ver ∈ slotL ss) ∧ m.tag t = .live l ∧ g.fp t b
    have hSc : ∀ b, Sc b → b < w.heap.size := by
      rintro b (hb | ⟨t, l, _, h1, h2⟩)
      · exact hm.mem.Slt b hb
      · exact (hm.mem.tS t l b h1 h2).2
    have hallv : ∀ (i : Nat) fl, (args.flatMap RS.fls)[i]? = some fl → ∃ l, fl = .v l := by
      intro i fl hi
      have hlt : i < (slotL ss).length := by rw [← hfl]; exact (List.getElem?_eq_some_iff.1 hi).1
      obtain ⟨l, _, h2⟩ := hfx i _ fl (List.getElem?_eq_getElem hlt) hi
      exact ⟨l, h2⟩
    have hbun : Bun Sc w (args.flatMap RS.fls ++ ([] : List (List FL)).flatten) (cs ++ ([] : List BX).flatMap BX.cs) (fun _ _ => False) := by
      simp only [List.flatten_nil, List.flatMap_nil, List.append_nil]
      refine ⟨by rw [hfl, htr.len], fun i l u h1 h2 => ?_, fun i l u h1 h2 => ?_, fun _ _ h => h.elim, fun _ _ _ h => h.elim⟩
      · have hlt : i < (slotL ss).length := by rw [← hfl]; exact (List.getElem?_eq_some_iff.1 h1).1
        obtain ⟨l', h3, h4⟩ := hfx i _ _ (List.getElem?_eq_getElem hlt) h1
        injection h4 with h4; subst h4
        refine leaf_rep hm (htr.at_ i _ u (List.getElem?_eq_getElem hlt) h2) h3 (fun b hb => .inl hb) (fun t l' b he ht hb => .inr ⟨t, l', ?_, ht, hb⟩)
        have hmem := List.getElem_mem hlt
        rcases he with he | ⟨i', sz, j, ver, he⟩
        · exact .inl (he ▸ hmem)
        · exact .inr ⟨i', sz, j, ver, he ▸ hmem⟩
      · obtain ⟨l', h3⟩ := hallv i _ h1; cases h3
    refine ⟨h.1, (h.2 w vs cs [] Sc (fun _ _ => False) hsh hbun ⟨rfl, fun i l b h => by simp at h, (fun b h => by cases h), List.nodup_nil⟩ hSc).mono ?_⟩
    rintro e w' ⟨r, lent, bx', v, rcs, bs', S', fps', hK, rfl, hb⟩
    have hlen : lent = [] := List.eq_nil_of_length_eq_zero (by rw [hb.lent_len]; exact ownN_views _ hallv)
    subst hlen
    have hbb := hb.bun
    simp only [lentO, List.append_nil] at hbb
    have hkeep : ∀ b, b < w.heap.size → w'.heap[b]? = w.heap[b]? := fun b hlt => hb.keep b hlt (fun _ h => h) (fun _ h => by cases h)
    have hnewf : ∀ i b, fps' i b → w.heap.size ≤ b ∧ b < w'.heap.size ∧ ¬ S' b := fun i b hib => by
      rcases hb.f_from i b hib with h1 | ⟨_, h1⟩
      · exact ⟨h1, (hbb.sub i b hib).2, (hbb.sub i b hib).1⟩
      · exact h1.elim
    -- memory in the new world, with what the result shows
    have mem : ∀ (views : Bool), ∃ g1, MF w0 pb g1 (if views = true then frzL m (slotL ss) else m) w' ∧ Mv g m w g1 (if views = true then frzL m (slotL ss) else m) w' ∧ (views = true → ∀ b, S' b → g1.S b) ∧
        ∀ i, Free w0 pb g1 (if views = true then frzL m (slotL ss) else m) w' (fps' i) := by
      intro views
      cases views with
      | false =>
        obtain ⟨k1, k2⟩ := hm.below hb.same hkeep
        exact ⟨g, k1, k2, (fun h => by cases h), fun i => Free.new hm (fun b hib => ⟨(hnewf i b hib).1, (hnewf i b hib).2.1⟩)⟩
      | true =>
        obtain ⟨g1, j1, j2, j3, j4⟩ := frzL_sound (slotL ss) hm
        obtain ⟨k1, k2⟩ := j1.below hb.same hkeep
        obtain ⟨n1, n2⟩ := k1.settle (fp := fun b => S' b ∧ w.heap.size ≤ b) (Free.new j1 (fun b hb2 => ⟨hb2.2, hb.S_lt b hb2.1⟩))
        refine ⟨_, n1, (j2.trans k2).trans n2, fun _ b hb2 => ?_, fun i => ?_⟩
        · rcases hb.S_from b hb2 with (h1 | ⟨t, l, h1, h2, h3⟩) | h1 | ⟨_, h1⟩
          · exact .inl (j3 b h1)
          · exact .inl (j4 t l b h1 h2 h3)
          · exact .inr ⟨hb2, h1⟩
          · exact h1.elim
        · have hf := Free.new j1 (w' := w') (fp := fps' i) (fun b hib => ⟨(hnewf i b hib).1, (hnewf i b hib).2.1⟩)
          refine ⟨fun b hib => ⟨fun hS => ?_, (hf.S b hib).2⟩, hf.box, hf.tag, hf.pb⟩
          rcases hS with hS | ⟨hS, _⟩
          · exact (hf.S b hib).1 hS
          · exact (hnewf i b hib).2.2 hS
    have hview : ∀ (views : Bool) (fls : List FL) (g1 : G), fls.any FL.isView = views → (views = true → ∀ b, S' b → g1.S b) → ∀ l u, FL.v l ∈ fls → Rep S' w' l u → Rep g1.S w' l u := by
      intro views fls g1 hv hS l u hmem hr
      cases l with
      | sc v => cases hr; exact .sc _ (by assumption)
      | ls xs =>
        have : views = true := by rw [← hv]; exact List.any_eq_true.2 ⟨_, hmem, rfl⟩
        exact hr.move (hS this) (fun _ _ => rfl)
    have hpre : ∀ {fls : List FL}, r.fls = fls → ∀ (i : Nat) fl, fls[i]? = some fl → (r.fls ++ bx'.flatten)[i]? = some fl := fun he i fl hi => by
      rw [he, List.getElem?_append_left (List.getElem?_eq_some_iff.1 hi).1]; exact hi
    have hprev : ∀ (i : Nat) u, rcs[i]? = some u → (rcs ++ lentV [] (ownV (args.flatMap RS.fls) cs) ++ bs'.flatMap BX.cs)[i]? = some u := fun i u hi => by
      rw [List.append_assoc, List.getElem?_append_left (List.getElem?_eq_some_iff.1 hi).1]; exact hi
    unfold retK at hK
    split at hK
    · rename_i b ls
      have hsv : ShV b ls v rcs := by cases hb.sh; assumption
      obtain ⟨g1, k1, k2, k3, k4⟩ := mem (ls.any FL.isView)
      obtain ⟨g2, n1, n2, n3, _⟩ := bind_sound ls rcs fps' k1 (shv_len hsv).symm
        (fun i l u h1 h2 => hview _ ls g1 rfl k3 l u (List.mem_of_getElem? h1) (hbb.view i l u (hpre rfl i _ h1) (hprev i u h2)))
        (fun i l u h1 h2 => hbb.own i l u (hpre rfl i _ h1) (hprev i u h2)) k4 (fun i j b => hbb.dis i j b)
      exact ⟨v, _, _, g2, rfl, hK, shv_vr hsv n3, n1, k2.trans n2⟩
    · rename_i ts
      obtain ⟨vs', hv', hst⟩ : ∃ vs', v = .tuple vs'.toArray ∧ ShT ts vs' rcs := by cases hb.sh; exact ⟨_, rfl, by assumption⟩
      subst hv'
      have hany : (ts.any fun p => p.2.any FL.isView) = (ts.flatMap (·.2)).any FL.isView := by simp [List.any_flatMap]
      obtain ⟨g1, k1, k2, k3, k4⟩ := mem (ts.any fun p => p.2.any FL.isView)
      obtain ⟨g2, n1, n2, n3⟩ := bindT_sound ts vs' rcs fps' k1 hst
        (fun i l u h1 h2 => hview _ (ts.flatMap (·.2)) g1 hany.symm k3 l u (List.mem_of_getElem? h1) (hbb.view i l u (hpre rfl i _ h1) (hprev i u h2)))
        (fun i l u h1 h2 => hbb.own i l u (hpre rfl i _ h1) (hprev i u h2)) k4 (fun i j b => hbb.dis i j b)
      exact ⟨_, _, _, g2, rfl, hK, n3, n1, k2.trans n2⟩
    · exact hK.elim
  · exact h.elim
end
end Go.Proofs.Ythhfhllfbnpcgaa.Co
