/- What was lent comes back, part by part. -/
import Derived.Test.YthhfhllfbnpcgaaCoJa
namespace Go.Proofs.Ythhfhllfbnpcgaa.Co
open Go
set_option linter.unusedSimpArgs false
set_option linter.unusedVariables false
section
variable {w0 : World} {pb : Fence} {g : G} {m : Mem} {w w' : World}
/-- Blocks apart from a list that is there again are as free as before. -/
theorem Free.reown {g1 g2 : G} {m1 : Mem} {t : Nat} {l : Leaf} {fp fpX : Nat → Prop} (h : Free w0 pb g1 m1 w' fpX) (hS : g2.S = g1.S) (hβ : g2.β = g1.β) (hfn : ∀ t', t' ≠ t → g2.fp t' = g1.fp t') (hft : g2.fp t = fp) (hd : ∀ b, fpX b → ¬ fp b) :
    Free w0 pb g2 ((m1.setTag t (.live l)).bump t) w' fpX := by
  refine ⟨fun b hb => by rw [hS]; exact h.S b hb, fun b k hb hk => by rw [hβ]; exact h.box b k hb hk, fun b t' l' hb ht => ?_, h.pb⟩
  by_cases e : t' = t
  · subst e; rw [hft]; exact hd b hb
  · rw [hfn t' e]
    refine h.tag b t' l' hb ?_
    have : ((m1.setTag t (.live l)).bump t).tag t' = if t' = t then .live l else m1.tag t' := rfl
    rw [this, if_neg e] at ht
    exact ht
theorem back_sound : ∀ (ys : List TL) (us : List Value) (ex : List (Option Leaf)) (fps fps1 : Nat → Nat → Prop) {g1 : G} {m1 : Mem}, MF w0 pb g1 m1 w' → ys.length = us.length → ys.length = ex.length →
    (∀ (i : Nat) x u t l, ys[i]? = some x → us[i]? = some u → ex[i]? = some (some l) → tagOf x = some t → m1.tag t = .gone ∧ t < m1.nx ∧ g1.va t = g.va t ∧
      ∀ (l' : Leaf) (fp1 : Nat → Prop), Own w' l' u fp1 → (∀ k, fp1 k → fps i k ∨ ¬ g.fp t k) → Own w' (wholeL m x l') (g.va t) (fun k => (g.fp t k ∧ ¬ fps i k) ∨ fp1 k)) →
    (∀ (i : Nat) l u, ex[i]? = some (some l) → us[i]? = some u → Own w' l u (fps1 i)) →
    (∀ (i : Nat) x t l, ys[i]? = some x → ex[i]? = some (some l) → tagOf x = some t → Free w0 pb g1 m1 w' (fun k => g.fp t k ∧ ¬ fps i k)) → (∀ i, Free w0 pb g1 m1 w' (fps1 i)) →
    (∀ (i j : Nat) x y t t' k l l', ys[i]? = some x → ys[j]? = some y → ex[i]? = some (some l) → ex[j]? = some (some l') → tagOf x = some t → tagOf y = some t' → g.fp t k → g.fp t' k → i = j) →
    (∀ (i j : Nat) x y t l l', ys[i]? = some x → ys[j]? = some y → ex[i]? = some (some l) → ex[j]? = some (some l') → tagOf x = some t → tagOf y = some t → i = j) →
    (∀ (q i : Nat) x t k l, ys[i]? = some x → ex[i]? = some (some l) → tagOf x = some t → fps1 q k → g.fp t k → fps i k) → (∀ i j k, fps1 i k → fps1 j k → i = j) →
    ∃ g2, MF w0 pb g2 (backX m m1 ys ex) w' ∧ Mv g1 m1 w' g2 (backX m m1 ys ex) w' ∧ g2.S = g1.S ∧
      ∀ fpX, Free w0 pb g1 m1 w' fpX → (∀ k, fpX k → (∀ (i : Nat) x t l, ys[i]? = some x → ex[i]? = some (some l) → tagOf x = some t → ¬ (g.fp t k ∧ ¬ fps i k)) ∧ ∀ q, ¬ fps1 q k) → Free w0 pb g2 (backX m m1 ys ex) w' fpX
  | [], us, ex, fps, fps1, g1, m1, hm, _, _, _, _, _, _, _, _, _, _ => by
    have : backX m m1 [] ex = m1 := by cases ex <;> rfl
    rw [this]
    exact ⟨g1, hm, Mv.refl _ _ _, rfl, fun fpX h _ => h⟩
  | x :: ys, [], _, _, _, _, _, _, h, _, _, _, _, _, _, _, _, _ => by simp at h
  | x :: ys, _ :: _, [], _, _, _, _, _, _, h, _, _, _, _, _, _, _, _ => by simp at h
  | x :: ys, u :: us, lo :: ex, fps, fps1, g1, m1, hm, h1, h2, hre, hown, hfa, hfb, hd1, hd2, hd3, hd4 => by
    -- a cell that changes no list
    have pass : backX m m1 (x :: ys) (lo :: ex) = backX m m1 ys ex → ∃ g2, MF w0 pb g2 (backX m m1 (x :: ys) (lo :: ex)) w' ∧ Mv g1 m1 w' g2 (backX m m1 (x :: ys) (lo :: ex)) w' ∧ g2.S = g1.S ∧
        ∀ fpX, Free w0 pb g1 m1 w' fpX → (∀ k, fpX k → (∀ (i : Nat) y t l, (x :: ys)[i]? = some y → (lo :: ex)[i]? = some (some l) → tagOf y = some t → ¬ (g.fp t k ∧ ¬ fps i k)) ∧ ∀ q, ¬ fps1 q k) → Free w0 pb g2 (backX m m1 (x :: ys) (lo :: ex)) w' fpX := by
      intro e
      obtain ⟨g2, k1, k2, k3, k4⟩ := back_sound ys us ex (fun i => fps (i + 1)) (fun i => fps1 (i + 1)) hm (by simpa using h1) (by simpa using h2)
        (fun i y u t l a b c d => hre (i + 1) y u t l (by simpa using a) (by simpa using b) (by simpa using c) d) (fun i l u a b => hown (i + 1) l u (by simpa using a) (by simpa using b))
        (fun i y t l a b c => hfa (i + 1) y t l (by simpa using a) (by simpa using b) c) (fun i => hfb (i + 1))
        (fun i j y z t t' k l l' a b c d p q r s => by have := hd1 (i + 1) (j + 1) y z t t' k l l' (by simpa using a) (by simpa using b) (by simpa using c) (by simpa using d) p q r s; omega)
        (fun i j y z t l l' a b c d p q => by have := hd2 (i + 1) (j + 1) y z t l l' (by simpa using a) (by simpa using b) (by simpa using c) (by simpa using d) p q; omega)
        (fun q i y t k l a b c d r => hd3 (q + 1) (i + 1) y t k l (by simpa using a) (by simpa using b) c d r) (fun i j k a b => by have := hd4 _ _ k a b; omega)
      rw [e]
      exact ⟨g2, k1, k2, k3, fun fpX a b => k4 fpX a (fun k hk => ⟨fun i y t l c d p => (b k hk).1 (i + 1) y t l (by simpa using c) (by simpa using d) p, fun q => (b k hk).2 (q + 1)⟩)⟩
    cases lo with
    | none => exact pass (by simp only [backX]; cases tagOf x <;> rfl)
    | some l =>
    cases ht : tagOf x with
    | none => exact pass (by simp only [backX, ht])
    | some t =>
      have hown0 : Own w' l u (fps1 0) := hown 0 l u rfl rfl
      have e : backX m m1 (x :: ys) (some l :: ex) = backX m ((m1.setTag t (.live (wholeL m x l))).bump t) ys ex := by simp only [backX, ht]
      obtain ⟨r1, r2, r3, r4⟩ := hre 0 x u t l rfl rfl rfl ht
      have hwhole := r4 l (fps1 0) hown0 (fun k hk => by
        by_cases hg : g.fp t k
        · exact .inl (hd3 0 0 x t k l rfl rfl ht hk hg)
        · exact .inr hg)
      rw [← r3] at hwhole
      have hfree := (hfa 0 x t l rfl rfl ht).or (hfb 0)
      obtain ⟨ga, n1, n2, n3, n4, n5, n6, n7⟩ := hm.reown r2 r1 hwhole hfree
      have hkeep : ∀ fpX, Free w0 pb g1 m1 w' fpX → (∀ k, fpX k → ¬ ((g.fp t k ∧ ¬ fps 0 k) ∨ fps1 0 k)) → Free w0 pb ga ((m1.setTag t (.live (wholeL m x l))).bump t) w' fpX := fun fpX a b => a.reown n3 n4 n6 n7 b
      have htag : ∀ t', t' ≠ t → ((m1.setTag t (.live (wholeL m x l))).bump t).tag t' = m1.tag t' := fun t' hne => if_neg hne
      obtain ⟨g2, k1, k2, k3, k4⟩ := back_sound ys us ex (fun i => fps (i + 1)) (fun i => fps1 (i + 1)) n1 (by simpa using h1) (by simpa using h2)
        (fun i y u' t' l' a b c d => by
          obtain ⟨s1, s2, s3, s4⟩ := hre (i + 1) y u' t' l' (by simpa using a) (by simpa using b) (by simpa using c) d
          have hne : t' ≠ t := fun he => by
            have := hd2 (i + 1) 0 y x t l' l (by simpa using a) rfl (by simpa using c) rfl (he ▸ d) ht
            omega
          exact ⟨by rw [htag t' hne]; exact s1, s2, by rw [n5]; exact s3, s4⟩)
        (fun i l u a b => hown (i + 1) l u (by simpa using a) (by simpa using b))
        (fun i y t' l' a b c => hkeep _ (hfa (i + 1) y t' l' (by simpa using a) (by simpa using b) c) (fun k hk hh => by
          rcases hh with hh | hh
          · have := hd1 (i + 1) 0 y x t' t k l' l (by simpa using a) rfl (by simpa using b) rfl c ht hk.1 hh.1
            omega
          · exact hk.2 (hd3 0 (i + 1) y t' k l' (by simpa using a) (by simpa using b) c hh hk.1)))
        (fun i => hkeep _ (hfb (i + 1)) (fun k hk hh => by
          rcases hh with hh | hh
          · exact hh.2 (hd3 (i + 1) 0 x t k l rfl rfl ht hk hh.1)
          · have := hd4 _ _ k hk hh
            omega))
        (fun i j y z t t' k l l' a b c d p q r s => by have := hd1 (i + 1) (j + 1) y z t t' k l l' (by simpa using a) (by simpa using b) (by simpa using c) (by simpa using d) p q r s; omega)
        (fun i j y z t l l' a b c d p q => by have := hd2 (i + 1) (j + 1) y z t l l' (by simpa using a) (by simpa using b) (by simpa using c) (by simpa using d) p q; omega)
        (fun q i y t k l a b c d r => hd3 (q + 1) (i + 1) y t k l (by simpa using a) (by simpa using b) c d r) (fun i j k a b => by have := hd4 _ _ k a b; omega)
      rw [e]
      refine ⟨g2, k1, n2.trans k2, k3.trans n3, fun fpX a b => k4 fpX (hkeep fpX a (fun k hk hh => ?_)) (fun k hk => ⟨fun i y t l c d p => (b k hk).1 (i + 1) y t l (by simpa using c) (by simpa using d) p, fun q => (b k hk).2 (q + 1)⟩)⟩
      rcases hh with hh | hh
      · exact (b k hk).1 0 x t l rfl rfl ht hh
      · exact (b k hk).2 0 hh
/-- The cells that came back, each with its own blocks. -/
theorem filled_sound : ∀ (fls : List FL) (xs : List TL) (cs : List Value) (lent : List (Option Leaf)) (fpsL : Nat → Nat → Prop) {K : List (Option Leaf) → Prop}, fillF fls xs lent K → fls.length = xs.length → xs.length = cs.length → lent.length = ownN fls →
    (∀ u ∈ cs, u.oneCell' = true) → (∀ (q : Nat) l u, (lentO lent)[q]? = some (FL.o l) → (lentV lent (ownV fls cs))[q]? = some u → Own w' l u (fpsL q)) → (∀ i j b, fpsL i b → fpsL j b → i = j) →
    ∃ (ex : List (Option Leaf)) (fps1 : Nat → Nat → Prop), K ex ∧ ex.length = xs.length ∧ (∀ (i : Nat) l u, ex[i]? = some (some l) → cs[i]? = some u → Own w' l u (fps1 i)) ∧ (∀ i b, fps1 i b → ∃ q, fpsL q b) ∧ (∀ i j b, fps1 i b → fps1 j b → i = j) ∧
      ∀ (i : Nat) l, ex[i]? = some (some l) → ∃ l0, fls[i]? = some (FL.o l0)
  | [], xs, cs, lent, fpsL, K, h, h1, h2, h3, _, _, _ => by
    have hx : xs = [] := List.eq_nil_of_length_eq_zero (by simpa using h1.symm)
    subst hx
    have : K [] := by
      unfold fillF at h
      exact h
    exact ⟨[], fun _ _ => False, this, rfl, fun i l u h => by simp at h, fun _ _ h => h.elim, fun _ _ _ h => h.elim, fun i l h => by simp at h⟩
  | fl :: fls, [], _, _, _, _, _, h1, _, _, _, _, _ => by simp at h1
  | fl :: fls, x :: xs, [], _, _, _, _, _, h2, _, _, _, _ => by simp at h2
  | .v l :: fls, x :: xs, c :: cs, lent, fpsL, K, h, h1, h2, h3, ho, hl, hd => by
    have h : fillF fls xs lent fun e => K (none :: e) := by
      unfold fillF at h
      cases x <;> exact h
    obtain ⟨ex, fps1, k1, k2, k3, k4, k5, k6⟩ := filled_sound fls xs cs lent fpsL h (by simpa using h1) (by simpa using h2) h3 (fun u hu => ho u (by simp [hu])) hl hd
    refine ⟨none :: ex, fun i => match i with | 0 => fun _ => False | i + 1 => fps1 i, k1, by simp [k2], fun i l u a b => ?_, fun i b a => ?_, fun i j b a a' => ?_, fun i l a => ?_⟩
    · cases i with
      | zero => simp at a
      | succ i => exact k3 i l u (by simpa using a) (by simpa using b)
    · cases i with
      | zero => exact a.elim
      | succ i => exact k4 i b a
    · cases i with
      | zero => exact a.elim
      | succ i => cases j with
        | zero => exact a'.elim
        | succ j => rw [k5 i j b a a']
    · cases i with
      | zero => simp at a
      | succ i => exact k6 i l (by simpa using a)
  | .o l :: fls, x :: xs, c :: cs, [], fpsL, K, h, h1, h2, h3, ho, hl, hd => by simp [ownN] at h3
  | .o l :: fls, x :: xs, c :: cs, some l' :: lent, fpsL, K, h, h1, h2, h3, ho, hl, hd => by
    have h : fillF fls xs lent fun e => K (some l' :: e) := by
      unfold fillF at h
      cases x <;> exact h
    obtain ⟨ex, fps1, k1, k2, k3, k4, k5, k6⟩ := filled_sound fls xs cs lent (fun q => fpsL (q + 1)) h (by simpa using h1) (by simpa using h2) (by simpa [ownN] using h3) (fun u hu => ho u (by simp [hu]))
      (fun q l u a b => hl (q + 1) l u (by simpa [lentO] using a) (by simpa [lentV, ownV] using b)) (fun i j b a a' => by have := hd _ _ b a a'; omega)
    refine ⟨some l' :: ex, fun i => match i with | 0 => fpsL 0 | i + 1 => fps1 i, k1, by simp [k2], fun i l u a b => ?_, fun i b a => ?_, fun i j b a a' => ?_, fun i l a => ?_⟩
    · cases i with
      | zero =>
        simp only [List.getElem?_cons_zero, Option.some.injEq] at a b
        subst a; subst b
        exact hl 0 l' c rfl rfl
      | succ i => exact k3 i l u (by simpa using a) (by simpa using b)
    · cases i with
      | zero => exact ⟨0, a⟩
      | succ i => obtain ⟨q, hq⟩ := k4 i b a; exact ⟨q + 1, hq⟩
    · cases i with
      | zero => cases j with
        | zero => rfl
        | succ j => obtain ⟨q, hq⟩ := k4 j b a'; have := hd _ _ b a hq; omega
      | succ i => cases j with
        | zero => obtain ⟨q, hq⟩ := k4 i b a; have := hd _ _ b a' hq; omega
        | succ j => rw [k5 i j b a a']
    · cases i with
      | zero => exact ⟨_, rfl⟩
      | succ i => exact k6 i _ (by simpa using a)
  | .o l :: fls, x :: xs, c :: cs, none :: lent, fpsL, K, h, h1, h2, h3, ho, hl, hd => by
    have hor : fillF fls xs lent (fun e => K (some (.sc c) :: e)) ∨ fillF fls xs lent (fun e => K (none :: e)) := by
      unfold fillF at h
      cases x
      · exact .inr h
      · exact .inr h
      · exact .inr h
      · exact .inl (h c)
    have hl' : ∀ (q : Nat) l u, (lentO lent)[q]? = some (FL.o l) → (lentV lent (ownV fls cs))[q]? = some u → Own w' l u (fpsL q) := fun q l u a b => hl q l u (by simpa [lentO] using a) (by simpa [lentV, ownV] using b)
    rcases hor with h | h
    · obtain ⟨ex, fps1, k1, k2, k3, k4, k5, k6⟩ := filled_sound fls xs cs lent fpsL h (by simpa using h1) (by simpa using h2) (by simpa [ownN] using h3) (fun u hu => ho u (by simp [hu])) hl' hd
      refine ⟨some (.sc c) :: ex, fun i => match i with | 0 => fun _ => False | i + 1 => fps1 i, k1, by simp [k2], fun i l u a b => ?_, fun i b a => ?_, fun i j b a a' => ?_, fun i l a => ?_⟩
      · cases i with
        | zero =>
          simp only [List.getElem?_cons_zero, Option.some.injEq] at a b
          subst a; subst b
          exact .sc c _ (ho c (by simp))
        | succ i => exact k3 i l u (by simpa using a) (by simpa using b)
      · cases i with
        | zero => exact a.elim
        | succ i => exact k4 i b a
      · cases i with
        | zero => exact a.elim
        | succ i => cases j with
          | zero => exact a'.elim
          | succ j => rw [k5 i j b a a']
      · cases i with
        | zero => exact ⟨_, rfl⟩
        | succ i => exact k6 i _ (by simpa using a)
    · obtain ⟨ex, fps1, k1, k2, k3, k4, k5, k6⟩ := filled_sound fls xs cs lent fpsL h (by simpa using h1) (by simpa using h2) (by simpa [ownN] using h3) (fun u hu => ho u (by simp [hu])) hl' hd
      refine ⟨none :: ex, fun i => match i with | 0 => fun _ => False | i + 1 => fps1 i, k1, by simp [k2], fun i l u a b => ?_, fun i b a => ?_, fun i j b a a' => ?_, fun i l a => ?_⟩
      · cases i with
        | zero => simp at a
        | succ i => exact k3 i l u (by simpa using a) (by simpa using b)
      · cases i with
        | zero => exact a.elim
        | succ i => exact k4 i b a
      · cases i with
        | zero => exact a.elim
        | succ i => cases j with
          | zero => exact a'.elim
          | succ j => rw [k5 i j b a a']
      · cases i with
        | zero => simp at a
        | succ i => exact k6 i _ (by simpa using a)
end
end Go.Proofs.Ythhfhllfbnpcgaa.Co
