/- A call to which data is shown and lent, and variables by pointers: the caller's memory behind it. -/
import Derived.Test.YthhfhllfbnpcgaaCoJc
namespace Go.Proofs.Ythhfhllfbnpcgaa.Co
open Go
set_option linter.unusedSimpArgs false
set_option linter.unusedVariables false
section
variable {P : Program} {w0 : World} {pb : Fence} {g : G} {m : Mem} {w w' : World}
theorem lendL_at : ∀ {fs : List FL} {xs : List TL}, lendL m fs xs → fs.length = xs.length ∧ ∀ (i : Nat) f x, fs[i]? = some f → xs[i]? = some x → (∀ l, f = .o l → lend1 m x = some l) ∧ (∀ l, f = .v l → m.leaf x = some l)
  | [], [], _ => ⟨rfl, fun i f x h => by simp at h⟩
  | [], _ :: _, h => h.elim
  | .o _ :: _, [], h => h.elim
  | .v _ :: _, [], h => h.elim
  | .o l :: fs, x :: r, h => by
    obtain ⟨k1, k2⟩ := lendL_at h.2
    refine ⟨by simp [k1], fun i f y a b => ?_⟩
    cases i with
    | zero => injection a with a; injection b with b; subst a; subst b; exact ⟨fun l' e => (by injection e with e; subst e; exact h.1), fun l' e => by cases e⟩
    | succ i => exact k2 i f y (by simpa using a) (by simpa using b)
  | .v l :: fs, x :: r, h => by
    obtain ⟨k1, k2⟩ := lendL_at h.2
    refine ⟨by simp [k1], fun i f y a b => ?_⟩
    cases i with
    | zero => injection a with a; injection b with b; subst a; subst b; exact ⟨(fun l' e => by cases e), fun l' e => (by injection e with e; subst e; exact h.1)⟩
    | succ i => exact k2 i f y (by simpa using a) (by simpa using b)
theorem lendL_app : ∀ {a c : List FL} {p q : List TL}, lendL m a p → lendL m c q → lendL m (a ++ c) (p ++ q)
  | [], c, [], q, _, h => h
  | [], _, _ :: _, _, h, _ => h.elim
  | .o _ :: _, _, [], _, h, _ => h.elim
  | .v _ :: _, _, [], _, h, _ => h.elim
  | .o l :: a, c, x :: p, q, h, k => ⟨h.1, lendL_app h.2 k⟩
  | .v l :: a, c, x :: p, q, h, k => ⟨h.1, lendL_app h.2 k⟩
/-- The arguments of a call. -/
theorem lendS_sound {ks : List Nat} {γ : Nat → Nat} (hγ : ∀ i k, ks[i]? = some k → γ i = g.β k) : ∀ {args : List RS} {ss : List Slot} {vs : List Value}, lendS m ks args ss → SRs g m w ss vs →
    ∃ cs, ShL γ args vs cs ∧ TRs g m w (slotL ss) cs ∧ lendL m (args.flatMap RS.fls) (slotL ss)
  | [], [], vs, _, h => by
    cases h
    exact ⟨[], .nil, ⟨rfl, fun i x u h => by simp [slotL] at h⟩, trivial⟩
  | [], _ :: _, _, h, _ => by simp [lendS] at h
  | .val b fs :: ar, s :: ss, vs, h, hs => by
    cases hs with
    | @cons _ v _ vs hv hs =>
    cases s with
    | val b' ls =>
      obtain ⟨⟨rfl, h1⟩, h2⟩ := h
      obtain ⟨cs, k1, k2, k3⟩ := lendS_sound hγ h2 hs
      have hl := (lendL_at h1).1
      have key : ∃ cs0, ShV b' fs v cs0 ∧ TRs g m w ls cs0 := by
        cases b' with
        | true =>
          obtain ⟨cs0, rfl, hc⟩ := hv
          exact ⟨cs0, .agg _ _ (by rw [hl, hc.len]), hc⟩
        | false =>
          obtain ⟨z, rfl, hz⟩ := hv
          match fs, hl with
          | [fl], _ => exact ⟨[v], .one fl v hz.one, TRs.one hz⟩
      obtain ⟨cs0, j1, j2⟩ := key
      refine ⟨cs0 ++ cs, .cons (.val j1) k1, ⟨by simp [slotL, j2.len, k2.len], fun i y u hy hu => ?_⟩, by simpa [slotL, RS.fls] using lendL_app h1 k3⟩
      simp only [slotL] at hy
      rcases Nat.lt_or_ge i ls.length with hi | hi
      · rw [List.getElem?_append_left hi] at hy
        rw [List.getElem?_append_left (by rw [← j2.len]; exact hi)] at hu
        exact j2.at_ i y u hy hu
      · rw [List.getElem?_append_right hi] at hy
        rw [List.getElem?_append_right (by rw [← j2.len]; exact hi), ← j2.len] at hu
        exact k2.at_ _ y u hy hu
    | _ => exact h.elim
  | .ptr i :: ar, s :: ss, vs, h, hs => by
    cases hs with
    | @cons _ v _ vs hv hs =>
    cases s with
    | ptr k off =>
      cases off with
      | zero =>
        obtain ⟨h1, h2⟩ := h
        obtain ⟨cs, k1, k2, k3⟩ := lendS_sound hγ h2 hs
        refine ⟨[] ++ cs, .cons ?_ k1, k2, k3⟩
        rw [hv.1, ← hγ i k h1]
        exact .ptr i
      | succ off => exact h.elim
    | _ => exact h.elim
  | .clo f is :: ar, s :: ss, vs, h, hs => by
    cases hs with
    | @cons _ v _ vs hv hs =>
    cases s with
    | clo f' js =>
      obtain ⟨⟨rfl, h1⟩, h2⟩ := h
      obtain ⟨cs, k1, k2, k3⟩ := lendS_sound hγ h2 hs
      refine ⟨[] ++ cs, .cons ?_ k1, k2, k3⟩
      have key : ∀ (is js : List Nat), is.map (fun i => ks[i]?) = js.map some → js.map (fun k => ptrTo (g.β k)) = is.map (fun i => ptrTo (γ i)) := by
        intro is
        induction is with
        | nil => intro js h; cases js with
          | nil => rfl
          | cons j js => simp at h
        | cons i is ih => intro js h; cases js with
          | nil => simp at h
          | cons j js =>
            simp only [List.map_cons, List.cons.injEq] at h
            simp only [List.map_cons, ih js h.2, hγ i j h.1]
      rw [hv.1, key is js h1]
      exact .clo _ _
    | _ => exact h.elim
  | .tup _ :: _, _ :: _, _, h, _ => h.elim
  | .val _ _ :: _, [], _, h, _ => h.elim
  | .ptr _ :: _, [], _, h, _ => h.elim
  | .clo _ _ :: _, [], _, h, _ => h.elim
  | .tup _ :: _, [], _, h, _ => h.elim
/-- The variables that are lent, as blocks. -/
theorem lendX_sound (hm : MemR g m w) : ∀ {bx : List (List FL)} {ks : List Nat}, lendX m bx ks →
    ∃ bs : List BX, bs.length = ks.length ∧ (∀ (i : Nat) k b, ks[i]? = some k → bs[i]? = some b → m.box k ≠ [] ∧ b.g = g.β k ∧ w.heap[g.β k]? = some (.cells b.cs.toArray b.ty (0, 0)) ∧ TRs g m w (m.box k) b.cs) ∧
      bx.length = ks.length ∧ (∀ (i : Nat) l k, bx[i]? = some l → ks[i]? = some k → l.length = (m.box k).length) ∧ lendL m bx.flatten (ks.flatMap m.box) ∧ TRs g m w (ks.flatMap m.box) (bs.flatMap BX.cs) ∧ (∀ x ∈ ks.flatMap m.box, boxT x = true)
  | [], [], _ => ⟨[], rfl, (fun i k b h => by simp at h), rfl, (fun i l k h => by simp at h), trivial, ⟨rfl, fun i x u h => by simp at h⟩, fun x h => by simp at h⟩
  | [], _ :: _, h => h.elim
  | _ :: _, [], h => h.elim
  | fs :: bx, k :: ks, h => by
    obtain ⟨⟨h1, h2, h3⟩, h4⟩ := h
    obtain ⟨bs, k1, k2, k3, k4, k5, k6, k7⟩ := lendX_sound hm h4
    have hne : m.box k ≠ [] := fun e => by rw [e] at h2; cases h2
    obtain ⟨_, cs, ty, j1, j2⟩ := hm.boxes k hne
    refine ⟨⟨g.β k, cs, ty⟩ :: bs, by simp [k1], fun i k' b a c => ?_, by simp [k3], fun i l k' a c => ?_, by simpa using lendL_app h1 k5, ?_, fun x hx => ?_⟩
    · cases i with
      | zero => injection a with a; injection c with c; subst a; subst c; exact ⟨hne, rfl, j1, j2⟩
      | succ i => exact k2 i k' b (by simpa using a) (by simpa using c)
    · cases i with
      | zero => injection a with a; injection c with c; subst a; subst c; exact (lendL_at h1).1
      | succ i => exact k4 i l k' (by simpa using a) (by simpa using c)
    · refine ⟨by simp [j2.len, k6.len], fun i x u a c => ?_⟩
      simp only [List.flatMap_cons] at a c
      rcases Nat.lt_or_ge i (m.box k).length with hi | hi
      · rw [List.getElem?_append_left hi] at a
        rw [List.getElem?_append_left (by rw [← j2.len]; exact hi)] at c
        exact j2.at_ i x u a c
      · rw [List.getElem?_append_right hi] at a
        rw [List.getElem?_append_right (by rw [← j2.len]; exact hi), ← j2.len] at c
        exact k6.at_ _ x u a c
    · simp only [List.flatMap_cons, List.mem_append] at hx
      rcases hx with hx | hx
      · exact List.all_eq_true.1 h3 x hx
      · exact k7 x hx
/-- What is lent is told apart from all else. -/
theorem sep_at : ∀ {fs : List FL} {xs : List TL}, sepB fs xs = true → ∀ (i j : Nat) f f' x y t, fs[i]? = some f → fs[j]? = some f' → xs[i]? = some x → xs[j]? = some y → (f.isO = true ∨ f'.isO = true) → tagOf x = some t → tagOf y = some t → i = j
  | [], _, _, i, j, f, f', x, y, t, h, _, _, _, _, _, _ => by simp at h
  | _ :: _, [], _, i, j, f, f', x, y, t, _, _, h, _, _, _, _ => by simp at h
  | f0 :: fs, x0 :: r, hs, i, j, f, f', x, y, t, h1, h2, h3, h4, ho, h5, h6 => by
    simp only [sepB, Bool.and_eq_true] at hs
    have one : ∀ (j : Nat) f' y, fs[j]? = some f' → r[j]? = some y → (f0.isO = true ∨ f'.isO = true) → tagOf x0 = some t → tagOf y = some t → False := by
      intro j f' y a b c d e
      have hz : (f', y) ∈ fs.zip r := List.mem_of_getElem? (i := j) (by rw [List.getElem?_zip_eq_some]; exact ⟨a, b⟩)
      have := List.all_eq_true.1 hs.1 _ hz
      simp only [tagIs, d, e, Bool.or_eq_true, Bool.not_eq_true', beq_self_eq_true] at this
      rcases this with h | h
      · rcases c with c | c
        · rw [c] at h; simp at h
        · rw [c] at h; simp at h
      · cases h
    cases i with
    | zero =>
      injection h1 with h1; injection h3 with h3; subst h1; subst h3
      cases j with
      | zero => rfl
      | succ j => exact (one j f' y (by simpa using h2) (by simpa using h4) ho h5 h6).elim
    | succ i =>
      cases j with
      | zero =>
        injection h2 with h2; injection h4 with h4; subst h2; subst h4
        exact (one i f x (by simpa using h1) (by simpa using h3) ho.symm h6 h5).elim
      | succ j =>
        rw [sep_at hs.2 i j f f' x y t (by simpa using h1) (by simpa using h2) (by simpa using h3) (by simpa using h4) ho h5 h6]
theorem tagsM_at : ∀ {fs : List FL} {xs : List TL} {t : Nat}, t ∈ tagsM fs xs ↔ ∃ (i : Nat) (l : Leaf) (x : TL), fs[i]? = some (FL.o l) ∧ xs[i]? = some x ∧ tagOf x = some t
  | [], xs, t => by simp [tagsM]
  | .o l :: fs, [], t => by simp [tagsM]
  | .v l :: fs, [], t => by simp [tagsM]
  | .o l :: fs, x :: r, t => by
    have ih := tagsM_at (fs := fs) (xs := r) (t := t)
    simp only [tagsM]
    cases hx : tagOf x with
    | none =>
      simp only []
      rw [ih]
      refine ⟨fun ⟨i, l, y, a, b, c⟩ => ⟨i + 1, l, y, by simpa using a, by simpa using b, c⟩, fun ⟨i, l', y, a, b, c⟩ => ?_⟩
      cases i with
      | zero => injection b with b; subst b; rw [hx] at c; cases c
      | succ i => exact ⟨i, l', y, by simpa using a, by simpa using b, c⟩
    | some s =>
      simp only [List.mem_cons]
      rw [ih]
      refine ⟨fun h => ?_, fun ⟨i, l', y, a, b, c⟩ => ?_⟩
      · rcases h with rfl | ⟨i, l, y, a, b, c⟩
        · exact ⟨0, l, x, rfl, rfl, hx⟩
        · exact ⟨i + 1, l, y, by simpa using a, by simpa using b, c⟩
      · cases i with
        | zero => injection b with b; subst b; rw [hx] at c; injection c with c; exact .inl c.symm
        | succ i => exact .inr ⟨i, l', y, by simpa using a, by simpa using b, c⟩
  | .v l :: fs, x :: r, t => by
    have ih := tagsM_at (fs := fs) (xs := r) (t := t)
    simp only [tagsM]
    rw [ih]
    refine ⟨fun ⟨i, l, y, a, b, c⟩ => ⟨i + 1, l, y, by simpa using a, by simpa using b, c⟩, fun ⟨i, l', y, a, b, c⟩ => ?_⟩
    cases i with
    | zero => injection a with a; cases a
    | succ i => exact ⟨i, l', y, by simpa using a, by simpa using b, c⟩
theorem shownL_at : ∀ {fs : List FL} {xs : List TL} {x : TL}, x ∈ shownL fs xs ↔ ∃ (i : Nat) (l : Leaf), fs[i]? = some (FL.v l) ∧ xs[i]? = some x
  | [], xs, x => by simp [shownL]
  | .o l :: fs, [], x => by simp [shownL]
  | .v l :: fs, [], x => by simp [shownL]
  | .v l :: fs, y :: r, x => by
    have ih := shownL_at (fs := fs) (xs := r) (x := x)
    simp only [shownL, List.mem_cons]
    rw [ih]
    refine ⟨fun h => ?_, fun ⟨i, l', a, b⟩ => ?_⟩
    · rcases h with rfl | ⟨i, l, a, b⟩
      · exact ⟨0, l, rfl, rfl⟩
      · exact ⟨i + 1, l, by simpa using a, by simpa using b⟩
    · cases i with
      | zero => injection b with b; exact .inl b.symm
      | succ i => exact .inr ⟨i, l', by simpa using a, by simpa using b⟩
  | .o l :: fs, y :: r, x => by
    have ih := shownL_at (fs := fs) (xs := r) (x := x)
    simp only [shownL]
    rw [ih]
    refine ⟨fun ⟨i, l, a, b⟩ => ⟨i + 1, l, by simpa using a, by simpa using b⟩, fun ⟨i, l', a, b⟩ => ?_⟩
    cases i with
    | zero => injection a with a; cases a
    | succ i => exact ⟨i, l', by simpa using a, by simpa using b⟩
end
end Go.Proofs.Ythhfhllfbnpcgaa.Co
