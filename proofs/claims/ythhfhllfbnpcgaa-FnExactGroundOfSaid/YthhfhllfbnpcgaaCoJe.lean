/- A call to which data is shown and lent, and variables by pointers, goes along with its text on plain data. -/
import Derived.Test.YthhfhllfbnpcgaaCoJd
namespace Go.Proofs.Ythhfhllfbnpcgaa.Co
open Go
set_option linter.unusedSimpArgs false
set_option linter.unusedVariables false
section
variable {P : Program} {w0 : World} {pb : Fence} {g : G} {m : Mem} {w w' : World}
theorem bindM_box' : ∀ (ls : List FL) (m : Mem), (bindM ls m).2.box = m.box
  | [], m => rfl
  | .v _ :: r, m => bindM_box' r m
  | .o l :: r, m => bindM_box' r (m.newTag l)
theorem Free.setBox {fp : Nat → Prop} {k : Nat} {ls : List TL} (h : Free w0 pb g m w fp) (hk : m.box k ≠ []) : Free w0 pb g (m.setBox k ls) w fp :=
  ⟨h.S, fun b j hb hj => by
    refine h.box b j hb ?_
    by_cases e : j = k
    · rw [e]; exact hk
    · have : (m.setBox k ls).box j = m.box j := upd_ne _ _ e
      rw [← this]; exact hj, h.tag, h.pb⟩
/-- What the variables hold now. -/
theorem bindB_sound : ∀ (bx : List (List FL)) (ks : List Nat) (bs : List BX) (fps : Nat → Nat → Prop) {g : G} {m : Mem} {bc : Nat → List TL} {K : Mem → Prop}, bindB K bx ks m → MF w0 pb g (m.wb bc) w → (∀ k, k ∉ ks → bc k = m.box k) → bs.length = ks.length → ks.Nodup →
    (∀ (i : Nat) k b, ks[i]? = some k → bs[i]? = some b → bc k ≠ [] ∧ g.β k = b.g ∧ w.heap[b.g]? = some (.cells b.cs.toArray b.ty (0, 0))) → (∀ (i : Nat) l b, bx[i]? = some l → bs[i]? = some b → l.length = b.cs.length) → (∀ l ∈ bx, l ≠ []) →
    (∀ (i : Nat) l u, bx.flatten[i]? = some (FL.v l) → (bs.flatMap BX.cs)[i]? = some u → Rep g.S w l u) → (∀ (i : Nat) l u, bx.flatten[i]? = some (FL.o l) → (bs.flatMap BX.cs)[i]? = some u → Own w l u (fps i)) →
    (∀ i, Free w0 pb g (m.wb bc) w (fps i)) → (∀ i j b, fps i b → fps j b → i = j) →
    ∃ g' m', K m' ∧ MF w0 pb g' m' w ∧ Mv g (m.wb bc) w g' m' w
  | [], [], bs, fps, g, m, bc, K, h, hm, hbc, _, _, _, _, _, _, _, _, _ => by
    have e : m.wb bc = m := by
      have : bc = m.box := funext fun k => hbc k (by simp)
      rw [this]; rfl
    rw [e] at hm ⊢
    exact ⟨g, m, h, hm, Mv.refl _ _ _⟩
  | [], _ :: _, _, _, _, _, _, _, h, _, _, _, _, _, _, _, _, _, _, _ => h.elim
  | _ :: _, [], _, _, _, _, _, _, h, _, _, _, _, _, _, _, _, _, _, _ => h.elim
  | fs :: bx, k :: ks, [], _, _, _, _, _, _, _, _, hl, _, _, _, _, _, _, _, _ => by simp at hl
  | fs :: bx, k :: ks, b :: bs, fps, g, m, bc, K, h, hm, hbc, hl, hnd, hb, hsz, hne, hv, ho, hf, hd => by
    have h : bindB K bx ks ((bindM fs m).2.setBox k (bindM fs m).1) := h
    obtain ⟨j1, j2, j3⟩ := hb 0 k b rfl rfl
    have hfl : fs.length = b.cs.length := hsz 0 fs b rfl rfl
    have inl : ∀ (i : Nat) x, fs[i]? = some x → i < fs.length ∧ ((fs :: bx).flatten)[i]? = some x := fun i x hx => by
      have hlt := (List.getElem?_eq_some_iff.1 hx).1
      exact ⟨hlt, by rw [List.flatten_cons, List.getElem?_append_left hlt]; exact hx⟩
    have inv : ∀ (i : Nat) x, b.cs[i]? = some x → ((b :: bs).flatMap BX.cs)[i]? = some x := fun i x hx => by rw [List.flatMap_cons, List.getElem?_append_left (List.getElem?_eq_some_iff.1 hx).1]; exact hx
    obtain ⟨g1, k1, k2, k3, k4, k5⟩ := bind_sound fs b.cs (fun i x => i < fs.length ∧ fps i x) hm hfl (fun i l u h1 h2 => hv i l u (inl i _ h1).2 (inv i _ h2))
      (fun i l u h1 h2 => (ho i l u (inl i _ h1).2 (inv i _ h2)).move (fun x hx => ⟨(inl i _ h1).1, hx⟩) (fun _ _ => rfl)) (fun i => (hf i).mono (fun x hx => hx.2)) (fun i j x h h' => hd i j x h.2 h'.2)
    rw [bindM_wb] at k1 k2 k3 k5
    have hbk : ((bindM fs m).2.wb bc).box k ≠ [] := j1
    have hxn : (bindM fs m).1 ≠ [] := fun e => by
      have h1 := k3.len
      simp only [e, List.length_nil] at h1
      exact hne fs (by simp) (List.eq_nil_of_length_eq_zero (by omega))
    have hβ : g1.β k = g.β k := (k2.β k j1).2
    obtain ⟨n1, n2⟩ := k1.setBox (w' := w) b.ty hbk hxn (Same.refl w) rfl (by rw [hβ, j2]; exact j3) (fun _ _ => rfl) k3
    have hcur : ((bindM fs m).2.wb bc).setBox k (bindM fs m).1 = ((bindM fs m).2.setBox k (bindM fs m).1).wb (upd bc k (bindM fs m).1) := rfl
    rw [hcur] at n1 n2
    have hkn : k ∉ ks := (List.nodup_cons.1 hnd).1
    obtain ⟨g', m', r1, r2, r3⟩ := bindB_sound bx ks bs (fun i => fps (fs.length + i)) h n1 (fun j hj => by
        by_cases e : j = k
        · rw [e, upd_same]
          exact (upd_same _ _ _).symm
        · rw [upd_ne _ _ e, hbc j (by simp [e, hj])]
          have e1 : ((bindM fs m).2.setBox k (bindM fs m).1).box j = (bindM fs m).2.box j := upd_ne _ _ e
          rw [e1, bindM_box']) (by simpa using hl) (List.nodup_cons.1 hnd).2
      (fun i k' b' a c => by
        obtain ⟨q1, q2, q3⟩ := hb (i + 1) k' b' (by simpa using a) (by simpa using c)
        have hne' : k' ≠ k := fun e => hkn (e ▸ List.mem_of_getElem? a)
        refine ⟨by rw [upd_ne _ _ hne']; exact q1, ?_, q3⟩
        rw [(k2.β k' q1).2]; exact q2)
      (fun i l b' a c => hsz (i + 1) l b' (by simpa using a) (by simpa using c)) (fun l hl => hne l (by simp [hl]))
      (fun i l u a c => by
        have := hv (fs.length + i) l u (by rw [List.flatten_cons, List.getElem?_append_right (by omega)]; simpa using a) (by rw [List.flatMap_cons, List.getElem?_append_right (by omega), hfl]; simpa using c)
        rw [k4]; exact this)
      (fun i l u a c => ho (fs.length + i) l u (by rw [List.flatten_cons, List.getElem?_append_right (by omega)]; simpa using a) (by rw [List.flatMap_cons, List.getElem?_append_right (by omega), hfl]; simpa using c))
      (fun i => by
        have := (k5 _ (hf (fs.length + i)) (fun i' x hx hx2 => by have := hd _ _ x hx hx2.2; omega)).setBox (k := k) (ls := (bindM fs m).1) hbk
        rw [hcur] at this
        exact this) (fun i j x h h' => by have := hd _ _ x h h'; omega)
    exact ⟨g', m', r1, r2, k2.trans (n2.trans r3)⟩
theorem sht_len : ∀ {ss : List (Bool × List FL)} {vs cs : List Value}, ShT ss vs cs → cs.length = (ss.flatMap (·.2)).length
  | _, _, _, .nil => rfl
  | _, _, _, .cons h hs => by simp [shv_len h, sht_len hs]
theorem sh_len {γ : Nat → Nat} {r : RS} {v : Value} {cs : List Value} (h : Sh γ r v cs) : cs.length = r.fls.length := by
  cases h with
  | val h => exact shv_len h
  | ptr => rfl
  | clo => rfl
  | tup h => exact sht_len h
theorem lent_lens : ∀ (fls : List FL) (cs : List Value) (lent : List (Option Leaf)), fls.length = cs.length → lent.length = ownN fls → (lentV lent (ownV fls cs)).length = (lentO lent).length
  | [], cs, lent, _, h => by
    have : lent = [] := List.eq_nil_of_length_eq_zero h
    subst this
    cases cs <;> rfl
  | _ :: _, [], _, h, _ => by simp at h
  | .v _ :: fls, c :: cs, lent, h, h' => lent_lens fls cs lent (by simpa using h) h'
  | .o _ :: fls, c :: cs, [], h, h' => by simp [ownN] at h'
  | .o _ :: fls, c :: cs, some l :: lent, h, h' => by
    simp only [ownV, lentV, lentO, List.length_cons]
    rw [lent_lens fls cs lent (by simpa using h) (by simpa [ownN] using h')]
  | .o _ :: fls, c :: cs, none :: lent, h, h' => lent_lens fls cs lent (by simpa using h) (by simpa [ownN] using h')
theorem nodup_map {f : Nat → Nat} {l : List Nat} (h : l.Nodup) (hf : ∀ a ∈ l, ∀ b ∈ l, f a = f b → a = b) : (l.map f).Nodup := by
  unfold List.Nodup
  rw [List.pairwise_map]
  exact List.Pairwise.imp_of_mem (fun ha hb hne he => hne (hf _ ha _ hb he)) h
theorem TRs.append {a b : List TL} {c d : List Value} (h : TRs g m w a c) (h' : TRs g m w b d) : TRs g m w (a ++ b) (c ++ d) := by
  refine ⟨by simp [h.len, h'.len], fun i x u hx hu => ?_⟩
  rcases Nat.lt_or_ge i a.length with hi | hi
  · rw [List.getElem?_append_left hi] at hx
    rw [List.getElem?_append_left (by rw [← h.len]; exact hi)] at hu
    exact h.at_ i x u hx hu
  · rw [List.getElem?_append_right hi] at hx
    rw [List.getElem?_append_right (by rw [← h.len]; exact hi), ← h.len] at hu
    exact h'.at_ _ x u hx hu
end
end Go.Proofs.Ythhfhllfbnpcgaa.Co
