/- A call to which data is shown and lent, and variables by pointers: what it leaves in the caller's memory. -/
import Derived.Test.YthhfhllfbnpcgaaCoJb
namespace Go.Proofs.Ythhfhllfbnpcgaa.Co
open Go
set_option linter.unusedSimpArgs false
set_option linter.unusedVariables false
/-- The same memory but for what its variables hold. -/
def Mem.wb (m : Mem) (b : Nat → List TL) : Mem := { m with box := b }
theorem frzT_wb (m : Mem) (b : Nat → List TL) (t : Nat) : frzT (m.wb b) t = (frzT m t).wb b := by
  unfold frzT
  show (match m.tag t with | .live l => _ | _ => _) = _
  cases m.tag t <;> rfl
theorem frzL_wb (b : Nat → List TL) : ∀ (xs : List TL) (m : Mem), frzL (m.wb b) xs = (frzL m xs).wb b
  | [], m => rfl
  | .v _ :: r, m => frzL_wb b r m
  | .nl :: r, m => frzL_wb b r m
  | .o t :: r, m => by
    simp only [frzL]
    rw [frzT_wb]
    exact frzL_wb b r _
  | .s t _ _ _ _ :: r, m => by
    simp only [frzL]
    rw [frzT_wb]
    exact frzL_wb b r _
theorem frzIf_wb (b : Nat → List TL) (c : Bool) (xs : List TL) (m : Mem) : frzIf c (m.wb b) xs = (frzIf c m xs).wb b := by
  cases c
  · rfl
  · exact frzL_wb b xs m
theorem goneT_wb (b : Nat → List TL) : ∀ (ts : List Nat) (m : Mem), goneT (m.wb b) ts = (goneT m ts).wb b
  | [], m => rfl
  | t :: r, m => goneT_wb b r (m.setTag t .gone)
theorem backX_wb (b : Nat → List TL) (m0 : Mem) : ∀ (xs : List TL) (ex : List (Option Leaf)) (m : Mem), backX m0 (m.wb b) xs ex = (backX m0 m xs ex).wb b
  | [], ex, m => by cases ex <;> rfl
  | x :: r, [], m => by cases x <;> rfl
  | x :: r, lo :: ex, m => by
    simp only [backX]
    cases tagOf x with
    | none => exact backX_wb b m0 r ex m
    | some t =>
      cases lo with
      | none => exact backX_wb b m0 r ex m
      | some l => exact backX_wb b m0 r ex ((m.setTag t (.live (wholeL m0 x l))).bump t)
theorem bindM_wb (b : Nat → List TL) : ∀ (fls : List FL) (m : Mem), bindM fls (m.wb b) = ((bindM fls m).1, (bindM fls m).2.wb b)
  | [], m => rfl
  | .v l :: r, m => by simp only [bindM]; rw [bindM_wb b r m]
  | .o l :: r, m => by
    simp only [bindM]
    rw [show (m.wb b).newTag l = (m.newTag l).wb b from rfl, bindM_wb b r (m.newTag l)]
    rfl
theorem goneT_tag : ∀ (ts : List Nat) (m : Mem) (t : Nat), (goneT m ts).tag t = if t ∈ ts then .gone else m.tag t
  | [], m, t => by simp [goneT]
  | s :: r, m, t => by
    simp only [goneT]
    rw [goneT_tag r, setTag_tag]
    by_cases h : t ∈ r
    · simp [h]
    · by_cases e : t = s <;> simp [h, e]
theorem goneT_nx : ∀ (ts : List Nat) (m : Mem), (goneT m ts).nx = m.nx
  | [], m => rfl
  | s :: r, m => goneT_nx r _
theorem frzT_nx (m : Mem) (t : Nat) : (frzT m t).nx = m.nx := by
  unfold frzT
  cases m.tag t <;> rfl
theorem frzL_nx : ∀ (xs : List TL) (m : Mem), (frzL m xs).nx = m.nx
  | [], m => rfl
  | .v _ :: r, m => frzL_nx r m
  | .nl :: r, m => frzL_nx r m
  | .o t :: r, m => (frzL_nx r (frzT m t)).trans (frzT_nx m t)
  | .s t _ _ _ _ :: r, m => (frzL_nx r (frzT m t)).trans (frzT_nx m t)
theorem frzL_tag : ∀ (xs : List TL) (m : Mem) (t : Nat), (∀ x ∈ xs, tagOf x ≠ some t) → (frzL m xs).tag t = m.tag t
  | [], m, t, _ => rfl
  | .v _ :: r, m, t, h => frzL_tag r m t (fun x hx => h x (by simp [hx]))
  | .nl :: r, m, t, h => frzL_tag r m t (fun x hx => h x (by simp [hx]))
  | .o s :: r, m, t, h => by
    have hne : t ≠ s := fun e => h (.o s) (by simp) (by simp [tagOf, e])
    have : (frzT m s).tag t = m.tag t := by
      unfold frzT
      cases m.tag s <;> simp [setTag_tag, hne]
    exact (frzL_tag r (frzT m s) t (fun x hx => h x (by simp [hx]))).trans this
  | .s s i sz j v :: r, m, t, h => by
    have hne : t ≠ s := fun e => h (.s s i sz j v) (by simp) (by simp [tagOf, e])
    have : (frzT m s).tag t = m.tag t := by
      unfold frzT
      cases m.tag s <;> simp [setTag_tag, hne]
    exact (frzL_tag r (frzT m s) t (fun x hx => h x (by simp [hx]))).trans this
theorem frzT_live {m : Mem} {s t : Nat} {l : Leaf} (h : (frzT m s).tag t = .live l) : m.tag t = .live l := by
  unfold frzT at h
  split at h
  · rw [setTag_tag] at h
    split at h
    · cases h
    · exact h
  · exact h
theorem frzL_live : ∀ (xs : List TL) {m : Mem} {t : Nat} {l : Leaf}, (frzL m xs).tag t = .live l → m.tag t = .live l
  | [], m, t, l, h => h
  | .v _ :: r, m, t, l, h => frzL_live r h
  | .nl :: r, m, t, l, h => frzL_live r h
  | .o s :: r, m, t, l, h => frzT_live (frzL_live r h)
  | .s s i sz j v :: r, m, t, l, h => frzT_live (frzL_live r h)
section
variable {P : Program} {w0 : World} {pb : Fence} {g : G} {m : Mem} {w w' : World}
/-- Variables are written, several at once. -/
theorem MF.setBoxes (h : MF w0 pb g m w) (ks : List Nat) (bA : Nat → List TL) (hA : ∀ k, k ∉ ks → bA k = m.box k) (hs : Same w w') (hsz : w'.heap.size = w.heap.size)
    (hk : ∀ k ∈ ks, m.box k ≠ [] ∧ bA k ≠ [] ∧ ∃ (cs : List Value) (ty : TypeId), w'.heap[g.β k]? = some (.cells cs.toArray ty (0, 0)) ∧ TRs g m w (bA k) cs) (hkeep : ∀ b, (∀ k ∈ ks, b ≠ g.β k) → w'.heap[b]? = w.heap[b]?) :
    MF w0 pb g (m.wb bA) w' ∧ Mv g m w g (m.wb bA) w' := by
  have hbox : ∀ j, (m.wb bA).box j ≠ [] → m.box j ≠ [] := by
    intro j hj
    by_cases e : j ∈ ks
    · exact (hk j e).1
    · rw [← hA j e]; exact hj
  have hbox' : ∀ j, m.box j ≠ [] → (m.wb bA).box j ≠ [] := by
    intro j hj
    by_cases e : j ∈ ks
    · exact (hk j e).2.1
    · show bA j ≠ []
      rw [hA j e]; exact hj
  have hnot : ∀ {p : Nat → Prop} {b : Nat}, p b → (∀ k ∈ ks, ¬ p (g.β k)) → ∀ k ∈ ks, b ≠ g.β k := fun hp hn k hkk e => hn k hkk (e ▸ hp)
  have hmv : Mv g m w g (m.wb bA) w' := ⟨fun b hS => ⟨hS, hkeep b (hnot hS (fun k hkk => h.mem.bS k (hk k hkk).1))⟩, fun j hj => ⟨hbox' j hj, rfl⟩, fun _ _ => rfl, Nat.le_refl _, fun _ _ => Nat.le_refl _, fun t b n c xs ht _ hg hne2 he => ⟨hg, hkeep b (fun k hkk e => by
    change (m.tag t).cont = _ at hg
    cases hx : m.tag t with
    | live l =>
      have h2 := (h.mem.tags t l hx).2
      rw [hx] at hg; injection hg with hg; subst hg
      rw [he] at h2
      exact h.mem.bfp k t _ (hk k hkk).1 hx (e ▸ h2.top)
    | frz l =>
      have h2 := (h.mem.frz t l hx).2
      rw [hx] at hg; injection hg with hg; subst hg
      rw [he] at h2
      exact h.mem.bS k (hk k hkk).1 (e ▸ h2.top hne2)
    | gone => rw [hx] at hg; cases hg)⟩⟩
  refine ⟨⟨⟨fun j hj => ?_, fun j j' h1 h2 => h.mem.binj j j' (hbox j h1) (hbox j' h2), fun j h1 => h.mem.bS j (hbox j h1), fun j t l h1 => h.mem.bfp j t l (hbox j h1), fun t l h1 => ?_, fun t l h1 => ?_, fun t l b h1 h2 => ?_, h.mem.tdis, fun b hS => ?_⟩, h.same.trans hs, fun b h1 h2 => ?_, fun j h1 => h.bpb j (hbox j h1), h.tpb, h.sf⟩, hmv⟩
  · by_cases e : j ∈ ks
    · obtain ⟨k1, k2, cs, ty, k3, k4⟩ := hk j e
      exact ⟨(h.mem.boxes j k1).1, cs, ty, k3, k4.mv hmv⟩
    · obtain ⟨h1, cs', ty', h2, h3⟩ := h.mem.boxes j (hbox j hj)
      refine ⟨h1, cs', ty', ?_, by show TRs _ _ _ (bA j) _; rw [hA j e]; exact h3.mv hmv⟩
      rw [hkeep _ (fun k hkk e' => e (by rw [h.mem.binj j k (hbox j hj) (hk k hkk).1 e']; exact hkk))]
      exact h2
  · obtain ⟨h2, h3⟩ := h.mem.tags t l h1
    exact ⟨h2, h3.move (fun _ h => h) (fun b hb2 => hkeep b (hnot hb2 (fun k hkk => h.mem.bfp k t l (hk k hkk).1 h1)))⟩
  · obtain ⟨h2, h3⟩ := h.mem.frz t l h1
    exact ⟨h2, h3.move (fun _ h => h) (fun b hb2 => (hmv.S b hb2).2)⟩
  · obtain ⟨h3, h4⟩ := h.mem.tS t l b h1 h2
    exact ⟨h3, by rw [hsz]; exact h4⟩
  · rw [hsz]; exact h.mem.Slt b hS
  · by_cases e : ∃ k ∈ ks, b = g.β k
    · obtain ⟨k, hkk, e⟩ := e
      rcases h.bpb k (hk k hkk).1 with h3 | h3
      · omega
      · exact absurd (e ▸ h3) h2
    · rw [hkeep b (fun k hkk e' => e ⟨k, hkk, e'⟩)]
      exact h.keep b h1 h2
theorem goneT_sound : ∀ (ts : List Nat) {m : Mem}, MF w0 pb g m w → MF w0 pb g (goneT m ts) w ∧ Mv g m w g (goneT m ts) w
  | [], m, h => ⟨h, Mv.refl _ _ _⟩
  | t :: r, m, h => by
    obtain ⟨h1, h2⟩ := h.kill t
    obtain ⟨h3, h4⟩ := goneT_sound r h1
    exact ⟨h3, h2.trans h4⟩
/-- Shown lists are frozen: no more than their blocks is settled. -/
theorem frzT_more (hm : MF w0 pb g m w) (t : Nat) : ∃ g', MF w0 pb g' (frzT m t) w ∧ Mv g m w g' (frzT m t) w ∧ (∀ b, g.S b → g'.S b) ∧ (∀ l b, m.tag t = .live l → g.fp t b → g'.S b) ∧ g'.fp = g.fp ∧ g'.β = g.β ∧
    ∀ b, g'.S b → g.S b ∨ ∃ l, m.tag t = .live l ∧ g.fp t b := by
  unfold frzT
  split
  · rename_i l hl
    obtain ⟨k1, k2⟩ := hm.freeze t l hl
    exact ⟨_, k1, k2, fun b hb => .inl hb, fun l' b _ hb => .inr hb, rfl, rfl, fun b hb => hb.imp id (fun hb => ⟨l, hl, hb⟩)⟩
  · rename_i hne
    exact ⟨g, hm, Mv.refl _ _ _, fun b hb => hb, fun l b h => absurd h (hne l), rfl, rfl, fun b hb => .inl hb⟩
theorem frzL_more : ∀ (xs : List TL) {g : G} {m : Mem}, MF w0 pb g m w → ∃ g', MF w0 pb g' (frzL m xs) w ∧ Mv g m w g' (frzL m xs) w ∧ (∀ b, g.S b → g'.S b) ∧ (∀ x t l b, x ∈ xs → tagOf x = some t → m.tag t = .live l → g.fp t b → g'.S b) ∧ g'.fp = g.fp ∧ g'.β = g.β ∧
    ∀ b, g'.S b → g.S b ∨ ∃ x t l, x ∈ xs ∧ tagOf x = some t ∧ m.tag t = .live l ∧ g.fp t b
  | [], g, m, hm => ⟨g, hm, Mv.refl _ _ _, fun _ h => h, (fun _ _ _ _ h => by cases h), rfl, rfl, fun b hb => .inl hb⟩
  | x :: r, g, m, hm => by
    have pass : frzL m (x :: r) = frzL m r → tagOf x = none → ∃ g', MF w0 pb g' (frzL m (x :: r)) w ∧ Mv g m w g' (frzL m (x :: r)) w ∧ (∀ b, g.S b → g'.S b) ∧ (∀ y t l b, y ∈ x :: r → tagOf y = some t → m.tag t = .live l → g.fp t b → g'.S b) ∧ g'.fp = g.fp ∧ g'.β = g.β ∧
        ∀ b, g'.S b → g.S b ∨ ∃ y t l, y ∈ x :: r ∧ tagOf y = some t ∧ m.tag t = .live l ∧ g.fp t b := by
      intro he h1
      obtain ⟨g', k1, k2, k3, k4, k5, k6, k7⟩ := frzL_more r hm
      rw [he]
      refine ⟨g', k1, k2, k3, fun y t l b hy ht => ?_, k5, k6, fun b hb => (k7 b hb).imp id (fun ⟨y, t, l, a, b, c⟩ => ⟨y, t, l, by simp [a], b, c⟩)⟩
      rcases List.mem_cons.1 hy with rfl | hy
      · rw [h1] at ht; cases ht
      · exact k4 y t l b hy ht
    have step : ∀ t0, frzL m (x :: r) = frzL (frzT m t0) r → tagOf x = some t0 → ∃ g', MF w0 pb g' (frzL m (x :: r)) w ∧ Mv g m w g' (frzL m (x :: r)) w ∧ (∀ b, g.S b → g'.S b) ∧ (∀ y t l b, y ∈ x :: r → tagOf y = some t → m.tag t = .live l → g.fp t b → g'.S b) ∧ g'.fp = g.fp ∧ g'.β = g.β ∧
        ∀ b, g'.S b → g.S b ∨ ∃ y t l, y ∈ x :: r ∧ tagOf y = some t ∧ m.tag t = .live l ∧ g.fp t b := by
      intro t0 he h1
      obtain ⟨g1, j1, j2, j3, j4, j5, j6, j7⟩ := frzT_more hm t0
      obtain ⟨g', k1, k2, k3, k4, k5, k6, k7⟩ := frzL_more r j1
      rw [he]
      refine ⟨g', k1, j2.trans k2, fun b hb => k3 b (j3 b hb), fun y t l b hy ht hl hb => ?_, k5.trans j5, k6.trans j6, fun b hb => ?_⟩
      · by_cases e : t = t0
        · subst e; exact k3 b (j4 l b hl hb)
        · rcases List.mem_cons.1 hy with rfl | hy
          · rw [h1] at ht; injection ht with ht; exact absurd ht.symm e
          · have htag : (frzT m t0).tag t = .live l := by
              unfold frzT
              split
              · rw [setTag_tag, if_neg e]; exact hl
              · exact hl
            exact k4 y t l b hy ht htag (by rw [j5]; exact hb)
      · rcases k7 b hb with hb | ⟨y, t, l, a1, a2, a3, a4⟩
        · rcases j7 b hb with hb | ⟨l, a1, a2⟩
          · exact .inl hb
          · exact .inr ⟨x, t0, l, by simp, h1, a1, a2⟩
        · exact .inr ⟨y, t, l, by simp [a1], a2, frzT_live a3, by rw [← j5]; exact a4⟩
    cases x with
    | v l => exact pass rfl rfl
    | nl => exact pass rfl rfl
    | o t => exact step t rfl rfl
    | s t i sz j ver => exact step t rfl rfl
end
end Go.Proofs.Ythhfhllfbnpcgaa.Co
