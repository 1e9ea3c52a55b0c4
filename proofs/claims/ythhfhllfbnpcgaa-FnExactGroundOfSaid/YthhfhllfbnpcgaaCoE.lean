/- The fifth part of the theory: memory as a whole ('MF': what the machine's blocks stand for, and what of the world before the call is untouched), and how it lives on: a new variable, a list made, frozen or let go, blocks of one's own that change. -/
import Derived.Test.YthhfhllfbnpcgaaCoD
namespace Go.Proofs.Ythhfhllfbnpcgaa.Co
open Go
set_option linter.unusedSimpArgs false
set_option linter.unusedVariables false

/-- Which blocks of the world before may change (w), and which are shown (S0). -/
structure Fence where
  w : Nat → Prop
  S0 : Nat → Prop
  g0 : G
  m0 : Mem
/-- Memory says m; of the blocks of w0 only those of pb may have changed. -/
structure MF (w0 : World) (pb : Fence) (g : G) (m : Mem) (w : World) : Prop where
  mem : MemR g m w
  same : Same w0 w
  keep : ∀ b, b < w0.heap.size → ¬ pb.w b → w.heap[b]? = w0.heap[b]?
  bpb : ∀ k, m.box k ≠ [] → w0.heap.size ≤ g.β k ∨ pb.w (g.β k)
  tpb : ∀ t l, m.tag t = .live l → ∀ b, g.fp t b → w0.heap.size ≤ b ∨ pb.w b
  sf : ∀ b, g.S b → w0.heap.size ≤ b ∨ pb.S0 b ∨ pb.w b

theorem Same.refl (w : World) : Same w w := ⟨rfl, rfl, rfl, Nat.le_refl _⟩
theorem Same.trans {w w1 w2 : World} (h : Same w w1) (k : Same w1 w2) : Same w w2 := ⟨k.os.trans h.os, k.tape.trans h.tape, k.output.trans h.output, Nat.le_trans h.size k.size⟩
theorem Same.grown {w w1 : World} {row : Option Nat} (h : w.grownBy w1 row) : Same w w1 := ⟨h.os, h.tape, h.output, h.size⟩
theorem Same.setCell (w : World) (p : Addr) (v : Value) : Same w (w.setCell p v) := ⟨rfl, rfl, rfl, by simp [World.setCell]⟩

section
variable {P : Program} {w0 : World} {pb : Fence} {g : G} {m : Mem} {w w' : World}

/-- Blocks that nothing reads (D) have changed; lists may have been let go. -/
theorem MF.change {m' : Mem} (h : MF w0 pb g m w) (D : Nat → Prop) (hs : Same w w') (hk : ∀ b, b < w.heap.size → ¬ D b → w'.heap[b]? = w.heap[b]?)
    (hb : m'.box = m.box) (hn : m.nx ≤ m'.nx) (hver : m'.ver = m.ver) (hl : ∀ t l, m'.tag t = .live l → m.tag t = .live l) (hf : ∀ t l, m'.tag t = .frz l → m.tag t = .frz l)
    (hDS : ∀ b, D b → ¬ g.S b) (hDB : ∀ b k, D b → m.box k ≠ [] → g.β k ≠ b) (hDT : ∀ b t l, D b → m'.tag t = .live l → ¬ g.fp t b) (hDp : ∀ b, D b → w0.heap.size ≤ b ∨ pb.w b) :
    MF w0 pb g m' w' ∧ Mv g m w g m' w' := by
  have hmv : Mv g m w g m' w' := ⟨fun b hS => ⟨hS, hk b (h.mem.Slt b hS) (fun hd => hDS b hd hS)⟩, fun k hk => ⟨by rw [hb]; exact hk, rfl⟩, fun _ _ => rfl, hn, fun t _ => by rw [hver]; exact Nat.le_refl _, fun t b n c xs ht _ hg hne he => by
    cases hx : m'.tag t with
    | live l =>
      rw [hx] at hg
      injection hg with hg; subst hg
      have h1 := hl t _ hx
      obtain ⟨_, h2⟩ := h.mem.tags t _ h1
      rw [he] at h2
      exact ⟨by rw [h1]; rfl, hk b (h.mem.tS t _ b h1 h2.top).2 (fun hd => hDT b t _ hd hx h2.top)⟩
    | frz l =>
      rw [hx] at hg
      injection hg with hg; subst hg
      have h1 := hf t _ hx
      obtain ⟨_, h2⟩ := h.mem.frz t _ h1
      rw [he] at h2
      exact ⟨by rw [h1]; rfl, hk b (h.mem.Slt b (h2.top hne)) (fun hd => hDS b hd (h2.top hne))⟩
    | gone => rw [hx] at hg; cases hg⟩
  refine ⟨⟨⟨fun k hkk => ?_, fun k k' h1 h2 => ?_, fun k h1 => ?_, fun k t l h1 h2 => ?_, fun t l h1 => ?_, fun t l h1 => ?_, fun t l b h1 h2 => ?_, fun t t' l l' b h1 h2 => ?_, fun b hS => ?_⟩, h.same.trans hs, fun b h1 h2 => ?_, fun k h1 => ?_, fun t l h1 => ?_, h.sf⟩, hmv⟩
  · rw [hb] at hkk
    obtain ⟨h1, cs, ty, h2, h3⟩ := h.mem.boxes k hkk
    refine ⟨Nat.lt_of_lt_of_le h1 hn, cs, ty, ?_, by rw [hb]; exact h3.mv hmv⟩
    rw [hk _ (Array.getElem?_eq_some_iff.1 h2).1 (fun hd => hDB _ k hd hkk rfl)]
    exact h2
  · rw [hb] at h1 h2; exact h.mem.binj k k' h1 h2
  · rw [hb] at h1; exact h.mem.bS k h1
  · rw [hb] at h1; exact h.mem.bfp k t l h1 (hl t l h2)
  · obtain ⟨h2, h3⟩ := h.mem.tags t l (hl t l h1)
    exact ⟨Nat.lt_of_lt_of_le h2 hn, h3.move (fun _ h => h) (fun b hb2 => hk b (h.mem.tS t l b (hl t l h1) hb2).2 (fun hd => hDT b t l hd h1 hb2))⟩
  · obtain ⟨h2, h3⟩ := h.mem.frz t l (hf t l h1)
    exact ⟨Nat.lt_of_lt_of_le h2 hn, h3.move (fun _ h => h) (fun b hb2 => (hmv.S b hb2).2)⟩
  · obtain ⟨h3, h4⟩ := h.mem.tS t l b (hl t l h1) h2
    exact ⟨h3, Nat.lt_of_lt_of_le h4 hs.size⟩
  · exact h.mem.tdis t t' l l' b (hl t l h1) (hl t' l' h2)
  · exact Nat.lt_of_lt_of_le (h.mem.Slt b hS) hs.size
  · by_cases hd : D b
    · rcases hDp b hd with h3 | h3
      · omega
      · exact absurd h3 h2
    · rw [hk b (Nat.lt_of_lt_of_le h1 h.same.size) hd]
      exact h.keep b h1 h2
  · rw [hb] at h1; exact h.bpb k h1
  · exact h.tpb t l (hl t l h1)
/-- Memory that only grew. -/
theorem MF.below (h : MF w0 pb g m w) (hs : Same w w') (hk : ∀ b, b < w.heap.size → w'.heap[b]? = w.heap[b]?) : MF w0 pb g m w' ∧ Mv g m w g m w' :=
  h.change (fun _ => False) hs (fun b hb _ => hk b hb) rfl (Nat.le_refl _) rfl (fun _ _ h => h) (fun _ _ h => h) (fun _ h => h.elim) (fun _ _ h => h.elim) (fun _ _ _ h => h.elim) (fun _ h => h.elim)
theorem setTag_tag (m : Mem) (t : Nat) (x : TG) (t' : Nat) : (m.setTag t x).tag t' = if t' = t then x else m.tag t' := rfl
/-- A list is let go. -/
theorem MF.kill (h : MF w0 pb g m w) (t : Nat) : MF w0 pb g (m.setTag t .gone) w ∧ Mv g m w g (m.setTag t .gone) w :=
  h.change (m' := m.setTag t .gone) (fun _ => False) (Same.refl w) (fun _ _ _ => rfl) rfl (Nat.le_refl _) rfl
    (fun t' l h => by rw [setTag_tag] at h; split at h; cases h; exact h) (fun t' l h => by rw [setTag_tag] at h; split at h; cases h; exact h)
    (fun _ h => h.elim) (fun _ _ h => h.elim) (fun _ _ _ h => h.elim) (fun _ h => h.elim)
/-- A list is frozen: from now on it is only read. -/
theorem MF.freeze (h : MF w0 pb g m w) (t : Nat) (l : Leaf) (ht : m.tag t = .live l) :
    MF w0 pb { g with S := fun b => g.S b ∨ g.fp t b } (m.setTag t (.frz l)) w ∧ Mv g m w { g with S := fun b => g.S b ∨ g.fp t b } (m.setTag t (.frz l)) w := by
  have hmv : Mv g m w { g with S := fun b => g.S b ∨ g.fp t b } (m.setTag t (.frz l)) w := ⟨fun b hb => ⟨.inl hb, rfl⟩, fun k hk => ⟨hk, rfl⟩, fun _ _ => rfl, Nat.le_refl _, fun _ _ => Nat.le_refl _, fun t' b n c xs _ _ hg _ _ => ⟨by
    rw [setTag_tag] at hg
    split at hg
    · rename_i he; rw [he, ht]; exact hg
    · exact hg, rfl⟩⟩
  have hlive : ∀ t' l', (m.setTag t (.frz l)).tag t' = .live l' → m.tag t' = .live l' ∧ t' ≠ t := by
    intro t' l' h1
    rw [setTag_tag] at h1
    split at h1
    · cases h1
    · rename_i hne; exact ⟨h1, hne⟩
  refine ⟨⟨⟨fun k hk => ?_, h.mem.binj, fun k hk hS => ?_, fun k t' l' hk h1 => ?_, fun t' l' h1 => ?_, fun t' l' h1 => ?_, fun t' l' b h1 h2 => ?_, fun t1 t2 l1 l2 b h1 h2 => ?_, fun b hb => ?_⟩, h.same, h.keep, h.bpb, fun t' l' h1 => ?_, fun b hb => hb.elim (h.sf b) (fun hb => (h.tpb t l ht b hb).imp id .inr)⟩, hmv⟩
  · obtain ⟨h1, cs, ty, h2, h3⟩ := h.mem.boxes k hk
    exact ⟨h1, cs, ty, h2, h3.mv hmv⟩
  · rcases hS with hS | hS
    · exact h.mem.bS k hk hS
    · exact h.mem.bfp k t l hk ht hS
  · exact h.mem.bfp k t' l' hk (hlive t' l' h1).1
  · exact h.mem.tags t' l' (hlive t' l' h1).1
  · rw [setTag_tag] at h1
    split at h1
    · rename_i he
      injection h1 with h1; subst h1; subst he
      obtain ⟨h2, h3⟩ := h.mem.tags t' _ ht
      exact ⟨h2, h3.rep (fun b hb => .inr hb)⟩
    · obtain ⟨h2, h3⟩ := h.mem.frz t' l' h1
      exact ⟨h2, h3.move (fun b hb => .inl hb) (fun _ _ => rfl)⟩
  · obtain ⟨h3, hne⟩ := hlive t' l' h1
    obtain ⟨h4, h5⟩ := h.mem.tS t' l' b h3 h2
    refine ⟨fun hS => ?_, h5⟩
    rcases hS with hS | hS
    · exact h4 hS
    · exact hne (h.mem.tdis t' t l' l b h3 ht h2 hS)
  · exact h.mem.tdis t1 t2 l1 l2 b (hlive t1 l1 h1).1 (hlive t2 l2 h2).1
  · rcases hb with hb | hb
    · exact h.mem.Slt b hb
    · exact (h.mem.tS t l b ht hb).2
  · exact h.tpb t' l' (hlive t' l' h1).1
theorem newTag_tag (m : Mem) (l : Leaf) (t : Nat) : (m.newTag l).tag t = if t = m.nx then .live l else m.tag t := rfl
/-- A list of one's own is there. -/
theorem MF.own (h : MF w0 pb g m w) {l : Leaf} {v : Value} {fp : Nat → Prop} (ho : Own w l v fp) (hS : ∀ b, fp b → ¬ g.S b ∧ b < w.heap.size) (hB : ∀ b k, fp b → m.box k ≠ [] → g.β k ≠ b)
    (hT : ∀ b t l, fp b → m.tag t = .live l → ¬ g.fp t b) (hp : ∀ b, fp b → w0.heap.size ≤ b ∨ pb.w b) :
    ∃ g', MF w0 pb g' (m.newTag l) w ∧ Mv g m w g' (m.newTag l) w ∧ SR g' (m.newTag l) w (.val false [.o m.nx]) v ∧ g'.S = g.S ∧ g'.β = g.β ∧ g'.fp m.nx = fp ∧ ∀ t, t ≠ m.nx → g'.fp t = g.fp t := by
  let g' : G := { g with fp := fun t => if t = m.nx then fp else g.fp t, va := upd g.va m.nx v }
  have hmv : Mv g m w g' (m.newTag l) w := ⟨fun b hb => ⟨hb, rfl⟩, fun k hk => ⟨hk, rfl⟩, fun t ht => upd_ne _ _ (Nat.ne_of_lt ht), Nat.le_succ _, fun _ _ => Nat.le_refl _, fun t b n c xs ht _ hg _ _ => ⟨by rw [newTag_tag, if_neg (Nat.ne_of_lt ht)] at hg; exact hg, rfl⟩⟩
  have hva : g'.va m.nx = v := upd_same _ _ _
  have hfp : g'.fp m.nx = fp := if_pos rfl
  have hfn : ∀ t, t ≠ m.nx → g'.fp t = g.fp t := fun t ht => if_neg ht
  have hlive : ∀ t l', (m.newTag l).tag t = .live l' → (t = m.nx ∧ l' = l) ∨ (t ≠ m.nx ∧ m.tag t = .live l') := by
    intro t l' h1
    rw [newTag_tag] at h1
    split at h1
    · rename_i he; injection h1 with h1; exact .inl ⟨he, h1.symm⟩
    · rename_i hne; exact .inr ⟨hne, h1⟩
  refine ⟨g', ⟨⟨fun k hk => ?_, h.mem.binj, h.mem.bS, fun k t l' hk h1 => ?_, fun t l' h1 => ?_, fun t l' h1 => ?_, fun t l' b h1 h2 => ?_, fun t t' l1 l2 b h1 h2 h3 h4 => ?_, h.mem.Slt⟩, h.same, h.keep, h.bpb, fun t l' h1 b h2 => ?_, h.sf⟩, hmv, ⟨_, rfl, Nat.lt_succ_self _, hva.symm, ho.one⟩, rfl, rfl, hfp, hfn⟩
  · obtain ⟨h1, cs, ty, h2, h3⟩ := h.mem.boxes k hk
    exact ⟨Nat.lt_succ_of_lt h1, cs, ty, h2, h3.mv hmv⟩
  · rcases hlive t l' h1 with ⟨rfl, _⟩ | ⟨hne, h2⟩
    · rw [hfp]; exact fun hb => hB _ k hb hk rfl
    · rw [hfn t hne]; exact h.mem.bfp k t l' hk h2
  · rcases hlive t l' h1 with ⟨rfl, rfl⟩ | ⟨hne, h2⟩
    · rw [hfp, hva]; exact ⟨Nat.lt_succ_self _, ho⟩
    · obtain ⟨h3, h4⟩ := h.mem.tags t l' h2
      rw [hfn t hne]
      exact ⟨Nat.lt_succ_of_lt h3, (hmv.va t h3).symm ▸ h4⟩
  · rw [newTag_tag] at h1
    split at h1
    · cases h1
    · obtain ⟨h3, h4⟩ := h.mem.frz t l' h1
      exact ⟨Nat.lt_succ_of_lt h3, (hmv.va t h3).symm ▸ h4⟩
  · rcases hlive t l' h1 with ⟨rfl, rfl⟩ | ⟨hne, h3⟩
    · rw [hfp] at h2; exact hS b h2
    · rw [hfn t hne] at h2; exact h.mem.tS t l' b h3 h2
  · rcases hlive t l1 h1 with ⟨rfl, rfl⟩ | ⟨hne, h5⟩ <;> rcases hlive t' l2 h2 with ⟨rfl, rfl⟩ | ⟨hne', h6⟩
    · rfl
    · rw [hfp] at h3; rw [hfn t' hne'] at h4; exact absurd h4 (hT b t' l2 h3 h6)
    · rw [hfp] at h4; rw [hfn t hne] at h3; exact absurd h3 (hT b t l1 h4 h5)
    · rw [hfn t hne] at h3; rw [hfn t' hne'] at h4; exact h.mem.tdis t t' l1 l2 b h5 h6 h3 h4
  · rcases hlive t l' h1 with ⟨rfl, rfl⟩ | ⟨hne, h3⟩
    · rw [hfp] at h2; exact hp b h2
    · rw [hfn t hne] at h2; exact h.tpb t l' h3 b h2
/-- A new variable. -/
theorem MF.newBox (h : MF w0 pb g m w) {ls : List TL} {cs : List Value} (ty : TypeId) (hl : TRs g m w ls cs) :
    ∃ g', MF w0 pb g' (m.newBox ls) (w.alloc (.cells cs.toArray ty (0, 0))) ∧ Mv g m w g' (m.newBox ls) (w.alloc (.cells cs.toArray ty (0, 0))) ∧
      (ls ≠ [] → SR g' (m.newBox ls) (w.alloc (.cells cs.toArray ty (0, 0))) (.ptr m.nx 0) (.pointer (some ⟨w.heap.size, 0, none⟩))) := by
  have hbx : ∀ k, (m.newBox ls).box k = if k = m.nx then ls else m.box k := fun k => rfl
  have hold : ∀ k, m.box k ≠ [] → k ≠ m.nx := fun k hk he => by have := (h.mem.boxes k hk).1; omega
  let w' := w.alloc (.cells cs.toArray ty (0, 0))
  have hs : Same w w' := ⟨rfl, rfl, rfl, by simp [w']⟩
  have hkeep : ∀ b, b < w.heap.size → w'.heap[b]? = w.heap[b]? := fun b hb => heap_alloc_old w _ hb
  obtain ⟨h', hmv0⟩ := h.below hs hkeep
  let g' : G := { g with β := upd g.β m.nx w.heap.size }
  have hmv : Mv g m w g' (m.newBox ls) w' := ⟨fun b hb => ⟨hb, hkeep b (h.mem.Slt b hb)⟩, fun k hk => ⟨by rw [hbx, if_neg (hold k hk)]; exact hk, upd_ne _ _ (hold k hk)⟩, fun _ _ => rfl, Nat.le_succ _, fun _ _ => Nat.le_refl _, fun t b n c xs ht hv hg hne he => hmv0.row t b n c xs ht hv hg hne he⟩
  have hβ : g'.β m.nx = w.heap.size := upd_same _ _ _
  have hlt : ∀ k, m.box k ≠ [] → g.β k < w.heap.size := fun k hk => by obtain ⟨_, cs, ty, h2, _⟩ := h.mem.boxes k hk; exact (Array.getElem?_eq_some_iff.1 h2).1
  have hcase : ∀ k, (m.newBox ls).box k ≠ [] → (k = m.nx ∧ g'.β k = w.heap.size) ∨ (m.box k ≠ [] ∧ g'.β k = g.β k) := by
    intro k hk
    rw [hbx] at hk
    split at hk
    · rename_i he; subst he; exact .inl ⟨rfl, hβ⟩
    · rename_i hne; exact .inr ⟨hk, upd_ne _ _ hne⟩
  refine ⟨g', ⟨⟨fun k hk => ?_, fun k k' hk hk' he => ?_, fun k hk => ?_, fun k t l hk h1 => ?_, fun t l h1 => ?_, fun t l h1 => ?_, fun t l b h1 h2 => h'.mem.tS t l b h1 h2, h.mem.tdis, h'.mem.Slt⟩, h'.same, h'.keep, fun k hk => ?_, h.tpb, h.sf⟩, hmv, fun hne => ⟨by rw [hβ], by rw [hbx, if_pos rfl]; exact hne⟩⟩
  · rcases hcase k hk with ⟨rfl, he⟩ | ⟨h1, he⟩
    · refine ⟨Nat.lt_succ_self _, cs, ty, by rw [he]; exact heap_alloc_new w _, ?_⟩
      rw [hbx, if_pos rfl]
      exact hl.mv hmv
    · obtain ⟨h2, cs', ty', h3, h4⟩ := h'.mem.boxes k h1
      refine ⟨Nat.lt_succ_of_lt h2, cs', ty', by rw [he]; exact h3, ?_⟩
      obtain ⟨_, cs2, ty2, h5, h6⟩ := h.mem.boxes k h1
      rw [hkeep _ (hlt k h1)] at h3
      rw [h5] at h3
      injection h3 with h3
      injection h3 with h3 _
      have : cs2 = cs' := by simpa using congrArg Array.toList h3
      subst this
      rw [hbx, if_neg (hold k h1)]
      exact h6.mv hmv
  · rcases hcase k hk with ⟨rfl, h1⟩ | ⟨h1, h2⟩ <;> rcases hcase k' hk' with ⟨rfl, h3⟩ | ⟨h3, h4⟩
    · rfl
    · have := hlt k' h3; omega
    · have := hlt k h1; omega
    · exact h.mem.binj k k' h1 h3 (by omega)
  · rcases hcase k hk with ⟨rfl, h1⟩ | ⟨h1, h2⟩
    · rw [h1]; exact fun hS => absurd (h.mem.Slt _ hS) (Nat.lt_irrefl _)
    · rw [h2]; exact h.mem.bS k h1
  · rcases hcase k hk with ⟨rfl, h2⟩ | ⟨h2, h3⟩
    · rw [h2]; exact fun hb => absurd (h.mem.tS t l _ h1 hb).2 (Nat.lt_irrefl _)
    · rw [h3]; exact h.mem.bfp k t l h2 h1
  · obtain ⟨h2, h3⟩ := h'.mem.tags t l h1
    exact ⟨Nat.lt_succ_of_lt h2, h3⟩
  · obtain ⟨h2, h3⟩ := h'.mem.frz t l h1
    exact ⟨Nat.lt_succ_of_lt h2, h3⟩
  · rcases hcase k hk with ⟨rfl, h1⟩ | ⟨h1, h2⟩
    · rw [h1]; exact .inl h.same.size
    · rw [h2]; exact h.bpb k h1
/-- A variable is written. -/
theorem MF.setBox (h : MF w0 pb g m w) {k : Nat} {ls : List TL} {cs : List Value} (ty : TypeId) (hk : m.box k ≠ []) (hne : ls ≠ []) (hs : Same w w') (hsz : w'.heap.size = w.heap.size)
    (hb : w'.heap[g.β k]? = some (.cells cs.toArray ty (0, 0))) (hkeep : ∀ b, b ≠ g.β k → w'.heap[b]? = w.heap[b]?) (hl : TRs g m w ls cs) :
    MF w0 pb g (m.setBox k ls) w' ∧ Mv g m w g (m.setBox k ls) w' := by
  have hbx : ∀ j, (m.setBox k ls).box j = if j = k then ls else m.box j := fun j => rfl
  have hbox : ∀ j, (m.setBox k ls).box j ≠ [] → m.box j ≠ [] := by
    intro j hj
    rw [hbx] at hj
    split at hj
    · rename_i he; rw [he]; exact hk
    · exact hj
  have hmv : Mv g m w g (m.setBox k ls) w' := ⟨fun b hS => ⟨hS, hkeep b (fun he => h.mem.bS k hk (he ▸ hS))⟩, fun j hj => ⟨by rw [hbx]; split; exact hne; exact hj, rfl⟩, fun _ _ => rfl, Nat.le_refl _, fun _ _ => Nat.le_refl _, fun t b n c xs ht _ hg hne2 he => ⟨hg, hkeep b (fun e => by
    cases hx : m.tag t with
    | live l =>
      have h2 := (h.mem.tags t l hx).2
      change (m.tag t).cont = _ at hg
      rw [hx] at hg; injection hg with hg; subst hg
      rw [he] at h2
      exact h.mem.bfp k t _ hk hx (e ▸ h2.top)
    | frz l =>
      have h2 := (h.mem.frz t l hx).2
      change (m.tag t).cont = _ at hg
      rw [hx] at hg; injection hg with hg; subst hg
      rw [he] at h2
      exact h.mem.bS k hk (e ▸ h2.top hne2)
    | gone => change (m.tag t).cont = _ at hg; rw [hx] at hg; cases hg)⟩⟩
  refine ⟨⟨⟨fun j hj => ?_, fun j j' h1 h2 => h.mem.binj j j' (hbox j h1) (hbox j' h2), fun j h1 => h.mem.bS j (hbox j h1), fun j t l h1 => h.mem.bfp j t l (hbox j h1), fun t l h1 => ?_, fun t l h1 => ?_, fun t l b h1 h2 => ?_, h.mem.tdis, fun b hS => ?_⟩, h.same.trans hs, fun b h1 h2 => ?_, fun j h1 => h.bpb j (hbox j h1), h.tpb, h.sf⟩, hmv⟩
  · by_cases he : j = k
    · subst he
      refine ⟨(h.mem.boxes j hk).1, cs, ty, hb, ?_⟩
      rw [hbx, if_pos rfl]; exact hl.mv hmv
    · obtain ⟨h1, cs', ty', h2, h3⟩ := h.mem.boxes j (hbox j hj)
      refine ⟨h1, cs', ty', ?_, by rw [hbx, if_neg he]; exact h3.mv hmv⟩
      rw [hkeep _ (fun e => he (h.mem.binj j k (hbox j hj) hk e))]; exact h2
  · obtain ⟨h2, h3⟩ := h.mem.tags t l h1
    exact ⟨h2, h3.move (fun _ h => h) (fun b hb2 => hkeep b (fun e => h.mem.bfp k t l hk h1 (e ▸ hb2)))⟩
  · obtain ⟨h2, h3⟩ := h.mem.frz t l h1
    exact ⟨h2, h3.move (fun _ h => h) (fun b hb2 => (hmv.S b hb2).2)⟩
  · obtain ⟨h3, h4⟩ := h.mem.tS t l b h1 h2
    exact ⟨h3, by rw [hsz]; exact h4⟩
  · rw [hsz]; exact h.mem.Slt b hS
  · rw [hkeep b (fun e => ?_)]
    · exact h.keep b h1 h2
    · rcases h.bpb k hk with h3 | h3
      · omega
      · exact h2 (e ▸ h3)
end
end Go.Proofs.Ythhfhllfbnpcgaa.Co
