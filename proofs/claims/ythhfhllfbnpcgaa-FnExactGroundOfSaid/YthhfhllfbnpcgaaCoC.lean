/- The third part of the theory: how registers and memory of the machine say plain data, and that the operations which leave memory alone go along with it. -/
import Derived.Test.YthhfhllfbnpcgaaCoB
namespace Go.Proofs.Ythhfhllfbnpcgaa.Co
open Go
set_option linter.unusedSimpArgs false
set_option linter.unusedVariables false

/-- What the machine's blocks stand for: blocks that never change (S), the variables' blocks, each list of one's own with its blocks and its value. -/
structure G where
  S : Nat → Prop
  β : Nat → Nat
  fp : Nat → Nat → Prop
  va : Nat → Value
def TR (g : G) (m : Mem) (w : World) : TL → Value → Prop
  | .v l, u => Rep g.S w l u
  | .nl, u => u = .slice none 0 0
  | .o t, u => t < m.nx ∧ u = g.va t ∧ u.oneCell' = true
  | .s t i sz j ver, u => t < m.nx ∧ ver ≤ m.ver t ∧ u.oneCell' = true ∧ ∃ b n c, g.va t = .slice (some ⟨b, 0, none⟩) n c ∧ (m.ver t = ver → ∀ xs, (m.tag t).cont = some (.ls xs) → i < xs.length → w.cell? ⟨b, i * sz + j, none⟩ = some u)
structure TRs (g : G) (m : Mem) (w : World) (ls : List TL) (cs : List Value) : Prop where
  len : ls.length = cs.length
  at_ : ∀ (i : Nat) (x : TL) (u : Value), ls[i]? = some x → cs[i]? = some u → TR g m w x u
def VR (g : G) (m : Mem) (w : World) : Bool → List TL → Value → Prop
  | true, ls, v => ∃ cs : List Value, v = .agg cs.toArray ∧ TRs g m w ls cs
  | false, ls, v => ∃ x, ls = [x] ∧ TR g m w x v
def SR (g : G) (m : Mem) (w : World) : Slot → Value → Prop
  | .val b ls, v => VR g m w b ls v
  | .ptr k off, v => v = .pointer (some ⟨g.β k, off, none⟩) ∧ m.box k ≠ []
  | .rp ls, v => ∃ b o, v = .pointer (some ⟨b, o, none⟩) ∧ ∃ cs : List Value, g.S b ∧ (∀ (j : Nat) (u : Value), cs[j]? = some u → w.cell? ⟨b, o + j, none⟩ = some u) ∧ TRs g m w (ls.map .v) cs
  | .ep t i sz off, v => ∃ b n c, g.va t = .slice (some ⟨b, 0, none⟩) n c ∧ v = .pointer (some ⟨b, i * sz + off, none⟩) ∧ t < m.nx
  | .clo f ks, v => v = .func (.func f) #[] (ks.map fun k => ptrTo (g.β k)).toArray ∧ ∀ k ∈ ks, m.box k ≠ []
  | .tup ss, v => ∃ vs : List Value, v = .tuple vs.toArray ∧ ss.length = vs.length ∧ ∀ (i : Nat) b ls u, ss[i]? = some (b, ls) → vs[i]? = some u → VR g m w b ls u
  | .junk, _ => True
structure MemR (g : G) (m : Mem) (w : World) : Prop where
  boxes : ∀ k, m.box k ≠ [] → k < m.nx ∧ ∃ (cs : List Value) (ty : TypeId), w.heap[g.β k]? = some (.cells cs.toArray ty (0, 0)) ∧ TRs g m w (m.box k) cs
  binj : ∀ k k', m.box k ≠ [] → m.box k' ≠ [] → g.β k = g.β k' → k = k'
  bS : ∀ k, m.box k ≠ [] → ¬ g.S (g.β k)
  bfp : ∀ k t l, m.box k ≠ [] → m.tag t = .live l → ¬ g.fp t (g.β k)
  tags : ∀ t l, m.tag t = .live l → t < m.nx ∧ Own w l (g.va t) (g.fp t)
  frz : ∀ t l, m.tag t = .frz l → t < m.nx ∧ Rep g.S w l (g.va t)
  tS : ∀ t l b, m.tag t = .live l → g.fp t b → ¬ g.S b ∧ b < w.heap.size
  tdis : ∀ t t' l l' b, m.tag t = .live l → m.tag t' = .live l' → g.fp t b → g.fp t' b → t = t'
  Slt : ∀ b, g.S b → b < w.heap.size
/-- How one state lives on in another. -/
structure Mv (g : G) (m : Mem) (w : World) (g' : G) (m' : Mem) (w' : World) : Prop where
  S : ∀ b, g.S b → g'.S b ∧ w'.heap[b]? = w.heap[b]?
  β : ∀ k, m.box k ≠ [] → m'.box k ≠ [] ∧ g'.β k = g.β k
  va : ∀ t, t < m.nx → g'.va t = g.va t
  nx : m.nx ≤ m'.nx
  ver : ∀ t, t < m.nx → m.ver t ≤ m'.ver t
  row : ∀ t b n c xs, t < m.nx → m'.ver t = m.ver t → (m'.tag t).cont = some (.ls xs) → xs ≠ [] → g.va t = .slice (some ⟨b, 0, none⟩) n c → (m.tag t).cont = some (.ls xs) ∧ w'.heap[b]? = w.heap[b]?
theorem Mv.refl (g : G) (m : Mem) (w : World) : Mv g m w g m w := ⟨fun _ h => ⟨h, rfl⟩, fun _ h => ⟨h, rfl⟩, fun _ _ => rfl, Nat.le_refl _, fun _ _ => Nat.le_refl _, fun _ _ _ _ _ _ _ h _ _ => ⟨h, rfl⟩⟩
theorem Mv.trans {g g1 g2 : G} {m m1 m2 : Mem} {w w1 w2 : World} (h : Mv g m w g1 m1 w1) (k : Mv g1 m1 w1 g2 m2 w2) : Mv g m w g2 m2 w2 :=
  ⟨fun b hb => ⟨(k.S b (h.S b hb).1).1, (k.S b (h.S b hb).1).2.trans (h.S b hb).2⟩, fun j hj => ⟨(k.β j (h.β j hj).1).1, (k.β j (h.β j hj).1).2.trans (h.β j hj).2⟩,
    fun t ht => (k.va t (Nat.lt_of_lt_of_le ht h.nx)).trans (h.va t ht), Nat.le_trans h.nx k.nx, fun t ht => Nat.le_trans (h.ver t ht) (k.ver t (Nat.lt_of_lt_of_le ht h.nx)),
    fun t b n c xs ht hv hg hne he => by
      have h1 := h.ver t ht
      have h2 := k.ver t (Nat.lt_of_lt_of_le ht h.nx)
      have ha := k.row t b n c xs (Nat.lt_of_lt_of_le ht h.nx) (by omega) hg hne (by rw [h.va t ht]; exact he)
      have hb := h.row t b n c xs ht (by omega) ha.1 hne he
      exact ⟨hb.1, ha.2.trans hb.2⟩⟩
section
variable {g g' : G} {m m' : Mem} {w w' : World}
theorem TR.one {x : TL} {u : Value} (h : TR g m w x u) : u.oneCell' = true := by
  cases x with
  | v l => exact Rep.one h
  | nl => subst h; rfl
  | o t => exact h.2.2
  | s t i sz j ver => exact h.2.2.1
theorem TR.mv (h : Mv g m w g' m' w') {x : TL} {u : Value} (hx : TR g m w x u) : TR g' m' w' x u := by
  cases x with
  | v l => exact Rep.move hx (fun b hb => (h.S b hb).1) (fun b hb => (h.S b hb).2)
  | nl => exact hx
  | o t => exact ⟨Nat.lt_of_lt_of_le hx.1 h.nx, hx.2.1.trans (h.va t hx.1).symm, hx.2.2⟩
  | s t i sz j ver =>
    obtain ⟨h1, h2, h3, b, n, c, h4, h5⟩ := hx
    have hv := h.ver t h1
    refine ⟨Nat.lt_of_lt_of_le h1 h.nx, Nat.le_trans h2 hv, h3, b, n, c, (h.va t h1).trans h4, fun he xs hg hi => ?_⟩
    obtain ⟨h6, h7⟩ := h.row t b n c xs h1 (by omega) hg (by rintro rfl; simp at hi) h4
    exact (cell_of_block h7).trans (h5 (by omega) xs h6 hi)
theorem TRs.mv (h : Mv g m w g' m' w') {ls : List TL} {cs : List Value} (hx : TRs g m w ls cs) : TRs g' m' w' ls cs := ⟨hx.len, fun i x u h1 h2 => (hx.at_ i x u h1 h2).mv h⟩
theorem VR.mv (h : Mv g m w g' m' w') {b : Bool} {ls : List TL} {v : Value} (hx : VR g m w b ls v) : VR g' m' w' b ls v := by
  cases b with
  | true => obtain ⟨cs, rfl, hc⟩ := hx; exact ⟨cs, rfl, hc.mv h⟩
  | false => obtain ⟨x, rfl, hc⟩ := hx; exact ⟨x, rfl, hc.mv h⟩
theorem SR.mv (h : Mv g m w g' m' w') {s : Slot} {v : Value} (hx : SR g m w s v) : SR g' m' w' s v := by
  cases s with
  | val b ls => exact VR.mv h hx
  | ptr k off => exact ⟨by rw [(h.β k hx.2).2]; exact hx.1, (h.β k hx.2).1⟩
  | rp ls =>
    obtain ⟨b, o, rfl, cs, hb, hc, hl⟩ := hx
    exact ⟨b, o, rfl, cs, (h.S b hb).1, fun j u hj => (cell_of_block (h.S b hb).2).trans (hc j u hj), hl.mv h⟩
  | ep t i sz off =>
    obtain ⟨b, n, c, h1, h2, h3⟩ := hx
    exact ⟨b, n, c, (h.va t h3).trans h1, h2, Nat.lt_of_lt_of_le h3 h.nx⟩
  | clo f ks =>
    refine ⟨?_, fun k hk => (h.β k (hx.2 k hk)).1⟩
    have he : ks.map (fun k => ptrTo (g'.β k)) = ks.map (fun k => ptrTo (g.β k)) := List.map_congr_left (fun k hk => by rw [(h.β k (hx.2 k hk)).2])
    rw [hx.1, he]
  | tup ss =>
    obtain ⟨vs, h1, h2, h3⟩ := hx
    exact ⟨vs, h1, h2, fun i b ls u hi hu => (h3 i b ls u hi hu).mv h⟩
  | junk => trivial

theorem TRs.sub {ls : List TL} {cs : List Value} (h : TRs g m w ls cs) (off n : Nat) : TRs g m w ((ls.drop off).take n) ((cs.drop off).take n) := by
  refine ⟨by simp [h.len], fun i x u h1 h2 => ?_⟩
  rw [List.getElem?_take] at h1 h2
  split at h1
  · rename_i hi
    rw [if_pos hi] at h2
    rw [List.getElem?_drop] at h1 h2
    exact h.at_ _ _ _ h1 h2
  · cases h1
theorem TRs.get {ls : List TL} {cs : List Value} (h : TRs g m w ls cs) {i : Nat} {x : TL} (hi : ls[i]? = some x) : ∃ u, cs[i]? = some u ∧ TR g m w x u := by
  have hl : i < cs.length := by rw [← h.len]; exact (List.getElem?_eq_some_iff.1 hi).1
  exact ⟨cs[i], List.getElem?_eq_getElem hl, h.at_ i x _ hi (List.getElem?_eq_getElem hl)⟩
theorem one_cells {v : Value} (h : v.oneCell' = true) : v.cells = #[v] := by cases v <;> first | rfl | (simp [Value.oneCell'] at h)

/-! ### a variable's part -/
/-- Where the machine finds cells (a pointer), it loads a part of them. -/
theorem part_load {P : Program} {t : TypeId} {off : Nat} {ls : List TL} {s : Slot} {cs : List Value} {b o : Nat} (h : part P t off ls = some s) (hl : TRs g m w ls cs)
    (hc : ∀ (j : Nat) (u : Value), cs[j]? = some u → w.cell? ⟨b, o + j, none⟩ = some u) : ∃ v, (loadVar t ⟨b, o + off, none⟩).run P w = .ok v w ∧ SR g m w s v := by
  unfold part at h
  split at h
  · rename_i n ha hn
    split at h
    · rename_i hle
      injection h with h; subst h
      obtain ⟨i0, hi, hin⟩ := Option.map_eq_some_iff.1 hn
      obtain ⟨d, hd, hda⟩ := Option.map_eq_some_iff.1 ha
      have hlen : ((cs.drop off).take n).length = n := by rw [List.length_take, List.length_drop, ← hl.len]; omega
      refine ⟨.agg ((cs.drop off).take n).toArray, ?_, (cs.drop off).take n, rfl, hl.sub off n⟩
      have hload := run_loadCells_list (P := P) w ⟨b, o + off, none⟩ ((cs.drop off).take n) (fun j v hj => by
        rw [List.getElem?_take] at hj
        split at hj
        · rw [List.getElem?_drop] at hj
          have := hc _ _ hj
          rw [Addr.add_lit, Nat.add_assoc]
          exact this
        · cases hj)
      rw [hlen] at hload
      cases d <;> simp only [isAggD, Bool.false_eq_true] at hda <;> simp [loadVar, isAgg, run_underlying hd, sizeOf, typeInfo, hi, hin, hload]
    · cases h
  · rename_i n ha hn
    obtain ⟨d, hd, hda⟩ := Option.map_eq_some_iff.1 ha
    split at h
    · rename_i x hx
      injection h with h; subst h
      obtain ⟨u, hu, hr⟩ := hl.get hx
      refine ⟨u, ?_, x, rfl, hr⟩
      have h1 := hc _ _ hu
      cases d <;> simp only [isAggD, Bool.true_eq_false] at hda <;> simp [loadVar, isAgg, run_underlying hd, h1]
    · cases h
  · cases h
/-- The same of a struct's value. -/
theorem part_part {P : Program} {t : TypeId} {off : Nat} {ls : List TL} {s : Slot} {cs : List Value} (h : part P t off ls = some s) (hl : TRs g m w ls cs) :
    ∃ v, (Go.part t cs.toArray off).run P w = .ok v w ∧ SR g m w s v := by
  unfold part at h
  split at h
  · rename_i n ha hn
    split at h
    · rename_i hle
      injection h with h; subst h
      obtain ⟨i0, hi, hin⟩ := Option.map_eq_some_iff.1 hn
      obtain ⟨d, hd, hda⟩ := Option.map_eq_some_iff.1 ha
      refine ⟨.agg ((cs.drop off).take n).toArray, ?_, (cs.drop off).take n, rfl, hl.sub off n⟩
      have he : cs.toArray.extract off (off + n) = ((cs.drop off).take n).toArray := by simp
      cases d <;> simp only [isAggD, Bool.false_eq_true] at hda <;> simp [Go.part, isAgg, run_underlying hd, sizeOf, typeInfo, hi, hin]
    · cases h
  · rename_i n ha hn
    obtain ⟨d, hd, hda⟩ := Option.map_eq_some_iff.1 ha
    split at h
    · rename_i x hx
      injection h with h; subst h
      obtain ⟨u, hu, hr⟩ := hl.get hx
      refine ⟨u, ?_, x, rfl, hr⟩
      cases d <;> simp only [isAggD, Bool.true_eq_false] at hda <;> simp [Go.part, isAgg, run_underlying hd, hu]
    · cases h
  · cases h
end
end Go.Proofs.Ythhfhllfbnpcgaa.Co
