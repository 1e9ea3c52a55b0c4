/- A call that hands back a pointer to a variable of its own. -/
import Derived.Test.YthhfhllfbnpcgaaCoJf
namespace Go.Proofs.Ythhfhllfbnpcgaa.Co
open Go
set_option linter.unusedSimpArgs false
set_option linter.unusedVariables false
def newK (ls : List FL) (m : Mem) (K : Slot → Mem → Prop) : Prop := ls.isEmpty = false ∧ K (.ptr (bindM ls m).2.nx 0) ((bindM ls m).2.newBox (bindM ls m).1)
def retN (r : RS) (bx : List (List FL)) (m : Mem) (xs : List TL) (K : Slot → Mem → Prop) : Prop := match r, bx with
  | .ptr 0, [ls] => newK ls (frzIf (ls.any FL.isView) m xs) K
  | _, _ => False
def callNew (P : Program) (f : FuncId) (ss : List Slot) (m : Mem) (K : Slot → Mem → Prop) : Prop := match showS m ss with
  | some args => AC P f [] args fun r _ bx => retN r bx m (slotL ss) K
  | none => False
section
variable {P : Program} {w0 : World} {pb : Fence} {g : G} {m : Mem} {w w' : World}
/-- A block that nothing leads to becomes a variable. -/
theorem MF.adopt (h : MF w0 pb g m w) {b : Nat} {ls : List TL} {cs : List Value} {ty : TypeId} (hc : w.heap[b]? = some (.cells cs.toArray ty (0, 0))) (hf : Free w0 pb g m w (fun x => x = b)) (hl : TRs g m w ls cs) :
    ∃ g', MF w0 pb g' (m.newBox ls) w ∧ Mv g m w g' (m.newBox ls) w ∧ (ls ≠ [] → SR g' (m.newBox ls) w (.ptr m.nx 0) (ptrTo b)) := by
  have hbx : ∀ k, (m.newBox ls).box k = if k = m.nx then ls else m.box k := fun k => rfl
  have hold : ∀ k, m.box k ≠ [] → k ≠ m.nx := fun k hk he => by have := (h.mem.boxes k hk).1; omega
  let g' : G := { g with β := upd g.β m.nx b }
  have hmv : Mv g m w g' (m.newBox ls) w := ⟨fun b hb => ⟨hb, rfl⟩, fun k hk => ⟨by rw [hbx, if_neg (hold k hk)]; exact hk, upd_ne _ _ (hold k hk)⟩, fun _ _ => rfl, Nat.le_succ _, fun _ _ => Nat.le_refl _, fun t b n c xs ht hv hg hne he => ⟨hg, rfl⟩⟩
  have hβ : g'.β m.nx = b := upd_same _ _ _
  have hcase : ∀ k, (m.newBox ls).box k ≠ [] → (k = m.nx ∧ g'.β k = b) ∨ (m.box k ≠ [] ∧ g'.β k = g.β k) := by
    intro k hk
    rw [hbx] at hk
    split at hk
    · rename_i he; subst he; exact .inl ⟨rfl, hβ⟩
    · rename_i hne; exact .inr ⟨hk, upd_ne _ _ hne⟩
  refine ⟨g', ⟨⟨fun k hk => ?_, fun k k' hk hk' he => ?_, fun k hk => ?_, fun k t l hk h1 => ?_, fun t l h1 => ?_, fun t l h1 => ?_, h.mem.tS, h.mem.tdis, h.mem.Slt⟩, h.same, h.keep, fun k hk => ?_, h.tpb, h.sf⟩, hmv, fun hne => ⟨by rw [hβ]; rfl, by rw [hbx, if_pos rfl]; exact hne⟩⟩
  · rcases hcase k hk with ⟨rfl, he⟩ | ⟨h1, he⟩
    · refine ⟨Nat.lt_succ_self _, cs, ty, by rw [he]; exact hc, ?_⟩
      rw [hbx, if_pos rfl]
      exact hl.mv hmv
    · obtain ⟨h2, cs', ty', h3, h4⟩ := h.mem.boxes k h1
      refine ⟨Nat.lt_succ_of_lt h2, cs', ty', by rw [he]; exact h3, ?_⟩
      rw [hbx, if_neg (hold k h1)]
      exact h4.mv hmv
  · rcases hcase k hk with ⟨rfl, h1⟩ | ⟨h1, h2⟩ <;> rcases hcase k' hk' with ⟨rfl, h3⟩ | ⟨h3, h4⟩
    · rfl
    · exact absurd (by rw [h1, h4] at he; exact he.symm) (hf.box b k' rfl h3)
    · exact absurd (by rw [h2, h3] at he; exact he) (hf.box b k rfl h1)
    · exact h.mem.binj k k' h1 h3 (by rw [h2, h4] at he; exact he)
  · rcases hcase k hk with ⟨rfl, h1⟩ | ⟨h1, h2⟩
    · rw [h1]; exact (hf.S b rfl).1
    · rw [h2]; exact h.mem.bS k h1
  · rcases hcase k hk with ⟨rfl, h2⟩ | ⟨h2, h3⟩
    · rw [h2]; exact hf.tag b t l rfl h1
    · rw [h3]; exact h.mem.bfp k t l h2 h1
  · obtain ⟨h2, h3⟩ := h.mem.tags t l h1
    exact ⟨Nat.lt_succ_of_lt h2, h3⟩
  · obtain ⟨h2, h3⟩ := h.mem.frz t l h1
    exact ⟨Nat.lt_succ_of_lt h2, h3⟩
  · rcases hcase k hk with ⟨rfl, h1⟩ | ⟨h1, h2⟩
    · rw [h1]; exact hf.pb b rfl
    · rw [h2]; exact h.bpb k h1
theorem new_sound {f : FuncId} {ss : List Slot} {vs : List Value} {K : Slot → Mem → Prop} (h : callNew P f ss m K) (hm : MF w0 pb g m w) (hss : SRs g m w ss vs) :
    Enters P f ∧ Calls P f vs.toArray w (CallOk w0 pb g m w K) := by
  unfold callNew at h
  split at h
  · rename_i args hargs
    obtain ⟨cs, hsh, htr, hshow⟩ := show_sound (bgs []) hargs hss
    obtain ⟨hfl, hfx⟩ := showL_some hshow
    let Sc : Nat → Prop := fun b => g.S b ∨ ∃ t l, (TL.o t ∈ slotL ss ∨ ∃ i sz j ver, TL.s t i sz j ver ∈ slotL ss) ∧ m.tag t = .live l ∧ g.fp t b
    have hSc : ∀ b, Sc b → b < w.heap.size := by
      rintro b (hb | ⟨t, l, _, h1, h2⟩)
      · exact hm.mem.Slt b hb
      · exact (hm.mem.tS t l b h1 h2).2
    have hallv : ∀ (i : Nat) fl, (args.flatMap RS.fls)[i]? = some fl → ∃ l, fl = .v l := by
      intro i fl hi
      have hlt : i < (slotL ss).length := by rw [← hfl]; exact (List.getElem?_eq_some_iff.1 hi).1
      obtain ⟨l, _, h2⟩ := hfx i _ fl (List.getElem?_eq_getElem hlt) hi
      exact ⟨l, h2⟩
    have hbun : Bun Sc w (args.flatMap RS.fls ++ ([] : List (List FL)).flatten) (cs ++ ([] : List BX).flatMap BX.cs) (fun _ _ => False) := by
      simp only [List.flatten_nil, List.flatMap_nil, List.append_nil]
      refine ⟨by rw [hfl, htr.len], fun i l u h1 h2 => ?_, fun i l u h1 h2 => ?_, fun _ _ h => h.elim, fun _ _ _ h => h.elim⟩
      · have hlt : i < (slotL ss).length := by rw [← hfl]; exact (List.getElem?_eq_some_iff.1 h1).1
        obtain ⟨l', h3, h4⟩ := hfx i _ _ (List.getElem?_eq_getElem hlt) h1
        injection h4 with h4; subst h4
        refine leaf_rep hm (htr.at_ i _ u (List.getElem?_eq_getElem hlt) h2) h3 (fun b hb => .inl hb) (fun t l' b he ht hb => .inr ⟨t, l', ?_, ht, hb⟩)
        have hmem := List.getElem_mem hlt
        rcases he with he | ⟨i', sz, j, ver, he⟩
        · exact .inl (he ▸ hmem)
        · exact .inr ⟨i', sz, j, ver, he ▸ hmem⟩
      · obtain ⟨l', h3⟩ := hallv i _ h1; cases h3
    refine ⟨h.1, (h.2 w vs cs [] Sc (fun _ _ => False) hsh hbun ⟨rfl, fun i l b h => by simp at h, (fun b h => by cases h), List.nodup_nil⟩ hSc).mono ?_⟩
    rintro e w' ⟨r, lent, bx', v, rcs, bs', S', fps', hK, rfl, hb⟩
    have hlen : lent = [] := List.eq_nil_of_length_eq_zero (by rw [hb.lent_len]; exact ownN_views _ hallv)
    subst hlen
    have hbb := hb.bun
    unfold retN at hK
    split at hK
    · rename_i ls
      obtain ⟨hne, hK⟩ := hK
      obtain ⟨b', rfl⟩ : ∃ b', bs' = [b'] := by
        have := hb.box.len
        match bs', this with
        | [b'], _ => exact ⟨b', rfl⟩
      have hrc : rcs = [] ∧ v = ptrTo b'.g := by
        have := hb.sh
        cases this
        exact ⟨rfl, rfl⟩
      obtain ⟨rfl, rfl⟩ := hrc
      simp only [RS.fls, lentO, lentV, List.nil_append, List.flatten_cons, List.flatten_nil, List.append_nil, List.flatMap_cons, List.flatMap_nil] at hbb
      have hg0 := hb.bnew 0 (Nat.le_refl _) (by simp)
      obtain ⟨q1, q2, q3⟩ := hb.box.at_ b' (by simp)
      have hg : w.heap.size ≤ b'.g := hg0
      have hglt : b'.g < w'.heap.size := (Array.getElem?_eq_some_iff.1 q1).1
      have hkeep : ∀ b, b < w.heap.size → w'.heap[b]? = w.heap[b]? := fun b hlt => hb.keep b hlt (fun _ h => h) (fun _ h => by cases h)
      have hnewf : ∀ i b, fps' i b → w.heap.size ≤ b ∧ b < w'.heap.size ∧ ¬ S' b := fun i b hib => by
        rcases hb.f_from i b hib with h1 | ⟨_, h1⟩
        · exact ⟨h1, (hbb.sub i b hib).2, (hbb.sub i b hib).1⟩
        · exact h1.elim
      have mem : ∀ (views : Bool), ∃ g1, MF w0 pb g1 (frzIf views m (slotL ss)) w' ∧ Mv g m w g1 (frzIf views m (slotL ss)) w' ∧ (views = true → ∀ b, S' b → g1.S b) ∧
          ∀ fp : Nat → Prop, (∀ b, fp b → w.heap.size ≤ b ∧ b < w'.heap.size ∧ ¬ S' b) → Free w0 pb g1 (frzIf views m (slotL ss)) w' fp := by
        intro views
        cases views with
        | false =>
          obtain ⟨k1, k2⟩ := hm.below hb.same hkeep
          exact ⟨g, k1, k2, (fun h => by cases h), fun fp hfp => Free.new hm (fun b hib => ⟨(hfp b hib).1, (hfp b hib).2.1⟩)⟩
        | true =>
          obtain ⟨g1, j1, j2, j3, j4⟩ := frzL_sound (slotL ss) hm
          obtain ⟨k1, k2⟩ := j1.below hb.same hkeep
          obtain ⟨n1, n2⟩ := k1.settle (fp := fun b => S' b ∧ w.heap.size ≤ b) (Free.new j1 (fun b hb2 => ⟨hb2.2, hb.S_lt b hb2.1⟩))
          refine ⟨_, n1, (j2.trans k2).trans n2, fun _ b hb2 => ?_, fun fp hfp => ?_⟩
          · rcases hb.S_from b hb2 with (h1 | ⟨t, l, h1, h2, h3⟩) | h1 | ⟨_, h1⟩
            · exact .inl (j3 b h1)
            · exact .inl (j4 t l b h1 h2 h3)
            · exact .inr ⟨hb2, h1⟩
            · exact h1.elim
          · have hf := Free.new j1 (w' := w') (fp := fp) (fun b hib => ⟨(hfp b hib).1, (hfp b hib).2.1⟩)
            refine ⟨fun b hib => ⟨fun hS => ?_, (hf.S b hib).2⟩, hf.box, hf.tag, hf.pb⟩
            rcases hS with hS | ⟨hS, _⟩
            · exact (hf.S b hib).1 hS
            · exact (hfp b hib).2.2 hS
      obtain ⟨g1, k1, k2, k3, k4⟩ := mem (ls.any FL.isView)
      have hview : ∀ l u, FL.v l ∈ ls → Rep S' w' l u → Rep g1.S w' l u := by
        intro l u hmem hr
        cases l with
        | sc v => cases hr; exact .sc _ (by assumption)
        | ls xs => exact hr.move (k3 (List.any_eq_true.2 ⟨_, hmem, rfl⟩)) (fun _ _ => rfl)
      obtain ⟨g2, n1, n2, n3, n4, n5⟩ := bind_sound ls b'.cs fps' k1 (hb.box.sz 0 ls b' rfl rfl)
        (fun i l u h1 h2 => hview l u (List.mem_of_getElem? h1) (hbb.view i l u h1 h2))
        (fun i l u h1 h2 => hbb.own i l u h1 h2) (fun i => k4 _ (fun b hib => hnewf i b hib)) (fun i j b => hbb.dis i j b)
      have hfb := n5 (fun x => x = b'.g) (k4 _ (fun b e => by subst e; exact ⟨hg, hglt, q2⟩)) (fun i b e hib => q3 i (e ▸ hib))
      obtain ⟨g3, r1, r2, r3⟩ := n1.adopt q1 hfb n3
      have hxn : (bindM ls (frzIf (ls.any FL.isView) m (slotL ss))).1 ≠ [] := fun e => by
        have h1 := n3.len
        have h2 := hb.box.sz 0 ls b' rfl rfl
        simp only [e, List.length_nil] at h1
        have : ls = [] := List.eq_nil_of_length_eq_zero (by omega)
        rw [this] at hne; cases hne
      exact ⟨_, _, _, g3, rfl, hK, r3 hxn, r1, (k2.trans n2).trans r2⟩
    · exact hK.elim
  · exact h.elim
end
end Go.Proofs.Ythhfhllfbnpcgaa.Co
