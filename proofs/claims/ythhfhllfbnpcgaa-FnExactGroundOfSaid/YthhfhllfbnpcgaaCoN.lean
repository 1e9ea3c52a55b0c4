/- The fourteenth part of the theory: a region whose order is open comes to the same in every order that its text allows. -/
import Derived.Test.YthhfhllfbnpcgaaCoK
namespace Go.Proofs.Ythhfhllfbnpcgaa.Co
open Go
set_option linter.unusedSimpArgs false
set_option linter.unusedVariables false
section
variable {P : Program} {md : Md} {m m' : Mem} {ρ ρ' : Operand → Slot}

theorem take_box : ∀ {ls : List TL} {m m' : Mem} {x : List Leaf}, takeL ls m = some (x, m') → m'.box = m.box
  | [], m, m', x, h => by injection h with h; injection h with _ h; rw [← h]
  | .v (.sc v) :: r, m, m', x, h => by
    obtain ⟨p, hp, he⟩ := Option.map_eq_some_iff.1 h
    injection he with _ he; rw [← he]; exact take_box hp
  | .v (.ls _) :: r, m, m', x, h => by cases h
  | .nl :: r, m, m', x, h => by
    obtain ⟨p, hp, he⟩ := Option.map_eq_some_iff.1 h
    injection he with _ he; rw [← he]; exact take_box hp
  | .o t :: r, m, m', x, h => by
    simp only [takeL] at h
    split at h
    · obtain ⟨p, hp, he⟩ := Option.map_eq_some_iff.1 h
      injection he with _ he; rw [← he]; exact (take_box hp).trans rfl
    · cases h
  | .s .. :: r, m, m', x, h => by cases h
theorem m_box_newTag (m : Mem) (l : Leaf) : (m.newTag l).box = m.box := rfl
theorem frzT_box (m : Mem) (t : Nat) : (frzT m t).box = m.box := by
  unfold frzT
  split <;> rfl
theorem view_box : ∀ {ls : List TL} {m m' : Mem} {x : List Leaf}, viewL ls m = some (x, m') → m'.box = m.box
  | [], m, m', x, h => by injection h with h; injection h with _ h; rw [← h]
  | .v l :: r, m, m', x, h => by
    obtain ⟨p, hp, he⟩ := Option.map_eq_some_iff.1 h
    injection he with _ he; rw [← he]; exact view_box hp
  | .nl :: r, m, m', x, h => by
    obtain ⟨p, hp, he⟩ := Option.map_eq_some_iff.1 h
    injection he with _ he; rw [← he]; exact view_box hp
  | .o t :: r, m, m', x, h => by
    simp only [viewL] at h
    split at h
    · obtain ⟨p, hp, he⟩ := Option.map_eq_some_iff.1 h
      injection he with _ he; rw [← he]; exact (view_box hp).trans (frzT_box m t)
    · cases h
  | .s t i sz j ver :: r, m, m', x, h => by
    simp only [viewL] at h
    split at h
    · obtain ⟨p, hp, he⟩ := Option.map_eq_some_iff.1 h
      injection he with _ he; rw [← he]; exact (view_box hp).trans (frzT_box m t)
    · cases h
theorem frzL_box : ∀ (ls : List TL) (m : Mem), (frzL m ls).box = m.box
  | [], m => rfl
  | .v _ :: r, m => frzL_box r m
  | .nl :: r, m => frzL_box r m
  | .o t :: r, m => (frzL_box r (frzT m t)).trans (frzT_box m t)
  | .s t _ _ _ _ :: r, m => (frzL_box r (frzT m t)).trans (frzT_box m t)
theorem bindM_box : ∀ (ls : List FL) (m : Mem), (bindM ls m).2.box = m.box
  | [], m => rfl
  | .v _ :: r, m => bindM_box r m
  | .o l :: r, m => bindM_box r (m.newTag l)
theorem bindT_box : ∀ (ls : List (Bool × List FL)) (m : Mem), (bindT ls m).2.box = m.box
  | [], m => rfl
  | (b, ls) :: r, m => (bindT_box r _).trans (bindM_box ls m)

/-- More may be told of what is left, where no box changes. -/
theorem eo_more {op : Op} {K K' : Slot → Mem → Prop} (hmd : md ≠ .seq) (hc : calmOp op = true) (h : eo P md op ρ m K) (hk : ∀ s m', m'.box = m.box → K s m' → K' s m') : eo P md op ρ m K' := by
  have viaR : frK (fr P md op ρ m) m K → frK (fr P md op ρ m) m K' := by
    intro h
    obtain ⟨s, h1, h2⟩ := frK_some h
    rw [h1]
    exact hk s m rfl h2
  unfold eo at h ⊢
  split at h
  · simp [calmOp] at hc
  · simp [calmOp] at hc
  · simp [calmOp] at hc
  · simp only [eoX, buildX] at h ⊢
    split at h
    · split at h
      · refine ⟨h.1, ?_⟩
        have h := h.2
        split at h
        · split at h
          · rename_i hx
            exact hk _ _ (by rw [m_box_newTag]; exact take_box hx) h
          · split at h
            · rename_i hx
              exact hk _ _ (view_box hx) h
            · exact h.elim
        · exact h.elim
      · exact h.elim
    · exact h.elim
  · simp only [eoX, makeX] at h ⊢
    split at h
    · split at h
      · exact ⟨h.1, hk _ _ rfl h.2⟩
      · exact h.elim
    · exact h.elim
  · split at h
    · have callM : ∀ {f : FuncId} {ss : List Slot}, callE P md f ss m K → callE P md f ss m K' := by
        intro f ss h
        rcases h with h | ⟨h, _⟩
        · refine .inl ?_
          unfold callPure at h ⊢
          split at h
          · refine h.mono ?_
            intro r _ _ hr
            unfold retK at hr ⊢
            have hb : ∀ (c : Bool) xs, (if c = true then frzL m xs else m).box = m.box := fun c xs => by
              cases c
              · rfl
              · exact frzL_box xs m
            split at hr
            · exact hk _ _ ((bindM_box _ _).trans (hb _ _)) hr
            · exact hk _ _ ((bindT_box _ _).trans (hb _ _)) hr
            · exact hr.elim
          · exact h.elim
        · exact absurd h hmd
      unfold callV at h ⊢
      split at h
      · exact ⟨h.1, callM h.2⟩
      · exact callM h
      · exact h.elim
    · simp only [eoX] at h ⊢
      split at h
      · refine ⟨h.1, ?_⟩
        have h := h.2
        unfold appendX at h ⊢
        split at h
        · split at h
          · rename_i hx
            refine ⟨h.1, ?_⟩
            have h := h.2
            split at h
            · exact ⟨h.1, hk _ _ ((take_box hx).trans rfl) h.2⟩
            · split at h
              · rename_i hx2
                exact ⟨h.1, hk _ _ ((take_box hx2).trans (take_box hx)) h.2⟩
              · exact h.elim
          · exact h.elim
        · exact h.elim
      · exact h.elim
    · exact viaR h
  · exact viaR h
/-- What an operation comes to hangs on its operands alone. -/
theorem map_parts {ps : List (Nat × Operand)} (h : ∀ x ∈ ps.map (·.2), ρ x = ρ' x) : ps.map (fun p => (p.1, ρ p.2)) = ps.map (fun p => (p.1, ρ' p.2)) := by
  refine List.map_congr_left fun p hp => ?_
  rw [h p.2 (List.mem_map_of_mem hp)]
theorem map_opt {o : Option Operand} (h : ∀ x ∈ o.toArray, ρ x = ρ' x) : o.map ρ = o.map ρ' := by
  cases o with
  | none => rfl
  | some x => exact congrArg some (h x (by simp))
theorem fr_congr {op : Op} (h : ∀ x ∈ op.operands, ρ x = ρ' x) (hb : m'.box = m.box) : fr P .draw op ρ' m' = fr P .draw op ρ m := by
  have hl : ∀ t s, loadS P .draw t m' s = loadS P .draw t m s := fun t s => by
    cases s <;> simp [loadS, hb]
  have hi : ∀ t x i, indexAddrS P .draw t m' x i = indexAddrS P .draw t m x i := fun t x i => by
    unfold indexAddrS
    split
    · split
      · rfl
      · simp
      · rfl
    · rfl
  have hn : ∀ t x, lenS P .draw t m' x = lenS P .draw t m x := fun t x => by
    unfold lenS
    split
    · rfl
    · rfl
    · rfl
    · simp
    · rfl
  have hcv : ∀ s d x, convS P .draw s d m' x = convS P .draw s d m x := fun s d x => by
    unfold convS
    split <;> first | rfl | simp
  cases op <;> simp only [Op.operands] at h <;> simp only [fr] <;> try rfl
  all_goals first
    | (rw [h _ (by simp)]; done)
    | (rw [h _ (by simp), h _ (by simp)]; done)
    | (rw [h _ (by simp), hl]; done)
    | (rw [h _ (by simp), hcv]; done)
    | (rw [h _ (by simp), h _ (by simp), hi]; done)
    | (rw [h _ (by simp), h _ (by simp), h _ (by simp)]; done)
    | skip
  · rw [map_parts (ρ := ρ') (ρ' := ρ) (fun x hx => (h x (by simpa using hx)).symm)]
  · rename_i fn a b
    have e1 : a.toList.map ρ' = a.toList.map ρ := List.map_congr_left (fun x hx => (h x (by simp at hx; simp [hx])).symm)
    have e2 : b.toList.map ρ' = b.toList.map ρ := List.map_congr_left (fun x hx => (h x (by simp at hx; simp [hx])).symm)
    rw [e1, e2]
  · rename_i t x lo hi mx
    cases mx with
    | some _ => rfl
    | none =>
      simp only []
      rw [h x (by simp), map_opt (ρ := ρ) (ρ' := ρ') (o := lo) (fun x hx => h x (by simp at hx; simp [hx])), map_opt (ρ := ρ) (ρ' := ρ') (o := hi) (fun x hx => h x (by simp at hx; simp [hx]))]
  · rename_i c
    have ha : ∀ x ∈ c.args.toList, ρ x = ρ' x := fun x hx => h x (by unfold Call.operands; simp; simp at hx; simp [hx])
    split
    · split
      · rename_i he _
        rw [ha _ (by rw [he]; simp), hn]
      · rfl
    · split
      · rename_i he
        rw [ha _ (by rw [he]; simp), ha _ (by rw [he]; simp)]
      · rfl
    · rfl
theorem eo_congr {op : Op} {K : Slot → Mem → Prop} (h : ∀ x ∈ op.operands, ρ x = ρ' x) : eo P .draw op ρ' m K = eo P .draw op ρ m K := by
  have hfr := fr_congr (P := P) (m := m) (m' := m) (op := op) h rfl
  cases op <;> simp only [Op.operands] at h <;> simp only [eo] <;> try (rw [hfr]; done)
  · rfl
  · simp only [eoX]
    rw [h _ (by simp)]
  · simp only [eoX]
    rw [map_parts (ρ := ρ') (ρ' := ρ) (fun x hx => (h x (by simpa using hx)).symm)]
  · simp only [eoX]
    rw [h _ (by simp), h _ (by simp)]
  · simp only [eoX]
    rw [h _ (by simp), h _ (by simp)]
  · rename_i c
    have ha : ∀ x ∈ c.args.toList, ρ x = ρ' x := fun x hx => h x (by unfold Call.operands; simp; simp at hx; simp [hx])
    split
    · rename_i f hc
      rw [h f (by unfold Call.operands; simp [hc]), List.map_congr_left (fun x hx => (ha x hx).symm)]
    · simp only [eoX]
      split
      · rename_i he _
        rw [ha _ (by rw [he]; simp), ha _ (by rw [he]; simp)]
      · rfl
    · rw [hfr]
theorem eo_plain {op : Op} {K : Slot → Mem → Prop} (h : plainOp op = true) : eo P md op ρ m K = frK (fr P md op ρ m) m K := by
  cases op <;> simp only [plainOp] at h <;> simp only [eo] <;> try (cases h; done)
  rename_i c
  split
  · rename_i f hc
    rw [hc] at h; cases h
  · rename_i hc
    rw [hc] at h; cases h
  · rfl
end
section
variable {P : Program} {md : Md} {m : Mem} {ops : List Oper} {x y o : Oper} {r r' : Reg} {K : Reg → Mem → Prop}
def gd (ops : List Oper) (o : Oper) (r : Reg) : Option Bool := match o.guard with
  | none => some true
  | some (j, want) => match (ops[j]?).bind (·.dst) with
    | some d => match r d with
      | .val false [.v (.sc (.bool b))] => some (b == want)
      | .tup _ => some false
      | _ => none
    | none => none
def aOp' (P : Program) (md : Md) (gd : Option Bool) (o : Oper) (r : Reg) (m : Mem) (K : Reg → Mem → Prop) : Prop := match gd with
  | some true => eo P md o.op (evR r) m fun s m' => K (updO r o.dst s) m'
  | some false => K (updO r o.dst (.tup [])) m
  | none => False
theorem aOp_gd : aOp P md ops o r m K = aOp' P md (gd ops o r) o r m K := by
  unfold aOp gd aOp'
  cases hg : o.guard with
  | none => rfl
  | some jw =>
    obtain ⟨j, want⟩ := jw
    simp only []
    cases hd : (ops[j]?).bind (·.dst) with
    | none => rfl
    | some d =>
      simp only []
      generalize r d = s
      split
      · rename_i b
        cases b <;> cases want <;> simp [gK]
      · rfl
      · rename_i hne hnt
        split
        · rename_i he
          split at he
          · rename_i b
            exact absurd rfl (hne b)
          · cases he
          · cases he
        · rename_i he
          split at he
          · rename_i b
            exact absurd rfl (hne b)
          · rename_i ss
            exact absurd rfl (hnt ss)
          · cases he
        · rfl
theorem looks_guard (h : ∀ d ∈ o.looksAt ops.toArray, r' d = r d) : gd ops o r' = gd ops o r := by
  unfold gd
  cases hg : o.guard with
  | none => rfl
  | some jw =>
    obtain ⟨j, want⟩ := jw
    simp only []
    cases hd : (ops[j]?).bind (·.dst) with
    | none => rfl
    | some d =>
      simp only []
      rw [h d (by simp [Oper.looksAt, hg, hd])]
theorem looks_ev (h : ∀ d ∈ o.looksAt ops.toArray, r' d = r d) : ∀ z ∈ o.op.operands, evR r z = evR r' z := by
  intro z hz
  cases z with
  | tmp t => exact (h t (by simp only [Oper.looksAt, List.mem_append, List.mem_filterMap]; exact .inl ⟨.tmp t, by simpa using hz, rfl⟩)).symm
  | _ => rfl
theorem upd_looks {d : Option Tmp} {s : Slot} {l : List Tmp} (h : ∀ t, d = some t → t ∉ l) : ∀ t ∈ l, updO r d s t = r t := by
  intro t ht
  cases d with
  | none => rfl
  | some d => exact upd_ne _ _ (fun he => h d rfl (he ▸ ht))
theorem upd_comm {d d' : Option Tmp} {s s' : Slot} (h : ∀ t, d = some t → d' ≠ some t) : updO (updO r d s) d' s' = updO (updO r d' s') d s := by
  cases d with
  | none => rfl
  | some d =>
    cases d' with
    | none => rfl
    | some d' =>
      have hne : d ≠ d' := fun he => h d rfl (by rw [he])
      funext t
      simp only [updO, upd]
      by_cases h1 : t = d
      · subst h1
        rw [if_neg hne, if_pos rfl, if_pos rfl]
      · by_cases h2 : t = d'
        · subst h2; simp [h1]
        · simp [h1, h2]
/-- A plain operation may come after another. -/
theorem swap (h : swapOk ops x y = true) (h1 : aOp P .draw ops x r m fun r1 m1 => aOp P .draw ops y r1 m1 K) : aOp P .draw ops y r m fun r2 m2 => aOp P .draw ops x r2 m2 K := by
  simp only [swapOk, Bool.and_eq_true] at h
  obtain ⟨⟨hap, hpl⟩, hcal⟩ := h
  obtain ⟨a1, a2, a3⟩ := Oper.apart_spec hap
  have gy : ∀ s, gd ops y (updO r x.dst s) = gd ops y r := fun s => looks_guard (upd_looks a1)
  have gx : ∀ s, gd ops x (updO r y.dst s) = gd ops x r := fun s => looks_guard (upd_looks a3)
  have ey : ∀ s, ∀ z ∈ y.op.operands, evR r z = evR (updO r x.dst s) z := fun s => looks_ev (ops := ops) (upd_looks a1)
  have ex : ∀ s, ∀ z ∈ x.op.operands, evR r z = evR (updO r y.dst s) z := fun s => looks_ev (ops := ops) (upd_looks a3)
  rw [aOp_gd] at h1 ⊢
  cases hx : gd ops x r with
  | none => rw [hx] at h1; exact h1.elim
  | some bx =>
    rw [hx] at h1
    have hs : ∃ s, (bx = true → fr P .draw x.op (evR r) m = some s) ∧ (bx = false → s = .tup []) ∧ aOp P .draw ops y (updO r x.dst s) m K := by
      cases bx with
      | true =>
        simp only [aOp'] at h1
        rw [eo_plain hpl] at h1
        obtain ⟨s, k1, k2⟩ := frK_some h1
        exact ⟨s, fun _ => k1, fun h => (by cases h), k2⟩
      | false => exact ⟨.tup [], fun h => (by cases h), fun _ => rfl, h1⟩
    obtain ⟨s, k1, k2, k3⟩ := hs
    rw [aOp_gd, gy] at k3
    -- x, after y
    have last : ∀ s' m', m'.box = m.box → K (updO (updO r x.dst s) y.dst s') m' → aOp P .draw ops x (updO r y.dst s') m' K := by
      intro s' m' hb hk
      rw [upd_comm a2] at hk
      rw [aOp_gd, gx, hx]
      cases bx with
      | true =>
        simp only [aOp']
        rw [eo_plain hpl, fr_congr (ex s') hb, k1 rfl]
        exact hk
      | false =>
        rw [k2 rfl] at hk
        exact hk
    cases hy : gd ops y r with
    | none => rw [hy] at k3; exact k3.elim
    | some byy =>
      rw [hy] at k3
      cases byy with
      | true =>
        simp only [aOp'] at k3 ⊢
        rw [eo_congr (ey s)] at k3
        exact eo_more (by decide) hcal k3 (fun s' m' hb hk => last s' m' hb hk)
      | false => exact last (.tup []) m rfl k3
theorem front : ∀ (l1 : List Oper) {l2 : List Oper} {r : Reg} {m : Mem}, (∀ x ∈ l1, swapOk ops x y = true) → (∀ x ∈ l1, plainOp x.op = true → calmOp x.op = true) → aSeq P .draw ops (l1 ++ y :: l2) r m K → aSeq P .draw ops (y :: (l1 ++ l2)) r m K
  | [], l2, r, m, _, _, h => h
  | x :: l1, l2, r, m, h, hp, h1 => by
    have hx := h x (by simp)
    have hcx : calmOp x.op = true := hp x (by simp) (by simp only [swapOk, Bool.and_eq_true] at hx; exact hx.1.2)
    refine swap (K := fun r m => aSeq P .draw ops (l1 ++ l2) r m K) hx ?_
    have h1 : aOp P .draw ops x r m (fun r' m' => aSeq P .draw ops (l1 ++ y :: l2) r' m' K) := h1
    have ih : ∀ r' m', aSeq P .draw ops (l1 ++ y :: l2) r' m' K → aSeq P .draw ops (y :: (l1 ++ l2)) r' m' K := fun r' m' hh => front l1 (fun z hz => h z (by simp [hz])) (fun z hz => hp z (by simp [hz])) hh
    rw [aOp_gd] at h1 ⊢
    cases hg : gd ops x r with
    | none => rw [hg] at h1; exact h1.elim
    | some b =>
      rw [hg] at h1
      cases b with
      | true => exact eo_more (by decide) hcx h1 (fun s m' _ hk => ih _ _ hk)
      | false => exact ih _ _ h1
theorem plain_calm {op : Op} (h : plainOp op = true) : calmOp op = true := by cases op <;> first | rfl | (simp [plainOp] at h)
end
section
variable {P : Program} {w0 : World} {pb : Fence} {n : Nat} {ops : Array Oper} {K : Reg → Mem → Prop} {Q : Exit → Act → World → Prop}
/-- An order that the text allows, some of it done. -/
def Topo (ops : List Oper) : (Nat → Prop) → List Nat → Prop
  | _, [] => True
  | S, i :: r => (∀ d ∈ dirD ops i, S d) ∧ Topo ops (fun d => S d ∨ d = i) r
theorem Topo.mono {ops : List Oper} : ∀ {l : List Nat} {S S' : Nat → Prop}, Topo ops S l → (∀ d, S d → S' d) → Topo ops S' l
  | [], _, _, _, _ => trivial
  | _ :: _, _, _, h, hs => ⟨fun d hd => hs d (h.1 d hd), h.2.mono (fun d hd => hd.imp (hs d) id)⟩
theorem Topo.remove {ops : List Oper} {i : Nat} : ∀ {l1 l2 : List Nat} {S : Nat → Prop}, Topo ops S (l1 ++ i :: l2) → Topo ops (fun d => S d ∨ d = i) (l1 ++ l2)
  | [], _, _, h => h.2
  | j :: l1, l2, S, h => ⟨fun d hd => .inl (h.1 d hd), (Topo.remove (l1 := l1) h.2).mono (fun d hd => by
      rcases hd with (hd | hd) | hd
      · exact .inl (.inl hd)
      · exact .inr hd
      · exact .inl (.inr hd))⟩
theorem topo_of {ops : List Oper} : ∀ {l seen : List Nat}, topoOk ops seen l = true → Topo ops (· ∈ seen) l ∧ l.Nodup ∧ (∀ i ∈ l, i < ops.length ∧ i ∉ seen)
  | [], _, _ => ⟨trivial, List.nodup_nil, fun i h => by cases h⟩
  | i :: r, seen, h => by
    simp only [topoOk, Bool.and_eq_true, decide_eq_true_eq, Bool.not_eq_true'] at h
    obtain ⟨⟨⟨h1, h2⟩, h3⟩, h4⟩ := h
    obtain ⟨k1, k2, k3⟩ := topo_of h4
    have h2' : i ∉ seen := by simpa using h2
    refine ⟨⟨fun d hd => by simpa using List.all_eq_true.1 h3 d hd, k1.mono (fun d hd => ?_)⟩, List.nodup_cons.2 ⟨fun hi => (k3 i hi).2 (by simp), k2⟩, fun j hj => ?_⟩
    · rcases List.mem_cons.1 hd with rfl | hd
      · exact .inr rfl
      · exact .inl hd
    · rcases List.mem_cons.1 hj with rfl | hj
      · exact ⟨h1, h2'⟩
      · exact ⟨(k3 j hj).1, fun hs => (k3 j hj).2 (by simp [hs])⟩
def Listed (listed : Array Bool) (d : Nat) : Prop := listed.getD d false = true
/-- What is listed has its grounds listed. -/
def Closed (ops : List Oper) (listed : Array Bool) : Prop := ∀ k, Listed listed k → ∀ d ∈ dirD ops k, Listed listed d
theorem trans_listed {ops : List Oper} {listed : Array Bool} (hc : Closed ops listed) : ∀ (n i : Nat), (∀ d ∈ dirD ops i, Listed listed d) → ∀ d ∈ transD ops n i, Listed listed d
  | 0, i, _, d, hd => by simp [transD] at hd
  | n + 1, i, h, d, hd => by
    simp only [transD, List.mem_append, List.mem_flatMap] at hd
    rcases hd with hd | ⟨k, hk, hd⟩
    · exact h d hd
    · exact trans_listed hc n k (hc k (h k hk)) d hd
theorem pickL_append {ops : List Oper} : ∀ {l1 l2 : List Nat}, pickL ops (l1 ++ l2) = pickL ops l1 ++ pickL ops l2
  | [], _ => rfl
  | i :: l1, l2 => by
    simp only [List.cons_append, pickL]
    split
    · rw [pickL_append]; rfl
    · exact pickL_append
theorem pickL_mem {ops : List Oper} {o : Oper} : ∀ {l : List Nat}, o ∈ pickL ops l → ∃ i ∈ l, ops[i]? = some o
  | [], h => by cases h
  | i :: l, h => by
    simp only [pickL] at h
    split at h
    · rename_i x hx
      rcases List.mem_cons.1 h with rfl | h
      · exact ⟨i, by simp, hx⟩
      · obtain ⟨j, hj, he⟩ := pickL_mem h
        exact ⟨j, by simp [hj], he⟩
    · obtain ⟨j, hj, he⟩ := pickL_mem h
      exact ⟨j, by simp [hj], he⟩
theorem pairs_sub {ops : List Oper} {i : Nat} : ∀ {l1 l2 : List Nat}, pairsOk ops (l1 ++ i :: l2) = true → pairsOk ops (l1 ++ l2) = true ∧ ∀ j ∈ l1, (transD ops ops.length i).contains j = true ∨ swapAt ops j i = true
  | [], l2, h => by
    simp only [List.nil_append, pairsOk, Bool.and_eq_true] at h
    exact ⟨h.2, fun j hj => by cases hj⟩
  | j :: l1, l2, h => by
    simp only [List.cons_append, pairsOk, Bool.and_eq_true] at h ⊢
    obtain ⟨k1, k2⟩ := pairs_sub h.2
    have h1 := List.all_eq_true.1 h.1
    refine ⟨⟨List.all_eq_true.2 fun x hx => h1 x (by simp at hx ⊢; rcases hx with hx | hx <;> simp [hx]), k1⟩, fun x hx => ?_⟩
    rcases List.mem_cons.1 hx with rfl | hx
    · exact (Bool.or_eq_true _ _).mp (h1 i (by simp))
    · exact k2 x hx
theorem listed_set {listed : Array Bool} {i d : Nat} (hi : i < listed.size) : Listed (listed.setIfInBounds i true) d ↔ Listed listed d ∨ d = i := by
  unfold Listed
  by_cases h : i = d
  · subst h
    simp [Array.getD_eq_getD_getElem?, hi]
  · rw [getD_set_ne false h]
    exact ⟨.inl, fun h' => h'.resolve_right (fun he => h he.symm)⟩
theorem any_sound (hok : okOps n ops = true) (hq : ∀ r m a w g, K r m → Sim w0 pb n g r m a w → Q .normal a w) :
    ∀ (fuel : Nat) (ord : List Nat) (listed : Array Bool) {g : G} {r : Reg} {m : Mem} {a : Act} {w : World}, ord.length ≤ fuel → listed.size = ops.size →
      (∀ i, i < ops.size → listed.getD i true = false → i ∈ ord) → ord.Nodup → (∀ i ∈ ord, i < ops.size ∧ ¬ Listed listed i) → Topo ops.toList (Listed listed) ord → Closed ops.toList listed → pairsOk ops.toList ord = true →
      aSeq P .draw ops.toList (pickL ops.toList ord) r m K → Sim w0 pb n g r m a w → wpAny P .any ops Q fuel listed a w
  | fuel, [], listed, g, r, m, a, w, _, hsz, hcov, _, _, _, _, _, h, hs => by
    have hr : Region.ready .any ops listed = [] := by
      cases hr : Region.ready .any ops listed with
      | nil => rfl
      | cons i _ =>
        obtain ⟨k1, o, k2, _⟩ := mem_ready.1 (show i ∈ Region.ready .any ops listed by rw [hr]; simp)
        have := hcov i (Array.getElem?_eq_some_iff.1 k2).1 k1
        cases this
    exact wpAny_done hr (hq _ _ _ _ _ h hs) fuel
  | 0, i :: ord, _, _, _, _, _, _, hl, _, _, _, _, _, _, _, _, _ => by simp at hl
  | fuel + 1, i0 :: ord0, listed, g, r, m, a, w, hl, hsz, hcov, hnd, hin, htopo, hcl, hp, h, hs => by
    have hready0 : i0 ∈ Region.ready .any ops listed := by
      obtain ⟨k1, k2⟩ := hin i0 (by simp)
      refine mem_ready.2 ⟨?_, ops[i0], by simp [k1], fun e he hb => ?_⟩
      · unfold Listed at k2
        rw [Array.getD_eq_getD_getElem?] at k2 ⊢
        rw [Array.getElem?_eq_getElem (by omega)] at k2 ⊢
        simpa using k2
      · refine htopo.1 e.on ?_
        simp only [dirD]
        rw [show ops.toList[i0]? = some ops[i0] by simp [k1]]
        simp only [List.mem_map, List.mem_filter]
        exact ⟨e, ⟨by simpa using he, hb⟩, rfl⟩
    refine ⟨fun hr => (by rw [hr] at hready0; cases hready0), fun i hi => ?_⟩
    obtain ⟨k1, o, k2, k3⟩ := mem_ready.1 hi
    have hilt : i < ops.size := (Array.getElem?_eq_some_iff.1 k2).1
    have hmem : i ∈ i0 :: ord0 := hcov i hilt k1
    obtain ⟨l1, l2, he⟩ := List.append_of_mem hmem
    rw [he] at hl hcov hnd hin htopo hp h
    have hdir : ∀ d ∈ dirD ops.toList i, Listed listed d := by
      intro d hd
      simp only [dirD] at hd
      rw [show ops.toList[i]? = some o by simpa using k2] at hd
      simp only [List.mem_map, List.mem_filter] at hd
      obtain ⟨e, ⟨h1, h2⟩, rfl⟩ := hd
      exact k3 e (by simpa using h1) h2
    obtain ⟨p1, p2⟩ := pairs_sub hp
    have hsw : ∀ j ∈ l1, swapAt ops.toList j i = true := by
      intro j hj
      rcases p2 j hj with h1 | h1
      · have := trans_listed hcl _ i hdir j (by simpa using h1)
        exact absurd this (hin j (by simp [hj])).2
      · exact h1
    have hpick : pickL ops.toList (l1 ++ i :: l2) = pickL ops.toList l1 ++ o :: pickL ops.toList l2 := by
      rw [pickL_append]
      simp only [pickL]
      rw [show ops.toList[i]? = some o by simpa using k2]
    rw [hpick] at h
    have hfr := front (ops := ops.toList) (pickL ops.toList l1) (fun x hx => by
      obtain ⟨j, hj, hxj⟩ := pickL_mem hx
      have := hsw j hj
      simp only [swapAt] at this
      rw [hxj, show ops.toList[i]? = some o by simpa using k2] at this
      exact this) (fun x _ hx => plain_calm hx) h
    rw [← pickL_append] at hfr
    have hnd' := ((List.perm_middle).nodup_iff.1 hnd)
    have hni : i ∉ l1 ++ l2 := (List.nodup_cons.1 hnd').1
    have hset : ∀ d, Listed (listed.setIfInBounds i true) d ↔ Listed listed d ∨ d = i := fun d => listed_set (by omega)
    refine aOp_sound (K := fun r m => aSeq P .draw ops.toList (pickL ops.toList (l1 ++ l2)) r m K) k2 hfr hs (okOps_get hok k2) (fun r' m' a' w' g' h1 h2 => ?_)
    refine any_sound hok hq fuel (l1 ++ l2) (listed.setIfInBounds i true) ?_ (by simpa using hsz) ?_ (List.nodup_cons.1 hnd').2 ?_ ?_ ?_ p1 h1 h2
    · simp only [List.length_append, List.length_cons] at hl ⊢
      omega
    · intro k hk hkl
      by_cases hki : k = i
      · subst hki
        simp [Array.getD_eq_getD_getElem?, hsz, hk] at hkl
      · rw [getD_set_ne true (fun h => hki h.symm)] at hkl
        have := hcov k hk hkl
        simp only [List.mem_append, List.mem_cons] at this ⊢
        rcases this with h | h | h
        · exact .inl h
        · exact absurd h hki
        · exact .inr h
    · intro k hk
      have hk' : k ∈ l1 ++ i :: l2 := by
        simp only [List.mem_append, List.mem_cons] at hk ⊢
        rcases hk with h | h
        · exact .inl h
        · exact .inr (.inr h)
      refine ⟨(hin k hk').1, fun hkl => ?_⟩
      rcases (hset k).1 hkl with h | h
      · exact (hin k hk').2 h
      · subst h; exact hni hk
    · exact htopo.remove.mono (fun d hd => (hset d).2 hd)
    · intro k hk d hd
      rcases (hset k).1 hk with h | h
      · exact (hset d).2 (.inl (hcl k h d hd))
      · subst h; exact (hset d).2 (.inl (hdir d hd))
theorem draw_sound {g : G} {r : Reg} {m : Mem} {a : Act} {w : World} (hok : okOps n ops = true) (hq : ∀ r m a w g, K r m → Sim w0 pb n g r m a w → Q .normal a w) (h : aDraw P ops.toList r m K) (hs : Sim w0 pb n g r m a w) :
    wpAny P .any ops Q ops.size (Array.replicate ops.size false) a w := by
  obtain ⟨ord, hd, h⟩ := h
  simp only [drawOk, Bool.and_eq_true] at hd
  obtain ⟨⟨⟨h0, h1⟩, h2⟩, h3⟩ := hd
  obtain ⟨k1, k2, k3⟩ := topo_of h2
  have hnl : ∀ d, ¬ Listed (Array.replicate ops.size false) d := by
    intro d hd
    unfold Listed at hd
    rw [Array.getD_eq_getD_getElem?] at hd
    by_cases hlt : d < ops.size
    · simp [hlt] at hd
    · simp [hlt] at hd
  have hlen : ord.length ≤ ops.size := by simpa using h0
  refine any_sound hok hq ops.size ord _ hlen (by simp) (fun i hi _ => ?_) k2 (fun i hi => ⟨by simpa using (k3 i hi).1, hnl i⟩) (k1.mono (fun d hd => by cases hd)) (fun k hk => absurd hk (hnl k)) h3 h hs
  have := List.all_eq_true.1 h1 i (by simpa using hi)
  simpa using this
end
end Go.Proofs.Ythhfhllfbnpcgaa.Co
