/- The eighth part of the theory: the operations that make, write and append do in the machine what they do to plain data. -/
import Derived.Test.YthhfhllfbnpcgaaCoG
namespace Go.Proofs.Ythhfhllfbnpcgaa.Co
open Go
set_option linter.unusedSimpArgs false
set_option linter.unusedVariables false
section
variable {P : Program} {w0 : World} {pb : Fence} {g : G} {m : Mem} {w w' : World}

/-- A list that was let go is there again, its blocks told anew. -/
theorem MF.reown (h : MF w0 pb g m w) {t : Nat} {l : Leaf} {fp : Nat → Prop} (ht : t < m.nx) (hg : m.tag t = .gone) (ho : Own w l (g.va t) fp) (hf : Free w0 pb g m w fp) :
    ∃ g', MF w0 pb g' ((m.setTag t (.live l)).bump t) w ∧ Mv g m w g' ((m.setTag t (.live l)).bump t) w ∧ g'.S = g.S ∧ g'.β = g.β ∧ g'.va = g.va ∧ (∀ t', t' ≠ t → g'.fp t' = g.fp t') ∧ g'.fp t = fp := by
  let g' : G := { g with fp := fun t' => if t' = t then fp else g.fp t' }
  let m' : Mem := (m.setTag t (.live l)).bump t
  have htag : ∀ t', m'.tag t' = if t' = t then .live l else m.tag t' := fun _ => rfl
  have hver : ∀ t', m'.ver t' = if t' = t then m.ver t + 1 else m.ver t' := fun _ => rfl
  have hfp : g'.fp t = fp := if_pos rfl
  have hfn : ∀ t', t' ≠ t → g'.fp t' = g.fp t' := fun t' h => if_neg h
  have hmv : Mv g m w g' m' w := ⟨fun b hb => ⟨hb, rfl⟩, fun k hk => ⟨hk, rfl⟩, fun _ _ => rfl, Nat.le_refl _, fun t' _ => by
      rw [hver]; split
      · rename_i he; rw [he]; exact Nat.le_succ _
      · exact Nat.le_refl _, fun t' b n c xs _ hv hgt _ _ => by
      rw [hver] at hv
      split at hv
      · rename_i he; rw [he] at hv; omega
      · rename_i hne; rw [htag, if_neg hne] at hgt; exact ⟨hgt, rfl⟩⟩
  have hlive : ∀ t' l', m'.tag t' = .live l' → (t' = t ∧ l' = l) ∨ (t' ≠ t ∧ m.tag t' = .live l') := by
    intro t' l' h1
    rw [htag] at h1
    split at h1
    · rename_i he; injection h1 with h1; exact .inl ⟨he, h1.symm⟩
    · rename_i hne; exact .inr ⟨hne, h1⟩
  refine ⟨g', ⟨⟨fun k hk => ?_, h.mem.binj, h.mem.bS, fun k t' l' hk h1 => ?_, fun t' l' h1 => ?_, fun t' l' h1 => ?_, fun t' l' b h1 h2 => ?_, fun t1 t2 l1 l2 b h1 h2 h3 h4 => ?_, h.mem.Slt⟩, h.same, h.keep, h.bpb, fun t' l' h1 b h2 => ?_, h.sf⟩, hmv, rfl, rfl, rfl, hfn, hfp⟩
  · obtain ⟨h1, cs, ty, h2, h3⟩ := h.mem.boxes k hk
    exact ⟨h1, cs, ty, h2, h3.mv hmv⟩
  · rcases hlive t' l' h1 with ⟨rfl, _⟩ | ⟨hne, h2⟩
    · rw [hfp]; exact fun hb => hf.box _ k hb hk rfl
    · rw [hfn t' hne]; exact h.mem.bfp k t' l' hk h2
  · rcases hlive t' l' h1 with ⟨rfl, rfl⟩ | ⟨hne, h2⟩
    · rw [hfp]; exact ⟨ht, ho⟩
    · rw [hfn t' hne]; exact h.mem.tags t' l' h2
  · rw [htag] at h1
    split at h1
    · cases h1
    · exact h.mem.frz t' l' h1
  · rcases hlive t' l' h1 with ⟨rfl, rfl⟩ | ⟨hne, h3⟩
    · rw [hfp] at h2; exact hf.S b h2
    · rw [hfn t' hne] at h2; exact h.mem.tS t' l' b h3 h2
  · rcases hlive t1 l1 h1 with ⟨rfl, rfl⟩ | ⟨hne, h5⟩ <;> rcases hlive t2 l2 h2 with ⟨rfl, rfl⟩ | ⟨hne', h6⟩
    · rfl
    · rw [hfp] at h3; rw [hfn t2 hne'] at h4; exact absurd h4 (hf.tag b t2 l2 h3 h6)
    · rw [hfp] at h4; rw [hfn t1 hne] at h3; exact absurd h3 (hf.tag b t1 l1 h4 h5)
    · rw [hfn t1 hne] at h3; rw [hfn t2 hne'] at h4; exact h.mem.tdis t1 t2 l1 l2 b h5 h6 h3 h4
  · rcases hlive t' l' h1 with ⟨rfl, rfl⟩ | ⟨hne, h3⟩
    · rw [hfp] at h2; exact hf.pb b h2
    · rw [hfn t' hne] at h2; exact h.tpb t' l' h3 b h2
/-- A block that nothing leads to never changes from now on. -/
theorem MF.settle (h : MF w0 pb g m w) {fp : Nat → Prop} (hf : Free w0 pb g m w fp) :
    MF w0 pb { g with S := fun b => g.S b ∨ fp b } m w ∧ Mv g m w { g with S := fun b => g.S b ∨ fp b } m w := by
  have hmv : Mv g m w { g with S := fun b => g.S b ∨ fp b } m w := ⟨fun b hb => ⟨.inl hb, rfl⟩, fun k hk => ⟨hk, rfl⟩, fun _ _ => rfl, Nat.le_refl _, fun _ _ => Nat.le_refl _, fun _ _ _ _ _ _ _ hg _ _ => ⟨hg, rfl⟩⟩
  refine ⟨⟨⟨fun k hk => ?_, h.mem.binj, fun k hk hS => ?_, h.mem.bfp, h.mem.tags, fun t l h1 => ?_, fun t l b h1 h2 => ?_, h.mem.tdis, fun b hb => ?_⟩, h.same, h.keep, h.bpb, h.tpb, fun b hb => hb.elim (h.sf b) (fun hb => (hf.pb b hb).imp id .inr)⟩, hmv⟩
  · obtain ⟨h1, cs, ty, h2, h3⟩ := h.mem.boxes k hk
    exact ⟨h1, cs, ty, h2, h3.mv hmv⟩
  · rcases hS with hS | hS
    · exact h.mem.bS k hk hS
    · exact hf.box _ k hS hk rfl
  · obtain ⟨h2, h3⟩ := h.mem.frz t l h1
    exact ⟨h2, h3.move (fun b hb => .inl hb) (fun _ _ => rfl)⟩
  · obtain ⟨h3, h4⟩ := h.mem.tS t l b h1 h2
    refine ⟨fun hS => ?_, h4⟩
    rcases hS with hS | hS
    · exact h3 hS
    · exact hf.tag b t l hS h1 h2
  · rcases hb with hb | hb
    · exact h.mem.Slt b hb
    · exact (hf.S b hb).2
/-- Blocks that are new since. -/
theorem Free.new (h : MF w0 pb g m w) {fp : Nat → Prop} (hf : ∀ b, fp b → w.heap.size ≤ b ∧ b < w'.heap.size) : Free w0 pb g m w' fp :=
  ⟨fun b hb => ⟨fun hS => by have := h.mem.Slt b hS; have := (hf b hb).1; omega, (hf b hb).2⟩,
   fun b k hb hk he => by
     obtain ⟨_, cs, ty, h2, _⟩ := h.mem.boxes k hk
     have := (Array.getElem?_eq_some_iff.1 h2).1
     have := (hf b hb).1
     omega,
   fun b t l hb ht hfp => by have := (h.mem.tS t l b ht hfp).2; have := (hf b hb).1; omega,
   fun b hb => .inl (Nat.le_trans h.same.size (hf b hb).1)⟩
theorem Free.or {fp fp2 : Nat → Prop} (h : Free w0 pb g m w fp) (k : Free w0 pb g m w fp2) : Free w0 pb g m w (fun b => fp b ∨ fp2 b) :=
  ⟨fun b hb => hb.elim (h.S b) (k.S b), fun b j hb => hb.elim (h.box b j) (k.box b j), fun b t l hb => hb.elim (h.tag b t l) (k.tag b t l), fun b hb => hb.elim (h.pb b) (k.pb b)⟩
theorem Free.mono {fp fp2 : Nat → Prop} (h : Free w0 pb g m w fp) (hs : ∀ b, fp2 b → fp b) : Free w0 pb g m w fp2 :=
  ⟨fun b hb => h.S b (hs b hb), fun b j hb => h.box b j (hs b hb), fun b t l hb => h.tag b t l (hs b hb), fun b hb => h.pb b (hs b hb)⟩
theorem Free.world {fp : Nat → Prop} (h : Free w0 pb g m w fp) (hs : w.heap.size ≤ w'.heap.size) : Free w0 pb g m w' fp :=
  ⟨fun b hb => ⟨(h.S b hb).1, Nat.lt_of_lt_of_le (h.S b hb).2 hs⟩, h.box, h.tag, h.pb⟩
theorem Free.ex {fps : Nat → Nat → Prop} (h : ∀ i, Free w0 pb g m w (fps i)) : Free w0 pb g m w (fun b => ∃ i, fps i b) :=
  ⟨fun b ⟨i, hb⟩ => (h i).S b hb, fun b j ⟨i, hb⟩ => (h i).box b j hb, fun b t l ⟨i, hb⟩ => (h i).tag b t l hb, fun b ⟨i, hb⟩ => (h i).pb b hb⟩

theorem TRs.splice {ls x : List TL} {cs vs : List Value} (hl : TRs g m w ls cs) (hx : TRs g m w x vs) (off : Nat) (h : off + x.length ≤ ls.length) :
    TRs g m w (ls.take off ++ x ++ ls.drop (off + x.length)) (cs.take off ++ vs ++ cs.drop (off + vs.length)) := by
  have hlc := hl.len
  have hlx := hx.len
  refine ⟨by simp [hlc, hlx], fun j z u h1 h2 => ?_⟩
  have e1 : (ls.take off).length = off := by rw [List.length_take]; omega
  have e2 : (cs.take off).length = off := by rw [List.length_take]; omega
  rw [List.append_assoc] at h1 h2
  rcases Nat.lt_or_ge j off with hj | hj
  · rw [List.getElem?_append_left (by omega), List.getElem?_take, if_pos hj] at h1 h2
    exact hl.at_ j z u h1 h2
  · rw [List.getElem?_append_right (by omega)] at h1 h2
    rw [e1] at h1; rw [e2] at h2
    rcases Nat.lt_or_ge (j - off) x.length with hj2 | hj2
    · rw [List.getElem?_append_left (by omega)] at h1 h2
      exact hx.at_ _ z u h1 h2
    · rw [List.getElem?_append_right (by omega), List.getElem?_drop] at h1 h2
      rw [← hlx] at h2
      exact hl.at_ _ z u h1 h2
theorem TRs.ones {ls : List TL} {cs : List Value} (h : TRs g m w ls cs) : ∀ u ∈ cs, u.oneCell' = true := by
  intro u hu
  obtain ⟨i, hi, he⟩ := List.mem_iff_getElem.1 hu
  have hl : i < ls.length := by rw [h.len]; exact hi
  exact (h.at_ i ls[i] u (List.getElem?_eq_getElem hl) (List.getElem?_eq_some_iff.2 ⟨hi, he⟩)).one

/-- A store through a pointer into a block of plain cells. -/
theorem run_storeAt {t : TypeId} {b o : Nat} {v : Value} {cs : List Value} {cur : Array Value} {ty : TypeId} (hs : szOf P t = some cs.length) (hc : v.cells = cs.toArray) (h1 : ∀ u ∈ cs, u.oneCell' = true)
    (hb : w.heap[b]? = some (.cells cur ty (0, 0))) (hfit : o + cs.length ≤ cur.size) :
    (Instr.storeAt t (.pointer (some ⟨b, o, none⟩)) v).run P w = .ok () (w.setRow b (cur.toList.take o ++ cs ++ cur.toList.drop (o + cs.length)).toArray) := by
  obtain ⟨i0, hi, hsz⟩ := szOf_some hs
  have hst := run_storeCells_at P b o ty cs 0 cur w hb (by simpa using hfit) h1
  simp only [Nat.add_zero] at hst
  simp [Instr.storeAt, Instr.sureAddr, storeVar, sizeOf, typeInfo, hi, hsz, hc, hst]
theorem Same.setRow (w : World) (b : Nat) (cs : Array Value) : Same w (w.setRow b cs) := ⟨rfl, rfl, rfl, by simp [World.setRow]⟩

theorem store_ptr {t : TypeId} {k off : Nat} {b : Bool} {ls : List TL} {v : Value} {K : Slot → Mem → Prop} (hm : MF w0 pb g m w) (hk : m.box k ≠ []) (hx : VR g m w b ls v) (hs : szOf P t = some ls.length) (hfit : off + ls.length ≤ (m.box k).length)
    (hK : K .junk (m.setBox k ((m.box k).take off ++ ls ++ (m.box k).drop (off + ls.length)))) :
    XOk P w0 pb g m w ((do Instr.storeAt t (.pointer (some ⟨g.β k, off, none⟩)) v; pure .skip : Sem Next).run P w) K := by
  obtain ⟨cs, hc, hl⟩ := vr_cells hx
  obtain ⟨_, cur, ty, hb, hcur⟩ := hm.mem.boxes k hk
  have hlen := hl.len
  have hcl := hcur.len
  have hrun := run_storeAt (P := P) (t := t) (o := off) (by rw [hs, hlen]) hc hl.ones hb (by simp; omega)
  have hsp := hcur.splice hl off hfit
  have hne : (m.box k).take off ++ ls ++ (m.box k).drop (off + ls.length) ≠ [] := by
    intro e
    have h1 : ((m.box k).take off ++ ls ++ (m.box k).drop (off + ls.length)).length = (m.box k).length := by
      simp only [List.length_append, List.length_take, List.length_drop]
      omega
    rw [e] at h1
    exact hk (List.eq_nil_of_length_eq_zero h1.symm)
  obtain ⟨h1, h2⟩ := hm.setBox (ty := ty) hk hne (Same.setRow w (g.β k) _) (by simp [World.setRow]) (setRow_heap w (g.β k) _ (cur.take off ++ cs ++ cur.drop (off + cs.length)).toArray ty _ hb) (fun b hb => setRow_other w (g.β k) b _ hb) hsp
  exact ⟨_, _, g, _, _, hK, run_liftU hrun, .inr ⟨rfl, rfl⟩, h1, h2⟩

theorem atL_set {xs : List (List Leaf)} {i i' j : Nat} {row : List Leaf} {l : Leaf} (h : atL (xs.set i row) i' j = some l) (hi : i < xs.length) : (i' = i ∧ row[j]? = some l) ∨ (i' ≠ i ∧ atL xs i' j = some l) := by
  obtain ⟨r, h1, h2⟩ := atL_some h
  rw [List.getElem?_set] at h1
  split at h1
  · rename_i he
    subst he
    injection h1 with h1; subst h1
    exact .inl ⟨rfl, h2⟩
  · rename_i hne
    exact .inr ⟨fun e => hne e.symm, atL_mk h1 h2⟩
/-- A row of one's own list is written. -/
theorem own_store {xs : List (List Leaf)} {b n c i off : Nat} {fp : Nat → Prop} {cs : List Value} {new : List Leaf} {fps2 : Nat → Nat → Prop} (h : Own w (.ls xs) (.slice (some ⟨b, 0, none⟩) n c) fp)
    (hi : i < xs.length) (hoff : off + new.length ≤ (rowAt xs i).length) (hl : new.length = cs.length)
    (hown : ∀ (j : Nat) l u, new[j]? = some l → cs[j]? = some u → Own w l u (fps2 j)) (hsub : ∀ j k, fps2 j k → ¬ fp k) (hdis : ∀ j j' k, fps2 j k → fps2 j' k → j = j') :
    ∃ cur ty, w.heap[b]? = some (.cells cur ty (0, 0)) ∧ i * (rowAt xs i).length + off + cs.length ≤ cur.size ∧
      Own (w.setRow b (cur.toList.take (i * (rowAt xs i).length + off) ++ cs ++ cur.toList.drop (i * (rowAt xs i).length + off + cs.length)).toArray)
        (.ls (xs.set i ((rowAt xs i).take off ++ new ++ (rowAt xs i).drop (off + new.length)))) (.slice (some ⟨b, 0, none⟩) n c) (fun k => fp k ∨ ∃ j, fps2 j k) := by
  cases h with
  | ls _ sz _ _ cur e u fps _ hg hfp hc hm hcs hz hsz hcell hown0 hsub0 hdis0 =>
    have hrow := rowAt_get hi
    have hlen : (rowAt xs i).length = sz := hsz _ (List.mem_of_getElem? hrow)
    rw [hlen] at hoff ⊢
    have hfit : i * sz + off + cs.length ≤ cur.size := by
      have : (i + 1) * sz ≤ c * sz := Nat.mul_le_mul_right _ (by omega)
      rw [Nat.add_mul] at this
      omega
    refine ⟨cur, e, hg, hfit, ?_⟩
    have hcl : cur.toList.length = cur.size := Array.length_toList
    have hpl : (cur.toList.take (i * sz + off)).length = i * sz + off := by rw [List.length_take]; omega
    have hxl : xs.length = (xs.set i ((rowAt xs i).take off ++ new ++ (rowAt xs i).drop (off + new.length))).length := by simp
    have hkeep : ∀ k, k ≠ b → (w.setRow b (cur.toList.take (i * sz + off) ++ cs ++ cur.toList.drop (i * sz + off + cs.length)).toArray).heap[k]? = w.heap[k]? := fun k hk => setRow_other w b k _ hk
    rw [show Value.slice (some ⟨b, 0, none⟩) xs.length c = Value.slice (some ⟨b, 0, none⟩) (xs.set i ((rowAt xs i).take off ++ new ++ (rowAt xs i).drop (off + new.length))).length c from by rw [← hxl]]
    -- a place in the new row
    have hnr : ∀ j l, ((rowAt xs i).take off ++ new ++ (rowAt xs i).drop (off + new.length))[j]? = some l →
        (off ≤ j ∧ j < off + new.length ∧ new[j - off]? = some l) ∨ ((j < off ∨ off + new.length ≤ j) ∧ (rowAt xs i)[j]? = some l) := by
      intro j l h
      have e1 : ((rowAt xs i).take off).length = off := by rw [List.length_take]; omega
      rw [List.append_assoc] at h
      rcases Nat.lt_or_ge j off with hj | hj
      · rw [List.getElem?_append_left (by omega), List.getElem?_take, if_pos hj] at h
        exact .inr ⟨.inl hj, h⟩
      · rw [List.getElem?_append_right (by omega), e1] at h
        rcases Nat.lt_or_ge (j - off) new.length with hj2 | hj2
        · rw [List.getElem?_append_left hj2] at h
          exact .inl ⟨hj, by omega, h⟩
        · rw [List.getElem?_append_right hj2, List.getElem?_drop] at h
          have : off + new.length + (j - off - new.length) = j := by omega
          rw [this] at h
          exact .inr ⟨.inr (by omega), h⟩
    refine .ls _ sz b c _ e (fun i' j => if i' = i ∧ off ≤ j ∧ j < off + new.length then cs.getD (j - off) undef else u i' j) (fun i' j => if i' = i ∧ off ≤ j ∧ j < off + new.length then fps2 (j - off) else fps i' j) _
      (setRow_heap w b cur _ e _ hg) (.inl hfp) (by rw [← hxl]; exact hc) hm ?_ (fun h => hz (by rw [List.set_eq_nil_iff] at h; exact h)) (fun row hr => ?_) (fun i' j l h => ?_) (fun i' j l h => ?_) (fun i' j k h => ?_) (fun i1 j1 i2 j2 k h1 h2 => ?_)
    · simp only [List.size_toArray, List.length_append, hpl, List.length_drop, hcl]
      omega
    · rcases List.mem_or_eq_of_mem_set hr with h | rfl
      · exact hsz row h
      · simp; omega
    · rcases atL_set h hi with ⟨rfl, h1⟩ | ⟨hne, h1⟩
      · rcases hnr j l h1 with ⟨h2, h3, h4⟩ | ⟨h2, h3⟩
        · rw [if_pos ⟨rfl, h2, h3⟩]
          simp only [List.getElem?_toArray]
          rw [List.append_assoc, List.getElem?_append_right (by rw [hpl]; omega), hpl, List.getElem?_append_left (by omega)]
          have e : i' * sz + j - (i' * sz + off) = j - off := by omega
          have hlt : j - off < cs.length := by omega
          rw [e, List.getElem?_eq_getElem hlt, List.getD_eq_getElem?_getD, List.getElem?_eq_getElem hlt]
          rfl
        · rw [if_neg (by omega)]
          have h4 := hcell i' j l (atL_mk hrow h3)
          simp only [List.getElem?_toArray]
          rw [List.append_assoc]
          rcases h2 with h2 | h2
          · rw [List.getElem?_append_left (by rw [hpl]; omega), List.getElem?_take, if_pos (by omega)]
            simpa using h4
          · rw [List.getElem?_append_right (by rw [hpl]; omega), hpl, List.getElem?_append_right (by omega), List.getElem?_drop]
            have e : i' * sz + off + cs.length + (i' * sz + j - (i' * sz + off) - cs.length) = i' * sz + j := by omega
            rw [e]
            simpa using h4
      · rw [if_neg (fun h => hne h.1)]
        have h4 := hcell i' j l h1
        obtain ⟨h5, h6⟩ := atL_len hsz h1
        simp only [List.getElem?_toArray]
        rw [List.append_assoc]
        rcases Nat.lt_or_ge i' i with h7 | h7
        · have : (i' + 1) * sz ≤ i * sz := Nat.mul_le_mul_right _ h7
          rw [Nat.add_mul] at this
          rw [List.getElem?_append_left (by rw [hpl]; omega), List.getElem?_take, if_pos (by omega)]
          simpa using h4
        · have : (i + 1) * sz ≤ i' * sz := Nat.mul_le_mul_right _ (by omega)
          rw [Nat.add_mul] at this
          rw [List.getElem?_append_right (by rw [hpl]; omega), hpl, List.getElem?_append_right (by omega), List.getElem?_drop]
          have e : i * sz + off + cs.length + (i' * sz + j - (i * sz + off) - cs.length) = i' * sz + j := by omega
          rw [e]
          simpa using h4
    · have hin : ∀ {l' : Leaf} {x : Value} {f : Nat → Prop}, Own w l' x f → (∀ k, f k → k ≠ b) → Own (w.setRow b (cur.toList.take (i * sz + off) ++ cs ++ cur.toList.drop (i * sz + off + cs.length)).toArray) l' x f :=
        fun h1 h2 => h1.move (fun _ h => h) (fun k hk => hkeep k (h2 k hk))
      rcases atL_set h hi with ⟨rfl, h1⟩ | ⟨hne, h1⟩
      · rcases hnr j l h1 with ⟨h2, h3, h4⟩ | ⟨h2, h3⟩
        · rw [if_pos ⟨rfl, h2, h3⟩, if_pos ⟨rfl, h2, h3⟩]
          have hlt : j - off < cs.length := by omega
          refine hin (hown _ l _ h4 ?_) (fun k hk e => hsub _ k hk (e ▸ hfp))
          rw [List.getD_eq_getElem?_getD, List.getElem?_eq_getElem hlt]
          rfl
        · rw [if_neg (by omega), if_neg (by omega)]
          exact hin (hown0 i' j l (atL_mk hrow h3)) (fun k hk => (hsub0 i' j k hk).2)
      · rw [if_neg (fun h => hne h.1), if_neg (fun h => hne h.1)]
        exact hin (hown0 i' j l h1) (fun k hk => (hsub0 i' j k hk).2)
    · split at h
      · exact ⟨.inr ⟨_, h⟩, fun e => hsub _ k h (e ▸ hfp)⟩
      · exact ⟨.inl (hsub0 i' j k h).1, (hsub0 i' j k h).2⟩
    · split at h1 <;> split at h2
      · rename_i ha hb
        have := hdis _ _ k h1 h2
        omega
      · exact absurd (hsub0 i2 j2 k h2).1 (hsub _ k h1)
      · exact absurd (hsub0 i1 j1 k h1).1 (hsub _ k h2)
      · exact hdis0 i1 j1 i2 j2 k h1 h2
theorem isLive_some {x : TG} (h : x.isLive = true) : ∃ l, x = .live l := by cases x <;> first | exact ⟨_, rfl⟩ | cases h
theorem store_ep {t tg i sz off : Nat} {b : Bool} {ls : List TL} {v a : Value} {xs : List (List Leaf)} {new : List Leaf} {m' : Mem} {K : Slot → Mem → Prop} (hm : MF w0 pb g m w) (ht : m.tag tg = .live (.ls xs)) (ha : SR g m w (.ep tg i sz off) a)
    (hx : VR g m w b ls v) (hi : i < xs.length) (hsz : (rowAt xs i).length = sz) (hoff : off + ls.length ≤ sz) (hs : szOf P t = some ls.length) (htk : takeL ls m = some (new, m')) (hlv : (m'.tag tg).isLive = true)
    (hK : K .junk ((m'.setTag tg (.live (.ls (xs.set i ((rowAt xs i).take off ++ new ++ (rowAt xs i).drop (off + ls.length)))))).bump tg)) :
    XOk P w0 pb g m w ((do Instr.storeAt t a v; pure .skip : Sem Next).run P w) K := by
  obtain ⟨cs, hc, hl⟩ := vr_cells hx
  obtain ⟨fps2, k⟩ := take_sound ls cs htk hm hl
  obtain ⟨bk, n, c, hva, rfl, hlt⟩ := ha
  have ht' : m'.tag tg = .live (.ls xs) := by
    rcases k.tags tg with h1 | h1
    · rw [h1]; exact ht
    · obtain ⟨l, h2⟩ := isLive_some hlv
      rw [h1] at h2; cases h2
  have ho := (hm.mem.tags tg _ ht).2
  rw [hva] at ho
  have hnl : new.length = ls.length := by rw [k.len, hl.len]
  subst hsz
  obtain ⟨cur, ty, hb, hfit, hown⟩ := own_store (off := off) ho hi (by omega) k.len k.own (fun j b hj hb2 => (k.free j).tag b tg _ hj ht' hb2) (fun j j' b => k.dis j j' b)
  have hrun := run_storeAt (P := P) (t := t) (by rw [hs, hl.len]) hc hl.ones hb hfit
  obtain ⟨hk1, hv1⟩ := k.mf.change (m' := m'.setTag tg .gone) (fun b => b = bk) (Same.setRow w bk _) (fun b _ hne => setRow_other w bk b _ hne) rfl (Nat.le_refl _) rfl
    (fun t' l h => by rw [setTag_tag] at h; split at h; cases h; exact h) (fun t' l h => by rw [setTag_tag] at h; split at h; cases h; exact h)
    (fun b hb => hb ▸ (hm.mem.tS tg _ bk ht ho.top).1) (fun b j hb hj he => by
      subst hb
      rw [k.box] at hj
      exact hm.mem.bfp j tg _ hj ht (he ▸ ho.top))
    (fun b t' l hb h1 h2 => by
      subst hb
      rw [setTag_tag] at h1
      split at h1
      · cases h1
      · rename_i hne
        exact hne (k.mf.mem.tdis t' tg l _ _ h1 ht' h2 ho.top)) (fun b hb => hb ▸ hm.tpb tg _ ht bk ho.top)
  have hfree : Free w0 pb g (m'.setTag tg .gone) (w.setRow bk (cur.toList.take (i * (rowAt xs i).length + off) ++ cs ++ cur.toList.drop (i * (rowAt xs i).length + off + cs.length)).toArray) (fun b => g.fp tg b ∨ ∃ j, fps2 j b) := by
    have hsize : ∀ cs', (w.setRow bk cs').heap.size = w.heap.size := fun cs' => by simp [World.setRow]
    have hlive : ∀ t' l, (m'.setTag tg .gone).tag t' = .live l → m'.tag t' = .live l ∧ t' ≠ tg := by
      intro t' l h1
      rw [setTag_tag] at h1
      split at h1
      · cases h1
      · rename_i hne; exact ⟨h1, hne⟩
    refine ⟨fun b hb => ?_, fun b j hb hj => ?_, fun b t' l hb h1 => ?_, fun b hb => ?_⟩
    · rw [hsize]
      rcases hb with hb | ⟨j, hb⟩
      · exact hm.mem.tS tg _ b ht hb
      · exact (k.free j).S b hb
    · have hj' : m.box j ≠ [] := by rw [← k.box]; exact hj
      rcases hb with hb | ⟨j', hb⟩
      · exact fun e => hm.mem.bfp j tg _ hj' ht (e ▸ hb)
      · exact (k.free j').box b j hb hj
    · obtain ⟨h2, h3⟩ := hlive t' l h1
      rcases hb with hb | ⟨j', hb⟩
      · exact fun h4 => h3 (k.mf.mem.tdis t' tg l _ b h2 ht' h4 hb)
      · exact (k.free j').tag b t' l hb h2
    · rcases hb with hb | ⟨j', hb⟩
      · exact hm.tpb tg _ ht b hb
      · exact (k.free j').pb b hb
  rw [← hva] at hown
  have hlt' : tg < (m'.setTag tg .gone).nx := by show tg < m'.nx; rw [k.nx]; exact hlt
  obtain ⟨g', h1, h2, _⟩ := hk1.reown hlt' (by rw [setTag_tag, if_pos rfl]) hown hfree
  have he : ((m'.setTag tg .gone).setTag tg (.live (.ls (xs.set i ((rowAt xs i).take off ++ new ++ (rowAt xs i).drop (off + new.length)))))) = m'.setTag tg (.live (.ls (xs.set i ((rowAt xs i).take off ++ new ++ (rowAt xs i).drop (off + new.length))))) := by
    simp only [Mem.setTag, Mem.mk.injEq, true_and, and_true]
    funext t'
    simp only [upd]
    split <;> rfl
  rw [he, hnl] at h1 h2
  exact ⟨_, _, g', _, _, hK, run_liftU hrun, .inr ⟨rfl, rfl⟩, h1, (k.mv.trans hv1).trans h2⟩
end
end Go.Proofs.Ythhfhllfbnpcgaa.Co
