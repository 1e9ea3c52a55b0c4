/- A call to which data is shown and lent, and variables by pointers, goes along with its text on plain data: the whole. -/
import Derived.Test.YthhfhllfbnpcgaaCoJe
namespace Go.Proofs.Ythhfhllfbnpcgaa.Co
open Go
set_option linter.unusedSimpArgs false
set_option linter.unusedVariables false
section
variable {P : Program} {w0 : World} {pb : Fence} {g : G} {m : Mem} {w w' : World}
/-- The blocks of what is lent, cell by cell. -/
theorem lent_blocks (hm : MF w0 pb g m w) {fls : List FL} {xs : List TL} {ca : List Value} (hL : lendL m fls xs) (hT : TRs g m w xs ca) : ∃ fps : Nat → Nat → Prop,
    (∀ (i : Nat) x l u, xs[i]? = some x → fls[i]? = some (FL.o l) → ca[i]? = some u → Own w l u (fps i) ∧ ∀ t, tagOf x = some t → t < m.nx ∧ ∀ (w' : World) (l' : Leaf) (fp1 : Nat → Prop), (∀ k, g.fp t k → ¬ fps i k → w'.heap[k]? = w.heap[k]?) → Own w' l' u fp1 → (∀ k, fp1 k → fps i k ∨ ¬ g.fp t k) →
        Own w' (wholeL m x l') (g.va t) (fun k => (g.fp t k ∧ ¬ fps i k) ∨ fp1 k)) ∧
    (∀ i b, fps i b → ∃ x l t l', xs[i]? = some x ∧ fls[i]? = some (FL.o l) ∧ tagOf x = some t ∧ m.tag t = .live l' ∧ g.fp t b) := by
  obtain ⟨hlen, hat⟩ := lendL_at hL
  have hgood : ∀ i : Nat, ∃ fp : Nat → Prop, (∀ x l u, xs[i]? = some x → fls[i]? = some (FL.o l) → ca[i]? = some u → Own w l u fp ∧ ∀ t, tagOf x = some t → t < m.nx ∧ ∀ (w' : World) (l' : Leaf) (fp1 : Nat → Prop), (∀ k, g.fp t k → ¬ fp k → w'.heap[k]? = w.heap[k]?) → Own w' l' u fp1 → (∀ k, fp1 k → fp k ∨ ¬ g.fp t k) →
        Own w' (wholeL m x l') (g.va t) (fun k => (g.fp t k ∧ ¬ fp k) ∨ fp1 k)) ∧
      (∀ b, fp b → ∃ x l t l', xs[i]? = some x ∧ fls[i]? = some (FL.o l) ∧ tagOf x = some t ∧ m.tag t = .live l' ∧ g.fp t b) := by
    intro i
    cases hf : fls[i]? with
    | none => exact ⟨fun _ => False, fun x l u _ h => (by cases h), fun _ h => h.elim⟩
    | some fl =>
      cases fl with
      | v l => exact ⟨fun _ => False, fun x l u _ h => (by cases h), fun _ h => h.elim⟩
      | o l =>
        have hi : i < xs.length := by rw [← hlen]; exact (List.getElem?_eq_some_iff.1 hf).1
        have hi' : i < ca.length := by rw [← hT.len]; exact hi
        have hx := List.getElem?_eq_getElem hi
        have hu := List.getElem?_eq_getElem hi'
        obtain ⟨fp, k1, k2, k3⟩ := lend_one hm (hT.at_ i _ _ hx hu) ((hat i _ _ hf hx).1 l rfl)
        refine ⟨fp, fun x l' u h1 h2 h3 => ?_, fun b hb => ?_⟩
        · rw [hx] at h1; injection h1 with h1; subst h1
          injection h2 with h2; injection h2 with h2; subst h2
          rw [hu] at h3; injection h3 with h3; subst h3
          exact ⟨k1, fun t ht => ⟨(k3 t ht).2.1, (k3 t ht).2.2⟩⟩
        · obtain ⟨t, l', a1, a2, a3⟩ := k2 b hb
          exact ⟨_, l, t, l', hx, rfl, a1, a2, a3⟩
  obtain ⟨fps, hfps⟩ := Classical.axiomOfChoice hgood
  exact ⟨fps, fun i => (hfps i).1, fun i => (hfps i).2⟩
/-- The world with some blocks as they will be. -/
def ahead (w w' : World) (bs : List Nat) : World := { w with heap := Array.ofFn (n := w.heap.size) fun i => if bs.contains i.1 then (w'.heap[i.1]?).getD w.heap[i] else w.heap[i] }
theorem ahead_size (w w' : World) (bs : List Nat) : (ahead w w' bs).heap.size = w.heap.size := by simp [ahead]
theorem ahead_same (w w' : World) (bs : List Nat) : Same w (ahead w w' bs) := ⟨rfl, rfl, rfl, by rw [ahead_size]; exact Nat.le_refl _⟩
theorem ahead_old {bs : List Nat} {b : Nat} (h : b ∉ bs) : (ahead w w' bs).heap[b]? = w.heap[b]? := by
  by_cases hb : b < w.heap.size
  · simp [ahead, hb, h]
  · simp [ahead, hb]
theorem ahead_new {bs : List Nat} {b : Nat} (h : b ∈ bs) (hb : b < w.heap.size) (hs : w.heap.size ≤ w'.heap.size) : (ahead w w' bs).heap[b]? = w'.heap[b]? := by
  have hb' : b < w'.heap.size := Nat.lt_of_lt_of_le hb hs
  simp [ahead, hb, h, hb']
theorem gen_sound {f : FuncId} {ss : List Slot} {vs : List Value} {K : Slot → Mem → Prop} (h : callGen P f ss m K) (hm : MF w0 pb g m w) (hss : SRs g m w ss vs) :
    Enters P f ∧ Calls P f vs.toArray w (CallOk w0 pb g m w K) := by
  obtain ⟨args, bx, ks, ⟨hnd, hsep, hS, hX⟩, hac⟩ := h
  obtain ⟨bs, b1, b2, b3, b4, b5, b6, b7⟩ := lendX_sound hm.mem hX
  have hbs : bs.map BX.g = ks.map g.β := by
    refine List.ext_getElem? fun i => ?_
    rw [List.getElem?_map, List.getElem?_map]
    rcases Nat.lt_or_ge i ks.length with hi | hi
    · have h1 := List.getElem?_eq_getElem hi
      have h2 := List.getElem?_eq_getElem (l := bs) (i := i) (by omega)
      rw [h1, h2]
      simp only [Option.map_some, Option.some.injEq]
      exact (b2 i _ _ h1 h2).2.1
    · rw [List.getElem?_eq_none hi, List.getElem?_eq_none (by omega)]; rfl
  have hγ : ∀ (i : Nat) k, ks[i]? = some k → bgs bs i = g.β k := fun i k hk => by
    unfold bgs
    rw [hbs, List.getD_eq_getElem?_getD, List.getElem?_map, hk]; rfl
  obtain ⟨cs, hsh, htr, hlend⟩ := lendS_sound hγ hS hss
  have hkne : ∀ k ∈ ks, m.box k ≠ [] := fun k hk => by
    obtain ⟨i, hi⟩ := List.getElem?_of_mem hk
    have hil := (List.getElem?_eq_some_iff.1 hi).1
    exact (b2 i k _ hi (List.getElem?_eq_getElem (by omega))).1
  have hL : lendL m (flsOf args bx) (tlsOf m ss ks) := lendL_app hlend b5
  have hT : TRs g m w (tlsOf m ss ks) (cs ++ bs.flatMap BX.cs) := htr.append b6
  obtain ⟨hlen, hat⟩ := lendL_at hL
  obtain ⟨hlenA, hatA⟩ := lendL_at hlend
  obtain ⟨fps, hfo, hfs⟩ := lent_blocks hm hL hT
  -- what is lent is apart
  have hdis : ∀ i j b, fps i b → fps j b → i = j := fun i j b h1 h2 => by
    obtain ⟨x, l, t, l', a1, a2, a3, a4, a5⟩ := hfs i b h1
    obtain ⟨y, k, s, k', c1, c2, c3, c4, c5⟩ := hfs j b h2
    have := hm.mem.tdis t s l' k' b a4 c4 a5 c5
    subst this
    exact sep_at hsep i j _ _ x y t a2 c2 a1 c1 (.inl rfl) a3 c3
  let Sc : Nat → Prop := fun b => g.S b ∨ ∃ (j : Nat) (x : TL) (l : Leaf) (t : Nat) (l' : Leaf), (tlsOf m ss ks)[j]? = some x ∧ (flsOf args bx)[j]? = some (FL.v l) ∧ tagOf x = some t ∧ m.tag t = .live l' ∧ g.fp t b
  have hSlt : ∀ b, Sc b → b < w.heap.size := by
    rintro b (hb | ⟨j, x, l, t, l', _, _, _, a4, a5⟩)
    · exact hm.mem.Slt b hb
    · exact (hm.mem.tS t l' b a4 a5).2
  have hflt : ∀ i b, fps i b → b < w.heap.size := fun i b h1 => by
    obtain ⟨x, l, t, l', a1, a2, a3, a4, a5⟩ := hfs i b h1
    exact (hm.mem.tS t l' b a4 a5).2
  have hnoS : ∀ i b, fps i b → ¬ Sc b := by
    intro i b h1 h2
    obtain ⟨x, l, t, l', a1, a2, a3, a4, a5⟩ := hfs i b h1
    rcases h2 with h2 | ⟨j, y, k, s, k', c1, c2, c3, c4, c5⟩
    · exact (hm.mem.tS t l' b a4 a5).1 h2
    · have := hm.mem.tdis t s l' k' b a4 c4 a5 c5
      subst this
      have := sep_at hsep i j _ _ x y t a2 c2 a1 c1 (.inl rfl) a3 c3
      subst this
      rw [a2] at c2; cases c2
  have hboxf : ∀ k, m.box k ≠ [] → ∀ i, ¬ fps i (g.β k) := fun k hk i h1 => by
    obtain ⟨x, l, t, l', a1, a2, a3, a4, a5⟩ := hfs i _ h1
    exact hm.mem.bfp k t l' hk a4 a5
  have hboxS : ∀ k, m.box k ≠ [] → ¬ Sc (g.β k) := by
    rintro k hk (hb | ⟨j, x, l, t, l', _, _, _, a4, a5⟩)
    · exact hm.mem.bS k hk hb
    · exact hm.mem.bfp k t l' hk a4 a5
  have hbun : Bun Sc w (args.flatMap RS.fls ++ bx.flatten) (cs ++ bs.flatMap BX.cs) fps := by
    refine ⟨by rw [← hT.len]; exact hlen, fun i l u h1 h2 => ?_, fun i l u h1 h2 => ?_, fun i b hib => ⟨hnoS i b hib, hflt i b hib⟩, hdis⟩
    · have hi : i < (tlsOf m ss ks).length := by rw [← hlen]; exact (List.getElem?_eq_some_iff.1 h1).1
      have hx := List.getElem?_eq_getElem hi
      refine leaf_rep hm (hT.at_ i _ u hx h2) ((hat i _ _ h1 hx).2 l rfl) (fun b hb => .inl hb) (fun t l' b he ht hb => .inr ⟨i, _, l, t, l', hx, h1, ?_, ht, hb⟩)
      rcases he with he | ⟨i', sz, j, ver, he⟩ <;> rw [he] <;> rfl
    · have hi : i < (tlsOf m ss ks).length := by rw [← hlen]; exact (List.getElem?_eq_some_iff.1 h1).1
      exact (hfo i _ l u (List.getElem?_eq_getElem hi) h1 h2).1
  have hbox : BxOk w bx bs Sc fps := by
    refine ⟨by omega, fun i l b h1 h2 => ?_, fun b hb => ?_, ?_⟩
    · have hi : i < ks.length := by have := (List.getElem?_eq_some_iff.1 h2).1; omega
      obtain ⟨k1, k2, k3, k4⟩ := b2 i _ b (List.getElem?_eq_getElem hi) h2
      rw [b4 i l _ h1 (List.getElem?_eq_getElem hi), k4.len]
    · obtain ⟨i, hi⟩ := List.getElem?_of_mem hb
      have hil : i < ks.length := by have := (List.getElem?_eq_some_iff.1 hi).1; omega
      obtain ⟨k1, k2, k3, k4⟩ := b2 i _ b (List.getElem?_eq_getElem hil) hi
      rw [k2]
      exact ⟨k3, hboxS _ k1, hboxf _ k1⟩
    · rw [hbs]
      exact nodup_map hnd (fun a ha b hb => hm.mem.binj a b (hkne a ha) (hkne b hb))
  refine ⟨hac.1, (hac.2 w vs cs bs Sc fps hsh hbun hbox hSlt).mono ?_⟩
  rintro e w' ⟨r, lent, bx', v, rcs, bs', S', fps', ⟨⟨hbl, hne⟩, hfill⟩, rfl, hb⟩
  have hne' : ∀ l ∈ bx', l ≠ [] := fun l hl e => by have := List.all_eq_true.1 hne l hl; rw [e] at this; cases this
  have hlenr := sh_len hb.sh
  have hlenl := lent_lens (args.flatMap RS.fls) cs lent (by rw [hlenA, htr.len]) hb.lent_len
  have hbb := hb.bun
  -- the three parts of what came back
  have hA : ∀ (i : Nat) fl u, r.fls[i]? = some fl → rcs[i]? = some u → (r.fls ++ lentO lent ++ bx'.flatten)[i]? = some fl ∧ (rcs ++ lentV lent (ownV (args.flatMap RS.fls) cs) ++ bs'.flatMap BX.cs)[i]? = some u := fun i fl u h1 h2 => by
    have k1 := (List.getElem?_eq_some_iff.1 h1).1
    have k2 := (List.getElem?_eq_some_iff.1 h2).1
    exact ⟨by rw [List.append_assoc, List.getElem?_append_left k1]; exact h1, by rw [List.append_assoc, List.getElem?_append_left k2]; exact h2⟩
  have hB : ∀ (i : Nat) fl u, (lentO lent)[i]? = some fl → (lentV lent (ownV (args.flatMap RS.fls) cs))[i]? = some u → (r.fls ++ lentO lent ++ bx'.flatten)[r.fls.length + i]? = some fl ∧ (rcs ++ lentV lent (ownV (args.flatMap RS.fls) cs) ++ bs'.flatMap BX.cs)[r.fls.length + i]? = some u := fun i fl u h1 h2 => by
    have k1 := (List.getElem?_eq_some_iff.1 h1).1
    have k2 := (List.getElem?_eq_some_iff.1 h2).1
    refine ⟨?_, ?_⟩
    · rw [List.append_assoc, List.getElem?_append_right (by omega), Nat.add_sub_cancel_left, List.getElem?_append_left k1]; exact h1
    · rw [List.append_assoc, List.getElem?_append_right (by omega), show r.fls.length + i - rcs.length = i by omega, List.getElem?_append_left k2]; exact h2
  have hC : ∀ (i : Nat) fl u, bx'.flatten[i]? = some fl → (bs'.flatMap BX.cs)[i]? = some u → (r.fls ++ lentO lent ++ bx'.flatten)[r.fls.length + (lentO lent).length + i]? = some fl ∧ (rcs ++ lentV lent (ownV (args.flatMap RS.fls) cs) ++ bs'.flatMap BX.cs)[r.fls.length + (lentO lent).length + i]? = some u := fun i fl u h1 h2 => by
    refine ⟨?_, ?_⟩
    · rw [List.getElem?_append_right (by rw [List.length_append]; omega), List.length_append, Nat.add_sub_cancel_left]; exact h1
    · rw [List.getElem?_append_right (by rw [List.length_append]; omega), List.length_append, show r.fls.length + (lentO lent).length + i - (rcs.length + (lentV lent (ownV (args.flatMap RS.fls) cs)).length) = i by omega]; exact h2
  obtain ⟨ex, fps1, hK, e1, e2, e3, e4, e5⟩ := filled_sound (w' := w') (args.flatMap RS.fls) (slotL ss) cs lent (fun q x => q < (lentO lent).length ∧ fps' (r.fls.length + q) x) hfill hlenA htr.len hb.lent_len htr.ones
    (fun q l u h1 h2 => (hbb.own _ l u (hB q _ u h1 h2).1 (hB q _ u h1 h2).2).move (fun x hx => ⟨(List.getElem?_eq_some_iff.1 h1).1, hx⟩) (fun _ _ => rfl)) (fun i j b h1 h2 => by have := hbb.dis _ _ b h1.2 h2.2; omega)
  -- blocks
  have hsz : w.heap.size ≤ w'.heap.size := hb.same.size
  have hbl' : bs'.length = ks.length := by rw [← hb.box.len]; exact hbl
  have hβb : ∀ (i : Nat) k b', ks[i]? = some k → bs'[i]? = some b' → b'.g = g.β k := fun i k b' h1 h2 => by
    have hi : i < bs.length := by have := (List.getElem?_eq_some_iff.1 h1).1; omega
    have := hb.bold i hi
    rw [hγ i k h1] at this
    unfold bgs at this
    rw [List.getD_eq_getElem?_getD, List.getElem?_map, h2] at this
    exact this
  have hkb : ∀ k ∈ ks, ∃ b' ∈ bs', b'.g = g.β k ∧ w'.heap[g.β k]? = some (.cells b'.cs.toArray b'.ty (0, 0)) ∧ b'.cs ≠ [] := fun k hk => by
    obtain ⟨i, hi⟩ := List.getElem?_of_mem hk
    have hil : i < bs'.length := by have := (List.getElem?_eq_some_iff.1 hi).1; omega
    have hx := List.getElem?_eq_getElem hil
    have hg := hβb i k _ hi hx
    have hmem := List.getElem_mem hil
    refine ⟨bs'[i], hmem, hg, by rw [← hg]; exact (hb.box.at_ _ hmem).1, fun e => ?_⟩
    have hib : i < bx'.length := by omega
    have := hb.box.sz i _ _ (List.getElem?_eq_getElem hib) hx
    rw [e] at this
    exact hne' _ (List.getElem_mem hib) (List.eq_nil_of_length_eq_zero this)
  have hflat : (bs'.flatMap BX.cs).length = bx'.flatten.length := by
    have := hbb.len
    simp only [List.length_append] at this
    omega
  have hone : ∀ b' ∈ bs', ∀ u ∈ b'.cs, u.oneCell' = true := fun b' hb' u hu => by
    have hmem : u ∈ bs'.flatMap BX.cs := List.mem_flatMap.2 ⟨b', hb', hu⟩
    obtain ⟨i, hi⟩ := List.getElem?_of_mem hmem
    have hil : i < bx'.flatten.length := by rw [← hflat]; exact (List.getElem?_eq_some_iff.1 hi).1
    have hx := List.getElem?_eq_getElem hil
    obtain ⟨c1, c2⟩ := hC i _ u hx hi
    cases hfl : bx'.flatten[i] with
    | v l => rw [hfl] at c1; exact (hbb.view _ l u c1 c2).one
    | o l => rw [hfl] at c1; exact (hbb.own _ l u c1 c2).one
  have hklt : ∀ k ∈ ks, g.β k < w.heap.size := fun k hk => by
    obtain ⟨_, c, ty, h2, _⟩ := hm.mem.boxes k (hkne k hk)
    exact (Array.getElem?_eq_some_iff.1 h2).1
  -- (1) the variables, ahead of time
  let bA : Nat → List TL := fun k => if k ∈ ks then (match w'.heap[g.β k]? with | some (.cells a _ _) => a.toList.map (fun u => TL.v (.sc u)) | _ => []) else m.box k
  have hbA : ∀ k ∈ ks, ∃ b' ∈ bs', b'.g = g.β k ∧ w'.heap[g.β k]? = some (.cells b'.cs.toArray b'.ty (0, 0)) ∧ bA k = b'.cs.map (fun u => TL.v (.sc u)) ∧ bA k ≠ [] := fun k hk => by
    obtain ⟨b', q1, q2, q3, q4⟩ := hkb k hk
    have : bA k = b'.cs.map (fun u => TL.v (.sc u)) := by
      show (if k ∈ ks then _ else _) = _
      rw [if_pos hk, q3]
    exact ⟨b', q1, q2, q3, this, by rw [this]; simpa using q4⟩
  let w1 : World := ahead w w' (ks.map g.β)
  have hw1 : ∀ b, b ∉ ks.map g.β → w1.heap[b]? = w.heap[b]? := fun b hb2 => ahead_old hb2
  have hw1' : ∀ k ∈ ks, w1.heap[g.β k]? = w'.heap[g.β k]? := fun k hk => ahead_new (List.mem_map_of_mem hk) (hklt k hk) hsz
  have hw1s : w1.heap.size = w.heap.size := ahead_size _ _ _
  obtain ⟨mA, vA⟩ := hm.setBoxes ks bA (fun k hk => if_neg hk) (ahead_same w w' (ks.map g.β)) hw1s (fun k hk => by
      obtain ⟨b', q1, q2, q3, q4, q5⟩ := hbA k hk
      refine ⟨hkne k hk, q5, b'.cs, b'.ty, (hw1' k hk).trans q3, ?_⟩
      rw [q4]
      refine ⟨by simp, fun i x u hx hu => ?_⟩
      rw [List.getElem?_map, hu] at hx
      injection hx with hx; subst hx
      exact .sc u (hone b' q1 u (List.mem_of_getElem? hu)))
    (fun b hb2 => hw1 b (fun h => by obtain ⟨k, q1, q2⟩ := List.mem_map.1 h; exact hb2 k q1 q2.symm))
  -- (2) what is lent is not there
  obtain ⟨mB, vB⟩ := goneT_sound (tagsM (flsOf args bx) (tlsOf m ss ks)) mA
  have hgone : ∀ t, (goneT (m.wb bA) (tagsM (flsOf args bx) (tlsOf m ss ks))).tag t = if t ∈ tagsM (flsOf args bx) (tlsOf m ss ks) then .gone else m.tag t := fun t => goneT_tag _ _ _
  -- (3) what is shown is frozen, where it is seen from now on
  have step3 : ∃ g1, MF w0 pb g1 (frzIf (viewsOf r bx') (goneT (m.wb bA) (tagsM (flsOf args bx) (tlsOf m ss ks))) (shownL (flsOf args bx) (tlsOf m ss ks))) w1 ∧ Mv g m w g1 (frzIf (viewsOf r bx') (goneT (m.wb bA) (tagsM (flsOf args bx) (tlsOf m ss ks))) (shownL (flsOf args bx) (tlsOf m ss ks))) w1 ∧
      g1.fp = g.fp ∧ g1.β = g.β ∧ (∀ b, g.S b → g1.S b) ∧ (viewsOf r bx' = true → ∀ b, Sc b → g1.S b) ∧ ∀ b, g1.S b → Sc b := by
    cases viewsOf r bx' with
    | false => exact ⟨g, mB, vA.trans vB, rfl, rfl, fun b h => h, (fun h => by cases h), fun b h => .inl h⟩
    | true =>
      obtain ⟨g1, q1, q2, q3, q4, q5, q6, q7⟩ := frzL_more (shownL (flsOf args bx) (tlsOf m ss ks)) mB
      refine ⟨g1, q1, (vA.trans vB).trans q2, q5, q6, q3, fun _ b hb2 => ?_, fun b hb2 => ?_⟩
      · rcases hb2 with hb2 | ⟨j, x, l, t, l', a1, a2, a3, a4, a5⟩
        · exact q3 b hb2
        · refine q4 x t l' b (shownL_at.2 ⟨j, l, a2, a1⟩) a3 ?_ a5
          rw [hgone, if_neg]
          · exact a4
          · intro ht
            obtain ⟨i, l0, y, c1, c2, c3⟩ := tagsM_at.1 ht
            have := sep_at hsep i j _ _ y x t c1 a2 c2 a1 (.inl rfl) c3 a3
            subst this
            rw [c1] at a2; cases a2
      · rcases q7 b hb2 with hb2 | ⟨x, t, l', a1, a3, a4, a5⟩
        · exact .inl hb2
        · obtain ⟨j, l, c1, c2⟩ := shownL_at.1 a1
          rw [hgone] at a4
          split at a4
          · cases a4
          · exact .inr ⟨j, x, l, t, l', c2, c1, a3, a4, a5⟩
  obtain ⟨g1, mC, vC, f1, f2, f3, f4, f5⟩ := step3
  -- live lists
  have hliveC : ∀ t l, (frzIf (viewsOf r bx') (goneT (m.wb bA) (tagsM (flsOf args bx) (tlsOf m ss ks))) (shownL (flsOf args bx) (tlsOf m ss ks))).tag t = .live l → m.tag t = .live l ∧ t ∉ tagsM (flsOf args bx) (tlsOf m ss ks) := by
    intro t l ht
    have h1 : (goneT (m.wb bA) (tagsM (flsOf args bx) (tlsOf m ss ks))).tag t = .live l := by
      revert ht
      cases viewsOf r bx' with
      | false => exact id
      | true => exact frzL_live _
    rw [hgone] at h1
    split at h1
    · cases h1
    · rename_i hnt; exact ⟨h1, hnt⟩
  have hDT : ∀ b t l, (∃ i, fps i b) → (frzIf (viewsOf r bx') (goneT (m.wb bA) (tagsM (flsOf args bx) (tlsOf m ss ks))) (shownL (flsOf args bx) (tlsOf m ss ks))).tag t = .live l → ¬ g.fp t b := by
    rintro b t l ⟨i, hi⟩ ht hfp
    obtain ⟨h1, h2⟩ := hliveC t l ht
    obtain ⟨x, l0, s, l', a1, a2, a3, a4, a5⟩ := hfs i b hi
    have := hm.mem.tdis t s l l' b h1 a4 hfp a5
    subst this
    exact h2 (tagsM_at.2 ⟨i, l0, x, a2, a1, a3⟩)
  have hDp : ∀ i b, fps i b → w0.heap.size ≤ b ∨ pb.w b := fun i b hi => by
    obtain ⟨x, l0, s, l', a1, a2, a3, a4, a5⟩ := hfs i b hi
    exact hm.tpb s l' a4 b a5
  -- (4) the call itself
  have hbx1 : ∀ k, (m.wb bA).box k ≠ [] → m.box k ≠ [] := fun k hk => by
    by_cases e : k ∈ ks
    · exact hkne k e
    · have : bA k = m.box k := if_neg e
      rw [← this]; exact hk
  have hboxC : (frzIf (viewsOf r bx') (goneT (m.wb bA) (tagsM (flsOf args bx) (tlsOf m ss ks))) (shownL (flsOf args bx) (tlsOf m ss ks))).box = bA := by
    rw [goneT_wb, frzIf_wb]; rfl
  obtain ⟨mD, vD⟩ := mC.change (w' := w') (m' := frzIf (viewsOf r bx') (goneT (m.wb bA) (tagsM (flsOf args bx) (tlsOf m ss ks))) (shownL (flsOf args bx) (tlsOf m ss ks))) (fun b => ∃ i, fps i b)
    ⟨hb.same.os, hb.same.tape, hb.same.output, by rw [hw1s]; exact hsz⟩
    (fun b hlt hD => by
      rw [hw1s] at hlt
      by_cases e : b ∈ ks.map g.β
      · obtain ⟨k, q1, q2⟩ := List.mem_map.1 e
        rw [← q2]; exact (hw1' k q1).symm
      · rw [hw1 b e]
        refine hb.keep b hlt (fun i hi => hD ⟨i, hi⟩) (fun x hx he => e ?_)
        rw [← hbs, he]
        exact List.mem_map_of_mem hx)
    rfl (Nat.le_refl _) rfl (fun _ _ h => h) (fun _ _ h => h) (fun b ⟨i, hi⟩ hS2 => hnoS i b hi (f5 b hS2)) (fun b k ⟨i, hi⟩ hk he => by
      rw [hboxC] at hk
      rw [f2] at he
      exact hboxf k (hbx1 k hk) i (he ▸ hi)) (fun b t l hD ht => by rw [f1]; exact hDT b t l hD ht) (fun b ⟨i, hi⟩ => hDp i b hi)
  -- what nothing leads to
  have hfree : ∀ fp : Nat → Prop, (∀ b, fp b → (w.heap.size ≤ b ∨ ∃ i, fps i b) ∧ b < w'.heap.size) → Free w0 pb g1 (frzIf (viewsOf r bx') (goneT (m.wb bA) (tagsM (flsOf args bx) (tlsOf m ss ks))) (shownL (flsOf args bx) (tlsOf m ss ks))) w' fp := by
    intro fp hfp
    refine ⟨fun b hb2 => ⟨fun hS2 => ?_, (hfp b hb2).2⟩, fun b k hb2 hk he => ?_, fun b t l hb2 ht hx => ?_, fun b hb2 => ?_⟩
    · rcases (hfp b hb2).1 with h1 | ⟨i, hi⟩
      · have := hSlt b (f5 b hS2); omega
      · exact hnoS i b hi (f5 b hS2)
    · rw [hboxC] at hk
      rw [f2] at he
      rcases (hfp b hb2).1 with h1 | ⟨i, hi⟩
      · obtain ⟨_, c, ty, h2, _⟩ := hm.mem.boxes k (hbx1 k hk)
        have := (Array.getElem?_eq_some_iff.1 h2).1
        omega
      · exact hboxf k (hbx1 k hk) i (he ▸ hi)
    · rw [f1] at hx
      rcases (hfp b hb2).1 with h1 | hi
      · have := (hm.mem.tS t l b (hliveC t l ht).1 hx).2
        omega
      · exact hDT b t l hi ht hx
    · rcases (hfp b hb2).1 with h1 | ⟨i, hi⟩
      · exact .inl (Nat.le_trans hm.same.size h1)
      · exact hDp i b hi
  have hnew : ∀ i b, fps' i b → (w.heap.size ≤ b ∨ ∃ i, fps i b) ∧ b < w'.heap.size ∧ ¬ S' b := fun i b hib => ⟨hb.f_from i b hib, (hbb.sub i b hib).2, (hbb.sub i b hib).1⟩
  -- (5) what is seen from now on is settled
  have step5 : ∃ g2, MF w0 pb g2 (frzIf (viewsOf r bx') (goneT (m.wb bA) (tagsM (flsOf args bx) (tlsOf m ss ks))) (shownL (flsOf args bx) (tlsOf m ss ks))) w' ∧ Mv g m w g2 (frzIf (viewsOf r bx') (goneT (m.wb bA) (tagsM (flsOf args bx) (tlsOf m ss ks))) (shownL (flsOf args bx) (tlsOf m ss ks))) w' ∧ g2.fp = g.fp ∧ g2.β = g.β ∧
      (viewsOf r bx' = true → ∀ b, S' b → g2.S b) ∧ (∀ b, g2.S b → Sc b ∨ (S' b ∧ (w.heap.size ≤ b ∨ ∃ i, fps i b))) := by
    cases hV : viewsOf r bx' with
    | false =>
      rw [hV] at mD vD vC
      exact ⟨g1, mD, vC.trans vD, f1, f2, (fun h => by cases h), fun b hb2 => .inl (f5 b hb2)⟩
    | true =>
      obtain ⟨n1, n2⟩ := mD.settle (hfree (fun b => S' b ∧ (w.heap.size ≤ b ∨ ∃ i, fps i b)) (fun b hb2 => ⟨hb2.2, hb.S_lt b hb2.1⟩))
      rw [hV] at n1 n2 vD vC
      refine ⟨_, n1, (vC.trans vD).trans n2, f1, f2, fun _ b hb2 => ?_, fun b hb2 => hb2.imp (f5 b) id⟩
      rcases hb.S_from b hb2 with h1 | h1 | h1
      · exact .inl (f4 hV b h1)
      · exact .inr ⟨hb2, .inl h1⟩
      · exact .inr ⟨hb2, .inr h1⟩
  obtain ⟨g2, mE, vE, k1, k2, k3, k4⟩ := step5
  have hfree2 : ∀ fp : Nat → Prop, (∀ b, fp b → ((w.heap.size ≤ b ∨ ∃ i, fps i b) ∧ b < w'.heap.size) ∧ ¬ S' b) → Free w0 pb g2 (frzIf (viewsOf r bx') (goneT (m.wb bA) (tagsM (flsOf args bx) (tlsOf m ss ks))) (shownL (flsOf args bx) (tlsOf m ss ks))) w' fp := by
    intro fp hfp
    have hf1 := hfree fp (fun b hb2 => (hfp b hb2).1)
    refine ⟨fun b hb2 => ⟨fun hS2 => ?_, (hfp b hb2).1.2⟩, fun b k hb2 hk => by rw [k2, ← f2]; exact hf1.box b k hb2 hk, fun b t l hb2 ht => by rw [k1, ← f1]; exact hf1.tag b t l hb2 ht, hf1.pb⟩
    rcases k4 b hS2 with h1 | h1
    · rcases (hfp b hb2).1.1 with h2 | ⟨i, hi⟩
      · have := hSlt b h1; omega
      · exact hnoS i b hi h1
    · exact (hfp b hb2).2 h1.1
  -- (6) what was lent comes back
  have hidx : ∀ (i : Nat) x l, (slotL ss)[i]? = some x → ex[i]? = some (some l) → (tlsOf m ss ks)[i]? = some x ∧ ∃ l0, (flsOf args bx)[i]? = some (FL.o l0) := fun i x l h1 h2 => by
    have hi := (List.getElem?_eq_some_iff.1 h1).1
    obtain ⟨l0, h3⟩ := e5 i l h2
    exact ⟨by unfold tlsOf; rw [List.getElem?_append_left hi]; exact h1, l0, by unfold flsOf; rw [List.getElem?_append_left (by omega)]; exact h3⟩
  have hrem : ∀ (i : Nat) x t l0, (tlsOf m ss ks)[i]? = some x → (flsOf args bx)[i]? = some (FL.o l0) → tagOf x = some t → (∃ l', m.tag t = .live l') ∧ ∀ b, g.fp t b → ¬ fps i b → (∀ j, ¬ fps j b) ∧ b < w.heap.size ∧ ¬ Sc b := by
    intro i x t l0 h1 h2 h3
    have hi : i < (cs ++ bs.flatMap BX.cs).length := by rw [← hT.len]; exact (List.getElem?_eq_some_iff.1 h1).1
    have hl1 := (hat i _ _ h2 h1).1 l0 rfl
    have hlive : ∃ l', m.tag t = .live l' := by
      cases x with
      | v l => cases h3
      | nl => cases h3
      | o s =>
        injection h3 with h3; subst h3
        simp only [lend1] at hl1
        split at hl1
        · exact ⟨_, by assumption⟩
        · cases hl1
      | s s i2 sz j ver =>
        injection h3 with h3; subst h3
        simp only [lend1] at hl1
        split at hl1
        · exact ⟨_, by assumption⟩
        · cases hl1
    obtain ⟨l', hl'⟩ := hlive
    refine ⟨⟨l', hl'⟩, fun b hb2 hn => ⟨fun j hj => ?_, (hm.mem.tS t l' b hl' hb2).2, ?_⟩⟩
    · obtain ⟨y, k, s, k', c1, c2, c3, c4, c5⟩ := hfs j b hj
      have := hm.mem.tdis t s l' k' b hl' c4 hb2 c5
      subst this
      have := sep_at hsep i j _ _ x y t h2 c2 h1 c1 (.inl rfl) h3 c3
      subst this
      exact hn hj
    · rintro (hS2 | ⟨j, y, k, s, k', c1, c2, c3, c4, c5⟩)
      · exact (hm.mem.tS t l' b hl' hb2).1 hS2
      · have := hm.mem.tdis t s l' k' b hl' c4 hb2 c5
        subst this
        have := sep_at hsep i j _ _ x y t h2 c2 h1 c1 (.inl rfl) h3 c3
        subst this
        rw [h2] at c2; cases c2
  have hkeepR : ∀ (i : Nat) x t l0, (tlsOf m ss ks)[i]? = some x → (flsOf args bx)[i]? = some (FL.o l0) → tagOf x = some t → ∀ b, g.fp t b → ¬ fps i b → w'.heap[b]? = w.heap[b]? := by
    intro i x t l0 h1 h2 h3 b hb2 hn
    obtain ⟨⟨l', hl'⟩, hr⟩ := hrem i x t l0 h1 h2 h3
    obtain ⟨q1, q2, _⟩ := hr b hb2 hn
    refine hb.keep b q2 q1 (fun z hz he => ?_)
    obtain ⟨j, hj⟩ := List.getElem?_of_mem hz
    have hjl : j < ks.length := by have := (List.getElem?_eq_some_iff.1 hj).1; omega
    obtain ⟨p1, p2, _, _⟩ := b2 j _ z (List.getElem?_eq_getElem hjl) hj
    rw [p2] at he
    exact hm.mem.bfp _ t l' p1 hl' (he ▸ hb2)
  obtain ⟨g3, mF, vF, s1, s2⟩ := back_sound (g := g) (m := m) (slotL ss) cs ex fps fps1 mE htr.len (by omega)
    (fun i x u t l h1 h2 h3 h4 => by
      obtain ⟨q1, l0, q2⟩ := hidx i x l h1 h3
      have hcu : (cs ++ bs.flatMap BX.cs)[i]? = some u := by rw [List.getElem?_append_left (List.getElem?_eq_some_iff.1 h2).1]; exact h2
      obtain ⟨q3, q4⟩ := (hfo i x l0 u q1 q2 hcu).2 t h4
      have hin : t ∈ tagsM (flsOf args bx) (tlsOf m ss ks) := tagsM_at.2 ⟨i, l0, x, q2, q1, h4⟩
      refine ⟨?_, ?_, vE.va t q3, fun l' fp1 p1 p2 => q4 w' l' fp1 (hkeepR i x t l0 q1 q2 h4) p1 p2⟩
      · have hg0 : (goneT (m.wb bA) (tagsM (flsOf args bx) (tlsOf m ss ks))).tag t = .gone := by rw [hgone, if_pos hin]
        cases viewsOf r bx' with
        | false => exact hg0
        | true =>
          refine (frzL_tag _ _ _ (fun y hy hyt => ?_)).trans hg0
          obtain ⟨j, l2, c1, c2⟩ := shownL_at.1 hy
          have := sep_at hsep i j _ _ x y t q2 c1 q1 c2 (.inl rfl) h4 hyt
          subst this
          rw [q2] at c1; cases c1
      · have hnx : (frzIf (viewsOf r bx') (goneT (m.wb bA) (tagsM (flsOf args bx) (tlsOf m ss ks))) (shownL (flsOf args bx) (tlsOf m ss ks))).nx = m.nx := by
          cases viewsOf r bx' with
          | false => exact goneT_nx _ _
          | true => exact (frzL_nx _ _).trans (goneT_nx _ _)
        rw [hnx]; exact q3)
    e2
    (fun i x t l h1 h3 h4 => by
      obtain ⟨q1, l0, q2⟩ := hidx i x l h1 h3
      obtain ⟨⟨l', hl'⟩, hr⟩ := hrem i x t l0 q1 q2 h4
      refine ⟨fun b hb2 => ?_, fun b k hb2 hk he => ?_, fun b s l2 hb2 hs2 hx => ?_, fun b hb2 => hm.tpb t l' hl' b hb2.1⟩
      · obtain ⟨p1, p2, p3⟩ := hr b hb2.1 hb2.2
        refine ⟨fun hS2 => ?_, by omega⟩
        rcases k4 b hS2 with h5 | ⟨_, h5 | ⟨j, h5⟩⟩
        · exact p3 h5
        · omega
        · exact p1 j h5
      · rw [hboxC] at hk
        rw [k2] at he
        exact hm.mem.bfp k t l' (hbx1 k hk) hl' (he ▸ hb2.1)
      · rw [k1] at hx
        obtain ⟨p1, p2⟩ := hliveC s l2 hs2
        have := hm.mem.tdis t s l' l2 b hl' p1 hb2.1 hx
        subst this
        exact p2 (tagsM_at.2 ⟨i, l0, x, q2, q1, h4⟩))
    (fun i => hfree2 (fps1 i) (fun b hb2 => by
      obtain ⟨q, hq⟩ := e3 i b hb2
      exact ⟨⟨(hnew _ b hq.2).1, (hnew _ b hq.2).2.1⟩, (hnew _ b hq.2).2.2⟩))
    (fun i j x y t t' k l l' h1 h2 h3 h4 h5 h6 h7 h8 => by
      obtain ⟨q1, l0, q2⟩ := hidx i x l h1 h3
      obtain ⟨q3, l1, q4⟩ := hidx j y l' h2 h4
      obtain ⟨⟨l2, hl2⟩, _⟩ := hrem i x t l0 q1 q2 h5
      obtain ⟨⟨l3, hl3⟩, _⟩ := hrem j y t' l1 q3 q4 h6
      have := hm.mem.tdis t t' l2 l3 k hl2 hl3 h7 h8
      subst this
      exact sep_at hsep i j _ _ x y t q2 q4 q1 q3 (.inl rfl) h5 h6)
    (fun i j x y t l l' h1 h2 h3 h4 h5 h6 => by
      obtain ⟨q1, l0, q2⟩ := hidx i x l h1 h3
      obtain ⟨q3, l1, q4⟩ := hidx j y l' h2 h4
      exact sep_at hsep i j _ _ x y t q2 q4 q1 q3 (.inl rfl) h5 h6)
    (fun q i x t k l h1 h3 h4 h5 h6 => by
      obtain ⟨q1, l0, q2⟩ := hidx i x l h1 h3
      obtain ⟨⟨l2, hl2⟩, hr⟩ := hrem i x t l0 q1 q2 h4
      obtain ⟨q', hq'⟩ := e3 q k h5
      by_cases hfi : fps i k
      · exact hfi
      · obtain ⟨p1, p2, _⟩ := hr k h6 hfi
        rcases (hnew _ k hq'.2).1 with h7 | ⟨j, h7⟩
        · omega
        · exact absurd h7 (p1 j))
    e4
  have hback : ∀ fp : Nat → Prop, (∀ b, fp b → (((w.heap.size ≤ b ∨ ∃ i, fps i b) ∧ b < w'.heap.size) ∧ ¬ S' b) ∧ ∀ q, ¬ fps1 q b) → Free w0 pb g3 (backX m (frzIf (viewsOf r bx') (goneT (m.wb bA) (tagsM (flsOf args bx) (tlsOf m ss ks))) (shownL (flsOf args bx) (tlsOf m ss ks))) (slotL ss) ex) w' fp := by
    intro fp hfp
    refine s2 fp (hfree2 fp (fun b hb2 => (hfp b hb2).1)) (fun k hk => ⟨fun i x t l h1 h3 h4 h5 => ?_, (hfp k hk).2⟩)
    obtain ⟨q1, l0, q2⟩ := hidx i x l h1 h3
    obtain ⟨_, hr⟩ := hrem i x t l0 q1 q2 h4
    obtain ⟨p1, p2, _⟩ := hr k h5.1 h5.2
    rcases (hfp k hk).1.1.1 with h7 | ⟨j, h7⟩
    · omega
    · exact p1 j h7
  have hbackF : ∀ i, i < r.fls.length ∨ r.fls.length + (lentO lent).length ≤ i → Free w0 pb g3 (backX m (frzIf (viewsOf r bx') (goneT (m.wb bA) (tagsM (flsOf args bx) (tlsOf m ss ks))) (shownL (flsOf args bx) (tlsOf m ss ks))) (slotL ss) ex) w' (fps' i) := by
    intro i hi
    refine hback _ (fun b hb2 => ⟨⟨⟨(hnew i b hb2).1, (hnew i b hb2).2.1⟩, (hnew i b hb2).2.2⟩, fun q hq => ?_⟩)
    obtain ⟨q', hq'⟩ := e3 q b hq
    have h1 := hbb.dis _ _ b hb2 hq'.2
    have h2 := hq'.1
    omega
  -- (7) the result and the variables
  rw [goneT_wb, frzIf_wb, backX_wb] at mF vF hbackF
  have hview : ∀ l u, (FL.v l ∈ r.fls ∨ FL.v l ∈ bx'.flatten) → Rep S' w' l u → Rep g3.S w' l u := by
    intro l u hmem hr
    cases l with
    | sc x => cases hr; exact .sc _ (by assumption)
    | ls xs =>
      have hV : viewsOf r bx' = true := by
        unfold viewsOf
        rw [Bool.or_eq_true]
        rcases hmem with h1 | h1
        · exact .inl (List.any_eq_true.2 ⟨_, h1, rfl⟩)
        · exact .inr (List.any_eq_true.2 ⟨_, h1, rfl⟩)
      rw [s1]
      exact hr.move (k3 hV) (fun _ _ => rfl)
  have hmvAll : Mv g m w g3 ((backX m (frzIf (viewsOf r bx') (goneT m (tagsM (flsOf args bx) (tlsOf m ss ks))) (shownL (flsOf args bx) (tlsOf m ss ks))) (slotL ss) ex).wb bA) w' := by
    rw [goneT_wb, frzIf_wb] at vE
    exact vE.trans vF
  have hbc0 : ∀ (M : Mem), M.box = m.box → ∀ k, k ∉ ks → bA k = M.box k := fun M hM k hk => by
    rw [hM]; exact if_neg hk
  have hMbox : (backX m (frzIf (viewsOf r bx') (goneT m (tagsM (flsOf args bx) (tlsOf m ss ks))) (shownL (flsOf args bx) (tlsOf m ss ks))) (slotL ss) ex).box = m.box := by
    have h1 : ∀ (xs : List TL) (ex : List (Option Leaf)) (M : Mem), (backX m M xs ex).box = M.box := by
      intro xs
      induction xs with
      | nil => intro ex M; cases ex <;> rfl
      | cons x xs ih =>
        intro ex M
        cases ex with
        | nil => rfl
        | cons lo ex =>
          simp only [backX]
          cases tagOf x with
          | none => exact ih ex M
          | some t => cases lo with
            | none => exact ih ex M
            | some l => exact ih ex _
    have h2 : ∀ (ts : List Nat) (M : Mem), (goneT M ts).box = M.box := by
      intro ts
      induction ts with
      | nil => intro M; rfl
      | cons t ts ih => intro M; exact ih _
    have h3 : ∀ (xs : List TL) (M : Mem), (frzL M xs).box = M.box := by
      intro xs
      induction xs with
      | nil => intro M; rfl
      | cons x xs ih =>
        intro M
        have h4 : ∀ t, (frzT M t).box = M.box := fun t => by unfold frzT; cases M.tag t <;> rfl
        cases x with
        | v l => exact ih M
        | nl => exact ih M
        | o t => exact (ih _).trans (h4 t)
        | s t i sz j ver => exact (ih _).trans (h4 t)
    rw [h1]
    cases viewsOf r bx' with
    | false => exact h2 _ _
    | true => exact (h3 _ _).trans (h2 _ _)
  generalize hM : backX m (frzIf (viewsOf r bx') (goneT m (tagsM (flsOf args bx) (tlsOf m ss ks))) (shownL (flsOf args bx) (tlsOf m ss ks))) (slotL ss) ex = M at hK mF hmvAll hbackF hMbox
  have boxes : ∀ {K' : Mem → Prop} {g4 : G} {M' : Mem}, bindB K' bx' ks M' → MF w0 pb g4 (M'.wb bA) w' → Mv g3 (M.wb bA) w' g4 (M'.wb bA) w' → M'.box = m.box → (∀ b, g3.S b → g4.S b) → (∀ i, r.fls.length + (lentO lent).length ≤ i → Free w0 pb g4 (M'.wb bA) w' (fps' i)) →
      ∃ g' m', K' m' ∧ MF w0 pb g' m' w' ∧ Mv g4 (M'.wb bA) w' g' m' w' := by
    intro K' g4 M' h1 h2 h3 h4 h5 h6
    refine bindB_sound bx' ks bs' (fun i => fps' (r.fls.length + (lentO lent).length + i)) h1 h2 (hbc0 M' h4) hbl' hnd (fun i k b' q1 q2 => ?_) (fun i l b' q1 q2 => hb.box.sz i l b' q1 q2) hne'
      (fun i l u q1 q2 => ?_) (fun i l u q1 q2 => hbb.own _ l u (hC i _ u q1 q2).1 (hC i _ u q1 q2).2) (fun i => h6 _ (Nat.le_add_right _ _)) (fun i j b q1 q2 => by have := hbb.dis _ _ b q1 q2; omega)
    · have hk := List.mem_of_getElem? q1
      obtain ⟨b2', p1, p2, p3, p4, p5⟩ := hbA k hk
      refine ⟨p5, ?_, (hb.box.at_ b' (List.mem_of_getElem? q2)).1⟩
      rw [hβb i k b' q1 q2, (h3.β k p5).2]
      exact (hmvAll.β k (hkne k hk)).2
    · have := hview l u (.inr (List.mem_of_getElem? q1)) (hbb.view _ l u (hC i _ u q1 q2).1 (hC i _ u q1 q2).2)
      exact this.move (fun b hb2 => h5 b hb2) (fun _ _ => rfl)
  unfold retG at hK
  split at hK
  · rename_i b ls
    have hsv : ShV b ls v rcs := by cases hb.sh; assumption
    obtain ⟨g4, n1, n2, n3, n4, n5⟩ := bind_sound ls rcs (fun i x => i < ls.length ∧ fps' i x) mF (shv_len hsv).symm
      (fun i l u q1 q2 => hview l u (.inl (List.mem_of_getElem? q1)) (hbb.view i l u (hA i _ u q1 q2).1 (hA i _ u q1 q2).2))
      (fun i l u q1 q2 => (hbb.own i l u (hA i _ u q1 q2).1 (hA i _ u q1 q2).2).move (fun x hx => ⟨(List.getElem?_eq_some_iff.1 q1).1, hx⟩) (fun _ _ => rfl))
      (fun i => ⟨fun x hx => (hbackF i (.inl hx.1)).S x hx.2, fun x k hx => (hbackF i (.inl hx.1)).box x k hx.2, fun x t l hx => (hbackF i (.inl hx.1)).tag x t l hx.2, fun x hx => (hbackF i (.inl hx.1)).pb x hx.2⟩) (fun i j x q1 q2 => hbb.dis i j x q1.2 q2.2)
    rw [bindM_wb] at n1 n2 n3 n5
    obtain ⟨g', m', r1, r2, r3⟩ := boxes hK n1 n2 ((bindM_box' _ _).trans hMbox) (fun x hx => by rw [n4]; exact hx) (fun i hi => n5 _ (hbackF i (.inr hi)) (fun j x q1 q2 => by
      have := hbb.dis _ _ x q1 q2.2
      have h1 : ls.length ≤ i := by
        have : (RS.val b ls).fls.length = ls.length := rfl
        omega
      omega))
    exact ⟨v, _, m', g', rfl, r1, (shv_vr hsv n3).mv r3, r2, hmvAll.trans (n2.trans r3)⟩
  · have hvv : v = .tuple #[] := by
      cases hb.sh with
      | tup h => cases h; rfl
    obtain ⟨g', m', r1, r2, r3⟩ := boxes hK mF (Mv.refl _ _ _) hMbox (fun x hx => hx) (fun i hi => hbackF i (.inr hi))
    refine ⟨v, _, m', g', rfl, r1, ⟨[], by rw [hvv], rfl, fun i b ls u h => by simp at h⟩, r2, hmvAll.trans r3⟩
  · exact hK.elim
end
end Go.Proofs.Ythhfhllfbnpcgaa.Co
