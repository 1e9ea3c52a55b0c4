/- From a function's text on plain data to the statement 'AC' on its calls, where data and variables are lent to it. -/
import Derived.Test.YthhfhllfbnpcgaaCoL
namespace Go.Proofs.Ythhfhllfbnpcgaa.Co
open Go
set_option linter.unusedSimpArgs false
set_option linter.unusedVariables false
def startTL (i : Nat) : FL → TL
  | .v l => .v l
  | .o _ => .o (i + 1)
def startL : Nat → List FL → List TL
  | _, [] => []
  | i, f :: r => startTL i f :: startL (i + 1) r
/-- A call's registers: what is shown, what is lent, pointers. -/
def startRO : List RS → Nat → Nat → Slot
  | .val b ls :: _, i, 0 => .val b (startL i ls)
  | .ptr k :: _, _, 0 => .ptr k 0
  | .clo f ks :: _, _, 0 => .clo f ks
  | r :: rs, i, t + 1 => startRO rs (i + r.fls.length) t
  | _, _, _ => .junk
def tagAt : Option FL → TG
  | some (.o l) => .live l
  | _ => .gone
def startBox : List (List FL) → Nat → Nat → List TL
  | l :: _, i, 0 => startL i l
  | l :: r, i, k + 1 => startBox r (i + l.length) k
  | [], _, _ => []
def startMO (args : List RS) (bx : List (List FL)) : Mem := { box := fun k => startBox bx (args.flatMap RS.fls).length k, tag := fun t => if t = 0 then .gone else tagAt ((flsOf args bx)[t - 1]?), nx := (flsOf args bx).length + bx.length + 1, ver := fun _ => 0 }
/-- Pointers lead to variables that are there; a variable is not empty. -/
def okArgs (n : Nat) : List RS → Bool
  | [] => true
  | .val _ _ :: r => okArgs n r
  | .ptr k :: r => decide (k < n) && okArgs n r
  | .clo _ ks :: r => ks.all (fun k => decide (k < n)) && okArgs n r
  | .tup _ :: _ => false
def liveO : TG → Option Leaf
  | .live l => some l
  | _ => none
/-- What lent data has become. -/
def lentAt : Nat → List FL → Mem → List (Option Leaf)
  | _, [], _ => []
  | i, .v _ :: r, m => lentAt (i + 1) r m
  | i, .o _ :: r, m => liveO (m.tag (i + 1)) :: lentAt (i + 1) r m
/-- What the variables have become. -/
def outX : List Nat → Mem → Option (List (List FL) × Mem)
  | [], m => some ([], m)
  | k :: ks, m => match outL (m.box k) m with
    | some (x, m1) => (outX ks m1).map fun p => (x :: p.1, p.2)
    | none => none
def finO (afls : List FL) (nb : Nat) (ys : List (Bool × List FL)) (m : Mem) (post : RS → List (Option Leaf) → List (List FL) → Prop) : Prop := match outX (List.range nb) m with
  | some (bx, m1) => post (mkRS ys) (lentAt 0 afls m1) bx
  | none => False
def retQO (P : Program) (rs : List ResultVar) (afls : List FL) (nb : Nat) (post : RS → List (Option Leaf) → List (List FL) → Prop) : Exit → Reg → Mem → Prop
  | .normal, r, m => match resAll P rs r m with
    | some xs => match outT xs m with
      | some (ys, m') => finO afls nb ys m' post
      | none => False
    | none => False
  | .ret, r, m => match resAll P rs r m with
    | some xs => match outT xs m with
      | some (ys, m') => finO afls nb ys m' post
      | none => False
    | none => False
  | _, _, _ => False
section
variable {P : Program} {w0 : World} {pb : Fence} {g : G} {m : Mem} {w w' : World}
theorem startL_length : ∀ (ls : List FL) (i : Nat), (startL i ls).length = ls.length
  | [], _ => rfl
  | _ :: r, i => congrArg (· + 1) (startL_length r (i + 1))
theorem startL_get : ∀ (ls : List FL) (i j : Nat), (startL i ls)[j]? = (ls[j]?).map (startTL (i + j))
  | [], _, j => by simp [startL]
  | f :: r, i, 0 => by simp [startL]
  | f :: r, i, j + 1 => by
    simp only [startL, List.getElem?_cons_succ]
    rw [startL_get r (i + 1) j, show i + 1 + j = i + (j + 1) by omega]
theorem Bun.cat {S : Nat → Prop} {a b : List FL} {c d : List Value} {f h : Nat → Nat → Prop} (k : Bun S w a c f) (k' : Bun S w b d h) (hx : ∀ i j x, f i x → ¬ h j x) : Bun S w (a ++ b) (c ++ d) (fun i x => if i < a.length then f i x else h (i - a.length) x) := by
  have hl := k.len
  refine ⟨by simp [k.len, k'.len], fun i l u h1 h2 => ?_, fun i l u h1 h2 => ?_, fun i x h1 => ?_, fun i j x h1 h2 => ?_⟩
  · rcases Nat.lt_or_ge i a.length with hi | hi
    · rw [List.getElem?_append_left hi] at h1
      rw [List.getElem?_append_left (by omega)] at h2
      exact k.view i l u h1 h2
    · rw [List.getElem?_append_right hi] at h1
      rw [List.getElem?_append_right (by omega), ← hl] at h2
      exact k'.view _ l u h1 h2
  · rcases Nat.lt_or_ge i a.length with hi | hi
    · rw [List.getElem?_append_left hi] at h1
      rw [List.getElem?_append_left (by omega)] at h2
      refine (k.own i l u h1 h2).move (fun x hx => ?_) (fun _ _ => rfl)
      rw [if_pos hi]; exact hx
    · rw [List.getElem?_append_right hi] at h1
      rw [List.getElem?_append_right (by omega), ← hl] at h2
      refine (k'.own _ l u h1 h2).move (fun x hx => ?_) (fun _ _ => rfl)
      rw [if_neg (by omega)]; exact hx
  · split at h1
    · exact k.sub i x h1
    · exact k'.sub _ x h1
  · split at h1 <;> split at h2
    · exact k.dis i j x h1 h2
    · exact absurd h2 (hx _ _ x h1)
    · exact absurd h1 (hx _ _ x h2)
    · have := k'.dis _ _ x h1 h2
      omega
theorem outed_bun {m1 m' : Mem} {fls : List FL} {cs : List Value} {fps : Nat → Nat → Prop} (hm : MemR g m w) (h1 : ∀ t, m1.tag t = m.tag t ∨ m1.tag t = .gone) (h : Outed g m1 w fls cs m' fps) : Bun g.S w fls cs fps := by
  refine ⟨h.len, h.view, h.own, fun i b hb => ?_, h.dis⟩
  obtain ⟨t, l, k1, k2, k3⟩ := h.src i b hb
  have ht : m.tag t = .live l := by
    rcases h1 t with h2 | h2
    · rw [← h2]; exact k1
    · rw [k1] at h2; cases h2
  exact hm.tS t l b ht k3
/-- What lent data has become, told on. -/
theorem lentAt_sound (hm : MemR g m w) {m1 : Mem} (h1 : ∀ t, m1.tag t = m.tag t ∨ m1.tag t = .gone) : ∀ (fls : List FL) (cs : List Value) (i : Nat), fls.length = cs.length → (∀ (j : Nat) l u, fls[j]? = some (FL.o l) → cs[j]? = some u → g.va (i + j + 1) = u) →
    (lentAt i fls m1).length = ownN fls ∧ ∃ fpL, Bun g.S w (lentO (lentAt i fls m1)) (lentV (lentAt i fls m1) (ownV fls cs)) fpL ∧ ∀ q b, fpL q b → ∃ t l, i < t ∧ m1.tag t = .live l ∧ g.fp t b
  | [], cs, i, h, _ => by
    refine ⟨rfl, fun _ _ => False, ⟨?_, fun i l u h => by simp [lentAt, lentO] at h, fun i l u h => by simp [lentAt, lentO] at h, fun _ _ h => h.elim, fun _ _ _ h => h.elim⟩, fun _ _ h => h.elim⟩
    simp [lentAt, lentO, lentV]
  | _ :: _, [], _, h, _ => by simp at h
  | .v l :: fls, c :: cs, i, h, hv => by
    obtain ⟨k1, fpL, k2, k3⟩ := lentAt_sound hm h1 fls cs (i + 1) (by simpa using h) (fun j l u a b => by have := hv (j + 1) l u (by simpa using a) (by simpa using b); rw [← this]; congr 1; omega)
    exact ⟨k1, fpL, k2, fun q b hb => by obtain ⟨t, l, p1, p2⟩ := k3 q b hb; exact ⟨t, l, by omega, p2⟩⟩
  | .o l :: fls, c :: cs, i, h, hv => by
    obtain ⟨k1, fpL, k2, k3⟩ := lentAt_sound hm h1 fls cs (i + 1) (by simpa using h) (fun j l u a b => by have := hv (j + 1) l u (by simpa using a) (by simpa using b); rw [← this]; congr 1; omega)
    have hva : g.va (i + 1) = c := hv 0 l c rfl rfl
    cases ht : m1.tag (i + 1) with
    | live l' =>
      have ht0 : m.tag (i + 1) = .live l' := by
        rcases h1 (i + 1) with h2 | h2
        · rw [← h2]; exact ht
        · rw [ht] at h2; cases h2
      have e : lentAt i (.o l :: fls) m1 = some l' :: lentAt (i + 1) fls m1 := by simp [lentAt, ht, liveO]
      rw [e]
      refine ⟨by simp [ownN, k1], fun q => match q with | 0 => g.fp (i + 1) | q + 1 => fpL q, ⟨?_, fun q l u a b => ?_, fun q l u a b => ?_, fun q b hb => ?_, fun q q' b a a' => ?_⟩, fun q b hb => ?_⟩
      · simpa [lentO, lentV, ownV] using k2.len
      · cases q with
        | zero => injection a with a; cases a
        | succ q => exact k2.view q l u (by simpa [lentO] using a) (by simpa [lentV, ownV] using b)
      · cases q with
        | zero =>
          injection a with a; injection a with a
          injection b with b
          subst a; subst b
          rw [← hva]
          exact (hm.tags _ _ ht0).2
        | succ q => exact k2.own q l u (by simpa [lentO] using a) (by simpa [lentV, ownV] using b)
      · cases q with
        | zero => exact hm.tS _ _ b ht0 hb
        | succ q => exact k2.sub q b hb
      · have cross : ∀ q, fpL q b → g.fp (i + 1) b → False := fun q p1 p2 => by
          obtain ⟨t, l2, r1, r2, r3⟩ := k3 q b p1
          have : m.tag t = .live l2 := by
            rcases h1 t with h2 | h2
            · rw [← h2]; exact r2
            · rw [r2] at h2; cases h2
          have := hm.tdis _ _ _ _ b ht0 this p2 r3
          omega
        cases q with
        | zero => cases q' with
          | zero => rfl
          | succ q' => exact (cross q' a' a).elim
        | succ q => cases q' with
          | zero => exact (cross q a a').elim
          | succ q' => rw [k2.dis q q' b a a']
      · cases q with
        | zero => exact ⟨i + 1, l', Nat.lt_succ_self _, ht, hb⟩
        | succ q => obtain ⟨t, l, p1, p2⟩ := k3 q b hb; exact ⟨t, l, by omega, p2⟩
    | frz l' =>
      have e : lentAt i (.o l :: fls) m1 = none :: lentAt (i + 1) fls m1 := by simp [lentAt, ht, liveO]
      rw [e]
      exact ⟨by simp [ownN, k1], fpL, by simpa [lentO, lentV, ownV] using k2, fun q b hb => by obtain ⟨t, l, p1, p2⟩ := k3 q b hb; exact ⟨t, l, by omega, p2⟩⟩
    | gone =>
      have e : lentAt i (.o l :: fls) m1 = none :: lentAt (i + 1) fls m1 := by simp [lentAt, ht, liveO]
      rw [e]
      exact ⟨by simp [ownN, k1], fpL, by simpa [lentO, lentV, ownV] using k2, fun q b hb => by obtain ⟨t, l, p1, p2⟩ := k3 q b hb; exact ⟨t, l, by omega, p2⟩⟩
/-- What the variables have become, told on. -/
theorem outX_sound (hm : MemR g m w) : ∀ (ks : List Nat) {m1 m' : Mem} {bx : List (List FL)}, outX ks m1 = some (bx, m') → (∀ t, m1.tag t = m.tag t ∨ m1.tag t = .gone) → m1.box = m.box → (∀ k ∈ ks, m.box k ≠ []) →
    ∃ (bs : List BX) (fps : Nat → Nat → Prop), bs.length = ks.length ∧ bx.length = ks.length ∧ (∀ (i : Nat) k b, ks[i]? = some k → bs[i]? = some b → b.g = g.β k ∧ w.heap[b.g]? = some (.cells b.cs.toArray b.ty (0, 0))) ∧ (∀ (i : Nat) l b, bx[i]? = some l → bs[i]? = some b → l.length = b.cs.length) ∧
      Outed g m1 w bx.flatten (bs.flatMap BX.cs) m' fps
  | [], m1, m', bx, h, h1, hb, _ => by
    injection h with h; injection h with h2 h3; subst h2; subst h3
    exact ⟨[], fun _ _ => False, rfl, rfl, (fun i k b h => by simp at h), (fun i l b h => by simp at h), rfl, (fun i l u h => by simp at h), (fun i l u h => by simp at h), fun _ _ h => h.elim, fun _ _ _ h => h.elim, fun _ => .inl rfl, rfl⟩
  | k :: ks, m1, m', bx, h, h1, hb, hne => by
    simp only [outX] at h
    split at h
    · rename_i x m2 hx
      obtain ⟨p, hp, he⟩ := Option.map_eq_some_iff.1 h
      injection he with he1 he2
      subst he1; subst he2
      obtain ⟨_, cs, ty, j1, j2⟩ := hm.boxes k (hne k (by simp))
      rw [hb] at hx
      obtain ⟨fps1, k1⟩ := out_sound hm.tdis (fun t l ht => (hm.tags t l ht).2) (fun t l ht => (hm.frz t l ht).2) (m.box k) cs hx h1 hb j2
      have htags : ∀ t, m2.tag t = m.tag t ∨ m2.tag t = .gone := fun t => by
        rcases k1.tags t with h2 | h2
        · rw [h2]; exact h1 t
        · exact .inr h2
      obtain ⟨bs, fps2, q1, q2, q3, q4, q5⟩ := outX_sound hm ks hp htags (k1.box.trans hb) (fun j hj => hne j (by simp [hj]))
      have hm0 : ∀ t l, m1.tag t = .live l → m.tag t = .live l := fun t l a => by
        rcases h1 t with h2 | h2
        · rw [← h2]; exact a
        · rw [a] at h2; cases h2
      have hlx : x.length = cs.length := k1.len
      refine ⟨⟨g.β k, cs, ty⟩ :: bs, fun i b => if i < x.length then fps1 i b else fps2 (i - x.length) b, by simp [q1], by simp [q2], fun i k' b a c => ?_, fun i l b a c => ?_, ?_, fun i l u a c => ?_, fun i l u a c => ?_, fun i b a => ?_, fun i j b a a' => ?_, fun t => ?_, q5.box.trans k1.box⟩
      · cases i with
        | zero => injection a with a; injection c with c; subst a; subst c; exact ⟨rfl, j1⟩
        | succ i => exact q3 i k' b (by simpa using a) (by simpa using c)
      · cases i with
        | zero => injection a with a; injection c with c; subst a; subst c; exact hlx
        | succ i => exact q4 i l b (by simpa using a) (by simpa using c)
      · simp only [List.flatten_cons, List.flatMap_cons, List.length_append, hlx, q5.len]
      · simp only [List.flatten_cons] at a
        simp only [List.flatMap_cons] at c
        rcases Nat.lt_or_ge i x.length with hi | hi
        · rw [List.getElem?_append_left hi] at a
          rw [List.getElem?_append_left (by omega)] at c
          exact k1.view i l u a c
        · rw [List.getElem?_append_right hi] at a
          rw [List.getElem?_append_right (by omega), ← hlx] at c
          exact q5.view _ l u a c
      · simp only [List.flatten_cons] at a
        simp only [List.flatMap_cons] at c
        rcases Nat.lt_or_ge i x.length with hi | hi
        · rw [List.getElem?_append_left hi] at a
          rw [List.getElem?_append_left (by omega)] at c
          simp only [hi, if_true]
          exact k1.own i l u a c
        · rw [List.getElem?_append_right hi] at a
          rw [List.getElem?_append_right (by omega), ← hlx] at c
          simp only [Nat.not_lt.2 hi, if_false]
          exact q5.own _ l u a c
      · split at a
        · obtain ⟨t, l, b1, b2, b3⟩ := k1.src i b a
          refine ⟨t, l, b1, ?_, b3⟩
          rcases q5.tags t with h2 | h2
          · rw [h2]; exact b2
          · exact h2
        · obtain ⟨t, l, b1, b2, b3⟩ := q5.src _ b a
          refine ⟨t, l, ?_, b2, b3⟩
          rcases k1.tags t with h2 | h2
          · rw [← h2]; exact b1
          · rw [b1] at h2; cases h2
      · have cross : ∀ i1 i2, fps1 i1 b → ¬ fps2 i2 b := by
          intro i1 i2 a1 a2
          obtain ⟨t, l, b1, b2, b3⟩ := k1.src i1 b a1
          obtain ⟨t', l', c1, c2, c3⟩ := q5.src i2 b a2
          have hc1 : m1.tag t' = .live l' := by
            rcases k1.tags t' with h2 | h2
            · rw [← h2]; exact c1
            · rw [c1] at h2; cases h2
          have := hm.tdis t t' l l' b (hm0 t l b1) (hm0 t' l' hc1) b3 c3
          subst this
          rw [b2] at c1; cases c1
        split at a <;> split at a'
        · exact k1.dis i j b a a'
        · exact absurd a' (cross _ _ a)
        · exact absurd a (cross _ _ a')
        · have := q5.dis _ _ b a a'
          omega
      · rcases q5.tags t with h2 | h2
        · rcases k1.tags t with h3 | h3
          · exact .inl (h2.trans h3)
          · exact .inr (h2.trans h3)
        · exact .inr h2
    · cases h
end
end Go.Proofs.Ythhfhllfbnpcgaa.Co
