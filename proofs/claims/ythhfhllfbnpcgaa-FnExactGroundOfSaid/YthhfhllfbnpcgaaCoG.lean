/- The seventh part of the theory: the operations that make, write and append, on plain data. -/
import Derived.Test.YthhfhllfbnpcgaaCoF
import Derived.Laws.MakeOwn
namespace Go.Proofs.Ythhfhllfbnpcgaa.Co
open Go
set_option linter.unusedSimpArgs false
set_option linter.unusedVariables false

/-- Cells handed over for good: what is left of memory's lists. -/
def takeL : List TL → Mem → Option (List Leaf × Mem)
  | [], m => some ([], m)
  | .v (.sc v) :: r, m => (takeL r m).map fun p => (.sc v :: p.1, p.2)
  | .nl :: r, m => (takeL r m).map fun p => (.ls [] :: p.1, p.2)
  | .o t :: r, m => match m.tag t with
    | .live l => (takeL r (m.setTag t .gone)).map fun p => (l :: p.1, p.2)
    | _ => none
  | _ :: _, _ => none
/-- A list of one's own is only read from now on. -/
def frzT (m : Mem) (t : Nat) : Mem := match m.tag t with
  | .live l => m.setTag t (.frz l)
  | _ => m
/-- Cells shown to others, who may go on to see them. -/
def viewL : List TL → Mem → Option (List Leaf × Mem)
  | [], m => some ([], m)
  | .v l :: r, m => (viewL r m).map fun p => (l :: p.1, p.2)
  | .nl :: r, m => (viewL r m).map fun p => (.ls [] :: p.1, p.2)
  | .o t :: r, m => match m.leaf (.o t) with
    | some l => (viewL r (frzT m t)).map fun p => (l :: p.1, p.2)
    | none => none
  | .s t i sz j ver :: r, m => match m.leaf (.s t i sz j ver) with
    | some l => (viewL r (frzT m t)).map fun p => (l :: p.1, p.2)
    | none => none
def chunk {α : Type} (n sz : Nat) (l : List α) : List (List α) := (List.range n).map fun i => (l.drop (i * sz)).take sz
def repL (n : Nat) (z : List TL) : List TL := (List.range (n * z.length)).map fun k => z.getD (k % z.length) .nl
def TL.zl : TL → Leaf
  | .v l => l
  | _ => .ls []
def TG.isLive : TG → Bool
  | .live _ => true
  | _ => false
def storeX (P : Program) (md : Md) (t : TypeId) (a x : Slot) (m : Mem) (K : Slot → Mem → Prop) : Prop := match a, x with
  | .ptr k off, .val _ ls => (szOf P t = some ls.length ∧ off + ls.length ≤ (m.box k).length ∧ (m.box k).isEmpty = false) ∧ K .junk (m.setBox k ((m.box k).take off ++ ls ++ (m.box k).drop (off + ls.length)))
  | .ep g i sz off, .val _ ls => md = .seq ∧ match m.tag g with
    | .live (.ls xs) => (i < xs.length ∧ (rowAt xs i).length = sz ∧ off + ls.length ≤ sz ∧ szOf P t = some ls.length) ∧ match takeL ls m with
      | some (new, m') => (m'.tag g).isLive = true ∧ K .junk ((m'.setTag g (.live (.ls (xs.set i ((rowAt xs i).take off ++ new ++ (rowAt xs i).drop (off + ls.length)))))).bump g)
      | none => False
    | _ => False
  | _, _ => False
def buildX (P : Program) (t : TypeId) (n : Nat) (parts : List (Nat × Slot)) (m : Mem) (K : Slot → Mem → Prop) : Prop := match elOf P t with
  | some e => match szOf P e, zeroOf P e with
    | some sz, some z => (z.length = sz ∧ 0 < sz ∧ n * sz ≤ 16777216) ∧ match fillL (fun i => some (i * sz, sz)) (repL n z) parts with
      | some flat => match takeL flat m with
        | some (ls, m') => K (.val false [.o m'.nx]) (m'.newTag (.ls (chunk n sz ls)))
        | none => match viewL flat m with
          | some (ls, m') => K (.val false [.v (.ls (chunk n sz ls))]) m'
          | none => False
      | none => False
    | _, _ => False
  | none => False
def makeX (P : Program) (t : TypeId) (l c : Slot) (m : Mem) (K : Slot → Mem → Prop) : Prop := match elOf P t, l, c with
  | some e, .val false [.v (.sc (.int _ n))], .val false [.v (.sc (.int _ n'))] => match szOf P e, bytesOf P e, zeroOf P e with
    | some sz, some by_, some z => (z.length = sz ∧ 0 < sz ∧ n' = n ∧ 0 ≤ n ∧ (by_ : Int) * n ≤ 281474976710656 ∧ n ≤ 9223372036854775807) ∧ K (.val false [.o m.nx]) (m.newTag (.ls (List.replicate n.toNat (z.map TL.zl))))
    | _, _, _ => False
  | _, _, _ => False
def appendX (P : Program) (t : TypeId) (s x : Slot) (m : Mem) (K : Slot → Mem → Prop) : Prop := match elOf P t, s, x with
  | some e, .val false [ts], .val false [tx] => match szOf P e, bytesOf P e, zeroOf P e, takeL [ts] m with
    | some sz, some by_, some z, some ([.ls xs], m1) => (z.length = sz ∧ 0 < sz ∧ 0 < by_ ∧ ∀ row ∈ xs, row.length = sz) ∧ match tx with
      | .v (.ls ys) => ((∀ row ∈ ys, row.length = sz) ∧ (∀ row ∈ ys, row.all Leaf.isSc = true) ∧ (xs.length + ys.length) * by_ ≤ 140737488355328) ∧ K (.val false [.o m1.nx]) (m1.newTag (.ls (xs ++ ys)))
      | tx => match takeL [tx] m1 with
        | some ([.ls ys], m2) => ((∀ row ∈ ys, row.length = sz) ∧ (xs.length + ys.length) * by_ ≤ 140737488355328) ∧ K (.val false [.o m2.nx]) (m2.newTag (.ls (xs ++ ys)))
        | _ => False
    | _, _, _, _ => False
  | _, _, _ => False
def eoX (P : Program) (md : Md) (op : Op) (ρ : Operand → Slot) (m : Mem) (K : Slot → Mem → Prop) : Prop := match op with
  | .alloc t => match zeroOf P t with
    | some ls => ls.isEmpty = false ∧ K (.ptr m.nx 0) (m.newBox ls)
    | none => False
  | .box t x => match ρ x with
    | .val _ ls => (szOf P t = some ls.length ∧ ls.isEmpty = false) ∧ K (.ptr m.nx 0) (m.newBox ls)
    | _ => False
  | .store t a x => storeX P md t (ρ a) (ρ x) m K
  | .buildSlice t n parts => buildX P t n (parts.toList.map fun p => (p.1, ρ p.2)) m K
  | .makeSlice t l c => makeX P t (ρ l) (ρ c) m K
  | .call c => match c.callee, c.args.toList, c.argTypes.toList with
    | .builtin .append, [s, x], [t, t'] => t' = t ∧ appendX P t (ρ s) (ρ x) m K
    | _, _, _ => False
  | _ => False

/-- Blocks that nothing in memory leads to. -/
structure Free (w0 : World) (pb : Fence) (g : G) (m : Mem) (w : World) (fp : Nat → Prop) : Prop where
  S : ∀ b, fp b → ¬ g.S b ∧ b < w.heap.size
  box : ∀ b k, fp b → m.box k ≠ [] → g.β k ≠ b
  tag : ∀ b t l, fp b → m.tag t = .live l → ¬ g.fp t b
  pb : ∀ b, fp b → w0.heap.size ≤ b ∨ pb.w b
theorem Free.none (w0 : World) (pb : Fence) (g : G) (m : Mem) (w : World) : Free w0 pb g m w (fun _ => False) := ⟨fun _ h => h.elim, fun _ _ h => h.elim, fun _ _ _ h => h.elim, fun _ h => h.elim⟩
section
variable {P : Program} {w0 : World} {pb : Fence} {g : G} {m : Mem} {w w' : World}
theorem MF.own' (h : MF w0 pb g m w) {l : Leaf} {v : Value} {fp : Nat → Prop} (ho : Own w l v fp) (hf : Free w0 pb g m w fp) :
    ∃ g', MF w0 pb g' (m.newTag l) w ∧ Mv g m w g' (m.newTag l) w ∧ SR g' (m.newTag l) w (.val false [.o m.nx]) v ∧ g'.S = g.S ∧ g'.β = g.β ∧ g'.fp m.nx = fp ∧ ∀ t, t ≠ m.nx → g'.fp t = g.fp t := h.own ho hf.S hf.box hf.tag hf.pb

theorem TRs.tail {x : TL} {ls : List TL} {c : Value} {cs : List Value} (h : TRs g m w (x :: ls) (c :: cs)) : TRs g m w ls cs :=
  ⟨by simpa using h.len, fun i y u h1 h2 => h.at_ (i + 1) y u (by simpa using h1) (by simpa using h2)⟩
/-- What 'takeL' took. -/
structure Took (w0 : World) (pb : Fence) (g : G) (m : Mem) (w : World) (cs : List Value) (ls' : List Leaf) (m' : Mem) (fps : Nat → Nat → Prop) : Prop where
  mf : MF w0 pb g m' w
  mv : Mv g m w g m' w
  box : m'.box = m.box
  nx : m'.nx = m.nx
  len : ls'.length = cs.length
  tags : ∀ t, m'.tag t = m.tag t ∨ m'.tag t = .gone
  own : ∀ (i : Nat) (l : Leaf) (u : Value), ls'[i]? = some l → cs[i]? = some u → Own w l u (fps i)
  free : ∀ i, Free w0 pb g m' w (fps i)
  dis : ∀ i j b, fps i b → fps j b → i = j
  src : ∀ i b, fps i b → ∃ t l, m.tag t = .live l ∧ g.fp t b
theorem take_sound : ∀ (ls : List TL) (cs : List Value) {m m' : Mem} {ls' : List Leaf}, takeL ls m = some (ls', m') → MF w0 pb g m w → TRs g m w ls cs → ∃ fps, Took w0 pb g m w cs ls' m' fps
  | [], cs, m, m', ls', h, hm, hl => by
    injection h with h; injection h with h1 h2; subst h1; subst h2
    have hl0 := hl.len
    exact ⟨fun _ _ => False, hm, Mv.refl _ _ _, rfl, rfl, by simpa using hl0, fun _ => .inl rfl, fun i l u h => by simp at h, fun _ => Free.none _ _ _ _ _, fun _ _ _ h => h.elim, fun _ _ h => h.elim⟩
  | x :: r, [], m, m', ls', h, hm, hl => by have := hl.len; simp at this
  | x :: r, c :: cs, m, m', ls', h, hm, hl => by
    -- a cell that owns nothing
    have plain : ∀ l, (takeL r m).map (fun p => (l :: p.1, p.2)) = some (ls', m') → (∀ fp, Own w l c fp) → ∃ fps, Took w0 pb g m w (c :: cs) ls' m' fps := by
      intro l h1 ho
      obtain ⟨p, hp, he⟩ := Option.map_eq_some_iff.1 h1
      injection he with he1 he2
      subst he1; subst he2
      obtain ⟨fps, k⟩ := take_sound r cs hp hm hl.tail
      refine ⟨fun i => match i with | 0 => fun _ => False | i + 1 => fps i, k.mf, k.mv, k.box, k.nx, by simpa using k.len, k.tags, fun i l' u h1 h2 => ?_, fun i => ?_, fun i j b h1 h2 => ?_, fun i b h1 => ?_⟩
      · cases i with
        | zero => injection h1 with h1; injection h2 with h2; subst h1; subst h2; exact ho _
        | succ i => exact k.own i l' u (by simpa using h1) (by simpa using h2)
      · cases i with
        | zero => exact Free.none _ _ _ _ _
        | succ i => exact k.free i
      · cases i with
        | zero => exact h1.elim
        | succ i => cases j with
          | zero => exact h2.elim
          | succ j => rw [k.dis i j b h1 h2]
      · cases i with
        | zero => exact h1.elim
        | succ i => exact k.src i b h1
    have hx := hl.at_ 0 x c rfl rfl
    cases x with
    | v l =>
      cases l with
      | sc v => exact plain _ h (fun fp => by cases hx; exact .sc _ fp (by assumption))
      | ls xs => cases h
    | nl => exact plain _ h (fun fp => by cases hx; exact .nil fp)
    | s => cases h
    | o t =>
      simp only [takeL] at h
      split at h
      · rename_i l ht
        obtain ⟨p, hp, he⟩ := Option.map_eq_some_iff.1 h
        injection he with he1 he2
        subst he1; subst he2
        obtain ⟨hk, hv⟩ := hm.kill t
        obtain ⟨fps, k⟩ := take_sound r cs hp hk (hl.tail.mv hv)
        obtain ⟨_, rfl, _⟩ := hx
        have ho := (hm.mem.tags t l ht).2
        have hlive : ∀ t' l', p.2.tag t' = .live l' → m.tag t' = .live l' ∧ t' ≠ t := by
          intro t' l' h1
          rcases k.tags t' with h2 | h2
          · rw [h2, setTag_tag] at h1
            split at h1
            · cases h1
            · rename_i hne; exact ⟨h1, hne⟩
          · rw [h2] at h1; cases h1
        have hfree : Free w0 pb g p.2 w (g.fp t) := ⟨fun b hb => hm.mem.tS t l b ht hb, fun b j hb hj => by
            rw [k.box] at hj
            exact fun e => hm.mem.bfp j t l hj ht (e ▸ hb), fun b t' l' hb h1 h2 => (hlive t' l' h1).2 (hm.mem.tdis t' t l' l b (hlive t' l' h1).1 ht h2 hb), fun b hb => hm.tpb t l ht b hb⟩
        -- what comes later is none of this one's
        have hno : ∀ i b, fps i b → ¬ g.fp t b := by
          intro i b h1 h2
          obtain ⟨t', l', h3, h4⟩ := k.src i b h1
          rw [setTag_tag] at h3
          split at h3
          · cases h3
          · rename_i hne; exact hne (hm.mem.tdis t' t l' l b h3 ht h4 h2)
        refine ⟨fun i => match i with | 0 => g.fp t | i + 1 => fps i, k.mf, hv.trans k.mv, k.box, k.nx, by simpa using k.len, fun t' => ?_, fun i l' u h1 h2 => ?_, fun i => ?_, fun i j b h1 h2 => ?_, fun i b h1 => ?_⟩
        · rcases k.tags t' with h1 | h1
          · rw [h1, setTag_tag]; split
            · exact .inr rfl
            · exact .inl rfl
          · exact .inr h1
        · cases i with
          | zero => injection h1 with h1; injection h2 with h2; subst h1; subst h2; exact ho
          | succ i => exact k.own i l' u (by simpa using h1) (by simpa using h2)
        · cases i with
          | zero => exact hfree
          | succ i => exact k.free i
        · cases i with
          | zero => cases j with
            | zero => rfl
            | succ j => exact absurd h1 (hno j b h2)
          | succ i => cases j with
            | zero => exact absurd h2 (hno i b h1)
            | succ j => rw [k.dis i j b h1 h2]
        · cases i with
          | zero => exact ⟨t, l, ht, h1⟩
          | succ i =>
            obtain ⟨t', l', h3, h4⟩ := k.src i b h1
            rw [setTag_tag] at h3
            split at h3
            · cases h3
            · exact ⟨t', l', h3, h4⟩
      · cases h

theorem frz_sound (hm : MF w0 pb g m w) (t : Nat) : ∃ g', MF w0 pb g' (frzT m t) w ∧ Mv g m w g' (frzT m t) w ∧ (∀ b, g.S b → g'.S b) ∧ (∀ l b, m.tag t = .live l → g.fp t b → g'.S b) ∧ g'.fp = g.fp := by
  unfold frzT
  split
  · rename_i l hl
    obtain ⟨h1, h2⟩ := hm.freeze t l hl
    exact ⟨_, h1, h2, fun b hb => .inl hb, fun l' b _ hb => .inr hb, rfl⟩
  · rename_i hne
    exact ⟨g, hm, Mv.refl _ _ _, fun _ h => h, fun l b h => absurd h (hne l), rfl⟩
/-- A cell that says a list is seen by others. -/
theorem leaf_rep (hm : MF w0 pb g m w) {x : TL} {u : Value} {l : Leaf} (hx : TR g m w x u) (h : m.leaf x = some l) {S : Nat → Prop} (hS : ∀ b, g.S b → S b)
    (hT : ∀ t l b, (x = .o t ∨ ∃ i sz j ver, x = .s t i sz j ver) → m.tag t = .live l → g.fp t b → S b) : Rep S w l u := by
  cases x with
  | v l0 => injection h with h; subst h; exact Rep.move hx hS (fun _ _ => rfl)
  | nl => injection h with h; subst h; subst hx; exact .nl none 0 (Nat.zero_le _)
  | o t =>
    obtain ⟨_, rfl, _⟩ := hx
    simp only [Mem.leaf] at h
    cases hg : m.tag t <;> rw [hg] at h <;> simp only [TG.cont] at h
    · injection h with h; subst h; exact (hm.mem.tags t _ hg).2.rep (fun b hb => hT t _ b (.inl rfl) hg hb)
    · injection h with h; subst h; exact (hm.mem.frz t _ hg).2.move hS (fun _ _ => rfl)
    · cases h
  | s t i sz j ver =>
    obtain ⟨h1, h2, h3, b, n, c, h4, h5⟩ := hx
    simp only [Mem.leaf] at h
    split at h
    · rename_i hver
      split at h
      · rename_i xs0 hys
        split at h
        · rename_i hi
          have h9 := h5 hver xs0 hys hi.1
          cases hg : m.tag t <;> rw [hg] at hys <;> simp only [TG.cont] at hys
          · injection hys with hys; subst hys
            have ho := (hm.mem.tags t _ hg).2
            rw [h4] at ho
            have hr := ho.rep (S := S) (fun b hb => hT t _ b (.inr ⟨_, _, _, _, rfl⟩) hg hb)
            obtain ⟨_, rfl, cs, h6, h7, h8⟩ := rep_row hr hi.1
            have hj : j < cs.length := by rw [h6]; exact (List.getElem?_eq_some_iff.1 h).1
            have h10 := h7 j cs[j] (List.getElem?_eq_getElem hj)
            rw [hi.2, Nat.zero_add, h9] at h10
            injection h10 with h10
            rw [h10]
            exact h8 j _ _ h (List.getElem?_eq_getElem hj)
          · injection hys with hys; subst hys
            have hr := (hm.mem.frz t _ hg).2
            rw [h4] at hr
            obtain ⟨_, rfl, cs, h6, h7, h8⟩ := rep_row hr hi.1
            have hj : j < cs.length := by rw [h6]; exact (List.getElem?_eq_some_iff.1 h).1
            have h10 := h7 j cs[j] (List.getElem?_eq_getElem hj)
            rw [hi.2, Nat.zero_add, h9] at h10
            injection h10 with h10
            rw [h10]
            exact (h8 j _ _ h (List.getElem?_eq_getElem hj)).move hS (fun _ _ => rfl)
          · cases hys
        · cases h
      · cases h
    · cases h
theorem view_sound : ∀ (ls : List TL) (cs : List Value) {g : G} {m m' : Mem} {ls' : List Leaf}, viewL ls m = some (ls', m') → MF w0 pb g m w → TRs g m w ls cs →
    ∃ g', MF w0 pb g' m' w ∧ Mv g m w g' m' w ∧ ls'.length = cs.length ∧ ∀ (i : Nat) (l : Leaf) (u : Value), ls'[i]? = some l → cs[i]? = some u → Rep g'.S w l u
  | [], cs, g, m, m', ls', h, hm, hl => by
    injection h with h; injection h with h1 h2; subst h1; subst h2
    have hl0 := hl.len
    exact ⟨g, hm, Mv.refl _ _ _, by simpa using hl0, fun i l u h => by simp at h⟩
  | x :: r, [], g, m, m', ls', h, hm, hl => by have := hl.len; simp at this
  | x :: r, c :: cs, g, m, m', ls', h, hm, hl => by
    have hx := hl.at_ 0 x c rfl rfl
    have step : ∀ (g1 : G) (m1 : Mem) (l : Leaf), (viewL r m1).map (fun p => (l :: p.1, p.2)) = some (ls', m') → MF w0 pb g1 m1 w → Mv g m w g1 m1 w → Rep g1.S w l c →
        ∃ g', MF w0 pb g' m' w ∧ Mv g m w g' m' w ∧ ls'.length = (c :: cs).length ∧ ∀ (i : Nat) (l : Leaf) (u : Value), ls'[i]? = some l → (c :: cs)[i]? = some u → Rep g'.S w l u := by
      intro g1 m1 l h1 hm1 hv hr
      obtain ⟨p, hp, he⟩ := Option.map_eq_some_iff.1 h1
      injection he with he1 he2
      subst he1; subst he2
      obtain ⟨g', k1, k2, k3, k4⟩ := view_sound r cs hp hm1 (hl.tail.mv hv)
      refine ⟨g', k1, hv.trans k2, by simpa using k3, fun i l' u h1 h2 => ?_⟩
      cases i with
      | zero => injection h1 with h1; injection h2 with h2; subst h1; subst h2; exact hr.move (fun b hb => (k2.S b hb).1) (fun _ _ => rfl)
      | succ i => exact k4 i l' u (by simpa using h1) (by simpa using h2)
    cases x with
    | v l => exact step g m _ h hm (Mv.refl _ _ _) hx
    | nl => exact step g m _ h hm (Mv.refl _ _ _) (by cases hx; exact .nl none 0 (Nat.zero_le _))
    | o t =>
      simp only [viewL] at h
      split at h
      · rename_i l hl2
        obtain ⟨g1, k1, k2, k3, k4, _⟩ := frz_sound hm t
        exact step g1 _ l h k1 k2 (leaf_rep hm hx hl2 k3 (fun t' l' b he => by
          rcases he with he | ⟨_, _, _, _, he⟩
          · injection he with he; subst he; exact k4 l' b
          · cases he))
      · cases h
    | s t i sz j ver =>
      simp only [viewL] at h
      split at h
      · rename_i l hl2
        obtain ⟨g1, k1, k2, k3, k4, _⟩ := frz_sound hm t
        exact step g1 _ l h k1 k2 (leaf_rep hm hx hl2 k3 (fun t' l' b he => by
          rcases he with he | ⟨_, _, _, _, he⟩
          · cases he
          · injection he with he; subst he; exact k4 l' b))
      · cases h

/-- What an operation leaves. -/
def XOk (P : Program) (w0 : World) (pb : Fence) (g : G) (m : Mem) (w : World) (r : Result Next) (K : Slot → Mem → Prop) : Prop :=
  ∃ s m' g' w' nx, K s m' ∧ r = .ok nx w' ∧ ((∃ v, nx = .value v ∧ SR g' m' w' s v) ∨ (nx = .skip ∧ s = .junk)) ∧ MF w0 pb g' m' w' ∧ Mv g m w g' m' w'
theorem run_lift {x : Sem Value} {v : Value} {w w' : World} (hx : x.run P w = .ok v w') : ((do pure (.value (← x)) : Sem Next)).run P w = .ok (.value v) w' := by simp [hx]
theorem run_liftU {x : Sem Unit} {w w' : World} (hx : x.run P w = .ok () w') : ((do x; pure .skip : Sem Next)).run P w = .ok .skip w' := by simp [hx]
theorem vr_cells {b : Bool} {ls : List TL} {v : Value} (h : VR g m w b ls v) : ∃ cs : List Value, v.cells = cs.toArray ∧ TRs g m w ls cs := by
  cases b with
  | true => obtain ⟨cs, rfl, hc⟩ := h; exact ⟨cs, rfl, hc⟩
  | false =>
    obtain ⟨x, rfl, hc⟩ := h
    refine ⟨[v], one_cells hc.one, rfl, fun i y u h1 h2 => ?_⟩
    cases i with
    | zero => injection h1 with h1; injection h2 with h2; subst h1; subst h2; exact hc
    | succ i => simp at h1
theorem alloc_x {t : TypeId} {K : Slot → Mem → Prop} {ls : List TL} (hz : zeroOf P t = some ls) (hne : ls.isEmpty = false) (hK : K (.ptr m.nx 0) (m.newBox ls)) (hm : MF w0 pb g m w) :
    XOk P w0 pb g m w ((do pure (.value (← Instr.alloc t true (.tuple #[]))) : Sem Next).run P w) K := by
  obtain ⟨i, z, hi, hz2, rfl, hone⟩ := zeroOf_some hz
  obtain ⟨g', h1, h2, h3⟩ := hm.newBox t (zero_TRs (g := g) (m := m) (w := w) z hone)
  refine ⟨_, _, g', _, _, hK, run_lift (v := .pointer (some ⟨w.heap.size, 0, none⟩)) ?_, .inl ⟨_, rfl, h3 (by intro e; rw [e] at hne; cases hne)⟩, h1, h2⟩
  simp [Instr.alloc, zeroValue, typeInfo, hi, hz2, newVar, newRow]
theorem box_x {t : TypeId} {K : Slot → Mem → Prop} {b : Bool} {ls : List TL} {v : Value} (hx : VR g m w b ls v) (hne : ls.isEmpty = false) (hK : K (.ptr m.nx 0) (m.newBox ls)) (hm : MF w0 pb g m w) :
    XOk P w0 pb g m w ((do pure (.value (← Instr.box t v)) : Sem Next).run P w) K := by
  obtain ⟨cs, hc, hl⟩ := vr_cells hx
  obtain ⟨g', h1, h2, h3⟩ := hm.newBox t hl
  refine ⟨_, _, g', _, _, hK, run_lift (v := .pointer (some ⟨w.heap.size, 0, none⟩)) ?_, .inl ⟨_, rfl, h3 (by intro e; rw [e] at hne; cases hne)⟩, h1, h2⟩
  simp [Instr.box, newVar, newRow, hc]
end
end Go.Proofs.Ythhfhllfbnpcgaa.Co
