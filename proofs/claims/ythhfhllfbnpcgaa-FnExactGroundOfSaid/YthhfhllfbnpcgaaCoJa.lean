/- A cell of a list of one's own, lent out: what it has become is again a part of the list. -/
import Derived.Test.YthhfhllfbnpcgaaCoJ
namespace Go.Proofs.Ythhfhllfbnpcgaa.Co
open Go
set_option linter.unusedSimpArgs false
set_option linter.unusedVariables false
section
variable {w : World}
theorem own_cell {xs : List (List Leaf)} {b n c i j : Nat} {l : Leaf} {fp : Nat → Prop} (h : Own w (.ls xs) (.slice (some ⟨b, 0, none⟩) n c) fp) (hi : i < xs.length) (hj : (rowAt xs i)[j]? = some l) :
    ∃ (u : Value) (fp0 : Nat → Prop), w.cell? ⟨b, i * (rowAt xs i).length + j, none⟩ = some u ∧ Own w l u fp0 ∧ (∀ k, fp0 k → fp k ∧ k ≠ b) ∧
      ∀ (w' : World) (l' : Leaf) (fp1 : Nat → Prop), (∀ k, fp k → ¬ fp0 k → w'.heap[k]? = w.heap[k]?) → Own w' l' u fp1 → (∀ k, fp1 k → fp0 k ∨ ¬ fp k) →
        Own w' (.ls (xs.set i ((rowAt xs i).set j l'))) (.slice (some ⟨b, 0, none⟩) n c) (fun k => (fp k ∧ ¬ fp0 k) ∨ fp1 k) := by
  cases h with
  | ls _ sz _ _ cur e u fps _ hg hfp hc hm hcs hz hsz hcell hown hsub hdis =>
    have hrow := rowAt_get hi
    have hlen : (rowAt xs i).length = sz := hsz _ (List.mem_of_getElem? hrow)
    have hat := atL_mk hrow hj
    have hjl : j < (rowAt xs i).length := (List.getElem?_eq_some_iff.1 hj).1
    refine ⟨u i j, fps i j, ?_, hown i j l hat, fun k hk => hsub i j k hk, fun w' l' fp1 hk ho h1 => ?_⟩
    · rw [hlen]
      simp only [World.cell?, hg]
      simpa using hcell i j l hat
    · have hb0 : ¬ fps i j b := fun hb => (hsub i j b hb).2 rfl
      have hxl : xs.length = (xs.set i ((rowAt xs i).set j l')).length := by simp
      rw [show Value.slice (some ⟨b, 0, none⟩) xs.length c = Value.slice (some ⟨b, 0, none⟩) (xs.set i ((rowAt xs i).set j l')).length c from by rw [← hxl]]
      have hplace : ∀ i' j' l2, atL (xs.set i ((rowAt xs i).set j l')) i' j' = some l2 → (i' = i ∧ j' = j ∧ l2 = l') ∨ (¬ (i' = i ∧ j' = j) ∧ atL xs i' j' = some l2) := by
        intro i' j' l2 h
        rcases atL_set h hi with ⟨rfl, h2⟩ | ⟨hne, h2⟩
        · rw [List.getElem?_set] at h2
          split at h2
          · rename_i he
            subst he
            injection h2 with h2
            exact .inl ⟨rfl, rfl, h2.symm⟩
          · rename_i hne
            exact .inr ⟨fun e => hne e.2.symm, atL_mk hrow h2⟩
        · exact .inr ⟨fun e => hne e.1, h2⟩
      refine .ls _ sz b c cur e u (fun i' j' => if i' = i ∧ j' = j then fp1 else fps i' j') _ ?_ (.inl ⟨hfp, hb0⟩) (by rw [← hxl]; exact hc) hm hcs (fun h => hz (by rw [List.set_eq_nil_iff] at h; exact h)) (fun row hr => ?_) (fun i' j' l2 h => ?_) (fun i' j' l2 h => ?_) (fun i' j' k h => ?_) (fun i1 j1 i2 j2 k h2 h3 => ?_)
      · rw [hk b hfp hb0]; exact hg
      · rcases List.mem_or_eq_of_mem_set hr with h | rfl
        · exact hsz row h
        · simpa using hlen
      · rcases hplace i' j' l2 h with ⟨rfl, rfl, _⟩ | ⟨_, h2⟩
        · exact hcell i' j' l hat
        · exact hcell i' j' l2 h2
      · rcases hplace i' j' l2 h with ⟨rfl, rfl, rfl⟩ | ⟨hne, h2⟩
        · rw [if_pos ⟨rfl, rfl⟩]; exact ho
        · rw [if_neg hne]
          refine (hown i' j' l2 h2).move (fun _ h => h) (fun k hkk => hk k (hsub i' j' k hkk).1 (fun h0 => hne ?_))
          have := hdis i' j' i j k hkk h0
          exact this
      · split at h
        · refine ⟨.inr h, fun e => ?_⟩
          subst e
          rcases h1 k h with h2 | h2
          · exact hb0 h2
          · exact h2 hfp
        · rename_i hne
          exact ⟨.inl ⟨(hsub i' j' k h).1, fun h0 => hne (hdis i' j' i j k h h0)⟩, (hsub i' j' k h).2⟩
      · split at h2 <;> split at h3
        · rename_i ha hb
          exact ⟨ha.1.trans hb.1.symm, ha.2.trans hb.2.symm⟩
        · rename_i ha hb
          rcases h1 k h2 with h4 | h4
          · exact absurd (hdis i2 j2 i j k h3 h4) hb
          · exact absurd (hsub i2 j2 k h3).1 h4
        · rename_i ha hb
          rcases h1 k h3 with h4 | h4
          · exact absurd (hdis i1 j1 i j k h2 h4) ha
          · exact absurd (hsub i1 j1 k h2).1 h4
        · exact hdis i1 j1 i2 j2 k h2 h3
end
def tagOf : TL → Option Nat
  | .o t => some t
  | .s t _ _ _ _ => some t
  | _ => none
def lend1 (m : Mem) : TL → Option Leaf
  | .o t => match m.tag t with
    | .live l => some l
    | _ => none
  | .s t i sz j ver => match m.tag t with
    | .live _ => m.leaf (.s t i sz j ver)
    | _ => none
  | .nl => some (.ls [])
  | .v _ => none
/-- The whole list, its lent part being l. -/
def wholeL (m : Mem) (x : TL) (l : Leaf) : Leaf := match x with
  | .s t i _ j _ => match m.tag t with
    | .live (.ls xs) => .ls (xs.set i ((rowAt xs i).set j l))
    | _ => l
  | _ => l
def FL.isO : FL → Bool
  | .o _ => true
  | .v _ => false
/-- The cells of a call's arguments say what is shown and what is lent. -/
def lendL (m : Mem) : List FL → List TL → Prop
  | [], [] => True
  | .o l :: fs, x :: r => lend1 m x = some l ∧ lendL m fs r
  | .v l :: fs, x :: r => m.leaf x = some l ∧ lendL m fs r
  | _, _ => False
def boxT : TL → Bool
  | .s .. => false
  | _ => true
def lendS (m : Mem) (ks : List Nat) : List RS → List Slot → Prop
  | [], [] => True
  | .val b fs :: ar, .val b' ls :: ss => (b' = b ∧ lendL m fs ls) ∧ lendS m ks ar ss
  | .ptr i :: ar, .ptr k 0 :: ss => ks[i]? = some k ∧ lendS m ks ar ss
  | .clo f is :: ar, .clo f' js :: ss => (f' = f ∧ is.map (fun i => ks[i]?) = js.map some) ∧ lendS m ks ar ss
  | _, _ => False
/-- The variables that are lent. -/
def lendX (m : Mem) : List (List FL) → List Nat → Prop
  | [], [] => True
  | fs :: bx, k :: ks => (lendL m fs (m.box k) ∧ (m.box k).isEmpty = false ∧ (m.box k).all boxT = true) ∧ lendX m bx ks
  | _, _ => False
def tagIs (t : Option Nat) (x : TL) : Bool := match t, tagOf x with
  | some t, some t' => t == t'
  | _, _ => false
/-- What is lent is not shown, nor lent twice. -/
def sepB : List FL → List TL → Bool
  | f :: fs, x :: r => ((fs.zip r).all fun p => !(f.isO || p.1.isO) || !(tagIs (tagOf x) p.2)) && sepB fs r
  | _, _ => true
def tagsM : List FL → List TL → List Nat
  | .o _ :: fs, x :: r => match tagOf x with
    | some t => t :: tagsM fs r
    | none => tagsM fs r
  | .v _ :: fs, _ :: r => tagsM fs r
  | _, _ => []
def shownL : List FL → List TL → List TL
  | .v _ :: fs, x :: r => x :: shownL fs r
  | .o _ :: fs, _ :: r => shownL fs r
  | _, _ => []
/-- While it is lent it is not there. -/
def goneT : Mem → List Nat → Mem
  | m, [] => m
  | m, t :: r => goneT (m.setTag t .gone) r
/-- What came back of it, told cell by cell; of a part that did not come back a bare cell is left. -/
def fillF : List FL → List TL → List (Option Leaf) → (List (Option Leaf) → Prop) → Prop
  | .o _ :: fs, .s _ _ _ _ _ :: r, none :: lo, K => ∀ u, fillF fs r lo fun e => K (some (.sc u) :: e)
  | .o _ :: fs, _ :: r, o :: lo, K => fillF fs r lo fun e => K (o :: e)
  | .v _ :: fs, _ :: r, lo, K => fillF fs r lo fun e => K (none :: e)
  | _, _, _, K => K []
def backX (m0 : Mem) : Mem → List TL → List (Option Leaf) → Mem
  | m, x :: r, lo :: ex => match tagOf x, lo with
    | some t, some l => backX m0 ((m.setTag t (.live (wholeL m0 x l))).bump t) r ex
    | _, _ => backX m0 m r ex
  | m, _, _ => m
/-- What the variables hold now. -/
def bindB (K : Mem → Prop) : List (List FL) → List Nat → Mem → Prop
  | fs :: bx, k :: ks, m => bindB K bx ks ((bindM fs m).2.setBox k (bindM fs m).1)
  | [], [], m => K m
  | _, _, _ => False
def frzIf (c : Bool) (m : Mem) (xs : List TL) : Mem := if c then frzL m xs else m
def retG (r : RS) (bx : List (List FL)) (ks : List Nat) (m : Mem) (K : Slot → Mem → Prop) : Prop := match r with
  | .val b ls => bindB (fun m' => K (.val b (bindM ls m).1) m') bx ks (bindM ls m).2
  | .tup [] => bindB (fun m' => K (.tup []) m') bx ks m
  | _ => False
def viewsOf (r : RS) (bx : List (List FL)) : Bool := r.fls.any FL.isView || bx.flatten.any FL.isView
def flsOf (args : List RS) (bx : List (List FL)) : List FL := args.flatMap RS.fls ++ bx.flatten
def tlsOf (m : Mem) (ss : List Slot) (ks : List Nat) : List TL := slotL ss ++ ks.flatMap m.box
/-- A call to which data is shown and lent, and variables by pointers. -/
def callGen (P : Program) (f : FuncId) (ss : List Slot) (m : Mem) (K : Slot → Mem → Prop) : Prop := ∃ args bx ks, (ks.Nodup ∧ sepB (flsOf args bx) (tlsOf m ss ks) = true ∧ lendS m ks args ss ∧ lendX m bx ks) ∧
  AC P f bx args fun r lent bx' => (bx'.length = ks.length ∧ bx'.all (fun l => !l.isEmpty) = true) ∧ fillF (args.flatMap RS.fls) (slotL ss) lent fun ex =>
    retG r bx' ks (backX m (frzIf (viewsOf r bx') (goneT m (tagsM (flsOf args bx) (tlsOf m ss ks))) (shownL (flsOf args bx) (tlsOf m ss ks))) (slotL ss) ex) K
section
variable {w0 : World} {pb : Fence} {g : G} {m : Mem} {w : World}
theorem lend_one (hm : MF w0 pb g m w) {x : TL} {u : Value} {l : Leaf} (hx : TR g m w x u) (h : lend1 m x = some l) :
    ∃ fp : Nat → Prop, Own w l u fp ∧ (∀ b, fp b → ∃ t l', tagOf x = some t ∧ m.tag t = .live l' ∧ g.fp t b) ∧
      ∀ t, tagOf x = some t → (∃ l0, m.tag t = .live l0) ∧ t < m.nx ∧ ∀ (w' : World) (l' : Leaf) (fp1 : Nat → Prop), (∀ k, g.fp t k → ¬ fp k → w'.heap[k]? = w.heap[k]?) → Own w' l' u fp1 → (∀ k, fp1 k → fp k ∨ ¬ g.fp t k) →
        Own w' (wholeL m x l') (g.va t) (fun k => (g.fp t k ∧ ¬ fp k) ∨ fp1 k) := by
  cases x with
  | v l0 => cases h
  | nl =>
    injection h with h
    subst h
    subst hx
    exact ⟨fun _ => False, .nil _, fun b hb => hb.elim, fun t ht => by cases ht⟩
  | o t =>
    obtain ⟨h1, rfl, h3⟩ := hx
    simp only [lend1] at h
    split at h
    · rename_i l0 hg
      injection h with h; subst h
      obtain ⟨_, ho⟩ := hm.mem.tags t _ hg
      refine ⟨g.fp t, ho, fun b hb => ⟨t, _, rfl, hg, hb⟩, fun t' ht => ?_⟩
      injection ht with ht; subst ht
      refine ⟨⟨_, hg⟩, h1, fun w' l' fp1 _ ho1 _ => ?_⟩
      exact ho1.move (fun k hk => .inr hk) (fun _ _ => rfl)
    · cases h
  | s t i sz j ver =>
    obtain ⟨h1, h2, h3, b, n, c, h4, h5⟩ := hx
    simp only [lend1] at h
    split at h
    · rename_i l0 hg
      simp only [Mem.leaf] at h
      split at h
      · rename_i hv
        simp only [hg, TG.cont] at h
        split at h
        · rename_i xs hl0
          injection hl0 with hl0
          subst hl0
          split at h
          · rename_i hi
            obtain ⟨_, ho⟩ := hm.mem.tags t _ hg
            rw [h4] at ho
            obtain ⟨u', fp0, k1, k2, k3, k4⟩ := own_cell ho hi.1 h
            have hu := h5 hv xs (by rw [hg]; rfl) hi.1
            rw [hi.2] at k1
            rw [k1] at hu
            injection hu with hu
            subst hu
            refine ⟨fp0, k2, fun k hk => ⟨t, _, rfl, hg, (k3 k hk).1⟩, fun t' ht => ?_⟩
            injection ht with ht; subst ht
            refine ⟨⟨_, hg⟩, h1, fun w' l' fp1 a1 a2 a3 => ?_⟩
            simp only [wholeL, hg]
            rw [h4]
            exact k4 w' l' fp1 a1 a2 a3
          · cases h
        · cases h
      · cases h
    · cases h
end
end Go.Proofs.Ythhfhllfbnpcgaa.Co
