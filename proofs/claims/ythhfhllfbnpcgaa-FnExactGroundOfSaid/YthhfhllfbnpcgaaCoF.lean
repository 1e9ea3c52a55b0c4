/- The sixth part of the theory: what 'append' does to a list of one's own. -/
import Derived.Test.YthhfhllfbnpcgaaCoE
namespace Go.Proofs.Ythhfhllfbnpcgaa.Co
open Go
set_option linter.unusedSimpArgs false
set_option linter.unusedVariables false
section
variable {P : Program} {w : World}

theorem run_append_room' (t ty e e0 : TypeId) (i : TypeInfo) (ht : P.underlying t = some (.slice e)) (hi : P.info? e = some i)
    (g sLen sCap : Nat) (cur : Array Value) (hg : w.heap[g]? = some (.cells cur e0 (0, 0)))
    (a : Addr) (m c : Nat) (news : List Value) (hl : news.length = m * i.size) (hnews : ∀ (j : Nat) u, news[j]? = some u → w.cell? (a.add j) = some u) (h1 : ∀ u ∈ news, u.oneCell' = true)
    (hroom : sLen + m ≤ sCap) (hfit : sLen * i.size + news.length ≤ cur.size) :
    (Builtin.append_ #[t, t] ty #[.slice (some ⟨g, 0, none⟩) sLen sCap, .slice (some a) m c]).run P w =
      .ok (.slice (some ⟨g, 0, none⟩) (sLen + m) sCap) (w.setRow g (cur.toList.take (sLen * i.size) ++ news ++ cur.toList.drop (sLen * i.size + news.length)).toArray) := by
  have hf := run_firstCells_some (P := P) w i.size m a m c news hl hnews
  have hst := run_storeCells_at P g (sLen * i.size) e0 news 0 cur w hg (by simpa using hfit) h1
  simp only [Nat.add_zero] at hst
  simp [Builtin.append_, run_underlying ht, sizeOf, typeInfo, hi, Builtin.lenOf, hroom, hf, Addr.add_lit, hst]

/-- The cells of a list of rows, in line. -/
def flatC (n sz : Nat) (u : Nat → Nat → Value) : List Value := (List.range (n * sz)).map fun k => u (k / sz) (k % sz)
theorem flatC_length (n sz : Nat) (u : Nat → Nat → Value) : (flatC n sz u).length = n * sz := by simp [flatC]
theorem flatC_get {n sz : Nat} {u : Nat → Nat → Value} {i j : Nat} (hi : i < n) (hj : j < sz) : (flatC n sz u)[i * sz + j]? = some (u i j) := by
  have h1 : i * sz + j < n * sz := by
    have : (i + 1) * sz ≤ n * sz := Nat.mul_le_mul_right _ hi
    rw [Nat.add_mul] at this
    omega
  have hd : (i * sz + j) / sz = i := by
    rw [Nat.mul_comm, Nat.mul_add_div (by omega), Nat.div_eq_of_lt hj, Nat.add_zero]
  have hm : (i * sz + j) % sz = j := by
    rw [Nat.mul_comm, Nat.mul_add_mod, Nat.mod_eq_of_lt hj]
  simp [flatC, List.getElem?_map, List.getElem?_range h1, hd, hm]
theorem flatC_at {n sz : Nat} {u : Nat → Nat → Value} {k : Nat} {v : Value} (h : (flatC n sz u)[k]? = some v) : k / sz < n ∧ k % sz < sz ∧ v = u (k / sz) (k % sz) ∧ k = k / sz * sz + k % sz := by
  rw [flatC, List.getElem?_map] at h
  obtain ⟨k', hk, rfl⟩ := Option.map_eq_some_iff.1 h
  obtain ⟨hlt, he⟩ := List.getElem?_eq_some_iff.1 hk
  simp only [List.getElem_range] at he
  subst he
  rw [List.length_range] at hlt
  have hsz : 0 < sz := by rcases Nat.eq_zero_or_pos sz with h0 | h0; rw [h0] at hlt; omega; exact h0
  exact ⟨Nat.div_lt_of_lt_mul (by rw [Nat.mul_comm]; exact hlt), Nat.mod_lt _ hsz, rfl, by rw [Nat.mul_comm]; exact (Nat.div_add_mod k sz).symm⟩
theorem atL_append {α : Type} {xs ys : List (List α)} {i j : Nat} {l : α} (h : atL (xs ++ ys) i j = some l) : (i < xs.length ∧ atL xs i j = some l) ∨ (xs.length ≤ i ∧ atL ys (i - xs.length) j = some l) := by
  obtain ⟨row, h1, h2⟩ := atL_some h
  rcases Nat.lt_or_ge i xs.length with hi | hi
  · rw [List.getElem?_append_left hi] at h1; exact .inl ⟨hi, atL_mk h1 h2⟩
  · rw [List.getElem?_append_right hi] at h1; exact .inr ⟨hi, atL_mk h1 h2⟩
/-- Rows and rows behind them, in one block. -/
theorem own_joined {w' : World} {xs ys : List (List Leaf)} {sz g c : Nat} {cur : Array Value} {e : TypeId} {u u2 : Nat → Nat → Value} {fps fps2 : Nat → Nat → Nat → Prop} {fp : Nat → Prop}
    (hg : w'.heap[g]? = some (.cells cur e (0, 0))) (hfp : fp g) (hc : xs.length + ys.length ≤ c) (hm : c ≤ maxLen) (hcs : cur.size = c * sz) (hz : xs ++ ys = [] → c = 0)
    (hrx : ∀ row ∈ xs, row.length = sz) (hry : ∀ row ∈ ys, row.length = sz)
    (hcx : ∀ i j l, atL xs i j = some l → cur[i * sz + j]? = some (u i j)) (hcy : ∀ i j l, atL ys i j = some l → cur[(xs.length + i) * sz + j]? = some (u2 i j))
    (hox : ∀ i j l, atL xs i j = some l → Own w' l (u i j) (fps i j)) (hoy : ∀ i j l, atL ys i j = some l → Own w' l (u2 i j) (fps2 i j))
    (hsx : ∀ i j k, fps i j k → fp k ∧ k ≠ g) (hsy : ∀ i j k, fps2 i j k → fp k ∧ k ≠ g) (hdx : ∀ i j i' j' k, fps i j k → fps i' j' k → i = i' ∧ j = j') (hdy : ∀ i j i' j' k, fps2 i j k → fps2 i' j' k → i = i' ∧ j = j')
    (hxy : ∀ i j i' j' k, fps i j k → ¬ fps2 i' j' k) : Own w' (.ls (xs ++ ys)) (.slice (some ⟨g, 0, none⟩) (xs.length + ys.length) c) fp := by
  have hl : xs.length + ys.length = (xs ++ ys).length := (List.length_append ..).symm
  rw [hl]
  refine .ls (xs ++ ys) sz g c cur e (fun i j => if i < xs.length then u i j else u2 (i - xs.length) j) (fun i j => if i < xs.length then fps i j else fps2 (i - xs.length) j) fp hg hfp (by omega) hm hcs hz
    (fun row hr => by rcases List.mem_append.1 hr with h | h; exact hrx row h; exact hry row h) (fun i j l h => ?_) (fun i j l h => ?_) (fun i j k h => ?_) (fun i j i' j' k h h' => ?_)
  · rcases atL_append h with ⟨h1, h2⟩ | ⟨h1, h2⟩
    · rw [if_pos h1]; exact hcx i j l h2
    · rw [if_neg (by omega)]
      have := hcy _ j l h2
      rwa [Nat.add_sub_cancel' h1] at this
  · rcases atL_append h with ⟨h1, h2⟩ | ⟨h1, h2⟩
    · rw [if_pos h1, if_pos h1]; exact hox i j l h2
    · rw [if_neg (by omega), if_neg (by omega)]; exact hoy _ j l h2
  · split at h
    · exact hsx i j k h
    · exact hsy _ j k h
  · split at h <;> split at h'
    · exact hdx i j i' j' k h h'
    · exact absurd h' (hxy _ _ _ _ k h)
    · exact absurd h (hxy _ _ _ _ k h')
    · have := hdy _ _ _ _ k h h'; omega
/-- append(v, x...): v one's own; x's elements are one's own, too (or hold no lists). -/
theorem own_append {t ty e : TypeId} {sz by_ : Nat} {xs ys : List (List Leaf)} {v : Value} {fp fp2 : Nat → Prop} {A : Option Addr} {c2 : Nat} {u2 : Nat → Nat → Value} {fps2 : Nat → Nat → Nat → Prop} {zs : List TL}
    (ht : elOf P t = some e) (hs : szOf P e = some sz) (hby : bytesOf P e = some by_) (hz : zeroOf P e = some zs) (hzs : zs.length = sz) (h0 : 0 < sz)
    (hv : Own w (.ls xs) v fp) (hrx : ∀ row ∈ xs, row.length = sz) (hry : ∀ row ∈ ys, row.length = sz)
    (hcells : ∀ i j l, atL ys i j = some l → ∃ ad, A = some ad ∧ w.cell? (ad.add (i * sz + j)) = some (u2 i j))
    (hoy : ∀ i j l, atL ys i j = some l → Own w l (u2 i j) (fps2 i j)) (hsy : ∀ i j k, fps2 i j k → fp2 k) (hdy : ∀ i j i' j' k, fps2 i j k → fps2 i' j' k → i = i' ∧ j = j')
    (hxy : ∀ k, fp k → ¬ fp2 k) (hlim : (xs.length + ys.length) * by_ ≤ 140737488355328) (hmax : xs.length + ys.length ≤ maxLen) :
    ∃ v' w', (Builtin.append_ #[t, t] ty #[v, .slice A ys.length c2]).run P w = .ok v' w' ∧ Same w w' ∧ (∀ b, b < w.heap.size → ¬ fp b → w'.heap[b]? = w.heap[b]?) ∧
      Own w' (.ls (xs ++ ys)) v' (fun b => fp b ∨ fp2 b ∨ w.heap.size ≤ b) := by
  obtain ⟨i0, hi, hsz⟩ := szOf_some hs
  obtain ⟨i1, z, hi1, hz1, rfl, hz2⟩ := zeroOf_some hz
  rw [hi] at hi1; injection hi1 with hi1; subst hi1
  have hb1 : i0.bytes = by_ := by
    obtain ⟨i1, hi1, h⟩ := Option.map_eq_some_iff.1 hby
    rw [hi] at hi1; injection hi1 with hi1; subst hi1; exact h
  subst hsz
  subst hb1
  have hu := elOf_some ht
  have hzc : z.cells.size = i0.size := by simpa using hzs
  have hoy' : ∀ i j l, atL ys i j = some l → i < ys.length ∧ j < i0.size := fun i j l h => atL_len hry h
  have hatl : ∀ k, k / i0.size < ys.length → k % i0.size < i0.size → ∃ l, atL ys (k / i0.size) (k % i0.size) = some l := by
    intro k hk hk2
    have h1 := rowAt_get hk
    have h2 : (rowAt ys (k / i0.size)).length = i0.size := hry _ (List.mem_of_getElem? h1)
    exact ⟨_, atL_mk h1 (List.getElem?_eq_getElem (by omega))⟩
  let news := flatC ys.length i0.size u2
  have hnl : news.length = ys.length * i0.size := flatC_length _ _ _
  have hnew1 : ∀ x ∈ news, x.oneCell' = true := by
    intro x hx
    obtain ⟨k, hk, hke⟩ := List.mem_iff_getElem.1 hx
    obtain ⟨h1, h2, rfl, _⟩ := flatC_at (List.getElem?_eq_some_iff.2 ⟨hk, hke⟩)
    obtain ⟨l, hl⟩ := hatl k h1 h2
    exact (hoy _ _ l hl).one
  have hmx : xs.length + ys.length ≤ 9223372036854775807 := by simpa [maxLen] using hmax
  by_cases hye : ys = []
  · subst hye
    refine ⟨v, w, ?_, Same.refl w, fun _ _ _ => rfl, by rw [List.append_nil]; exact hv.move (fun _ h => .inl h) (fun _ _ => rfl)⟩
    have hf : ∀ (w : World), (Builtin.firstCells i0.size 0 (.slice A 0 c2)).run P w = .ok #[] w := by
      intro w
      cases A with
      | none => simp [Builtin.firstCells]
      | some a => simpa using run_firstCells_some (P := P) w i0.size 0 a 0 c2 [] (by simp) (by simp)
    cases hv with
    | nil => simp [Builtin.append_, run_underlying hu, sizeOf, typeInfo, hi, Builtin.lenOf, hf]
    | ls _ sz g c cur e0 u fps fp hg hfp hc hm hcs hz hsz hcell hown hsub hdis =>
      simp [Builtin.append_, run_underlying hu, sizeOf, typeInfo, hi, Builtin.lenOf, hf, hc, storeCells]
  · obtain ⟨ad, rfl⟩ : ∃ ad, A = some ad := by
      obtain ⟨l, hl⟩ := hatl 0 (by rw [Nat.zero_div]; exact List.length_pos_iff.2 hye) (Nat.mod_lt _ h0)
      obtain ⟨ad, h, _⟩ := hcells _ _ l hl
      exact ⟨ad, h⟩
    have hnews : ∀ (w' : World), (∀ a, w'.cell? a = w.cell? a) → ∀ (k : Nat) x, news[k]? = some x → w'.cell? (ad.add k) = some x := by
      intro w' hw k x hx
      obtain ⟨h1, h2, rfl, h4⟩ := flatC_at hx
      obtain ⟨l, hl⟩ := hatl k h1 h2
      obtain ⟨ad', h, h5⟩ := hcells _ _ l hl
      injection h with h; subst h
      rw [hw, ← h5, ← h4]
    have hyp : 0 < ys.length := List.length_pos_iff.2 hye
    -- a new row
    have grow : ∀ (olds : List Value) (u : Nat → Nat → Value) (fps : Nat → Nat → Nat → Prop) (old : Nat) (v0 : Value) (gv : Nat),
        olds.length = xs.length * i0.size → (∀ i j l, atL xs i j = some l → olds[i * i0.size + j]? = some (u i j)) → (∀ i j l, atL xs i j = some l → Own w l (u i j) (fps i j)) →
        (∀ i j k, fps i j k → fp k) → (∀ i j i' j' k, fps i j k → fps i' j' k → i = i' ∧ j = j') →
        (Builtin.append_ #[t, t] ty #[v, .slice (some ad) ys.length c2]).run P w = .ok (.slice (some ⟨w.heap.size, 0, none⟩) (xs.length + ys.length) (grownCap w (xs.length + ys.length) old e))
          (w.drew.alloc (.cells (olds.toArray ++ news.toArray ++ Builtin.zeroCells z.cells (grownCap w (xs.length + ys.length) old e - (xs.length + ys.length))) e)) →
        ∃ v' w', (Builtin.append_ #[t, t] ty #[v, .slice (some ad) ys.length c2]).run P w = .ok v' w' ∧ Same w w' ∧ (∀ b, b < w.heap.size → ¬ fp b → w'.heap[b]? = w.heap[b]?) ∧ Own w' (.ls (xs ++ ys)) v' (fun b => fp b ∨ fp2 b ∨ w.heap.size ≤ b) := by
      intro olds u fps old v0 gv hol hocell hox hsx hdx hrun
      have hge := grownCap_ge w (xs.length + ys.length) old e
      have hcm : grownCap w (xs.length + ys.length) old e ≤ maxLen := grownCap_le_maxLen w (xs.length + ys.length) old e (by simpa [maxLen] using hmx)
      have hkeep : ∀ b, b < w.heap.size → (w.drew.alloc (.cells (olds.toArray ++ news.toArray ++ Builtin.zeroCells z.cells (grownCap w (xs.length + ys.length) old e - (xs.length + ys.length))) e)).heap[b]? = w.heap[b]? := fun b hb => heap_alloc_old w.drew _ hb
      have hlt : ∀ b, (∃ l v fp', Own w l v fp' ∧ fp' b) → True := fun _ _ => trivial
      refine ⟨_, _, hrun, ⟨rfl, rfl, rfl, by simp⟩, fun b hb _ => hkeep b hb, ?_⟩
      refine own_joined (fps := fun i j b => fps i j b ∧ b < w.heap.size) (fps2 := fun i j b => fps2 i j b ∧ b < w.heap.size) (u := u) (u2 := u2) (sz := i0.size) (heap_alloc_new w.drew _) (.inr (.inr (Nat.le_refl _))) hge hcm ?_ (fun h => by simp at h; exact absurd h.2 hye) hrx hry ?_ ?_ ?_ ?_ ?_ ?_ ?_ ?_ ?_
      · simp only [Array.size_append, List.size_toArray, size_zeroCells, hzc, hol, hnl, ← Nat.add_mul]
        congr 1
        omega
      · intro i j l h
        obtain ⟨h1, h2⟩ := atL_len hrx h
        have := hocell i j l h
        have hlt2 : i * i0.size + j < olds.length := (List.getElem?_eq_some_iff.1 this).1
        rw [Array.append_assoc, Array.getElem?_append_left (by simpa using hlt2)]
        simpa using this
      · intro i j l h
        obtain ⟨h1, h2⟩ := hoy' i j l h
        have := flatC_get (u := u2) h1 h2
        have hlt2 : i * i0.size + j < news.length := (List.getElem?_eq_some_iff.1 this).1
        rw [Nat.add_mul, Array.append_assoc, Array.getElem?_append_right (by simp [hol]; omega)]
        rw [Array.getElem?_append_left (by simp [hol, hnl] at hlt2 ⊢; omega)]
        have he : xs.length * i0.size + ys.length * 0 + (i * i0.size + j) - olds.length = i * i0.size + j := by omega
        have he2 : xs.length * i0.size + i * i0.size + j - olds.toArray.size = i * i0.size + j := by simp [hol]; omega
        rw [he2]
        simpa using this
      · intro i j l h
        exact (hox i j l h).bound.move (fun _ h => h) (fun b hb => hkeep b hb.2)
      · intro i j l h
        exact (hoy i j l h).bound.move (fun _ h => h) (fun b hb => hkeep b hb.2)
      · intro i j k h; exact ⟨.inl (hsx i j k h.1), by have := h.2; omega⟩
      · intro i j k h; exact ⟨.inr (.inl (hsy i j k h.1)), by have := h.2; omega⟩
      · intro i j i' j' k h h'; exact hdx i j i' j' k h.1 h'.1
      · intro i j i' j' k h h'; exact hdy i j i' j' k h.1 h'.1
      · intro i j i' j' k h h'; exact hxy k (hsx i j k h.1) (hsy i' j' k h'.1)
    cases hv with
    | nil =>
      have hr := run_append_nil (P := P) w t ty e i0 z hu hi hz1 ad ys.length c2 news hnl (hnews w (fun _ => rfl)) hyp (by simp at hmx; omega) (by simp at hlim; omega)
      refine grow [] (fun _ _ => undef) (fun _ _ _ => False) 0 undef 0 (by simp) (fun i j l h => by simp [atL] at h) (fun i j l h => by simp [atL] at h) (fun _ _ _ h => h.elim) (fun _ _ _ _ _ h => h.elim) ?_
      simpa using hr
    | ls _ sz g c cur e0 u fps fp hg hfp hc hm hcs hz hsz hcell hown hsub hdis =>
      have hszx : xs ≠ [] → sz = i0.size := fun hne => by
        obtain ⟨row, hrow⟩ := List.exists_mem_of_ne_nil xs hne
        rw [← hsz row hrow, hrx row hrow]
      have hcs' : cur.size = c * i0.size := by
        by_cases hx : xs = []
        · rw [hcs, hz hx]; simp
        · rw [hcs, hszx hx]
      have hcell' : ∀ i j l, atL xs i j = some l → cur[i * i0.size + j]? = some (u i j) := fun i j l h => by
        have hne : xs ≠ [] := by rintro rfl; simp [atL] at h
        rw [← hszx hne]; exact hcell i j l h
      by_cases hroom : xs.length + ys.length ≤ c
      · have hfit : xs.length * i0.size + news.length ≤ cur.size := by rw [hnl, hcs', ← Nat.add_mul]; exact Nat.mul_le_mul_right _ hroom
        have hr := run_append_room' (P := P) t ty e e0 i0 hu hi g xs.length c cur hg ad ys.length c2 news hnl (hnews w (fun _ => rfl)) hnew1 hroom hfit
        have hkeep : ∀ b, b ≠ g → (w.setRow g (cur.toList.take (xs.length * i0.size) ++ news ++ cur.toList.drop (xs.length * i0.size + news.length)).toArray).heap[b]? = w.heap[b]? := fun b hb => setRow_other w g b _ (fun e => hb e)
        refine ⟨_, _, hr, ⟨rfl, rfl, rfl, by simp [World.setRow]⟩, fun b hb hnb => hkeep b (fun e => hnb (e ▸ hfp)), ?_⟩
        have hxl : (cur.toList.take (xs.length * i0.size)).length = xs.length * i0.size := by
          rw [List.length_take]; have := Array.length_toList (xs := cur); omega
        refine own_joined (fps := fps) (fps2 := fps2) (u := u) (u2 := u2) (sz := i0.size) (setRow_heap w g cur _ e0 _ hg) (.inl hfp) hroom hm ?_ (fun h => by simp at h; exact absurd h.2 hye) hrx hry ?_ ?_ ?_ ?_ ?_ ?_ hdis hdy ?_
        · simp only [List.size_toArray, List.length_append, hxl, List.length_drop, Array.length_toList]
          omega
        · intro i j l h
          have h1 := hcell' i j l h
          obtain ⟨h2, h3⟩ := atL_len hrx h
          have h4 : i * i0.size + j < xs.length * i0.size := by
            have : (i + 1) * i0.size ≤ xs.length * i0.size := Nat.mul_le_mul_right _ h2
            rw [Nat.add_mul] at this
            omega
          simp only [List.getElem?_toArray]
          rw [List.append_assoc, List.getElem?_append_left (by rw [hxl]; exact h4), List.getElem?_take, if_pos h4]
          simpa using h1
        · intro i j l h
          obtain ⟨h1, h2⟩ := hoy' i j l h
          have h3 := flatC_get (u := u2) h1 h2
          have h4 : i * i0.size + j < news.length := (List.getElem?_eq_some_iff.1 h3).1
          simp only [List.getElem?_toArray]
          rw [List.append_assoc, Nat.add_mul, List.getElem?_append_right (by rw [hxl]; omega), hxl, List.getElem?_append_left (by omega)]
          have : xs.length * i0.size + i * i0.size + j - xs.length * i0.size = i * i0.size + j := by omega
          rw [this]
          exact h3
        · intro i j l h
          exact (hown i j l h).move (fun _ h => h) (fun b hb => hkeep b (hsub i j b hb).2)
        · intro i j l h
          exact (hoy i j l h).move (fun _ h => h) (fun b hb => hkeep b (fun e => hxy g hfp (e ▸ hsy i j b hb)))
        · intro i j k h; exact ⟨.inl (hsub i j k h).1, (hsub i j k h).2⟩
        · intro i j k h; exact ⟨.inr (.inl (hsy i j k h)), fun e => hxy g hfp (e ▸ hsy i j k h)⟩
        · intro i j i' j' k h h'; exact hxy k (hsub i j k h).1 (hsy i' j' k h')
      · have hold : ∀ (j : Nat) x, (cur.toList.take (xs.length * i0.size))[j]? = some x → w.cell? ((⟨g, 0, none⟩ : Addr).add j) = some x := by
          intro j x hx
          rw [List.getElem?_take] at hx
          split at hx
          · rw [Addr.add_lit, Nat.zero_add]
            simp only [World.cell?, hg]
            simpa using hx
          · cases hx
        have hol : (cur.toList.take (xs.length * i0.size)).length = xs.length * i0.size := by
          rw [List.length_take]
          have h5 := Array.length_toList (xs := cur)
          rw [h5, hcs']
          exact Nat.min_eq_left (Nat.mul_le_mul_right _ hc)
        have hr := run_append_grow (P := P) w t ty e i0 z hu hi hz1 ⟨g, 0, none⟩ xs.length c _ hol hold ad ys.length c2 news hnl (hnews w (fun _ => rfl)) (by omega) (by omega) (growslice_fits (by omega) hlim)
        refine grow (cur.toList.take (xs.length * i0.size)) u fps c undef 0 hol (fun i j l h => ?_) hown (fun i j k h => (hsub i j k h).1) hdis hr
        obtain ⟨h2, h3⟩ := atL_len hrx h
        have h4 : i * i0.size + j < xs.length * i0.size := by
          have : (i + 1) * i0.size ≤ xs.length * i0.size := Nat.mul_le_mul_right _ h2
          rw [Nat.add_mul] at this
          omega
        rw [List.getElem?_take, if_pos h4]
        simpa using hcell' i j l h
end
end Go.Proofs.Ythhfhllfbnpcgaa.Co
