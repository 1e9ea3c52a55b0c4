/- The ninth part of the theory: slices made, and append; all operations that make or write, in one theorem. -/
import Derived.Test.YthhfhllfbnpcgaaCoH
namespace Go.Proofs.Ythhfhllfbnpcgaa.Co
open Go
set_option linter.unusedSimpArgs false
set_option linter.unusedVariables false
section
variable {P : Program} {w0 : World} {pb : Fence} {g : G} {m : Mem} {w w' : World}

theorem chunk_at {α : Type} {n sz i j : Nat} {l : List α} {x : α} (h : atL (chunk n sz l) i j = some x) : i < n ∧ j < sz ∧ l[i * sz + j]? = some x := by
  obtain ⟨row, h1, h2⟩ := atL_some h
  rw [chunk, List.getElem?_map] at h1
  obtain ⟨i', hi, rfl⟩ := Option.map_eq_some_iff.1 h1
  obtain ⟨hlt, he⟩ := List.getElem?_eq_some_iff.1 hi
  simp only [List.getElem_range] at he
  subst he
  rw [List.length_range] at hlt
  rw [List.getElem?_take] at h2
  split at h2
  · rename_i hj
    rw [List.getElem?_drop] at h2
    exact ⟨hlt, hj, h2⟩
  · cases h2
theorem chunk_rows {α : Type} {n sz : Nat} {l : List α} (h : l.length = n * sz) : ∀ row ∈ chunk n sz l, row.length = sz := by
  intro row hr
  obtain ⟨i, hi, rfl⟩ := List.mem_map.1 hr
  have hlt : i < n := List.mem_range.1 hi
  have : (i + 1) * sz ≤ n * sz := Nat.mul_le_mul_right _ hlt
  rw [Nat.add_mul] at this
  simp; omega
theorem chunk_length {α : Type} (n sz : Nat) (l : List α) : (chunk n sz l).length = n := by simp [chunk]
theorem fillL_length {place : Nat → Option (Nat × Nat)} : ∀ (parts : List (Nat × Slot)) {ls ls' : List TL}, fillL place ls parts = some ls' → ls'.length = ls.length
  | [], ls, ls', h => by injection h with h; subst h; rfl
  | (i, .val b x) :: r, ls, ls', h => by
    simp only [fillL] at h
    split at h
    · split at h
      · rename_i hc
        rw [fillL_length r h]
        simp; omega
      · cases h
    · cases h
  | (i, .ptr ..) :: r, ls, ls', h => by simp [fillL] at h
  | (i, .rp ..) :: r, ls, ls', h => by simp [fillL] at h
  | (i, .ep ..) :: r, ls, ls', h => by simp [fillL] at h
  | (i, .tup ..) :: r, ls, ls', h => by simp [fillL] at h
  | (i, .junk) :: r, ls, ls', h => by simp [fillL] at h
theorem repL_TRs {n : Nat} {z : List TL} {zc : List Value} (h : TRs g m w z zc) : TRs g m w (repL n z) ((List.range (n * zc.length)).map fun k => zc.getD (k % zc.length) undef) := by
  refine ⟨by simp [repL, h.len], fun i x u h1 h2 => ?_⟩
  rw [repL, List.getElem?_map] at h1
  rw [List.getElem?_map] at h2
  obtain ⟨k, hk, rfl⟩ := Option.map_eq_some_iff.1 h1
  obtain ⟨k', hk', rfl⟩ := Option.map_eq_some_iff.1 h2
  obtain ⟨hlt, he⟩ := List.getElem?_eq_some_iff.1 hk
  obtain ⟨hlt', he'⟩ := List.getElem?_eq_some_iff.1 hk'
  simp only [List.getElem_range] at he he'
  subst he; subst he'
  rw [List.length_range] at hlt hlt'
  have hp : 0 < z.length := by rcases Nat.eq_zero_or_pos z.length with h0 | h0; rw [h0] at hlt; omega; exact h0
  have hm := Nat.mod_lt i hp
  have hm' : i % zc.length < zc.length := by rw [← h.len]; exact hm
  simp only [List.getD_eq_getElem?_getD, List.getElem?_eq_getElem hm, List.getElem?_eq_getElem hm', Option.getD_some]
  refine h.at_ (i % z.length) _ _ (List.getElem?_eq_getElem hm) ?_
  rw [h.len]
  exact List.getElem?_eq_getElem hm'
/-- Own cells laid into a new row. -/
theorem own_new {n sz : Nat} {ls : List Leaf} {cs : List Value} {fps : Nat → Nat → Prop} (e : TypeId) (hl : ls.length = cs.length) (hn : ls.length = n * sz) (hm : n ≤ maxLen)
    (hown : ∀ (i : Nat) l u, ls[i]? = some l → cs[i]? = some u → Own w l u (fps i)) (hlt : ∀ i b, fps i b → b < w.heap.size) (hdis : ∀ i j b, fps i b → fps j b → i = j) :
    Own (w.alloc (.cells cs.toArray e (0, 0))) (.ls (chunk n sz ls)) (.slice (some ⟨w.heap.size, 0, none⟩) n n) (fun b => b = w.heap.size ∨ ∃ i, fps i b) := by
  have hkeep : ∀ b, b < w.heap.size → (w.alloc (.cells cs.toArray e (0, 0))).heap[b]? = w.heap[b]? := fun b hb => heap_alloc_old w _ hb
  have hc := chunk_length n sz ls
  have h : ∀ i j l, atL (chunk n sz ls) i j = some l → i < n ∧ j < sz ∧ ls[i * sz + j]? = some l := fun i j l h => chunk_at h
  have hcs : ∀ i j l, atL (chunk n sz ls) i j = some l → cs[i * sz + j]? = some (cs.getD (i * sz + j) undef) := by
    intro i j l hh
    have h1 : i * sz + j < cs.length := by rw [← hl]; exact (List.getElem?_eq_some_iff.1 (h i j l hh).2.2).1
    simp [List.getD_eq_getElem?_getD, List.getElem?_eq_getElem h1]
  have key : Own (w.alloc (.cells cs.toArray e (0, 0))) (.ls (chunk n sz ls)) (.slice (some ⟨w.heap.size, 0, none⟩) (chunk n sz ls).length n) (fun b => b = w.heap.size ∨ ∃ i, fps i b) := by
    refine .ls _ sz w.heap.size n cs.toArray e (fun i j => cs.getD (i * sz + j) undef) (fun i j b => i < n ∧ j < sz ∧ fps (i * sz + j) b) _ (heap_alloc_new w _) (.inl rfl) (by rw [hc]; exact Nat.le_refl _) hm (by simp [← hl, hn]) (fun h0 => by rw [← hc, h0]; rfl) (chunk_rows hn) (fun i j l hh => ?_) (fun i j l hh => ?_) (fun i j k hk => ?_) (fun i j i' j' k h1 h2 => ?_)
    · simpa using hcs i j l hh
    · obtain ⟨h1, h2, h3⟩ := h i j l hh
      exact (hown _ _ _ h3 (hcs i j l hh)).move (fun b hb => ⟨h1, h2, hb⟩) (fun b hb => hkeep b (hlt _ b hb))
    · exact ⟨.inr ⟨_, hk.2.2⟩, by have := hlt _ k hk.2.2; omega⟩
    · have he := hdis _ _ k h1.2.2 h2.2.2
      have hsz : 0 < sz := by have := h1.2.1; omega
      have d1 : (i * sz + j) / sz = i := by rw [Nat.mul_comm, Nat.mul_add_div hsz, Nat.div_eq_of_lt h1.2.1, Nat.add_zero]
      have d2 : (i' * sz + j') / sz = i' := by rw [Nat.mul_comm, Nat.mul_add_div hsz, Nat.div_eq_of_lt h2.2.1, Nat.add_zero]
      have : i = i' := by rw [← d1, ← d2, he]
      subst this
      exact ⟨rfl, by omega⟩
  rw [hc] at key
  exact key

theorem build_x {t e : TypeId} {n sz : Nat} {parts : List (Nat × Slot)} {vals : List (Nat × Value)} {z flat : List TL} {K : Slot → Mem → Prop} (hm : MF w0 pb g m w) (he : elOf P t = some e) (hs : szOf P e = some sz) (hz : zeroOf P e = some z)
    (hzl : z.length = sz) (h0 : 0 < sz) (hlim : n * sz ≤ 16777216) (hf : fillL (fun i => some (i * sz, sz)) (repL n z) parts = some flat) (hlen : parts.length = vals.length)
    (hp : ∀ (i : Nat) p q, parts[i]? = some p → vals[i]? = some q → p.1 = q.1 ∧ SR g m w p.2 q.2)
    (hK : match takeL flat m with
        | some (ls, m') => K (.val false [.o m'.nx]) (m'.newTag (.ls (chunk n sz ls)))
        | none => match viewL flat m with
          | some (ls, m') => K (.val false [.v (.ls (chunk n sz ls))]) m'
          | none => False) :
    XOk P w0 pb g m w ((do pure (.value (← Instr.buildSlice t n vals.toArray)) : Sem Next).run P w) K := by
  obtain ⟨i0, hi, hsz⟩ := szOf_some hs
  obtain ⟨i1, z0, hi1, hz1, rfl, hone⟩ := zeroOf_some hz
  rw [hi] at hi1; injection hi1 with hi1; subst hi1
  have hzc : z0.cells.size = sz := by simpa using hzl
  have hzr := zero_TRs (g := g) (m := m) (w := w) z0 hone
  have hrep := repL_TRs (n := n) hzr
  obtain ⟨cs, h1, h2⟩ := fill_sound parts vals hf hrep hlen hp
  have hfl := fillL_length parts hf
  have hrl : (repL n (z0.cells.toList.map zeroTL)).length = n * sz := by simp [repL, hzc]
  have hn : n ≤ maxLen := by
    have : n ≤ n * sz := Nat.le_mul_of_pos_right _ h0
    simp only [maxLen]; omega
  have hrun : (Instr.buildSlice t n vals.toArray).run P w = .ok (.slice (some ⟨w.heap.size, 0, none⟩) n n) (w.alloc (.cells cs.toArray e)) := by
    have hl1 : ¬ (n * sz > 16777216) := by omega
    have harr : ((Array.range (n * sz)).map (z0.cells[· % z0.cells.size]!)) = ((List.range (n * z0.cells.toList.length)).map fun k => z0.cells.toList.getD (k % z0.cells.toList.length) undef).toArray := by
      rw [← Array.toList_inj]
      apply List.ext_getElem
      · simp [hzc]
      · intro k hk1 hk2
        have hk : k % z0.cells.size < z0.cells.size := Nat.mod_lt _ (by omega)
        simp [List.getD_eq_getElem?_getD, hk]
    simp only [Instr.buildSlice, Sem.run_bind, run_underlying (elOf_some he), Result.andThen_ok, sizeOf, typeInfo, program, Sem.run, hi, Sem.run_pure, hsz]
    rw [if_neg hl1]
    by_cases hn0 : n * sz = 0
    · have : n = 0 := by rcases Nat.mul_eq_zero.1 hn0 with h | h; exact h; omega
      subst this
      have hcs0 : (Array.range (0 * sz)).map (fun x => (#[] : Array Value)[x % 0]!) = ((List.range (0 * z0.cells.toList.length)).map fun k => z0.cells.toList.getD (k % z0.cells.toList.length) undef).toArray := by simp
      rw [if_pos hn0]
      simp only [Sem.run_bind, Sem.run_pure, Result.andThen_ok]
      have h1' := h1
      simp only [Nat.zero_mul, List.range_zero, List.map_nil] at h1'
      simp only [Nat.zero_mul, Array.range_zero', Array.map_empty]
      rw [show (#[] : Array Value) = ([] : List Value).toArray from rfl, h1']
      simp [newRow]
    · rw [if_neg hn0]
      simp only [Sem.run_bind, zeroValue, typeInfo, program, Sem.run, hi, hz1, Sem.run_pure, Result.andThen_ok]
      rw [harr, h1]
      simp [newRow]
  have hcl : cs.length = n * sz := by rw [← h2.len, hfl, hrl]
  have hs1 : Same w (w.alloc (.cells cs.toArray e (0, 0))) := ⟨rfl, rfl, rfl, by simp⟩
  have hkeep : ∀ b, b < w.heap.size → (w.alloc (.cells cs.toArray e (0, 0))).heap[b]? = w.heap[b]? := fun b hb => heap_alloc_old w _ hb
  have hsz1 : (w.alloc (.cells cs.toArray e (0, 0))).heap.size = w.heap.size + 1 := by simp
  split at hK
  · rename_i ls m' htk
    obtain ⟨fps, k⟩ := take_sound flat cs htk hm h2
    have ho := own_new (n := n) (sz := sz) e k.len (by rw [k.len, hcl]) hn k.own (fun i b hb => ((k.free i).S b hb).2) k.dis
    obtain ⟨h3, h4⟩ := k.mf.below hs1 hkeep
    have hfree : Free w0 pb g m' (w.alloc (.cells cs.toArray e (0, 0))) (fun b => b = w.heap.size ∨ ∃ i, fps i b) :=
      (Free.new k.mf (w' := w.alloc (.cells cs.toArray e (0, 0))) (fp := fun b => b = w.heap.size) (fun b hb => by rw [hb, hsz1]; omega)).or ((Free.ex k.free).world (by omega))
    obtain ⟨g', h5, h6, h7, _⟩ := h3.own' ho hfree
    exact ⟨_, _, g', _, _, hK, run_lift hrun, .inl ⟨_, rfl, h7⟩, h5, (k.mv.trans h4).trans h6⟩
  · split at hK
    · rename_i ls m' hvw
      obtain ⟨g1, k1, k2, k3, k4⟩ := view_sound flat cs hvw hm h2
      obtain ⟨h3, h4⟩ := k1.below hs1 hkeep
      obtain ⟨h5, h6⟩ := h3.settle (Free.new k1 (w' := w.alloc (.cells cs.toArray e (0, 0))) (fp := fun b => b = w.heap.size) (fun b hb => by rw [hb, hsz1]; omega))
      refine ⟨_, _, _, _, _, hK, run_lift hrun, .inl ⟨_, rfl, ⟨_, rfl, ?_⟩⟩, h5, (k2.trans h4).trans h6⟩
      have hc := chunk_length n sz ls
      have hat : ∀ i j l, atL (chunk n sz ls) i j = some l → cs[i * sz + j]? = some (cs.getD (i * sz + j) undef) := by
        intro i j l hh
        have h1 : i * sz + j < cs.length := by rw [← k3]; exact (List.getElem?_eq_some_iff.1 (chunk_at hh).2.2).1
        simp [List.getD_eq_getElem?_getD, List.getElem?_eq_getElem h1]
      have key : Rep (fun b => g1.S b ∨ b = w.heap.size) (w.alloc (.cells cs.toArray e (0, 0))) (.ls (chunk n sz ls)) (.slice (some ⟨w.heap.size, 0, none⟩) (chunk n sz ls).length n) := by
        refine .ls _ sz w.heap.size 0 n (fun i j => cs.getD (i * sz + j) undef) (by rw [hc]; exact Nat.le_refl _) hn (.inr rfl) (chunk_rows (by rw [k3, hcl])) (fun i j l hh => ?_) (fun i j l hh => ?_)
        · rw [Nat.zero_add, cell_of_row (w.alloc (.cells cs.toArray e (0, 0))) w.heap.size (i * sz + j) cs.toArray e (0, 0) (heap_alloc_new w _)]
          simpa using hat i j l hh
        · exact (k4 _ _ _ (chunk_at hh).2.2 (hat i j l hh)).move (fun b hb => .inl hb) (fun b hb => hkeep b (k1.mem.Slt b hb))
      rw [hc] at key
      exact key
    · exact hK.elim

theorem make_x {t e : TypeId} {sz by_ : Nat} {z : List TL} {n : Int} {k1 k2 : IntKind} {K : Slot → Mem → Prop} (hm : MF w0 pb g m w) (he : elOf P t = some e) (hs : szOf P e = some sz) (hby : bytesOf P e = some by_) (hz : zeroOf P e = some z)
    (hzl : z.length = sz) (hn0 : 0 ≤ n) (hlim : (by_ : Int) * n ≤ 281474976710656) (hmx : n ≤ 9223372036854775807) (hK : K (.val false [.o m.nx]) (m.newTag (.ls (List.replicate n.toNat (z.map TL.zl))))) :
    XOk P w0 pb g m w ((do pure (.value (← Instr.makeSlice t (.int k1 n) (.int k2 n))) : Sem Next).run P w) K := by
  obtain ⟨i0, hi, hsz⟩ := szOf_some hs
  obtain ⟨i1, z0, hi1, hz1, rfl, hone⟩ := zeroOf_some hz
  rw [hi] at hi1; injection hi1 with hi1; subst hi1
  have hb1 : i0.bytes = by_ := by
    obtain ⟨i1, hi1, h⟩ := Option.map_eq_some_iff.1 hby
    rw [hi] at hi1; injection hi1 with hi1; subst hi1; exact h
  subst hb1
  have hrun := run_make (P := P) w t e i0 z0 (elOf_some he) hi hz1 k1 k2 n n hn0 (Int.le_refl _) hlim hmx
  rw [hsz] at hrun
  have hzc : z0.cells.size = sz := by simpa using hzl
  have hs1 : Same w (w.alloc (.cells (madeCells z0.cells (n.toNat * sz)) e (0, 0))) := ⟨rfl, rfl, rfl, by simp⟩
  have hkeep : ∀ b, b < w.heap.size → (w.alloc (.cells (madeCells z0.cells (n.toNat * sz)) e (0, 0))).heap[b]? = w.heap[b]? := fun b hb => heap_alloc_old w _ hb
  have hsz1 : (w.alloc (.cells (madeCells z0.cells (n.toNat * sz)) e (0, 0))).heap.size = w.heap.size + 1 := by simp
  obtain ⟨h3, h4⟩ := hm.below hs1 hkeep
  have hrl : (List.replicate n.toNat ((z0.cells.toList.map zeroTL).map TL.zl)).length = n.toNat := by simp
  have hat : ∀ i j l, atL (List.replicate n.toNat ((z0.cells.toList.map zeroTL).map TL.zl)) i j = some l → i < n.toNat ∧ ∃ u, z0.cells[j]? = some u ∧ l = (zeroTL u).zl ∧ u.oneCell' = true ∧ j < sz := by
    intro i j l h
    obtain ⟨row, h1, h2⟩ := atL_some h
    rw [List.getElem?_replicate] at h1
    split at h1
    · rename_i hlt
      injection h1 with h1; subst h1
      rw [List.getElem?_map, List.getElem?_map] at h2
      obtain ⟨x, hx, rfl⟩ := Option.map_eq_some_iff.1 h2
      obtain ⟨u, hu, rfl⟩ := Option.map_eq_some_iff.1 hx
      have hj : j < z0.cells.toList.length := (List.getElem?_eq_some_iff.1 hu).1
      exact ⟨hlt, u, by simpa using hu, rfl, hone u (List.mem_of_getElem? hu), by simpa [hzc] using hj⟩
    · cases h1
  have ho : Own (w.alloc (.cells (madeCells z0.cells (n.toNat * sz)) e (0, 0))) (.ls (List.replicate n.toNat ((z0.cells.toList.map zeroTL).map TL.zl))) (.slice (some ⟨w.heap.size, 0, none⟩) n.toNat n.toNat) (fun b => b = w.heap.size) := by
    have key : Own (w.alloc (.cells (madeCells z0.cells (n.toNat * sz)) e (0, 0))) (.ls (List.replicate n.toNat ((z0.cells.toList.map zeroTL).map TL.zl))) (.slice (some ⟨w.heap.size, 0, none⟩) (List.replicate n.toNat ((z0.cells.toList.map zeroTL).map TL.zl)).length n.toNat) (fun b => b = w.heap.size) := by
      refine .ls _ sz w.heap.size n.toNat _ e (fun _ j => z0.cells.toList.getD j undef) (fun _ _ _ => False) _ (heap_alloc_new w _) rfl (by rw [hrl]; exact Nat.le_refl _) (by simp only [maxLen]; omega) (by rw [size_madeCells]) (fun h => by simpa using congrArg List.length h) (fun row hr => by rw [List.eq_of_mem_replicate hr]; simp [hzc]) (fun i j l h => ?_) (fun i j l h => ?_) (fun _ _ _ h => h.elim) (fun _ _ _ _ _ h => h.elim)
      · obtain ⟨h1, u, h2, _, _, hj⟩ := hat i j l h
        have hlt : i * sz + j < n.toNat * sz := by
          have : (i + 1) * sz ≤ n.toNat * sz := Nat.mul_le_mul_right _ h1
          rw [Nat.add_mul] at this
          omega
        have hmod : (i * sz + j) % sz = j := by rw [Nat.mul_comm, Nat.mul_add_mod, Nat.mod_eq_of_lt hj]
        have hj' : j < z0.cells.size := by omega
        simp only [madeCells, Array.getElem?_map, Array.getElem?_range, hlt, if_true, Option.map_some, hzc, hmod]
        simp [List.getD_eq_getElem?_getD, hj']
      · obtain ⟨_, u, h2, rfl, hu1, _⟩ := hat i j l h
        have hval : z0.cells.toList.getD j undef = u := by rw [List.getD_eq_getElem?_getD, Array.getElem?_toList, h2]; rfl
        rw [hval]
        unfold zeroTL
        split
        · exact .nil _
        · exact .sc _ _ hu1
    rw [hrl] at key
    exact key
  obtain ⟨g', h5, h6, h7, _⟩ := h3.own' ho (Free.new hm (w' := w.alloc (.cells (madeCells z0.cells (n.toNat * sz)) e (0, 0))) (fun b hb => by rw [hb, hsz1]; omega))
  exact ⟨_, _, g', _, _, hK, run_lift hrun, .inl ⟨_, rfl, h7⟩, h5, h4.trans h6⟩

theorem vr_one {x : TL} {v : Value} (h : VR g m w false [x] v) : TR g m w x v := by
  obtain ⟨y, hy, hr⟩ := h
  injection hy with hy; subst hy
  exact hr
theorem TRs.one {x : TL} {v : Value} (h : TR g m w x v) : TRs g m w [x] [v] :=
  ⟨rfl, fun i y u h1 h2 => by
    cases i with
    | zero => injection h1 with h1; injection h2 with h2; subst h1; subst h2; exact h
    | succ i => simp at h1⟩
/-- A source of elements that hold no lists. -/
theorem src_view {S : Nat → Prop} {ys : List (List Leaf)} {sz : Nat} {v : Value} (h : Rep S w (.ls ys) v) (hr : ∀ row ∈ ys, row.length = sz) (hsc : ∀ row ∈ ys, row.all Leaf.isSc = true) :
    ∃ (A : Option Addr) (c : Nat) (u : Nat → Nat → Value), v = .slice A ys.length c ∧ (∀ i j l, atL ys i j = some l → ∃ ad, A = some ad ∧ w.cell? (ad.add (i * sz + j)) = some (u i j)) ∧ ∀ i j l, atL ys i j = some l → ∀ fp, Own w l (u i j) fp := by
  cases h with
  | nl A c hc => exact ⟨A, c, fun _ _ => undef, rfl, fun i j l h => by simp [atL] at h, fun i j l h => by simp [atL] at h⟩
  | ls xs sz' b o c u hc hm hS hsz hcell hrep =>
    refine ⟨_, c, u, rfl, fun i j l h => ?_, fun i j l h fp => ?_⟩
    · have hss : sz' = sz := by
        obtain ⟨row, h1, _⟩ := atL_some h
        rw [← hsz row (List.mem_of_getElem? h1), hr row (List.mem_of_getElem? h1)]
      refine ⟨_, rfl, ?_⟩
      rw [Addr.add_lit, ← hss]
      exact hcell i j l h
    · obtain ⟨row, h1, h2⟩ := atL_some h
      have hs := List.all_eq_true.1 (hsc row (List.mem_of_getElem? h1)) l (List.mem_of_getElem? h2)
      have hr := hrep i j l h
      cases l with
      | sc v => cases hr; exact .sc _ fp (by assumption)
      | ls _ => simp [Leaf.isSc] at hs
/-- A source of one's own. -/
theorem src_own {ys : List (List Leaf)} {sz : Nat} {v : Value} {fp : Nat → Prop} (h : Own w (.ls ys) v fp) (hr : ∀ row ∈ ys, row.length = sz) :
    ∃ (A : Option Addr) (c : Nat) (u : Nat → Nat → Value) (fps : Nat → Nat → Nat → Prop), v = .slice A ys.length c ∧ (∀ i j l, atL ys i j = some l → ∃ ad, A = some ad ∧ w.cell? (ad.add (i * sz + j)) = some (u i j)) ∧ (∀ i j l, atL ys i j = some l → Own w l (u i j) (fps i j)) ∧
      (∀ i j k, fps i j k → fp k) ∧ ∀ i j i' j' k, fps i j k → fps i' j' k → i = i' ∧ j = j' := by
  cases h with
  | nil => exact ⟨none, 0, fun _ _ => undef, fun _ _ _ => False, rfl, fun i j l h => by simp [atL] at h, fun i j l h => by simp [atL] at h, fun _ _ _ h => h.elim, fun _ _ _ _ _ h => h.elim⟩
  | ls xs sz' b c cur e u fps fp hg hfp hc hm hcs hz hsz hcell hown hsub hdis =>
    refine ⟨_, c, u, fps, rfl, fun i j l h => ?_, hown, fun i j k h => (hsub i j k h).1, hdis⟩
    have hss : sz' = sz := by
      obtain ⟨row, h1, _⟩ := atL_some h
      rw [← hsz row (List.mem_of_getElem? h1), hr row (List.mem_of_getElem? h1)]
    refine ⟨_, rfl, ?_⟩
    rw [Addr.add_lit, Nat.zero_add, ← hss, cell_of_row w b _ cur e (0, 0) hg]
    exact hcell i j l h

theorem append_x {t ty : TypeId} {s x : Slot} {vs vx : Value} {K : Slot → Mem → Prop} (hm : MF w0 pb g m w) (h : appendX P t s x m K) (hs : SR g m w s vs) (hx : SR g m w x vx) :
    XOk P w0 pb g m w ((do pure (.value (← Builtin.append_ #[t, t] ty #[vs, vx])) : Sem Next).run P w) K := by
  unfold appendX at h
  split at h
  · rename_i e ts tx he
    split at h
    · rename_i sz by_ z xs m1 hsz hby hz htk
      obtain ⟨⟨hzl, h0, hb0, hrx⟩, h⟩ := h
      obtain ⟨fps1, k1⟩ := take_sound [ts] [vs] htk hm (TRs.one (vr_one hs))
      have hov := k1.own 0 _ _ rfl rfl
      have hx1 : TR g m1 w tx vx := (vr_one hx).mv k1.mv
      -- the append itself, its source told
      have main : ∀ (ys : List (List Leaf)) (m2 : Mem) (A : Option Addr) (c2 : Nat) (u2 : Nat → Nat → Value) (fps2 : Nat → Nat → Nat → Prop) (fp2 : Nat → Prop), vx = .slice A ys.length c2 → MF w0 pb g m2 w → Mv g m w g m2 w → m2.box = m.box →
          (∀ t, m2.tag t = m1.tag t ∨ m2.tag t = .gone) → Free w0 pb g m2 w fp2 →
          (∀ row ∈ ys, row.length = sz) → (xs.length + ys.length) * by_ ≤ 140737488355328 →
          (∀ i j l, atL ys i j = some l → ∃ ad, A = some ad ∧ w.cell? (ad.add (i * sz + j)) = some (u2 i j)) → (∀ i j l, atL ys i j = some l → Own w l (u2 i j) (fps2 i j)) → (∀ i j k, fps2 i j k → fp2 k) →
          (∀ i j i' j' k, fps2 i j k → fps2 i' j' k → i = i' ∧ j = j') → (∀ k, fps1 0 k → ¬ fp2 k) → K (.val false [.o m2.nx]) (m2.newTag (.ls (xs ++ ys))) →
          XOk P w0 pb g m w ((do pure (.value (← Builtin.append_ #[t, t] ty #[vs, vx])) : Sem Next).run P w) K := by
        intro ys m2 A c2 u2 fps2 fp2 hvx hm2 hmv2 hbox htags hf2 hry hlim hcells hoy hsy hdy hxy hK
        subst hvx
        have hmax : xs.length + ys.length ≤ maxLen := by
          have : xs.length + ys.length ≤ (xs.length + ys.length) * by_ := Nat.le_mul_of_pos_right _ hb0
          simp only [maxLen]; omega
        obtain ⟨v', w', hrun, hsame, hkeep, hown⟩ := own_append (ty := ty) (c2 := c2) he hsz hby hz hzl h0 hov hrx hry hcells hoy hsy hdy hxy hlim hmax
        have hf1t : ∀ b t' l, fps1 0 b → m2.tag t' = .live l → ¬ g.fp t' b := by
          intro b t' l hb h1
          rcases htags t' with h2 | h2
          · rw [h2] at h1; exact (k1.free 0).tag b t' l hb h1
          · rw [h2] at h1; cases h1
        have hf1 : Free w0 pb g m2 w (fps1 0) := ⟨(k1.free 0).S, fun b k hb hk => (k1.free 0).box b k hb (by rw [k1.box, ← hbox]; exact hk), hf1t, (k1.free 0).pb⟩
        obtain ⟨h3, h4⟩ := hm2.change (m' := m2) (fps1 0) hsame hkeep rfl (Nat.le_refl _) rfl (fun _ _ h => h) (fun _ _ h => h) (fun b hb => (hf1.S b hb).1) hf1.box hf1.tag hf1.pb
        have hnew : Own w' (.ls (xs ++ ys)) v' (fun b => (fps1 0 b ∨ fp2 b) ∨ (w.heap.size ≤ b ∧ b < w'.heap.size)) := hown.bound.move (fun b hb => by
          rcases hb with ⟨hb | hb | hb, hb2⟩
          · exact .inl (.inl hb)
          · exact .inl (.inr hb)
          · exact .inr ⟨hb, hb2⟩) (fun _ _ => rfl)
        obtain ⟨g', h5, h6, h7, _⟩ := h3.own' hnew (((hf1.or hf2).world hsame.size).or (Free.new hm2 (fun b hb => hb)))
        exact ⟨_, _, g', _, _, hK, run_lift hrun, .inl ⟨_, rfl, h7⟩, h5, (hmv2.trans h4).trans h6⟩
      split at h
      · rename_i ys
        obtain ⟨⟨hry, hsc, hlim⟩, hK⟩ := h
        obtain ⟨A, c, u, hv, hcells, hoy⟩ := src_view hx1 hry hsc
        exact main ys m1 A c u (fun _ _ _ => False) (fun _ => False) hv k1.mf k1.mv k1.box (fun _ => .inl rfl) (Free.none _ _ _ _ _) hry hlim hcells (fun i j l h => hoy i j l h _) (fun _ _ _ h => h.elim) (fun _ _ _ _ _ h => h.elim) (fun _ _ h => h.elim) hK
      · split at h
        · rename_i ys m2 htk2
          obtain ⟨⟨hry, hlim⟩, hK⟩ := h
          obtain ⟨fps2, k2⟩ := take_sound _ [vx] htk2 k1.mf (TRs.one hx1)
          have ho2 := k2.own 0 _ _ rfl rfl
          obtain ⟨A, c, u, fps, hv, hcells, hoy, hsy, hdy⟩ := src_own ho2 hry
          refine main ys m2 A c u fps (fps2 0) hv k2.mf (k1.mv.trans k2.mv) (k2.box.trans k1.box) k2.tags (k2.free 0) hry hlim hcells hoy hsy hdy (fun b hb1 hb2 => ?_) hK
          obtain ⟨t', l', h5, h6⟩ := k2.src 0 b hb2
          exact (k1.free 0).tag b t' l' hb1 h5 h6
        · exact h.elim
    · exact h.elim
  · exact h.elim

/-- Every operation that makes or writes. -/
theorem x_sound {md : Md} {ρ : Operand → Slot} {ev : Operand → Value} {o : Oper} {K : Slot → Mem → Prop} (h : eoX P md o.op ρ m K) (hm : MF w0 pb g m w) (hρ : ∀ x, SR g m w (ρ x) (ev x)) :
    XOk P w0 pb g m w ((execOp ev o).run P w) K := by
  unfold eoX at h
  split at h
  all_goals (rename_i heq)
  · split at h
    · rename_i ls hz
      have := alloc_x hz h.1 h.2 hm
      simpa only [execOp, heq] using this
    · exact h.elim
  · rename_i t x
    split at h
    · rename_i b ls hx
      have hv := hρ x
      rw [hx] at hv
      have := box_x (P := P) (t := t) hv h.1.2 h.2 hm
      simpa only [execOp, heq] using this
    · exact h.elim
  · rename_i t a x
    have ha := hρ a
    have hx := hρ x
    unfold storeX at h
    split at h
    · rename_i k off b ls h1 h2
      rw [h1] at ha
      rw [h2] at hx
      obtain ⟨ha, hk⟩ := ha
      have := store_ptr (P := P) hm hk hx h.1.1 h.1.2.1 h.2
      rw [← ha] at this
      simpa only [execOp, heq] using this
    · rename_i tg i sz off b ls h1 h2
      rw [h1] at ha
      rw [h2] at hx
      obtain ⟨_, h⟩ := h
      split at h
      · rename_i xs ht
        obtain ⟨⟨hi, hsz, hoff, hs⟩, h⟩ := h
        split at h
        · rename_i new m' htk
          have := store_ep (P := P) hm ht ha hx hi hsz hoff hs htk h.1 h.2
          simpa only [execOp, heq] using this
        · exact h.elim
      · exact h.elim
    · exact h.elim
  · rename_i t n parts
    unfold buildX at h
    split at h
    · rename_i e he
      split at h
      · rename_i sz z hs hz
        obtain ⟨⟨hzl, h0, hlim⟩, h⟩ := h
        split at h
        · rename_i flat hf
          have := build_x (P := P) (vals := parts.toList.map fun p => (p.1, ev p.2)) hm he hs hz hzl h0 hlim hf (by simp) (fun i p q h1 h2 => by
            rw [List.getElem?_map] at h1 h2
            obtain ⟨z, hz, rfl⟩ := Option.map_eq_some_iff.1 h1
            rw [hz] at h2
            injection h2 with h2; subst h2
            exact ⟨rfl, hρ _⟩) h
          have hpe : (parts.map fun (x : Nat × Operand) => match x with | (i, x) => (i, ev x)) = (parts.toList.map fun p => (p.1, ev p.2)).toArray := by
            rw [← Array.toList_inj]; simp
          simp only [execOp, heq]
          rw [hpe]
          exact this
        · exact h.elim
      · exact h.elim
    · exact h.elim
  · rename_i t l c
    have hl := hρ l
    have hc := hρ c
    unfold makeX at h
    split at h
    · rename_i e k1 n k2 n' he h1 h2
      rw [h1] at hl
      rw [h2] at hc
      have hl := VR.one_sc hl
      have hc := VR.one_sc hc
      split at h
      · rename_i sz by_ z hs hby hz
        obtain ⟨⟨hzl, h0, rfl, hn0, hlim, hmx⟩, hK⟩ := h
        have := make_x (P := P) (k1 := k1) (k2 := k2) hm he hs hby hz hzl hn0 hlim hmx hK
        rw [← hl, ← hc] at this
        simpa only [execOp, heq] using this
      · exact h.elim
    · exact h.elim
  · rename_i c
    split at h
    · rename_i s x t t' hcal hargs hts
      obtain ⟨rfl, h⟩ := h
      have ha : c.args = #[s, x] := by rw [← Array.toList_inj]; exact hargs
      have ht : c.argTypes = #[t', t'] := by rw [← Array.toList_inj]; exact hts
      have := append_x (P := P) (ty := o.type) hm h (hρ s) (hρ x)
      simp only [execOp, heq, resolve, hcal, ha, ht, invoke, builtin, Sem.run_bind, Sem.run_pure, Result.andThen_ok, List.map_toArray, List.map_cons, List.map_nil] at this ⊢
      exact this
    · exact h.elim
  · exact h.elim
end
end Go.Proofs.Ythhfhllfbnpcgaa.Co
