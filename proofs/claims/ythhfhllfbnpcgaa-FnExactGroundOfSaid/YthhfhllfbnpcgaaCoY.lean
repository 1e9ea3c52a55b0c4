/- Data of the types of a law's arguments is the data of the little language. -/
import Derived.Test.YthhfhllfbnpcgaaCoS
import Derived.Test.YthhfhllfbnpcgaaCoTa
import Derived.Test.YthhfhllfbnpcgaaProg
namespace Go.Proofs.Ythhfhllfbnpcgaa.Co
open Go
set_option linter.unusedSimpArgs false
set_option linter.unusedVariables false
theorem take_take_one (ls : List Leaf) (h : ls.length = 2) : ∃ a b, ls = [a, b] := by
  match ls, h with
  | [a, b], _ => exact ⟨a, b, rfl⟩
/-- A struct of a number and a list of its like. -/
theorem sha_ty {P : Program} {T TS I : TypeId} {fs : Array Field} (hT : P.underlying T = some (.struct fs)) (hTS : P.underlying TS = some (.slice T)) (hI : P.underlying I = some (.int .i64))
    (hs : P.cellsOf T = 2) (h0 : ∃ f, fs[0]? = some f ∧ f.offset = 0 ∧ f.type = I) (h1 : ∃ f, fs[1]? = some f ∧ f.offset = 1 ∧ f.type = TS) (c0 : P.cellsOf I = 1) (c1 : P.cellsOf TS = 1) {t : TypeId} {ls : List Leaf} (h : Sha P t ls) :
    (t = T → ∃ x : Ty, ls = encT x ∧ OkT x) ∧ (t = TS → ∃ xs : List Ty, ls = [.ls (encTs xs)] ∧ xs.length ≤ maxLen ∧ ∀ x ∈ xs, OkT x) := by
  induction h with
  | bool t b h => exact ⟨fun e => (by subst e; rw [hT] at h; cases h), fun e => (by subst e; rw [hTS] at h; cases h)⟩
  | int t k n h => exact ⟨fun e => (by subst e; rw [hT] at h; cases h), fun e => (by subst e; rw [hTS] at h; cases h)⟩
  | str t s h => exact ⟨fun e => (by subst e; rw [hT] at h; cases h), fun e => (by subst e; rw [hTS] at h; cases h)⟩
  | slice t e rows h hl hr ih =>
    refine ⟨fun e' => (by subst e'; rw [hT] at h; cases h), fun e' => ?_⟩
    subst e'
    rw [hTS] at h
    injection h with h; injection h with h; subst h
    have key : ∀ rows : List (List Leaf), (∀ row ∈ rows, ∃ x : Ty, row = encT x ∧ OkT x) → ∃ xs : List Ty, rows = encTs xs ∧ ∀ x ∈ xs, OkT x := by
      intro rows
      induction rows with
      | nil => exact fun _ => ⟨[], rfl, fun x hx => by cases hx⟩
      | cons row rows ih2 =>
        intro hh
        obtain ⟨x, rfl, hx⟩ := hh row (by simp)
        obtain ⟨xs, rfl, hxs⟩ := ih2 (fun r hr => hh r (by simp [hr]))
        exact ⟨x :: xs, rfl, fun y hy => by
          rcases List.mem_cons.1 hy with rfl | hy
          · exact hx
          · exact hxs y hy⟩
    obtain ⟨xs, rfl, hxs⟩ := key rows (fun row hrow => (ih row hrow).1 rfl)
    exact ⟨xs, rfl, by rw [encTs_len] at hl; exact hl, hxs⟩
  | struct t fs' ls h hl hf ih =>
    refine ⟨fun e => ?_, fun e => (by subst e; rw [hTS] at h; cases h)⟩
    subst e
    rw [hT] at h
    injection h with h; injection h with h; subst h
    obtain ⟨a, b, rfl⟩ := take_take_one ls (by rw [hl, hs])
    obtain ⟨f0, k1, k2, k3⟩ := h0
    obtain ⟨f1, j1, j2, j3⟩ := h1
    have hk := hf 0 f0 k1
    rw [k2, k3, c0] at hk
    have hj := (ih 1 f1 j1).2 j3
    rw [j2, j3, c1] at hj
    simp only [List.drop_zero, List.take_succ_cons, List.take_zero, List.drop_succ_cons] at hk hj
    obtain ⟨xs, hx, hxl, hxs⟩ := hj
    injection hx with hx
    subst hx
    cases hk with
    | int _ k n hh =>
      rw [hI] at hh
      injection hh with hh; injection hh with hh; subst hh
      exact ⟨.mk n xs, rfl, .mk n xs (Nat.le_trans hxl (by decide)) hxs⟩
    | bool _ _ hh => rw [hI] at hh; cases hh
    | str _ _ hh => rw [hI] at hh; cases hh
    | slice _ _ _ hh => rw [hI] at hh; cases hh
    | struct _ _ _ hh => rw [hI] at hh; cases hh
theorem sha_int {P : Program} {t : TypeId} {k : IntKind} {ls : List Leaf} (hI : P.underlying t = some (.int k)) (h : Sha P t ls) : ∃ n, ls = [.sc (.int k n)] ∧ (Lit.int k n).wf = true := by
  cases h with
  | int _ k' n hh hw => rw [hI] at hh; injection hh with hh; injection hh with hh; subst hh; exact ⟨n, rfl, hw⟩
  | bool _ _ hh => rw [hI] at hh; cases hh
  | str _ _ hh => rw [hI] at hh; cases hh
  | slice _ _ _ hh => rw [hI] at hh; cases hh
  | struct _ _ _ hh => rw [hI] at hh; cases hh
theorem sha_bool {P : Program} {t : TypeId} {ls : List Leaf} (hI : P.underlying t = some .bool) (h : Sha P t ls) : ∃ b, ls = [.sc (.bool b)] := by
  cases h with
  | int _ k' n hh hw => rw [hI] at hh; cases hh
  | bool _ b hh => exact ⟨b, rfl⟩
  | str _ _ hh => rw [hI] at hh; cases hh
  | slice _ _ _ hh => rw [hI] at hh; cases hh
  | struct _ _ _ hh => rw [hI] at hh; cases hh
theorem sha_str {P : Program} {t : TypeId} {ls : List Leaf} (hI : P.underlying t = some .string) (h : Sha P t ls) : ∃ s : ByteArray, ls = [.sc (.string s)] ∧ s.size ≤ maxLen := by
  cases h with
  | int _ k' n hh hw => rw [hI] at hh; cases hh
  | bool _ b hh => rw [hI] at hh; cases hh
  | str _ s hh hw => exact ⟨s, rfl, hw⟩
  | slice _ _ _ hh => rw [hI] at hh; cases hh
  | struct _ _ _ hh => rw [hI] at hh; cases hh
theorem sha_slice {P : Program} {t e : TypeId} {ls : List Leaf} (hI : P.underlying t = some (.slice e)) (h : Sha P t ls) : ∃ rows, ls = [.ls rows] ∧ rows.length ≤ maxLen ∧ ∀ row ∈ rows, Sha P e row := by
  cases h with
  | int _ k' n hh hw => rw [hI] at hh; cases hh
  | bool _ b hh => rw [hI] at hh; cases hh
  | str _ s hh hw => rw [hI] at hh; cases hh
  | slice _ _ rows hh hl hr => rw [hI] at hh; injection hh with hh; injection hh with hh; subst hh; exact ⟨rows, rfl, hl, hr⟩
  | struct _ _ _ hh => rw [hI] at hh; cases hh
theorem sha_ints {P : Program} {t e : TypeId} {ls : List Leaf} (hI : P.underlying t = some (.slice e)) (hE : P.underlying e = some (.int .i64)) (h : Sha P t ls) : ∃ xs : List Int, ls = [.ls (encI xs)] ∧ xs.length ≤ maxLen ∧ ∀ n ∈ xs, (Lit.int .i64 n).wf = true := by
  obtain ⟨rows, rfl, hl, hr⟩ := sha_slice hI h
  have key : ∀ rows : List (List Leaf), (∀ row ∈ rows, Sha P e row) → ∃ xs : List Int, rows = encI xs ∧ ∀ n ∈ xs, (Lit.int .i64 n).wf = true := by
    intro rows
    induction rows with
    | nil => exact fun _ => ⟨[], rfl, fun x hx => by cases hx⟩
    | cons row rows ih =>
      intro hh
      obtain ⟨n, rfl, hw⟩ := sha_int hE (hh row (by simp))
      obtain ⟨xs, rfl, hxs⟩ := ih (fun r hr => hh r (by simp [hr]))
      exact ⟨n :: xs, rfl, fun y hy => by
        rcases List.mem_cons.1 hy with rfl | hy
        · exact hw
        · exact hxs y hy⟩
  obtain ⟨xs, rfl, hxs⟩ := key rows hr
  exact ⟨xs, rfl, by simpa [encI] using hl, hxs⟩
theorem sha_strs {P : Program} {t e : TypeId} {ls : List Leaf} (hI : P.underlying t = some (.slice e)) (hE : P.underlying e = some .string) (h : Sha P t ls) : ∃ xs : List ByteArray, ls = [.ls (encS xs)] ∧ xs.length ≤ maxLen ∧ ∀ s ∈ xs, s.size ≤ maxLen := by
  obtain ⟨rows, rfl, hl, hr⟩ := sha_slice hI h
  have key : ∀ rows : List (List Leaf), (∀ row ∈ rows, Sha P e row) → ∃ xs : List ByteArray, rows = encS xs ∧ ∀ s ∈ xs, s.size ≤ maxLen := by
    intro rows
    induction rows with
    | nil => exact fun _ => ⟨[], rfl, fun x hx => by cases hx⟩
    | cons row rows ih =>
      intro hh
      obtain ⟨n, rfl, hw⟩ := sha_str hE (hh row (by simp))
      obtain ⟨xs, rfl, hxs⟩ := ih (fun r hr => hh r (by simp [hr]))
      exact ⟨n :: xs, rfl, fun y hy => by
        rcases List.mem_cons.1 hy with rfl | hy
        · exact hw
        · exact hxs y hy⟩
  obtain ⟨xs, rfl, hxs⟩ := key rows hr
  exact ⟨xs, rfl, by simpa [encS] using hl, hxs⟩
end Go.Proofs.Ythhfhllfbnpcgaa.Co
