/- What is asked of types, as plain data. -/
import Derived.Test.YthhfhllfbnpcgaaCoTa
namespace Go.Proofs.Ythhfhllfbnpcgaa.Co
open Go
set_option linter.unusedSimpArgs false
set_option linter.unusedVariables false
abbrev rF (f : FuncId) : RS := .val false [.v (.sc (.func (.func f) #[] #[]))]
/-- The place of the first that a test finds. -/
def fidx {α : Type} (p : α → Bool) : List α → Int
  | [] => -1
  | x :: r => if p x then 0 else if fidx p r < 0 then -1 else fidx p r + 1
theorem fidx_no {α : Type} {p : α → Bool} : ∀ (xs : List α), (∀ x ∈ xs, p x = false) → fidx p xs = -1
  | [], _ => rfl
  | x :: r, h => by
    simp only [fidx]
    rw [h x (by simp), fidx_no r (fun y hy => h y (by simp [hy]))]
    simp
theorem fidx_at {α : Type} {p : α → Bool} : ∀ (xs : List α) (i : Nat) (h : i < xs.length), p xs[i] = true → (∀ j (hj : j < i), p (xs[j]'(by omega)) = false) → fidx p xs = i
  | x :: r, 0, _, h, _ => by
    have : p x = true := h
    simp [fidx, this]
  | x :: r, i + 1, h, h1, h2 => by
    have := fidx_at r i (by simpa using h) (by simpa using h1) (fun j hj => by simpa using h2 (j + 1) (by omega))
    have h0 : p x = false := by simpa using h2 0 (by omega)
    simp only [fidx]
    rw [h0, this, if_neg (by simp), if_neg (by omega)]
    rfl
theorem fidx_iff {α : Type} {p : α → Bool} : ∀ (xs : List α), fidx p xs ≥ 0 ↔ xs.any p = true
  | [] => by simp [fidx]
  | x :: r => by
    have ih := fidx_iff r (p := p)
    rw [fidx, List.any_cons]
    by_cases hx : p x = true
    · rw [if_pos hx, hx]
      simp
    · rw [if_neg hx, show p x = false by simpa using hx, Bool.false_or, ← ih]
      split <;> omega
theorem fidx_ge {α : Type} {p : α → Bool} (xs : List α) : decide (fidx p xs ≥ 0) = xs.any p := by
  rw [Bool.eq_iff_iff, decide_eq_true_iff]
  exact fidx_iff xs
theorem fidx_le {α : Type} {p : α → Bool} (xs : List α) : decide (0 ≤ fidx p xs) = xs.any p := fidx_ge xs
/-- Two lists, place by place. -/
def all2 {α β : Type} (p : α → β → Bool) : List α → List β → Bool
  | [], [] => true
  | x :: xs, y :: ys => p x y && all2 p xs ys
  | _, _ => false
theorem all2_len {α β : Type} {p : α → β → Bool} : ∀ {xs : List α} {ys : List β}, xs.length ≠ ys.length → all2 p xs ys = false
  | [], [], h => absurd rfl h
  | [], _ :: _, _ => rfl
  | _ :: _, [], _ => rfl
  | x :: xs, y :: ys, h => by
    simp only [all2]
    rw [all2_len (fun he => h (by simp [he]))]
    simp
theorem all2_take {α β : Type} {p : α → β → Bool} : ∀ (xs : List α) (ys : List β) (i : Nat) (h : i < xs.length) (h' : i < ys.length), all2 p (xs.take (i + 1)) (ys.take (i + 1)) = (all2 p (xs.take i) (ys.take i) && p xs[i] ys[i])
  | x :: xs, y :: ys, 0, _, _ => by simp [all2]
  | x :: xs, y :: ys, i + 1, h, h' => by
    simp only [List.take_succ_cons, all2, List.getElem_cons_succ]
    rw [all2_take xs ys i (Nat.lt_of_succ_lt_succ h) (Nat.lt_of_succ_lt_succ h'), Bool.and_assoc]
theorem all2_false {α β : Type} {p : α → β → Bool} : ∀ (xs : List α) (ys : List β) (i : Nat) (h : i < xs.length) (h' : i < ys.length), p xs[i] ys[i] = false → all2 p xs ys = false
  | x :: xs, y :: ys, 0, _, _, hb => by
    simp only [all2]
    rw [show p x y = false from hb]
    rfl
  | x :: xs, y :: ys, i + 1, h, h', hb => by
    simp only [all2]
    rw [all2_false xs ys i (Nat.lt_of_succ_lt_succ h) (Nat.lt_of_succ_lt_succ h') hb]
    simp
theorem eqTs_all2 : ∀ (xs ys : List Ty), eqTs xs ys = all2 eqT xs ys
  | [], [] => by simp [eqTs, all2]
  | [], _ :: _ => by simp [eqTs, all2]
  | _ :: _, [] => by simp [eqTs, all2]
  | x :: xs, y :: ys => by simp [eqTs, all2, eqTs_all2 xs ys]
theorem leftT_add {a b : Nat} {l : Int} (h : (a : Int) ≤ l) : leftT b (l - a) = leftT (a + b) l := by
  unfold leftT
  by_cases h2 : (b : Int) ≤ l - a
  · rw [if_pos h2, if_pos (by omega)]; omega
  · rw [if_neg h2, if_neg (by omega)]
theorem leftT_neg {a b : Nat} {l : Int} (h : leftT a l = -1) (hab : a ≤ b) (hl : 0 ≤ l) : leftT b l = -1 := by
  unfold leftT at h ⊢
  split at h
  · omega
  · rw [if_neg (by omega)]
/-! right nodes -/
mutual
def formT : Ty → Bool
  | .mk k xs => (if k = 1 ∨ k = 2 ∨ k = 3 then decide (xs.length = 0) else if k = 4 ∨ k = 5 then decide (xs.length = 2) else false) && formTs xs
def formTs : List Ty → Bool
  | [] => true
  | t :: ts => formT t && formTs ts
end
theorem formTs_take : ∀ (xs : List Ty) (i : Nat) (h : i < xs.length), formTs (xs.take (i + 1)) = (formTs (xs.take i) && formT xs[i])
  | x :: xs, 0, _ => by simp [formTs]
  | x :: xs, i + 1, h => by
    simp only [List.take_succ_cons, formTs, List.getElem_cons_succ]
    rw [formTs_take xs i (Nat.lt_of_succ_lt_succ h), Bool.and_assoc]
theorem formTs_false : ∀ (xs : List Ty) (i : Nat) (h : i < xs.length), formT xs[i] = false → formTs xs = false
  | x :: xs, 0, _, hb => by
    simp only [formTs]
    rw [show formT x = false from hb]
    rfl
  | x :: xs, i + 1, h, hb => by
    simp only [formTs]
    rw [formTs_false xs i (Nat.lt_of_succ_lt_succ h) hb]
    simp
theorem formTs_any : ∀ (xs : List Ty), formTs xs = !(xs.any fun a => !formT a)
  | [] => rfl
  | x :: xs => by
    simp only [formTs, List.any_cons, formTs_any xs]
    cases formT x <;> simp
theorem formTs_mem : ∀ {xs : List Ty} {a : Ty}, formTs xs = true → a ∈ xs → formT a = true
  | x :: xs, a, h, ha => by
    simp only [formTs, Bool.and_eq_true] at h
    rcases List.mem_cons.1 ha with rfl | ha
    · exact h.1
    · exact formTs_mem h.2 ha
def validB (t : Ty) : Bool := decide (sizeT t ≤ 800) && decide (depthT t ≤ 24) && formT t
def noteB (t : Ty) : Bool := validB t && decide (sizeT t ≤ 15) && decide (depthT t ≤ 5)
theorem form_two {k : Int} {xs : List Ty} (h : formT (.mk k xs) = true) : (k = 1 ∨ k = 2 ∨ k = 3) ∧ xs = [] ∨ (k = 4 ∨ k = 5) ∧ ∃ a b, xs = [a, b] ∧ formT a = true ∧ formT b = true := by
  simp only [formT, Bool.and_eq_true] at h
  obtain ⟨h1, h2⟩ := h
  split at h1
  · exact .inl ⟨by assumption, List.eq_nil_of_length_eq_zero (by simpa using h1)⟩
  · split at h1
    · have hl : xs.length = 2 := by simpa using h1
      match xs, hl with
      | [a, b], _ =>
        simp only [formTs, Bool.and_eq_true] at h2
        exact .inr ⟨by assumption, a, b, rfl, h2.1, h2.2.1⟩
    · cases h1
end Go.Proofs.Ythhfhllfbnpcgaa.Co
