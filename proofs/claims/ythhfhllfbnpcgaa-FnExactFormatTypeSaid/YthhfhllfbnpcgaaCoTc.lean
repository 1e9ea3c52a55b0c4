/- What is asked of two types, as plain data. -/
import Derived.Test.YthhfhllfbnpcgaaCoTb
namespace Go.Proofs.Ythhfhllfbnpcgaa.Co
open Go
set_option maxRecDepth 100000
set_option linter.unusedSimpArgs false
set_option linter.unusedVariables false
mutual
def conT : Ty → Ty → Bool
  | .mk k xs, .mk k' ys => (decide (k = 1) || decide (k' = 1)) || (decide (k = k') && conTs xs ys)
def conTs : List Ty → List Ty → Bool
  | [], [] => true
  | x :: xs, y :: ys => conT x y && conTs xs ys
  | _, _ => false
end
mutual
def lesT : Ty → Ty → Bool
  | .mk k xs, .mk k' ys => decide (k = 1) || (decide (k = k') && lesTs xs ys)
def lesTs : List Ty → List Ty → Bool
  | [], [] => true
  | x :: xs, y :: ys => lesT x y && lesTs xs ys
  | _, _ => false
end
mutual
def knoT : Ty → Bool
  | .mk k xs => knoTs xs && !decide (k = 1)
def knoTs : List Ty → Bool
  | [] => true
  | t :: ts => knoT t && knoTs ts
end
theorem conTs_all2 : ∀ (xs ys : List Ty), conTs xs ys = all2 conT xs ys
  | [], [] => by simp [conTs, all2]
  | [], _ :: _ => by simp [conTs, all2]
  | _ :: _, [] => by simp [conTs, all2]
  | x :: xs, y :: ys => by simp [conTs, all2, conTs_all2 xs ys]
theorem lesTs_all2 : ∀ (xs ys : List Ty), lesTs xs ys = all2 lesT xs ys
  | [], [] => by simp [lesTs, all2]
  | [], _ :: _ => by simp [lesTs, all2]
  | _ :: _, [] => by simp [lesTs, all2]
  | x :: xs, y :: ys => by simp [lesTs, all2, lesTs_all2 xs ys]
theorem knoTs_take : ∀ (xs : List Ty) (i : Nat) (h : i < xs.length), knoTs (xs.take (i + 1)) = (knoTs (xs.take i) && knoT xs[i])
  | x :: xs, 0, _ => by simp [knoTs]
  | x :: xs, i + 1, h => by
    simp only [List.take_succ_cons, knoTs, List.getElem_cons_succ]
    rw [knoTs_take xs i (Nat.lt_of_succ_lt_succ h), Bool.and_assoc]
theorem knoTs_false : ∀ (xs : List Ty) (i : Nat) (h : i < xs.length), knoT xs[i] = false → knoTs xs = false
  | x :: xs, 0, _, hb => by
    simp only [knoTs]
    rw [show knoT x = false from hb]
    rfl
  | x :: xs, i + 1, h, hb => by
    simp only [knoTs]
    rw [knoTs_false xs i (Nat.lt_of_succ_lt_succ h) hb]
    simp
theorem form_kids {k : Int} {xs : List Ty} (h : formT (.mk k xs) = true) : ∀ a ∈ xs, formT a = true := by
  simp only [formT, Bool.and_eq_true] at h
  exact fun a ha => formTs_mem h.2 ha
theorem form_len {k : Int} {xs ys : List Ty} (h : formT (.mk k xs) = true) (h' : formT (.mk k ys) = true) : xs.length = ys.length := by
  rcases form_two h with ⟨hk, rfl⟩ | ⟨hk, a, b, rfl, _⟩ <;> rcases form_two h' with ⟨hk', rfl⟩ | ⟨hk', a', b', rfl, _⟩
  · rfl
  · omega
  · omega
  · rfl
end Go.Proofs.Ythhfhllfbnpcgaa.Co
