/- The types of the little language as plain data, and how they stand in memory. -/
import Derived.Test.YthhfhllfbnpcgaaCoMb
namespace Go.Proofs.Ythhfhllfbnpcgaa.Co
open Go
set_option linter.unusedSimpArgs false
set_option linter.unusedVariables false

inductive Ty where
  | mk (kind : Int) (args : List Ty)
def Ty.kind : Ty → Int
  | .mk k _ => k
def Ty.args : Ty → List Ty
  | .mk _ xs => xs
theorem ty_kind (k : Int) (xs : List Ty) : (Ty.mk k xs).kind = k := rfl
theorem ty_args (k : Int) (xs : List Ty) : (Ty.mk k xs).args = xs := rfl
theorem Ty.ind {p : Ty → Prop} (h : ∀ k xs, (∀ a ∈ xs, p a) → p (.mk k xs)) (t : Ty) : p t :=
  Ty.rec (motive_1 := p) (motive_2 := fun ts => ∀ a ∈ ts, p a) (fun k xs ih => h k xs ih) (fun a h => by cases h) (fun t ts h1 h2 a ha => by
    rcases List.mem_cons.1 ha with rfl | ha
    · exact h1
    · exact h2 a ha) t
mutual
def encT : Ty → List Leaf
  | .mk k xs => [.sc (.int .i64 k), .ls (encTs xs)]
def encTs : List Ty → List (List Leaf)
  | [] => []
  | t :: ts => encT t :: encTs ts
end
mutual
def sizeT : Ty → Nat
  | .mk _ xs => 1 + sizeTs xs
def sizeTs : List Ty → Nat
  | [] => 0
  | t :: ts => sizeT t + sizeTs ts
end
/-- Every list in it is of a length that a machine can hold. -/
inductive OkT : Ty → Prop
  | mk (k : Int) (xs : List Ty) (hl : xs.length ≤ 9223372036854775807) (h : ∀ a ∈ xs, OkT a) : OkT (.mk k xs)
abbrev rI (n : Int) : RS := .val false [.v (.sc (.int .i64 n))]
abbrev rB (b : Bool) : RS := .val false [.v (.sc (.bool b))]
abbrev vT (t : Ty) : RS := .val true [.v (.sc (.int .i64 t.kind)), .v (.ls (encTs t.args))]
abbrev oT (t : Ty) : RS := .val true [.v (.sc (.int .i64 t.kind)), .o (.ls (encTs t.args))]
abbrev vTs (xs : List Ty) : RS := .val false [.v (.ls (encTs xs))]
abbrev oTs (xs : List Ty) : RS := .val false [.o (.ls (encTs xs))]
theorem encT_eq (t : Ty) : encT t = [.sc (.int .i64 t.kind), .ls (encTs t.args)] := by cases t; rfl
theorem encTs_len : ∀ xs : List Ty, (encTs xs).length = xs.length
  | [] => rfl
  | _ :: xs => congrArg (· + 1) (encTs_len xs)
theorem rowAt_encTs : ∀ (xs : List Ty) (i : Nat) (h : i < xs.length), rowAt (encTs xs) i = [.sc (.int .i64 xs[i].kind), .ls (encTs xs[i].args)]
  | x :: _, 0, _ => encT_eq x
  | _ :: xs, i + 1, h => rowAt_encTs xs i (Nat.lt_of_succ_lt_succ h)
theorem sizeT_eq (t : Ty) : sizeT t = 1 + sizeTs t.args := by cases t; rfl
theorem sizeTs_take : ∀ (xs : List Ty) (i : Nat) (h : i < xs.length), sizeTs (xs.take (i + 1)) = sizeTs (xs.take i) + sizeT xs[i]
  | x :: xs, 0, _ => by simp [sizeTs]
  | x :: xs, i + 1, h => by
    have := sizeTs_take xs i (Nat.lt_of_succ_lt_succ h)
    simp only [List.take_succ_cons, sizeTs, List.getElem_cons_succ]
    omega
theorem len_le_sizeTs : ∀ (xs : List Ty), xs.length ≤ sizeTs xs
  | [] => Nat.le_refl _
  | .mk k a :: xs => by
    have := len_le_sizeTs xs
    simp only [sizeTs, sizeT, List.length_cons]
    omega
/-- What is behind place i counts as well. -/
theorem sizeTs_rest : ∀ (xs : List Ty) (i : Nat), i ≤ xs.length → sizeTs (xs.take i) + (xs.length - i) ≤ sizeTs xs
  | [], i, _ => by simp [sizeTs]
  | x :: xs, 0, _ => by
    have := len_le_sizeTs (x :: xs)
    simpa [sizeTs] using this
  | x :: xs, i + 1, h => by
    have := sizeTs_rest xs i (Nat.le_of_succ_le_succ h)
    simp only [List.take_succ_cons, sizeTs, List.length_cons]
    omega
theorem sizeT_mem : ∀ {xs : List Ty} {a : Ty}, a ∈ xs → sizeT a ≤ sizeTs xs
  | x :: xs, a, h => by
    simp only [sizeTs]
    rcases List.mem_cons.1 h with rfl | h
    · omega
    · have := sizeT_mem h; omega
/-- The first i elements, then empty ones. -/
def filled (xs : List Ty) (i : Nat) : List (List Leaf) := encTs (xs.take i) ++ List.replicate (xs.length - i) [.sc (.int .i64 0), .ls []]
theorem filled_len (xs : List Ty) (i : Nat) (h : i ≤ xs.length) : (filled xs i).length = xs.length := by
  simp [filled, encTs_len]; omega
theorem filled_row (xs : List Ty) (i : Nat) (h : i < xs.length) : rowAt (filled xs i) i = [.sc (.int .i64 0), .ls []] := by
  unfold filled rowAt
  have hl : (encTs (xs.take i)).length = i := by rw [encTs_len]; simp; omega
  obtain ⟨k, hk⟩ : ∃ k, xs.length - i = k + 1 := ⟨xs.length - i - 1, by omega⟩
  rw [List.getD_eq_getElem?_getD, List.getElem?_append_right (by omega), hl, Nat.sub_self, hk, List.replicate_succ]
  rfl
theorem encTs_append : ∀ (a b : List Ty), encTs (a ++ b) = encTs a ++ encTs b
  | [], _ => rfl
  | x :: a, b => by simp only [List.cons_append, encTs, encTs_append a b]
theorem filled_set (xs : List Ty) (i : Nat) (h : i < xs.length) : (filled xs i).set i [.sc (.int .i64 xs[i].kind), .ls (encTs xs[i].args)] = filled xs (i + 1) := by
  unfold filled
  have hl : (encTs (xs.take i)).length = i := by rw [encTs_len]; simp; omega
  rw [List.set_append_right _ _ (by omega), hl, Nat.sub_self]
  obtain ⟨k, hk⟩ : ∃ k, xs.length - i = k + 1 := ⟨xs.length - i - 1, by omega⟩
  rw [hk, List.replicate_succ, List.set_cons_zero, List.take_succ_eq_append_getElem h, encTs_append, show xs.length - (i + 1) = k by omega, List.append_assoc]
  simp [encTs, encT_eq]
theorem filled_all (xs : List Ty) : filled xs xs.length = encTs xs := by simp [filled]
/-! two types the same -/
mutual
def eqT : Ty → Ty → Bool
  | .mk k xs, .mk k' ys => (k == k') && eqTs xs ys
def eqTs : List Ty → List Ty → Bool
  | [], [] => true
  | x :: xs, y :: ys => eqT x y && eqTs xs ys
  | _, _ => false
end
theorem eqTs_len : ∀ (xs ys : List Ty), xs.length ≠ ys.length → eqTs xs ys = false
  | [], [], h => absurd rfl h
  | [], _ :: _, _ => rfl
  | _ :: _, [], _ => rfl
  | x :: xs, y :: ys, h => by
    simp only [eqTs]
    rw [eqTs_len xs ys (fun he => h (by simp [he]))]
    simp
theorem eqTs_take : ∀ (xs ys : List Ty) (i : Nat) (h : i < xs.length) (h' : i < ys.length), eqTs (xs.take (i + 1)) (ys.take (i + 1)) = (eqTs (xs.take i) (ys.take i) && eqT xs[i] ys[i])
  | x :: xs, y :: ys, 0, _, _ => by simp [eqTs]
  | x :: xs, y :: ys, i + 1, h, h' => by
    simp only [List.take_succ_cons, eqTs, List.getElem_cons_succ]
    rw [eqTs_take xs ys i (Nat.lt_of_succ_lt_succ h) (Nat.lt_of_succ_lt_succ h'), Bool.and_assoc]
theorem eqTs_false : ∀ (xs ys : List Ty) (i : Nat) (h : i < xs.length) (h' : i < ys.length), eqT xs[i] ys[i] = false → eqTs xs ys = false
  | x :: xs, y :: ys, 0, _, _, hb => by
    simp only [eqTs]
    rw [show eqT x y = false from hb]
    rfl
  | x :: xs, y :: ys, i + 1, h, h', hb => by
    simp only [eqTs]
    rw [eqTs_false xs ys i (Nat.lt_of_succ_lt_succ h) (Nat.lt_of_succ_lt_succ h') hb]
    simp
mutual
theorem eqT_refl : ∀ t : Ty, eqT t t = true
  | .mk k xs => by simp [eqT, eqTs_refl xs]
theorem eqTs_refl : ∀ xs : List Ty, eqTs xs xs = true
  | [] => rfl
  | x :: xs => by simp [eqTs, eqT_refl x, eqTs_refl xs]
end
/-! how deep a type is -/
mutual
def depthT : Ty → Nat
  | .mk _ xs => depthTs xs + 1
def depthTs : List Ty → Nat
  | [] => 0
  | t :: ts => max (depthT t) (depthTs ts)
end
theorem depthTs_take : ∀ (xs : List Ty) (i : Nat) (h : i < xs.length), depthTs (xs.take (i + 1)) = max (depthTs (xs.take i)) (depthT xs[i])
  | x :: xs, 0, _ => by simp [depthTs]
  | x :: xs, i + 1, h => by
    have := depthTs_take xs i (Nat.lt_of_succ_lt_succ h)
    simp only [List.take_succ_cons, depthTs, List.getElem_cons_succ]
    omega
mutual
theorem depth_le_size : ∀ t : Ty, depthT t ≤ sizeT t
  | .mk k xs => by
    have := depths_le_sizes xs
    simp only [depthT, sizeT]
    omega
theorem depths_le_sizes : ∀ xs : List Ty, depthTs xs ≤ sizeTs xs
  | [] => Nat.le_refl _
  | x :: xs => by
    have := depth_le_size x
    have := depths_le_sizes xs
    simp only [depthTs, sizeTs]
    omega
end
theorem depthTs_le : ∀ (xs : List Ty) (i : Nat), depthTs (xs.take i) ≤ sizeTs xs
  | [], i => by simp [depthTs]
  | x :: xs, 0 => by simp [depthTs]
  | x :: xs, i + 1 => by
    have := depthTs_le xs i
    have := depth_le_size x
    simp only [List.take_succ_cons, depthTs, sizeTs]
    omega
end Go.Proofs.Ythhfhllfbnpcgaa.Co
