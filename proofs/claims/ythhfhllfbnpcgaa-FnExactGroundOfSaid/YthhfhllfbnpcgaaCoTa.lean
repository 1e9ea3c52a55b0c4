/- Lists of strings and of numbers as plain data. -/
import Derived.Test.YthhfhllfbnpcgaaCoT
namespace Go.Proofs.Ythhfhllfbnpcgaa.Co
open Go
set_option linter.unusedSimpArgs false
set_option linter.unusedVariables false
abbrev rS (s : ByteArray) : RS := .val false [.v (.sc (.string s))]
def encI (xs : List Int) : List (List Leaf) := xs.map fun n => [.sc (.int .i64 n)]
def encS (xs : List ByteArray) : List (List Leaf) := xs.map fun s => [.sc (.string s)]
abbrev vSs (xs : List ByteArray) : RS := .val false [.v (.ls (encS xs))]
abbrev oSs (xs : List ByteArray) : RS := .val false [.o (.ls (encS xs))]
abbrev vIs (xs : List Int) : RS := .val false [.v (.ls (encI xs))]
abbrev oIs (xs : List Int) : RS := .val false [.o (.ls (encI xs))]
theorem encS_len (xs : List ByteArray) : (encS xs).length = xs.length := by simp [encS]
theorem encI_len (xs : List Int) : (encI xs).length = xs.length := by simp [encI]
theorem rowAt_map {α : Type} (f : α → List Leaf) (xs : List α) (i : Nat) (h : i < xs.length) : rowAt (xs.map f) i = f xs[i] := by
  unfold rowAt
  rw [List.getD_eq_getElem?_getD, List.getElem?_map, List.getElem?_eq_getElem h]
  rfl
theorem rowAt_set (xs : List (List Leaf)) (i : Nat) (row : List Leaf) (h : i < xs.length) : rowAt (xs.set i row) i = row := by
  unfold rowAt
  rw [List.getD_eq_getElem?_getD, List.getElem?_set_self h]
  rfl
theorem rowAt_encS (xs : List ByteArray) (i : Nat) (h : i < xs.length) : rowAt (encS xs) i = [.sc (.string xs[i])] := rowAt_map _ xs i h
theorem rowAt_encI (xs : List Int) (i : Nat) (h : i < xs.length) : rowAt (encI xs) i = [.sc (.int .i64 xs[i])] := rowAt_map _ xs i h
theorem encS_app (xs ys : List ByteArray) : encS xs ++ encS ys = encS (xs ++ ys) := by simp [encS]
theorem encI_app (xs ys : List Int) : encI xs ++ encI ys = encI (xs ++ ys) := by simp [encI]
theorem encS_one (s : ByteArray) : [[Leaf.sc (.string s)]] = encS [s] := rfl
theorem encI_one (n : Int) : [[Leaf.sc (.int .i64 n)]] = encI [n] := rfl
theorem encS_set (xs : List ByteArray) (i : Nat) (s : ByteArray) : (encS xs).set i [.sc (.string s)] = encS (xs.set i s) := by simp [encS, List.map_set]
theorem encI_set (xs : List Int) (i : Nat) (n : Int) : (encI xs).set i [.sc (.int .i64 n)] = encI (xs.set i n) := by simp [encI, List.map_set]
theorem rows_encS (xs : List ByteArray) : Rows 1 (encS xs) = True := by simp [Rows, encS]
theorem rows_encI (xs : List Int) : Rows 1 (encI xs) = True := by simp [Rows, encI]
theorem scrows_encS (xs : List ByteArray) : ScRows (encS xs) = True := by simp [ScRows, encS, Leaf.isSc]
theorem scrows_encI (xs : List Int) : ScRows (encI xs) = True := by simp [ScRows, encI, Leaf.isSc]
theorem rows_encTs : ∀ (xs : List Ty), Rows 2 (encTs xs) = True
  | [] => by simp [Rows, encTs]
  | .mk k a :: xs => by
    have := rows_encTs xs
    simp only [encTs, encT, rows_cons, this]
    simp
/-- The first i elements, then others. -/
def mixed1 {α : Type} (xs ys : List α) (i : Nat) : List α := xs.take i ++ ys.drop i
theorem mixed1_len {α : Type} (xs ys : List α) (i : Nat) (h : xs.length = ys.length) : (mixed1 xs ys i).length = ys.length := by
  simp [mixed1]; omega
theorem mixed1_set {α : Type} (xs ys : List α) (i : Nat) (h : xs.length = ys.length) (hi : i < xs.length) : (mixed1 xs ys i).set i xs[i] = mixed1 xs ys (i + 1) := by
  unfold mixed1
  have hl : (xs.take i).length = i := by simp; omega
  rw [List.set_append_right _ _ (by omega), hl, Nat.sub_self, List.take_succ_eq_append_getElem hi, List.append_assoc]
  rw [List.drop_eq_getElem_cons (by omega : i < ys.length), List.set_cons_zero]
  rfl
theorem mixed1_get {α : Type} (xs ys : List α) (i : Nat) (h : xs.length = ys.length) (hi : i < ys.length) : (mixed1 xs ys i)[i]'(by rw [mixed1_len xs ys i h]; exact hi) = ys[i] := by
  unfold mixed1
  have hl : (xs.take i).length = i := by simp; omega
  rw [List.getElem_append_right (by omega)]
  simp [hl]
theorem mixed1_zero {α : Type} (xs ys : List α) : mixed1 xs ys 0 = ys := by simp [mixed1]
theorem mixed1_all {α : Type} (xs ys : List α) (h : xs.length = ys.length) : mixed1 xs ys xs.length = xs := by
  unfold mixed1
  rw [List.take_length, h, List.drop_length, List.append_nil]
/-- What is left of a number. -/
def leftT (t : Nat) (left : Int) : Int := if t ≤ left then left - t else -1
theorem leftT_or (n : Nat) (l : Int) : leftT n l = -1 ∨ (leftT n l = l - n ∧ (n : Int) ≤ l) := by
  unfold leftT
  split
  · exact .inr ⟨rfl, by assumption⟩
  · exact .inl rfl
abbrev rU8 (b : Int) : RS := .val false [.v (.sc (.int .u8 b))]
/-- Bytes of all strings. -/
def bytesS : List ByteArray → Nat
  | [] => 0
  | s :: xs => s.size + bytesS xs
theorem bytesS_take : ∀ (xs : List ByteArray) (i : Nat) (h : i < xs.length), bytesS (xs.take (i + 1)) = bytesS (xs.take i) + xs[i].size
  | x :: xs, 0, _ => by simp [bytesS]
  | x :: xs, i + 1, h => by
    have := bytesS_take xs i (Nat.lt_of_succ_lt_succ h)
    simp only [List.take_succ_cons, bytesS, List.getElem_cons_succ]
    omega
theorem bytesS_le : ∀ (xs : List ByteArray) (i : Nat), bytesS (xs.take i) ≤ bytesS xs
  | [], i => by simp [bytesS]
  | x :: xs, 0 => by simp [bytesS]
  | x :: xs, i + 1 => by
    have := bytesS_le xs i
    simp only [List.take_succ_cons, bytesS]
    omega
theorem bytesS_mem : ∀ {xs : List ByteArray} {s : ByteArray}, s ∈ xs → s.size ≤ bytesS xs
  | x :: xs, s, h => by
    simp only [bytesS]
    rcases List.mem_cons.1 h with rfl | h
    · omega
    · have := bytesS_mem h; omega
theorem sub_take {α : Type} (xs : List α) (i : Nat) (h : i < xs.length) : xs.take (i + 1) = xs.take i ++ [xs[i]] := List.take_succ_eq_append_getElem h
theorem beq_str (a b : ByteArray) : (a.toList == b.toList) = decide (a = b) := by
  by_cases h : a = b
  · subst h; simp
  · have : a.toList ≠ b.toList := fun he => h (by
      have key : ∀ (x : ByteArray), x.toList = x.data.toList := fun x => by
        have hl : ∀ (n i : Nat) (r : List UInt8), n = x.size - i → ByteArray.toList.loop x i r = r.reverse ++ x.data.toList.drop i := by
          intro n
          induction n with
          | zero =>
            intro i r hn
            unfold ByteArray.toList.loop
            rw [if_neg (by omega)]
            have : x.data.toList.length ≤ i := by
              have : x.data.size = x.size := rfl
              simp; omega
            rw [List.drop_eq_nil_of_le this, List.append_nil]
          | succ n ih =>
            intro i r hn
            have hi : i < x.size := by omega
            unfold ByteArray.toList.loop
            rw [if_pos hi, ih (i + 1) _ (by omega)]
            have hi' : i < x.data.toList.length := by
              have : x.data.size = x.size := rfl
              simp; omega
            rw [List.drop_eq_getElem_cons hi']
            have hg : x.get! i = x.data.toList[i] := by
              have h2 : i < x.data.size := hi
              show x.data[i]! = _
              rw [getElem!_pos x.data i h2]
              simp
            simp [hg]
        have := hl x.size 0 [] (by omega)
        simpa [ByteArray.toList] using this
      rw [key, key] at he
      cases a; cases b
      simp at he
      simpa using he)
    simp [h, this]
end Go.Proofs.Ythhfhllfbnpcgaa.Co
