/- The equations by which lists are built of parts and appended to. -/
import Derived.Test.YthhfhllfbnpcgaaCoMa
namespace Go.Proofs.Ythhfhllfbnpcgaa.Co
open Go
set_option linter.unusedSimpArgs false
set_option linter.unusedVariables false
section
variable {P : Program} {m m1 : Mem} {K : Slot → Mem → Prop}
/-- Parts in line, each of sz cells. -/
def partsOk (sz : Nat) : Nat → List (Nat × Slot) → Bool
  | _, [] => true
  | i, (j, .val _ ls) :: r => (j == i) && (ls.length == sz) && partsOk sz (i + 1) r
  | _, _ :: _ => false
theorem p_nil {sz i : Nat} : partsOk sz i [] = true := rfl
theorem p_cons {sz i j : Nat} {b : Bool} {ls : List TL} {r : List (Nat × Slot)} : partsOk sz i ((j, .val b ls) :: r) = ((j == i) && (ls.length == sz) && partsOk sz (i + 1) r) := rfl
def flatP : List (Nat × Slot) → List TL
  | [] => []
  | (_, .val _ ls) :: r => ls ++ flatP r
  | _ :: r => flatP r
theorem flatP_len {sz : Nat} : ∀ {parts : List (Nat × Slot)} {i : Nat}, partsOk sz i parts = true → (flatP parts).length = parts.length * sz
  | [], i, _ => by simp [flatP]
  | (j, .val b ls) :: r, i, h => by
    simp only [partsOk, Bool.and_eq_true, beq_iff_eq] at h
    have := flatP_len h.2
    simp only [flatP, List.length_append, this, h.1.2, List.length_cons, Nat.succ_mul]
    omega
  | (j, .ptr _ _) :: r, i, h => by simp [partsOk] at h
  | (j, .rp _) :: r, i, h => by simp [partsOk] at h
  | (j, .ep _ _ _ _) :: r, i, h => by simp [partsOk] at h
  | (j, .clo _ _) :: r, i, h => by simp [partsOk] at h
  | (j, .tup _) :: r, i, h => by simp [partsOk] at h
  | (j, .junk) :: r, i, h => by simp [partsOk] at h
theorem fill_flat {sz : Nat} : ∀ (parts : List (Nat × Slot)) (i : Nat) (pre post : List TL), partsOk sz i parts = true → pre.length = i * sz → parts.length * sz ≤ post.length →
    fillL (fun i => some (i * sz, sz)) (pre ++ post) parts = some (pre ++ flatP parts ++ post.drop (parts.length * sz))
  | [], i, pre, post, _, _, _ => by simp [fillL, flatP]
  | (j, .val b ls) :: r, i, pre, post, h, hp, hl => by
    simp only [partsOk, Bool.and_eq_true, beq_iff_eq] at h
    obtain ⟨⟨rfl, h2⟩, h3⟩ := h
    simp only [List.length_cons, Nat.succ_mul] at hl
    simp only [fillL]
    rw [if_pos ⟨h2, by rw [List.length_append, hp]; omega⟩]
    have e1 : (pre ++ post).take (j * sz) = pre := by rw [← hp, List.take_left']; rfl
    have e2 : (pre ++ post).drop (j * sz + sz) = post.drop sz := by
      rw [List.drop_append, List.drop_eq_nil_of_le (by omega), List.nil_append, show j * sz + sz - pre.length = sz by omega]
    rw [e1, e2, fill_flat r (j + 1) (pre ++ ls) (post.drop sz) h3 (by rw [List.length_append, hp, h2, Nat.succ_mul]) (by rw [List.length_drop]; omega)]
    simp only [flatP, List.append_assoc, List.drop_drop, List.length_cons, Nat.succ_mul]
    rw [Nat.add_comm sz]
  | (j, .ptr _ _) :: r, i, _, _, h, _, _ => by simp [partsOk] at h
  | (j, .rp _) :: r, i, _, _, h, _, _ => by simp [partsOk] at h
  | (j, .ep _ _ _ _) :: r, i, _, _, h, _, _ => by simp [partsOk] at h
  | (j, .clo _ _) :: r, i, _, _, h, _, _ => by simp [partsOk] at h
  | (j, .tup _) :: r, i, _, _, h, _, _ => by simp [partsOk] at h
  | (j, .junk) :: r, i, _, _, h, _, _ => by simp [partsOk] at h
theorem repL_length (n : Nat) (z : List TL) : (repL n z).length = n * z.length := by simp [repL]
def bdK1 (x v : Option (List Leaf × Mem)) (n sz : Nat) (K : Slot → Mem → Prop) : Prop := match x with
  | some (ls, m') => K (.val false [.o m'.nx]) (m'.newTag (.ls (chunk n sz ls)))
  | none => match v with
    | some (ls, m') => K (.val false [.v (.ls (chunk n sz ls))]) m'
    | none => False
/-- A list built of parts in line. -/
theorem x_bdn {sz n : Nat} {z : List TL} {parts : List (Nat × Slot)} (h1 : (partsOk sz 0 parts && (z.length == sz) && decide (0 < sz) && decide (n * sz ≤ 16777216) && (parts.length == n)) = true) :
    bdN (some sz) (some z) n parts m K = bdK1 (takeL (flatP parts) m) (viewL (flatP parts) m) n sz K := by
  simp only [Bool.and_eq_true, beq_iff_eq, decide_eq_true_eq] at h1
  obtain ⟨⟨⟨⟨h1, rfl⟩, h3⟩, h4⟩, rfl⟩ := h1
  have hf := fill_flat parts 0 [] (repL parts.length z) h1 (by simp) (by rw [repL_length]; exact Nat.le_refl _)
  simp only [List.nil_append] at hf
  rw [List.drop_eq_nil_of_le (by rw [repL_length]; exact Nat.le_refl _), List.append_nil] at hf
  unfold bdN bdK1
  simp only []
  rw [hf]
  simp only [true_and, eq_iff_iff]
  refine ⟨fun h => h.2, fun h => ⟨⟨h3, h4⟩, h⟩⟩
theorem x_bdK1 {ls : List Leaf} {m' : Mem} {v : Option (List Leaf × Mem)} {n sz : Nat} : bdK1 (some (ls, m')) v n sz K = K (.val false [.o m'.nx]) (m'.newTag (.ls (chunk n sz ls))) := rfl
theorem x_bdK0 {ls : List Leaf} {m' : Mem} {n sz : Nat} : bdK1 none (some (ls, m')) n sz K = K (.val false [.v (.ls (chunk n sz ls))]) m' := rfl
theorem x_fl_nil : flatP [] = [] := rfl
theorem x_fl {i : Nat} {b : Bool} {ls : List TL} {r : List (Nat × Slot)} : flatP ((i, .val b ls) :: r) = ls ++ flatP r := rfl
theorem x_ck0 {sz : Nat} {ls : List Leaf} : chunk 0 sz ls = [] := rfl
theorem x_ck {n sz : Nat} {ls : List Leaf} : chunk (n + 1) sz ls = ls.take sz :: chunk n sz (ls.drop sz) := by
  unfold chunk
  rw [List.range_succ_eq_map, List.map_cons, List.map_map]
  simp only [Nat.zero_mul, List.drop_zero]
  congr 1
  refine List.map_congr_left fun i _ => ?_
  simp only [Function.comp, List.drop_drop]
  rw [Nat.succ_mul, Nat.add_comm]
theorem t_vls {xs : List (List Leaf)} {ls : List TL} : takeL (.v (.ls xs) :: ls) m = none := rfl
theorem t_Cn {l : Leaf} : tkC l none = none := rfl
def vwC (l : Leaf) (x : Option (List Leaf × Mem)) : Option (List Leaf × Mem) := x.map fun p => (l :: p.1, p.2)
def vwO (l : Option Leaf) (x : Option (List Leaf × Mem)) : Option (List Leaf × Mem) := match l with
  | some l => vwC l x
  | none => none
theorem v_nil : viewL [] m = some ([], m) := rfl
theorem v_v {l : Leaf} {r : List TL} : viewL (.v l :: r) m = vwC l (viewL r m) := rfl
theorem v_nl {r : List TL} : viewL (.nl :: r) m = vwC (.ls []) (viewL r m) := rfl
theorem v_o {t : Nat} {r : List TL} : viewL (.o t :: r) m = vwO (m.leaf (.o t)) (viewL r (frzT m t)) := by
  simp only [viewL, vwO, vwC]
  cases m.leaf (.o t) <;> rfl
theorem v_C {l : Leaf} {ls : List Leaf} : vwC l (some (ls, m1)) = some (l :: ls, m1) := rfl
theorem v_O {l : Leaf} {x : Option (List Leaf × Mem)} : vwO (some l) x = vwC l x := rfl
/-! structs built of parts -/
def bsM (x : Option (List TL)) : Option Slot := x.map (.val true)
def bsK (b : Bool) (z : Option (List TL)) (pl : Nat → Option (Nat × Nat)) (parts : List (Nat × Slot)) : Option Slot := match b, z with
  | true, some z => bsM (fillL pl z parts)
  | _, _ => none
theorem b_build {t : TypeId} {parts : List (Nat × Slot)} : buildS P t parts = bsK (bldOf P t) (zeroOf P t) (plOf P t) parts := by
  unfold buildS bsK bsM
  cases bldOf P t <;> cases zeroOf P t <;> rfl
theorem b_bsK {z : List TL} {pl : Nat → Option (Nat × Nat)} {parts : List (Nat × Slot)} : bsK true (some z) pl parts = bsM (fillL pl z parts) := rfl
theorem b_bsM {ls : List TL} : bsM (some ls) = some (.val true ls) := rfl
def flK (x : Option (Nat × Nat)) (cells ls : List TL) (pl : Nat → Option (Nat × Nat)) (r : List (Nat × Slot)) : Option (List TL) := match x with
  | some (off, n) => if ls.length = n ∧ off + n ≤ cells.length then fillL pl (cells.take off ++ ls ++ cells.drop (off + n)) r else none
  | none => none
theorem b_fl_nil {pl : Nat → Option (Nat × Nat)} {cells : List TL} : fillL pl cells [] = some cells := rfl
theorem b_fl {pl : Nat → Option (Nat × Nat)} {cells ls : List TL} {i : Nat} {b : Bool} {r : List (Nat × Slot)} : fillL pl cells ((i, .val b ls) :: r) = flK (pl i) cells ls pl r := by
  simp only [fillL, flK]
  cases pl i <;> rfl
theorem b_flK {off n : Nat} {cells ls : List TL} {pl : Nat → Option (Nat × Nat)} {r : List (Nat × Slot)} : flK (some (off, n)) cells ls pl r = if ls.length = n ∧ off + n ≤ cells.length then fillL pl (cells.take off ++ ls ++ cells.drop (off + n)) r else none := rfl
/-! append -/
def Rows (sz : Nat) (xs : List (List Leaf)) : Prop := ∀ row ∈ xs, row.length = sz
def ScRows (xs : List (List Leaf)) : Prop := ∀ row ∈ xs, row.all Leaf.isSc = true
theorem rows_nil {sz : Nat} : Rows sz [] = True := by simp [Rows]
theorem rows_cons {sz : Nat} {r : List Leaf} {xs : List (List Leaf)} : Rows sz (r :: xs) = (r.length = sz ∧ Rows sz xs) := by simp [Rows]
theorem rows_app {sz : Nat} {xs ys : List (List Leaf)} (h : Rows sz xs) (k : Rows sz ys) : Rows sz (xs ++ ys) := by
  intro row hr
  rcases List.mem_append.1 hr with hr | hr
  · exact h row hr
  · exact k row hr
theorem scrows_nil : ScRows [] = True := by simp [ScRows]
def apX (sz by_ : Nat) (xs : List (List Leaf)) (tx : TL) (m1 : Mem) (K : Slot → Mem → Prop) : Prop := match tx with
  | .v (.ls ys) => (Rows sz ys ∧ ScRows ys ∧ (xs.length + ys.length) * by_ ≤ 140737488355328) ∧ K (.val false [.o m1.nx]) (m1.newTag (.ls (xs ++ ys)))
  | tx => apG sz by_ xs (takeL [tx] m1) K
where apG (sz by_ : Nat) (xs : List (List Leaf)) (y : Option (List Leaf × Mem)) (K : Slot → Mem → Prop) : Prop := match y with
  | some ([.ls ys], m2) => (Rows sz ys ∧ (xs.length + ys.length) * by_ ≤ 140737488355328) ∧ K (.val false [.o m2.nx]) (m2.newTag (.ls (xs ++ ys)))
  | _ => False
def apF (sz by_ : Option Nat) (z : Option (List TL)) (x : Option (List Leaf × Mem)) (tx : TL) (K : Slot → Mem → Prop) : Prop := match sz, by_, z, x with
  | some sz, some by_, some z, some ([.ls xs], m1) => ((z.length = sz ∧ 0 < sz ∧ 0 < by_) ∧ Rows sz xs) ∧ apX sz by_ xs tx m1 K
  | _, _, _, _ => False
def apE (P : Program) (e : Option TypeId) (ts tx : TL) (m : Mem) (K : Slot → Mem → Prop) : Prop := match e with
  | some e => apF (szOf P e) (bytesOf P e) (zeroOf P e) (takeL [ts] m) tx K
  | none => False
theorem x_append {t : TypeId} {ts tx : TL} : appendX P t (.val false [ts]) (.val false [tx]) m K = apE P (elOf P t) ts tx m K := by
  unfold appendX apE
  cases elOf P t with
  | none => rfl
  | some e =>
    simp only []
    unfold apF
    cases szOf P e with
    | none => rfl
    | some sz =>
    cases bytesOf P e with
    | none => rfl
    | some by_ =>
    cases zeroOf P e with
    | none => rfl
    | some z =>
    cases takeL [ts] m with
    | none => rfl
    | some p =>
      obtain ⟨ls, m1⟩ := p
      match ls with
      | [] => rfl
      | [.sc v] => rfl
      | .sc _ :: _ :: _ => rfl
      | .ls _ :: _ :: _ => rfl
      | [.ls xs] =>
        simp only [apX, Rows, ScRows]
        refine propext ⟨fun ⟨⟨a, b, c, d⟩, h⟩ => ⟨⟨⟨a, b, c⟩, d⟩, ?_⟩, fun ⟨⟨⟨a, b, c⟩, d⟩, h⟩ => ⟨⟨a, b, c, d⟩, ?_⟩⟩
        · cases tx with
          | v l => cases l with
            | sc v => exact h.elim
            | ls ys => exact h
          | nl => exact h
          | o t =>
            simp only [apX.apG, Rows]
            revert h
            simp only []
            cases takeL [TL.o t] m1 with
            | none => exact id
            | some q =>
              obtain ⟨l2, m2⟩ := q
              match l2 with
              | [] => exact id
              | [.sc v] => exact id
              | .sc _ :: _ :: _ => exact id
              | .ls _ :: _ :: _ => exact id
              | [.ls ys] => exact id
          | s => exact h.elim
        · cases tx with
          | v l => cases l with
            | sc v => exact h.elim
            | ls ys => exact h
          | nl => exact h
          | o t =>
            simp only [apX.apG, Rows] at h
            revert h
            simp only []
            cases takeL [TL.o t] m1 with
            | none => exact id
            | some q =>
              obtain ⟨l2, m2⟩ := q
              match l2 with
              | [] => exact id
              | [.sc v] => exact id
              | .sc _ :: _ :: _ => exact id
              | .ls _ :: _ :: _ => exact id
              | [.ls ys] => exact id
          | s => exact h.elim
theorem x_apE {e : TypeId} {ts tx : TL} : apE P (some e) ts tx m K = apF (szOf P e) (bytesOf P e) (zeroOf P e) (takeL [ts] m) tx K := rfl
theorem x_apF {sz by_ : Nat} {z : List TL} {xs : List (List Leaf)} {tx : TL} : apF (some sz) (some by_) (some z) (some ([.ls xs], m1)) tx K = (((z.length = sz ∧ 0 < sz ∧ 0 < by_) ∧ Rows sz xs) ∧ apX sz by_ xs tx m1 K) := rfl
theorem x_apX_v {sz by_ : Nat} {xs ys : List (List Leaf)} : apX sz by_ xs (.v (.ls ys)) m1 K = ((Rows sz ys ∧ ScRows ys ∧ (xs.length + ys.length) * by_ ≤ 140737488355328) ∧ K (.val false [.o m1.nx]) (m1.newTag (.ls (xs ++ ys)))) := rfl
theorem x_apX_o {sz by_ t : Nat} {xs : List (List Leaf)} : apX sz by_ xs (.o t) m1 K = apX.apG sz by_ xs (takeL [.o t] m1) K := rfl
theorem x_apX_nl {sz by_ : Nat} {xs : List (List Leaf)} : apX sz by_ xs .nl m1 K = apX.apG sz by_ xs (takeL [.nl] m1) K := rfl
theorem x_apG {sz by_ : Nat} {xs ys : List (List Leaf)} : apX.apG sz by_ xs (some ([.ls ys], m1)) K = ((Rows sz ys ∧ (xs.length + ys.length) * by_ ≤ 140737488355328) ∧ K (.val false [.o m1.nx]) (m1.newTag (.ls (xs ++ ys)))) := rfl
end
end Go.Proofs.Ythhfhllfbnpcgaa.Co
