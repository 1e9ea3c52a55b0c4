/- From the reading of a call's arguments, as the rows state it, to plain data: every value of types made of numbers, truth values, strings, slices and structs reads as data. -/
import Derived.Test.YthhfhllfbnpcgaaCoM
import Derived.OpenShut
namespace Go.Proofs.Ythhfhllfbnpcgaa.Co
open Go
set_option linter.unusedSimpArgs false
set_option linter.unusedVariables false

/-- Cells that say data. -/
structure Reps (S : Nat → Prop) (w : World) (ls : List Leaf) (cs : List Value) : Prop where
  len : ls.length = cs.length
  at_ : ∀ (i : Nat) l u, ls[i]? = some l → cs[i]? = some u → Rep S w l u
/-- Data of a type. -/
inductive Sha (P : Program) : TypeId → List Leaf → Prop
  | bool (t : TypeId) (b : Bool) (h : P.underlying t = some .bool) : Sha P t [.sc (.bool b)]
  | int (t : TypeId) (k : IntKind) (n : Int) (h : P.underlying t = some (.int k)) (hw : (Lit.int k n).wf = true) : Sha P t [.sc (.int k n)]
  | str (t : TypeId) (s : ByteArray) (h : P.underlying t = some .string) (hw : s.size ≤ maxLen) : Sha P t [.sc (.string s)]
  | slice (t e : TypeId) (rows : List (List Leaf)) (h : P.underlying t = some (.slice e)) (hl : rows.length ≤ maxLen) (hr : ∀ row ∈ rows, Sha P e row) : Sha P t [.ls rows]
  | struct (t : TypeId) (fs : Array Field) (ls : List Leaf) (h : P.underlying t = some (.struct fs)) (hl : ls.length = P.cellsOf t) (hf : ∀ (i : Nat) (f : Field), fs[i]? = some f → Sha P f.type ((ls.drop f.offset).take (P.cellsOf f.type))) : Sha P t ls
def consec (P : Program) : Nat → List Field → Option Nat
  | o, [] => some o
  | o, f :: r => if f.offset = o then consec P (o + P.cellsOf f.type) r else none
/-- A set of types that are made of each other, of numbers, truth values and strings. -/
def plainSet (P : Program) (ts : List TypeId) : Bool := ts.all fun t => match P.underlying t with
  | some .bool => true
  | some (.int _) => true
  | some .string => true
  | some (.slice e) => ts.contains e && decide (0 < P.cellsOf e)
  | some (.struct fs) => fs.toList.all (fun f => ts.contains f.type) && decide (consec P 0 fs.toList = some (P.cellsOf t))
  | _ => false
theorem consec_le {P : Program} : ∀ {fl : List Field} {o n : Nat}, consec P o fl = some n → o ≤ n
  | [], o, n, h => by injection h with h; omega
  | f :: r, o, n, h => by
    simp only [consec] at h
    split at h
    · have := consec_le h; omega
    · cases h
section
variable {H : Type} {enc : TypeId × Value → H} {P : Program} {w : World} {S : Nat → Prop}
theorem Reps.append {a b : List Leaf} {c d : List Value} (h : Reps S w a c) (h' : Reps S w b d) : Reps S w (a ++ b) (c ++ d) := by
  refine ⟨by simp [h.len, h'.len], fun i l u hl hu => ?_⟩
  rcases Nat.lt_or_ge i a.length with hi | hi
  · rw [List.getElem?_append_left hi] at hl
    rw [List.getElem?_append_left (by have := h.len; omega)] at hu
    exact h.at_ i l u hl hu
  · rw [List.getElem?_append_right hi] at hl
    rw [List.getElem?_append_right (by have := h.len; omega), ← h.len] at hu
    exact h'.at_ _ l u hl hu
theorem fields_read : ∀ {fl : List Field} {o : Nat} {cs : List Value}, consec P o fl = some cs.length → (∀ f ∈ fl, ∃ ls, Sha P f.type ls ∧ Reps S w ls ((cs.drop f.offset).take (P.cellsOf f.type))) →
    ∃ ls, Reps S w ls (cs.drop o) ∧ ∀ f ∈ fl, o ≤ f.offset ∧ Sha P f.type ((ls.drop (f.offset - o)).take (P.cellsOf f.type))
  | [], o, cs, h, _ => by
    injection h with h
    refine ⟨[], ?_, fun f hf => by cases hf⟩
    rw [h, List.drop_length]
    exact ⟨rfl, fun i l u hl => by simp at hl⟩
  | f :: r, o, cs, h, hf => by
    simp only [consec] at h
    split at h
    · rename_i ho
      have hle := consec_le h
      obtain ⟨lr, h1, h2⟩ := fields_read h (fun g hg => hf g (by simp [hg]))
      obtain ⟨l0, h3, h4⟩ := hf f (by simp)
      rw [ho] at h4
      have hl0 : l0.length = P.cellsOf f.type := by
        rw [h4.len, List.length_take, List.length_drop]; omega
      refine ⟨l0 ++ lr, ?_, fun g hg => ?_⟩
      · have := h4.append h1
        rw [show cs.drop (o + P.cellsOf f.type) = (cs.drop o).drop (P.cellsOf f.type) by rw [List.drop_drop], List.take_append_drop] at this
        exact this
      · rcases List.mem_cons.1 hg with rfl | hg
        · refine ⟨by omega, ?_⟩
          rw [ho, Nat.sub_self, List.drop_zero, ← hl0, List.take_left']
          · exact h3
          · rfl
        · obtain ⟨k1, k2⟩ := h2 g hg
          refine ⟨by omega, ?_⟩
          rw [List.drop_append, List.drop_eq_nil_of_le (by omega), List.nil_append, show g.offset - o - l0.length = g.offset - (o + P.cellsOf f.type) by omega]
          exact k2
    · cases h
theorem choose_list {α : Type} {p : Nat → α → Prop} : ∀ (n : Nat), (∀ i, i < n → ∃ x, p i x) → ∃ xs : List α, xs.length = n ∧ ∀ (i : Nat) x, xs[i]? = some x → p i x
  | 0, _ => ⟨[], rfl, fun i x h => by simp at h⟩
  | n + 1, h => by
    obtain ⟨xs, h1, h2⟩ := choose_list n (fun i hi => h i (by omega))
    obtain ⟨x, hx⟩ := h n (by omega)
    refine ⟨xs ++ [x], by simp [h1], fun i y hy => ?_⟩
    rcases Nat.lt_or_ge i n with hi | hi
    · rw [List.getElem?_append_left (by omega)] at hy
      exact h2 i y hy
    · rw [List.getElem?_append_right (by omega), h1] at hy
      have hi0 : i = n := by
        have := (List.getElem?_eq_some_iff.1 hy).1
        simp at this; omega
      subst hi0
      rw [Nat.sub_self] at hy
      injection hy with hy
      exact hy ▸ hx
theorem mapM_range {f : Nat → Option Value} {n : Nat} {cs : List Value} (h : (List.range n).mapM f = some cs) : cs.length = n ∧ ∀ i, i < n → f i = cs[i]? :=
  ⟨by simpa using mapM_some_length h, fun i hi => mapM_some_get h i i (by simp [hi])⟩
theorem cells_read {base n : Nat} {a : Addr} {cs : List Value} (h : w.cells? base a n = some cs) : cs.length = n ∧ ∀ i, i < n → w.cell? (a.add i) = cs[i]? := by
  unfold World.cells? at h
  split at h
  · exact mapM_range h
  · cases h
/-- Whatever the rows read is data. -/
theorem read (ts : List TypeId) (hp : plainSet P ts = true) : ∀ (fuel : Nat) (t : TypeId) (cs : List Value) (x : DataW H × List MemPlace), t ∈ ts → DataW.trod enc P w 0 (fun _ => true) true fuel t cs = some x →
    ∃ ls, Sha P t ls ∧ Reps (fun b => b < w.heap.size) w ls cs := by
  intro fuel
  induction fuel with
  | zero => intro t cs x _ h; simp [DataW.trod] at h
  | succ fuel ih =>
    intro t cs x ht h
    have hpt := List.all_eq_true.1 hp t ht
    have one : ∀ (l : Leaf) (u : Value), Rep (fun b => b < w.heap.size) w l u → Reps (fun b => b < w.heap.size) w [l] [u] := fun l u hr =>
      ⟨rfl, fun i l' u' h1 h2 => by
        cases i with
        | zero => injection h1 with h1; injection h2 with h2; subst h1; subst h2; exact hr
        | succ i => simp at h1⟩
    split at hpt
    · rename_i hu
      obtain ⟨b, rfl, _⟩ := DataW.trod_bool hu h
      exact ⟨_, .bool t b hu, one _ _ (.sc _ rfl)⟩
    · rename_i k hu
      obtain ⟨n, rfl, _, hw⟩ := DataW.trod_int hu h
      exact ⟨_, .int t k n hu hw, one _ _ (.sc _ rfl)⟩
    · rename_i hu
      obtain ⟨s, rfl, _, hw⟩ := DataW.trod_string hu h
      exact ⟨_, .str t s hu hw, one _ _ (.sc _ rfl)⟩
    · rename_i e hu
      simp only [Bool.and_eq_true, decide_eq_true_eq, List.contains_iff_mem] at hpt
      obtain ⟨he, hpos⟩ := hpt
      rcases DataW.trod_slice hu h with ⟨rfl, _⟩ | ⟨a, len, cap, elems, rest, n, hn, rfl, _, _, hlc, hcm, hel, helem, _, _⟩
      · exact ⟨[.ls []], .slice t e [] hu (Nat.zero_le _) (fun row hr => by cases hr), one _ _ (.nl none 0 (Nat.zero_le _))⟩
      · have hn' : n = fuel := by omega
        subst hn'
        have hrow : ∀ i, i < len → ∃ row : List Leaf, Sha P e row ∧ ∃ ci, w.cells? 0 (a.add (i * P.cellsOf e)) (P.cellsOf e) = some ci ∧ Reps (fun b => b < w.heap.size) w row ci := by
          intro i hi
          have h1 := helem i hi
          rw [List.getElem?_eq_getElem (by omega)] at h1
          obtain ⟨ci, h2, h3⟩ := Option.bind_eq_some_iff.1 h1
          obtain ⟨row, h4, h5⟩ := ih e ci _ he h3
          exact ⟨row, h4, ci, h2, h5⟩
        obtain ⟨rows, hr1, hr2⟩ := choose_list len hrow
        refine ⟨[.ls rows], .slice t e rows hu (by omega) (fun row hr => ?_), one _ _ ?_⟩
        · obtain ⟨i, hi⟩ := List.getElem?_of_mem hr
          exact (hr2 i row hi).1
        · cases hlen : len with
          | zero =>
            have : rows = [] := List.eq_nil_of_length_eq_zero (by omega)
            subst this
            exact .nl _ _ hcm
          | succ len' =>
            obtain ⟨row0, hrow0⟩ : ∃ row, rows[0]? = some row := ⟨rows[0], by rw [List.getElem?_eq_getElem (by omega)]⟩
            obtain ⟨_, c0, hc0, _⟩ := hr2 0 row0 hrow0
            obtain ⟨hl0, hg0⟩ := cells_read hc0
            have h00 := hg0 0 hpos
            rw [List.getElem?_eq_getElem (by omega)] at h00
            simp only [Nat.zero_mul, Addr.add, if_true] at h00
            obtain ⟨b, o, sp⟩ := a
            have hsp : sp = none ∧ b < w.heap.size := by
              unfold World.cell? at h00
              split at h00
              · rename_i hb
                split at h00
                · cases h00
                · rename_i hs
                  exact ⟨by simpa using hs, (Array.getElem?_eq_some_iff.1 hb).1⟩
              · cases h00
            obtain ⟨rfl, hb⟩ := hsp
            rw [← hlen, ← hr1]
            have hadd : ∀ i j, ((⟨b, o, none⟩ : Addr).add i).add j = ⟨b, o + (i + j), none⟩ := fun i j => by
              unfold Addr.add
              split <;> split <;> simp_all <;> omega
            refine .ls rows (P.cellsOf e) b o cap (fun i j => (w.cell? ⟨b, o + (i * P.cellsOf e + j), none⟩).getD undef) (by omega) hcm hb (fun row hr => ?_) (fun i j l hl => ?_) (fun i j l hl => ?_)
            · obtain ⟨i, hi⟩ := List.getElem?_of_mem hr
              obtain ⟨_, ci, h1, h2⟩ := hr2 i row hi
              rw [h2.len, (cells_read h1).1]
            · obtain ⟨row, h1, h2⟩ := Option.bind_eq_some_iff.1 hl
              obtain ⟨_, ci, h3, h4⟩ := hr2 i row h1
              obtain ⟨h5, h6⟩ := cells_read h3
              have hj : j < P.cellsOf e := by
                have := (List.getElem?_eq_some_iff.1 h2).1
                have := h4.len; omega
              have h7 := h6 j hj
              rw [hadd, List.getElem?_eq_getElem (by omega)] at h7
              simp only [h7, Option.getD_some]
            · obtain ⟨row, h1, h2⟩ := Option.bind_eq_some_iff.1 hl
              obtain ⟨_, ci, h3, h4⟩ := hr2 i row h1
              obtain ⟨h5, h6⟩ := cells_read h3
              have hj : j < P.cellsOf e := by
                have := (List.getElem?_eq_some_iff.1 h2).1
                have := h4.len; omega
              have h7 := h6 j hj
              rw [hadd, List.getElem?_eq_getElem (by omega)] at h7
              simp only [h7, Option.getD_some]
              exact h4.at_ j l _ h2 (List.getElem?_eq_getElem (by omega))
    · rename_i fs hu
      simp only [Bool.and_eq_true, decide_eq_true_eq] at hpt
      obtain ⟨hfs, hcon⟩ := hpt
      obtain ⟨xs, n, hn, _, hcl, hxl, hfr⟩ := DataW.trod_struct hu h
      have hn' : n = fuel := by omega
      subst hn'
      rw [← hcl] at hcon
      obtain ⟨ls, h1, h2⟩ := fields_read (S := fun b => b < w.heap.size) (w := w) hcon (fun f hf => by
        obtain ⟨i, hi⟩ := List.getElem?_of_mem hf
        have hi' : fs[i]? = some f := by simpa using hi
        have h3 := hfr i f hi'
        have hil : i < xs.length := by rw [hxl]; exact (Array.getElem?_eq_some_iff.1 hi').1
        rw [List.getElem?_eq_getElem hil] at h3
        have hft : f.type ∈ ts := by simpa using List.all_eq_true.1 hfs f hf
        exact ih f.type _ _ hft h3)
      rw [List.drop_zero] at h1
      refine ⟨ls, .struct t fs ls hu (by rw [h1.len, hcl]) (fun i f hi => ?_), h1⟩
      have := (h2 f (Array.mem_toList_iff.2 (Array.mem_of_getElem? hi))).2
      simpa using this
    · cases hpt
end
end Go.Proofs.Ythhfhllfbnpcgaa.Co
