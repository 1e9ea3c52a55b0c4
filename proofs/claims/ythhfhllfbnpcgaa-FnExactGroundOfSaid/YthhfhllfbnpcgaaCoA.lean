/- The first part of a small theory that this claim rests on: what a value says as plain data ('Leaf'), read in memory ('Rep') or owned as a tree of blocks of its own ('Own'), and that both live on while other blocks change. -/
import Derived.Calls
import Derived.Orders
import Derived.WalkKit
import Derived.KernelRfl
import Derived.Maps.AppendAt
import Derived.Below
namespace Go.Proofs.Ythhfhllfbnpcgaa.Co
open Go
set_option linter.unusedSimpArgs false
set_option linter.unusedVariables false

/-- Plain data: a value of one cell, or a slice: the list of its elements, each a list of cells. -/
inductive Leaf where
  | sc (v : Value)
  | ls (xs : List (List Leaf))

/-- What stands at place (i, j) of a list of rows. -/
def atL {α : Type} (xs : List (List α)) (i j : Nat) : Option α := (xs[i]?).bind (·[j]?)

/-- A value reads as the data; what it leads to lies in blocks of S. -/
inductive Rep (S : Nat → Prop) (w : World) : Leaf → Value → Prop
  | sc (v : Value) (h : v.oneCell' = true) : Rep S w (.sc v) v
  | nl (A : Option Addr) (c : Nat) (hc : c ≤ maxLen) : Rep S w (.ls []) (.slice A 0 c)
  | ls (xs : List (List Leaf)) (sz b o c : Nat) (u : Nat → Nat → Value) (hc : xs.length ≤ c) (hm : c ≤ maxLen) (hS : S b)
      (hsz : ∀ row ∈ xs, row.length = sz)
      (hcell : ∀ i j l, atL xs i j = some l → w.cell? ⟨b, o + (i * sz + j), none⟩ = some (u i j))
      (hrep : ∀ i j l, atL xs i j = some l → Rep S w l (u i j)) : Rep S w (.ls xs) (.slice (some ⟨b, o, none⟩) xs.length c)

/-- A value is the data, in blocks of its own (they lie in fp); no two places share a block. -/
inductive Own (w : World) : Leaf → Value → (Nat → Prop) → Prop
  | sc (v : Value) (fp : Nat → Prop) (h : v.oneCell' = true) : Own w (.sc v) v fp
  | nil (fp : Nat → Prop) : Own w (.ls []) (.slice none 0 0) fp
  | ls (xs : List (List Leaf)) (sz g c : Nat) (cur : Array Value) (e : TypeId) (u : Nat → Nat → Value) (fps : Nat → Nat → Nat → Prop) (fp : Nat → Prop)
      (hg : w.heap[g]? = some (.cells cur e (0, 0))) (hfp : fp g) (hc : xs.length ≤ c) (hm : c ≤ maxLen) (hcs : cur.size = c * sz) (hz : xs = [] → c = 0)
      (hsz : ∀ row ∈ xs, row.length = sz)
      (hcell : ∀ i j l, atL xs i j = some l → cur[i * sz + j]? = some (u i j))
      (hown : ∀ i j l, atL xs i j = some l → Own w l (u i j) (fps i j))
      (hsub : ∀ i j k, fps i j k → fp k ∧ k ≠ g)
      (hdis : ∀ i j i' j' k, fps i j k → fps i' j' k → i = i' ∧ j = j') : Own w (.ls xs) (.slice (some ⟨g, 0, none⟩) xs.length c) fp

theorem Rep.one {S : Nat → Prop} {w : World} {l : Leaf} {v : Value} (h : Rep S w l v) : v.oneCell' = true := by
  cases h <;> first | assumption | rfl
theorem Own.one {w : World} {l : Leaf} {v : Value} {fp : Nat → Prop} (h : Own w l v fp) : v.oneCell' = true := by
  cases h <;> first | assumption | rfl

theorem cell_of_block {w w' : World} {a : Addr} (h : w'.heap[a.block]? = w.heap[a.block]?) : w'.cell? a = w.cell? a := by simp [World.cell?, h]

/-- What is read lives on where its blocks do. -/
theorem Rep.move {S S' : Nat → Prop} {w w' : World} {l : Leaf} {v : Value} (h : Rep S w l v) (hS : ∀ b, S b → S' b)
    (hw : ∀ b, S b → w'.heap[b]? = w.heap[b]?) : Rep S' w' l v := by
  induction h with
  | sc v h => exact .sc v h
  | nl A c hc => exact .nl A c hc
  | ls xs sz b o c u hc hm hb hsz hcell hrep ih =>
    exact .ls xs sz b o c u hc hm (hS b hb) hsz (fun i j l hl => (cell_of_block (hw b hb)).trans (hcell i j l hl)) ih

theorem Own.move {w w' : World} {l : Leaf} {v : Value} {fp fp' : Nat → Prop} (h : Own w l v fp) (hf : ∀ b, fp b → fp' b)
    (hw : ∀ b, fp b → w'.heap[b]? = w.heap[b]?) : Own w' l v fp' := by
  induction h generalizing fp' with
  | sc v fp h => exact .sc v fp' h
  | nil fp => exact .nil fp'
  | ls xs sz g c cur e u fps fp hg hfp hc hm hcs hz hsz hcell hown hsub hdis ih =>
    exact .ls xs sz g c cur e u fps fp' ((hw g hfp).trans hg) (hf g hfp) hc hm hcs hz hsz hcell
      (fun i j l hl => ih i j l hl (fun _ h => h) (fun b hb => hw b (hsub i j b hb).1)) (fun i j k hk => ⟨hf k (hsub i j k hk).1, (hsub i j k hk).2⟩) hdis

/-- What is owned reads; its blocks are S's. -/
theorem Own.rep {S : Nat → Prop} {w : World} {l : Leaf} {v : Value} {fp : Nat → Prop} (h : Own w l v fp) (hS : ∀ b, fp b → S b) : Rep S w l v := by
  induction h with
  | sc v fp h => exact .sc v h
  | nil fp => exact .nl none 0 (Nat.zero_le _)
  | ls xs sz g c cur e u fps fp hg hfp hc hm hcs hz hsz hcell hown hsub hdis ih =>
    refine .ls xs sz g 0 c u hc hm (hS g hfp) hsz (fun i j l hl => ?_) (fun i j l hl => ih i j l hl (fun b hb => hS b (hsub i j b hb).1))
    simp only [World.cell?, hg, Nat.zero_add]
    simpa using hcell i j l hl

/-- Whatever is owned is owned within the blocks that exist. -/
theorem Own.bound {w : World} {l : Leaf} {v : Value} {fp : Nat → Prop} (h : Own w l v fp) : Own w l v (fun b => fp b ∧ b < w.heap.size) := by
  induction h with
  | sc v fp h => exact .sc v _ h
  | nil fp => exact .nil _
  | ls xs sz g c cur e u fps fp hg hfp hc hm hcs hz hsz hcell hown hsub hdis ih =>
    have hlt : g < w.heap.size := (Array.getElem?_eq_some_iff.1 hg).1
    exact .ls xs sz g c cur e u (fun i j b => fps i j b ∧ b < w.heap.size) _ hg ⟨hfp, hlt⟩ hc hm hcs hz hsz hcell ih
      (fun i j k hk => ⟨⟨(hsub i j k hk.1).1, hk.2⟩, (hsub i j k hk.1).2⟩) (fun i j i' j' k h1 h2 => hdis i j i' j' k h1.1 h2.1)

theorem Own.top {w : World} {xs : List (List Leaf)} {b n c : Nat} {fp : Nat → Prop} (h : Own w (.ls xs) (.slice (some ⟨b, 0, none⟩) n c) fp) : fp b := by
  cases h; assumption
theorem Rep.top {S : Nat → Prop} {w : World} {xs : List (List Leaf)} {b o n c : Nat} (h : Rep S w (.ls xs) (.slice (some ⟨b, o, none⟩) n c)) (hne : xs ≠ []) : S b := by
  cases h
  · exact absurd rfl hne
  · assumption
theorem atL_some {α : Type} {xs : List (List α)} {i j : Nat} {l : α} (h : atL xs i j = some l) : ∃ row, xs[i]? = some row ∧ row[j]? = some l := by
  simpa [atL, Option.bind_eq_some_iff] using h
theorem atL_mk {α : Type} {xs : List (List α)} {i j : Nat} {row : List α} {l : α} (h : xs[i]? = some row) (h' : row[j]? = some l) : atL xs i j = some l := by
  simp [atL, h, h']
theorem atL_len {α : Type} {xs : List (List α)} {sz i j : Nat} {l : α} (hsz : ∀ row ∈ xs, row.length = sz) (h : atL xs i j = some l) : i < xs.length ∧ j < sz := by
  obtain ⟨row, h1, h2⟩ := atL_some h
  obtain ⟨hi, he⟩ := List.getElem?_eq_some_iff.1 h1
  obtain ⟨hj, _⟩ := List.getElem?_eq_some_iff.1 h2
  refine ⟨hi, ?_⟩
  rw [← hsz row (List.mem_of_getElem? h1)]
  exact hj

end Go.Proofs.Ythhfhllfbnpcgaa.Co
