/- A law that comes to true on all plain data does so at every call that the rows speak of, and leaves the arguments as they read. -/
import Derived.Test.YthhfhllfbnpcgaaCoR
import Derived.SizedLaws
namespace Go.Proofs.Ythhfhllfbnpcgaa.Co
open Go Go.ChangeShapes Go.WideShapes Go.RowKit

def isAggT (P : Program) (t : TypeId) : Bool := match P.underlying t with
  | some (.struct _) => true
  | _ => false
/-- The arguments' data, by their types. -/
inductive Shas (P : Program) : List TypeId → List (List Leaf) → Prop
  | nil : Shas P [] []
  | cons {t : TypeId} {ls : List Leaf} {ts : List TypeId} {lss : List (List Leaf)} (h : Sha P t ls) (hs : Shas P ts lss) : Shas P (t :: ts) (ls :: lss)
def argRS (P : Program) : List TypeId → List (List Leaf) → List RS
  | t :: ts, ls :: lss => .val (isAggT P t) (ls.map .v) :: argRS P ts lss
  | _, _ => []
section
variable {H : Type} {enc : TypeId × Value → H} {P : Program} {W W' : World} {base : Nat}
theorem shape_one {t : TypeId} {v : Value} {ls : List Leaf} (hok : Value.okWide P W .any base t v) (hs : Sha P t ls) (hr : Reps (fun b => b < W.heap.size) W ls v.cells.toList) : ShV (isAggT P t) (ls.map .v) v v.cells.toList := by
  have hone : ∀ l : Leaf, v.cells = #[v] → v.oneCell' = true → ShV false [.v l] v v.cells.toList := fun l h1 h2 => by
    rw [h1]; exact .one _ _ h2
  cases hs with
  | bool _ b h =>
    obtain ⟨b', rfl⟩ := okWide_bool h hok
    simp only [isAggT, h]
    exact hone _ rfl rfl
  | int _ k n h =>
    obtain ⟨b', rfl⟩ := okWide_int h hok
    simp only [isAggT, h]
    exact hone _ rfl rfl
  | str _ s h =>
    obtain ⟨b', rfl⟩ := okWide_string h hok
    simp only [isAggT, h]
    exact hone _ rfl rfl
  | slice _ e rows h =>
    obtain ⟨a, len, cap, rfl⟩ := okWide_slice h hok
    simp only [isAggT, h]
    exact hone _ rfl rfl
  | struct _ fs _ h =>
    obtain ⟨cs, rfl, _⟩ := okWide_struct h hok
    simp only [isAggT, h]
    have := ShV.agg (ls.map .v) cs.toList (by have := hr.len; simp [Value.cells] at this; simp [this])
    rw [Array.toArray_toList] at this
    exact this
theorem args_read (ts : List TypeId) (hp : plainSet P ts = true) : ∀ {ps : List TypeId} {vs : List Value} {ds : List (DataW H)} {pl : List MemPlace}, (∀ t ∈ ps, t ∈ ts) → DataW.TrodAll enc P W 0 (fun _ => true) true ps vs ds pl →
    (∀ (j : Nat) t v, ps[j]? = some t → vs[j]? = some v → Value.okWide P W .any base t v) →
    ∃ lss cs, Shas P ps lss ∧ ShL (bgs []) (argRS P ps lss) vs cs ∧ Reps (fun b => b < W.heap.size) W lss.flatten cs ∧ (argRS P ps lss).flatMap RS.fls = lss.flatten.map FL.v
  | [], vs, ds, pl, _, h, _ => by
    obtain ⟨rfl, _, _⟩ := trodAll_nil h
    exact ⟨[], [], .nil, .nil, ⟨rfl, fun i l u hl => by simp at hl⟩, rfl⟩
  | t :: ps, vs, ds, pl, hin, h, hv => by
    obtain ⟨v, vs', d, ds', p, q, rfl, rfl, rfl, ⟨fuel, h1⟩, h2⟩ := trodAll_cons h
    obtain ⟨ls, k1, k2⟩ := read ts hp fuel t _ _ (hin t (by simp)) h1
    obtain ⟨lss, cs, k3, k4, k5, k6⟩ := args_read ts hp (fun u hu => hin u (by simp [hu])) h2 (fun j u x a b => hv (j + 1) u x (by simpa using a) (by simpa using b))
    refine ⟨ls :: lss, v.cells.toList ++ cs, .cons k1 k3, .cons (.val (shape_one (hv 0 t v rfl rfl) k1 k2)) k4, ?_, ?_⟩
    · rw [List.flatten_cons]
      exact k2.append k5
    · simp only [argRS, List.flatMap_cons, RS.fls, List.flatten_cons, List.map_append, k6]
theorem law_runs {f : FuncId} {args : Array Value} {ps : List TypeId} {ds : List (DataW H)} {pl : List MemPlace} (ts : List TypeId) (hp : plainSet P ts = true) (hin : ∀ t ∈ ps, t ∈ ts)
    (law : ∀ lss, Shas P ps lss → AC P f [] (argRS P ps lss) (fun r _ _ => r = .val false [.v (.sc (.bool true))]))
    (hA : DataW.TrodAll enc P W 0 (fun _ => true) true ps args.toList ds pl) (hv : ∀ (j : Nat) t v, ps[j]? = some t → args.toList[j]? = some v → Value.okWide P W .any base t v) :
    Calls P f args W fun e W' => e = .returned (.bool true) ∧ Below W.heap.size W W' := by
  obtain ⟨lss, cs, k1, k2, k3, k4⟩ := args_read ts hp hin hA hv
  have hbun : Bun (fun b => b < W.heap.size) W ((argRS P ps lss).flatMap RS.fls ++ ([] : List (List FL)).flatten) (cs ++ ([] : List BX).flatMap BX.cs) (fun _ _ => False) := by
    simp only [List.flatten_nil, List.flatMap_nil, List.append_nil, k4]
    refine ⟨by rw [List.length_map, k3.len], fun i l u hl hu => ?_, fun i l u hl => ?_, fun i b h => h.elim, fun i j b h => h.elim⟩
    · rw [List.getElem?_map] at hl
      obtain ⟨l', h1, h2⟩ := Option.map_eq_some_iff.1 hl
      injection h2 with h2
      subst h2
      exact k3.at_ i l' u h1 hu
    · rw [List.getElem?_map] at hl
      obtain ⟨l', h1, h2⟩ := Option.map_eq_some_iff.1 hl
      cases h2
  have := (law lss k1).2 W args.toList cs [] (fun b => b < W.heap.size) (fun _ _ => False) k2 hbun ⟨rfl, fun i l b h => by simp at h, (fun b h => by cases h), List.nodup_nil⟩ (fun b h => h)
  rw [Array.toArray_toList] at this
  refine this.mono ?_
  rintro e W' ⟨r, lent, bx', v, rcs, bs', S', fps', rfl, rfl, hb⟩
  refine ⟨?_, hb.same.os, hb.same.tape, hb.same.output, hb.same.size, fun k hk => hb.keep k hk (fun _ h => h) (fun _ h => by cases h)⟩
  have hsh := hb.sh
  cases hsh with
  | val hsv =>
    cases hsv with
    | one _ _ h1 =>
      have := hb.bun.view 0 (.sc (.bool true)) v rfl rfl
      cases this
      rfl
theorem args_kept (hl : laidOutB P = true) {ps : List TypeId} (hread : (ps.all fun t => P.readableRec t && decide (t < P.types.size)) = true) (bel : Below W.heap.size W W') : ∀ {ps' : List TypeId} {vs : List Value} {ds : List (DataW H)} {pl : List MemPlace}, (∀ t ∈ ps', t ∈ ps) →
    DataW.TrodAll enc P W 0 (fun _ => true) true ps' vs ds pl → DataW.TrodAll enc P W' 0 (fun b => decide (b < W.heap.size)) true ps' vs ds pl
  | [], vs, ds, pl, _, h => by
    obtain ⟨rfl, rfl, rfl⟩ := trodAll_nil h
    exact trodAll_mk0
  | t :: ps', vs, ds, pl, hin, h => by
    obtain ⟨v, vs', d, ds', p, q, rfl, rfl, rfl, h1, h2⟩ := trodAll_cons h
    have lt : ∀ x ∈ p, x.block < W.heap.size := by obtain ⟨m, hm⟩ := h1; exact DataW.trod_lt m _ _ _ hm
    have hr := List.all_eq_true.1 hread t (hin t (by simp))
    simp only [Bool.and_eq_true, decide_eq_true_eq] at hr
    obtain ⟨r1, r2⟩ := hr
    exact trodAll_cons_mk (Below.trod hl r1 r2 h1 bel lt) (args_kept hl hread bel (fun u hu => hin u (by simp [hu])) h2)
end
end Go.Proofs.Ythhfhllfbnpcgaa.Co
