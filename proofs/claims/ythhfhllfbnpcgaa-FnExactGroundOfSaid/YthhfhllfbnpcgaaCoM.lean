/- The thirteenth part of the theory: the equations by which a function's text on plain data is worked out, step by step. -/
import Derived.Test.YthhfhllfbnpcgaaCoLb
namespace Go.Proofs.Ythhfhllfbnpcgaa.Co
open Go
set_option linter.unusedSimpArgs false
set_option linter.unusedVariables false

/-! What is still to do is kept as a term that nothing looks into before its turn has come. -/
def nextK (P : Program) (md : Md) (ops rest : List Oper) (K : Reg → Mem → Prop) : Reg → Mem → Prop := fun r m => aSeq P md ops rest r m K
def putK (K : Reg → Mem → Prop) (r : Reg) (d : Option Tmp) : Slot → Mem → Prop := fun s m => K (updO r d s) m
def condK (P : Program) (s : Slot) (a b : Code) (Q : Exit → Reg → Mem → Prop) (r : Reg) (m : Mem) : Prop := match s with
  | .val false [.v (.sc (.bool t))] => gK t true (awp P a Q r m) (awp P b Q r m)
  | _ => False
def brK (P : Program) (t : Bool) (a b : Code) (Q : Exit → Reg → Mem → Prop) (r : Reg) (m : Mem) : Prop := gK t true (awp P a Q r m) (awp P b Q r m)
def loopK (P : Program) (c : Code) (Q : Exit → Reg → Mem → Prop) (r : Reg) (m : Mem) : Prop := LoopP (awp P c) Q r m
def guardK (P : Program) (md : Md) (b want : Bool) (op : Op) (d : Option Tmp) (r : Reg) (m : Mem) (K : Reg → Mem → Prop) : Prop := gK b want (eo P md op (evR r) m (putK K r d)) (K (updO r d (.tup [])) m)
def guardS (P : Program) (md : Md) (s : Slot) (want : Bool) (op : Op) (d : Option Tmp) (r : Reg) (m : Mem) (K : Reg → Mem → Prop) : Prop := match s with
  | .val false [.v (.sc (.bool b))] => guardK P md b want op d r m K
  | .tup _ => K (updO r d (.tup [])) m
  | _ => False
def guardD (P : Program) (md : Md) (o : Option Tmp) (want : Bool) (op : Op) (d : Option Tmp) (r : Reg) (m : Mem) (K : Reg → Mem → Prop) : Prop := match o with
  | some x => guardS P md (r x) want op d r m K
  | none => False
section
variable {P : Program} {md : Md} {ops rest : List Oper} {K : Reg → Mem → Prop} {r : Reg} {m : Mem} {Q : Exit → Reg → Mem → Prop} {n : Reg → Mem → Prop}
theorem e_skip : awp P .skip Q r m = Q .normal r m := rfl
theorem e_region {id : Nat} {xs : List Oper} : awp P (.region id xs.toArray false) Q r m = aSeq P .seq xs xs r m (Q .normal) := by simp [awp]
theorem e_draw {id : Nat} {xs : List Oper} : awp P (.region id xs.toArray true) Q r m = aDraw P xs r m (Q .normal) := by simp [awp]
def pickK2 (o : Option Oper) (r : List Oper) : List Oper := match o with
  | some o => o :: r
  | none => r
theorem e_pick_nil : pickL ops [] = [] := rfl
theorem e_pick_cons {i : Nat} {is : List Nat} : pickL ops (i :: is) = pickK2 (ops[i]?) (pickL ops is) := by
  simp only [pickL]
  cases ops[i]? <;> rfl
theorem e_pickK2 {o : Oper} {os : List Oper} : pickK2 (some o) os = o :: os := rfl
theorem draw_by {xs : List Oper} {K : Reg → Mem → Prop} (ord : List Nat) (h : drawOk xs ord = true) (hk : aSeq P .draw xs (pickL xs ord) r m K) : aDraw P xs r m K := ⟨ord, h, hk⟩
theorem e_seq {a b : Code} : awp P (.seq a b) Q r m = awp P a (thenK (awp P b Q) Q) r m := rfl
theorem e_cond {c : Operand} {a b : Code} : awp P (.cond c a b) Q r m = condK P (evR r c) a b Q r m := rfl
theorem e_condK {t : Bool} {a b : Code} : condK P (.val false [.v (.sc (.bool t))]) a b Q r m = brK P t a b Q r m := rfl
theorem e_br_true {a b : Code} : brK P true a b Q r m = awp P a Q r m := by simp [brK, gK]
theorem e_br_false {a b : Code} : brK P false a b Q r m = awp P b Q r m := by simp [brK, gK]
theorem e_block {id : Nat} {c : Code} : awp P (.block id c) Q r m = awp P c (blockK id Q) r m := rfl
theorem e_loop {c : Code} : awp P (.loop c) Q r m = loopK P c Q r m := rfl
theorem e_exit {id : Nat} : awp P (.exit id) Q r m = Q (.exit id) r m := rfl
theorem e_ret : awp P .ret Q r m = Q .ret r m := rfl
theorem e_then_normal : thenK n Q .normal r m = n r m := rfl
theorem e_then_exit {id : Nat} : thenK n Q (.exit id) r m = Q (.exit id) r m := rfl
theorem e_then_ret : thenK n Q .ret r m = Q .ret r m := rfl
theorem e_block_normal {id : Nat} : blockK id Q .normal r m = Q .normal r m := rfl
theorem e_block_ret {id : Nat} : blockK id Q .ret r m = Q .ret r m := rfl
theorem e_block_exit {id id' : Nat} : blockK id Q (.exit id') r m = if id' = id then Q .normal r m else Q (.exit id') r m := rfl
theorem e_nil : aSeq P md ops [] r m K = K r m := rfl
theorem e_cons {o : Oper} : aSeq P md ops (o :: rest) r m K = aOp P md ops o r m (nextK P md ops rest K) := rfl
theorem e_next : nextK P md ops rest K r m = aSeq P md ops rest r m K := rfl
theorem e_op {d : Option Tmp} {op : Op} {ty : TypeId} {pos : String} {aft : Array Edge} : aOp P md ops ⟨d, op, ty, pos, aft, none⟩ r m K = eo P md op (evR r) m (putK K r d) := rfl
theorem e_opg {d : Option Tmp} {op : Op} {ty : TypeId} {pos : String} {aft : Array Edge} {j : Nat} {want : Bool} : aOp P md ops ⟨d, op, ty, pos, aft, some (j, want)⟩ r m K = guardD P md ((ops[j]?).bind (·.dst)) want op d r m K := rfl
theorem e_guardD {x : Tmp} {want : Bool} {op : Op} {d : Option Tmp} : guardD P md (some x) want op d r m K = guardS P md (r x) want op d r m K := rfl
theorem e_guardS {b want : Bool} {op : Op} {d : Option Tmp} : guardS P md (.val false [.v (.sc (.bool b))]) want op d r m K = guardK P md b want op d r m K := rfl
theorem e_guardT {ss : List (Bool × List TL)} {want : Bool} {op : Op} {d : Option Tmp} : guardS P md (.tup ss) want op d r m K = K (updO r d (.tup [])) m := rfl
theorem e_guard_tt {op : Op} {d : Option Tmp} : guardK P md true true op d r m K = eo P md op (evR r) m (putK K r d) := by simp [guardK, gK]
theorem e_guard_ff {op : Op} {d : Option Tmp} : guardK P md false false op d r m K = eo P md op (evR r) m (putK K r d) := by simp [guardK, gK]
theorem e_guard_tf {op : Op} {d : Option Tmp} : guardK P md true false op d r m K = K (updO r d (.tup [])) m := by simp [guardK, gK]
theorem e_guard_ft {op : Op} {d : Option Tmp} : guardK P md false true op d r m K = K (updO r d (.tup [])) m := by simp [guardK, gK]
theorem e_put {d : Option Tmp} {s : Slot} : putK K r d s m = K (updO r d s) m := rfl
theorem e_frK {s : Slot} {K : Slot → Mem → Prop} : frK (some s) m K = K s m := rfl
theorem e_frKite {c : Prop} [Decidable c] {s : Slot} {K : Slot → Mem → Prop} : frK (if c then some s else none) m K = (c ∧ K s m) := by
  by_cases h : c <;> simp [h, frK]
theorem e_upd {d t : Tmp} {s : Slot} : updO r (some d) s t = if t = d then s else r t := rfl
theorem e_upd_none {s : Slot} : updO r none s = r := rfl
theorem e_tmp {t : Tmp} : evR r (.tmp t) = r t := rfl
theorem e_func {f : FuncId} : evR r (.func f) = .val false [.v (.sc (.func (.func f) #[] #[]))] := rfl
theorem e_const {v : Value} : evR r (.const v) = constS v := rfl
theorem e_c_int {k : IntKind} {i : Int} : constS (.int k i) = .val false [.v (.sc (.int k i))] := rfl
theorem e_c_bool {b : Bool} : constS (.bool b) = .val false [.v (.sc (.bool b))] := rfl
theorem e_c_str {s : ByteArray} : constS (.string s) = .val false [.v (.sc (.string s))] := rfl
theorem e_c_nil : constS (.slice none 0 0) = .val false [.nl] := rfl
/-! the operations -/
section
variable {ρ : Operand → Slot} {K : Slot → Mem → Prop}
theorem o_move {x : Operand} : eo P md (.move x) ρ m K = K (ρ x) m := rfl
theorem o_assign {x : Operand} : eo P md (.assign x) ρ m K = K (ρ x) m := rfl
theorem o_load {t : TypeId} {x : Operand} : eo P md (.load t x) ρ m K = frK (loadS P md t m (ρ x)) m K := rfl
theorem o_fieldAddr {t : TypeId} {x : Operand} {f : Nat} : eo P md (.fieldAddr t x f) ρ m K = frK (fieldAddrS P t f (ρ x)) m K := rfl
theorem o_field {t : TypeId} {x : Operand} {f : Nat} : eo P md (.field t x f) ρ m K = frK (fieldS P t f (ρ x)) m K := rfl
theorem o_indexAddr {t : TypeId} {x i : Operand} : eo P md (.indexAddr t x i) ρ m K = frK (indexAddrS P md t m (ρ x) (ρ i)) m K := rfl
theorem o_index {t : TypeId} {x i : Operand} : eo P md (.index t x i) ρ m K = frK (indexS P t (ρ x) (ρ i)) m K := rfl
theorem o_binOp {b : BinOp} {t t' : TypeId} {x y : Operand} : eo P md (.binOp b t x y t') ρ m K = frK (binS P b t (ρ x) (ρ y)) m K := rfl
theorem o_unOp {u : UnOp} {t : TypeId} {x : Operand} : eo P md (.unOp u t x) ρ m K = frK (unS u (ρ x)) m K := rfl
theorem o_convert {s d : TypeId} {x : Operand} : eo P md (.convert s d x) ρ m K = frK (convS P md s d m (ρ x)) m K := rfl
theorem o_slice {t : TypeId} {x : Operand} {lo hi : Option Operand} : eo P md (.slice t x lo hi none) ρ m K = frK (sliceS P t (ρ x) (lo.map ρ) (hi.map ρ)) m K := rfl
theorem o_build {t : TypeId} {ps : List (Nat × Operand)} : eo P md (.build t ps.toArray) ρ m K = frK (buildS P t (ps.map fun p => (p.1, ρ p.2))) m K := rfl
theorem o_extract {x : Operand} {i : Nat} : eo P md (.extract x i) ρ m K = frK (extractS i (ρ x)) m K := rfl
theorem o_nilCheck {x : Operand} : eo P md (.nilCheck x) ρ m K = frK (nilCheckS (ρ x)) m K := rfl
def pickK (s x y : Slot) : Option Slot := match s with
  | .val false [.v (.sc (.bool t))] => some (pickS t x y)
  | _ => none
theorem o_pick {c a b : Operand} : eo P md (.pick c a b) ρ m K = frK (pickK (ρ c) (ρ a) (ρ b)) m K := rfl
theorem o_len {x : Operand} {t : TypeId} : eo P md (.call ⟨.builtin .len, #[x], #[t]⟩) ρ m K = frK (lenS P md t m (ρ x)) m K := rfl
theorem o_max {x y : Operand} {ts : Array TypeId} : eo P md (.call ⟨.builtin .max, #[x, y], ts⟩) ρ m K = frK (maxS (ρ x) (ρ y)) m K := rfl
theorem o_append {x y : Operand} {t : TypeId} : eo P md (.call ⟨.builtin .append, #[x, y], #[t, t]⟩) ρ m K = appendX P t (ρ x) (ρ y) m K := by
  simp [eo, eoX]
theorem o_box {t : TypeId} {x : Operand} : eo P md (.box t x) ρ m K = eoX P md (.box t x) ρ m K := rfl
def boxK (P : Program) (t : TypeId) (s : Slot) (m : Mem) (K : Slot → Mem → Prop) : Prop := match s with
  | .val _ ls => (szOf P t = some ls.length ∧ ls.isEmpty = false) ∧ K (.ptr m.nx 0) (m.newBox ls)
  | _ => False
theorem o_box' {t : TypeId} {x : Operand} : eo P md (.box t x) ρ m K = boxK P t (ρ x) m K := rfl
theorem o_boxK {t : TypeId} {b : Bool} {ls : List TL} : boxK P t (.val b ls) m K = ((szOf P t = some ls.length ∧ ls.isEmpty = false) ∧ K (.ptr m.nx 0) (m.newBox ls)) := rfl
def allocK (z : Option (List TL)) (m : Mem) (K : Slot → Mem → Prop) : Prop := match z with
  | some ls => ls.isEmpty = false ∧ K (.ptr m.nx 0) (m.newBox ls)
  | none => False
theorem o_alloc {t : TypeId} : eo P md (.alloc t) ρ m K = allocK (zeroOf P t) m K := rfl
theorem o_allocK {ls : List TL} : allocK (some ls) m K = (ls.isEmpty = false ∧ K (.ptr m.nx 0) (m.newBox ls)) := rfl
theorem o_store {t : TypeId} {a x : Operand} : eo P md (.store t a x) ρ m K = storeX P md t (ρ a) (ρ x) m K := rfl
theorem o_store_ptr {t : TypeId} {k off : Nat} {b : Bool} {ls : List TL} : storeX P md t (.ptr k off) (.val b ls) m K = ((szOf P t = some ls.length ∧ off + ls.length ≤ (m.box k).length ∧ (m.box k).isEmpty = false) ∧ K .junk (m.setBox k ((m.box k).take off ++ ls ++ (m.box k).drop (off + ls.length)))) := rfl
theorem o_call {f : Operand} {xs : List Operand} {ts : Array TypeId} : eo P md (.call ⟨.value f, xs.toArray, ts⟩) ρ m K = callV P md (ρ f) (xs.map ρ) m K := by simp [eo]
theorem o_callV {f : FuncId} {ss : List Slot} : callV P md (.val false [.v (.sc (.func (.func f) #[] #[]))]) ss m K = callE P md f ss m K := by simp [callV]
theorem o_callC {f : FuncId} {ks : List Nat} {ss : List Slot} : callV P md (.clo f ks) ss m K = callE P md f (ss ++ ks.map fun k => .ptr k 0) m K := rfl
theorem o_makeFunc {f : Fn} {xs ys : List Operand} : eo P md (.makeFunc f xs.toArray ys.toArray) ρ m K = frK (mkFnS f (xs.map ρ) (ys.map ρ)) m K := by simp [eo, fr]
theorem o_mkFn0 {f : FuncId} : mkFnS (.func f) [] [] = some (.val false [.v (.sc (.func (.func f) #[] #[]))]) := rfl
theorem o_mkFn1 {f : FuncId} {k : Nat} : mkFnS (.func f) [] [.ptr k 0] = some (.clo f [k]) := rfl
theorem o_mkFn2 {f : FuncId} {k k' : Nat} : mkFnS (.func f) [] [.ptr k 0, .ptr k' 0] = some (.clo f [k, k']) := rfl
theorem o_buildSlice {t : TypeId} {n : Nat} {ps : List (Nat × Operand)} : eo P md (.buildSlice t n ps.toArray) ρ m K = buildX P t n (ps.map fun p => (p.1, ρ p.2)) m K := by simp [eo, eoX]
theorem o_makeSlice {t : TypeId} {l c : Operand} : eo P md (.makeSlice t l c) ρ m K = makeX P t (ρ l) (ρ c) m K := rfl
end
/-! the data -/
theorem m_box_new_same {ls : List TL} {k : Nat} (h : ¬ k ≠ m.nx) : (m.newBox ls).box k = ls := by
  rw [Decidable.not_not.1 h]; exact upd_same _ _ _
theorem m_box_new_ne {ls : List TL} {k : Nat} (h : k ≠ m.nx) : (m.newBox ls).box k = m.box k := upd_ne _ _ h
theorem m_box_set_same {ls : List TL} {k k' : Nat} (h : ¬ k ≠ k') : (m.setBox k' ls).box k = ls := by
  rw [Decidable.not_not.1 h]; exact upd_same _ _ _
theorem m_box_set_ne {ls : List TL} {k k' : Nat} (h : k ≠ k') : (m.setBox k' ls).box k = m.box k := upd_ne _ _ h
theorem m_box_tag {l : Leaf} : (m.newTag l).box = m.box := rfl
theorem m_box_setTag {t : Nat} {g : TG} : (m.setTag t g).box = m.box := rfl
theorem m_box_bump {t : Nat} : (m.bump t).box = m.box := rfl
theorem m_tag_new_same {l : Leaf} {k : Nat} (h : ¬ k ≠ m.nx) : (m.newTag l).tag k = .live l := by
  rw [Decidable.not_not.1 h]; exact upd_same _ _ _
theorem m_tag_new_ne {l : Leaf} {k : Nat} (h : k ≠ m.nx) : (m.newTag l).tag k = m.tag k := upd_ne _ _ h
theorem m_tag_set_same {g : TG} {k k' : Nat} (h : ¬ k ≠ k') : (m.setTag k' g).tag k = g := by
  rw [Decidable.not_not.1 h]; exact upd_same _ _ _
theorem m_tag_set_ne {g : TG} {k k' : Nat} (h : k ≠ k') : (m.setTag k' g).tag k = m.tag k := upd_ne _ _ h
theorem m_tag_box {ls : List TL} : (m.newBox ls).tag = m.tag := rfl
theorem m_tag_setBox {k : Nat} {ls : List TL} : (m.setBox k ls).tag = m.tag := rfl
theorem m_tag_bump {t : Nat} : (m.bump t).tag = m.tag := rfl
theorem m_nx_new {ls : List TL} : (m.newBox ls).nx = m.nx + 1 := rfl
theorem m_nx_tag {l : Leaf} : (m.newTag l).nx = m.nx + 1 := rfl
theorem m_nx_setBox {k : Nat} {ls : List TL} : (m.setBox k ls).nx = m.nx := rfl
theorem m_nx_setTag {t : Nat} {g : TG} : (m.setTag t g).nx = m.nx := rfl
theorem m_nx_bump {t : Nat} : (m.bump t).nx = m.nx := rfl
theorem m_start_nx : startM.nx = 1 := rfl
theorem m_start_box {k : Nat} : startM.box k = [] := rfl
theorem m_ver_new {ls : List TL} : (m.newBox ls).ver = m.ver := rfl
theorem m_ver_tag {l : Leaf} : (m.newTag l).ver = m.ver := rfl
theorem s_load_dr {t : TypeId} {k off : Nat} : loadS P .draw t m (.ptr k off) = part P t off (m.box k) := by simp [loadS]
theorem s_load_ptr {t : TypeId} {k off : Nat} : loadS P .seq t m (.ptr k off) = part P t off (m.box k) := by simp [loadS]
theorem s_load_rp {t : TypeId} {ls : List Leaf} : loadS P md t m (.rp ls) = part P t 0 (ls.map .v) := rfl
def ldG (P : Program) (t : TypeId) (off g i sz ver : Nat) (x : Option Leaf) : Option Slot := match x with
  | some (.ls xs) => if i < xs.length ∧ (rowAt xs i).length = sz then part P t off (seenL g i sz ver 0 (rowAt xs i)) else none
  | _ => none
theorem s_load_ep {t : TypeId} {g i sz off : Nat} : loadS P .seq t m (.ep g i sz off) = ldG P t off g i sz (m.ver g) (m.tag g).cont := by
  unfold ldG
  simp only [loadS, ownRow]
  cases (m.tag g).cont with
  | none => rfl
  | some l =>
    cases l with
    | sc v => rfl
    | ls xs =>
      by_cases h : i < xs.length ∧ (rowAt xs i).length = sz
      · simp [h]
      · simp [h]
theorem s_ldG {t : TypeId} {off g i sz ver : Nat} {xs : List (List Leaf)} : ldG P t off g i sz ver (some (.ls xs)) = if i < xs.length ∧ (rowAt xs i).length = sz then part P t off (seenL g i sz ver 0 (rowAt xs i)) else none := rfl
theorem e_frKif {c : Prop} [Decidable c] {x : Option Slot} {K : Slot → Mem → Prop} : frK (if c then x else none) m K = (c ∧ frK x m K) := by
  by_cases h : c <;> simp [h, frK]
theorem s_seen_nil {t i sz ver j : Nat} : seenL t i sz ver j [] = [] := rfl
theorem s_seen_sc {t i sz ver j : Nat} {v : Value} {r : List Leaf} : seenL t i sz ver j (.sc v :: r) = .v (.sc v) :: seenL t i sz ver (j + 1) r := rfl
theorem s_seen_ls {t i sz ver j : Nat} {xs : List (List Leaf)} {r : List Leaf} : seenL t i sz ver j (.ls xs :: r) = .s t i sz j ver :: seenL t i sz ver (j + 1) r := rfl
theorem s_pick_t {x y : Slot} : pickK (.val false [.v (.sc (.bool true))]) x y = some x := by
  simp only [pickK]
  unfold pickS
  split <;> rfl
theorem s_pick_f {x y : Slot} : pickK (.val false [.v (.sc (.bool false))]) x y = some y := by
  simp only [pickK]
  unfold pickS
  split <;> rfl
def bdN (sz : Option Nat) (z : Option (List TL)) (n : Nat) (parts : List (Nat × Slot)) (m : Mem) (K : Slot → Mem → Prop) : Prop := match sz, z with
  | some sz, some z => (z.length = sz ∧ 0 < sz ∧ n * sz ≤ 16777216) ∧ match fillL (fun i => some (i * sz, sz)) (repL n z) parts with
      | some flat => match takeL flat m with
        | some (ls, m') => K (.val false [.o m'.nx]) (m'.newTag (.ls (chunk n sz ls)))
        | none => match viewL flat m with
          | some (ls, m') => K (.val false [.v (.ls (chunk n sz ls))]) m'
          | none => False
      | none => False
  | _, _ => False
def bdM (P : Program) (e : Option TypeId) (n : Nat) (parts : List (Nat × Slot)) (m : Mem) (K : Slot → Mem → Prop) : Prop := match e with
  | some e => bdN (szOf P e) (zeroOf P e) n parts m K
  | none => False
theorem x_build {t : TypeId} {n : Nat} {parts : List (Nat × Slot)} {K : Slot → Mem → Prop} : buildX P t n parts m K = bdM P (elOf P t) n parts m K := by
  unfold buildX bdM bdN
  cases elOf P t <;> rfl
theorem x_bdM {e : TypeId} {n : Nat} {parts : List (Nat × Slot)} {K : Slot → Mem → Prop} : bdM P (some e) n parts m K = bdN (szOf P e) (zeroOf P e) n parts m K := rfl
/-- A list built of parts that own what they hold. -/
theorem bd_take {sz n : Nat} {z flat : List TL} {ls : List Leaf} {parts : List (Nat × Slot)} {m1 : Mem} {rows : List (List Leaf)} {K : Slot → Mem → Prop} (h1 : z.length = sz ∧ 0 < sz ∧ n * sz ≤ 16777216) (h2 : fillL (fun i => some (i * sz, sz)) (repL n z) parts = some flat)
    (h3 : takeL flat m = some (ls, m1)) (h4 : chunk n sz ls = rows) (hk : K (.val false [.o m1.nx]) (m1.newTag (.ls rows))) : bdN (some sz) (some z) n parts m K := by
  refine ⟨h1, ?_⟩
  subst h4
  rw [h2]
  simp only []
  rw [h3]
  exact hk
def partM (a : Option Bool) (n : Option Nat) (off : Nat) (ls : List TL) : Option Slot := match a, n with
  | some true, some n => if off + n ≤ ls.length then some (.val true ((ls.drop off).take n)) else none
  | some false, some _ => match ls[off]? with
    | some x => some (.val false [x])
    | none => none
  | _, _ => none
def partN : Option TL → Option Slot
  | some x => some (.val false [x])
  | none => none
theorem s_part {t : TypeId} {off : Nat} {ls : List TL} : part P t off ls = partM (aggOf P t) (szOf P t) off ls := rfl
theorem s_partM_agg {off n : Nat} {ls : List TL} : partM (some true) (some n) off ls = if off + n ≤ ls.length then some (.val true ((ls.drop off).take n)) else none := rfl
theorem s_partM_sc {off n : Nat} {ls : List TL} : partM (some false) (some n) off ls = partN ls[off]? := rfl
theorem s_partN {x : TL} : partN (some x) = some (.val false [x]) := rfl
def faM (P : Program) (x : Option (Nat × TypeId)) (s : Slot) : Option Slot := match x with
  | some (off, ft) => if szOf P ft = some 0 ∨ szOf P ft = none then none else match s with
    | .ptr k o => some (.ptr k (o + off))
    | .rp ls => some (.rp (ls.drop off))
    | .ep t i sz o => some (.ep t i sz (o + off))
    | _ => none
  | none => none
def faN (n : Option Nat) (off : Nat) (s : Slot) : Option Slot := match n with
  | some (_ + 1) => match s with
    | .ptr k o => some (.ptr k (o + off))
    | .rp ls => some (.rp (ls.drop off))
    | .ep t i sz o => some (.ep t i sz (o + off))
    | _ => none
  | _ => none
theorem s_fa {s : TypeId} {f : Nat} {x : Slot} : fieldAddrS P s f x = faM P (fldOf P s f) x := rfl
theorem s_faM {off : Nat} {ft : TypeId} {x : Slot} : faM P (some (off, ft)) x = faN (szOf P ft) off x := by
  show (if szOf P ft = some 0 ∨ szOf P ft = none then none else _) = _
  cases h : szOf P ft with
  | none => rw [if_pos (.inr rfl)]; rfl
  | some n =>
    cases n with
    | zero => rw [if_pos (.inl rfl)]; rfl
    | succ n => rw [if_neg (by simp)]; rfl
theorem s_fa_ptr {off n k o : Nat} : faN (some (n + 1)) off (.ptr k o) = some (.ptr k (o + off)) := rfl
theorem s_fa_rp {off n : Nat} {ls : List Leaf} : faN (some (n + 1)) off (.rp ls) = some (.rp (ls.drop off)) := rfl
theorem s_fa_ep {off n o t i sz : Nat} : faN (some (n + 1)) off (.ep t i sz o) = some (.ep t i sz (o + off)) := rfl
def fdM (P : Program) (x : Option (Nat × TypeId)) (ls : List TL) : Option Slot := match x with
  | some (off, ft) => part P ft off ls
  | none => none
theorem s_field {s : TypeId} {f : Nat} {ls : List TL} : fieldS P s f (.val true ls) = fdM P (fldOf P s f) ls := rfl
theorem s_fdM {off : Nat} {ft : TypeId} {ls : List TL} : fdM P (some (off, ft)) ls = partM (aggOf P ft) (szOf P ft) off ls := rfl
def lenM (e : Option TypeId) (n : Nat) : Option Slot := if e.isSome = true then some (.val false [.v (.sc (.int .i64 n))]) else none
theorem s_lenM {e : TypeId} {n : Nat} : lenM (some e) n = some (.val false [.v (.sc (.int .i64 n))]) := rfl
theorem s_len_str {t : TypeId} {s : ByteArray} : lenS P md t m (.val false [.v (.sc (.string s))]) = if strT P t = true then some (.val false [.v (.sc (.int .i64 s.size))]) else none := rfl
theorem s_len_ls {t : TypeId} {xs : List (List Leaf)} : lenS P md t m (.val false [.v (.ls xs)]) = lenM (elOf P t) xs.length := rfl
theorem s_len_nl {t : TypeId} : lenS P md t m (.val false [.nl]) = lenM (elOf P t) 0 := rfl
def lenO (e : Option TypeId) (x : Option Leaf) : Option Slot := match e, x with
  | some _, some (.ls xs) => some (.val false [.v (.sc (.int .i64 xs.length))])
  | _, _ => none
theorem s_lenO {e : TypeId} {xs : List (List Leaf)} : lenO (some e) (some (.ls xs)) = some (.val false [.v (.sc (.int .i64 xs.length))]) := rfl
theorem s_len_o {t : TypeId} {g : Nat} : lenS P .seq t m (.val false [.o g]) = lenO (elOf P t) ((m.tag g).cont) := by
  unfold lenO
  simp only [lenS, Mem.leaf]
  cases elOf P t <;> simp <;> (cases (m.tag g).cont with | none => rfl | some l => cases l <;> rfl)
def iaM (P : Program) (e : Option TypeId) (xs : List (List Leaf)) (i : Int) : Option Slot := match e with
  | some e => if (0 ≤ i ∧ i < xs.length) ∧ szOf P e = some (rowAt xs i.toNat).length then some (.rp (rowAt xs i.toNat)) else none
  | none => none
theorem s_ia_ls {t : TypeId} {k : IntKind} {i : Int} {xs : List (List Leaf)} : indexAddrS P md t m (.val false [.v (.ls xs)]) (.val false [.v (.sc (.int k i))]) = iaM P (elOf P t) xs i := by
  unfold iaM indexAddrS
  cases elOf P t <;> rfl
theorem s_iaM {e : TypeId} {i : Int} {xs : List (List Leaf)} : iaM P (some e) xs i = if (0 ≤ i ∧ i < xs.length) ∧ szOf P e = some (rowAt xs i.toNat).length then some (.rp (rowAt xs i.toNat)) else none := rfl
theorem s_index {t : TypeId} {k : IntKind} {i : Int} {s : ByteArray} : indexS P t (.val false [.v (.sc (.string s))]) (.val false [.v (.sc (.int k i))]) = if strT P t = true ∧ (0 ≤ i ∧ i < s.size) then some (.val false [.v (.sc (.int .u8 (byteAt s i.toNat)))]) else none := rfl
theorem s_not {b : Bool} : unS .not (.val false [.v (.sc (.bool b))]) = some (.val false [.v (.sc (.bool (!b)))]) := rfl
def maxI (a b : Int) : Int := if b > a then b else a
theorem s_max {k : IntKind} {a b : Int} : maxS (.val false [.v (.sc (.int k a))]) (.val false [.v (.sc (.int k b))]) = some (.val false [.v (.sc (.int k (maxI a b)))]) := rfl
theorem s_neg {k : IntKind} {n : Int} : unS .neg (.val false [.v (.sc (.int k n))]) = some (.val false [.v (.sc (.int k (k.wrap (0 - n))))]) := rfl
section
variable {t : TypeId} {k : IntKind} {a b : Int}
theorem s_add : binS P .add t (.val false [.v (.sc (.int k a))]) (.val false [.v (.sc (.int k b))]) = some (.val false [.v (.sc (.int k (k.wrap (a + b))))]) := by simp [binS, binV, oneS]
theorem s_sub : binS P .sub t (.val false [.v (.sc (.int k a))]) (.val false [.v (.sc (.int k b))]) = some (.val false [.v (.sc (.int k (k.wrap (a - b))))]) := by simp [binS, binV, oneS]
theorem s_mul : binS P .mul t (.val false [.v (.sc (.int k a))]) (.val false [.v (.sc (.int k b))]) = some (.val false [.v (.sc (.int k (k.wrap (a * b))))]) := by simp [binS, binV, oneS]
theorem s_eql : binS P .eql t (.val false [.v (.sc (.int k a))]) (.val false [.v (.sc (.int k b))]) = some (.val false [.v (.sc (.bool (a == b)))]) := by simp [binS, binV, oneS]
theorem s_neq : binS P .neq t (.val false [.v (.sc (.int k a))]) (.val false [.v (.sc (.int k b))]) = some (.val false [.v (.sc (.bool (a != b)))]) := by simp [binS, binV, oneS]
theorem s_lss : binS P .lss t (.val false [.v (.sc (.int k a))]) (.val false [.v (.sc (.int k b))]) = some (.val false [.v (.sc (.bool (decide (a < b))))]) := by simp [binS, binV, oneS]
theorem s_leq : binS P .leq t (.val false [.v (.sc (.int k a))]) (.val false [.v (.sc (.int k b))]) = some (.val false [.v (.sc (.bool (decide (a ≤ b))))]) := by simp [binS, binV, oneS]
theorem s_gtr : binS P .gtr t (.val false [.v (.sc (.int k a))]) (.val false [.v (.sc (.int k b))]) = some (.val false [.v (.sc (.bool (decide (a > b))))]) := by simp [binS, binV, oneS]
theorem s_geq : binS P .geq t (.val false [.v (.sc (.int k a))]) (.val false [.v (.sc (.int k b))]) = some (.val false [.v (.sc (.bool (decide (a ≥ b))))]) := by simp [binS, binV, oneS]
theorem s_seq {x y : ByteArray} : binS P .eql t (.val false [.v (.sc (.string x))]) (.val false [.v (.sc (.string y))]) = some (.val false [.v (.sc (.bool (x.toList == y.toList)))]) := by simp [binS, binV, oneS]
theorem s_sne {x y : ByteArray} : binS P .neq t (.val false [.v (.sc (.string x))]) (.val false [.v (.sc (.string y))]) = some (.val false [.v (.sc (.bool (!(x.toList == y.toList))))]) := by simp [binS, binV, oneS]
theorem s_pick {t x y : Bool} : pickK (.val false [.v (.sc (.bool t))]) (.val false [.v (.sc (.bool x))]) (.val false [.v (.sc (.bool y))]) = some (.val false [.v (.sc (.bool (cond t x y)))]) := rfl
end
/-- A loop that goes up to N. -/
def upK (I : Nat → Reg → Mem → Prop) (N i : Nat) : Reg → Mem → Prop := fun r m => ∃ i', i < i' ∧ i' ≤ N ∧ I i' r m
theorem loop_up {c : Code} (N i0 : Nat) (I : Nat → Reg → Mem → Prop) (hle : i0 ≤ N) (h0 : I i0 r m) (hs : ∀ i r m, i ≤ N → I i r m → awp P c (thenK (upK I N i) Q) r m) : loopK P c Q r m := by
  refine ⟨fun n r m => n ≤ N ∧ I (N - n) r m, ⟨N - i0, by omega, by rw [show N - (N - i0) = i0 by omega]; exact h0⟩, ?_⟩
  rintro n r m ⟨h1, h2⟩
  have he : (fun r' m' => ∃ n', n' < n ∧ n' ≤ N ∧ I (N - n') r' m') = upK I N (N - n) := by
    funext r' m'
    refine propext ⟨fun ⟨n', a, b, c⟩ => ⟨N - n', by omega, by omega, c⟩, fun ⟨i', a, b, c⟩ => ⟨N - i', by omega, by omega, by rw [show N - (N - i') = i' by omega]; exact c⟩⟩
  show awp P c (thenK (fun r' m' => ∃ n', n' < n ∧ n' ≤ N ∧ I (N - n') r' m') Q) r m
  rw [he]
  exact hs (N - n) r m (by omega) h2
theorem up {I : Nat → Reg → Mem → Prop} {N i : Nat} (h1 : i < N) (h2 : I (i + 1) r m) : upK I N i r m := ⟨i + 1, Nat.lt_succ_self i, h1, h2⟩
theorem e_br_yes {p : Prop} [Decidable p] {a b : Code} (h : p) : brK P (decide p) a b Q r m = awp P a Q r m := by simp [brK, gK, h]
theorem e_br_no {p : Prop} [Decidable p] {a b : Code} (h : ¬ p) : brK P (decide p) a b Q r m = awp P b Q r m := by simp [brK, gK, h]
/-- A call of a function whose statement is known. -/
theorem call_by {f : FuncId} {ss : List Slot} {args : List RS} {post : RS → List (Option Leaf) → List (List FL) → Prop} {K : Slot → Mem → Prop} (hc : AC P f [] args post) (hs : showS m ss = some args) (hk : ∀ x l b, post x l b → retK x m (slotL ss) K) : callE P md f ss m K := by
  refine .inl ?_
  unfold callPure
  rw [hs]
  exact hc.mono hk
theorem e_ret_v {b : Bool} {v : Value} {xs : List TL} {K : Slot → Mem → Prop} : retK (.val b [.v (.sc v)]) m xs K = K (.val b [.v (.sc v)]) m := rfl
def resM : Slot → Option (Bool × List TL)
  | .val b ls => some (b, ls)
  | _ => none
def resC (y : Option (Bool × List TL)) (ys : Option (List (Bool × List TL))) : Option (List (Bool × List TL)) := match y, ys with
  | some y, some ys => some (y :: ys)
  | _, _ => none
def resP (x : Option Slot) : Option (Bool × List TL) := match x with
  | some (.val b ls) => some (b, ls)
  | _ => none
def resB (P : Program) (ty : TypeId) (s : Slot) (m : Mem) : Option (Bool × List TL) := match s with
  | .ptr k off => resP (part P ty off (m.box k))
  | _ => none
def finK (xs : Option (List (Bool × List TL))) (m : Mem) (post : RS → Mem → Prop) : Prop := match xs with
  | some xs => match outT xs m with
    | some (ys, m') => post (mkRS ys) m'
    | none => False
  | none => False
def finM (ys : Option (List (Bool × List FL) × Mem)) (post : RS → Mem → Prop) : Prop := match ys with
  | some (ys, m') => post (mkRS ys) m'
  | none => False
theorem e_fin {rs : List ResultVar} {post : RS → Mem → Prop} : retQ P rs post .normal r m = finK (resAll P rs r m) m post := rfl
theorem e_finK {xs : List (Bool × List TL)} {post : RS → Mem → Prop} : finK (some xs) m post = finM (outT xs m) post := rfl
theorem e_finM {ys : List (Bool × List FL)} {m' : Mem} {post : RS → Mem → Prop} : finM (some (ys, m')) post = post (mkRS ys) m' := rfl
theorem e_mk1 {b : Bool} {ls : List FL} : mkRS [(b, ls)] = .val b ls := rfl
theorem e_mk2 {x y : Bool × List FL} {ys : List (Bool × List FL)} : mkRS (x :: y :: ys) = .tup (x :: y :: ys) := rfl
theorem e_res_nil : resAll P [] r m = some [] := rfl
theorem e_res_tmp {t : Tmp} {rs : List ResultVar} : resAll P (.tmp t :: rs) r m = resC (resM (r t)) (resAll P rs r m) := rfl
theorem e_resM {b : Bool} {ls : List TL} : resM (.val b ls) = some (b, ls) := rfl
theorem e_resC {y : Bool × List TL} {ys : List (Bool × List TL)} : resC (some y) (some ys) = some (y :: ys) := rfl
def outM (b : Bool) (x : Option (List FL × Mem)) (r : List (Bool × List TL)) : Option (List (Bool × List FL) × Mem) := match x with
  | some (x, m1) => outN b x (outT r m1)
  | none => none
where outN (b : Bool) (x : List FL) (y : Option (List (Bool × List FL) × Mem)) : Option (List (Bool × List FL) × Mem) := y.map fun p => ((b, x) :: p.1, p.2)
def outC (x : FL) (y : Option (List FL × Mem)) : Option (List FL × Mem) := y.map fun p => (x :: p.1, p.2)
def outG (g : TG) (t : Nat) (r : List TL) (m : Mem) : Option (List FL × Mem) := match g with
  | .live l => outC (.o l) (outL r (m.setTag t .gone))
  | .frz l => outC (.v l) (outL r m)
  | .gone => none
theorem e_outT_nil : outT [] m = some ([], m) := rfl
theorem e_outT {b : Bool} {ls : List TL} {rs : List (Bool × List TL)} : outT ((b, ls) :: rs) m = outM b (outL ls m) rs := by
  simp only [outT, outM]
  cases outL ls m <;> rfl
theorem e_outM {b : Bool} {x : List FL} {m1 : Mem} {rs : List (Bool × List TL)} : outM b (some (x, m1)) rs = outM.outN b x (outT rs m1) := rfl
theorem e_outN {b : Bool} {x : List FL} {m1 : Mem} {ys : List (Bool × List FL)} : outM.outN b x (some (ys, m1)) = some ((b, x) :: ys, m1) := rfl
theorem e_outL_nil : outL [] m = some ([], m) := rfl
theorem e_outL_v {l : Leaf} {ls : List TL} : outL (.v l :: ls) m = outC (.v l) (outL ls m) := rfl
theorem e_outL_nl {ls : List TL} : outL (.nl :: ls) m = outC (.o (.ls [])) (outL ls m) := rfl
theorem e_outL_o {t : Nat} {ls : List TL} : outL (.o t :: ls) m = outG (m.tag t) t ls m := by
  simp only [outL, outG]
  cases m.tag t <;> rfl
theorem e_outG_live {l : Leaf} {t : Nat} {ls : List TL} : outG (.live l) t ls m = outC (.o l) (outL ls (m.setTag t .gone)) := rfl
theorem e_outG_frz {l : Leaf} {t : Nat} {ls : List TL} : outG (.frz l) t ls m = outC (.v l) (outL ls m) := rfl
theorem e_outC {x : FL} {y : List FL} {m1 : Mem} : outC x (some (y, m1)) = some (x :: y, m1) := rfl
/-! lists of one's own -/
def mkN (sz by_ : Option Nat) (z : Option (List TL)) (n n' : Int) (m : Mem) (K : Slot → Mem → Prop) : Prop := match sz, by_, z with
  | some sz, some by_, some z => (z.length = sz ∧ 0 < sz ∧ n' = n ∧ 0 ≤ n ∧ (by_ : Int) * n ≤ 281474976710656 ∧ n ≤ 9223372036854775807) ∧ K (.val false [.o m.nx]) (m.newTag (.ls (List.replicate n.toNat (z.map TL.zl))))
  | _, _, _ => False
def mkM (P : Program) (e : Option TypeId) (n n' : Int) (m : Mem) (K : Slot → Mem → Prop) : Prop := match e with
  | some e => mkN (szOf P e) (bytesOf P e) (zeroOf P e) n n' m K
  | none => False
theorem x_make {t : TypeId} {k k' : IntKind} {n n' : Int} {K : Slot → Mem → Prop} : makeX P t (.val false [.v (.sc (.int k n))]) (.val false [.v (.sc (.int k' n'))]) m K = mkM P (elOf P t) n n' m K := by
  unfold makeX mkM mkN
  cases elOf P t <;> rfl
theorem x_mkM {e : TypeId} {n n' : Int} {K : Slot → Mem → Prop} : mkM P (some e) n n' m K = mkN (szOf P e) (bytesOf P e) (zeroOf P e) n n' m K := rfl
theorem x_mkN {sz by_ : Nat} {z : List TL} {n n' : Int} {K : Slot → Mem → Prop} : mkN (some sz) (some by_) (some z) n n' m K = ((z.length = sz ∧ 0 < sz ∧ n' = n ∧ 0 ≤ n ∧ (by_ : Int) * n ≤ 281474976710656 ∧ n ≤ 9223372036854775807) ∧ K (.val false [.o m.nx]) (m.newTag (.ls (List.replicate n.toNat (z.map TL.zl))))) := rfl
def iaG (n : Option Nat) (g : Nat) (x : TG) (i : Int) : Option Slot := match x with
  | .live (.ls xs) => match n with
    | some n => if 0 ≤ i ∧ i < xs.length then some (.ep g i.toNat n 0) else none
    | none => none
  | .frz (.ls xs) => if (0 ≤ i ∧ i < xs.length) ∧ n = some (rowAt xs i.toNat).length then some (.rp (rowAt xs i.toNat)) else none
  | _ => none
def iaO (P : Program) (e : Option TypeId) (g : Nat) (x : TG) (i : Int) : Option Slot := match e with
  | some e => iaG (szOf P e) g x i
  | none => none
theorem s_ia_o {t : TypeId} {k : IntKind} {i : Int} {g : Nat} : indexAddrS P .seq t m (.val false [.o g]) (.val false [.v (.sc (.int k i))]) = iaO P (elOf P t) g (m.tag g) i := by
  unfold iaO iaG
  simp only [indexAddrS]
  cases elOf P t with
  | none => rfl
  | some e =>
    simp only [if_true]
    cases h : m.tag g with
    | live l => cases l <;> cases szOf P e <;> rfl
    | frz l => cases l <;> cases szOf P e <;> rfl
    | gone => rfl
theorem s_iaO {e : TypeId} {g : Nat} {x : TG} {i : Int} : iaO P (some e) g x i = iaG (szOf P e) g x i := rfl
theorem s_iaG_live {n g : Nat} {xs : List (List Leaf)} {i : Int} : iaG (some n) g (.live (.ls xs)) i = if 0 ≤ i ∧ i < xs.length then some (.ep g i.toNat n 0) else none := rfl
theorem s_iaG_frz {n g : Nat} {xs : List (List Leaf)} {i : Int} : iaG (some n) g (.frz (.ls xs)) i = if (0 ≤ i ∧ i < xs.length) ∧ some n = some (rowAt xs i.toNat).length then some (.rp (rowAt xs i.toNat)) else none := rfl
def tkC (l : Leaf) (x : Option (List Leaf × Mem)) : Option (List Leaf × Mem) := x.map fun p => (l :: p.1, p.2)
def tkG (g : TG) (t : Nat) (r : List TL) (m : Mem) : Option (List Leaf × Mem) := match g with
  | .live l => tkC l (takeL r (m.setTag t .gone))
  | _ => none
theorem t_nil : takeL [] m = some ([], m) := rfl
theorem t_v {v : Value} {ls : List TL} : takeL (.v (.sc v) :: ls) m = tkC (.sc v) (takeL ls m) := rfl
theorem t_nl {ls : List TL} : takeL (.nl :: ls) m = tkC (.ls []) (takeL ls m) := rfl
theorem t_o {t : Nat} {ls : List TL} : takeL (.o t :: ls) m = tkG (m.tag t) t ls m := by
  simp only [takeL, tkG]
  cases m.tag t <;> rfl
theorem t_G {l : Leaf} {t : Nat} {ls : List TL} : tkG (.live l) t ls m = tkC l (takeL ls (m.setTag t .gone)) := rfl
theorem t_C {l : Leaf} {ls : List Leaf} {m1 : Mem} : tkC l (some (ls, m1)) = some (l :: ls, m1) := rfl
theorem t_live {l : Leaf} : (TG.live l).isLive = true := rfl
theorem t_cont_live {l : Leaf} : (TG.live l).cont = some l := rfl
theorem t_cont_frz {l : Leaf} : (TG.frz l).cont = some l := rfl
def stF (g i off n : Nat) (xs : List (List Leaf)) (x : Option (List Leaf × Mem)) (K : Slot → Mem → Prop) : Prop := match x with
  | some (new, m') => (m'.tag g).isLive = true ∧ K .junk ((m'.setTag g (.live (.ls (xs.set i ((rowAt xs i).take off ++ new ++ (rowAt xs i).drop (off + n)))))).bump g)
  | none => False
def stE (P : Program) (t : TypeId) (g i sz off : Nat) (ls : List TL) (x : TG) (m : Mem) (K : Slot → Mem → Prop) : Prop := match x with
  | .live (.ls xs) => (i < xs.length ∧ (rowAt xs i).length = sz ∧ off + ls.length ≤ sz ∧ szOf P t = some ls.length) ∧ stF g i off ls.length xs (takeL ls m) K
  | _ => False
theorem x_store_ep {t : TypeId} {g i sz off : Nat} {b : Bool} {ls : List TL} {K : Slot → Mem → Prop} : storeX P .seq t (.ep g i sz off) (.val b ls) m K = stE P t g i sz off ls (m.tag g) m K := by
  unfold stE stF
  simp only [storeX, true_and]
  cases m.tag g with
  | live l =>
    cases l with
    | ls xs =>
      simp only []
      cases takeL ls m <;> rfl
    | sc v => rfl
  | _ => rfl
theorem x_stE {t : TypeId} {g i sz off : Nat} {xs : List (List Leaf)} {ls : List TL} {K : Slot → Mem → Prop} : stE P t g i sz off ls (.live (.ls xs)) m K = ((i < xs.length ∧ (rowAt xs i).length = sz ∧ off + ls.length ≤ sz ∧ szOf P t = some ls.length) ∧ stF g i off ls.length xs (takeL ls m) K) := rfl
theorem x_stF {g i off n : Nat} {xs : List (List Leaf)} {new : List Leaf} {m1 : Mem} {K : Slot → Mem → Prop} : stF g i off n xs (some (new, m1)) K = ((m1.tag g).isLive = true ∧ K .junk ((m1.setTag g (.live (.ls (xs.set i ((rowAt xs i).take off ++ new ++ (rowAt xs i).drop (off + n)))))).bump g)) := rfl
/-! what comes back of a call -/
def bnK (b : Bool) (x : List TL × Mem) (K : Slot → Mem → Prop) : Prop := K (.val b x.1) x.2
def btK (x : List (Bool × List TL) × Mem) (K : Slot → Mem → Prop) : Prop := K (.tup x.1) x.2
def bC (x : TL) (y : List TL × Mem) : List TL × Mem := (x :: y.1, y.2)
theorem e_retK {b : Bool} {ls : List FL} {xs : List TL} {K : Slot → Mem → Prop} : retK (.val b ls) m xs K = bnK b (bindM ls (frzIf (ls.any FL.isView) m xs)) K := rfl
theorem e_bnK {b : Bool} {ls : List TL} {m1 : Mem} {K : Slot → Mem → Prop} : bnK b (ls, m1) K = K (.val b ls) m1 := rfl
theorem e_frz_no {xs : List TL} : frzIf false m xs = m := rfl
theorem e_frz_yes {xs : List TL} : frzIf true m xs = frzL m xs := rfl
theorem e_bind_nil : bindM [] m = ([], m) := rfl
theorem e_bind_v {l : Leaf} {ls : List FL} : bindM (.v l :: ls) m = bC (.v l) (bindM ls m) := rfl
theorem e_bind_o {l : Leaf} {ls : List FL} : bindM (.o l :: ls) m = bC (.o m.nx) (bindM ls (m.newTag l)) := rfl
theorem e_bC {x : TL} {ls : List TL} {m1 : Mem} : bC x (ls, m1) = (x :: ls, m1) := rfl
theorem e_view_sc {v : Value} : FL.isView (.v (.sc v)) = false := rfl
theorem e_view_ls {xs : List (List Leaf)} : FL.isView (.v (.ls xs)) = true := rfl
theorem e_view_o {l : Leaf} : FL.isView (.o l) = false := rfl
theorem e_frzL_nil : frzL m [] = m := rfl
theorem e_frzL_v {l : Leaf} {r : List TL} : frzL m (.v l :: r) = frzL m r := rfl
theorem e_frzL_nl {r : List TL} : frzL m (.nl :: r) = frzL m r := rfl
theorem e_frzL_o {t : Nat} {r : List TL} : frzL m (.o t :: r) = frzL (frzT m t) r := rfl
theorem e_res_cell {a ty : Nat} {rs : List ResultVar} : resAll P (.cell a ty :: rs) r m = resC (resB P ty (r a) m) (resAll P rs r m) := by
  simp only [resAll, resS, resC, resB]
  cases r a <;> rfl
theorem e_resB {ty k off : Nat} : resB P ty (.ptr k off) m = resP (part P ty off (m.box k)) := rfl
theorem e_resP {b : Bool} {ls : List TL} : resP (some (.val b ls)) = some (b, ls) := rfl
/-- A function to which data is only shown, its results named. -/
theorem AC.pure' {f : FuncId} {fn : Func} {c : Code} {args : List RS} {post : RS → Prop} {rs : List ResultVar} (hf : P.funcs[f]? = some fn) (hb : fn.body = some c) (hr : fn.results.toList = rs) (hn : (fn.name == "runtime.NumGoroutine") = false) (hmx : P.follows .mixedOrders = true) (hok : okC fn.ntmps c = true) (hla : args.length ≤ fn.ntmps)
    (ha : allV args = true) (h : awp P c (retQ P rs fun r _ => post r) (startR args) startM) : AC P f [] args (fun r _ _ => post r) := by
  subst hr
  exact AC.pure hf hb hn hmx hok hla ha h
theorem e_fin_ret {fn : List ResultVar} {post : RS → Mem → Prop} : retQ P fn post .ret r m = retQ P fn post .normal r m := rfl
theorem wrap_id {i : Int} (h1 : -9223372036854775808 ≤ i) (h2 : i ≤ 9223372036854775807) : IntKind.i64.wrap i = i := by
  unfold IntKind.wrap
  simp only [IntKind.bits, IntKind.signed, Bool.true_and]
  by_cases h : i % 2 ^ 64 ≥ 2 ^ (64 - 1)
  · rw [if_pos (by simpa using h)]; omega
  · rw [if_neg (by simpa using h)]; omega
end
end Go.Proofs.Ythhfhllfbnpcgaa.Co
