/- The eleventh part of the theory: a function's whole text on plain data ('awp'), and that the machine goes along with it. -/
import Derived.Test.YthhfhllfbnpcgaaCoJg
namespace Go.Proofs.Ythhfhllfbnpcgaa.Co
open Go
set_option linter.unusedSimpArgs false
set_option linter.unusedVariables false

/-- A call, whatever is handed over. -/
def callE (P : Program) (md : Md) (f : FuncId) (ss : List Slot) (m : Mem) (K : Slot → Mem → Prop) : Prop := callPure P f ss m K ∨ (md = .seq ∧ (callGen P f ss m K ∨ callNew P f ss m K))
def callV (P : Program) (md : Md) (fs : Slot) (ss : List Slot) (m : Mem) (K : Slot → Mem → Prop) : Prop := match fs with
  | .val false [.v (.sc (.func (.func f) first cap))] => (first.size = 0 ∧ cap.size = 0) ∧ callE P md f ss m K
  | .clo f ks => callE P md f (ss ++ ks.map fun k => .ptr k 0) m K
  | _ => False
def frK (x : Option Slot) (m : Mem) (K : Slot → Mem → Prop) : Prop := match x with
  | some s => K s m
  | none => False
def eo (P : Program) (md : Md) (op : Op) (ρ : Operand → Slot) (m : Mem) (K : Slot → Mem → Prop) : Prop := match op with
  | .alloc t => eoX P md (.alloc t) ρ m K
  | .box t x => eoX P md (.box t x) ρ m K
  | .store t a x => eoX P md (.store t a x) ρ m K
  | .buildSlice t n ps => eoX P md (.buildSlice t n ps) ρ m K
  | .makeSlice t l c => eoX P md (.makeSlice t l c) ρ m K
  | .call c => match c.callee with
    | .value f => callV P md (ρ f) (c.args.toList.map ρ) m K
    | .builtin .append => eoX P md (.call c) ρ m K
    | _ => frK (fr P md (.call c) ρ m) m K
  | op => frK (fr P md op ρ m) m K

abbrev Reg := Nat → Slot
def gK (b want : Bool) (x y : Prop) : Prop := if b = want then x else y
/-- One operation, its guard asked. -/
def aOp (P : Program) (md : Md) (ops : List Oper) (o : Oper) (r : Reg) (m : Mem) (K : Reg → Mem → Prop) : Prop := match o.guard with
  | none => eo P md o.op (evR r) m fun s m' => K (updO r o.dst s) m'
  | some (j, want) => match (ops[j]?).bind (·.dst) with
    | some d => match r d with
      | .val false [.v (.sc (.bool b))] => gK b want (eo P md o.op (evR r) m fun s m' => K (updO r o.dst s) m') (K (updO r o.dst (.tup [])) m)
      | .tup _ => K (updO r o.dst (.tup [])) m
      | _ => False
    | none => False
def aSeq (P : Program) (md : Md) (ops : List Oper) : List Oper → Reg → Mem → (Reg → Mem → Prop) → Prop
  | [], r, m, K => K r m
  | o :: rest, r, m, K => aOp P md ops o r m fun r' m' => aSeq P md ops rest r' m' K
def thenK (next : Reg → Mem → Prop) (Q : Exit → Reg → Mem → Prop) : Exit → Reg → Mem → Prop
  | .normal, r, m => next r m
  | e, r, m => Q e r m
def blockK (id : Nat) (Q : Exit → Reg → Mem → Prop) : Exit → Reg → Mem → Prop
  | .exit id', r, m => if id' = id then Q .normal r m else Q (.exit id') r m
  | e, r, m => Q e r m
/-- A loop: an invariant with a number that goes down. -/
def LoopP (body : (Exit → Reg → Mem → Prop) → Reg → Mem → Prop) (Q : Exit → Reg → Mem → Prop) (r : Reg) (m : Mem) : Prop :=
  ∃ I : Nat → Reg → Mem → Prop, (∃ n, I n r m) ∧ ∀ n r m, I n r m → body (thenK (fun r' m' => ∃ n', n' < n ∧ I n' r' m') Q) r m
/-! A region whose order is open: worked out in one chosen order; what that asks of the text is asked by a test. -/
def calmOp : Op → Bool
  | .alloc _ => false
  | .box _ _ => false
  | .store _ _ _ => false
  | _ => true
def plainOp : Op → Bool
  | .alloc _ => false
  | .box _ _ => false
  | .store _ _ _ => false
  | .buildSlice _ _ _ => false
  | .makeSlice _ _ _ => false
  | .call c => match c.callee with
    | .value _ => false
    | .builtin .append => false
    | _ => true
  | _ => true
def dirD (ops : List Oper) (i : Nat) : List Nat := match ops[i]? with
  | some o => (o.after.toList.filter (Region.binds .any)).map (·.on)
  | none => []
def transD (ops : List Oper) : Nat → Nat → List Nat
  | 0, _ => []
  | n + 1, i => dirD ops i ++ (dirD ops i).flatMap (transD ops n)
def swapOk (ops : List Oper) (x y : Oper) : Bool := x.apart ops.toArray y && plainOp x.op && calmOp y.op
def swapAt (ops : List Oper) (j i : Nat) : Bool := match ops[j]?, ops[i]? with
  | some x, some y => swapOk ops x y
  | _, _ => false
def pairsOk (ops : List Oper) : List Nat → Bool
  | [] => true
  | j :: r => r.all (fun i => (transD ops ops.length i).contains j || swapAt ops j i) && pairsOk ops r
def topoOk (ops : List Oper) : List Nat → List Nat → Bool
  | _, [] => true
  | seen, i :: r => decide (i < ops.length) && !seen.contains i && (dirD ops i).all (seen.contains ·) && topoOk ops (i :: seen) r
def drawOk (ops : List Oper) (ord : List Nat) : Bool := decide (ord.length ≤ ops.length) && (List.range ops.length).all (ord.contains ·) && topoOk ops [] ord && pairsOk ops ord
def pickL (ops : List Oper) : List Nat → List Oper
  | [] => []
  | i :: r => match ops[i]? with
    | some o => o :: pickL ops r
    | none => pickL ops r
def aDraw (P : Program) (ops : List Oper) (r : Reg) (m : Mem) (K : Reg → Mem → Prop) : Prop := ∃ ord, drawOk ops ord = true ∧ aSeq P .draw ops (pickL ops ord) r m K
def awp (P : Program) : Code → (Exit → Reg → Mem → Prop) → Reg → Mem → Prop
  | .skip, Q, r, m => Q .normal r m
  | .region _ ops false, Q, r, m => aSeq P .seq ops.toList ops.toList r m (Q .normal)
  | .region _ ops true, Q, r, m => aDraw P ops.toList r m (Q .normal)
  | .seq a b, Q, r, m => awp P a (thenK (awp P b Q) Q) r m
  | .cond c a b, Q, r, m => match evR r c with
    | .val false [.v (.sc (.bool t))] => gK t true (awp P a Q r m) (awp P b Q r m)
    | _ => False
  | .block id c, Q, r, m => awp P c (blockK id Q) r m
  | .loop c, Q, r, m => LoopP (awp P c) Q r m
  | .exit id, Q, r, m => Q (.exit id) r m
  | .ret, Q, r, m => Q .ret r m
  | _, _, _, _ => False

/-- Every register that is set is one of n. -/
def okOps (n : Nat) (ops : Array Oper) : Bool := ops.toList.all fun o => match o.dst with
  | some d => decide (d < n)
  | none => true
def okC (n : Nat) : Code → Bool
  | .region _ ops _ => okOps n ops
  | .seq a b => okC n a && okC n b
  | .cond _ a b => okC n a && okC n b
  | .block _ c => okC n c
  | .loop c => okC n c
  | _ => true

/-- The machine's registers and memory say r and m. -/
structure Sim (w0 : World) (pb : Fence) (n : Nat) (g : G) (r : Reg) (m : Mem) (a : Act) (w : World) : Prop where
  mf : MF w0 pb g m w
  regs : ∀ t, SR g m w (r t) (a.tmps.getD t undef)
  size : a.tmps.size = n
  defers : a.defers = []
  mv : Mv pb.g0 pb.m0 w0 g m w
section
variable {P : Program} {w0 : World} {pb : Fence} {n : Nat} {g : G} {r : Reg} {m : Mem} {a : Act} {w : World}

theorem Sim.put {g' : G} {m' : Mem} {w' : World} {dst : Option Tmp} {s : Slot} {v : Value} (h : Sim w0 pb n g r m a w) (hm : MF w0 pb g' m' w') (hv : Mv g m w g' m' w') (hs : SR g' m' w' s v) (hd : ∀ d, dst = some d → d < n) :
    Sim w0 pb n g' (updO r dst s) m' (a.put dst v) w' := by
  refine ⟨hm, fun t => ?_, ?_, ?_, h.mv.trans hv⟩
  · cases dst with
    | none => exact (h.regs t).mv hv
    | some d =>
      have hlt : d < a.tmps.size := by rw [h.size]; exact hd d rfl
      simp only [updO, Act.put]
      by_cases he : t = d
      · subst he
        rw [upd_same]
        simpa [Array.getD_eq_getD_getElem?, hlt] using hs
      · rw [upd_ne _ _ he]
        have : (a.tmps.setIfInBounds d v).getD t undef = a.tmps.getD t undef := by
          simp [Array.getD_eq_getD_getElem?, Array.getElem?_setIfInBounds_ne (Ne.symm he)]
        rw [this]
        exact (h.regs t).mv hv
  · cases dst with
    | none => exact h.size
    | some d => simpa [Act.put] using h.size
  · cases dst <;> exact h.defers
theorem Sim.ev (h : Sim w0 pb n g r m a w) (x : Operand) : SR g m w (evR r x) (a.eval x) := ev_sound h.regs x

theorem run_enter {f : FuncId} {ev : Operand → Value} {o : Oper} {c : Call} {fx : Operand} (ho : o.op = .call c) (hc : c.callee = .value fx) (hf : ev fx = .func (.func f) #[] #[]) (he : Enters P f) :
    (execOp ev o).run P w = .ok (.enter f (c.args.map ev)) w := by
  obtain ⟨fn, h1, h2, h3⟩ := he
  simp only [execOp, ho, resolve, hc, hf, Deferred.ofValue, Sem.run_bind, Sem.run_pure, Result.andThen_ok, invoke, callFunc, program, Sem.run, h1, h2, h3, Bool.false_eq_true, if_false]
  simp

theorem run_enterC {f : FuncId} {ev : Operand → Value} {o : Oper} {c : Call} {fx : Operand} {cap : Array Value} (ho : o.op = .call c) (hc : c.callee = .value fx) (hf : ev fx = .func (.func f) #[] cap) (he : Enters P f) :
    (execOp ev o).run P w = .ok (.enter f (c.args.map ev ++ cap)) w := by
  obtain ⟨fn, h1, h2, h3⟩ := he
  simp only [execOp, ho, resolve, hc, hf, Deferred.ofValue, Sem.run_bind, Sem.run_pure, Result.andThen_ok, invoke, callFunc, program, Sem.run, h1, h2, h3, Bool.false_eq_true, if_false]
  simp

/-- A call, by whatever rule. -/
theorem call_sound {md : Md} {f : FuncId} {ss : List Slot} {vs : List Value} {K : Slot → Mem → Prop} (h : callE P md f ss m K) (hm : MF w0 pb g m w) (hss : SRs g m w ss vs) :
    Enters P f ∧ Calls P f vs.toArray w (CallOk w0 pb g m w K) := by
  rcases h with h | ⟨_, h | h⟩
  · exact pure_sound h hm hss
  · exact gen_sound h hm hss
  · exact new_sound h hm hss
theorem SRs.ptrs {ks : List Nat} (h : ∀ k ∈ ks, m.box k ≠ []) : SRs g m w (ks.map fun k => .ptr k 0) (ks.map fun k => ptrTo (g.β k)) := by
  induction ks with
  | nil => exact .nil
  | cons k ks ih => exact .cons ⟨rfl, h k (by simp)⟩ (ih (fun j hj => h j (by simp [hj])))
theorem frK_some {x : Option Slot} {K : Slot → Mem → Prop} (h : frK x m K) : ∃ s, x = some s ∧ K s m := by
  unfold frK at h
  split at h
  · exact ⟨_, rfl, h⟩
  · exact h.elim
/-- One operation. -/
theorem eo_sound {md : Md} {o : Oper} {K : Slot → Mem → Prop} {next : Act → World → Prop} {Q : Exit → Act → World → Prop} (h : eo P md o.op (evR r) m K) (hs : Sim w0 pb n g r m a w) (hd : ∀ d, o.dst = some d → d < n)
    (hk : ∀ s m' a' w' g', K s m' → Sim w0 pb n g' (updO r o.dst s) m' a' w' → next a' w') : o.wp P a w next Q := by
  -- operations that set a register
  have viaR : frK (fr P md o.op (evR r) m) m K → o.wp P a w next Q := by
    intro h
    obtain ⟨s, h1, h2⟩ := frK_some h
    obtain ⟨v, h3, h4⟩ := fr_sound (P := P) h1 hs.mf.mem hs.ev
    unfold Oper.wp
    rw [h3]
    exact hk s m _ w g h2 (hs.put hs.mf (Mv.refl _ _ _) h4 hd)
  -- operations that make or write
  have viaX : eoX P md o.op (evR r) m K → o.wp P a w next Q := by
    intro h
    obtain ⟨s, m', g', w', nx, h1, h2, h3, h4, h5⟩ := x_sound (P := P) h hs.mf hs.ev
    unfold Oper.wp
    rw [h2]
    rcases h3 with ⟨v, rfl, h6⟩ | ⟨rfl, rfl⟩
    · exact hk s m' _ w' g' h1 (hs.put h4 h5 h6 hd)
    · exact hk .junk m' _ w' g' h1 (hs.put h4 h5 trivial hd)
  unfold eo at h
  split at h
  · rename_i heq; rw [← heq] at h; exact viaX h
  · rename_i heq; rw [← heq] at h; exact viaX h
  · rename_i heq; rw [← heq] at h; exact viaX h
  · rename_i heq; rw [← heq] at h; exact viaX h
  · rename_i heq; rw [← heq] at h; exact viaX h
  · rename_i c heq
    split at h
    · rename_i fx hcal
      unfold callV at h
      split at h
      · rename_i f first cap hfx
        obtain ⟨⟨h1, h2⟩, h⟩ := h
        have hfv := hs.ev fx
        rw [hfx] at hfv
        have hfv := VR.one_sc hfv
        have e1 : first = #[] := Array.eq_empty_of_size_eq_zero h1
        have e2 : cap = #[] := Array.eq_empty_of_size_eq_zero h2
        subst e1; subst e2
        obtain ⟨he, hc⟩ := call_sound h hs.mf (SRs.map hs.ev c.args.toList)
        unfold Oper.wp
        rw [run_enter (P := P) (w := w) heq hcal hfv he]
        have hargs : (c.args.toList.map a.eval).toArray = c.args.map a.eval := by rw [← Array.toList_inj]; simp
        rw [hargs] at hc
        refine hc.mono ?_
        rintro e w' ⟨v, s, m', g', rfl, h3, h4, h5, h6⟩
        exact hk s m' _ w' g' h3 (hs.put h5 h6 h4 hd)
      · rename_i f ks hfx
        have hfv := hs.ev fx
        rw [hfx] at hfv
        obtain ⟨hfv, hkn⟩ := hfv
        obtain ⟨he, hc⟩ := call_sound h hs.mf ((SRs.map hs.ev c.args.toList).append (SRs.ptrs hkn))
        unfold Oper.wp
        rw [run_enterC (P := P) (w := w) heq hcal hfv he]
        have hargs : (c.args.toList.map a.eval ++ ks.map fun k => ptrTo (g.β k)).toArray = c.args.map a.eval ++ (ks.map fun k => ptrTo (g.β k)).toArray := by rw [← Array.toList_inj]; simp
        rw [hargs] at hc
        refine hc.mono ?_
        rintro e w' ⟨v, s, m', g', rfl, h3, h4, h5, h6⟩
        exact hk s m' _ w' g' h3 (hs.put h5 h6 h4 hd)
      · exact h.elim
    · rw [← heq] at h; exact viaX h
    · rw [← heq] at h; exact viaR h
  · exact viaR h
theorem yielded_of {ops : Array Oper} {j d : Nat} {b : Bool} (h : Sim w0 pb n g r m a w) (hj : (ops.toList[j]?).bind (·.dst) = some d) (hr : r d = .val false [.v (.sc (.bool b))]) : yielded ops a.tmps j = some b := by
  have h1 := h.regs d
  rw [hr] at h1
  have h1 := VR.one_sc h1
  have h2 : (ops[j]?).bind (·.dst) = some d := by simpa using hj
  have h3 : a.tmps[d]? = some (.bool b) := by
    rw [Array.getD_eq_getD_getElem?] at h1
    cases hx : a.tmps[d]? with
    | none => rw [hx] at h1; cases h1
    | some v => rw [hx] at h1; exact congrArg some h1
  simp [yielded, h2, h3]
/-- One operation of a region. -/
theorem aOp_sound {md : Md} {ops : Array Oper} {i : Nat} {o : Oper} {K : Reg → Mem → Prop} {next : Act → World → Prop} {Q : Exit → Act → World → Prop} (hi : ops[i]? = some o) (h : aOp P md ops.toList o r m K) (hs : Sim w0 pb n g r m a w) (hd : ∀ d, o.dst = some d → d < n)
    (hk : ∀ r' m' a' w' g', K r' m' → Sim w0 pb n g' r' m' a' w' → next a' w') : wpOp P ops Q i next a w := by
  unfold wpOp
  rw [hi]
  unfold aOp at h
  split at h
  · rename_i hg
    have hw : Region.wanted o (yielded ops a.tmps) = true := by simp [Region.wanted, hg]
    simp only [hw, if_true]
    exact .inl (eo_sound h hs hd (fun s m' a' w' g' h1 h2 => hk _ _ _ _ _ h1 h2))
  · rename_i j want hg
    split at h
    · rename_i d hj
      split at h
      · rename_i b hr
        have hy := yielded_of hs hj hr
        have hw : Region.wanted o (yielded ops a.tmps) = (b == want) := by cases b <;> cases want <;> simp [Region.wanted, hg, hy]
        simp only [hw]
        unfold gK at h
        split at h
        · rename_i hbw
          have hbw' : (b == want) = true := by simpa using hbw
          simp only [hbw', if_true]
          exact .inl (eo_sound h hs hd (fun s m' a' w' g' h1 h2 => hk _ _ _ _ _ h1 h2))
        · rename_i hbw
          have hbw' : (b == want) = false := by simpa using hbw
          simp only [hbw', Bool.false_eq_true, if_false]
          exact hk _ _ _ _ g h (hs.put hs.mf (Mv.refl _ _ _) (s := .tup []) ⟨[], rfl, rfl, fun i b ls u h => by simp at h⟩ hd)
      · rename_i ss hr
        have hy : yielded ops a.tmps j = none := by
          have h1 := hs.regs d
          rw [hr] at h1
          obtain ⟨vs, h1, _⟩ := h1
          have h2 : (ops[j]?).bind (·.dst) = some d := by simpa using hj
          unfold yielded
          rw [h2]
          simp only [Option.bind_some]
          rw [Array.getD_eq_getD_getElem?] at h1
          cases hx : a.tmps[d]? with
          | none => rfl
          | some v =>
            rw [hx] at h1
            have h1 : v = .tuple vs.toArray := h1
            rw [h1]
        have hw : Region.wanted o (yielded ops a.tmps) = false := by simp [Region.wanted, hg, hy]
        simp only [hw, Bool.false_eq_true, if_false]
        exact hk _ _ _ _ g h (hs.put hs.mf (Mv.refl _ _ _) (s := .tup []) ⟨[], rfl, rfl, fun i b ls u h => by simp at h⟩ hd)
      · exact h.elim
    · exact h.elim
theorem okOps_get {n i : Nat} {ops : Array Oper} {o : Oper} (h : okOps n ops = true) (hi : ops[i]? = some o) : ∀ d, o.dst = some d → d < n := by
  intro d hd
  have := List.all_eq_true.1 h o (Array.mem_toList_iff.2 (Array.mem_of_getElem? hi))
  rw [hd] at this
  simpa using this
/-- A region in the order of its text. -/
theorem aSeq_sound {md : Md} {ops : Array Oper} {K : Reg → Mem → Prop} {Q : Exit → Act → World → Prop} (hok : okOps n ops = true) (hq : ∀ r m a w g, K r m → Sim w0 pb n g r m a w → Q .normal a w) :
    ∀ (k : Nat) {g : G} {r : Reg} {m : Mem} {a : Act} {w : World}, k ≤ ops.size → aSeq P md ops.toList (ops.toList.drop (ops.size - k)) r m K → Sim w0 pb n g r m a w → wpOps P ops Q (List.range' (ops.size - k) k) a w
  | 0, g, r, m, a, w, _, h, hs => by
    have : ops.toList.drop (ops.size - 0) = [] := List.drop_eq_nil_of_le (by simp)
    rw [this] at h
    exact hq _ _ _ _ _ h hs
  | k + 1, g, r, m, a, w, hk, h, hs => by
    have hlt : ops.size - (k + 1) < ops.toList.length := by simp; omega
    rw [List.drop_eq_getElem_cons hlt] at h
    have he : ops.size - (k + 1) + 1 = ops.size - k := by omega
    rw [he] at h
    rw [List.range'_succ, he, wpOps_cons]
    have hi : ops[ops.size - (k + 1)]? = some (ops.toList[ops.size - (k + 1)]) := by simp
    exact aOp_sound hi h hs (okOps_get hok hi) (fun r' m' a' w' g' h1 h2 => aSeq_sound hok hq k (by omega) h1 h2)
theorem wp_loop' {c : Code} {Q : Exit → Act → World → Prop} (I : Nat → Act → World → Prop) (n0 : Nat) (h₀ : I n0 a w)
    (round : ∀ n a w, I n a w → c.wp P (Exit.then (fun a' w' => ∃ n', n' < n ∧ I n' a' w') Q) a w) : (Code.loop c).wp P Q a w := by
  intro b k cs
  have key : ∀ n a w, I n a w → ∃ e a' w', Q e a' w' ∧ Arrives P (lone (b.at a (.code c :: .inLoop c :: k)) cs w) b k cs e a' w' := by
    intro n
    induction n using Nat.strongRecOn with
    | _ n ih =>
      intro a w hI
      obtain ⟨e, a₁, w₁, hq, harr⟩ := round n a w hI b (.inLoop c :: k) cs
      cases e with
      | normal =>
        obtain ⟨n', hlt, hI₁⟩ := hq
        obtain ⟨e₂, a₂, w₂, hq₂, harr₂⟩ := ih n' hlt a₁ w₁ hI₁
        exact ⟨e₂, a₂, w₂, hq₂, .of_steps (Steps.trans harr (.one step_inLoop)) harr₂⟩
      | exit id => exact ⟨_, a₁, w₁, hq, .pass (x := .inLoop c) rfl (fun _ _ => .inl (by simp)) harr⟩
      | goto l => exact ⟨_, a₁, w₁, hq, .pass (x := .inLoop c) rfl (fun _ _ => .inl (by simp)) harr⟩
      | ret => exact ⟨_, a₁, w₁, hq, .pass (x := .inLoop c) rfl (fun _ _ => .inl (by simp)) harr⟩
      | panic ch => exact ⟨_, a₁, w₁, hq, .pass (x := .inLoop c) rfl (fun _ _ => .inl (by simp)) harr⟩
      | outgrown => exact ⟨_, a₁, w₁, hq, .pass (x := .inLoop c) rfl (fun _ _ => .inl (by simp)) harr⟩
  obtain ⟨e, a', w', hq, harr⟩ := key n0 a w h₀
  exact ⟨e, a', w', hq, .of_steps (.one step_loop) harr⟩
/-- What a piece of code leaves. -/
def Post (w0 : World) (pb : Fence) (n : Nat) (Q : Exit → Reg → Mem → Prop) (e : Exit) (a : Act) (w : World) : Prop := ∃ r m g, Q e r m ∧ Sim w0 pb n g r m a w
end
end Go.Proofs.Ythhfhllfbnpcgaa.Co
