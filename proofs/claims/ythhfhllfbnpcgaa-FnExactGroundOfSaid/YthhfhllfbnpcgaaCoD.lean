/- The fourth part of the theory: each operation that only sets its register does in the machine what it does to plain data. -/
import Derived.Test.YthhfhllfbnpcgaaCoC
import Derived.Laws.BytesString
import Derived.Laws.Concat
import Derived.Laws.Small
import Derived.WalkLawsBesides
namespace Go.Proofs.Ythhfhllfbnpcgaa.Co
open Go
set_option linter.unusedSimpArgs false
set_option linter.unusedVariables false
section
variable {P : Program} {g : G} {m : Mem} {w : World}

theorem rowAt_get {xs : List (List Leaf)} {i : Nat} (h : i < xs.length) : xs[i]? = some (rowAt xs i) := by
  simp [rowAt, List.getD_eq_getElem?_getD, List.getElem?_eq_getElem h]
theorem rep_row {S : Nat → Prop} {xs : List (List Leaf)} {b o n c i : Nat} (h : Rep S w (.ls xs) (.slice (some ⟨b, o, none⟩) n c)) (hi : i < xs.length) :
    S b ∧ n = xs.length ∧ ∃ cs : List Value, cs.length = (rowAt xs i).length ∧ (∀ (j : Nat) (u : Value), cs[j]? = some u → w.cell? ⟨b, o + (i * (rowAt xs i).length + j), none⟩ = some u) ∧
      ∀ (j : Nat) (l : Leaf) (u : Value), (rowAt xs i)[j]? = some l → cs[j]? = some u → Rep S w l u := by
  cases h with
  | nl => simp at hi
  | ls xs sz b o c u hc hm hb hsz hcell hrep =>
    have hrow := rowAt_get hi
    have hlen : (rowAt xs i).length = sz := hsz _ (List.mem_of_getElem? hrow)
    refine ⟨hb, rfl, (List.range (rowAt xs i).length).map (u i), by simp, fun j v hj => ?_, fun j l v hl hj => ?_⟩
    · rw [List.getElem?_map] at hj
      obtain ⟨j', hj', rfl⟩ := Option.map_eq_some_iff.1 hj
      obtain ⟨hlt, he⟩ := List.getElem?_eq_some_iff.1 hj'
      simp only [List.getElem_range] at he
      subst he
      rw [List.length_range] at hlt
      rw [hlen]
      exact hcell i j ((rowAt xs i)[j]) (atL_mk hrow (List.getElem?_eq_getElem hlt))
    · rw [List.getElem?_map] at hj
      obtain ⟨j', hj', rfl⟩ := Option.map_eq_some_iff.1 hj
      obtain ⟨hlt, he⟩ := List.getElem?_eq_some_iff.1 hj'
      simp only [List.getElem_range] at he
      subst he
      exact hrep i j l (atL_mk hrow hl)
theorem own_row {fp : Nat → Prop} {xs : List (List Leaf)} {b n c i : Nat} (h : Own w (.ls xs) (.slice (some ⟨b, 0, none⟩) n c) fp) (hi : i < xs.length) :
    n = xs.length ∧ ∃ cs : List Value, cs.length = (rowAt xs i).length ∧ (∀ (j : Nat) (u : Value), cs[j]? = some u → w.cell? ⟨b, i * (rowAt xs i).length + j, none⟩ = some u) ∧
      ∀ (j : Nat) (l : Leaf) (u : Value), (rowAt xs i)[j]? = some l → cs[j]? = some u → ∃ fp', Own w l u fp' := by
  cases h with
  | ls xs sz g c cur e u fps fp hg hfp hc hm hcs hz hsz hcell hown hsub hdis =>
    have hrow := rowAt_get hi
    have hlen : (rowAt xs i).length = sz := hsz _ (List.mem_of_getElem? hrow)
    refine ⟨rfl, (List.range (rowAt xs i).length).map (u i), by simp, fun j v hj => ?_, fun j l v hl hj => ?_⟩
    · rw [List.getElem?_map] at hj
      obtain ⟨j', hj', rfl⟩ := Option.map_eq_some_iff.1 hj
      obtain ⟨hlt, he⟩ := List.getElem?_eq_some_iff.1 hj'
      simp only [List.getElem_range] at he
      subst he
      rw [List.length_range] at hlt
      rw [hlen]
      have := hcell i j ((rowAt xs i)[j]) (atL_mk hrow (List.getElem?_eq_getElem hlt))
      simp only [World.cell?, hg]
      simpa using this
    · rw [List.getElem?_map] at hj
      obtain ⟨j', hj', rfl⟩ := Option.map_eq_some_iff.1 hj
      obtain ⟨hlt, he⟩ := List.getElem?_eq_some_iff.1 hj'
      simp only [List.getElem_range] at he
      subst he
      exact ⟨_, hown i j l (atL_mk hrow hl)⟩
/-- Where a place of the call's own list lies, and what it says. -/
theorem own_at (hm : MemR g m w) {t : Nat} {xs : List (List Leaf)} {b n c i : Nat} (hc : (m.tag t).cont = some (.ls xs)) (hv : g.va t = .slice (some ⟨b, 0, none⟩) n c) (hi : i < xs.length) :
    t < m.nx ∧ m.tag t ≠ .gone ∧ ∃ cs : List Value, cs.length = (rowAt xs i).length ∧ (∀ (j : Nat) (u : Value), cs[j]? = some u → w.cell? ⟨b, i * (rowAt xs i).length + j, none⟩ = some u) ∧
      ∀ (j : Nat) (l : Leaf) (u : Value), (rowAt xs i)[j]? = some l → cs[j]? = some u → u.oneCell' = true ∧ ∀ v, l = .sc v → u = v := by
  cases hl : m.tag t <;> rw [hl] at hc <;> simp only [TG.cont] at hc
  · injection hc with hc; subst hc
    obtain ⟨hlt, ho⟩ := hm.tags t _ hl
    rw [hv] at ho
    obtain ⟨rfl, cs, h1, h2, h3⟩ := own_row ho hi
    refine ⟨hlt, by simp, cs, h1, h2, fun j l u ha hb => ?_⟩
    obtain ⟨fp', ho⟩ := h3 j l u ha hb
    exact ⟨ho.one, fun v hv => by subst hv; cases ho; rfl⟩
  · injection hc with hc; subst hc
    obtain ⟨hlt, ho⟩ := hm.frz t _ hl
    rw [hv] at ho
    obtain ⟨hb, rfl, cs, h1, h2, h3⟩ := rep_row ho hi
    refine ⟨hlt, by simp, cs, h1, by simpa using h2, fun j l u ha hb => ?_⟩
    have ho := h3 j l u ha hb
    exact ⟨ho.one, fun v hv => by subst hv; cases ho; rfl⟩
  · cases hc
theorem seenL_get {t i sz ver : Nat} : ∀ (row : List Leaf) (j0 : Nat) {j : Nat} {x : TL}, (seenL t i sz ver j0 row)[j]? = some x → ∃ l, row[j]? = some l ∧ ((∃ v, l = .sc v ∧ x = .v (.sc v)) ∨ x = .s t i sz (j0 + j) ver)
  | [], _, _, _, h => by simp [seenL] at h
  | .sc v :: r, j0, j, x, h => by
    cases j with
    | zero => injection h with h; exact ⟨_, rfl, .inl ⟨v, rfl, h.symm⟩⟩
    | succ j =>
      obtain ⟨l, h1, h2⟩ := seenL_get r (j0 + 1) (j := j) (by simpa [seenL] using h)
      refine ⟨l, by simpa using h1, ?_⟩
      rcases h2 with h2 | h2
      · exact .inl h2
      · exact .inr (by rw [h2]; congr 1; omega)
  | .ls xs :: r, j0, j, x, h => by
    cases j with
    | zero => injection h with h; exact ⟨_, rfl, .inr h.symm⟩
    | succ j =>
      obtain ⟨l, h1, h2⟩ := seenL_get r (j0 + 1) (j := j) (by simpa [seenL] using h)
      refine ⟨l, by simpa using h1, ?_⟩
      rcases h2 with h2 | h2
      · exact .inl h2
      · exact .inr (by rw [h2]; congr 1; omega)
theorem seenL_length {t i sz ver : Nat} : ∀ (row : List Leaf) (j0 : Nat), (seenL t i sz ver j0 row).length = row.length
  | [], _ => rfl
  | .sc _ :: r, j0 => by simp [seenL, seenL_length r (j0 + 1)]
  | .ls _ :: r, j0 => by simp [seenL, seenL_length r (j0 + 1)]
theorem ownRow_cells (hm : MemR g m w) {t i sz b n c : Nat} {row : List Leaf} (h : ownRow m t i sz = some row) (hv : g.va t = .slice (some ⟨b, 0, none⟩) n c) :
    ∃ cs : List Value, TRs g m w (seenL t i sz (m.ver t) 0 row) cs ∧ row.length = sz ∧ ∀ (j : Nat) (u : Value), cs[j]? = some u → w.cell? ⟨b, i * sz + j, none⟩ = some u := by
  unfold ownRow at h
  split at h
  · rename_i xs hx
    split at h
    · rename_i hc
      obtain ⟨hi, hsz⟩ := hc
      injection h with h; subst h
      obtain ⟨hlt, hng, cs, h1, h2, h3⟩ := own_at hm hx hv hi
      rw [hsz] at h2
      refine ⟨cs, ⟨by rw [seenL_length, h1], fun j x u hj hu => ?_⟩, hsz, h2⟩
      obtain ⟨l, hl, hl2⟩ := seenL_get _ 0 hj
      obtain ⟨h4, h5⟩ := h3 j l u hl hu
      rcases hl2 with ⟨v, rfl, rfl⟩ | rfl
      · rw [h5 v rfl] at h4 ⊢; exact Rep.sc v h4
      · exact ⟨hlt, Nat.le_refl _, h4, b, n, c, hv, fun _ _ _ _ => by rw [Nat.zero_add]; exact h2 j u hu⟩
    · cases h
  · cases h

theorem load_sound {md : Md} {t : TypeId} {x s : Slot} {v : Value} (hm : MemR g m w) (h : loadS P md t m x = some s) (hx : SR g m w x v) : ∃ u, (Instr.loadAt t v).run P w = .ok u w ∧ SR g m w s u := by
  unfold loadS at h
  split at h
  · rename_i k off
    split at h
    · cases h
    · obtain ⟨rfl, hk⟩ := hx
      obtain ⟨_, cs, ty, hb, hcs⟩ := hm.boxes k hk
      obtain ⟨u, hu, hs⟩ := part_load (b := g.β k) (o := 0) h hcs (fun j v hj => by simp only [World.cell?, hb]; simpa using hj)
      exact ⟨u, by simpa [Instr.loadAt, Instr.sureAddr] using hu, hs⟩
  · rename_i ls
    obtain ⟨b, o, rfl, cs, hb, hc, hl⟩ := hx
    obtain ⟨u, hu, hs⟩ := part_load (off := 0) h hl hc
    exact ⟨u, by simpa [Instr.loadAt, Instr.sureAddr] using hu, hs⟩
  · rename_i t i sz off
    split at h
    · split at h
      · rename_i row hrow
        obtain ⟨b, n, c, hv, rfl, _⟩ := hx
        obtain ⟨cs, h1, _, h2⟩ := ownRow_cells hm hrow hv
        obtain ⟨u, hu, hs⟩ := part_load h h1 h2
        exact ⟨u, by simpa [Instr.loadAt, Instr.sureAddr] using hu, hs⟩
      · cases h
    · cases h
  · cases h

theorem fieldAddr_sound {st : TypeId} {f : Nat} {x s : Slot} {v : Value} (h : fieldAddrS P st f x = some s) (hx : SR g m w x v) : ∃ u, (Instr.fieldAt st v f).run P w = .ok u w ∧ SR g m w s u := by
  unfold fieldAddrS at h
  split at h
  · rename_i off ft hf
    have hfld : ∃ fs fd, P.underlying st = some (.struct fs) ∧ fs[f]? = some fd ∧ fd.offset = off ∧ fd.type = ft := by
      unfold fldOf at hf
      split at hf
      · rename_i fs hfs
        obtain ⟨fd, h1, h2⟩ := Option.map_eq_some_iff.1 hf
        injection h2 with h3 h4
        exact ⟨fs, fd, hfs, h1, h3, h4⟩
      · cases hf
    obtain ⟨fs, fd, hfs, hfd, rfl, rfl⟩ := hfld
    split at h
    · cases h
    · rename_i hz
      have hz' : ∃ i0, P.info? fd.type = some i0 ∧ i0.size ≠ 0 := by
        unfold szOf at hz
        cases hi : P.info? fd.type with
        | none => simp [hi] at hz
        | some i0 => refine ⟨i0, rfl, fun e => hz (.inl ?_)⟩; simp [hi, e]
      obtain ⟨i0, hi, hn⟩ := hz'
      have hadd : ∀ (b o : Nat), (Instr.fieldAt st (.pointer (some ⟨b, o, none⟩)) f).run P w = .ok (.pointer (some ⟨b, o + fd.offset, none⟩)) w := by
        intro b o
        simp [Instr.fieldAt, run_underlying hfs, hfd, Instr.sureAddr, fieldPlace, sizeOf, typeInfo, hi, hn, Addr.add_lit]
      split at h
      · injection h with h; subst h
        obtain ⟨rfl, hk⟩ := hx
        exact ⟨_, hadd _ _, rfl, hk⟩
      · rename_i ls
        injection h with h; subst h
        obtain ⟨b, o, rfl, cs, hb, hc, hl⟩ := hx
        refine ⟨_, hadd _ _, b, o + fd.offset, rfl, cs.drop fd.offset, hb, fun j u hj => ?_, by have := hl.len; simp at this; simp [this], fun j x u h1 h2 => ?_⟩
        · rw [List.getElem?_drop] at hj
          rw [Nat.add_assoc]
          exact hc _ u hj
        · rw [List.map_drop, List.getElem?_drop] at h1
          rw [List.getElem?_drop] at h2
          exact hl.at_ _ x u h1 h2
      · injection h with h; subst h
        obtain ⟨b, n, c, h1, rfl, h3⟩ := hx
        exact ⟨_, hadd _ _, b, n, c, h1, by rw [Nat.add_assoc], h3⟩
      · cases h
  · cases h

theorem VR.one_sc {v u : Value} (h : VR g m w false [.v (.sc v)] u) : u = v := by
  obtain ⟨x, hx, hr⟩ := h
  injection hx with hx; subst hx
  cases hr
  rfl
theorem VR.mk_sc {v : Value} (h : v.oneCell' = true) : VR g m w false [.v (.sc v)] v := ⟨_, rfl, Rep.sc v h⟩
theorem VR.one_ls {xs : List (List Leaf)} {u : Value} (h : VR g m w false [.v (.ls xs)] u) : Rep g.S w (.ls xs) u := by
  obtain ⟨x, hx, hr⟩ := h
  injection hx with hx; subst hx
  exact hr
theorem VR.one_o {t : Nat} {u : Value} (h : VR g m w false [.o t] u) : t < m.nx ∧ u = g.va t := by
  obtain ⟨x, hx, hr⟩ := h
  injection hx with hx; subst hx
  exact ⟨hr.1, hr.2.1⟩
theorem elOf_some {t e : TypeId} (h : elOf P t = some e) : P.underlying t = some (.slice e) := by
  unfold elOf at h
  split at h
  · rename_i e' he; injection h with h; subst h; exact he
  · cases h
theorem strT_true {t : TypeId} (h : strT P t = true) : P.underlying t = some .string := by
  unfold strT at h
  split at h
  · rename_i he; exact he
  · cases h
theorem szOf_some {t : TypeId} {n : Nat} (h : szOf P t = some n) : ∃ i0, P.info? t = some i0 ∧ i0.size = n := Option.map_eq_some_iff.1 h

/-- A row of what is read, as an address. -/
theorem rep_addr {xs : List (List Leaf)} {v : Value} {k : IntKind} {i : Int} {t e : TypeId} (h : Rep g.S w (.ls xs) v) (ht : elOf P t = some e) (h0 : 0 ≤ i) (h1 : i < xs.length) (hs : szOf P e = some (rowAt xs i.toNat).length) :
    ∃ u, (Instr.indexAt t v (.int k i)).run P w = .ok u w ∧ SR g m w (.rp (rowAt xs i.toNat)) u := by
  obtain ⟨i0, hi0, hsz⟩ := szOf_some hs
  have hlt : i.toNat < xs.length := by omega
  cases h with
  | nl => simp at h1; omega
  | ls xs sz b o c u hc hm hb hsz2 hcell hrep =>
    obtain ⟨hb, _, cs, h2, h3, h4⟩ := rep_row (.ls xs sz b o c u hc hm hb hsz2 hcell hrep) hlt
    refine ⟨.pointer (some ⟨b, o + i.toNat * (rowAt xs i.toNat).length, none⟩), ?_, b, _, rfl, cs, hb, fun j u hj => ?_, by simp [h2], fun j x u hx hu => ?_⟩
    · simp [Instr.indexAt, asIntOf, run_underlying (elOf_some ht), sizeOf, typeInfo, hi0, hsz, h0, h1, Addr.add_lit]
    · rw [Nat.add_assoc]; exact h3 j u hj
    · rw [List.getElem?_map] at hx
      obtain ⟨l, hl1, rfl⟩ := Option.map_eq_some_iff.1 hx
      exact h4 j l u hl1 hu
theorem indexAddr_sound {md : Md} {t : TypeId} {x i s : Slot} {v vi : Value} (hm : MemR g m w) (h : indexAddrS P md t m x i = some s) (hx : SR g m w x v) (hi : SR g m w i vi) : ∃ u, (Instr.indexAt t v vi).run P w = .ok u w ∧ SR g m w s u := by
  unfold indexAddrS at h
  split at h
  · rename_i e k i he
    obtain rfl := VR.one_sc hi
    split at h
    · rename_i xs
      split at h
      · rename_i hc
        injection h with h; subst h
        exact rep_addr hx.one_ls he hc.1.1 hc.1.2 hc.2
      · cases h
    · rename_i t'
      split at h
      · split at h
        · rename_i xs n hl hn
          split at h
          · rename_i hc
            injection h with h; subst h
            obtain ⟨hlt, rfl⟩ := VR.one_o hx
            have ho := (hm.tags t' _ hl).2
            obtain ⟨i0, hi0, hsz⟩ := szOf_some hn
            generalize hv : g.va t' = u0 at ho ⊢
            cases ho with
            | nil => simp at hc; omega
            | ls _ sz g' c cur e' u fps fp hg hfp hc1 hm1 hcs hz1 hsz2 hcell hown hsub hdis =>
              refine ⟨.pointer (some ⟨g', i.toNat * n, none⟩), ?_, g', _, _, hv, by simp, hlt⟩
              simp [Instr.indexAt, asIntOf, run_underlying (elOf_some he), sizeOf, typeInfo, hi0, hsz, hc.1, hc.2, Addr.add_lit]
          · cases h
        · rename_i xs _ hl
          split at h
          · rename_i hc
            injection h with h; subst h
            obtain ⟨hlt, rfl⟩ := VR.one_o hx
            exact rep_addr (hm.frz t' _ hl).2 he hc.1.1 hc.1.2 hc.2
          · cases h
        · cases h
      · cases h
    · cases h
  · cases h

theorem byteAt_get (s : ByteArray) (i : Nat) (h : i < s.size) : s[i]? = some (s[i]'h) ∧ ((s[i]'h).toNat : Int) = byteAt s i := by
  refine ⟨by simp [h], ?_⟩
  have h' : i < s.data.toList.length := by simpa using h
  simp only [byteAt, List.getD_eq_getElem?_getD, List.getElem?_eq_getElem h', Option.getD_some]
  rfl
theorem index_sound {t : TypeId} {x i s : Slot} {v vi : Value} (h : indexS P t x i = some s) (hx : SR g m w x v) (hi : SR g m w i vi) : ∃ u, (Instr.index t v vi).run P w = .ok u w ∧ SR g m w s u := by
  unfold indexS at h
  split at h
  · rename_i s0 k i
    obtain rfl := VR.one_sc hi
    obtain rfl := VR.one_sc hx
    split at h
    · rename_i hc
      injection h with h; subst h
      have hlt : i.toNat < s0.size := by omega
      obtain ⟨h1, h2⟩ := byteAt_get s0 i.toNat hlt
      refine ⟨.int .u8 (byteAt s0 i.toNat), ?_, VR.mk_sc rfl⟩
      simp only [Instr.index, asIntOf, Sem.run_bind, Sem.run_pure, Result.andThen_ok, run_underlying (strT_true hc.1), if_pos hc.2.1, h1, h2]
    · cases h
  · cases h

theorem binV_sound {op : BinOp} {t : TypeId} {a b v : Value} (h : binV op a b = some v) : (binOp op t a b).run P w = .ok v w ∧ v.oneCell' = true := by
  unfold binV at h
  split at h <;> first
    | (cases h; done)
    | (split at h
       · rename_i hc
         injection h with h; subst h
         first
         | (subst hc; refine ⟨?_, rfl⟩; simp [binOp, Op.intArith, Op.intBits, Op.intCmp]; done)
         | (obtain ⟨rfl, hc⟩ := hc; refine ⟨?_, rfl⟩; simp [binOp, Op.intDiv, hc]; done)
         | (have hc' := Int.not_lt.2 hc; refine ⟨?_, rfl⟩; simp [binOp, Op.shift, hc']; done)
         | (refine ⟨?_, rfl⟩; simp only [binOp]; exact run_string_add_sum _ _ _ hc)
       · cases h)
    | (injection h with h; subst h; refine ⟨?_, rfl⟩; simp [binOp, Op.stringOp]; done)
theorem eqGuard_sound {op : BinOp} {t : TypeId} {x y : Operand} {a b : Value} (ha : a.oneCell' = true) (hn : a ≠ .nilIface) : (eqGuard op t x y a b).run P w = .ok () w := by
  cases op <;> first
    | rfl
    | (cases a <;> cases b <;> first | rfl | (exact absurd rfl hn) | (simp [Value.oneCell'] at ha))
theorem eqBool_sound {t : TypeId} {neg : Bool} {a b : Bool} {v : Value} (h : eqBoolS P t neg a b = some v) : (binOp (if neg then .neq else .eql) t (.bool a) (.bool b)).run P w = .ok v w ∧ v.oneCell' = true := by
  unfold eqBoolS at h
  split at h
  · rename_i hu
    injection h with h; subst h
    refine ⟨?_, rfl⟩
    cases neg
    · exact run_eql_bool w t a b hu
    · exact run_neq_bool w t a b hu
  · cases h
theorem bin_sound {op : BinOp} {t : TypeId} {x y s : Slot} {v u : Value} {ox oy : Operand} (h : binS P op t x y = some s) (hx : SR g m w x v) (hy : SR g m w y u) :
    ∃ r, (do eqGuard op t ox oy v u; binOp op t v u : Sem Value).run P w = .ok r w ∧ SR g m w s r := by
  unfold binS at h
  split at h
  · rename_i a b
    obtain rfl := VR.one_sc hx
    obtain rfl := VR.one_sc hy
    have hg := eqGuard_sound (P := P) (w := w) (op := op) (t := t) (x := ox) (y := oy) (a := .bool a) (b := .bool b) rfl (by simp)
    split at h
    · obtain ⟨r, hr, rfl⟩ := Option.map_eq_some_iff.1 h
      obtain ⟨h1, h2⟩ := eqBool_sound (w := w) hr
      exact ⟨r, by simp only [Sem.run_bind, hg, Result.andThen_ok]; exact h1, VR.mk_sc h2⟩
    · obtain ⟨r, hr, rfl⟩ := Option.map_eq_some_iff.1 h
      obtain ⟨h1, h2⟩ := eqBool_sound (w := w) hr
      exact ⟨r, by simp only [Sem.run_bind, hg, Result.andThen_ok]; exact h1, VR.mk_sc h2⟩
    · cases h
  · rename_i a b _
    obtain rfl := VR.one_sc hx
    obtain rfl := VR.one_sc hy
    obtain ⟨r, hr, rfl⟩ := Option.map_eq_some_iff.1 h
    obtain ⟨h1, h2⟩ := binV_sound (P := P) (w := w) (t := t) hr
    obtain ⟨xx, hxx, hxr⟩ := hx
    have hn : v ≠ .nilIface := by rintro rfl; simp [binV] at hr
    have ho : v.oneCell' = true := by injection hxx with hxx; subst hxx; exact Rep.one hxr
    exact ⟨r, by simp only [Sem.run_bind, eqGuard_sound (P := P) (w := w) ho hn, Result.andThen_ok]; exact h1, VR.mk_sc h2⟩
  · cases h
theorem un_sound {op : UnOp} {x s : Slot} {v : Value} (h : unS op x = some s) (hx : SR g m w x v) : ∃ r, (Op.unary op v).run P w = .ok r w ∧ SR g m w s r := by
  unfold unS at h
  split at h
  · obtain rfl := VR.one_sc hx
    injection h with h; subst h
    exact ⟨_, by simp [Op.unary, Op.intArith], VR.mk_sc rfl⟩
  · obtain rfl := VR.one_sc hx
    injection h with h; subst h
    exact ⟨_, by simp [Op.unary], VR.mk_sc rfl⟩
  · cases h
theorem rowBytes_get : ∀ {rows : List (List Leaf)} {ns : List Int}, rowBytes rows = some ns → ns.length = rows.length ∧ ∀ (i : Nat) n, ns[i]? = some n → atL rows i 0 = some (.sc (.int .u8 n)) ∧ rows[i]? = some [.sc (.int .u8 n)]
  | [], ns, h => by injection h with h; subst h; exact ⟨rfl, fun i n h => by simp at h⟩
  | row :: r, ns, h => by
    unfold rowBytes at h
    split at h
    · rename_i he; cases he
    · rename_i n r' he
      injection he with he1 he2
      subst he1; subst he2
      obtain ⟨ms, h1, rfl⟩ := Option.map_eq_some_iff.1 h
      obtain ⟨k1, k2⟩ := rowBytes_get h1
      refine ⟨by simp [k1], fun i n' hn => ?_⟩
      cases i with
      | zero => injection hn with hn; subst hn; exact ⟨rfl, rfl⟩
      | succ i =>
        obtain ⟨q1, q2⟩ := k2 i n' (by simpa using hn)
        exact ⟨by simpa [atL] using q1, by simpa using q2⟩
    · cases h
theorem rep_sc {S : Nat → Prop} {v u : Value} (h : Rep S w (.sc v) u) : u = v := by cases h; rfl
theorem rep_str {S : Nat → Prop} {rows : List (List Leaf)} {ns : List Int} {v : Value} (h : Rep S w (.ls rows) v) (hb : rowBytes rows = some ns) :
    (∃ A n c, v = .slice A n c) ∧ (Conv.bytesToString v).run P w = .ok (.string (packB ns)) w := by
  obtain ⟨hl, hg⟩ := rowBytes_get hb
  cases h with
  | nl A c hc =>
    have : ns = [] := List.eq_nil_of_length_eq_zero (by simpa using hl)
    subst this
    refine ⟨⟨_, _, _, rfl⟩, ?_⟩
    cases A with
    | none => simp [Conv.bytesToString, packB]
    | some a => exact run_bytesToString w a 0 c [] (by simpa using run_loadCells_list (P := P) w a [] (fun j v hj => by simp at hj))
  | ls _ sz b o c u hc hm hS hsz hcell hrep =>
    refine ⟨⟨_, _, _, rfl⟩, ?_⟩
    refine run_bytesToString w ⟨b, o, none⟩ rows.length c ns ?_
    have := run_loadCells_list (P := P) w ⟨b, o, none⟩ (ns.map (Value.int .u8)) (fun j v hj => by
      rw [List.getElem?_map] at hj
      obtain ⟨n, hn, rfl⟩ := Option.map_eq_some_iff.1 hj
      obtain ⟨q1, q2⟩ := hg j n hn
      have h1 := hsz _ (List.mem_of_getElem? q2)
      simp only [List.length_cons, List.length_nil] at h1
      have h2 := hcell j 0 _ q1
      have h3 := hrep j 0 _ q1
      have h4 : u j 0 = .int .u8 n := rep_sc h3
      rw [h4, ← h1] at h2
      rw [Addr.add_lit]
      simpa using h2)
    rw [List.length_map, hl] at this
    exact this
theorem strOf_sound {S : Nat → Prop} {src dst : TypeId} {rows : List (List Leaf)} {v : Value} {s : Slot} (h : strOf P src dst rows = some s) (hr : Rep S w (.ls rows) v) : ∃ r, (convert src dst v).run P w = .ok r w ∧ SR g m w s r := by
  unfold strOf at h
  split at h
  · rename_i e he
    split at h
    · rename_i hc
      obtain ⟨ns, hns, rfl⟩ := Option.map_eq_some_iff.1 h
      obtain ⟨⟨A, n, c, rfl⟩, h2⟩ := rep_str (P := P) hr hns
      have hd := strT_true hc.1
      have hs := elOf_some he
      have hu : P.underlying e = some (.int .u8) := by
        have := hc.2
        unfold intT at this
        split at this
        · rename_i hk; injection this with this; subst this; exact hk
        · cases this
      exact ⟨_, (run_convert_bytes_string w src dst e A n c hs hu hd).trans h2, VR.mk_sc rfl⟩
    · cases h
  · cases h
theorem conv_sound {md : Md} {src dst : TypeId} {x s : Slot} {v : Value} (hm : MemR g m w) (h : convS P md src dst m x = some s) (hx : SR g m w x v) : ∃ r, (convert src dst v).run P w = .ok r w ∧ SR g m w s r := by
  unfold convS at h
  split at h
  · rename_i k0 n
    obtain rfl := VR.one_sc hx
    split at h
    · rename_i d k hs hd
      injection h with h; subst h
      have hd' : P.underlying dst = some (.int k) := by
        unfold intT at hd
        split at hd
        · rename_i hk; injection hd with hd; subst hd; exact hk
        · cases hd
      exact ⟨_, by simp [convert, run_underlying hs, run_underlying hd', Conv.intToInt], VR.mk_sc rfl⟩
    · cases h
  · exact strOf_sound h (VR.one_ls hx)
  · rename_i t
    obtain ⟨_, rfl⟩ := VR.one_o hx
    split at h
    · split at h
      · rename_i rows hc
        cases hg : m.tag t <;> rw [hg] at hc <;> simp only [TG.cont] at hc
        · injection hc with hc; subst hc
          exact strOf_sound h ((hm.tags t _ hg).2.rep (fun b hb => hb))
        · injection hc with hc; subst hc
          exact strOf_sound h (hm.frz t _ hg).2
        · cases hc
      · cases h
    · cases h
  · cases h
/-- Where a cell says a list, it is a slice of that length. -/
theorem leaf_slice (hm : MemR g m w) {x : TL} {v : Value} {xs : List (List Leaf)} (hx : TR g m w x v) (h : m.leaf x = some (.ls xs)) : ∃ A c, v = .slice A xs.length c := by
  have hrep : ∀ {S : Nat → Prop} {ys : List (List Leaf)} {u : Value}, Rep S w (.ls ys) u → ∃ A c, u = .slice A ys.length c := by
    intro S ys u h
    cases h
    · exact ⟨_, _, rfl⟩
    · exact ⟨_, _, rfl⟩
  have hown : ∀ {fp : Nat → Prop} {ys : List (List Leaf)} {u : Value}, Own w (.ls ys) u fp → ∃ A c, u = .slice A ys.length c := by
    intro S ys u h
    cases h
    · exact ⟨_, _, rfl⟩
    · exact ⟨_, _, rfl⟩
  cases x with
  | v l => injection h with h; subst h; exact hrep hx
  | nl => injection h with h; injection h with h; subst h; subst hx; exact ⟨_, _, rfl⟩
  | o t =>
    obtain ⟨_, rfl, _⟩ := hx
    simp only [Mem.leaf] at h
    cases hg : m.tag t <;> rw [hg] at h <;> simp only [TG.cont] at h
    · injection h with h; subst h; exact hown (hm.tags t _ hg).2
    · injection h with h; subst h; exact hrep (hm.frz t _ hg).2
    · cases h
  | s t i sz j ver =>
    obtain ⟨h1, h2, h3, b, n, c, h4, h5⟩ := hx
    simp only [Mem.leaf] at h
    split at h
    · rename_i hver
      split at h
      · rename_i xs0 hys
        split at h
        · rename_i hi
          cases hg : m.tag t <;> rw [hg] at hys <;> simp only [TG.cont] at hys
          · injection hys with hys; subst hys
            have ho := (hm.tags t _ hg).2
            rw [h4] at ho
            obtain ⟨rfl, cs, h6, h7, h8⟩ := own_row ho hi.1
            have hj : j < cs.length := by rw [h6]; exact (List.getElem?_eq_some_iff.1 h).1
            have h9 := h7 j cs[j] (List.getElem?_eq_getElem hj)
            rw [hi.2, h5 hver xs0 (by rw [hg]; rfl) hi.1] at h9
            injection h9 with h9
            obtain ⟨fp', ho⟩ := h8 j _ _ h (List.getElem?_eq_getElem hj)
            rw [h9]
            exact hown ho
          · injection hys with hys; subst hys
            have ho := (hm.frz t _ hg).2
            rw [h4] at ho
            obtain ⟨_, rfl, cs, h6, h7, h8⟩ := rep_row ho hi.1
            have hj : j < cs.length := by rw [h6]; exact (List.getElem?_eq_some_iff.1 h).1
            have h9 := h7 j cs[j] (List.getElem?_eq_getElem hj)
            rw [hi.2, Nat.zero_add, h5 hver xs0 (by rw [hg]; rfl) hi.1] at h9
            injection h9 with h9
            rw [h9]
            exact hrep (h8 j _ _ h (List.getElem?_eq_getElem hj))
          · cases hys
        · cases h
      · cases h
    · cases h
theorem len_sound {md : Md} {t : TypeId} {x s : Slot} {v : Value} {ty : TypeId} (hm : MemR g m w) (h : lenS P md t m x = some s) (hx : SR g m w x v) : ∃ r, (Builtin.len_ #[t] ty #[v]).run P w = .ok r w ∧ SR g m w s r := by
  have hsl : ∀ (A : Option Addr) (n c : Nat) e, elOf P t = some e → (Builtin.len_ #[t] ty #[.slice A n c]).run P w = .ok (.int .i64 n) w := by
    intro A n c e he
    simp [Builtin.len_, run_underlying (elOf_some he), goInt]
  unfold lenS at h
  split at h
  · obtain rfl := VR.one_sc hx
    split at h
    · rename_i ht
      injection h with h; subst h
      exact ⟨_, by simp [Builtin.len_, run_underlying (strT_true ht), goInt], VR.mk_sc rfl⟩
    · cases h
  · split at h
    · rename_i ht
      injection h with h; subst h
      obtain ⟨e, he⟩ := Option.isSome_iff_exists.1 ht
      have hr := hx.one_ls
      cases hr with
      | nl A c hc => exact ⟨_, hsl A 0 c e he, VR.mk_sc rfl⟩
      | ls xs sz b o c u hc hm1 hb hsz hcell hrep => exact ⟨_, hsl _ _ c e he, VR.mk_sc rfl⟩
    · cases h
  · split at h
    · rename_i ht
      injection h with h; subst h
      obtain ⟨e, he⟩ := Option.isSome_iff_exists.1 ht
      obtain ⟨x, hx, hr⟩ := hx
      injection hx with hx; subst hx
      cases hr
      exact ⟨_, hsl none 0 0 e he, VR.mk_sc rfl⟩
    · cases h
  · rename_i x _ _
    split at h
    · rename_i ht
      obtain ⟨e, he⟩ := Option.isSome_iff_exists.1 ht.2
      split at h
      · rename_i xs hl
        injection h with h; subst h
        obtain ⟨y, hy, hr⟩ := hx
        injection hy with hy; subst hy
        obtain ⟨A, c, rfl⟩ := leaf_slice hm hr hl
        exact ⟨_, hsl A _ c e he, VR.mk_sc rfl⟩
      · cases h
    · cases h
  · cases h
theorem max_sound {x y s : Slot} {v u : Value} {ts : Array TypeId} {ty : TypeId} (h : maxS x y = some s) (hx : SR g m w x v) (hy : SR g m w y u) : ∃ r, (Builtin.max_ ts ty #[v, u]).run P w = .ok r w ∧ SR g m w s r := by
  unfold maxS at h
  split at h
  · obtain rfl := VR.one_sc hx
    obtain rfl := VR.one_sc hy
    injection h with h; subst h
    refine ⟨_, ?_, VR.mk_sc rfl⟩
    simp [Builtin.max_, Builtin.max2]
  · cases h
theorem extract_sound {i : Nat} {x s : Slot} {v : Value} (h : extractS i x = some s) (hx : SR g m w x v) : ∃ r, (Instr.extract v i).run P w = .ok r w ∧ SR g m w s r := by
  unfold extractS at h
  split at h
  · rename_i ss
    split at h
    · rename_i b ls hi
      injection h with h; subst h
      obtain ⟨vs, rfl, hl, hv⟩ := hx
      have hlt : i < vs.length := by rw [← hl]; exact (List.getElem?_eq_some_iff.1 hi).1
      refine ⟨vs[i], ?_, hv i b ls _ hi (List.getElem?_eq_getElem hlt)⟩
      simp [Instr.extract, hlt]
    · cases h
  · cases h
theorem field_sound {st : TypeId} {f : Nat} {x s : Slot} {v : Value} (h : fieldS P st f x = some s) (hx : SR g m w x v) : ∃ r, (Instr.field st v f).run P w = .ok r w ∧ SR g m w s r := by
  unfold fieldS at h
  split at h
  · rename_i ls
    split at h
    · rename_i off ft hf
      obtain ⟨cs, rfl, hcs⟩ := hx
      unfold fldOf at hf
      split at hf
      · rename_i fs hfs
        obtain ⟨fd, h1, h2⟩ := Option.map_eq_some_iff.1 hf
        injection h2 with h3 h4
        subst h3; subst h4
        obtain ⟨r, hr, hs⟩ := part_part h hcs
        refine ⟨r, ?_, hs⟩
        simp only [Instr.field, Sem.run_bind, run_underlying hfs, Result.andThen_ok, h1, asAgg, Sem.run_pure, hr]
      · cases hf
    · cases h
  · cases h

def OSR (g : G) (m : Mem) (w : World) : Option Slot → Option Value → Prop
  | some s, some u => SR g m w s u
  | none, none => True
  | _, _ => False
theorem bound_sound {d n : Nat} {x : Option Slot} {v : Option Value} {i : Int} {code : BoundsCode} (h : boundS d x = some i) (hx : OSR g m w x v) (h0 : 0 ≤ i) (h1 : i ≤ n) :
    (v = none ∧ i = d) ∨ ∃ u, v = some u ∧ (Instr.sliceBound u n code).run P w = .ok i.toNat w := by
  unfold boundS at h
  split at h
  · injection h with h; subst h
    cases v with
    | none => exact .inl ⟨rfl, rfl⟩
    | some u => exact hx.elim
  · rename_i k i'
    injection h with h; subst h
    cases v with
    | none => exact hx.elim
    | some u =>
      obtain rfl := VR.one_sc hx
      exact .inr ⟨_, rfl, by simp [Instr.sliceBound, asIntOf, h0, h1]⟩
  · cases h
theorem bounds_sound {isS : Bool} {len cap : Nat} {lo hi : Option Slot} {vlo vhi : Option Value} {a b : Int} (ha : boundS 0 lo = some a) (hb : boundS len hi = some b)
    (hlo : OSR g m w lo vlo) (hhi : OSR g m w hi vhi)
    (hb0 : 0 ≤ b) (hb1 : b ≤ len) (ha0 : 0 ≤ a) (ha1 : a ≤ b) (hc : len ≤ cap) : (Instr.sliceBounds isS len cap vlo vhi none).run P w = .ok (a.toNat, b.toNat, cap) w := by
  have h2 := fun code => bound_sound (P := P) (code := code) (n := cap) hb hhi hb0 (by omega)
  have h1 := fun code => bound_sound (P := P) (code := code) (n := b.toNat) ha hlo ha0 (by omega)
  cases vhi with
  | none =>
    have hbe : b = len := by rcases h2 .index with ⟨_, h⟩ | ⟨u, h, _⟩; exact h; cases h
    subst hbe
    cases vlo with
    | none =>
      have hae : a = (0 : Nat) := by rcases h1 .index with ⟨_, h⟩ | ⟨u, h, _⟩; exact h; cases h
      subst hae
      simp [Instr.sliceBounds]
    | some u =>
      have h3 : ∀ code, (Instr.sliceBound u len code).run P w = .ok a.toNat w := fun code => by
        rcases h1 code with ⟨h, _⟩ | ⟨u', h, h'⟩
        · cases h
        · injection h with h; subst h; simpa using h'
      simp [Instr.sliceBounds, h3]
  | some uh =>
    have h4 : ∀ code, (Instr.sliceBound uh cap code).run P w = .ok b.toNat w := fun code => by
      rcases h2 code with ⟨h, _⟩ | ⟨u', h, h'⟩
      · cases h
      · injection h with h; subst h; exact h'
    cases vlo with
    | none =>
      have hae : a = (0 : Nat) := by rcases h1 .index with ⟨_, h⟩ | ⟨u, h, _⟩; exact h; cases h
      subst hae
      cases isS <;> simp [Instr.sliceBounds, h4]
    | some u =>
      have h3 : ∀ code, (Instr.sliceBound u b.toNat code).run P w = .ok a.toNat w := fun code => by
        rcases h1 code with ⟨h, _⟩ | ⟨u', h, h'⟩
        · cases h
        · injection h with h; subst h; exact h'
      cases isS <;> simp [Instr.sliceBounds, h4, h3]
theorem rep_slice {S : Nat → Prop} {xs : List (List Leaf)} {A : Option Addr} {n c a b sz : Nat} (h : Rep S w (.ls xs) (.slice A n c)) (hsz : ∀ row ∈ xs, row.length = sz) (hab : a ≤ b) (hb : b ≤ xs.length) :
    n = xs.length ∧ n ≤ c ∧ Rep S w (.ls ((xs.take b).drop a)) (.slice (if c = a then A else A.map (·.add (a * sz))) (b - a) (c - a)) := by
  have hempty : ∀ A' c', c' ≤ maxLen → a = b → Rep S w (.ls ((xs.take b).drop a)) (.slice A' (b - a) c') := by
    rintro A' c' hc rfl
    have : (xs.take a).drop a = [] := List.drop_eq_nil_of_le (by rw [List.length_take]; omega)
    rw [this, Nat.sub_self]
    exact .nl A' c' hc
  cases h with
  | nl _ _ hc =>
    simp at hb
    exact ⟨rfl, Nat.zero_le _, hempty _ _ (by omega) (by omega)⟩
  | ls xs sz' bk o c u hc hm hS hsz' hcell hrep =>
    refine ⟨rfl, hc, ?_⟩
    rcases Nat.lt_or_ge a b with hlt | hge
    · have hne : c ≠ a := by omega
      rw [if_neg hne]
      have hsame : sz' = sz := by
        have hx : 0 < xs.length := by omega
        rw [← hsz' xs[0] (List.getElem_mem hx), hsz xs[0] (List.getElem_mem hx)]
      subst hsame
      have hl : ((xs.take b).drop a).length = b - a := by rw [List.length_drop, List.length_take]; omega
      have hat : ∀ i j l, atL ((xs.take b).drop a) i j = some l → atL xs (a + i) j = some l := by
        intro i j l h
        obtain ⟨row, h1, h2⟩ := atL_some h
        rw [List.getElem?_drop, List.getElem?_take] at h1
        split at h1
        · exact atL_mk h1 h2
        · cases h1
      rw [← hl]
      simp only [Option.map_some, Addr.add_lit]
      refine .ls _ sz' bk (o + a * sz') (c - a) (fun i j => u (a + i) j) (by omega) (by omega) hS (fun row hr => hsz' row (List.mem_of_mem_take (List.mem_of_mem_drop hr))) (fun i j l h => ?_) (fun i j l h => hrep _ _ l (hat i j l h))
      have := hcell (a + i) j l (hat i j l h)
      rw [Nat.add_mul] at this
      rw [Nat.add_assoc, ← Nat.add_assoc (a * sz')]
      exact this
    · exact hempty _ _ (by omega) (by omega)
theorem slice_sound {t : TypeId} {x s : Slot} {v : Value} {lo hi : Option Slot} {vlo vhi : Option Value} (h : sliceS P t x lo hi = some s) (hx : SR g m w x v)
    (hlo : OSR g m w lo vlo) (hhi : OSR g m w hi vhi) :
    ∃ r, (Instr.sliceAt t v vlo vhi none).run P w = .ok r w ∧ SR g m w s r := by
  unfold sliceS at h
  split at h
  · rename_i s0
    obtain rfl := VR.one_sc hx
    split at h
    · rename_i a b ha hb
      split at h
      · rename_i hc
        injection h with h; subst h
        have hr := bounds_sound (P := P) (isS := false) (cap := s0.size) ha hb hlo hhi hc.2.1.1 hc.2.1.2 hc.2.2.1 hc.2.2.2 (Nat.le_refl _)
        refine ⟨.string (s0.extract a.toNat b.toNat), ?_, VR.mk_sc rfl⟩
        simp [Instr.sliceAt, Instr.slice, run_underlying (strT_true hc.1), hr]
      · cases h
    · cases h
  · rename_i xs
    split at h
    · rename_i a b e ha hb he
      split at h
      · rename_i hc
        injection h with h; subst h
        have hrep := hx.one_ls
        have hshape : ∃ A c, v = .slice A xs.length c := by cases hrep <;> exact ⟨_, _, rfl⟩
        obtain ⟨A, c, rfl⟩ := hshape
        obtain ⟨⟨⟨hb0, hb1⟩, ha0, ha1⟩, hsome, hsz⟩ := hc
        by_cases hne : xs = []
        · subst hne
          have hb' : b = 0 := by simp at hb1; omega
          have ha' : a = 0 := by omega
          subst hb'; subst ha'
          have hcc : (0 : Nat) ≤ c := Nat.zero_le _
          have hcm : c ≤ maxLen := by cases hrep <;> assumption
          have hr := bounds_sound (P := P) (isS := true) (cap := c) ha hb hlo hhi (by omega) (by simp) (by omega) (by omega) (by simp)
          obtain ⟨n0, hn0⟩ := Option.isSome_iff_exists.1 hsome
          obtain ⟨i0, hi, _⟩ := szOf_some hn0
          refine ⟨.slice (if c = 0 then A else A.map (·.add (0 * i0.size))) 0 c, ?_, _, rfl, ?_⟩
          · simp only [Int.toNat_zero, List.length_nil] at hr
            simp [Instr.sliceAt, Instr.slice, run_underlying (elOf_some he), hr, sizeOf, typeInfo, hi]
          · show Rep _ _ _ _
            simpa using Rep.nl _ c hcm
        · obtain ⟨row, hrow⟩ := List.exists_mem_of_ne_nil xs hne
          obtain ⟨i0, hi0, hsz0⟩ := szOf_some (hsz row hrow)
          have hall : ∀ r ∈ xs, r.length = i0.size := fun r hr => by
            obtain ⟨i1, hi1, h1⟩ := szOf_some (hsz r hr)
            rw [hi0] at hi1
            injection hi1 with hi1
            rw [← h1, hi1]
          obtain ⟨_, hnc, hres⟩ := rep_slice (a := a.toNat) (b := b.toNat) hrep hall (by omega) (by omega)
          have hr := bounds_sound (P := P) (isS := true) (cap := c) ha hb hlo hhi hb0 hb1 ha0 ha1 hnc
          refine ⟨.slice (if c = a.toNat then A else A.map (·.add (a.toNat * i0.size))) (b.toNat - a.toNat) (c - a.toNat), ?_, _, rfl, hres⟩
          simp [Instr.sliceAt, Instr.slice, run_underlying (elOf_some he), hr, sizeOf, typeInfo, hi0]
      · cases h
    · cases h
  · cases h

theorem fill_step (vs : List Value) : ∀ (cs : List Value) (off : Nat), off + vs.length ≤ cs.length →
    (vs.toArray.zipIdx.foldl (fun (cs : Array Value) (p : Value × Nat) => cs.setIfInBounds (off + p.2) p.1) cs.toArray) = (cs.take off ++ vs ++ cs.drop (off + vs.length)).toArray := by
  have key : ∀ (vs : List Value) (k : Nat) (cs : List Value) (off : Nat), off + k + vs.length ≤ cs.length →
      ((vs.zipIdx k).foldl (fun (cs : Array Value) (p : Value × Nat) => cs.setIfInBounds (off + p.2) p.1) cs.toArray) = (cs.take (off + k) ++ vs ++ cs.drop (off + k + vs.length)).toArray := by
    intro vs
    induction vs with
    | nil => intro k cs off h; simp
    | cons v vs ih =>
      intro k cs off h
      simp only [List.length_cons] at h
      rw [List.zipIdx_cons, List.foldl_cons]
      have hset : cs.toArray.setIfInBounds (off + k) v = (cs.set (off + k) v).toArray := by simp
      rw [hset, ih (k + 1) (cs.set (off + k) v) off (by rw [List.length_set]; omega)]
      congr 1
      have h1 : (cs.set (off + k) v).take (off + (k + 1)) = cs.take (off + k) ++ [v] := by
        rw [← Nat.add_assoc, List.take_set, List.take_succ_eq_append_getElem (by omega)]
        have e : (cs.take (off + k)).length = off + k := by rw [List.length_take]; omega
        rw [List.set_append, if_neg (by omega), e, Nat.sub_self]
        rfl
      have h2 : (cs.set (off + k) v).drop (off + (k + 1) + vs.length) = cs.drop (off + k + (v :: vs).length) := by
        rw [List.drop_set_of_lt (by omega)]
        congr 1
        simp; omega
      rw [h1, h2]
      simp
  intro cs off h
  have := key vs 0 cs off (by simpa using h)
  simpa using this
theorem zero_TRs (z : Value) (hz : ∀ u ∈ z.cells.toList, u.oneCell' = true) : TRs g m w (z.cells.toList.map zeroTL) z.cells.toList := by
  refine ⟨by simp, fun i x u h1 h2 => ?_⟩
  rw [List.getElem?_map, h2] at h1
  injection h1 with h1; subst h1
  unfold zeroTL
  split
  · rfl
  · exact Rep.sc _ (hz u (List.mem_of_getElem? h2))
theorem fill_sound {place : Nat → Option (Nat × Nat)} : ∀ (parts : List (Nat × Slot)) (vals : List (Nat × Value)) {ls : List TL} {cs : List Value} {ls' : List TL}, fillL place ls parts = some ls' → TRs g m w ls cs →
    parts.length = vals.length → (∀ (i : Nat) p q, parts[i]? = some p → vals[i]? = some q → p.1 = q.1 ∧ SR g m w p.2 q.2) → ∃ cs' : List Value, Instr.fill place cs.toArray vals = some cs'.toArray ∧ TRs g m w ls' cs'
  | [], [], ls, cs, ls', h, hl, _, _ => by
    injection h with h; subst h
    exact ⟨cs, rfl, hl⟩
  | (i, .val b x) :: parts, (i', v) :: vals, ls, cs, ls', h, hl, hlen, hp => by
    obtain ⟨hi, hv⟩ := hp 0 _ _ rfl rfl
    simp only at hi hv
    subst hi
    simp only [fillL] at h
    split at h
    · rename_i off n hpl
      split at h
      · rename_i hc
        have hvc : ∃ vs : List Value, v.cells = vs.toArray ∧ TRs g m w x vs := by
          cases b with
          | true => obtain ⟨vs, rfl, hh⟩ := hv; exact ⟨vs, rfl, hh⟩
          | false =>
            obtain ⟨y, rfl, hh⟩ := hv
            refine ⟨[v], one_cells hh.one, by simp, fun j z u h1 h2 => ?_⟩
            cases j with
            | zero => injection h1 with h1; injection h2 with h2; subst h1; subst h2; exact hh
            | succ j => simp at h1
        obtain ⟨vs, hvs, hx⟩ := hvc
        have hlc := hl.len
        have hlx := hx.len
        have hnew : TRs g m w (ls.take off ++ x ++ ls.drop (off + n)) (cs.take off ++ vs ++ cs.drop (off + n)) := by
          refine ⟨by simp [hlc, hlx], fun j z u h1 h2 => ?_⟩
          have e1 : (ls.take off).length = off := by rw [List.length_take]; omega
          have e2 : (cs.take off).length = off := by rw [List.length_take]; omega
          rw [List.append_assoc] at h1 h2
          rcases Nat.lt_or_ge j off with hj | hj
          · rw [List.getElem?_append_left (by omega), List.getElem?_take, if_pos hj] at h1 h2
            exact hl.at_ j z u h1 h2
          · rw [List.getElem?_append_right (by omega)] at h1 h2
            rw [e1] at h1; rw [e2] at h2
            rcases Nat.lt_or_ge (j - off) n with hj2 | hj2
            · rw [List.getElem?_append_left (by omega)] at h1 h2
              exact hx.at_ _ z u h1 h2
            · rw [List.getElem?_append_right (by omega), List.getElem?_drop] at h1 h2
              rw [hc.1] at h1
              rw [← hlx, hc.1] at h2
              exact hl.at_ _ z u h1 h2
        obtain ⟨cs', h1, h2⟩ := fill_sound parts vals h hnew (by simpa using hlen) (fun j p q h1 h2 => hp (j + 1) p q (by simpa using h1) (by simpa using h2))
        refine ⟨cs', ?_, h2⟩
        have hn : vs.length = n := by omega
        have hs : off + vs.length ≤ cs.length := by omega
        subst hn
        simp only [Instr.fill, hpl, hvs, List.size_toArray]
        rw [if_neg (by simpa using hs)]
        have := fill_step vs cs off hs
        rw [this]
        exact h1
      · cases h
    · cases h
  | (i, .ptr ..) :: _, _ :: _, _, _, _, h, _, _, _ => by simp [fillL] at h
  | (i, .rp ..) :: _, _ :: _, _, _, _, h, _, _, _ => by simp [fillL] at h
  | (i, .ep ..) :: _, _ :: _, _, _, _, h, _, _, _ => by simp [fillL] at h
  | (i, .tup ..) :: _, _ :: _, _, _, _, h, _, _, _ => by simp [fillL] at h
  | (i, .junk) :: _, _ :: _, _, _, _, h, _, _, _ => by simp [fillL] at h
  | [], _ :: _, _, _, _, _, _, h, _ => by simp at h
  | _ :: _, [], _, _, _, _, _, h, _ => by simp at h
theorem zeroOf_some {t : TypeId} {ls : List TL} (h : zeroOf P t = some ls) : ∃ i z, P.info? t = some i ∧ i.zero = some z ∧ ls = z.cells.toList.map zeroTL ∧ ∀ u ∈ z.cells.toList, u.oneCell' = true := by
  obtain ⟨i, hi, h⟩ := Option.bind_eq_some_iff.1 h
  obtain ⟨z, hz, h⟩ := Option.bind_eq_some_iff.1 h
  split at h
  · rename_i hc
    injection h with h
    exact ⟨i, z, hi, hz, h.symm, fun u hu => List.all_eq_true.1 hc u hu⟩
  · cases h
theorem run_mapM_fields (fs : List Field) (w : World) : ∀ (l : List (Nat × Nat)), (∀ (i : Nat) f, fs[i]? = some f → ∃ n, szOf P f.type = some n ∧ l[i]? = some (f.offset, n)) → fs.length = l.length →
    (fs.mapM (fun f => do pure (f.offset, ← sizeOf f.type) : Field → Sem (Nat × Nat))).run P w = .ok l w := by
  induction fs with
  | nil => intro l _ hl; cases l <;> simp at hl ⊢
  | cons f fs ih =>
    intro l hf hl
    cases l with
    | nil => simp at hl
    | cons p l =>
      obtain ⟨n, hn, hp⟩ := hf 0 f rfl
      injection hp with hp; subst hp
      obtain ⟨i0, hi, hs⟩ := szOf_some hn
      have := ih l (fun i f h => hf (i + 1) f (by simpa using h)) (by simpa using hl)
      simp [List.mapM_cons, sizeOf, typeInfo, hi, hs] at this ⊢
      simp [this]
theorem build_sound {t : TypeId} {parts : List (Nat × Slot)} {vals : List (Nat × Value)} {s : Slot} (h : buildS P t parts = some s) (hlen : parts.length = vals.length)
    (hp : ∀ (i : Nat) p q, parts[i]? = some p → vals[i]? = some q → p.1 = q.1 ∧ SR g m w p.2 q.2) : ∃ r, (Instr.build t vals.toArray).run P w = .ok r w ∧ SR g m w s r := by
  unfold buildS at h
  split at h
  · rename_i hbl
    split at h
    · rename_i z hz
      obtain ⟨i0, z0, hi0, hz0, rfl, hone⟩ := zeroOf_some hz
      obtain ⟨fs, hfs, hall⟩ : ∃ fs : Array Field, P.underlying t = some (.struct fs) ∧ (fs.toList.all fun f => (szOf P f.type).isSome) = true := by
        unfold bldOf at hbl
        split at hbl
        · rename_i fs hfs; exact ⟨fs, hfs, hbl⟩
        · cases hbl
      obtain ⟨ls, hl, rfl⟩ := Option.map_eq_some_iff.1 h
      have hsz : ∀ f ∈ fs.toList, ∃ n, szOf P f.type = some n := fun f hf => Option.isSome_iff_exists.1 (List.all_eq_true.1 hall f hf)
      have hpl : (fs.mapM (fun f => do pure (f.offset, ← sizeOf f.type) : Field → Sem (Nat × Nat))).run P w = .ok (fs.toList.map fun f => (f.offset, (szOf P f.type).getD 0)).toArray w := by
        rw [← Array.toArray_toList (xs := fs), List.mapM_toArray]
        rw [Sem.run_map]
        rw [run_mapM_fields (P := P) fs.toList w (fs.toList.map fun f => (f.offset, (szOf P f.type).getD 0)) (fun i f hf => by
          obtain ⟨n, hn⟩ := hsz f (List.mem_of_getElem? hf)
          exact ⟨n, hn, by rw [List.getElem?_map, hf]; simp [hn]⟩) (by simp)]
        rfl
      have hplace : plOf P t = ((fs.toList.map fun f => (f.offset, (szOf P f.type).getD 0)).toArray[·]?) := by
        funext f
        simp only [plOf, fldOf, hfs, List.getElem?_toArray, List.getElem?_map, Array.getElem?_toList]
        cases hf : fs[f]? with
        | none => rfl
        | some fd =>
          obtain ⟨n, hn⟩ := hsz fd (Array.mem_toList_iff.2 (Array.mem_of_getElem? hf))
          simp [hn]
      obtain ⟨cs', h1, h2⟩ := fill_sound parts vals hl (zero_TRs (g := g) (m := m) (w := w) z0 hone) hlen hp
      rw [hplace] at h1
      refine ⟨.agg cs'.toArray, ?_, cs', rfl, h2⟩
      simp only [Instr.build, Sem.run_bind, zeroValue, typeInfo, program, Sem.run, hi0, hz0, Result.andThen_ok, Sem.run_pure, run_underlying hfs]
      simp only [Array.toArray_toList] at h1
      rw [hpl]
      simp only [Result.andThen_ok, h1, Sem.run_pure]
    · cases h
  · cases h

theorem const_sound (v : Value) : SR g m w (constS v) v := by
  unfold constS
  split
  · exact ⟨_, rfl, rfl⟩
  · rename_i cs
    split
    · rename_i hc
      exact ⟨cs.toList, by simp, zero_TRs (.agg cs) (fun u hu => List.all_eq_true.1 hc u hu)⟩
    · trivial
  · trivial
  · rename_i h1 h2 h3
    refine VR.mk_sc ?_
    cases v <;> first | rfl | (exact absurd rfl (h2 _)) | (exact absurd rfl (h3 _))
theorem ev_sound {r : Nat → Slot} {a : Act} (h : ∀ t, SR g m w (r t) (a.tmps.getD t undef)) (x : Operand) : SR g m w (evR r x) (a.eval x) := by
  cases x with
  | tmp t => exact h t
  | const v => exact const_sound v
  | func f => exact VR.mk_sc rfl
  | global _ => trivial
theorem pick_sound {b : Bool} {x y : Slot} {v u : Value} (hx : SR g m w x v) (hy : SR g m w y u) : SR g m w (pickS b x y) (if b then v else u) := by
  unfold pickS
  split
  · obtain rfl := VR.one_sc hx
    obtain rfl := VR.one_sc hy
    cases b
    · exact hy
    · exact hx
  · cases b
    · exact hy
    · exact hx
theorem ptrIds_sound : ∀ {ss : List Slot} {vs : List Value} {ks : List Nat}, ptrIds ss = some ks → ss.length = vs.length → (∀ (i : Nat) s v, ss[i]? = some s → vs[i]? = some v → SR g m w s v) → vs = ks.map (fun k => ptrTo (g.β k)) ∧ ∀ k ∈ ks, m.box k ≠ []
  | [], vs, ks, h, hl, _ => by
    injection h with h; subst h
    exact ⟨List.eq_nil_of_length_eq_zero hl.symm, fun k hk => by cases hk⟩
  | .ptr k 0 :: r, [], ks, h, hl, _ => by simp at hl
  | .ptr k 0 :: r, v :: vs, ks, h, hl, hs => by
    obtain ⟨ks', h1, rfl⟩ := Option.map_eq_some_iff.1 h
    obtain ⟨h2, h3⟩ := ptrIds_sound h1 (by simpa using hl) (fun i s v a b => hs (i + 1) s v (by simpa using a) (by simpa using b))
    obtain ⟨h4, h5⟩ := hs 0 _ v rfl rfl
    refine ⟨by rw [h2, h4]; rfl, fun j hj => ?_⟩
    rcases List.mem_cons.1 hj with rfl | hj
    · exact h5
    · exact h3 j hj
theorem mkFn_sound {fn : Fn} {ρ : Operand → Slot} {ev : Operand → Value} {a b : List Operand} {s : Slot} (h : mkFnS fn (a.map ρ) (b.map ρ) = some s) (hρ : ∀ x, SR g m w (ρ x) (ev x)) : SR g m w s (.func fn (a.map ev).toArray (b.map ev).toArray) := by
  have hmap : ∀ (l : List Operand) (i : Nat) s v, (l.map ρ)[i]? = some s → (l.map ev)[i]? = some v → SR g m w s v := by
    intro l i s v h1 h2
    rw [List.getElem?_map] at h1 h2
    obtain ⟨z, hz, rfl⟩ := Option.map_eq_some_iff.1 h1
    rw [hz] at h2
    injection h2 with h2; subst h2
    exact hρ z
  unfold mkFnS at h
  split at h
  · rename_i f e1 e2
    injection h with h; subst h
    rw [List.map_eq_nil_iff.1 e1, List.map_eq_nil_iff.1 e2]
    exact VR.mk_sc rfl
  · rename_i f c cs e1 e2
    obtain ⟨ks, h1, rfl⟩ := Option.map_eq_some_iff.1 h
    rw [List.map_eq_nil_iff.1 e1]
    rw [← e2] at h1
    obtain ⟨h2, h3⟩ := ptrIds_sound h1 (by simp) (hmap b)
    exact ⟨by rw [h2]; rfl, h3⟩
  · cases h
theorem OSR_map {ρ : Operand → Slot} {ev : Operand → Value} (h : ∀ x, SR g m w (ρ x) (ev x)) (x : Option Operand) : OSR g m w (x.map ρ) (x.map ev) := by
  cases x
  · trivial
  · exact h _
theorem fr_sound {md : Md} {ρ : Operand → Slot} {s : Slot} {ev : Operand → Value} {o : Oper} (h : fr P md o.op ρ m = some s) (hm : MemR g m w) (hρ : ∀ x, SR g m w (ρ x) (ev x)) :
    ∃ v, (execOp ev o).run P w = .ok (.value v) w ∧ SR g m w s v := by
  have lift : ∀ {x : Sem Value} {v : Value}, x.run P w = .ok v w → ((do pure (.value (← x)) : Sem Next)).run P w = .ok (.value v) w := by
    intro x v hx
    simp [hx]
  unfold fr at h
  split at h
  all_goals (rename_i heq)
  · injection h with h; subst h
    exact ⟨_, by simp [execOp, heq], hρ _⟩
  · injection h with h; subst h
    exact ⟨_, by simp [execOp, heq], hρ _⟩
  · rename_i c x y
    split at h
    · rename_i t hc
      injection h with h; subst h
      have hcv := hρ c
      rw [hc] at hcv
      have hcv := VR.one_sc hcv
      exact ⟨_, by simp [execOp, heq, hcv, asBool], pick_sound (hρ x) (hρ y)⟩
    · cases h
  · obtain ⟨v, hv, hs⟩ := load_sound (P := P) hm h (hρ _)
    exact ⟨v, by simp only [execOp, heq]; exact lift hv, hs⟩
  · obtain ⟨v, hv, hs⟩ := fieldAddr_sound (P := P) h (hρ _)
    exact ⟨v, by simp only [execOp, heq]; exact lift hv, hs⟩
  · obtain ⟨v, hv, hs⟩ := field_sound (P := P) h (hρ _)
    exact ⟨v, by simp only [execOp, heq]; exact lift hv, hs⟩
  · obtain ⟨v, hv, hs⟩ := indexAddr_sound (P := P) hm h (hρ _) (hρ _)
    exact ⟨v, by simp only [execOp, heq]; exact lift hv, hs⟩
  · obtain ⟨v, hv, hs⟩ := index_sound (P := P) h (hρ _) (hρ _)
    exact ⟨v, by simp only [execOp, heq]; exact lift hv, hs⟩
  · rename_i b t x y _
    obtain ⟨v, hv, hs⟩ := bin_sound (P := P) (ox := x) (oy := y) h (hρ _) (hρ _)
    exact ⟨v, by simp only [execOp, heq]; exact lift hv, hs⟩
  · obtain ⟨v, hv, hs⟩ := un_sound (P := P) h (hρ _)
    exact ⟨v, by simp only [execOp, heq]; exact lift hv, hs⟩
  · obtain ⟨v, hv, hs⟩ := conv_sound (P := P) hm h (hρ _)
    exact ⟨v, by simp only [execOp, heq]; exact lift hv, hs⟩
  · rename_i t x lo hi
    obtain ⟨v, hv, hs⟩ := slice_sound (P := P) h (hρ _) (OSR_map hρ lo) (OSR_map hρ hi)
    exact ⟨v, by simp only [execOp, heq, Option.map_none]; exact lift hv, hs⟩
  · rename_i t parts
    obtain ⟨v, hv, hs⟩ := build_sound (P := P) (vals := parts.toList.map fun p => (p.1, ev p.2)) h (by simp) (fun i p q h1 h2 => by
      rw [List.getElem?_map] at h1 h2
      obtain ⟨z, hz, rfl⟩ := Option.map_eq_some_iff.1 h1
      rw [hz] at h2
      injection h2 with h2; subst h2
      exact ⟨rfl, hρ _⟩)
    refine ⟨v, ?_, hs⟩
    simp only [execOp, heq]
    have : (parts.map fun (x : Nat × Operand) => match x with | (i, x) => (i, ev x)) = (parts.toList.map fun p => (p.1, ev p.2)).toArray := by
      rw [← Array.toList_inj]; simp
    rw [this]
    exact lift hv
  · obtain ⟨v, hv, hs⟩ := extract_sound (P := P) h (hρ _)
    exact ⟨v, by simp only [execOp, heq]; exact lift hv, hs⟩
  · rename_i x
    unfold nilCheckS at h
    split at h
    · rename_i k off hk
      injection h with h; subst h
      have hx := hρ x
      rw [hk] at hx
      exact ⟨_, by simp [execOp, heq, hx.1], hx⟩
    · cases h
  · rename_i f a b
    refine ⟨_, ?_, mkFn_sound h hρ⟩
    simp only [execOp, heq]
    have e1 : a.map ev = (a.toList.map ev).toArray := by rw [← Array.toList_inj]; simp
    have e2 : b.map ev = (b.toList.map ev).toArray := by rw [← Array.toList_inj]; simp
    rw [e1, e2]
    exact lift (by simp [Instr.makeFunc])
  · rename_i c
    split at h
    · rename_i hcal
      split at h
      · rename_i x t hargs hts
        have ha : c.args = #[x] := by rw [← Array.toList_inj]; exact hargs
        have ht : c.argTypes = #[t] := by rw [← Array.toList_inj]; exact hts
        obtain ⟨v, hv, hs⟩ := len_sound (P := P) (ty := o.type) hm h (hρ _)
        refine ⟨v, ?_, hs⟩
        simp [execOp, heq, resolve, hcal, ha, ht, invoke, builtin, hv]
      · cases h
    · rename_i hcal
      split at h
      · rename_i x y hargs
        have ha : c.args = #[x, y] := by rw [← Array.toList_inj]; exact hargs
        obtain ⟨v, hv, hs⟩ := max_sound (P := P) (ts := c.argTypes) (ty := o.type) h (hρ _) (hρ _)
        refine ⟨v, ?_, hs⟩
        simp [execOp, heq, resolve, hcal, ha, invoke, builtin, hv]
      · cases h
    · cases h
  · cases h
end
end Go.Proofs.Ythhfhllfbnpcgaa.Co
