/- The equations by which calls with lent data and with pointers are worked out, step by step. -/
import Derived.Test.YthhfhllfbnpcgaaCoM
namespace Go.Proofs.Ythhfhllfbnpcgaa.Co
open Go
set_option linter.unusedSimpArgs false
set_option linter.unusedVariables false
section
variable {P : Program} {md : Md} {m m0 : Mem} {r : Reg} {K : Slot → Mem → Prop}
/-- What comes of a call with lent data. -/
def genK (args : List RS) (bx : List (List FL)) (ss : List Slot) (ks : List Nat) (m : Mem) (K : Slot → Mem → Prop) (r : RS) (lent : List (Option Leaf)) (bx' : List (List FL)) : Prop :=
  (bx'.length = ks.length ∧ bx'.all (fun l => !l.isEmpty) = true) ∧ fillF (args.flatMap RS.fls) (slotL ss) lent fun ex =>
    retG r bx' ks (backX m (frzIf (viewsOf r bx') (goneT m (tagsM (flsOf args bx) (tlsOf m ss ks))) (shownL (flsOf args bx) (tlsOf m ss ks))) (slotL ss) ex) K
/-- A call of a function whose statement is known, data and variables being lent. -/
theorem gen_by {f : FuncId} {ss : List Slot} {args : List RS} {bx : List (List FL)} {post : RS → List (Option Leaf) → List (List FL) → Prop} (ks : List Nat) (hc : AC P f bx args post) (h1 : ks.Nodup) (h2 : sepB (flsOf args bx) (tlsOf m ss ks) = true) (h3 : lendS m ks args ss) (h4 : lendX m bx ks)
    (hk : ∀ r lent bx', post r lent bx' → genK args bx ss ks m K r lent bx') : callE P .seq f ss m K :=
  .inr ⟨rfl, .inl ⟨args, bx, ks, ⟨h1, h2, h3, h4⟩, hc.mono hk⟩⟩
theorem new_by {f : FuncId} {ss : List Slot} {args : List RS} {post : RS → List (Option Leaf) → List (List FL) → Prop} (hc : AC P f [] args post) (hs : showS m ss = some args) (hk : ∀ r l bx, post r l bx → retN r bx m (slotL ss) K) : callE P .seq f ss m K := by
  refine .inr ⟨rfl, .inr ?_⟩
  unfold callNew
  rw [hs]
  exact hc.mono hk
/-! truth values compared -/
def boolT (P : Program) (t : TypeId) : Bool := match P.underlying t with
  | some .bool => true
  | _ => false
def bqK (c x : Bool) : Option Slot := match c with
  | true => some (.val false [.v (.sc (.bool x))])
  | false => none
theorem bq_eql {t : TypeId} {a b : Bool} : binS P .eql t (.val false [.v (.sc (.bool a))]) (.val false [.v (.sc (.bool b))]) = bqK (boolT P t) (a == b) := by
  simp only [binS, eqBoolS, boolT, bqK]
  cases P.underlying t with
  | none => rfl
  | some d => cases d <;> rfl
theorem bq_neq {t : TypeId} {a b : Bool} : binS P .neq t (.val false [.v (.sc (.bool a))]) (.val false [.v (.sc (.bool b))]) = bqK (boolT P t) (!(a == b)) := by
  simp only [binS, eqBoolS, boolT, bqK]
  cases P.underlying t with
  | none => rfl
  | some d => cases d <;> rfl
theorem bq_K {x : Bool} : bqK true x = some (.val false [.v (.sc (.bool x))]) := rfl
/-! conversions -/
def undOf (P : Program) (t : TypeId) : Bool := (P.underlying t).isSome
def cvI (b : Bool) (k : Option IntKind) (n : Int) : Option Slot := match b, k with
  | true, some k => some (.val false [.v (.sc (.int k (k.wrap n)))])
  | _, _ => none
theorem c_int {s d : TypeId} {k : IntKind} {n : Int} : convS P md s d m (.val false [.v (.sc (.int k n))]) = cvI (undOf P s) (intT P d) n := by
  simp only [convS, cvI, undOf]
  cases P.underlying s <;> cases intT P d <;> rfl
theorem c_cvI {k : IntKind} {n : Int} : cvI true (some k) n = some (.val false [.v (.sc (.int k (k.wrap n)))]) := rfl
def cvR (e : Option TypeId) (P : Program) (st : Bool) (rows : List (List Leaf)) : Option Slot := match e with
  | some e => cvS st (intT P e) (rowBytes rows)
  | none => none
where cvS (st : Bool) (k : Option IntKind) (ns : Option (List Int)) : Option Slot := match st, k, ns with
  | true, some .u8, some ns => some (.val false [.v (.sc (.string (packB ns)))])
  | _, _, _ => none
theorem c_strOf {s d : TypeId} {rows : List (List Leaf)} : strOf P s d rows = cvR (elOf P s) P (strT P d) rows := by
  unfold strOf cvR
  cases elOf P s with
  | none => rfl
  | some e =>
    simp only []
    cases h1 : strT P d <;> cases h2 : intT P e <;> simp [cvR.cvS]
    rename_i k
    cases k <;> simp [cvR.cvS]
    cases rowBytes rows <;> rfl
theorem c_ls {s d : TypeId} {rows : List (List Leaf)} : convS P md s d m (.val false [.v (.ls rows)]) = strOf P s d rows := rfl
def cvO (P : Program) (s d : TypeId) (c : Option Leaf) : Option Slot := match c with
  | some (.ls rows) => strOf P s d rows
  | _ => none
theorem c_o {s d : TypeId} {t : Nat} : convS P .seq s d m (.val false [.o t]) = cvO P s d (m.tag t).cont := by
  simp only [convS, cvO, if_true]
  cases (m.tag t).cont with
  | none => rfl
  | some l => cases l <;> rfl
theorem c_cvO {s d : TypeId} {rows : List (List Leaf)} : cvO P s d (some (.ls rows)) = strOf P s d rows := rfl
theorem c_cvR {e : TypeId} {st : Bool} {rows : List (List Leaf)} : cvR (some e) P st rows = cvR.cvS st (intT P e) (rowBytes rows) := rfl
theorem c_cvS {ns : List Int} : cvR.cvS true (some .u8) (some ns) = some (.val false [.v (.sc (.string (packB ns)))]) := rfl
theorem c_rb1 {n : Int} : rowBytes [[.sc (.int .u8 n)]] = some [n] := rfl
/-! what is lent -/
def leafC (c : Option Leaf) (i sz j : Nat) : Option Leaf := match c with
  | some (.ls xs) => if i < xs.length ∧ (rowAt xs i).length = sz then (rowAt xs i)[j]? else none
  | _ => none
theorem g_leaf_v {l : Leaf} : m.leaf (.v l) = some l := rfl
theorem g_leaf_nl : m.leaf .nl = some (.ls []) := rfl
theorem g_leaf_o {t : Nat} : m.leaf (.o t) = (m.tag t).cont := rfl
theorem g_leaf_s {t i sz j ver : Nat} : m.leaf (.s t i sz j ver) = if m.ver t = ver then leafC (m.tag t).cont i sz j else none := by
  simp only [Mem.leaf, leafC]
  split
  · cases (m.tag t).cont with
    | none => rfl
    | some l => cases l <;> rfl
  · rfl
theorem g_leafC {xs : List (List Leaf)} {i sz j : Nat} : leafC (some (.ls xs)) i sz j = if i < xs.length ∧ (rowAt xs i).length = sz then (rowAt xs i)[j]? else none := rfl
def lnS (g : TG) (x : Option Leaf) : Option Leaf := match g with
  | .live _ => x
  | _ => none
theorem g_lend_nl : lend1 m .nl = some (.ls []) := rfl
theorem g_lend_o {t : Nat} : lend1 m (.o t) = liveO (m.tag t) := by
  simp only [lend1, liveO]
  cases m.tag t <;> rfl
theorem g_lend_s {t i sz j ver : Nat} : lend1 m (.s t i sz j ver) = lnS (m.tag t) (if m.ver t = ver then leafC (m.tag t).cont i sz j else none) := by
  rw [← g_leaf_s]
  simp only [lend1, lnS]
  cases m.tag t <;> rfl
theorem g_lnS {l : Leaf} {x : Option Leaf} : lnS (.live l) x = x := rfl
theorem g_liveO {l : Leaf} : liveO (.live l) = some l := rfl
theorem g_liveO_gone : liveO .gone = none := rfl
theorem g_ll_nil : lendL m [] [] = True := rfl
theorem g_ll_v {l : Leaf} {fs : List FL} {x : TL} {xs : List TL} : lendL m (.v l :: fs) (x :: xs) = (m.leaf x = some l ∧ lendL m fs xs) := rfl
theorem g_ll_o {l : Leaf} {fs : List FL} {x : TL} {xs : List TL} : lendL m (.o l :: fs) (x :: xs) = (lend1 m x = some l ∧ lendL m fs xs) := rfl
theorem g_ls_nil {ks : List Nat} : lendS m ks [] [] = True := rfl
theorem g_ls_val {ks : List Nat} {b b' : Bool} {fs : List FL} {ls : List TL} {ar : List RS} {ss : List Slot} : lendS m ks (.val b fs :: ar) (.val b' ls :: ss) = ((b' = b ∧ lendL m fs ls) ∧ lendS m ks ar ss) := rfl
theorem g_ls_ptr {ks : List Nat} {i k : Nat} {ar : List RS} {ss : List Slot} : lendS m ks (.ptr i :: ar) (.ptr k 0 :: ss) = (ks[i]? = some k ∧ lendS m ks ar ss) := rfl
theorem g_ls_clo {ks is js : List Nat} {f f' : FuncId} {ar : List RS} {ss : List Slot} : lendS m ks (.clo f is :: ar) (.clo f' js :: ss) = ((f' = f ∧ is.map (fun i => ks[i]?) = js.map some) ∧ lendS m ks ar ss) := rfl
theorem g_lx_nil : lendX m [] [] = True := rfl
theorem g_lx {fs : List FL} {bx : List (List FL)} {k : Nat} {ks : List Nat} : lendX m (fs :: bx) (k :: ks) = ((lendL m fs (m.box k) ∧ (m.box k).isEmpty = false ∧ (m.box k).all boxT = true) ∧ lendX m bx ks) := rfl
/-! what comes back -/
theorem g_genK {args : List RS} {bx : List (List FL)} {ss : List Slot} {ks : List Nat} {r : RS} {lent : List (Option Leaf)} {bx' : List (List FL)} : genK args bx ss ks m K r lent bx' =
  ((bx'.length = ks.length ∧ bx'.all (fun l => !l.isEmpty) = true) ∧ fillF (args.flatMap RS.fls) (slotL ss) lent fun ex =>
    retG r bx' ks (backX m (frzIf (viewsOf r bx') (goneT m (tagsM (flsOf args bx) (tlsOf m ss ks))) (shownL (flsOf args bx) (tlsOf m ss ks))) (slotL ss) ex) K) := rfl
section
variable {fs : List FL} {xs : List TL} {x : TL} {l l' : Leaf} {lo : List (Option Leaf)} {F : List (Option Leaf) → Prop}
theorem g_fill_nil : fillF [] xs lo F = F [] := rfl
theorem g_fill_v : fillF (.v l :: fs) (x :: xs) lo F = fillF fs xs lo fun e => F (none :: e) := by cases x <;> rfl
theorem g_fill_some : fillF (.o l :: fs) (x :: xs) (some l' :: lo) F = fillF fs xs lo fun e => F (some l' :: e) := by cases x <;> rfl
theorem g_fill_o {t : Nat} : fillF (.o l :: fs) (.o t :: xs) (none :: lo) F = fillF fs xs lo fun e => F (none :: e) := rfl
theorem g_fill_nl : fillF (.o l :: fs) (.nl :: xs) (none :: lo) F = fillF fs xs lo fun e => F (none :: e) := rfl
theorem g_fill_s {t i sz j ver : Nat} : fillF (.o l :: fs) (.s t i sz j ver :: xs) (none :: lo) F = ∀ u, fillF fs xs lo fun e => F (some (.sc u) :: e) := rfl
theorem g_tm_v : tagsM (.v l :: fs) (x :: xs) = tagsM fs xs := rfl
theorem g_tm_o {t : Nat} : tagsM (.o l :: fs) (.o t :: xs) = t :: tagsM fs xs := rfl
theorem g_tm_s {t i sz j ver : Nat} : tagsM (.o l :: fs) (.s t i sz j ver :: xs) = t :: tagsM fs xs := rfl
theorem g_tm_nl : tagsM (.o l :: fs) (.nl :: xs) = tagsM fs xs := rfl
theorem g_tm_nil : tagsM [] xs = [] := rfl
theorem g_sh_v : shownL (.v l :: fs) (x :: xs) = x :: shownL fs xs := rfl
theorem g_sh_o : shownL (.o l :: fs) (x :: xs) = shownL fs xs := rfl
theorem g_sh_nil : shownL [] xs = [] := rfl
theorem g_gone_nil : goneT m [] = m := rfl
theorem g_gone {t : Nat} {ts : List Nat} : goneT m (t :: ts) = goneT (m.setTag t .gone) ts := rfl
end
def whG (g : TG) (i j : Nat) (l : Leaf) : Leaf := match g with
  | .live (.ls xs) => .ls (xs.set i ((rowAt xs i).set j l))
  | _ => l
theorem g_whG {xs : List (List Leaf)} {i j : Nat} {l : Leaf} : whG (.live (.ls xs)) i j l = .ls (xs.set i ((rowAt xs i).set j l)) := rfl
section
variable {xs : List TL} {x : TL} {l : Leaf} {ex : List (Option Leaf)}
theorem g_b_nil : backX m0 m [] ex = m := by cases ex <;> rfl
theorem g_b_nil' : backX m0 m xs [] = m := by cases xs <;> rfl
theorem g_b_none : backX m0 m (x :: xs) (none :: ex) = backX m0 m xs ex := by
  simp only [backX]
  cases tagOf x <;> rfl
theorem g_b_v {l' : Leaf} : backX m0 m (.v l' :: xs) (some l :: ex) = backX m0 m xs ex := rfl
theorem g_b_nl : backX m0 m (.nl :: xs) (some l :: ex) = backX m0 m xs ex := rfl
theorem g_b_o {t : Nat} : backX m0 m (.o t :: xs) (some l :: ex) = backX m0 ((m.setTag t (.live l)).bump t) xs ex := rfl
theorem g_b_s {t i sz j ver : Nat} : backX m0 m (.s t i sz j ver :: xs) (some l :: ex) = backX m0 ((m.setTag t (.live (whG (m0.tag t) i j l))).bump t) xs ex := by
  simp only [backX, tagOf, wholeL, whG]
  cases m0.tag t with
  | live l' => cases l' <;> rfl
  | _ => rfl
end
def bbK (x : List TL × Mem) (k : Nat) (bx : List (List FL)) (ks : List Nat) (F : Mem → Prop) : Prop := bindB F bx ks (x.2.setBox k x.1)
def rgK (b : Bool) (x : List TL × Mem) (bx : List (List FL)) (ks : List Nat) (K : Slot → Mem → Prop) : Prop := bindB (fun m' => K (.val b x.1) m') bx ks x.2
theorem g_bb_nil {F : Mem → Prop} : bindB F [] [] m = F m := rfl
theorem g_bb {F : Mem → Prop} {fs : List FL} {bx : List (List FL)} {k : Nat} {ks : List Nat} : bindB F (fs :: bx) (k :: ks) m = bbK (bindM fs m) k bx ks F := rfl
theorem g_bbK {F : Mem → Prop} {xs : List TL} {m1 : Mem} {bx : List (List FL)} {k : Nat} {ks : List Nat} : bbK (xs, m1) k bx ks F = bindB F bx ks (m1.setBox k xs) := rfl
theorem g_ret_val {b : Bool} {ls : List FL} {bx : List (List FL)} {ks : List Nat} : retG (.val b ls) bx ks m K = rgK b (bindM ls m) bx ks K := rfl
theorem g_rgK {b : Bool} {xs : List TL} {m1 : Mem} {bx : List (List FL)} {ks : List Nat} : rgK b (xs, m1) bx ks K = bindB (fun m' => K (.val b xs) m') bx ks m1 := rfl
theorem g_ret_tup {bx : List (List FL)} {ks : List Nat} : retG (.tup []) bx ks m K = bindB (fun m' => K (.tup []) m') bx ks m := rfl
theorem g_retN {ls : List FL} {xs : List TL} : retN (.ptr 0) [ls] m xs K = newK ls (frzIf (ls.any FL.isView) m xs) K := rfl
def nwK (x : List TL × Mem) (K : Slot → Mem → Prop) : Prop := K (.ptr x.2.nx 0) (x.2.newBox x.1)
theorem g_newK {ls : List FL} : newK ls m K = (ls.isEmpty = false ∧ nwK (bindM ls m) K) := rfl
theorem g_nwK {xs : List TL} {m1 : Mem} : nwK (xs, m1) K = K (.ptr m1.nx 0) (m1.newBox xs) := rfl
/-! results of several values -/
theorem e_retT {ss : List (Bool × List FL)} {xs : List TL} : retK (.tup ss) m xs K = btK (bindT ss (frzIf (ss.any (fun p => p.2.any FL.isView)) m xs)) K := rfl
theorem e_btK {ss : List (Bool × List TL)} {m1 : Mem} : btK (ss, m1) K = K (.tup ss) m1 := rfl
def bT (x : Bool) (y : List TL × Mem) (r : List (Bool × List FL)) : List (Bool × List TL) × Mem := ((x, y.1) :: (bindT r y.2).1, (bindT r y.2).2)
def bTc (x : Bool × List TL) (y : List (Bool × List TL) × Mem) : List (Bool × List TL) × Mem := (x :: y.1, y.2)
theorem e_bindT_nil : bindT [] m = ([], m) := rfl
theorem e_bindT {b : Bool} {ls : List FL} {ss : List (Bool × List FL)} : bindT ((b, ls) :: ss) m = bT b (bindM ls m) ss := rfl
theorem e_bT {b : Bool} {xs : List TL} {m1 : Mem} {ss : List (Bool × List FL)} : bT b (xs, m1) ss = bTc (b, xs) (bindT ss m1) := rfl
theorem e_bTc {x : Bool × List TL} {ss : List (Bool × List TL)} {m1 : Mem} : bTc x (ss, m1) = (x :: ss, m1) := rfl
def resE : Option (Bool × List TL) → Option Slot
  | some (b, ls) => some (.val b ls)
  | none => none
theorem e_extr {i : Nat} {ss : List (Bool × List TL)} : extractS i (.tup ss) = resE (ss[i]?) := by
  simp only [extractS]
  cases ss[i]? <;> rfl
theorem e_extrE {b : Bool} {ls : List TL} : resE (some (b, ls)) = some (.val b ls) := rfl
/-! the start and the end of a function to which data is lent -/
section
variable {args : List RS} {bx : List (List FL)}
theorem m_so_tag {t : Nat} : (startMO args bx).tag t = if t = 0 then .gone else tagAt ((flsOf args bx)[t - 1]?) := rfl
theorem m_so_box {k : Nat} : (startMO args bx).box k = startBox bx (args.flatMap RS.fls).length k := rfl
theorem m_so_nx : (startMO args bx).nx = (flsOf args bx).length + bx.length + 1 := rfl
theorem g_flsOf : flsOf args bx = args.flatMap RS.fls ++ bx.flatten := rfl
theorem g_fls_val {b : Bool} {ls : List FL} : (RS.val b ls).fls = ls := rfl
theorem g_fls_ptr {k : Nat} : (RS.ptr k).fls = [] := rfl
theorem g_fls_clo {f : FuncId} {ks : List Nat} : (RS.clo f ks).fls = [] := rfl
theorem g_fls_tup {ss : List (Bool × List FL)} : (RS.tup ss).fls = ss.flatMap (·.2) := rfl
theorem ieq {k : IntKind} {a b : Int} (h : a = b) : Slot.val false [TL.v (Leaf.sc (Value.int k a))] = Slot.val false [TL.v (Leaf.sc (Value.int k b))] := by rw [h]
theorem m_so_ver {t : Nat} : (startMO args bx).ver t = 0 := rfl
theorem m_so_at_o {l : Leaf} : tagAt (some (.o l)) = .live l := rfl
theorem m_so_at_v {l : Leaf} : tagAt (some (.v l)) = .gone := rfl
theorem m_so_at_n : tagAt none = .gone := rfl
def finPK (xs : Option (List (Bool × List TL))) (m : Mem) (afls : List FL) (nb : Nat) (post : RS → List (Option Leaf) → List (List FL) → Prop) : Prop := match xs with
  | some xs => match outT xs m with
    | some (ys, m') => finO afls nb ys m' post
    | none => False
  | none => False
def finPM (x : Option (List (Bool × List FL) × Mem)) (afls : List FL) (nb : Nat) (post : RS → List (Option Leaf) → List (List FL) → Prop) : Prop := match x with
  | some (ys, m') => finO afls nb ys m' post
  | none => False
def finX (x : Option (List (List FL) × Mem)) (afls : List FL) (r : RS) (post : RS → List (Option Leaf) → List (List FL) → Prop) : Prop := match x with
  | some (bx, m1) => post r (lentAt 0 afls m1) bx
  | none => False
def oxK (x : Option (List FL × Mem)) (ks : List Nat) : Option (List (List FL) × Mem) := match x with
  | some (x, m1) => (outX ks m1).map fun p => (x :: p.1, p.2)
  | none => none
def oxM (x : List FL) (y : Option (List (List FL) × Mem)) : Option (List (List FL) × Mem) := y.map fun p => (x :: p.1, p.2)
variable {rs : List ResultVar} {afls : List FL} {nb : Nat} {post : RS → List (Option Leaf) → List (List FL) → Prop}
theorem f_norm : retQO P rs afls nb post .normal r m = finPK (resAll P rs r m) m afls nb post := rfl
theorem f_ret : retQO P rs afls nb post .ret r m = finPK (resAll P rs r m) m afls nb post := rfl
theorem f_PK {xs : List (Bool × List TL)} : finPK (some xs) m afls nb post = finPM (outT xs m) afls nb post := rfl
theorem f_PM {ys : List (Bool × List FL)} {m' : Mem} : finPM (some (ys, m')) afls nb post = finX (outX (List.range nb) m') afls (mkRS ys) post := rfl
theorem f_X {bx : List (List FL)} {m1 : Mem} {x : RS} : finX (some (bx, m1)) afls x post = post x (lentAt 0 afls m1) bx := rfl
theorem f_ox_nil : outX [] m = some ([], m) := rfl
theorem f_ox {k : Nat} {ks : List Nat} : outX (k :: ks) m = oxK (outL (m.box k) m) ks := by
  simp only [outX, oxK]
  cases outL (m.box k) m <;> rfl
theorem f_oxK {x : List FL} {m1 : Mem} {ks : List Nat} : oxK (some (x, m1)) ks = oxM x (outX ks m1) := rfl
theorem f_oxM {x : List FL} {y : List (List FL)} {m1 : Mem} : oxM x (some (y, m1)) = some (x :: y, m1) := rfl
theorem f_r0 : List.range 0 = [] := rfl
theorem f_r1 : List.range 1 = [0] := rfl
theorem f_r2 : List.range 2 = [0, 1] := rfl
theorem f_la_nil {i : Nat} : lentAt i [] m = [] := rfl
theorem f_la_v {i : Nat} {l : Leaf} {fs : List FL} : lentAt i (.v l :: fs) m = lentAt (i + 1) fs m := rfl
theorem f_la_o {i : Nat} {l : Leaf} {fs : List FL} : lentAt i (.o l :: fs) m = liveO (m.tag (i + 1)) :: lentAt (i + 1) fs m := rfl
theorem f_mk0 : mkRS [] = .tup [] := rfl
/-- A function to which data and variables are lent, its results named. -/
theorem AC.own' {f : FuncId} {fn : Func} {c : Code} (hf : P.funcs[f]? = some fn) (hb : fn.body = some c) (hr : fn.results.toList = rs) (hn : (fn.name == "runtime.NumGoroutine") = false) (hmx : P.follows .mixedOrders = true) (hok : okC fn.ntmps c = true) (hla : args.length ≤ fn.ntmps)
    (hne : bx.all (fun l => !l.isEmpty) = true) (ha : okArgs bx.length args = true) (h : awp P c (retQO P rs (args.flatMap RS.fls) bx.length post) (startRO args 0) (startMO args bx)) : AC P f bx args post := by
  subst hr
  exact AC.own hf hb hn hmx hok hla hne ha h
end
section
variable {t : TypeId} {k k1 k2 : IntKind} {a b : Int} {x y : ByteArray} {xs : List (List Leaf)}
theorem s_cat : binS P .add t (.val false [.v (.sc (.string x))]) (.val false [.v (.sc (.string y))]) = if x.size + y.size ≤ 9223372036854775807 then some (.val false [.v (.sc (.string (x ++ y)))]) else none := by
  simp only [binS, binV]
  split <;> rfl
theorem s_quo : binS P .quo t (.val false [.v (.sc (.int k a))]) (.val false [.v (.sc (.int k b))]) = if b ≠ 0 then some (.val false [.v (.sc (.int k (k.wrap (a.tdiv b))))]) else none := by
  simp only [binS, binV, true_and]
  split <;> rfl
theorem s_rem : binS P .rem t (.val false [.v (.sc (.int k a))]) (.val false [.v (.sc (.int k b))]) = if b ≠ 0 then some (.val false [.v (.sc (.int k (a.tmod b)))]) else none := by
  simp only [binS, binV, true_and]
  split <;> rfl
theorem s_sl_ss : sliceS P t (.val false [.v (.sc (.string x))]) (some (.val false [.v (.sc (.int k1 a))])) (some (.val false [.v (.sc (.int k2 b))])) = if strT P t = true ∧ (0 ≤ b ∧ b ≤ x.size) ∧ (0 ≤ a ∧ a ≤ b) then some (.val false [.v (.sc (.string (x.extract a.toNat b.toNat)))]) else none := rfl
theorem s_sl_sn : sliceS P t (.val false [.v (.sc (.string x))]) (some (.val false [.v (.sc (.int k1 a))])) none = if strT P t = true ∧ (0 ≤ (x.size : Int) ∧ (x.size : Int) ≤ x.size) ∧ (0 ≤ a ∧ a ≤ (x.size : Int)) then some (.val false [.v (.sc (.string (x.extract a.toNat ((x.size : Int)).toNat)))]) else none := rfl
theorem s_sl_ns : sliceS P t (.val false [.v (.sc (.string x))]) none (some (.val false [.v (.sc (.int k2 b))])) = if strT P t = true ∧ (0 ≤ b ∧ b ≤ x.size) ∧ (0 ≤ (0 : Int) ∧ (0 : Int) ≤ b) then some (.val false [.v (.sc (.string (x.extract 0 b.toNat)))]) else none := rfl
def slM (P : Program) (e : Option TypeId) (xs : List (List Leaf)) (a b : Int) : Option Slot := match e with
  | some e => if ((0 ≤ b ∧ b ≤ xs.length) ∧ (0 ≤ a ∧ a ≤ b)) ∧ (szOf P e).isSome = true ∧ (∀ row ∈ xs, szOf P e = some row.length) then some (.val false [.v (.ls ((xs.take b.toNat).drop a.toNat))]) else none
  | none => none
theorem s_sll_ss : sliceS P t (.val false [.v (.ls xs)]) (some (.val false [.v (.sc (.int k1 a))])) (some (.val false [.v (.sc (.int k2 b))])) = slM P (elOf P t) xs a b := by
  simp only [sliceS, boundS, slM]
  cases elOf P t <;> rfl
theorem s_sll_sn : sliceS P t (.val false [.v (.ls xs)]) (some (.val false [.v (.sc (.int k1 a))])) none = slM P (elOf P t) xs a xs.length := by
  simp only [sliceS, boundS, slM]
  cases elOf P t <;> rfl
theorem s_sll_ns : sliceS P t (.val false [.v (.ls xs)]) none (some (.val false [.v (.sc (.int k2 b))])) = slM P (elOf P t) xs 0 b := by
  simp only [sliceS, boundS, slM]
  cases elOf P t <;> rfl
theorem s_slM {e : TypeId} : slM P (some e) xs a b = if ((0 ≤ b ∧ b ≤ xs.length) ∧ (0 ≤ a ∧ a ≤ b)) ∧ (szOf P e).isSome = true ∧ (∀ row ∈ xs, szOf P e = some row.length) then some (.val false [.v (.ls ((xs.take b.toNat).drop a.toNat))]) else none := rfl
end
theorem d_yes {p : Prop} [Decidable p] (h : p) : decide p = true := decide_eq_true h
theorem d_no {p : Prop} [Decidable p] (h : ¬ p) : decide p = false := decide_eq_false h
theorem ib_yes {a b : Int} (h : a = b) : (a == b) = true := by simp [h]
theorem ib_no {a b : Int} (h : ¬ a = b) : (a == b) = false := by simp [h]
theorem inb_yes {a b : Int} (h : ¬ a = b) : (a != b) = true := by simp [h]
theorem inb_no {a b : Int} (h : a = b) : (a != b) = false := by simp [h]
set_option linter.defProp false in
def DEC := And.intro @d_yes (And.intro @d_no (And.intro @ib_yes (And.intro @ib_no (And.intro @inb_yes @inb_no))))
theorem m_ver_setTag {t : Nat} {g : TG} : (m.setTag t g).ver = m.ver := rfl
theorem m_ver_setBox {k : Nat} {ls : List TL} : (m.setBox k ls).ver = m.ver := rfl
theorem m_ver_bump {t t' : Nat} : (m.bump t).ver t' = if t' = t then m.ver t + 1 else m.ver t' := rfl
end
end Go.Proofs.Ythhfhllfbnpcgaa.Co
