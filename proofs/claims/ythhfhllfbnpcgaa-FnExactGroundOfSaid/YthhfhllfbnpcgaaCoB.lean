/- The second part of the theory: what the operations of a function do to plain data: registers, variables in memory, lists of one's own; and the statement that a function, called, comes to such data ('AC'). -/
import Derived.Test.YthhfhllfbnpcgaaCoA
namespace Go.Proofs.Ythhfhllfbnpcgaa.Co
open Go
set_option linter.unusedSimpArgs false
set_option linter.unusedVariables false

/-- A cell: a view of data, nil, a list of one's own by its number, or what stands at a place of such a list (as long as the list is of that version). -/
inductive TL where
  | v (l : Leaf)
  | nl
  | o (t : Nat)
  | s (t i sz j ver : Nat)
/-- A register. -/
inductive Slot where
  | val (agg : Bool) (ls : List TL)
  | ptr (k off : Nat)
  | rp (ls : List Leaf)
  | ep (t i sz off : Nat)
  | clo (f : FuncId) (ks : List Nat)
  | tup (ss : List (Bool × List TL))
  | junk
/-- A list of one's own: live (nobody else sees it), frozen (only read from now on), gone. -/
inductive TG where
  | live (l : Leaf)
  | frz (l : Leaf)
  | gone
structure Mem where
  box : Nat → List TL
  tag : Nat → TG
  nx : Nat
  ver : Nat → Nat
def upd {α : Type} (f : Nat → α) (k : Nat) (x : α) : Nat → α := fun j => if j = k then x else f j
theorem upd_same {α : Type} (f : Nat → α) (k : Nat) (x : α) : upd f k x k = x := by simp [upd]
theorem upd_ne {α : Type} (f : Nat → α) {k j : Nat} (x : α) (h : j ≠ k) : upd f k x j = f j := by simp [upd, h]
def updO (f : Nat → Slot) : Option Tmp → Slot → (Nat → Slot)
  | some d, x => upd f d x
  | none, _ => f
def Mem.setBox (m : Mem) (k : Nat) (ls : List TL) : Mem := { m with box := upd m.box k ls }
def Mem.setTag (m : Mem) (t : Nat) (g : TG) : Mem := { m with tag := upd m.tag t g }
def Mem.newBox (m : Mem) (ls : List TL) : Mem := { m with box := upd m.box m.nx ls, nx := m.nx + 1 }
def Mem.newTag (m : Mem) (l : Leaf) : Mem := { m with tag := upd m.tag m.nx (.live l), nx := m.nx + 1 }
def Mem.bump (m : Mem) (t : Nat) : Mem := { m with ver := upd m.ver t (m.ver t + 1) }
def rowAt (xs : List (List Leaf)) (i : Nat) : List Leaf := xs.getD i []
/-- What a cell says. -/
def TG.cont : TG → Option Leaf
  | .live l => some l
  | .frz l => some l
  | .gone => none
def Mem.leaf (m : Mem) : TL → Option Leaf
  | .v l => some l
  | .nl => some (.ls [])
  | .o t => (m.tag t).cont
  | .s t i sz j ver => if m.ver t = ver then match (m.tag t).cont with
      | some (.ls xs) => if i < xs.length ∧ (rowAt xs i).length = sz then (rowAt xs i)[j]? else none
      | _ => none
    else none

/-! ### types -/
def szOf (P : Program) (t : TypeId) : Option Nat := (P.info? t).map (·.size)
def bytesOf (P : Program) (t : TypeId) : Option Nat := (P.info? t).map (·.bytes)
def zeroTL : Value → TL
  | .slice none 0 0 => .nl
  | v => .v (.sc v)
def zeroOf (P : Program) (t : TypeId) : Option (List TL) := (P.info? t).bind fun i => i.zero.bind fun z => if z.cells.toList.all (·.oneCell') then some (z.cells.toList.map zeroTL) else none
def isAggD : TypeDesc → Bool
  | .struct _ => true
  | .array _ _ => true
  | _ => false
def aggOf (P : Program) (t : TypeId) : Option Bool := (P.underlying t).map isAggD
def fldOf (P : Program) (t : TypeId) (f : Nat) : Option (Nat × TypeId) := match P.underlying t with
  | some (.struct fs) => (fs[f]?).map fun x => (x.offset, x.type)
  | _ => none
def elOf (P : Program) (t : TypeId) : Option TypeId := match P.underlying t with
  | some (.slice e) => some e
  | _ => none
def strT (P : Program) (t : TypeId) : Bool := match P.underlying t with
  | some .string => true
  | _ => false
def intT (P : Program) (t : TypeId) : Option IntKind := match P.underlying t with
  | some (.int k) => some k
  | _ => none

/-! ### operations that leave memory alone -/
inductive Md where
  | seq
  | draw
  | drawp
  deriving DecidableEq
def constS : Value → Slot
  | .slice none 0 0 => .val false [.nl]
  | .agg cs => if cs.toList.all (·.oneCell') then .val true (cs.toList.map zeroTL) else .junk
  | .tuple _ => .junk
  | v => .val false [.v (.sc v)]
def evR (r : Nat → Slot) : Operand → Slot
  | .tmp t => r t
  | .const v => constS v
  | .func f => .val false [.v (.sc (.func (.func f) #[] #[]))]
  | .global _ => .junk
def oneS (v : Value) : Slot := .val false [.v (.sc v)]
def byteAt (s : ByteArray) (i : Nat) : Int := ((s.data.toList.getD i 0).toNat : Int)
def binV : BinOp → Value → Value → Option Value
  | .add, .int k a, .int k' b => if k = k' then some (.int k (k.wrap (a + b))) else none
  | .sub, .int k a, .int k' b => if k = k' then some (.int k (k.wrap (a - b))) else none
  | .mul, .int k a, .int k' b => if k = k' then some (.int k (k.wrap (a * b))) else none
  | .quo, .int k a, .int k' b => if k = k' ∧ b ≠ 0 then some (.int k (k.wrap (a.tdiv b))) else none
  | .rem, .int k a, .int k' b => if k = k' ∧ b ≠ 0 then some (.int k (a.tmod b)) else none
  | .and, .int k a, .int k' b => if k = k' then some (.int k (k.wrap ((BitVec.ofInt k.bits a &&& BitVec.ofInt k.bits b).toNat))) else none
  | .or, .int k a, .int k' b => if k = k' then some (.int k (k.wrap ((BitVec.ofInt k.bits a ||| BitVec.ofInt k.bits b).toNat))) else none
  | .xor, .int k a, .int k' b => if k = k' then some (.int k (k.wrap ((BitVec.ofInt k.bits a ^^^ BitVec.ofInt k.bits b).toNat))) else none
  | .shr, .int k a, .int _ b => if 0 ≤ b then some (.int k (a.fdiv (2 ^ (min b.toNat k.bits)))) else none
  | .shl, .int k a, .int _ b => if 0 ≤ b then some (.int k (k.wrap (a * 2 ^ (min b.toNat k.bits)))) else none
  | .eql, .int k a, .int k' b => if k = k' then some (.bool (a == b)) else none
  | .neq, .int k a, .int k' b => if k = k' then some (.bool (a != b)) else none
  | .lss, .int k a, .int k' b => if k = k' then some (.bool (a < b)) else none
  | .leq, .int k a, .int k' b => if k = k' then some (.bool (a ≤ b)) else none
  | .gtr, .int k a, .int k' b => if k = k' then some (.bool (a > b)) else none
  | .geq, .int k a, .int k' b => if k = k' then some (.bool (a ≥ b)) else none
  | .add, .string a, .string b => if a.size + b.size ≤ 9223372036854775807 then some (.string (a ++ b)) else none
  | .eql, .string a, .string b => some (.bool (a.toList == b.toList))
  | .neq, .string a, .string b => some (.bool (!(a.toList == b.toList)))
  | _, _, _ => none
def eqBoolS (P : Program) (t : TypeId) (neg : Bool) (a b : Bool) : Option Value := match P.underlying t with
  | some .bool => some (.bool (if neg then !(a == b) else a == b))
  | _ => none
def binS (P : Program) (op : BinOp) (t : TypeId) : Slot → Slot → Option Slot
  | .val false [.v (.sc (.bool a))], .val false [.v (.sc (.bool b))] => match op with
    | .eql => (eqBoolS P t false a b).map oneS
    | .neq => (eqBoolS P t true a b).map oneS
    | _ => none
  | .val false [.v (.sc a)], .val false [.v (.sc b)] => (binV op a b).map oneS
  | _, _ => none
def unS : UnOp → Slot → Option Slot
  | .neg, .val false [.v (.sc (.int k n))] => some (oneS (.int k (k.wrap (0 - n))))
  | .not, .val false [.v (.sc (.bool b))] => some (oneS (.bool (!b)))
  | _, _ => none
def pickS (b : Bool) : Slot → Slot → Slot
  | .val false [.v (.sc (.bool x))], .val false [.v (.sc (.bool y))] => oneS (.bool (cond b x y))
  | x, y => if b then x else y
def Leaf.isSc : Leaf → Bool
  | .sc _ => true
  | .ls _ => false
/-- The cells of a variable's part, of a type. -/
def part (P : Program) (t : TypeId) (off : Nat) (ls : List TL) : Option Slot := match aggOf P t, szOf P t with
  | some true, some n => if off + n ≤ ls.length then some (.val true ((ls.drop off).take n)) else none
  | some false, some _ => match ls[off]? with
    | some x => some (.val false [x])
    | none => none
  | _, _ => none
def ownRow (m : Mem) (t i sz : Nat) : Option (List Leaf) := match (m.tag t).cont with
  | some (.ls xs) => if i < xs.length ∧ (rowAt xs i).length = sz then some (rowAt xs i) else none
  | _ => none
/-- The cells of a row of one's own, as they are seen. -/
def seenL (t i sz ver : Nat) : Nat → List Leaf → List TL
  | _, [] => []
  | j, .sc v :: r => .v (.sc v) :: seenL t i sz ver (j + 1) r
  | j, .ls _ :: r => .s t i sz j ver :: seenL t i sz ver (j + 1) r
def loadS (P : Program) (md : Md) (t : TypeId) (m : Mem) : Slot → Option Slot
  | .ptr k off => if md = .drawp ∧ k = 0 then none else part P t off (m.box k)
  | .rp ls => part P t 0 (ls.map .v)
  | .ep g i sz off => if md = .seq then match ownRow m g i sz with
      | some row => part P t off (seenL g i sz (m.ver g) 0 row)
      | none => none
    else none
  | _ => none
def fieldAddrS (P : Program) (s : TypeId) (f : Nat) (x : Slot) : Option Slot := match fldOf P s f with
  | some (off, ft) => if szOf P ft = some 0 ∨ szOf P ft = none then none else match x with
    | .ptr k o => some (.ptr k (o + off))
    | .rp ls => some (.rp (ls.drop off))
    | .ep t i sz o => some (.ep t i sz (o + off))
    | _ => none
  | none => none
def fieldS (P : Program) (s : TypeId) (f : Nat) : Slot → Option Slot
  | .val true ls => match fldOf P s f with
    | some (off, ft) => part P ft off ls
    | none => none
  | _ => none
def indexAddrS (P : Program) (md : Md) (t : TypeId) (m : Mem) (x i : Slot) : Option Slot := match elOf P t, i with
  | some e, .val false [.v (.sc (.int _ i))] => match x with
    | .val false [.v (.ls xs)] => if (0 ≤ i ∧ i < xs.length) ∧ szOf P e = some (rowAt xs i.toNat).length then some (.rp (rowAt xs i.toNat)) else none
    | .val false [.o g] => if md = .seq then match m.tag g, szOf P e with
        | .live (.ls xs), some n => if 0 ≤ i ∧ i < xs.length then some (.ep g i.toNat n 0) else none
        | .frz (.ls xs), _ => if (0 ≤ i ∧ i < xs.length) ∧ szOf P e = some (rowAt xs i.toNat).length then some (.rp (rowAt xs i.toNat)) else none
        | _, _ => none
      else none
    | _ => none
  | _, _ => none
def indexS (P : Program) (t : TypeId) : Slot → Slot → Option Slot
  | .val false [.v (.sc (.string s))], .val false [.v (.sc (.int _ i))] => if strT P t = true ∧ (0 ≤ i ∧ i < s.size) then some (oneS (.int .u8 (byteAt s i.toNat))) else none
  | _, _ => none
def lenS (P : Program) (md : Md) (t : TypeId) (m : Mem) : Slot → Option Slot
  | .val false [.v (.sc (.string s))] => if strT P t = true then some (oneS (.int .i64 s.size)) else none
  | .val false [.v (.ls xs)] => if (elOf P t).isSome = true then some (oneS (.int .i64 xs.length)) else none
  | .val false [.nl] => if (elOf P t).isSome = true then some (oneS (.int .i64 0)) else none
  | .val false [x] => if md = .seq ∧ (elOf P t).isSome = true then match m.leaf x with
      | some (.ls xs) => some (oneS (.int .i64 xs.length))
      | _ => none
    else none
  | _ => none
def boundS (d : Nat) : Option Slot → Option Int
  | none => some d
  | some (.val false [.v (.sc (.int _ i))]) => some i
  | _ => none
def sliceS (P : Program) (t : TypeId) (x : Slot) (lo hi : Option Slot) : Option Slot := match x with
  | .val false [.v (.sc (.string s))] => match boundS 0 lo, boundS s.size hi with
    | some a, some b => if strT P t = true ∧ (0 ≤ b ∧ b ≤ s.size) ∧ (0 ≤ a ∧ a ≤ b) then some (oneS (.string (s.extract a.toNat b.toNat))) else none
    | _, _ => none
  | .val false [.v (.ls xs)] => match boundS 0 lo, boundS xs.length hi, elOf P t with
    | some a, some b, some e => if ((0 ≤ b ∧ b ≤ xs.length) ∧ (0 ≤ a ∧ a ≤ b)) ∧ (szOf P e).isSome = true ∧ (∀ row ∈ xs, szOf P e = some row.length) then some (.val false [.v (.ls ((xs.take b.toNat).drop a.toNat))]) else none
    | _, _, _ => none
  | _ => none
/-- Bytes in line. -/
def rowBytes : List (List Leaf) → Option (List Int)
  | [] => some []
  | [.sc (.int .u8 n)] :: r => (rowBytes r).map (n :: ·)
  | _ => none
def packB (ns : List Int) : ByteArray := ns.foldl (fun r n => r.push (UInt8.ofNat n.toNat)) ByteArray.empty
def strOf (P : Program) (src dst : TypeId) (rows : List (List Leaf)) : Option Slot := match elOf P src with
  | some e => if strT P dst = true ∧ intT P e = some .u8 then (rowBytes rows).map (fun ns => oneS (.string (packB ns))) else none
  | none => none
def convS (P : Program) (md : Md) (src dst : TypeId) (m : Mem) : Slot → Option Slot
  | .val false [.v (.sc (.int _ n))] => match P.underlying src, intT P dst with
    | some _, some k => some (oneS (.int k (k.wrap n)))
    | _, _ => none
  | .val false [.v (.ls rows)] => strOf P src dst rows
  | .val false [.o t] => if md = .seq then match (m.tag t).cont with
      | some (.ls rows) => strOf P src dst rows
      | _ => none
    else none
  | _ => none
def fillL (place : Nat → Option (Nat × Nat)) (cells : List TL) : List (Nat × Slot) → Option (List TL)
  | [] => some cells
  | (i, .val _ ls) :: rest => match place i with
    | some (off, n) => if ls.length = n ∧ off + n ≤ cells.length then fillL place (cells.take off ++ ls ++ cells.drop (off + n)) rest else none
    | none => none
  | _ :: _ => none
def bldOf (P : Program) (t : TypeId) : Bool := match P.underlying t with
  | some (.struct fs) => fs.toList.all fun f => (szOf P f.type).isSome
  | _ => false
def plOf (P : Program) (t : TypeId) (f : Nat) : Option (Nat × Nat) := (fldOf P t f).bind fun x => (szOf P x.2).map fun n => (x.1, n)
def buildS (P : Program) (t : TypeId) (parts : List (Nat × Slot)) : Option Slot := if bldOf P t = true then match zeroOf P t with
    | some z => (fillL (plOf P t) z parts).map (.val true)
    | none => none
  else none
def maxS : Slot → Slot → Option Slot
  | .val false [.v (.sc (.int k x))], .val false [.v (.sc (.int _ y))] => some (oneS (.int k (if y > x then y else x)))
  | _, _ => none
def extractS (i : Nat) : Slot → Option Slot
  | .tup ss => match ss[i]? with
    | some (b, ls) => some (.val b ls)
    | none => none
  | _ => none
def ptrIds : List Slot → Option (List Nat)
  | [] => some []
  | .ptr k 0 :: r => (ptrIds r).map (k :: ·)
  | _ => none
/-- A function value that holds pointers to variables. -/
def mkFnS : Fn → List Slot → List Slot → Option Slot
  | .func f, [], [] => some (.val false [.v (.sc (.func (.func f) #[] #[]))])
  | .func f, [], c :: cs => (ptrIds (c :: cs)).map (.clo f)
  | _, _, _ => none
def nilCheckS : Slot → Option Slot
  | .ptr k off => some (.ptr k off)
  | _ => none

/-- An operation that only sets its register. -/
def fr (P : Program) (md : Md) (op : Op) (ρ : Operand → Slot) (m : Mem) : Option Slot := match op with
  | .move x => some (ρ x)
  | .assign x => some (ρ x)
  | .pick c a b => match ρ c with
    | .val false [.v (.sc (.bool t))] => some (pickS t (ρ a) (ρ b))
    | _ => none
  | .load t a => loadS P md t m (ρ a)
  | .fieldAddr s x f => fieldAddrS P s f (ρ x)
  | .field s x f => fieldS P s f (ρ x)
  | .indexAddr t x i => indexAddrS P md t m (ρ x) (ρ i)
  | .index t x i => indexS P t (ρ x) (ρ i)
  | .binOp b t x y _ => binS P b t (ρ x) (ρ y)
  | .unOp u _ x => unS u (ρ x)
  | .convert s d x => convS P md s d m (ρ x)
  | .slice t x lo hi none => sliceS P t (ρ x) (lo.map ρ) (hi.map ρ)
  | .build t parts => buildS P t (parts.toList.map fun p => (p.1, ρ p.2))
  | .extract x i => extractS i (ρ x)
  | .nilCheck x => nilCheckS (ρ x)
  | .makeFunc f a b => mkFnS f (a.toList.map ρ) (b.toList.map ρ)
  | .call c => match c.callee with
    | .builtin .len => match c.args.toList, c.argTypes.toList with
      | [x], [t] => lenS P md t m (ρ x)
      | _, _ => none
    | .builtin .max => match c.args.toList with
      | [x, y] => maxS (ρ x) (ρ y)
      | _ => none
    | _ => none
  | _ => none

/-! ### what a function comes to -/
/-- Data handed over: only shown, or as one's own. -/
inductive FL where
  | v (l : Leaf)
  | o (l : Leaf)
inductive RS where
  | val (agg : Bool) (ls : List FL)
  | ptr (k : Nat)
  | clo (f : FuncId) (ks : List Nat)
  | tup (ss : List (Bool × List FL))
def RS.fls : RS → List FL
  | .val _ ls => ls
  | .ptr _ => []
  | .clo _ _ => []
  | .tup ss => ss.flatMap (·.2)
/-- A value's cells, by its shape. -/
inductive ShV : Bool → List FL → Value → List Value → Prop
  | agg (ls : List FL) (cs : List Value) (h : cs.length = ls.length) : ShV true ls (.agg cs.toArray) cs
  | one (l : FL) (v : Value) (h : v.oneCell' = true) : ShV false [l] v [v]
inductive ShT : List (Bool × List FL) → List Value → List Value → Prop
  | nil : ShT [] [] []
  | cons {b : Bool} {ls : List FL} {v : Value} {cs : List Value} {ss : List (Bool × List FL)} {vs : List Value} {css : List Value} (h : ShV b ls v cs) (hs : ShT ss vs css) : ShT ((b, ls) :: ss) (v :: vs) (cs ++ css)
def ptrTo (b : Nat) : Value := .pointer (some ⟨b, 0, none⟩)
/-- A pointer k leads to the block γ k. -/
inductive Sh (γ : Nat → Nat) : RS → Value → List Value → Prop
  | val {b : Bool} {ls : List FL} {v : Value} {cs : List Value} (h : ShV b ls v cs) : Sh γ (.val b ls) v cs
  | ptr (k : Nat) : Sh γ (.ptr k) (ptrTo (γ k)) []
  | clo (f : FuncId) (ks : List Nat) : Sh γ (.clo f ks) (.func (.func f) #[] (ks.map fun k => ptrTo (γ k)).toArray) []
  | tup {ss : List (Bool × List FL)} {vs : List Value} {css : List Value} (h : ShT ss vs css) : Sh γ (.tup ss) (.tuple vs.toArray) css
inductive ShL (γ : Nat → Nat) : List RS → List Value → List Value → Prop
  | nil : ShL γ [] [] []
  | cons {r : RS} {v : Value} {cs : List Value} {rs : List RS} {vs : List Value} {css : List Value} (h : Sh γ r v cs) (hs : ShL γ rs vs css) : ShL γ (r :: rs) (v :: vs) (cs ++ css)
/-- Data and the cells that say it; what is one's own lies in blocks apart (fps), none of which is S's. -/
structure Bun (S : Nat → Prop) (w : World) (fls : List FL) (vs : List Value) (fps : Nat → Nat → Prop) : Prop where
  len : fls.length = vs.length
  view : ∀ (i : Nat) (l : Leaf) (u : Value), fls[i]? = some (FL.v l) → vs[i]? = some u → Rep S w l u
  own : ∀ (i : Nat) (l : Leaf) (u : Value), fls[i]? = some (FL.o l) → vs[i]? = some u → Own w l u (fps i)
  sub : ∀ i b, fps i b → ¬ S b ∧ b < w.heap.size
  dis : ∀ i j b, fps i b → fps j b → i = j
/-- What lent data has become: still the lender's, or gone. -/
def lentO : List (Option Leaf) → List FL
  | [] => []
  | some l :: r => .o l :: lentO r
  | none :: r => lentO r
def lentV : List (Option Leaf) → List Value → List Value
  | some _ :: r, v :: vs => v :: lentV r vs
  | none :: r, _ :: vs => lentV r vs
  | _, _ => []
/-- The cells of what was lent. -/
def ownV : List FL → List Value → List Value
  | .o _ :: r, v :: vs => v :: ownV r vs
  | .v _ :: r, _ :: vs => ownV r vs
  | _, _ => []
def ownN : List FL → Nat
  | .o _ :: r => ownN r + 1
  | .v _ :: r => ownN r
  | [] => 0
structure Same (w w' : World) : Prop where
  os : w'.os = w.os
  tape : w'.tape = w.tape
  output : w'.output = w.output
  size : w.heap.size ≤ w'.heap.size
/-- A function that may be entered. -/
def Enters (P : Program) (f : FuncId) : Prop := ∃ fn, P.funcs[f]? = some fn ∧ (fn.name == "runtime.NumGoroutine") = false ∧ fn.body.isNone = false
/-- A variable behind a pointer: its block, its cells, its type. -/
structure BX where
  g : Nat
  cs : List Value
  ty : TypeId
def bgs (bs : List BX) (k : Nat) : Nat := (bs.map BX.g).getD k 0
/-- Variables behind pointers, what they hold being bx. -/
structure BxOk (w : World) (bx : List (List FL)) (bs : List BX) (S : Nat → Prop) (fps : Nat → Nat → Prop) : Prop where
  len : bx.length = bs.length
  sz : ∀ (i : Nat) l b, bx[i]? = some l → bs[i]? = some b → l.length = b.cs.length
  at_ : ∀ b ∈ bs, w.heap[b.g]? = some (.cells b.cs.toArray b.ty (0, 0)) ∧ ¬ S b.g ∧ ∀ i, ¬ fps i b.g
  nd : (bs.map BX.g).Nodup
/-- What a call leaves: the result and what was lent read as said; nothing else has changed. -/
structure Back (w w' : World) (S : Nat → Prop) (fps : Nat → Nat → Prop) (bs : List BX) (afls : List FL) (cs : List Value)
    (r : RS) (lent : List (Option Leaf)) (bx' : List (List FL)) (v : Value) (rcs : List Value) (bs' : List BX) (S' : Nat → Prop) (fps' : Nat → Nat → Prop) : Prop where
  sh : Sh (bgs bs') r v rcs
  lent_len : lent.length = ownN afls
  bun : Bun S' w' (r.fls ++ lentO lent ++ bx'.flatten) (rcs ++ lentV lent (ownV afls cs) ++ bs'.flatMap BX.cs) fps'
  box : BxOk w' bx' bs' S' fps'
  blen : bs.length ≤ bs'.length
  bold : ∀ i, i < bs.length → bgs bs' i = bgs bs i
  bnew : ∀ i, bs.length ≤ i → i < bs'.length → w.heap.size ≤ bgs bs' i
  S_lt : ∀ b, S' b → b < w'.heap.size
  S_from : ∀ b, S' b → S b ∨ w.heap.size ≤ b ∨ ∃ i, fps i b
  f_from : ∀ i b, fps' i b → w.heap.size ≤ b ∨ ∃ i, fps i b
  same : Same w w'
  keep : ∀ b, b < w.heap.size → (∀ i, ¬ fps i b) → (∀ x ∈ bs, b ≠ x.g) → w'.heap[b]? = w.heap[b]?
/-- 'Called with these data (and, where an argument is a pointer, with these variables behind it), the function returns: the result, what lent data has become, the variables afterwards are as post says; nothing else has changed.' -/
def AC (P : Program) (f : FuncId) (bx : List (List FL)) (args : List RS) (post : RS → List (Option Leaf) → List (List FL) → Prop) : Prop :=
  Enters P f ∧ ∀ (w : World) (vs cs : List Value) (bs : List BX) (S : Nat → Prop) (fps : Nat → Nat → Prop),
    ShL (bgs bs) args vs cs →
    Bun S w (args.flatMap RS.fls ++ bx.flatten) (cs ++ bs.flatMap BX.cs) fps →
    BxOk w bx bs S fps →
    (∀ b, S b → b < w.heap.size) →
    Calls P f vs.toArray w fun e w' => ∃ r lent bx' v rcs bs' S' fps', post r lent bx' ∧ e = .returned v ∧
      Back w w' S fps bs (args.flatMap RS.fls) cs r lent bx' v rcs bs' S' fps'

theorem AC.mono {P : Program} {f : FuncId} {bx : List (List FL)} {args : List RS} {post post' : RS → List (Option Leaf) → List (List FL) → Prop}
    (h : AC P f bx args post) (hp : ∀ r l b, post r l b → post' r l b) : AC P f bx args post' := by
  refine ⟨h.1, fun w vs cs bs S fps h1 h2 h3 h4 => (h.2 w vs cs bs S fps h1 h2 h3 h4).mono ?_⟩
  rintro e w' ⟨r, lent, bx', v, rcs, bs', S', fps', hq, rest⟩
  exact ⟨r, lent, bx', v, rcs, bs', S', fps', hp _ _ _ hq, rest⟩

end Go.Proofs.Ythhfhllfbnpcgaa.Co
