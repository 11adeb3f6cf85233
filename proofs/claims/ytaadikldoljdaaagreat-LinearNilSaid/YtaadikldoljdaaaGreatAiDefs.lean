/- Definitions of a deterministic reading of the model's programs; nothing is proved here; no condition. -/
import Derived.RangeFuncIn
import Derived.KernelRfl

/- A deterministic reading of the model's programs: one heap without capacities, no tape. Definitions. -/
namespace Go.AI

/-! ### Trees: an entry by its number -/

inductive Tr (α : Type) where
  | leaf (a : α)
  | node (l r : Tr α)

def Tr.top {α : Type} (t : Tr α) : α := match t with
  | .leaf a => a
  | .node l _ => l.top

/-- The entry i of a tree of depth d. -/
def Tr.get {α : Type} (d : Nat) : Nat → Tr α → α :=
  Nat.rec (motive := fun _ => Nat → Tr α → α)
    (fun _ t => t.top)
    (fun d ih i => bif Nat.ble (2 ^ d) i
      then (fun t => Tr.casesOn (motive := fun _ => α) t (fun a => a) (fun _ r => ih (Nat.sub i (2 ^ d)) r))
      else (fun t => Tr.casesOn (motive := fun _ => α) t (fun a => a) (fun l _ => ih i l))) d

/-- The tree of depth d with v as its entry i. -/
def Tr.set {α : Type} (d : Nat) : Nat → α → Tr α → Tr α :=
  Nat.rec (motive := fun _ => Nat → α → Tr α → Tr α)
    (fun _ v _ => .leaf v)
    (fun d ih i v => bif Nat.ble (2 ^ d) i
      then (fun t => Tr.casesOn (motive := fun _ => Tr α) t (fun a => .node (.leaf a) (ih (Nat.sub i (2 ^ d)) v (.leaf a))) (fun l r => .node l (ih (Nat.sub i (2 ^ d)) v r)))
      else (fun t => Tr.casesOn (motive := fun _ => Tr α) t (fun a => .node (ih i v (.leaf a)) (.leaf a)) (fun l r => .node (ih i v l) r))) d

/-! ### Lists -/

def nth {α : Type} (i : Nat) : List α → Option α :=
  Nat.rec (motive := fun _ => List α → Option α)
    (fun l => List.casesOn (motive := fun _ => Option α) l none (fun a _ => some a))
    (fun _ ih l => List.casesOn (motive := fun _ => Option α) l none (fun _ r => ih r)) i

/-- n values from the place i on, if they are there. -/
def span {α : Type} (i n : Nat) (l : List α) : Option (List α) :=
  let s := (l.drop i).take n
  bif Nat.beq s.length n then some s else none

/-- vs written over l from the place i on. -/
def over {α : Type} (vs : List α) : Nat → List α → List α
  | _, [] => []
  | 0, x :: l => match vs with
    | [] => x :: l
    | v :: vs => v :: over vs 0 l
  | i + 1, x :: l => x :: over vs i l

/-! ### Values that name no memory -/

mutual
def flat : Value → Bool
  | .bool _ | .int _ _ | .float _ _ | .complex _ _ _ | .string _ | .nilFunc | .nilIface => true
  | .pointer a => a.isNone
  | .slice a _ _ => a.isNone
  | .map r => r.isNone
  | .chan r => r.isNone
  | .func fn f c => (match fn with | .yield _ => false | _ => true) && flats f.toList && flats c.toList
  | .iface _ v => flat v
  | .agg cs => flats cs.toList
  | .tuple cs => flats cs.toList
def flats : List Value → Bool
  | [] => true
  | v :: l => flat v && flats l
end

/-- A value that one cell holds. -/
def oneCell : Value → Bool
  | .agg _ | .tuple _ => false
  | _ => true

/-- A run that asks nothing of memory. -/
def pureRun {α : Type} (P : Program) : Sem α → Option α
  | .pure a => some a
  | .program k => pureRun P (k P)
  | _ => none

/-- .. that ends in a value that names no memory. -/
def pureFlat (P : Program) (s : Sem Value) : Option Value := match pureRun P s with
  | some v => bif flat v then some v else none
  | none => none

/-! ### The heap -/

abbrev Env := Tr Value

structure ALoop where
  st : LoopState
  pending : Option Code
  fn : FuncId
  env : Env
  params : Array Tmp
  assign : Code
  body : Code

inductive AObj where
  | cells (vs : List Value) (elem : TypeId)
  | map (es : List MapEntry) (clock : Nat)
  | siter (s : ByteArray) (pos : Nat)
  | miter (m : Nat) (since : Nat) (seen : List Nat) (stepped : Nat)
  | mnil
  | loop (l : ALoop)

def revTo {α : Type} : List α → List α → List α
  | [], acc => acc
  | x :: l, acc => revTo l (x :: acc)

/-- What lies in the heap's table: a thing; or a row that is being appended to, its last cell first, with its length. -/
inductive RObj where
  | obj (o : AObj)
  | grown (rev : List Value) (n : Nat) (elem : TypeId) (h : rev.length = n)

def RObj.norm : Option RObj → Option AObj
  | some (.obj o) => some o
  | some (.grown rev _ e _) => some (.cells (revTo rev []) e)
  | none => none

def RObj.of : Option AObj → Option RObj
  | some o => some (.obj o)
  | none => none

structure AHeap where
  next : Nat
  tab : Tr (Option RObj)

def HD : Nat := 13
def hcap : Nat := 8192

def AHeap.get (A : AHeap) (i : Nat) : Option AObj := bif Nat.ble hcap i then none else RObj.norm (A.tab.get HD i)
def AHeap.put (A : AHeap) (i : Nat) (o : Option AObj) : AHeap := { A with tab := A.tab.set HD i (RObj.of o) }

/-- A new block. -/
def AHeap.push (A : AHeap) (o : AObj) : Option (Nat × AHeap) :=
  bif Nat.ble hcap A.next then none else some (A.next, { next := Nat.succ A.next, tab := A.tab.set HD A.next (some (.obj o)) })

/-- What lies there as it lies. -/
def AHeap.raw (A : AHeap) (i : Nat) : Option RObj := bif Nat.ble hcap i then none else A.tab.get HD i

/-- A new row, its last cell first. -/
def AHeap.pushRow (A : AHeap) (rev : List Value) (n : Nat) (e : TypeId) (h : rev.length = n) : Option (Nat × AHeap) :=
  bif Nat.ble hcap A.next then none else some (A.next, { next := Nat.succ A.next, tab := A.tab.set HD A.next (some (.grown rev n e h)) })

theorem revTo_length {α : Type} : ∀ (l acc : List α), (revTo l acc).length = acc.length + l.length
  | [], acc => rfl
  | x :: l, acc => (revTo_length l (x :: acc)).trans (by rw [List.length_cons, List.length_cons, Nat.succ_add_eq_add_succ])

/-! ### Operations -/

/-- What an operation gives: a value, and the heap. -/
abbrev AR := Option (Value × AHeap)

/-- capacities from here on are counted from the end: the row may have more room than is known -/
def big : Nat := 2 ^ 63

def cellsAt (A : AHeap) (a : Addr) : Option (List Value) :=
  match a.spot with
  | some _ => none
  | none => match A.get a.block with
    | some (.cells vs _) => some vs
    | _ => none

def aggOf (P : Program) (t : TypeId) : Option Bool := match P.underlying t with
  | some (.struct _) | some (.array _ _) => some true
  | some _ => some false
  | none => none

def sizeAt (P : Program) (t : TypeId) : Option Nat := (P.info? t).map (·.size)

/-- The part of an aggregate's cells that a type takes. -/
def apart (P : Program) (t : TypeId) : Nat → List Value → Option Value :=
  match aggOf P t, sizeAt P t with
  | some true, some n => fun off cs => (span off n cs).map fun vs => .agg ⟨vs⟩
  | some false, some _ => fun off cs => nth off cs
  | _, _ => fun _ _ => none

def aload (P : Program) (t : TypeId) : Value → AHeap → Option Value :=
  let g := apart P t
  fun v A => match v with
  | .pointer (some a) => match cellsAt A a with
    | some vs => g a.off vs
    | none => none
  | _ => none

/-- Values written from an address on. -/
def awrite (A : AHeap) (a : Addr) (vs : List Value) : Option AHeap :=
  match a.spot with
  | some _ => none
  | none => match A.get a.block with
    | some (.cells cs e) => bif Nat.ble (a.off + vs.length) cs.length && vs.all oneCell then some (A.put a.block (some (.cells (over vs a.off cs) e))) else none
    | _ => none

def cellsOf (v : Value) : List Value := v.cells.toList

def astore (P : Program) (t : TypeId) : Value → Value → AHeap → Option AHeap :=
  match sizeAt P t with
  | some n => fun p v A => match p with
    | .pointer (some a) => bif Nat.beq (cellsOf v).length n then awrite A a (cellsOf v) else none
    | _ => none
  | none => fun _ _ _ => none

/-- The capacity behind the first n elements. -/
def capBehind (cap n : Nat) : Nat := Nat.sub cap n

/-- A row whose elements have so many cells. -/
def rowOf (P : Program) (size : Nat) (A : AHeap) (a : Addr) : Option (List Value) :=
  match a.spot with
  | some _ => none
  | none => match A.get a.block with
    | some (.cells vs e) => match sizeAt P e with
      | some n => bif Nat.beq n size && Nat.blt 0 size then some vs else none
      | none => none
    | _ => none

/-- s[l:h], s[l:h:m] of a slice. -/
def asliceOf (P : Program) (size : Nat) (a : Option Addr) (len cap l h : Nat) (m : Option Nat) (A : AHeap) : Option Value :=
  bif !(Nat.ble l h) then none else
  bif !(Nat.ble h (m.getD h)) then none else
  bif Nat.blt cap big then
    bif !(Nat.ble (m.getD h) cap) then none else
    some (.slice (match a with | none => none | some a => some (bif Nat.beq (m.getD cap) l then a else a.add (l * size))) (Nat.sub h l) (Nat.sub (m.getD cap) l))
  else match a with
    | none => none
    | some a => match rowOf P size A a with
      | none => none
      | some vs =>
        -- at least so many elements have room as cells are known
        bif !(Nat.ble (m.getD h) len || Nat.ble (a.off + m.getD h * size) vs.length) then none else
        match m with
        | some m => some (.slice (some (bif Nat.beq m l then a else a.add (l * size))) (Nat.sub h l) (Nat.sub m l))
        | none => some (.slice (some (a.add (l * size))) (Nat.sub h l) (Nat.sub cap l))

def natOf : Value → Option Nat
  | .int _ (.ofNat n) => some n
  | _ => none

/-- A bound that may be left out. -/
def natDef (n : Nat) : Option Value → Option Nat
  | some v => natOf v
  | none => some n

def natMax : Option Value → Option Value → Option (Option Nat)
  | _, none => some none
  | some _, some v => match natOf v with
    | some m => some (some m)
    | none => none
  | none, some _ => none

def aslice (P : Program) (t : TypeId) (x : Value) (lo hi mx : Option Value) (A : AHeap) : Option Value :=
  match P.underlying t with
  | some .string => if flat x then
      (match lo, hi, mx with
      | some l, some h, none => if flat l && flat h then pureFlat P (Instr.slice t x lo hi mx) else none
      | some l, none, none => if flat l then pureFlat P (Instr.slice t x lo hi mx) else none
      | none, some h, none => if flat h then pureFlat P (Instr.slice t x lo hi mx) else none
      | _, _, _ => none) else none
  | some (.slice e) => match sizeAt P e, x with
    | some size, .slice a len cap => match natDef 0 lo, natDef len hi, natMax hi mx with
      | some l, some h, some m => asliceOf P size a len cap l h m A
      | _, _, _ => none
    | _, _ => none
  | some (.array n e) => bif !(Nat.blt n big) then none else match sizeAt P e, x with
    | some size, .pointer (some a) => match natDef 0 lo, natDef n hi, natMax hi mx with
      | some l, some h, some m => asliceOf P size (some a) n n l h m A
      | _, _, _ => none
    | _, _ => none
  | _ => none

def fieldOf (P : Program) (s : TypeId) (f : Nat) : Option Field := match P.underlying s with
  | some (.struct fs) => fs[f]?
  | _ => none

def afieldAddr (P : Program) (s : TypeId) (f : Nat) : Value → Option Value :=
  match fieldOf P s f with
  | some fd => match sizeAt P fd.type with
    | some (_ + 1) => fun x => match x with
      | .pointer (some a) => some (.pointer (some (a.add fd.offset)))
      | _ => none
    | _ => fun _ => none
  | none => fun _ => none

def afield (P : Program) (s : TypeId) (f : Nat) : Value → Option Value :=
  match fieldOf P s f with
  | some fd => let g := apart P fd.type
    fun x => match x with
    | .agg cs => g fd.offset cs.toList
    | _ => none
  | none => fun _ => none

def aindexAddr (P : Program) (t : TypeId) : Value → Value → Option Value :=
  match P.underlying t with
  | some (.array len e) => match sizeAt P e with
    | some size => fun x ix => match x, natOf ix with
      | .pointer (some a), some i => bif Nat.blt i len then some (.pointer (some (a.add (i * size)))) else none
      | _, _ => none
    | none => fun _ _ => none
  | some (.slice e) => match sizeAt P e with
    | some size => fun x ix => match x, natOf ix with
      | .slice (some a) len _, some i => bif Nat.blt i len then some (.pointer (some (a.add (i * size)))) else none
      | _, _ => none
    | none => fun _ _ => none
  | _ => fun _ _ => none

def aindex (P : Program) (t : TypeId) : Value → Value → Option Value :=
  match P.underlying t with
  | some (.array len e) => match sizeAt P e with
    | some size => let g := apart P e
      fun x ix => match x, natOf ix with
      | .agg cs, some i => bif Nat.blt i len then g (i * size) cs.toList else none
      | _, _ => none
    | none => fun _ _ => none
  | some .string => fun x ix => match x, natOf ix with
    | .string s, some i => (nth i s.data.toList).map fun b => .int .u8 b.toNat
    | _, _ => none
  | _ => fun _ _ => none

/-- Nil, held against what isn't. -/
def nilLike : Value → Bool
  | .pointer none | .slice none _ _ | .map none | .nilFunc | .nilIface => true
  | _ => false

def unlike : Value → Bool
  | .pointer (some _) | .slice (some _) _ _ | .map (some _) | .func _ _ _ | .iface _ _ => true
  | _ => false

def sameSort : TypeDesc → Value → Value → Bool
  | .pointer _, .pointer _, .pointer _ => true
  | .slice _, .slice _ _ _, .slice _ _ _ => true
  | .map _ _, .map _, .map _ => true
  | .func _ _ _, .func _ _ _, .nilFunc => true
  | .func _ _ _, .nilFunc, .func _ _ _ => true
  | .interface _, .iface _ _, .nilIface => true
  | .interface _, .nilIface, .iface _ _ => true
  | _, _, _ => false

def abin (P : Program) (op : BinOp) (t : TypeId) (x y : Operand) : Value → Value → Option Value := fun a b =>
  bif flat a && flat b then pureFlat P (do eqGuard op t x y a b; binOp op t a b) else
  bif (nilLike a && unlike b) || (unlike a && nilLike b) then
    match P.underlying t with
    | some d => bif sameSort d a b then (match op with
      | .eql => some (.bool false)
      | .neq => some (.bool true)
      | _ => none) else none
    | none => none
  else none

def zeroOf (P : Program) (t : TypeId) : Option Value := match P.info? t with
  | some i => match i.zero with
    | some z => if flat z then some z else none
    | none => none
  | none => none

def ptr (i : Nat) : Value := .pointer (some ⟨i, 0, none⟩)

def anew (A : AHeap) (o : AObj) : AR := match A.push o with
  | some (i, A) => some (ptr i, A)
  | none => none

def aalloc (P : Program) (e : TypeId) : AHeap → AR := match zeroOf P e with
  | some z => fun A => anew A (.cells (cellsOf z) e)
  | none => fun _ => none

/-- Where the fields lie: place and size. -/
def placesOf (P : Program) : List Field → Option (List (Nat × Nat))
  | [] => some []
  | f :: fs => match sizeAt P f.type with
    | none => none
    | some n => match placesOf P fs with
      | none => none
      | some r => some ((f.offset, n) :: r)

def partsAt (P : Program) (t : TypeId) : Option (Nat → Option (Nat × Nat)) := match P.underlying t with
  | some (.struct fs) => match placesOf P fs.toList with
    | some ps => some fun i => nth i ps
    | none => none
  | some (.array _ e) => match sizeAt P e with
    | some n => some fun i => some (i * n, n)
    | none => none
  | _ => none

/-- The parts laid over the cells. -/
def fillIn (place : Nat → Option (Nat × Nat)) (cells : List Value) : List (Nat × Value) → Option (List Value)
  | [] => some cells
  | (i, v) :: rest => match place i with
    | none => none
    | some (off, size) => bif Nat.beq (cellsOf v).length size && Nat.ble (off + (cellsOf v).length) cells.length then fillIn place (over (cellsOf v) off cells) rest else none

def abuild (P : Program) (t : TypeId) : List (Nat × Value) → Option Value :=
  match zeroOf P t, partsAt P t with
  | some z, some place => fun ps => match fillIn place (cellsOf z) ps with
    | some cs => some (.agg ⟨cs⟩)
    | none => none
  | _, _ => fun _ => none

/-- n times the cells of a zero value. -/
def repl (z : List Value) : Nat → List Value
  | 0 => []
  | n + 1 => z ++ repl z n

def abuildSlice (P : Program) (t : TypeId) (len : Nat) : List (Nat × Value) → AHeap → AR :=
  match P.underlying t with
  | some (.slice e) => match sizeAt P e, zeroOf P e with
    | some size, some z => bif Nat.beq (cellsOf z).length size && Nat.ble (len * size) (2 ^ 24) && Nat.blt 0 size then
        (fun ps A => match fillIn (fun i => some (i * size, size)) (repl (cellsOf z) len) ps with
        | some cs => match A.push (.cells cs e) with
          | some (i, A) => some (.slice (some ⟨i, 0, none⟩) len len, A)
          | none => none
        | none => none)
      else fun _ _ => none
    | _, _ => fun _ _ => none
  | _ => fun _ _ => none

def amakeSlice (P : Program) (t : TypeId) : Value → Value → AHeap → AR :=
  match P.underlying t with
  | some (.slice e) => match P.info? e, zeroOf P e with
    | some i, some z => bif Nat.beq (cellsOf z).length i.size && Nat.blt 0 i.size then
        (fun l c A => match natOf l, natOf c with
        | some l, some c => bif Nat.ble l c && Nat.ble (c * i.bytes) (2 ^ 40) && Nat.ble c (2 ^ 40) then
            (match A.push (.cells (repl (cellsOf z) c) e) with
            | some (i, A) => some (.slice (some ⟨i, 0, none⟩) l c, A)
            | none => none) else none
        | _, _ => none)
      else fun _ _ _ => none
    | _, _ => fun _ _ _ => none
  | _ => fun _ _ _ => none

def amakeMap (A : AHeap) : AR := match A.push (.map [] 0) with
  | some (i, A) => some (.map (some i), A)
  | none => none

/-- The kinds of keys that are looked up at once. -/
def keyKind (P : Program) (k : TypeId) : Option TypeDesc := match P.underlying k with
  | some (.int i) => some (.int i)
  | some .string => some .string
  | some .bool => some .bool
  | _ => none

def mapAt (A : AHeap) (r : Nat) : Option (List MapEntry × Nat) := match A.get r with
  | some (.map es clock) => some (es, clock)
  | _ => none

def alookup (P : Program) (t : TypeId) (ok : Bool) : Value → Value → AHeap → Option Value :=
  match P.underlying t with
  | some (.map k e) => match keyKind P k, zeroOf P e with
    | some kind, some z => fun m key A =>
      match (match m with | .map none => some [] | .map (some r) => (mapAt A r).map (·.1) | _ => none) with
      | some es => bif flat key then (match Instr.findNow kind key es 0 with
        | some (some (_, v)) => some (bif ok then .tuple #[v, .bool true] else v)
        | some none => some (bif ok then .tuple #[z, .bool false] else z)
        | none => none) else none
      | none => none
    | _, _ => fun _ _ _ => none
  | _ => fun _ _ _ => none

def setAt {α : Type} (f : α → α) : Nat → List α → List α
  | _, [] => []
  | 0, x :: l => f x :: l
  | i + 1, x :: l => x :: setAt f i l

def amapUpdate (P : Program) (t : TypeId) : Value → Value → Value → AHeap → Option AHeap :=
  match P.underlying t with
  | some (.map k _) => match keyKind P k with
    | some kind => fun m key v A => match m with
      | .map (some r) => match mapAt A r with
        | some (es, clock) => bif flat key then (match Instr.findNow kind key es 0 with
          | some (some (i, _)) => some (A.put r (some (.map (setAt (fun e => { e with key, val := v }) i es) clock)))
          | some none => some (A.put r (some (.map (es ++ [{ key, val := v, born := clock }]) (clock + 1))))
          | none => none) else none
        | none => none
      | _ => none
    | none => fun _ _ _ _ => none
  | _ => fun _ _ _ _ => none

def adelete (P : Program) (t : TypeId) : Value → Value → AHeap → Option AHeap :=
  match P.underlying t with
  | some (.map k _) => match keyKind P k with
    | some kind => fun m key A => match m with
      | .map none => bif flat key then some A else none
      | .map (some r) => match mapAt A r with
        | some (es, clock) => bif flat key then (match Instr.findNow kind key es 0 with
          | some (some (i, _)) => some (A.put r (some (.map (es.eraseIdx i) clock)))
          | some none => some A
          | none => none) else none
        | none => none
      | _ => none
    | none => fun _ _ _ => none
  | _ => fun _ _ _ => none

def amapEntry (P : Program) (t : TypeId) : Value → Value → AHeap → AR :=
  match P.underlying t with
  | some (.map k e) => match keyKind P k, zeroOf P e with
    | some kind, some z => fun m key A => match m with
      | .map (some r) => match mapAt A r with
        | some (es, clock) => bif flat key then (match Instr.findNow kind key es 0 with
          | some (some (i, v)) => match nth i es with
            | some en => some (.tuple #[v, goInt en.born], A.put r (some (.map (setAt (fun e => { e with key }) i es) clock)))
            | none => none
          | some none => some (.tuple #[z, goInt clock], A.put r (some (.map (es ++ [{ key, val := z, born := clock }]) (clock + 1))))
          | none => none) else none
        | none => none
      | _ => none
    | _, _ => fun _ _ _ => none
  | _ => fun _ _ _ => none

def aentryStore : Value → Value → Value → AHeap → Option AHeap := fun m stamp v A => match m, natOf stamp with
  | .map (some r), some b => match mapAt A r with
    | some (es, clock) => match es.findIdx? (fun e => Nat.beq e.born b) with
      | some i => some (A.put r (some (.map (setAt (fun e => { e with val := v }) i es) clock)))
      | none => none
    | none => none
  | _, _ => none

def arange (x : Value) (A : AHeap) : AR := match x with
  | .string s => anew A (.siter s 0)
  | _ => none

def arangeMap (x : Value) (A : AHeap) : AR := match x with
  | .map none => anew A .mnil
  | .map (some m) => match mapAt A m with
    | some (_, clock) => anew A (.miter m clock [] clock)
    | none => none
  | _ => none

/-- The object behind an iterator. -/
def iterAt (it : Value) (A : AHeap) : Option (Nat × AObj) := match it with
  | .pointer (some a) => bif Nat.beq a.off 0 && a.spot.isNone then (match A.get a.block with
    | some o => some (a.block, o)
    | none => none) else none
  | _ => none

/-- A step over a map: where there is but one way to go on. -/
def anext (isString : Bool) (it : Value) (A : AHeap) : AR := match iterAt it A, isString with
  | some (b, .siter s pos), true => bif Nat.blt pos s.size then
        (match Utf8.decode s pos with
        | (c, width) => some (.tuple #[.bool true, goInt pos, .int .i32 c], A.put b (some (.siter s (pos + width)))))
      else some (.tuple #[.bool false], A)
  | some (_, .mnil), false => some (.tuple #[.bool false], A)
  | some (b, .miter m since seen last), false => match mapAt A m with
    | some (es, clock) => bif !seen.isEmpty && !es.isEmpty && es.all (fun e => Nat.ble last e.born) then none else
      match es.filter fun e => !seen.contains e.born with
      | [] => some (.tuple #[.bool false], A)
      | [e] => bif Nat.blt e.born since then some (.tuple #[.bool true, e.key, e.val], A.put b (some (.miter m since (seen ++ [e.born]) clock))) else none
      | _ => none
    | none => none
  | _, _ => none

def aentry (it : Value) (A : AHeap) : Option Value := match iterAt it A with
  | some (_, .miter m _ seen stepped) => match seen.getLast?, mapAt A m with
    | some stamp, some (es, clock) => bif Nat.beq clock stepped then (match es.find? fun e => Nat.beq e.born stamp with
      | some e => some (.tuple #[e.key, e.val])
      | none => none) else none
    | _, _ => none
  | _ => none

def isIface (P : Program) (t : TypeId) : Bool := match P.underlying t with
  | some (.interface _) => true
  | some _ => false
  | none => true

def atypeAssert (P : Program) (t : TypeId) (ok : Bool) : Value → Option Value :=
  bif isIface P t then fun _ => none else
  match ok, zeroOf P t with
  | true, some z => fun x => match x with
    | .iface u v => if u = t then some (.tuple #[v, .bool true]) else some (.tuple #[z, .bool false])
    | .nilIface => some (.tuple #[z, .bool false])
    | _ => none
  | false, _ => fun x => match x with
    | .iface u v => if u = t then some v else none
    | _ => none
  | _, _ => fun _ => none

def aextract (i : Nat) : Value → Option Value
  | .tuple vs => nth i vs.toList
  | _ => none

/-- The cells of what is appended or copied. -/
def srcCells (size n : Nat) (x : Value) (A : AHeap) : Option (List Value) := match x with
  | .slice (some a) len _ => bif Nat.ble n len then (match cellsAt A a with | some vs => span a.off (n * size) vs | none => none) else none
  | .slice none _ _ => bif Nat.beq n 0 then some [] else none
  | .string s => bif Nat.beq size 1 && Nat.ble n s.size then some ((s.data.toList.take n).map fun b => .int .u8 b.toNat) else none
  | _ => none

/-- The elements' type of a row. -/
def elemIs (A : AHeap) (a : Addr) (e : TypeId) : Bool := match A.get a.block with
  | some (.cells _ e') => Nat.beq e' e
  | _ => false

def lenAt : Value → Option Nat
  | .slice _ n _ => some n
  | .string s => some s.size
  | _ => none

/-- append(s, x...): in place where there surely is room; else a block of its own, and s is no more. -/
def aappendOf (P : Program) (size bytes : Nat) (e : TypeId) (base : Option Addr) (sLen sCap n : Nat) (new : List Value) (A : AHeap) : AR :=
  let need := sLen + n
  bif !(Nat.ble (need * bytes) (2 ^ 40) && Nat.ble need (2 ^ 40)) then none else
  bif Nat.blt sCap big then
    bif Nat.ble need sCap then
      match base with
      | none => some (.slice none need sCap, A)
      | some a => match awrite A (a.add (sLen * size)) new with
        | some A => some (.slice base need sCap, A)
        | none => none
    else match srcCells size sLen (.slice base sLen sCap) A with
      | some old => match A.push (.cells (old ++ new) e) with
        | some (i, A) => some (.slice (some ⟨i, 0, none⟩) need (2 * big), A)
        | none => none
      | none => none
  else match base with
    | none => none
    | some a => match rowOf P size A a with
      | none => none
      | some vs =>
        bif Nat.ble (a.off + need * size) vs.length then
          (match awrite A (a.add (sLen * size)) new with
          | some A => some (.slice base need sCap, A)
          | none => none)
        else match span a.off (sLen * size) vs with
          | some old => bif new.all oneCell && Nat.blt 0 need && elemIs A a e then
              (match (A.put a.block none).push (.cells (old ++ new) e) with
              | some (i, A) => some (.slice (some ⟨i, 0, none⟩) need (2 * big), A)
              | none => none) else none
          | none => none

def aappend (P : Program) (sType : TypeId) (zeros : Bool) : Value → Value → AHeap → AR :=
  match P.underlying sType with
  | some (.slice e) => match P.info? e, zeroOf P e with
    | some i, some z => bif Nat.beq (cellsOf z).length i.size && Nat.blt 0 i.size && Nat.blt 0 i.bytes then
      (fun s x A => match s with
        | .slice base sLen sCap => bif zeros then
            (match natOf x with
            | some n => bif Nat.ble n (2 ^ 40) then aappendOf P i.size i.bytes e base sLen sCap n (repl (cellsOf z) n) A else none
            | none => none)
          else (match lenAt x with
            | some n => match srcCells i.size n x A with
              | some new => aappendOf P i.size i.bytes e base sLen sCap n new A
              | none => none
            | none => none)
        | _ => none)
      else fun _ _ _ => none
    | _, _ => fun _ _ _ => none
  | _ => fun _ _ _ => none

def acopy (P : Program) (dType : TypeId) : Value → Value → AHeap → AR :=
  match P.underlying dType with
  | some (.slice e) => match sizeAt P e with
    | some size => fun d x A => match d, lenAt x with
      | .slice base dLen _, some m =>
        match srcCells size (Nat.min m dLen) x A with
        | some cs => match base with
          | none => bif cs.isEmpty then some (goInt (Nat.min m dLen), A) else none
          | some a => bif cs.isEmpty then some (goInt (Nat.min m dLen), A) else (match awrite A a cs with
            | some A => some (goInt (Nat.min m dLen), A)
            | none => none)
        | none => none
      | _, _ => none
    | none => fun _ _ _ => none
  | _ => fun _ _ _ => none

def aclear (P : Program) (t : TypeId) : Value → AHeap → Option AHeap :=
  match P.underlying t with
  | some (.slice e) => match zeroOf P e with
    | some z => fun x A => match x with
      | .slice _ 0 _ => some A
      | .slice (some a) n _ => awrite A a (repl (cellsOf z) n)
      | _ => none
    | none => fun _ _ => none
  | _ => fun _ _ => none

def alen (P : Program) (t : TypeId) : Value → AHeap → Option Value :=
  match P.underlying t with
  | some .string => fun x _ => match x with
    | .string s => some (goInt s.size)
    | _ => none
  | some (.array n _) => fun _ _ => some (goInt n)
  | some (.slice _) => fun x _ => match x with
    | .slice _ n _ => some (goInt n)
    | _ => none
  | some (.map _ _) => fun x A => match x with
    | .map none => some (goInt 0)
    | .map (some r) => (mapAt A r).map fun (es, _) => goInt es.length
    | _ => none
  | _ => fun _ _ => none

/-- A capacity, where it is known. -/
def acap (P : Program) (t : TypeId) : Value → Option Value :=
  match P.underlying t with
  | some (.slice _) => fun x => match x with
    | .slice _ _ c => bif Nat.blt c big then some (goInt c) else none
    | _ => none
  | _ => fun _ => none

def bytesOf : List Value → Option (List UInt8)
  | [] => some []
  | .int .u8 n :: l => match bytesOf l with
    | some r => some (UInt8.ofNat n.toNat :: r)
    | none => none
  | _ :: _ => none

/-- A string's bytes in a row of their own. -/
def astrBytes (P : Program) (e : TypeId) (x : Value) (A : AHeap) : AR := match x, sizeAt P e with
  | .string s, some 1 => bif Nat.blt 0 s.size && Nat.ble s.size (2 ^ 40) then
      (match A.push (.cells (s.data.toList.map fun b => .int .u8 b.toNat) e) with
      | some (i, A) => some (.slice (some ⟨i, 0, none⟩) s.size (2 * big), A)
      | none => none) else none
  | _, _ => none

/-- A row's bytes as a string. -/
def abytesStr (x : Value) (A : AHeap) : Option Value := match x with
  | .slice none _ _ => some (.string .empty)
  | .slice (some a) len _ => match cellsAt A a with
    | some vs => match span a.off len vs with
      | some cs => match bytesOf cs with
        | some bs => some (.string ⟨bs.toArray⟩)
        | none => none
      | none => none
    | none => none
  | _ => none

/-! ### Quicker readings -/

def lim : IntKind → Nat
  | .i8 | .u8 => 128
  | .i16 | .u16 => 32768
  | .i32 | .u32 => 2147483648
  | _ => 9223372036854775808

def fbin (P : Program) (op : BinOp) (t : TypeId) (x y : Operand) (a b : Value) : Option Value := match a, b with
  | .int k (.ofNat m), .int k' (.ofNat n) => match op with
    | .shr => bif Nat.blt n 64 && Nat.blt n k.bits then some (.int k (.ofNat (Nat.shiftRight m n))) else abin P op t x y a b
    | .lss => bif k == k' then some (.bool (Nat.blt m n)) else none
    | .leq => bif k == k' then some (.bool (Nat.ble m n)) else none
    | .gtr => bif k == k' then some (.bool (Nat.blt n m)) else none
    | .geq => bif k == k' then some (.bool (Nat.ble n m)) else none
    | .eql => bif k == k' then some (.bool (Nat.beq m n)) else none
    | .neq => bif k == k' then some (.bool (!Nat.beq m n)) else none
    | .add => bif k == k' && Nat.blt (Nat.add m n) (lim k) then some (.int k (.ofNat (Nat.add m n))) else abin P op t x y a b
    | .sub => bif k == k' && Nat.ble n m && Nat.blt m (lim k) then some (.int k (.ofNat (Nat.sub m n))) else abin P op t x y a b
    | .mul => bif k == k' && Nat.blt (Nat.mul m n) (lim k) then some (.int k (.ofNat (Nat.mul m n))) else abin P op t x y a b
    | _ => abin P op t x y a b
  | _, _ => abin P op t x y a b

/-- What is behind the first k. -/
def dropTo {α : Type} (k : Nat) : List α → Option (List α) :=
  Nat.rec (motive := fun _ => List α → Option (List α)) (fun l => some l)
    (fun _ ih l => List.casesOn (motive := fun _ => Option (List α)) l none (fun _ r => ih r)) k

def joinTo {α : Type} (l m : List α) : List α := match l with
  | [] => m
  | a :: r => a :: joinTo r m

def overHead {α : Type} : List α → List α → List α
  | [], l => l
  | v :: vs, l => match l with
    | [] => []
    | _ :: r => v :: overHead vs r

def overAt {α : Type} (vs : List α) (i : Nat) : List α → List α :=
  Nat.rec (motive := fun _ => List α → List α) (fun l => overHead vs l) (fun _ ih l => List.casesOn (motive := fun _ => List α) l [] (fun x r => x :: ih r)) i

def fwrite (A : AHeap) (a : Addr) (vs : List Value) : Option AHeap :=
  match a.spot with
  | some _ => none
  | none => match A.get a.block with
    | some (.cells cs e) => match dropTo (a.off + vs.length) cs with
      | some _ => bif vs.all oneCell then some (A.put a.block (some (.cells (overAt vs a.off cs) e))) else none
      | none => none
    | _ => none

def fstore (P : Program) (t : TypeId) : Value → Value → AHeap → Option AHeap :=
  match sizeAt P t with
  | some n => fun p v A => match p with
    | .pointer (some a) => bif Nat.beq (cellsOf v).length n then fwrite A a (cellsOf v) else none
    | _ => none
  | none => fun _ _ _ => none

def fappendOf (P : Program) (size bytes : Nat) (e : TypeId) (base : Option Addr) (sLen sCap n : Nat) (new : List Value) (A : AHeap) : AR :=
  bif Nat.blt sCap big then
    bif Nat.ble ((sLen + n) * bytes) (2 ^ 40) && Nat.ble (sLen + n) (2 ^ 40) then
      (bif Nat.ble (sLen + n) sCap then
        match base with
        | none => some (.slice none (sLen + n) sCap, A)
        | some a => match fwrite A (a.add (sLen * size)) new with
          | some A => some (.slice base (sLen + n) sCap, A)
          | none => none
      else match srcCells size sLen (.slice base sLen sCap) A with
        | some old => match A.pushRow (revTo new (revTo old [])) (((0 + old.length)) + new.length) e (by rw [revTo_length, revTo_length]; rfl) with
          | some (i, A) => some (.slice (some ⟨i, 0, none⟩) (sLen + n) (2 * big), A)
          | none => none
        | none => none) else none
  else match base with
  | none => none
  | some a => match A.raw a.block with
    | some (.grown rev k e' h) =>
      bif a.spot.isNone && Nat.beq a.off 0 && Nat.blt 0 n && Nat.beq k (sLen * size) && Nat.beq e' e && Nat.ble ((sLen + n) * bytes) (2 ^ 40) && Nat.ble (sLen + n) (2 ^ 40) && new.all oneCell then
        (match (A.put a.block none).pushRow (revTo new rev) (k + new.length) e (by rw [revTo_length, h]) with
        | some (i, A) => some (.slice (some ⟨i, 0, none⟩) (sLen + n) (2 * big), A)
        | none => none)
      else aappendOf P size bytes e base sLen sCap n new A
    | _ => aappendOf P size bytes e base sLen sCap n new A

def fappend (P : Program) (sType : TypeId) (zeros : Bool) : Value → Value → AHeap → AR :=
  match P.underlying sType with
  | some (.slice e) => match P.info? e, zeroOf P e with
    | some i, some z => bif Nat.beq (cellsOf z).length i.size && Nat.blt 0 i.size && Nat.blt 0 i.bytes then
      (fun s x A => match s with
        | .slice base sLen sCap => bif zeros then
            (match natOf x with
            | some n => bif Nat.ble n (2 ^ 40) then fappendOf P i.size i.bytes e base sLen sCap n (repl (cellsOf z) n) A else none
            | none => none)
          else (match lenAt x with
            | some n => match srcCells i.size n x A with
              | some new => fappendOf P i.size i.bytes e base sLen sCap n new A
              | none => none
            | none => none)
        | _ => none)
      else fun _ _ _ => none
    | _, _ => fun _ _ _ => none
  | _ => fun _ _ _ => none

/-! ### One operation -/

def isUndef : Value → Bool
  | .tuple vs => vs.isEmpty
  | _ => false

/-- How deep the tree of N temporaries is. -/
def dt (N : Nat) : Nat := bif Nat.ble N 16 then 4 else bif Nat.ble N 64 then 6 else 8

def aeval (N : Nat) : Operand → Env → Option Value
  | .tmp t => bif Nat.ble N t then fun _ => none else (let g := Tr.get (dt N) t; fun env => some (g env))
  | .const v => bif flat v then fun _ => some v else fun _ => none
  | .global _ => fun _ => none
  | .func f => fun _ => some (.func (.func f) #[] #[])

/-- Operands in a row. -/
def aevals (N : Nat) : List Operand → Env → Option (List Value)
  | [] => fun _ => some []
  | x :: xs => let f := aeval N x; let g := aevals N xs
    fun env => match f env with
    | some v => match g env with
      | some vs => some (v :: vs)
      | none => none
    | none => none

def with1 (N : Nat) (x : Operand) (f : Value → AHeap → AR) : Env → AHeap → AR :=
  let g := aeval N x
  fun env A => match g env with
  | some v => f v A
  | none => none

def with2 (N : Nat) (x y : Operand) (f : Value → Value → AHeap → AR) : Env → AHeap → AR :=
  let g := aeval N x; let h := aeval N y
  fun env A => match g env with
  | some v => match h env with
    | some u => f v u A
    | none => none
  | none => none

def with3 (N : Nat) (x y z : Operand) (f : Value → Value → Value → AHeap → AR) : Env → AHeap → AR :=
  let g := aeval N x; let h := aeval N y; let k := aeval N z
  fun env A => match g env with
  | some v => match h env with
    | some u => match k env with
      | some w => f v u w A
      | none => none
    | none => none
  | none => none

def only (v : Option Value) (A : AHeap) : AR := match v with
  | some v => some (v, A)
  | none => none

def undefR (A : Option AHeap) : AR := match A with
  | some A => some (.tuple #[], A)
  | none => none

/-- append(s, make([]T, n)...): the second argument is a number. -/
def zerosOf (P : Program) : List TypeId → Option Bool
  | [] => some false
  | t :: _ => match P.underlying t with
    | some (.int _) => some true
    | some (.slice _) | some .string => some false
    | _ => none

/-- What an operation may do to the heap: nothing, and it doesn't look; it looks; it lays a new block; anything. -/
inductive Sort4 where
  | pure | reads | lays | acts
  deriving DecidableEq

def aopt (N : Nat) (x : Option Operand) : Env → Option (Option Value) := match x with
  | none => fun _ => some none
  | some x => let g := aeval N x
    fun env => match g env with
    | some v => some (some v)
    | none => none

/-- The operations but for calls of functions. -/
def aop (P : Program) (N : Nat) : Op → TypeId → Option (Sort4 × (Env → AHeap → AR))
  | .move x, _ | .assign x, _ => some (.pure, with1 N x fun v A => some (v, A))
  | .pick c a b, _ => some (.pure, with3 N c a b fun c a b A => match c with
    | .bool t => some (bif t then a else b, A)
    | _ => none)
  | .alloc e, _ => some (.lays, let g := aalloc P e; fun _ A => g A)
  | .box e x, _ => some (.lays, with1 N x fun v A => anew A (.cells (cellsOf v) e))
  | .build t ps, _ => some (.pure, let g := abuild P t; let is := ps.toList.map (·.1); let xs := aevals N (ps.toList.map (·.2))
    fun env A => match xs env with
    | some vs => only (g (is.zip vs)) A
    | none => none)
  | .buildSlice t len ps, _ => some (.lays, let g := abuildSlice P t len; let is := ps.toList.map (·.1); let xs := aevals N (ps.toList.map (·.2))
    fun env A => match xs env with
    | some vs => g (is.zip vs) A
    | none => none)
  | .load t a, _ => some (.reads, let g := aload P t; with1 N a fun v A => only (g v A) A)
  | .store t a x, _ => some (.acts, let g := fstore P t; with2 N a x fun p v A => undefR (g p v A))
  | .nilCheck x, _ => some (.pure, with1 N x fun v A => match v with
    | .pointer (some a) => some (.pointer (some a), A)
    | .func (.func f) a c => some (.func (.func f) a c, A)
    | .func (.yield f) a c => some (.func (.yield f) a c, A)
    | .iface t v => some (.iface t v, A)
    | _ => none)
  | .binOp op t x y _, _ => some (.pure, let g := fbin P op t x y; with2 N x y fun a b A => only (g a b) A)
  | .unOp op _ x, _ => some (.pure, with1 N x fun v A => bif flat v then only (pureFlat P (Op.unary op v)) A else none)
  | .convert s d x, _ => match P.underlying s, P.underlying d with
    | some (.slice e), some .string => (match P.underlying e with
      | some (.int .u8) => some (.reads, with1 N x fun v A => only (abytesStr v A) A)
      | _ => none)
    | some .string, some (.slice e) => (match P.underlying e with
      | some (.int .u8) => some (.lays, with1 N x (astrBytes P e))
      | _ => none)
    | _, _ => some (.pure, with1 N x fun v A => bif flat v then only (pureFlat P (convert s d v)) A else none)
  | .sliceToArrayPointer arr x, _ => match P.underlying arr with
    | some (.array n _) => some (.pure, with1 N x fun v A => match v with
      | .slice (some a) len _ => bif Nat.ble n len && Nat.blt 0 n then some (.pointer (some a), A) else none
      | _ => none)
    | _ => none
  | .makeInterface t x, _ => bif isIface P t then none else some (.pure, with1 N x fun v A => some (.iface t v, A))
  | .makeFunc fn f c, _ => some (.pure, let fs := aevals N f.toList; let cs := aevals N c.toList
    match fn with
    | .func _ => fun env A => match fs env with
      | some fs => match cs env with
        | some cs => some (.func fn ⟨fs⟩ ⟨cs⟩, A)
        | none => none
      | none => none
    | _ => fun _ _ => none)
  | .makeMap _ none, _ => some (.lays, fun _ A => amakeMap A)
  | .makeSlice t l c, _ => some (.lays, let g := amakeSlice P t; with2 N l c g)
  | .slice t x lo hi mx, _ => some (.reads, let x := aeval N x; let lo := aopt N lo; let hi := aopt N hi; let mx := aopt N mx
    fun env A => match x env with
    | some x => match lo env, hi env, mx env with
      | some lo, some hi, some mx => only (aslice P t x lo hi mx A) A
      | _, _, _ => none
    | none => none)
  | .fieldAddr s x f, _ => some (.pure, let g := afieldAddr P s f; with1 N x fun v A => only (g v) A)
  | .field s x f, _ => some (.pure, let g := afield P s f; with1 N x fun v A => only (g v) A)
  | .indexAddr t x i, _ => some (.pure, let g := aindexAddr P t; with2 N x i fun v i A => only (g v i) A)
  | .index t x i, _ => some (.pure, let g := aindex P t; with2 N x i fun v i A => only (g v i) A)
  | .lookup t x i ok, _ => some (.reads, let g := alookup P t ok; with2 N x i fun v i A => only (g v i A) A)
  | .mapUpdate t m k x, _ | .insert t m k x, _ => some (.acts, let g := amapUpdate P t; with3 N m k x fun m k v A => undefR (g m k v A))
  | .mapEntry t m k, _ => some (.acts, let g := amapEntry P t; with2 N m k g)
  | .entryStore _ m s x, _ => some (.acts, with3 N m s x fun m s v A => undefR (aentryStore m s v A))
  | .range t x, _ => match P.underlying t with
    | some .string => some (.lays, with1 N x arange)
    | some (.map _ _) => some (.acts, with1 N x arangeMap)
    | _ => none
  | .entry x, _ => some (.reads, with1 N x fun v A => only (aentry v A) A)
  | .next it s, _ => some (.acts, with1 N it fun v A => anext s v A)
  | .typeAssert x _ t ok, _ => some (.pure, let g := atypeAssert P t ok; with1 N x fun v A => only (g v) A)
  | .extract x i, _ => some (.pure, let g := aextract i; with1 N x fun v A => only (g v) A)
  | .call { callee := .builtin b, args, argTypes }, _ => match b, args.toList, argTypes.toList with
    | .append, [s, x], t :: rest => match zerosOf P rest with
      | some z => some (.acts, let g := fappend P t z; with2 N s x g)
      | none => none
    | .copy, [d, x], t :: _ => some (.acts, let g := acopy P t; with2 N d x g)
    | .delete, [m, k], t :: _ => some (.acts, let g := adelete P t; with2 N m k fun m k A => undefR (g m k A))
    | .clear, [x], t :: _ => some (.acts, let g := aclear P t; with1 N x fun v A => undefR (g v A))
    | .len, [x], t :: _ => some (.reads, let g := alen P t; with1 N x fun v A => only (g v A) A)
    | .cap, [x], t :: _ => some (.pure, let g := acap P t; with1 N x fun v A => only (g v) A)
    | .min, xs, _ => some (.pure, let g := aevals N xs; fun env A => match g env with
      | some vs => bif flats vs then only (pureFlat P (Builtin.min_ #[] 0 ⟨vs⟩)) A else none
      | none => none)
    | .max, xs, _ => some (.pure, let g := aevals N xs; fun env A => match g env with
      | some vs => bif flats vs then only (pureFlat P (Builtin.max_ #[] 0 ⟨vs⟩)) A else none
      | none => none)
    | _, _, _ => none
  | _, _ => none

/-! ### Code -/

structure Ctx where
  call : FuncId → List Value → AHeap → AR
  round : Nat → List Value → AHeap → AR
  rounds : Nat
  fn : FuncId
  around : Option Nat

/-- How a piece of code is left, with what in the temporaries, over which heap. -/
inductive AEx where
  | normal | exit (id : Nat) | ret

abbrev Res := Option (AEx × Env × AHeap)

/-- A call of a function value. -/
def acallVal (c : Ctx) (f : Value) (args : List Value) (A : AHeap) : AR := match f with
  | .func (.func f) first captured => c.call f (first.toList ++ args ++ captured.toList) A
  | .func (.yield l) first _ => c.round l (first.toList ++ args) A
  | _ => none

def acallOp (N : Nat) (x : Operand) (args : List Operand) : Ctx → Env → AHeap → AR :=
  let f := aeval N x; let xs := aevals N args
  fun c env A => match f env with
  | some f => match xs env with
    | some vs => acallVal c f vs A
    | none => none
  | none => none

def aoper (P : Program) (N : Nat) (o : Oper) : Option (Sort4 × (Ctx → Env → AHeap → AR)) := match o.op with
  | .call { callee := .value x, args, .. } => some (.acts, acallOp N x args.toList)
  | op => match aop P N op o.type with
    | some (s, f) => some (s, fun _ => f)
    | none => none

def putDst (N : Nat) (dst : Option Tmp) : Value → Env → Option Env := match dst with
  | none => fun _ env => some env
  | some t => bif Nat.ble N t then fun _ _ => none else (let g := Tr.set (dt N) t; fun v env => some (g v env))

/-- Is an operation wanted? -/
def aguard (N : Nat) (ops : List Oper) (o : Oper) : Option (Env → Bool) := match o.guard with
  | none => some fun _ => true
  | some (j, want) => match nth j ops with
    | some p => match p.dst with
      | some t => bif Nat.ble N t then none else some (let g := Tr.get (dt N) t; fun env => match g env with
        | .bool b => b == want
        | _ => false)
      | none => none
    | none => none

abbrev Step := Ctx → Env → AHeap → Option (Env × AHeap)

def aguarded (g : Env → Bool) (f : Ctx → Env → AHeap → AR) (put : Value → Env → Option Env) : Step :=
  fun c env A => bif g env then
    (match f c env A with
    | some (v, A) => match put v env with
      | some env => some (env, A)
      | none => none
    | none => none)
  else match put (.tuple #[]) env with
    | some env => some (env, A)
    | none => none

def astep (P : Program) (N : Nat) (ops : List Oper) (o : Oper) : Option Step :=
  match aguard N ops o, aoper P N o with
  | some g, some (_, f) => some (aguarded g f (putDst N o.dst))
  | _, _ => none

/-- The operations in their order. -/
def aseq (P : Program) (N : Nat) (ops : List Oper) : List Oper → Step
  | [] => fun _ env A => some (env, A)
  | o :: rest => match astep P N ops o with
    | none => fun _ _ _ => none
    | some f => let g := aseq P N ops rest
      fun c env A => match f c env A with
      | some (env, A) => g c env A
      | none => none

/-! ### A region whose order is open -/

/-- What must have gone ahead of an operation: numbers as bits. -/
def bitsOf (acc : List Nat) (o : Oper) : Nat := o.after.toList.foldl (init := 0) fun s e => bif Region.binds .any e then s ||| 2 ^ e.on ||| (nth e.on acc).getD 0 else s

def befores (ops : List Oper) : List Nat := ops.foldl (init := []) fun acc o => acc ++ [bitsOf acc o]

def tmpsOf (xs : List Operand) : List Tmp := xs.filterMap fun | .tmp t => some t | _ => none

structure DOp where
  i : Nat
  dst : Option Tmp
  reads : List Tmp
  before : Nat
  sort : Sort4
  guard : Env → Bool
  run : Ctx → Env → AHeap → AR
  put : Value → Env → Option Env

def dop (P : Program) (N : Nat) (ops : List Oper) (bs : List Nat) (i : Nat) (o : Oper) : Option DOp :=
  match aguard N ops o, aoper P N o, nth i bs with
  | some g, some (s, f), some b => some { i, dst := o.dst, reads := tmpsOf o.op.operands.toList ++ (match o.guard with | some (j, _) => ((nth j ops).bind (·.dst)).toList | none => []), before := b, sort := s, guard := g, run := f, put := putDst N o.dst }
  | _, _, _ => none

def dops (P : Program) (N : Nat) (ops : List Oper) (bs : List Nat) : Nat → List Oper → Option (List DOp)
  | _, [] => some []
  | i, o :: rest => match dop P N ops bs i o with
    | none => none
    | some d => match dops P N ops bs (i + 1) rest with
      | none => none
      | some ds => some (d :: ds)

def DOp.acts (d : DOp) : Bool := match d.sort with
  | .acts => true
  | _ => false

/-- Who reads what another one writes stands in a fixed order to it; nobody else writes it. -/
def tidy (ds : List DOp) : Bool :=
  ds.all fun w => match w.dst with
    | none => true
    | some t => ds.all fun r => Nat.beq r.i w.i || (!(r.dst == some t) && (!r.reads.contains t || r.before.testBit w.i || w.before.testBit r.i))

/-- Nobody comes ahead of what must have gone ahead of him. -/
def ordered : List DOp → Bool
  | [] => true
  | x :: l => (l.all fun y => !Nat.beq x.i y.i && !x.before.testBit y.i) && ordered l

/-- Everybody comes after the last effect ahead of him, in whatever order. -/
def eager (last : Option Nat) : List DOp → Bool
  | [] => true
  | x :: l => (match last with | none => true | some j => x.before.testBit j) && eager (bif x.acts then some x.i else last) l

def covers (n : Nat) (ds : List DOp) : Bool := (List.range n).all fun i => ds.any fun x => Nat.beq x.i i

/-- How many effects have surely gone ahead. -/
def stage (es : List DOp) (d : DOp) : Nat := (es.filter fun e => d.before.testBit e.i).length

def stages (ds es : List DOp) : Nat → List (List DOp)
  | 0 => []
  | n + 1 => stages ds es n ++ [ds.filter fun d => !d.acts && Nat.beq (stage es d) n]

/-- The operations as they come. -/
def joined : List (DOp × List DOp) → List DOp
  | [] => []
  | (e, ds) :: rest => e :: (ds ++ joined rest)

/-- What came of an operation. -/
structure DRec where
  d : DOp
  env : Env
  heap : AHeap
  val : Value
  after : AHeap
  wanted : Bool

def drun (c : Ctx) (d : DOp) (env : Env) (A : AHeap) : Option (DRec × Env × AHeap) :=
  bif d.guard env then
    (match d.run c env A with
    | some (v, A') => match d.put v env with
      | some env' => some ({ d, env, heap := A, val := v, after := A', wanted := true }, env', A')
      | none => none
    | none => none)
  else match d.put (.tuple #[]) env with
    | some env' => some ({ d, env, heap := A, val := .tuple #[], after := A, wanted := false }, env', A)
    | none => none

def druns (c : Ctx) : List DOp → Env → AHeap → Option (List DRec × Env × AHeap)
  | [], env, A => some ([], env, A)
  | d :: ds, env, A => match drun c d env A with
    | none => none
    | some (r, env, A) => match druns c ds env A with
      | none => none
      | some (rs, env, A) => some (r :: rs, env, A)

mutual
def veq : Value → Value → Bool
  | .bool a, .bool b => a == b
  | .int j a, .int k b => j == k && a == b
  | .string a, .string b => a.data.toList == b.data.toList
  | .pointer none, .pointer none => true
  | .pointer (some a), .pointer (some b) => a == b
  | .slice none m c, .slice none n d => m == n && c == d
  | .slice (some a) m c, .slice (some b) n d => a == b && m == n && c == d
  | .map a, .map b => a == b
  | .func f a c, .func g b d => f == g && veqs a.toList b.toList && veqs c.toList d.toList
  | .nilFunc, .nilFunc => true
  | .iface t a, .iface u b => t == u && veq a b
  | .nilIface, .nilIface => true
  | .agg a, .agg b => veqs a.toList b.toList
  | .tuple a, .tuple b => veqs a.toList b.toList
  | _, _ => false
def veqs : List Value → List Value → Bool
  | [], [] => true
  | a :: l, b :: m => veq a b && veqs l m
  | _, _ => false
end

def oeq : AObj → AObj → Bool
  | .cells a e, .cells b f => veqs a b && e == f
  | .map [] m, .map [] n => m == n
  | .siter a m, .siter b n => a.data.toList == b.data.toList && m == n
  | _, _ => false

/-- An operation that may be carried out elsewhere gives the same there. -/
def still (c : Ctx) (r : DRec) (A : AHeap) : Bool :=
  !r.wanted || (match r.d.sort with
  | .pure => true
  | .reads => (match r.d.run c r.env A with
    | some (v, _) => veq v r.val
    | none => false)
  | .lays => (match A.get r.heap.next, r.after.get r.heap.next with
    | some o, some p => oeq o p
    | _, _ => false)
  | .acts => false)

/-- All that was done ahead of the effects; the heaps ahead of each. -/
def dstages (c : Ctx) : List (DOp × List DOp) → Nat → List DRec → Env → AHeap → Option (Env × AHeap)
  | [], prev, rs, env, A => bif rs.all fun r => prev.testBit r.d.i || still c r A then some (env, A) else none
  | (e, ds) :: rest, prev, rs, env, A => let rs := rs.filter fun r => !prev.testBit r.d.i
    bif rs.all fun r => still c r A then
      (match drun c e env A with
      | none => none
      | some (_, env, A) => match druns c ds env A with
        | none => none
        | some (more, env, A) => dstages c rest e.before (rs ++ more) env A)
    else none

def edged (ops : List Oper) : Bool := ops.zipIdx.all fun (o, i) => o.after.toList.all fun e => !Region.binds .any e || Nat.blt e.on i

def adraw (P : Program) (N : Nat) (ops : List Oper) : Step :=
  match dops P N ops (befores ops) 0 ops with
  | none => fun _ _ _ => none
  | some ds => let es := ds.filter DOp.acts
    match stages ds es (es.length + 1) with
    | [] => fun _ _ _ => none
    | s0 :: rest => let zs := es.zip rest
      let can := s0 ++ joined zs
      bif edged ops && tidy ds && ordered can && eager none can && covers ops.length can then fun c env A => match druns c s0 env A with
        | none => none
        | some (rs, env, A) => dstages c zs 0 rs env A
      else fun _ _ _ => none

/-! ### Code -/

def aloop (body : Env → AHeap → Res) (n : Nat) : Env → AHeap → Res :=
  Nat.rec (motive := fun _ => Env → AHeap → Res)
    (fun _ _ => none)
    (fun _ ih env A => match body env A with
      | some (.normal, env, A) => ih env A
      | r => r) n

def stepRes (r : Option (Env × AHeap)) : Res := match r with
  | some (env, A) => some (.normal, env, A)
  | none => none

def hasBody (P : Program) (f : FuncId) : Bool := match P.funcs[f]? with
  | some fn => fn.body.isSome
  | none => false

/-- A piece of code; d bounds how deep it is built. -/
def acode (P : Program) (N : Nat) (d : Nat) : Code → Ctx → Env → AHeap → Res :=
  Nat.rec (motive := fun _ => Code → Ctx → Env → AHeap → Res)
    (fun _ _ _ _ => none)
    (fun _ ih code => match code with
      | .skip | .label _ => fun _ env A => some (.normal, env, A)
      | .region _ ops false => let g := aseq P N ops.toList ops.toList; fun c env A => stepRes (g c env A)
      | .region _ ops true => let g := adraw P N ops.toList; fun c env A => stepRes (g c env A)
      | .seq a b => let f := ih a; let g := ih b
        fun c env A => match f c env A with
        | some (.normal, env, A) => g c env A
        | r => r
      | .cond x a b => let h := aeval N x; let f := ih a; let g := ih b
        fun c env A => match h env with
        | some (.bool t) => bif t then f c env A else g c env A
        | _ => none
      | .block id a => let f := ih a
        fun c env A => match f c env A with
        | some (.exit id', env, A) => bif Nat.beq id' id then some (.normal, env, A) else some (.exit id', env, A)
        | r => r
      | .loop a => let f := ih a
        fun c env A => aloop (f c) c.rounds env A
      | .exit id => fun _ env A => some (.exit id, env, A)
      | .ret => fun _ env A => some (.ret, env, A)
      | .rangeFunc x ps assign body => let h := aeval N x
        fun c env A => match h env with
        | some (.func (.func f) first captured) => match A.push (.loop { st := .ready, pending := none, fn := c.fn, env, params := ps, assign, body }) with
            | none => none
            | some (l, A) => bif !(hasBody P f && c.around.isNone) then none else match c.call f (first.toList ++ [.func (.yield l) #[] #[]] ++ captured.toList) A with
              | none => none
              | some (_, A) => match A.get l with
                | some (.loop r) => match r.st with
                  | .busy => none
                  | _ => match r.pending with
                    | none => some (.normal, env, A.put l (some (.loop { r with st := .exhausted })))
                    | some .ret => some (.ret, env, A.put l (some (.loop { r with st := .exhausted })))
                    | some (.exit id) => some (.exit id, env, A.put l (some (.loop { r with st := .exhausted })))
                    | some _ => none
                | _ => none
        | _ => none
      | _ => fun _ _ _ => none) d

def CD : Nat := 400

def envFrom (N : Nat) : Nat → List Value → Env → Env
  | _, [], t => t
  | i, v :: vs, t => envFrom N (i + 1) vs (t.set (dt N) i v)

def envOf (N : Nat) (args : List Value) : Env := envFrom N 0 args (.leaf (.tuple #[]))

/-- What a function hands back. -/
def aresult (P : Program) (N : Nat) (env : Env) (A : AHeap) : ResultVar → Option Value
  | .tmp t => bif Nat.ble N t then none else some (env.get (dt N) t)
  | .cell a t => bif Nat.ble N a then none else aload P t (env.get (dt N) a) A

def aresults (P : Program) (N : Nat) (env : Env) (A : AHeap) : List ResultVar → Option (List Value)
  | [] => some []
  | r :: rs => match aresult P N env A r with
    | none => none
    | some v => match aresults P N env A rs with
      | none => none
      | some vs => some (v :: vs)

def packed (vs : List Value) : Value := match vs with
  | [v] => v
  | vs => .tuple ⟨vs⟩

abbrev Oracle := FuncId → Option (List Value → AHeap → AR)

def abody (P : Program) (fn : Func) (c : Code) : Ctx → List Value → AHeap → AR :=
  let N := fn.ntmps
  let f := acode P N CD c
  let rs := fn.results.toList
  bif Nat.ble N 256 then
    fun ctx args A => bif Nat.ble args.length N then (match f ctx (envOf N args) A with
    | some (.exit _, _, _) => none
    | some (_, env, A) => match aresults P N env A rs with
      | some vs => some (packed vs, A)
      | none => none
    | none => none) else none
  else fun _ _ _ => none

def aenter (P : Program) (orc : Oracle) (f : FuncId) : (FuncId → Ctx) → List Value → AHeap → AR :=
  match orc f with
  | some g => fun _ args A => g args A
  | none => match P.funcs[f]? with
    | some fn => match fn.body with
      | some c => let g := abody P fn c
        fun ctx args A => g (ctx f) args A
      | none => fun _ _ _ => none
    | none => fun _ _ _ => none

/-- The parameters of a round laid into the temporaries. -/
def laidIn (N : Nat) : List Tmp → List Value → Env → Option Env
  | [], [], t => some t
  | p :: ps, v :: vs, t => bif Nat.ble N p then none else laidIn N ps vs (t.set (dt N) p v)
  | _, _, _ => none

/-- A round of a loop over a function. -/
def around (P : Program) (ctx : FuncId → Ctx) (l : Nat) (args : List Value) (A : AHeap) : AR :=
  match A.get l with
  | some (.loop r) => match P.funcs[r.fn]? with
    | none => none
    | some fn => bif !(Nat.ble fn.ntmps 256) then none else
      match laidIn fn.ntmps r.params.toList args r.env with
      | none => none
      | some env0 => match acode P fn.ntmps CD r.assign (ctx r.fn) env0 A with
        | some (.normal, env, A) => match A.get l with
          | some (.loop r1) => bif r1.st == .ready then
              (match acode P fn.ntmps CD r.body (ctx r.fn) env (A.put l (some (.loop { r1 with st := .busy }))) with
              | some (ex, _, A) => match A.get l with
                | some (.loop r2) =>
                  (match ex with
                  | .normal => some (.bool true, A.put l (some (.loop { r2 with st := .ready, pending := none })))
                  | .ret => some (.bool false, A.put l (some (.loop { r2 with st := .done, pending := some .ret })))
                  | .exit id => some (.bool false, A.put l (some (.loop { r2 with st := .done, pending := some (.exit id) }))))
                | _ => none
              | none => none) else none
          | _ => none
        | _ => none
  | _ => none

/-- Functions by their numbers, and rounds, n calls deep. -/
def acalls (P : Program) (orc : Oracle) (n : Nat) : (FuncId → List Value → AHeap → AR) × (Nat → List Value → AHeap → AR) :=
  Nat.rec (motive := fun _ => (FuncId → List Value → AHeap → AR) × (Nat → List Value → AHeap → AR))
    (fun _ _ _ => none, fun _ _ _ => none)
    (fun _ ih => (fun f args A => aenter P orc f (fun fn => { call := ih.1, round := ih.2, rounds := 100000, fn, around := none }) args A,
      fun l args A => around P (fun fn => { call := ih.1, round := ih.2, rounds := 100000, fn, around := some l }) l args A)) n

def acall (P : Program) (orc : Oracle) (n : Nat) (f : FuncId) (args : List Value) (A : AHeap) : AR := (acalls P orc n).1 f args A

def AHeap.empty : AHeap := { next := 0, tab := .leaf none }

end Go.AI
