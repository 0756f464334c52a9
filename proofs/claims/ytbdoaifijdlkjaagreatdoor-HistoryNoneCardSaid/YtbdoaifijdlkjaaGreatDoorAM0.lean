/-
  AM: an abstract machine: the model's step for one goroutine, over a heap of its own, with no tape. Definitions alone.
-/
import Derived.Control
namespace Go.AM
open Go

/-! ### a trie by numbers -/
inductive Tr (α : Type) where
  | nil
  | node (l : Tr α) (v : Option α) (r : Tr α)

def Tr.get {α : Type} : Tr α → Nat → Option α
  | .nil, _ => none
  | .node l v r, n => match n with
    | 0 => v
    | m + 1 => bif Nat.beq (m % 2) 0 then l.get (m / 2) else r.get (m / 2)

def Tr.putF {α : Type} : Nat → Tr α → Nat → Option α → Tr α
  | 0, t, _, _ => t
  | f + 1, t, n, x =>
    match t with
    | .nil => match n with
      | 0 => .node .nil x .nil
      | m + 1 => bif Nat.beq (m % 2) 0 then .node (putF f .nil (m / 2) x) none .nil else .node .nil none (putF f .nil (m / 2) x)
    | .node l v r => match n with
      | 0 => .node l x r
      | m + 1 => bif Nat.beq (m % 2) 0 then .node (putF f l (m / 2) x) v r else .node l v (putF f r (m / 2) x)

def Tr.put {α : Type} (t : Tr α) (n : Nat) (x : Option α) : Tr α := t.putF (n + 1) n x

/-! ### the heap -/
inductive AObj where
  | cells (c : List Value) (elem esz : Nat) (fz op : Bool)
  | map (es : List MapEntry) (clock : Nat)
  | siter (s : ByteArray) (pos : Nat)
  | miter (m : Option Nat) (since : Nat) (seen : List Nat) (stepped : Nat)
  | loop (st : LoopState) (pend : Option Code) (fn nt : Nat) (tm : Tr Value) (params : List Tmp) (assign body : Code) (defers : Nat)
  | dfr (ds : Option (List Deferred))

structure Hp where
  t : Tr AObj
  nxt : Nat

def Hp.get (H : Hp) (b : Nat) : Option AObj := H.t.get b
def Hp.set (H : Hp) (b : Nat) (o : AObj) : Hp := ⟨H.t.put b (some o), H.nxt⟩
def Hp.kill (H : Hp) (b : Nat) : Hp := ⟨H.t.put b none, H.nxt⟩
def Hp.new (H : Hp) (o : AObj) : Hp := ⟨H.t.put H.nxt (some o), H.nxt + 1⟩

/-! ### types -/
def tyU (P : Program) (t : Nat) : Option TypeDesc := P.underlying t
def aggT (P : Program) (t : Nat) : Option Bool := match P.underlying t with | some (.struct _) | some (.array _ _) => some true | some _ => some false | none => none

def oneCell : Value → Bool
  | .agg _ | .tuple _ => false
  | _ => true

def szOf (P : Program) (t : Nat) : Option Nat := (P.info? t).map (·.size)
def byOf (P : Program) (t : Nat) : Option Nat := (P.info? t).map (·.bytes)
def flatV : Value → Bool
  | .bool _ | .int _ _ | .float _ _ | .complex _ _ _ | .string _ | .pointer none | .slice none _ _ | .map none | .chan none | .nilFunc | .nilIface => true
  | .tuple vs | .agg vs => vs.toList.isEmpty
  | _ => false

/-- A type's zero value: it names no memory. -/
def zeroOf (P : Program) (t : Nat) : Option Value :=
  match (P.info? t).bind (·.zero) with
  | some v => if v.cells.toList.all flatV && (flatV v || !oneCell v) then some v else none
  | none => none
/-- n elements of a list from off on. -/
def sub (c : List Value) (off n : Nat) : Option (List Value) :=
  bif Nat.ble (off + n) c.length then some ((c.drop off).take n) else none

def splice (c : List Value) (off : Nat) (vs : List Value) : List Value := c.take off ++ vs ++ c.drop (off + vs.length)

/-! ### what an operation comes to -/
inductive ARes where
  | fail
  | val (v : Value) (H : Hp)
  | skip (H : Hp)
  | enter (f : Nat) (args : List Value) (H : Hp)
  | orc (f : Nat) (args : List Value) (v : Value) (H : Hp)
  | round (l : Nat) (args : List Value) (H : Hp)
  | defer (d : Deferred) (H : Hp)
  | recover (H : Hp)
  | panic (v : Value) (H : Hp)
  | fork (rs : List (Value × Hp))

def opt {α : Type} (o : Option α) (k : α → ARes) : ARes := match o with | some a => k a | none => .fail

def loadVar (P : Program) (H : Hp) (t : Nat) (a : Addr) : Option Value :=
  match a.spot, H.get a.block with
  | none, some (.cells c _ _ _ _) =>
    match aggT P t, szOf P t with
    | some true, some n => match sub c a.off n with
      | some l => some (.agg ⟨l⟩)
      | none => none
    | some false, _ => c[a.off]?
    | _, _ => none
  | _, _ => none

def storeVar (P : Program) (H : Hp) (t : Nat) (a : Addr) (v : Value) : Option Hp :=
  match a.spot, H.get a.block with
  | none, some (.cells c e z false op) =>
    let vs := v.cells.toList
    if szOf P t = some vs.length && vs.all oneCell && Nat.ble (a.off + vs.length) c.length
    then some (H.set a.block (.cells (splice c a.off vs) e z false op)) else none
  | _, _ => none

def newRow (P : Program) (H : Hp) (elem : Nat) (cs : List Value) (op : Bool) : Option (Addr × Hp) :=
  match szOf P elem with
  | some z => some (⟨H.nxt, 0, none⟩, H.new (.cells cs elem z false op))
  | none => none

def newVar (P : Program) (H : Hp) (t : Nat) (v : Value) : Option (Value × Hp) :=
  (newRow P H t v.cells.toList false).map fun (a, H) => (.pointer (some a), H)

def addrOff (a : Addr) (n : Nat) : Addr := ⟨a.block, a.off + n, none⟩

/-- A field's place. -/
def fieldOf (P : Program) (s i : Nat) : Option Field :=
  match P.underlying s with
  | some (.struct fs) => fs.toList[i]?
  | _ => none

def part (P : Program) (t : Nat) (cs : List Value) (off : Nat) : Option Value :=
  match aggT P t, szOf P t with
  | some true, some n => some (.agg ⟨(cs.drop off).take n⟩)
  | some false, _ => cs[off]?
  | _, _ => none

/-- Filling parts into cells. -/
def fill (place : Nat → Option (Nat × Nat)) (cells : List Value) : List (Nat × Value) → Option (List Value)
  | [] => some cells
  | (i, v) :: rest =>
    match place i with
    | none => none
    | some (off, size) =>
      let vs := v.cells.toList
      if vs.length = size && Nat.ble (off + size) cells.length then fill place (splice cells off vs) rest else none

def build (P : Program) (t : Nat) (parts : List (Nat × Value)) : Option Value :=
  match zeroOf P t, P.underlying t with
  | some z, some (.struct fs) =>
    if !(fs.toList.all fun f => (szOf P f.type).isSome) then none else
    (fill (fun i => (fs.toList[i]?).bind fun f => (szOf P f.type).map fun s => (f.offset, s)) z.cells.toList parts).map fun l => .agg ⟨l⟩
  | some z, some (.array _ e) =>
    match szOf P e with
    | some s => (fill (fun i => some (i * s, s)) z.cells.toList parts).map fun l => .agg ⟨l⟩
    | none => none
  | _, _ => none

def rep (n : Nat) (zs : List Value) : List Value := match n with | 0 => [] | n + 1 => zs ++ rep n zs

/-! ### numbers -/
def wrapK (k : IntKind) (n : Int) : Int := k.wrap n

def beqInt : Int → Int → Bool
  | .ofNat a, .ofNat b => Nat.beq a b
  | .negSucc a, .negSucc b => Nat.beq a b
  | _, _ => false

def bleInt : Int → Int → Bool
  | .ofNat a, .ofNat b => Nat.ble a b
  | .negSucc a, .negSucc b => Nat.ble b a
  | .negSucc _, .ofNat _ => true
  | .ofNat _, .negSucc _ => false

def sameKind (a b : IntKind) : Bool := match a, b with
  | .i8, .i8 | .i16, .i16 | .i32, .i32 | .i64, .i64 | .u8, .u8 | .u16, .u16 | .u32, .u32 | .u64, .u64 => true
  | _, _ => false

def bitsOf (f : Nat → Nat → Nat) (k : IntKind) (a b : Int) : Int :=
  let m : Int := 2 ^ k.bits
  k.wrap (f (a % m).toNat (b % m).toNat)

def intOp (op : BinOp) (k : IntKind) (a b : Int) : Option Value :=
  match op with
  | .add => some (.int k (k.wrap (a + b)))
  | .sub => some (.int k (k.wrap (a - b)))
  | .mul => some (.int k (k.wrap (a * b)))
  | .quo => if beqInt b 0 then none else some (.int k (k.wrap (a.tdiv b)))
  | .rem => if beqInt b 0 then none else some (.int k (a.tmod b))
  | .and => some (.int k (bitsOf Nat.land k a b))
  | .or => some (.int k (bitsOf Nat.lor k a b))
  | .xor => some (.int k (bitsOf Nat.xor k a b))
  | .andNot => some (.int k (bitsOf (fun x y => Nat.land x (2 ^ k.bits - 1 - y)) k a b))
  | .eql => some (.bool (beqInt a b))
  | .neq => some (.bool (!beqInt a b))
  | .lss => some (.bool (!bleInt b a))
  | .leq => some (.bool (bleInt a b))
  | .gtr => some (.bool (!bleInt a b))
  | .geq => some (.bool (bleInt b a))
  | _ => none

def shiftOp (op : BinOp) (k : IntKind) (a b : Int) : Option Value :=
  match b with
  | .negSucc _ => none
  | .ofNat m =>
    let n := min m k.bits
    match op with
    | .shl => some (.int k (k.wrap (a * 2 ^ n)))
    | .shr => some (.int k (a.fdiv (2 ^ n)))
    | _ => none

/-! ### texts -/
def beqBytes : List UInt8 → List UInt8 → Bool
  | [], [] => true
  | a :: x, b :: y => bif Nat.beq a.toNat b.toNat then beqBytes x y else false
  | _, _ => false

def ltBytes : List UInt8 → List UInt8 → Bool
  | _, [] => false
  | [], _ :: _ => true
  | a :: x, b :: y => bif Nat.beq a.toNat b.toNat then ltBytes x y else Nat.blt a.toNat b.toNat

def strOp (op : BinOp) (x y : ByteArray) : Option Value :=
  let a := x.data.toList
  let b := y.data.toList
  match op with
  | .add => if Nat.ble (a.length + b.length) 1000000000 then some (.string ⟨⟨a ++ b⟩⟩) else none
  | .eql => some (.bool (beqBytes a b))
  | .neq => some (.bool (!beqBytes a b))
  | .lss => some (.bool (ltBytes a b))
  | .leq => some (.bool (!ltBytes b a))
  | .gtr => some (.bool (ltBytes b a))
  | .geq => some (.bool (!ltBytes a b))
  | _ => none

/-! ### equality -/
def eqFields (P : Program) (eq : Nat → Value → Value → Option Bool) : List Field → List Value → List Value → Option Bool
  | [], _, _ => some true
  | f :: fs, xs, ys =>
    if f.name == "_" then none else
    match part P f.type xs f.offset, part P f.type ys f.offset with
    | some a, some b => match eq f.type a b with
      | some true => eqFields P eq fs xs ys
      | r => r
    | _, _ => none

def eqv (P : Program) : Nat → Nat → Value → Value → Option Bool
  | 0, _, _, _ => none
  | d + 1, t, x, y =>
    match P.underlying t, x, y with
    | some .bool, .bool a, .bool b => some (a == b)
    | some (.int _), .int k a, .int k' b => if sameKind k k' then some (beqInt a b) else none
    | some .string, .string a, .string b => some (beqBytes a.data.toList b.data.toList)
    | some (.pointer _), .pointer none, .pointer b => some b.isNone
    | some (.pointer _), .pointer _, .pointer none => some false
    | some (.pointer e), .pointer (some a), .pointer (some b) =>
      match szOf P e with
      | some (_ + 1) => if a.spot.isNone && b.spot.isNone && Nat.beq a.block b.block then some (Nat.beq a.off b.off) else none
      | _ => none
    | some (.interface _), .nilIface, .nilIface => some true
    | some (.interface _), .nilIface, .iface _ _ | some (.interface _), .iface _ _, .nilIface => some false
    | some (.interface _), .iface tx vx, .iface ty vy =>
      if !Nat.beq tx ty then some false
      else match P.info? tx with
        | some i => if i.comparable then eqv P d tx vx vy else none
        | none => none
    | some (.struct fields), .agg xs, .agg ys =>
      if P.stoodInHeld t then none else eqFields P (eqv P d) fields.toList xs.toList ys.toList
    | some (.slice _), .slice none _ _, .slice b _ _ => some b.isNone
    | some (.slice _), .slice _ _ _, .slice none _ _ => some false
    | some (.map _ _), .map none, .map b => some b.isNone
    | some (.map _ _), .map _, .map none => some false
    | some (.func _ _ _), .nilFunc, .nilFunc => some true
    | some (.func _ _ _), .nilFunc, .func _ _ _ | some (.func _ _ _), .func _ _ _, .nilFunc => some false
    | _, _, _ => none

def isConst : Operand → Bool
  | .const _ => true
  | _ => false

/-- May '==' of these be asked at all (the model's guard)? -/
def eqMay (P : Program) (t : Nat) (x y : Operand) (a b : Value) : Bool :=
  match a, b with
  | .chan (some _), _ | _, .chan (some _) => false
  | .nilIface, .nilIface => isConst x || isConst y || (match P.underlying t with | some (.interface ms) => ms.toList.isEmpty | _ => false)
  | .agg _, .agg _ => !P.eqGuardType P.depth t
  | _, _ => true

def binOp (P : Program) (op : BinOp) (t : Nat) (ox oy : Operand) (x y : Value) : Option Value :=
  match op, x, y with
  | .lss, .chan (some 1), .int .i64 (.ofNat _) => some (.bool true)
  | .lss, .chan (some 2), .int .i64 (.ofNat 0) => some (.bool false)
  | .geq, .chan (some 2), .int .i64 (.ofNat 0) => some (.bool true)
  | .shl, .int k a, .int _ b | .shr, .int k a, .int _ b => shiftOp op k a b
  | _, .int k a, .int k' b => if sameKind k k' then intOp op k a b else none
  | _, .string a, .string b => strOp op a b
  | .eql, x, y => if eqMay P t ox oy x y then (eqv P 50 t x y).map .bool else none
  | .neq, x, y => if eqMay P t ox oy x y then (eqv P 50 t x y).map fun b => .bool (!b) else none
  | _, _, _ => none

def unOp (op : UnOp) (x : Value) : Option Value :=
  match op, x with
  | .neg, .int k n => some (.int k (k.wrap (0 - n)))
  | .xor, .int k n => some (.int k (bitsOf Nat.xor k (if k.signed then -1 else k.max) n))
  | .not, .bool b => some (.bool !b)
  | _, _ => none

/-! ### slices -/
def natOf : Value → Option Nat
  | .int _ (.ofNat n) => some n
  | _ => none

/-- Is what lies behind the slice's capacity unknown? -/
def openAt (H : Hp) (a : Addr) (cap : Nat) : Option Bool :=
  match H.get a.block with
  | some (.cells c _ z _ op) => some (op && Nat.beq (a.off + cap * z) c.length)
  | _ => none

/-- May a slice of such elements be cut of this block (an open row is cut by its own elements)? -/
def fitsRow (H : Hp) (b z : Nat) : Bool :=
  match H.get b with
  | some (.cells _ _ z' _ op) => !op || Nat.beq z z'
  | _ => false

def optNat (d : Nat) : Option Value → Option Nat
  | none => some d
  | some v => natOf v

def sliceV (P : Program) (H : Hp) (t : Nat) (x : Value) (lo hi mx : Option Value) : Option Value :=
  match P.underlying t, x with
  | some .string, .string s =>
    match mx with
    | some _ => none
    | none => match optNat s.data.toList.length hi with
      | none => none
      | some h => match optNat 0 lo with
        | none => none
        | some l => if Nat.ble h s.data.toList.length && Nat.ble l h then some (.string ⟨⟨(s.data.toList.take h).drop l⟩⟩) else none
  | some (.slice e), .slice a len cap =>
    match optNat cap mx with
    | some m => match optNat len hi with
      | some h => match optNat 0 lo, szOf P e with
        | some l, some z =>
          if Nat.ble m cap && Nat.ble h m && Nat.ble l h && (mx.isNone || hi.isSome) then
            match a with
            | none => some (.slice none (h - l) (m - l))
            | some a => match a.spot with
              | none => if fitsRow H a.block z then some (.slice (some (addrOff a (l * z))) (h - l) (m - l)) else none
              | some _ => none
          else none
        | _, _ => none
      | none => none
    | none => none
  | some (.array n e), .pointer (some a) =>
    match optNat n mx with
    | some m => match optNat n hi with
      | some h => match optNat 0 lo, szOf P e, a.spot with
        | some l, some z, none =>
          if Nat.ble m n && Nat.ble h m && Nat.ble l h && (mx.isNone || hi.isSome) && fitsRow H a.block z then some (.slice (some (addrOff a (l * z))) (h - l) (m - l)) else none
        | _, _, _ => none
      | none => none
    | none => none
  | _, _ => none

def lenOf : Value → Option Nat
  | .slice _ n _ => some n
  | .string s => some s.data.toList.length
  | _ => none

def firstCells (H : Hp) (z n : Nat) : Value → Option (List Value)
  | .slice (some a) len _ =>
    if Nat.beq n 0 then some [] else if !Nat.ble n len then none else
    match a.spot, H.get a.block with
    | none, some (.cells c _ _ _ _) => sub c a.off (n * z)
    | _, _ => none
  | .slice none _ _ => some []
  | .string s => some ((s.data.toList.take n).map fun b => .int .u8 b.toNat)
  | _ => none

/-- The cells of a new row behind an append: the old ones that are held, then the new. -/
def appendNew (H : Hp) (e z : Nat) (base : Option Addr) (sLen sCap : Nat) (new : List Value) (need : Nat) : ARes :=
  match base with
  | none => if Nat.beq sLen 0 then .val (.slice (some ⟨H.nxt, 0, none⟩) need need) (H.new (.cells ([] ++ new) e z false true)) else .fail
  | some a => match a.spot, H.get a.block with
    | none, some (.cells c el z' fz op) =>
      match sub c a.off (sLen * z) with
      | none => .fail
      | some old =>
        if op && Nat.beq (a.off + sCap * z') c.length then
          (if !fz && Nat.beq z z' && Nat.beq el e then .val (.slice (some ⟨H.nxt, 0, none⟩) need need) ((H.kill a.block).new (.cells (old ++ new) e z false true)) else .fail)
        else .val (.slice (some ⟨H.nxt, 0, none⟩) need need) (H.new (.cells (old ++ new) e z false true))
    | _, _ => .fail

def zeroFits (P : Program) (e z : Nat) : Bool := match zeroOf P e with | some zv => Nat.beq zv.cells.toList.length z | none => false

/-- The append of some cells (n elements). -/
def appendV (P : Program) (H : Hp) (e : Nat) (s : Value) (new : List Value) (n : Nat) : ARes :=
  match s, szOf P e, byOf P e with
  | .slice base sLen sCap, some z, some by_ =>
    if !(new.all oneCell && Nat.beq new.length (n * z)) then .fail else
    let need := sLen + n
    if Nat.ble need sCap then
      if new.isEmpty then .val (.slice base need sCap) H else
      match base with
      | none => .fail
      | some a => match a.spot, H.get a.block with
        | none, some (.cells c el z' false op) =>
          if Nat.ble (a.off + need * z) c.length then .val (.slice (some a) need sCap) (H.set a.block (.cells (splice c (a.off + sLen * z) new) el z' false op)) else .fail
        | _, _ => .fail
    else if Nat.ble (need * by_) 1000000000 && Nat.ble 1 z && Nat.ble need 1000000 && zeroFits P e z then appendNew H e z base sLen sCap new need
    else .fail
  | _, _, _ => .fail

/-! ### maps -/
def sameNow (k : TypeDesc) (x y : Value) : Option Bool :=
  match k, x, y with
  | .int _, .int j a, .int j' b => if sameKind j j' then some (beqInt a b) else none
  | .string, .string a, .string b => some (beqBytes a.data.toList b.data.toList)
  | .bool, .bool a, .bool b => some (a == b)
  | _, _, _ => none

def findNow (k : TypeDesc) (x : Value) : List MapEntry → Nat → Option (Option (Nat × Value))
  | [], _ => some none
  | e :: es, i => match sameNow k x e.key with
    | some true => some (some (i, e.val))
    | some false => findNow k x es (i + 1)
    | none => none

def plainKey (k : TypeDesc) (v : Value) : Bool := match k, v with
  | .int _, .int _ _ | .string, .string _ | .bool, .bool _ => true
  | _, _ => false

def setAt (es : List MapEntry) (i : Nat) (f : MapEntry → MapEntry) : List MapEntry :=
  match es, i with
  | [], _ => []
  | e :: es, 0 => f e :: es
  | e :: es, i + 1 => e :: setAt es i f

def eraseAt (es : List MapEntry) (i : Nat) : List MapEntry :=
  match es, i with
  | [], _ => []
  | _ :: es, 0 => es
  | e :: es, i + 1 => e :: eraseAt es i

def lookup (P : Program) (H : Hp) (t : Nat) (m k : Value) (ok : Bool) : Option Value :=
  match P.underlying t with
  | some (.map kt et) => match P.underlying kt with
    | some kd => if !plainKey kd k then none else
      let r := match m with
        | .map none => some none
        | .map (some r) => match H.get r with
          | some (.map es _) => findNow kd k es 0
          | _ => none
        | _ => none
      match r with
      | none => none
      | some (some (_, v)) => some (if ok then .tuple ⟨[v, .bool true]⟩ else v)
      | some none => (zeroOf P et).map fun v => if ok then .tuple ⟨[v, .bool false]⟩ else v
    | none => none
  | _ => none

def mapUpdate (P : Program) (H : Hp) (t : Nat) (m k v : Value) : Option Hp :=
  match P.underlying t, m with
  | some (.map kt _), .map (some r) => match P.underlying kt, H.get r with
    | some kd, some (.map es clock) =>
      if !plainKey kd k then none else
      match findNow kd k es 0 with
      | some (some (i, _)) => some (H.set r (.map (setAt es i fun e => { e with key := k, val := v }) clock))
      | some none => some (H.set r (.map (es ++ [{ key := k, val := v, born := clock }]) (clock + 1)))
      | none => none
    | _, _ => none
  | _, _ => none

def mapDelete (P : Program) (H : Hp) (t : Nat) (m k : Value) : Option Hp :=
  match P.underlying t, m with
  | some (.map kt _), .map (some r) => match P.underlying kt, H.get r with
    | some kd, some (.map es clock) =>
      if !plainKey kd k then none else
      match findNow kd k es 0 with
      | some (some (i, _)) => some (H.set r (.map (eraseAt es i) clock))
      | some none => some H
      | none => none
    | _, _ => none
  | some (.map kt _), .map none => match P.underlying kt with
    | some kd => if plainKey kd k then some H else none
    | _ => none
  | _, _ => none

def findBorn : List MapEntry → Nat → Option MapEntry
  | [], _ => none
  | e :: es, n => bif Nat.beq e.born n then some e else findBorn es n

def mem (n : Nat) : List Nat → Bool
  | [] => false
  | x :: l => Nat.beq x n || mem n l

def nextV (H : Hp) (it : Value) (isString : Bool) : ARes :=
  match it with
  | .pointer (some ⟨r, 0, none⟩) => match H.get r, isString with
    | some (.siter s pos), true =>
      if Nat.blt pos s.data.toList.length then
        let b := s.data.toList
        match b[pos]? with
        | some c => if Nat.blt c.toNat 128 then .val (.tuple ⟨[.bool true, .int .i64 pos, .int .i32 c.toNat]⟩) (H.set r (.siter s (pos + 1)))
          else let (c, width) := Utf8.decode s pos; .val (.tuple ⟨[.bool true, .int .i64 pos, .int .i32 c]⟩) (H.set r (.siter s (pos + width)))
        | none => .fail
      else .val (.tuple ⟨[.bool false]⟩) H
    | some (.miter none _ _ _), false => .val (.tuple ⟨[.bool false]⟩) H
    | some (.miter (some m) since seen last), false => match H.get m with
      | some (.map es clock) =>
        if !seen.isEmpty && !es.isEmpty && es.all (fun e => Nat.ble last e.born) then .fail else
        let left := es.filter fun e => !mem e.born seen
        let old := left.filter fun e => Nat.blt e.born since
        let new := left.filter fun e => Nat.ble since e.born
        let cands : List (Option MapEntry) := (if old.isEmpty then [none] else []) ++ (old ++ new).map some
        .fork (cands.map fun
          | some e => (.tuple ⟨[.bool true, e.key, e.val]⟩, H.set r (.miter (some m) since (seen ++ [e.born]) clock))
          | none => (.tuple ⟨[.bool false]⟩, H))
      | _ => .fail
    | _, _ => .fail
  | _ => .fail

/-! ### calls -/
inductive Ext where
  | count | same
  /-- A new row of bytes that nothing is known of; 't' is the result's type. -/
  | noZero (ps : List Nat) (t : Nat)

def extV (x : Ext) (args : List Value) : Option Value :=
  match x, args with
  | .same, [v] => some v
  | .noZero _ _, _ => none
  | .count, [.string s, .int .u8 (.ofNat c)] => if Nat.blt c 256 then some (.int .i64 (s.data.toList.filter fun b => Nat.beq b.toNat c).length) else none
  | _, _ => none

def oneSized (P : Program) (e : Nat) : Bool := match szOf P e with | some z => Nat.beq z 1 | none => false

def noZeroV (P : Program) (t : Nat) (args : List Value) (H : Hp) : ARes :=
  match args, P.underlying t with
  | [.int .i64 (.ofNat n)], some (.slice e) =>
    if Nat.ble n 1000000 && oneSized P e then .val (.slice (some ⟨H.nxt, 0, none⟩) n n) (H.new (.cells (rep n [.chan (some 0)]) e 1 false true))
    else .fail
  | _, _ => .fail

def bytesOfVals : List Value → Option (List UInt8)
  | [] => some []
  | .int .u8 (.ofNat b) :: l => match bytesOfVals l with
    | some bs => some (UInt8.ofNat b :: bs)
    | none => none
  | _ :: _ => none

/-- The program, with what its functions without a body are. -/
structure Env where
  P : Program
  ext : Nat → Option Ext
  /-- Functions that are not gone into: what they answer is known by a contract. -/
  orc : Nat → Option (List Value → Option Value)
  /-- How many globals there are: their blocks stand first. -/
  G : Nat

/-- Are an operation's operands such as both machines have alike? -/
def operandOk (G : Nat) : Operand → Bool
  | .tmp _ | .func _ => true
  | .global g => Nat.blt g G
  | .const v => flatV v || match v with
    | .iface _ v => flatV v
    | .agg cs => cs.toList.all flatV
    | _ => false

def opOk (G : Nat) (o : Oper) : Bool := o.op.operands.toList.all (operandOk G)

def callF (E : Env) (f : Nat) (args : List Value) (H : Hp) : ARes :=
  match E.P.funcs.toList[f]? with
  | some fn => match fn.body with
    | some _ => match E.orc f with
      | some g => opt (g args) fun v => .orc f args v H
      | none => .enter f args H
    | none => match E.ext f with
      | some (.noZero _ t) => noZeroV E.P t args H
      | some x => opt (extV x args) fun v => .val v H
      | none => .fail
  | none => .fail

def invokeT (E : Env) (t : Target) (args : List Value) (H : Hp) : ARes :=
  match t with
  | .fn (.func f) cap => callF E f (args ++ cap.toList) H
  | .fn (.via t path f ptr) _ => match args, path.toList with
    | x :: rest, [] => match E.P.underlying t, ptr with
      | some (.pointer _), true => callF E f (x :: rest) H
      | some (.pointer _), false => .fail
      | some _, false => callF E f (x :: rest) H
      | _, _ => .fail
    | _, _ => .fail
  | .fn (.yield l) _ => match H.get l with
    | some (.loop _ _ _ _ _ ps _ _ _) => if Nat.beq args.length ps.length then .round l args H else .fail
    | _ => .fail
  | _ => .fail

/-- Builtins that only read. -/
def readV (P : Program) (H : Hp) (b : Builtin) (argTypes : List Nat) (args : List Value) : Option Value :=
  match b, argTypes, args with
  | .len, t :: _, [x] =>
    match P.underlying t, x with
    | some .string, .string s => some (.int .i64 s.data.toList.length)
    | some (.array n _), _ => some (.int .i64 n)
    | some (.slice _), .slice _ n _ => some (.int .i64 n)
    | some (.map _ _), .map none => some (.int .i64 0)
    | some (.map _ _), .map (some r) => match H.get r with
      | some (.map es _) => some (.int .i64 es.length)
      | _ => none
    | _, _ => none
  | .cap, t :: _, [x] =>
    match P.underlying t, x with
    | some (.slice _), .slice none _ n => some (.int .i64 n)
    | some (.slice e), .slice (some a) _ n => match szOf P e with
      | some _ => match openAt H a n with
        | some false => some (.int .i64 n)
        | _ => none
      | none => none
    | _, _ => none
  | .min, _, [.int k x, .int _ y] => some (.int k (if bleInt x y then x else y))
  | .max, _, [.int k x, .int _ y] => some (.int k (if bleInt y x then x else y))
  | .unsafeSliceData, _, [.slice none _ _] => some (.pointer none)
  | .unsafeSliceData, _, [.slice (some a) _ (_ + 1)] => some (.pointer (some a))
  | _, _, _ => none

def appendB (P : Program) (H : Hp) (ts : List Nat) (args : List Value) : ARes :=
  match ts, args with
  | t :: xT :: _, [s, x] =>
    match P.underlying t with
    | some (.slice e) => match szOf P e, byOf P e with
      | some z, some by_ => match P.underlying xT with
        | none => .fail
        | some (.int _) => match x with
          | .int .i64 (.ofNat n) => match zeroOf P e with
            | some zv => if Nat.ble n 1000000 && Nat.ble (n * by_) 1000000000 && Nat.ble 1 z && Nat.beq zv.cells.toList.length z then appendV P H e s (rep n zv.cells.toList) n else .fail
            | none => .fail
          | _ => .fail
        | some _ => match lenOf x with
          | some n => match firstCells H z n x with
            | some new => appendV P H e s new n
            | none => .fail
          | none => .fail
      | _, _ => .fail
    | _ => .fail
  | _, _ => .fail

def copyB (P : Program) (H : Hp) (ts : List Nat) (args : List Value) : ARes :=
  match ts, args with
  | t :: _, [.slice base dl _, s] =>
    match P.underlying t with
    | some (.slice e) => match lenOf s, szOf P e with
      | some sl, some z =>
        let n := if Nat.ble sl dl then sl else dl
        match firstCells H z n s with
        | some cs =>
          if !(cs.all oneCell) then .fail else
          if cs.isEmpty then .val (.int .i64 n) H else
          match base with
          | none => .fail
          | some a => match a.spot, H.get a.block with
            | none, some (.cells c el z' false op) => if Nat.ble (a.off + cs.length) c.length then .val (.int .i64 n) (H.set a.block (.cells (splice c a.off cs) el z' false op)) else .fail
            | _, _ => .fail
        | none => .fail
      | _, _ => .fail
    | _ => .fail
  | _, _ => .fail

def deleteB (P : Program) (H : Hp) (ts : List Nat) (args : List Value) : ARes :=
  match ts, args with
  | t :: _, [m, k] => match mapDelete P H t m k with
    | some H => .val (.tuple ⟨[]⟩) H
    | none => .fail
  | _, _ => .fail

def clearB (P : Program) (H : Hp) (ts : List Nat) (args : List Value) : ARes :=
  match ts, args with
  | t :: _, [.slice (some a) n _] => match P.underlying t with
    | some (.slice e) => match zeroOf P e with
      | some z =>
        if Nat.beq n 0 then .val (.tuple ⟨[]⟩) H else
        let cs := rep n z.cells.toList
        match a.spot, H.get a.block with
        | none, some (.cells c el z' false op) => if Nat.ble (a.off + cs.length) c.length && cs.all oneCell then .val (.tuple ⟨[]⟩) (H.set a.block (.cells (splice c a.off cs) el z' false op)) else .fail
        | _, _ => .fail
      | none => .fail
    | _ => .fail
  | t :: _, [.slice none _ _] => match P.underlying t with
    | some _ => .val (.tuple ⟨[]⟩) H
    | none => .fail
  | _, _ => .fail

def ustrB (P : Program) (H : Hp) (ts : List Nat) (args : List Value) : ARes :=
  match ts, args with
  | t :: _, [.pointer p, .int _ (.ofNat n)] =>
    if Nat.beq n 0 then .val (.string .empty) H else
    if !Nat.ble n 1000000000 then .fail else
    match p with
    | none => .fail
    | some a => match P.underlying t with
      | some (.pointer u) => match P.underlying u, szOf P u with
        | some (.int .u8), some 1 => match a.spot, H.get a.block with
          | none, some (.cells c el z _ op) =>
            if Nat.beq el u then
              match sub c a.off n with
              | some l => match bytesOfVals l with
                | some bs => .val (.string ⟨⟨bs⟩⟩) (H.set a.block (.cells c el z true op))
                | none => .fail
              | none => .fail
            else .fail
          | _, _ => .fail
        | _, _ => .fail
      | _ => .fail
  | _, _ => .fail

def builtinV (E : Env) (b : Builtin) (ts : List Nat) (args : List Value) (H : Hp) : ARes :=
  match b with
  | .append => appendB E.P H ts args
  | .copy => copyB E.P H ts args
  | .delete => deleteB E.P H ts args
  | .clear => clearB E.P H ts args
  | .unsafeString => ustrB E.P H ts args
  | .recover => .recover H
  | .panic => match args with
    | [.iface t v] => .panic (.iface t v) H
    | _ => .fail
  | _ => .fail

/-- A conversion that makes no memory. -/
def convertP (P : Program) (H : Hp) (src dst : Nat) (x : Value) : Option Value :=
  match P.underlying src, P.underlying dst, x with
  | some _, some (.int k), .int _ n => some (.int k (k.wrap n))
  | some _, some .string, .int _ n => some (.string (Utf8.encode n))
  | some _, some .string, .string s => some (.string s)
  | some (.slice e), some .string, x => match P.underlying e, x with
    | some (.int .u8), .slice none _ _ => some (.string .empty)
    | some (.int .u8), .slice (some a) n _ =>
      match firstCells H 1 n (.slice (some a) n n) with
      | some l => match bytesOfVals l with
        | some bs => some (.string ⟨⟨bs⟩⟩)
        | none => none
      | none => none
    | some (.int .i32), .slice none _ _ => some (.string .empty)
    | _, _ => none
  | some .unsafePointer, some (.pointer _), .pointer none | some (.pointer _), some .unsafePointer, .pointer none => some (.pointer none)
  | some (.pointer t), some .unsafePointer, .pointer (some a) => match szOf P t, a.spot, H.get a.block with
    | some (_ + 1), none, some (.cells c _ _ _ _) => if Nat.blt a.off c.length then some x else none
    | _, _, _ => none
  | some .unsafePointer, some (.pointer u), .pointer (some a) => match szOf P u, a.spot, H.get a.block with
    | some (_ + 1), none, some (.cells c e _ _ false) => if liesAt P P.depth e (c.length / P.cellsOf e) a.off u 1 then some x else none
    | _, _, _ => none
  | _, _, _ => none

def deferredOf (f : Value) (args : List Value) : Option (Target × List Value) :=
  match f with
  | .func fn first cap => some (.fn fn cap, first.toList ++ args)
  | _ => none

/-- What an operation that only reckons, and reads, comes to. -/
def pureOp (E : Env) (ρ : Operand → Value) (o : Oper) (H : Hp) : Option Value :=
  let P := E.P
  match o.op with
  | .move x | .assign x => some (ρ x)
  | .pick c a b => match ρ c with | .bool true => some (ρ a) | .bool false => some (ρ b) | _ => none
  | .build t parts => build P t (parts.toList.map fun p => (p.1, ρ p.2))
  | .load t a => match ρ a with | .pointer (some a) => loadVar P H t a | _ => none
  | .nilCheck x => match ρ x with
    | .pointer none | .nilIface | .nilFunc | .chan (some _) => none
    | .func (.method _) _ _ => none
    | v => some v
  | .binOp op t x y _ => binOp P op t x y (ρ x) (ρ y)
  | .unOp op _ x => unOp op (ρ x)
  | .convert s d x => convertP P H s d (ρ x)
  | .makeInterface t x => match P.underlying t with
    | some (.interface _) | none => none
    | _ => some (.iface t (ρ x))
  | .makeFunc fn first cap => match fn with
    | .func _ | .via _ _ _ _ => some (.func fn ⟨first.toList.map ρ⟩ ⟨cap.toList.map ρ⟩)
    | _ => none
  | .slice t x lo hi mx => sliceV P H t (ρ x) (lo.map ρ) (hi.map ρ) (mx.map ρ)
  | .fieldAddr s x i => match ρ x, fieldOf P s i with
    | .pointer (some a), some f => match szOf P f.type, a.spot with
      | some (_ + 1), none => some (.pointer (some (addrOff a f.offset)))
      | _, _ => none
    | _, _ => none
  | .field s x i => match ρ x, fieldOf P s i with
    | .agg cs, some f => part P f.type cs.toList f.offset
    | _, _ => none
  | .indexAddr t x ix => match P.underlying t, ρ x, natOf (ρ ix) with
    | some (.slice e), .slice (some a) len _, some i => match szOf P e with
      | some z => if Nat.blt i len && a.spot.isNone then some (.pointer (some (addrOff a (i * z)))) else none
      | none => none
    | some (.array len e), .pointer (some a), some i => match szOf P e with
      | some z => if Nat.blt i len && a.spot.isNone then some (.pointer (some (addrOff a (i * z)))) else none
      | none => none
    | _, _, _ => none
  | .index t x ix => match P.underlying t, ρ x, natOf (ρ ix) with
    | some (.array len e), .agg cs, some i => match szOf P e with
      | some z => if Nat.blt i len then part P e cs.toList (i * z) else none
      | none => none
    | some .string, .string s, some i => match s.data.toList[i]? with
      | some b => some (.int .u8 b.toNat)
      | none => none
    | _, _, _ => none
  | .lookup t m k ok => lookup P H t (ρ m) (ρ k) ok
  | .typeAssert x _ asserted ok => match P.underlying asserted, ρ x with
    | some (.interface _), _ => none
    | some _, .nilIface => if ok then (match zeroOf P asserted with | some z => some (.tuple ⟨[z, .bool false]⟩) | none => none) else none
    | some _, .iface t v => if Nat.beq t asserted then some (if ok then .tuple ⟨[v, .bool true]⟩ else v)
      else if ok then (match zeroOf P asserted with | some z => some (.tuple ⟨[z, .bool false]⟩) | none => none) else none
    | _, _ => none
  | .extract t i => match ρ t with
    | .tuple vs => vs.toList[i]?
    | _ => none
  | .entry it => match ρ it with
    | .pointer (some ⟨r, 0, none⟩) => match H.get r with
      | some (.miter (some m) _ seen stepped) => match H.get m, seen.getLast? with
        | some (.map es clock), some stamp => if Nat.beq clock stepped then (match findBorn es stamp with
          | some e => some (.tuple ⟨[e.key, e.val]⟩)
          | none => none) else none
        | _, _ => none
      | _ => none
    | _ => none
  | .call c => match c.callee with
    | .builtin b => readV P H b c.argTypes.toList (c.args.toList.map ρ)
    | _ => none
  | _ => none

/-- What a new block holds that an operation lays. -/
def newObjOf (E : Env) (ρ : Operand → Value) (o : Oper) : Option (List Value × Nat × Nat × (Nat → Value)) :=
  let P := E.P
  match o.op with
  | .alloc e => match zeroOf P e, szOf P e with
    | some z, some n => some (z.cells.toList, e, n, fun b => .pointer (some ⟨b, 0, none⟩))
    | _, _ => none
  | .box e x => match szOf P e with
    | some n => some ((ρ x).cells.toList, e, n, fun b => .pointer (some ⟨b, 0, none⟩))
    | _ => none
  | .buildSlice t len parts => match P.underlying t with
    | some (.slice e) => match szOf P e, zeroOf P e with
      | some z, some zv => if Nat.ble (len * z) 10000 && Nat.ble 1 z && Nat.beq zv.cells.toList.length z then
          match fill (fun i => some (i * z, z)) (rep len zv.cells.toList) (parts.toList.map fun p => (p.1, ρ p.2)) with
          | some cs => some (cs, e, z, fun b => .slice (some ⟨b, 0, none⟩) len len)
          | none => none
        else none
      | _, _ => none
    | _ => none
  | _ => none

def isNew (o : Oper) : Bool :=
  match o.op with
  | .alloc _ | .box .. | .buildSlice .. => true
  | _ => false

def execOp (E : Env) (ρ : Operand → Value) (o : Oper) (H : Hp) : ARes :=
  let P := E.P
  match o.op with
  | .alloc _ | .box _ _ | .buildSlice _ _ _ => match newObjOf E ρ o with
    | some (cs, e, z, v) => .val (v H.nxt) (H.new (.cells cs e z false false))
    | none => .fail
  | .store t a x => match ρ a with | .pointer (some a) => opt (storeVar P H t a (ρ x)) fun H => .skip H | _ => .fail
  | .makeMap _ r => match r with
    | none => .val (.map (some H.nxt)) (H.new (.map [] 0))
    | some _ => .fail
  | .makeSlice t l c => match P.underlying t, natOf (ρ l), natOf (ρ c) with
    | some (.slice e), some l, some c => opt (szOf P e) fun z => opt (byOf P e) fun b => opt (zeroOf P e) fun zv =>
      if Nat.ble l c && Nat.ble (c * b) 1000000000 && Nat.ble c 1000000 && Nat.ble 1 z && Nat.beq zv.cells.toList.length z then .val (.slice (some ⟨H.nxt, 0, none⟩) l c) (H.new (.cells (rep c zv.cells.toList) e z false false)) else .fail
    | _, _, _ => .fail
  | .mapUpdate t m k v | .insert t m k v => opt (mapUpdate P H t (ρ m) (ρ k) (ρ v)) fun H => .skip H
  | .range t x => match P.underlying t, ρ x with
    | some .string, .string s => .val (.pointer (some ⟨H.nxt, 0, none⟩)) (H.new (.siter s 0))
    | some (.map _ _), .map none => .val (.pointer (some ⟨H.nxt, 0, none⟩)) (H.new (.miter none 0 [] 0))
    | some (.map _ _), .map (some m) => match H.get m with
      | some (.map _ clock) => .val (.pointer (some ⟨H.nxt, 0, none⟩)) (H.new (.miter (some m) clock [] clock))
      | _ => .fail
    | _, _ => .fail
  | .next it s => nextV H (ρ it) s
  | .call c =>
    let args := c.args.toList.map ρ
    match c.callee with
    | .builtin b => match readV P H b c.argTypes.toList args with
      | some v => .val v H
      | none => builtinV E b c.argTypes.toList args H
    | .value f => opt (deferredOf (ρ f) args) fun (t, as) => invokeT E t as H
    | .invoke _ _ => .fail
  | .defer c =>
    match c.callee with
    | .value f => opt (deferredOf (ρ f) (c.args.toList.map ρ)) fun (t, as) => .defer { target := t, args := ⟨as⟩ } H
    | _ => .fail
  | .panic x => match ρ x with | .iface t v => .panic (.iface t v) H | _ => .fail
  | .convert s d x => match convertP P H s d (ρ x) with
    | some v => .val v H
    | none => match P.underlying s, P.underlying d, ρ x with
      | some _, some (.slice e), .string b => match P.underlying e, szOf P e with
        | some (.int .u8), some 1 =>
          let l := b.data.toList.map fun b => Value.int .u8 b.toNat
          .val (.slice (some ⟨H.nxt, 0, none⟩) l.length l.length) (H.new (.cells l e 1 false true))
        | _, _ => .fail
      | _, _, _ => .fail
  | _ => match pureOp E ρ o H with
    | some v => .val v H
    | none => .fail

/-! ### regions that draw their order: stages between the operations that act, in their one order -/
/-- A stage: what is reckoned here first; all that may still be done here; the operations that act behind it (none at the end; two stores that no order binds). -/
structure Stage where
  fst : List Oper
  chk : List Oper
  s : List Oper

/-- Does an operation only reckon, and read? -/
def isFloat (P : Program) (o : Oper) : Bool :=
  match o.op with
  | .move _ | .pick .. | .build .. | .load .. | .nilCheck _ | .binOp .. | .unOp .. | .fieldAddr .. | .field .. | .indexAddr .. | .index ..
  | .lookup .. | .extract .. | .makeInterface .. | .makeFunc .. | .slice .. | .typeAssert .. => true
  | .convert _ d _ => match P.underlying d with | some (.slice _) | none => false | _ => true
  | .call { callee := .builtin .len, .. } | .call { callee := .builtin .cap, .. } | .call { callee := .builtin .min, .. }
  | .call { callee := .builtin .max, .. } | .call { callee := .builtin .unsafeSliceData, .. } => true
  | _ => false

def acts (P : Program) (o : Oper) : Bool := !isNew o && !isFloat P o

def bit (m i : Nat) : Bool := Nat.beq ((m / 2 ^ i) % 2) 1

/-- What must be done ahead of each operation, as numbers' bits. -/
def masks : List Oper → Nat → List Nat → List Nat
  | [], _, acc => acc
  | o :: os, i, acc => masks os (i + 1) (acc ++ [o.after.toList.foldl (fun s e => if Region.binds .any e then Nat.lor (Nat.lor s (2 ^ e.on)) ((acc[e.on]?).getD 0) else s) 0])

def edgesBack : List Oper → Nat → Bool
  | [], _ => true
  | o :: os, i => o.after.toList.all (fun e => !Region.binds .any e || Nat.blt e.on i) && edgesBack os (i + 1)

def tmpsOf (o : Oper) : List Nat := o.op.operands.toList.filterMap fun | .tmp t => some t | _ => none

def zipIx {α : Type} : List α → Nat → List (Nat × α)
  | [], _ => []
  | a :: l, i => (i, a) :: zipIx l (i + 1)

/-- Each temporary that an operation here lays without acting is laid by no other, and is read only behind it. -/
def tmpsFit (P : Program) (ms : List Nat) (l : List (Nat × Oper)) : Bool :=
  l.all fun (i, o) => acts P o || match o.dst with
    | none => false
    | some d => l.all fun (j, q) => (Nat.beq i j || match q.dst with | some d' => !Nat.beq d d' | none => true) &&
        (!(mem d (tmpsOf q)) || bit ((ms[j]?).getD 0) i) && (match q.guard with | some (g, _) => !(Nat.beq g i) || bit ((ms[j]?).getD 0) i | none => true)

/-- Does an operation read no memory? -/
def noRead (o : Oper) : Bool :=
  match o.op with
  | .move _ | .pick .. | .build .. | .nilCheck _ | .binOp .. | .unOp .. | .fieldAddr .. | .field .. | .indexAddr .. | .extract .. | .makeInterface .. | .makeFunc .. => true
  | _ => false

def isStore (o : Oper) : Bool := match o.op, o.guard, o.dst with | .store .., none, none => true | _, _, _ => false

/-- What acts, in order: one by one, but for two stores beside each other that no order binds. -/
def groups (P : Program) (ms : List Nat) (l : List (Nat × Oper)) : List (Nat × Oper) → List (List (Nat × Oper))
  | s :: t :: ss => if !bit ((ms[t.1]?).getD 0) s.1 && isStore s.2 && isStore t.2 && l.all (fun p => acts P p.2 || (bit ((ms[p.1]?).getD 0) s.1 == bit ((ms[p.1]?).getD 0) t.1 && (bit ((ms[p.1]?).getD 0) s.1 || (bit ((ms[s.1]?).getD 0) p.1 && bit ((ms[t.1]?).getD 0) p.1) || (noRead p.2 && !isNew p.2)))) then [s, t] :: groups P ms l ss
    else [s] :: groups P ms l (t :: ss)
  | [s] => [[s]]
  | [] => []

def maskOf (l : List (Nat × Oper)) : Nat := l.foldl (fun m p => Nat.lor m (2 ^ p.1)) 0

def stages (P : Program) (ms : List Nat) (l : List (Nat × Oper)) : (done acted : Nat) → List (List (Nat × Oper)) → List Stage
  | done, acted, ss =>
    let smask := ss.foldl (fun m g => Nat.lor m (maskOf g)) 0
    -- what may be done here: all that acts ahead of it is done, and nothing that is done waits for it
    let may (p : Nat × Oper) : Bool := !acts P p.2 && Nat.beq (Nat.land ((ms[p.1]?).getD 0) smask) 0 && !bit acted p.1
    let here := l.filter may
    let new := here.filter fun p => !bit done p.1
    let done' := Nat.lor done (maskOf new)
    match ss with
    | [] => [{ fst := new.map (·.2), chk := here.map (·.2), s := [] }]
    | g :: ss => { fst := new.map (·.2), chk := here.map (·.2), s := g.map (·.2) } :: stages P ms l done' (g.foldl (fun m p => Nat.lor m ((ms[p.1]?).getD 0)) acted) ss

def inOrder (ms : List Nat) : (before : Nat) → List (List (Nat × Oper)) → Bool
  | _, [] => true
  | b, g :: ss => g.all (fun s => Nat.beq (Nat.land ((ms[s.1]?).getD 0) b) b) && inOrder ms (Nat.lor b (maskOf g)) ss

def mkPlan (P : Program) (G : Nat) (ops : List Oper) : Option (List Stage) :=
  let ms := masks ops 0 []
  let l := zipIx ops 0
  let ss := groups P ms l (l.filter fun p => acts P p.2)
  if edgesBack ops 0 && tmpsFit P ms l && inOrder ms 0 ss && ops.all (opOk G) then some (stages P ms l 0 0 ss) else none

def veqs (f : Value → Value → Bool) : List Value → List Value → Bool
  | [], [] => true
  | x :: xs, y :: ys => bif f x y then veqs f xs ys else false
  | _, _ => false

/-- Are two values the same, to the sign? -/
def veq : Nat → Value → Value → Bool
  | 0, _, _ => false
  | n + 1, x, y =>
    let all : List Value → List Value → Bool := veqs (veq n)
    match x, y with
    | .bool a, .bool b => a == b
    | .int j a, .int k b => sameKind j k && beqInt a b
    | .string a, .string b => beqBytes a.data.toList b.data.toList
    | .pointer none, .pointer none => true
    | .pointer (some a), .pointer (some b) => a.spot.isNone && b.spot.isNone && Nat.beq a.block b.block && Nat.beq a.off b.off
    | .slice none l c, .slice none l' c' => Nat.beq l l' && Nat.beq c c'
    | .slice (some a) l c, .slice (some b) l' c' => a.spot.isNone && b.spot.isNone && Nat.beq a.block b.block && Nat.beq a.off b.off && Nat.beq l l' && Nat.beq c c'
    | .map none, .map none => true
    | .map (some a), .map (some b) => Nat.beq a b
    | .chan (some a), .chan (some b) => Nat.beq a b
    | .func f a c, .func g b d => f == g && all a.toList b.toList && all c.toList d.toList
    | .nilFunc, .nilFunc => true
    | .iface t v, .iface u w => Nat.beq t u && veq n v w
    | .nilIface, .nilIface => true
    | .agg a, .agg b => all a.toList b.toList
    | .tuple a, .tuple b => all a.toList b.toList
    | _, _ => false

/-! ### the machine -/
inductive AItem where
  | code (c : Code)
  | inBlock (id : Nat)
  | inLoop (body : Code)
  | inScope (body : Code)
  | ops (all rest : List Oper)
  | dr (all : List Oper) (sts : List Stage)
  | drs (all : List Oper) (o : Oper) (sts : List Stage)
  | inRangeFunc (l : Nat)
  | endRangeFunc (l : Nat)
  | beginRound

structure AFr where
  fn : Nat
  nt : Nat
  tm : Tr Value
  todo : List AItem
  defers : List Deferred
  mode : FrameMode
  df : Bool
  round : Option Nat

structure ACf where
  fr : AFr
  cs : List AFr
  H : Hp

inductive AOut where
  | fail (why : String) (c : ACf)
  | next (c : ACf)
  | fork (l : List ACf)
  | done (fn : Nat) (v : Value) (H : Hp)

def AFr.ev (fr : AFr) : Operand → Value
  | .tmp t => (fr.tm.get t).getD (.tuple ⟨[]⟩)
  | .const v => v
  | .global g => .pointer (some ⟨g, 0, none⟩)
  | .func f => .func (.func f) ⟨[]⟩ ⟨[]⟩

def AFr.put (fr : AFr) (d : Option Nat) (v : Value) : AFr :=
  match d with
  | some d => bif Nat.blt d fr.nt then { fr with tm := fr.tm.put d (some v) } else fr
  | none => fr

def undefV : Value := .tuple ⟨[]⟩

def yieldedOp (all : List Oper) (fr : AFr) (j : Nat) : Option Bool :=
  match (all[j]?).bind (·.dst) with
  | some d => match fr.tm.get d with
    | some (.bool b) => some b
    | _ => none
  | none => none

def wantedOp (all : List Oper) (fr : AFr) (o : Oper) : Bool :=
  match o.guard with
  | none => true
  | some (j, want) => match yieldedOp all fr j with
    | some b => b == want
    | none => false

def bindArgs (t : Tr Value) (i : Nat) : List Value → Tr Value
  | [] => t
  | v :: vs => bindArgs (t.put i (some v)) (i + 1) vs

def enterFr (E : Env) (f : Nat) (args : List Value) (df : Bool) : Option AFr :=
  match E.P.funcs.toList[f]? with
  | some fn => match fn.body with
    | some c => if Nat.ble args.length fn.ntmps then some { fn := f, nt := fn.ntmps, tm := bindArgs .nil 0 args, todo := [.code c], defers := [], mode := .run, df, round := none } else none
    | none => none
  | none => none

def setParams (nt : Nat) (t : Tr Value) : List Tmp → List Value → Tr Value
  | p :: ps, v :: vs => setParams nt (bif Nat.blt p nt then t.put p (some v) else t) ps vs
  | _, _ => t

/-- What a call's value does to the frame that made it. -/
def finish (fr : AFr) (v : Value) : Option AFr :=
  match fr.todo with
  | .ops all (o :: rest) :: k => some { fr.put o.dst v with todo := .ops all rest :: k }
  | .drs all o sts :: k => some { fr.put o.dst v with todo := .dr all sts :: k }
  | .inRangeFunc l :: k => some { fr with todo := .endRangeFunc l :: k }
  | _ => none

/-- Does the frame stand in a region that draws its order? -/
def inDraw (fr : AFr) : Bool := match fr.todo with | .dr .. :: _ | .drs .. :: _ => true | _ => false

def raiseFr (fr : AFr) (vs : List PanicEntry) : AFr :=
  match fr.mode with
  | .panicking chain => { fr with mode := .panicking (vs ++ chain) }
  | _ => { fr with mode := .panicking vs }

def endRound (H : Hp) (l : Nat) (jump : Option Code) : Option (Value × Hp) :=
  match H.get l with
  | some (.loop _ _ fn nt tm ps a b d) =>
    some (.bool jump.isNone, H.set l (.loop (if jump.isNone then .ready else .done) jump fn nt tm ps a b d))
  | _ => none

def doReturn (fr : AFr) (cs : List AFr) (v : Value) (H : Hp) : AOut :=
  match cs with
  | [] => if fr.df then .fail "return" ⟨fr, cs, H⟩ else .done fr.fn v H
  | c :: rest =>
    if fr.df then
      let c := match c.mode with
        | .panicking ({ recovered := true, .. } :: older) => match older.dropWhile (!·.goexit) with
          | [] => { c with mode := .returning }
          | r => { c with mode := .panicking r }
        | _ => c
      .next ⟨c, rest, H⟩
    else match finish c v with
      | some c => .next ⟨c, rest, H⟩
      | none => .fail "finish" ⟨fr, cs, H⟩

def leaveA (fr : AFr) (cs : List AFr) (H : Hp) (jump : Option Code) : AOut :=
  match fr.round with
  | none => match jump with
    | none | some .ret => .next ⟨{ fr with mode := .returning }, cs, H⟩
    | _ => .fail "leave" ⟨fr, cs, H⟩
  | some l => match endRound H l jump with
    | some (v, H) => match cs with
      | [] => .fail "endRound" ⟨fr, cs, H⟩
      | _ => doReturn fr cs v H
    | none => .fail "endRound" ⟨fr, cs, H⟩

def resultsV (P : Program) (fr : AFr) (H : Hp) : List ResultVar → Option (List Value)
  | [] => some []
  | .tmp t :: rs => (resultsV P fr H rs).map fun l => (fr.tm.get t).getD undefV :: l
  | .cell a t :: rs => match (fr.tm.get a) with
    | some (.pointer (some a)) => match loadVar P H t a, resultsV P fr H rs with
      | some v, some l => some (v :: l)
      | _, _ => none
    | _ => none

def tupleOf : List Value → Value
  | [v] => v
  | l => .tuple ⟨l⟩

def tryRec (fr : AFr) (cs : List AFr) : Option (Option (Value × List AFr)) :=
  match fr.df, cs with
  | true, c :: rest => match c.mode with
    | .panicking ({ v, recovered := false, goexit := false } :: older) => some (some (v, { c with mode := .panicking ({ v, recovered := true } :: older) } :: rest))
    | _ => some none
  | true, [] => none
  | false, _ => some none

def applyR (E : Env) (fr : AFr) (cs : List AFr) (r : ARes) (H0 : Hp) : AOut :=
  let fin (fr : AFr) (v : Value) (H : Hp) : AOut := match finish fr v with | some fr => .next ⟨fr, cs, H⟩ | none => .fail "finish" ⟨fr, cs, H⟩
  match r with
  | .fail => .fail "op" ⟨fr, cs, H0⟩
  | .val v H => fin fr v H
  | .skip H => fin fr undefV H
  | .orc _ _ v H => fin fr v H
  | .enter f args H => match enterFr E f args false with
    | some g => .next ⟨g, fr :: cs, H⟩
    | none => .fail "enter" ⟨fr, cs, H⟩
  | .round l args H => match H.get l with
    | some (.loop _ _ fn nt tm ps a b _) =>
      if Nat.beq args.length ps.length then
        .next ⟨{ fn, nt, tm := setParams nt tm ps args, todo := [.code a, .beginRound, .code b], defers := [], mode := .run, df := false, round := some l }, fr :: cs, H⟩
      else .fail "round" ⟨fr, cs, H⟩
    | _ => .fail "round" ⟨fr, cs, H⟩
  | .defer d H => match fr.round with
    | none => fin { fr with defers := d :: fr.defers } undefV H
    | some _ => .fail "defer in round" ⟨fr, cs, H⟩
  | .recover H => match fr.round with
    | none => match tryRec fr cs with
      | some (some (v, cs)) => match finish fr v with
        | some fr => .next ⟨fr, cs, H⟩
        | none => .fail "finish" ⟨fr, cs, H⟩
      | some none => fin fr .nilIface H
      | none => .fail "recover" ⟨fr, cs, H⟩
    | some _ => .fail "recover in round" ⟨fr, cs, H⟩
  | .panic v H => if inDraw fr then .fail "panic in draw" ⟨fr, cs, H⟩ else .next ⟨raiseFr fr [{ v, recovered := false }], cs, H⟩
  | .fork l => if (finish fr undefV).isSome then .fork (l.filterMap fun (v, H) => (finish fr v).map fun fr => ⟨fr, cs, H⟩) else .fail "fork" ⟨fr, cs, H0⟩

def dstFits (fr : AFr) (o : Oper) : Bool := match o.dst with | some d => Nat.blt d fr.nt | none => false

/-- What is reckoned first in a stage, one by one. -/
def firsts (E : Env) (all : List Oper) : List Oper → AFr → Hp → Option (AFr × Hp)
  | [], fr, H => some (fr, H)
  | o :: os, fr, H =>
    if !dstFits fr o then none else
    if wantedOp all fr o then
      if isNew o then match newObjOf E fr.ev o with
        | some (cs, e, z, v) => firsts E all os (fr.put o.dst (v H.nxt)) (H.new (.cells cs e z false false))
        | none => none
      else match pureOp E fr.ev o H with
        | some v => firsts E all os (fr.put o.dst v) H
        | none => none
    else firsts E all os (fr.put o.dst undefV) H

def blockOf : Value → Option Nat
  | .pointer (some ⟨b, 0, none⟩) => some b
  | .slice (some ⟨b, 0, none⟩) _ _ => some b
  | _ => none

def storeOp (E : Env) (ρ : Operand → Value) (o : Oper) (H : Hp) : Option (Hp × Nat) :=
  match o.op with
  | .store t a x => match ρ a with
    | .pointer (some a) => (storeVar E.P H t a (ρ x)).map fun H => (H, a.block)
    | _ => none
  | _ => none

def sameBlock (H K : Hp) (b : Nat) : Bool :=
  match H.get b, K.get b with
  | some (.cells c e z f op), some (.cells c' e' z' f' op') => veqs (veq 20) c c' && Nat.beq e e' && Nat.beq z z' && f == f' && op == op'
  | _, _ => false

/-- Two stores that no order binds: either way, the same. -/
def twoStores (E : Env) (ρ : Operand → Value) (o q : Oper) (H : Hp) : Option Hp :=
  match storeOp E ρ o H, storeOp E ρ q H with
  | some (H1, b), some (H2, b') => match storeOp E ρ q H1, storeOp E ρ o H2 with
    | some (H12, _), some (H21, _) => if sameBlock H12 H21 b && sameBlock H12 H21 b' then some H12 else none
    | _, _ => none
  | _, _ => none

/-- Would the operation, done now, lay what its temporary holds? -/
def holds (E : Env) (all : List Oper) (fr : AFr) (H : Hp) (o : Oper) : Bool :=
  match o.dst with
  | none => false
  | some d =>
    let old := (fr.tm.get d).getD undefV
    if wantedOp all fr o then
      if isNew o then match newObjOf E fr.ev o, blockOf old with
        | some (cs, e, z, v), some b => veq 20 (v b) old && match H.get b with
          | some (.cells c e' z' false false) => Nat.beq e e' && Nat.beq z z' && veqs (veq 20) cs c
          | _ => false
        | _, _ => false
      else match pureOp E fr.ev o H with
        | some v => veq 20 v old
        | none => false
    else veq 20 old undefV

def exitTo (id : Nat) : List AItem → Option (List AItem)
  | .inBlock id' :: k => if Nat.beq id' id then some k else exitTo id k
  | _ :: k => exitTo id k
  | [] => none

def gotoIn (l : Nat) : List AItem → Option (List AItem)
  | .inScope body :: k => match findLabel body l with
    | some rest => some (.code rest :: .inScope body :: k)
    | none => gotoIn l k
  | _ :: k => gotoIn l k
  | [] => none

def runA (E : Env) (fr : AFr) (cs : List AFr) (H : Hp) : AOut :=
  let to (k : List AItem) : AOut := .next ⟨{ fr with todo := k }, cs, H⟩
  let lost (w : String) : AOut := .fail w ⟨fr, cs, H⟩
  match fr.todo with
  | [] => leaveA fr cs H none
  | .code c :: k => match c with
    | .ret => leaveA fr cs H (some .ret)
    | .skip | .label _ => to k
    | .seq a b => to (.code a :: .code b :: k)
    | .cond c t e => match fr.ev c with
      | .bool true => to (.code t :: k)
      | .bool false => to (.code e :: k)
      | _ => lost "cond"
    | .block id b => to (.code b :: .inBlock id :: k)
    | .loop b => to (.code b :: .inLoop b :: k)
    | .scope b => to (.code b :: .inScope b :: k)
    | .exit id => match exitTo id k with
      | some k => to k
      | none => leaveA fr cs H (some (.exit id))
    | .goto l => match gotoIn l k with
      | some k => to k
      | none => leaveA fr cs H (some (.goto l))
    | .rangeFunc f ps a b =>
      if !operandOk E.G f then lost "operand" else
      let r : Option (Nat × List Deferred × Hp) := match fr.round with
        | some l => match H.get l with
          | some (.loop _ _ _ _ _ _ _ _ d) => some (d, [], H)
          | _ => none
        | none => some (H.nxt, [{ target := .collected H.nxt, args := ⟨[]⟩ }], H.new (.dfr (some [])))
      match r with
      | none => lost "rangeFunc"
      | some (d, mark, H) =>
        let l := H.nxt
        let H := H.new (.loop .ready none fr.fn fr.nt fr.tm ps.toList a b d)
        let fr' := { fr with todo := .inRangeFunc l :: k, defers := mark ++ fr.defers }
        match deferredOf (fr.ev f) [.func (.yield l) ⟨[]⟩ ⟨[]⟩] with
        | some (t, args) => applyR E fr' cs (invokeT E t args H) H
        | none => lost "rangeFunc value"
    | .region _ ops draw => if draw then (match mkPlan E.P E.G ops.toList with | some sts => to (.dr ops.toList sts :: k) | none => lost "plan") else to (.ops ops.toList ops.toList :: k)
    | .refuse _ => lost "refuse"
  | .inBlock _ :: k | .inScope _ :: k => to k
  | .inLoop b :: k => to (.code b :: .inLoop b :: k)
  | .inRangeFunc _ :: _ => lost "inRangeFunc"
  | .beginRound :: k => match fr.round with
    | some l => match H.get l with
      | some (.loop .ready pe fn nt tm ps a b d) => .next ⟨{ fr with todo := k }, cs, H.set l (.loop .busy pe fn nt tm ps a b d)⟩
      | _ => lost "beginRound"
    | none => lost "beginRound"
  | .endRangeFunc l :: k => match H.get l with
    | some (.loop .busy ..) => lost "endLoop"
    | some (.loop _ pe fn nt tm ps a b d) =>
      .next ⟨{ fr with todo := (match pe with | some c => [.code c] | none => []) ++ k }, cs, H.set l (.loop .exhausted pe fn nt tm ps a b d)⟩
    | _ => lost "endLoop"
  | .dr _ [] :: _ => lost "dr"
  | .dr all (st :: sts) :: k => match firsts E all st.fst fr H with
    | none => lost "firsts"
    | some (fr, H) =>
      if st.chk.all (holds E all fr H) then match st.s with
        | [] => .next ⟨{ fr with todo := k }, cs, H⟩
        | [o] =>
          if wantedOp all fr o then applyR E { fr with todo := .drs all o sts :: k } cs (execOp E fr.ev o H) H
          else .next ⟨{ fr.put o.dst undefV with todo := .dr all sts :: k }, cs, H⟩
        | [o, q] => match twoStores E fr.ev o q H with
          | some H => .next ⟨{ fr with todo := .dr all sts :: k }, cs, H⟩
          | none => lost "two stores"
        | _ => lost "stage"
      else lost "a value that turns"
  | .drs .. :: _ => lost "drs"
  | .ops _ [] :: k => to k
  | .ops all (o :: rest) :: k =>
    if !opOk E.G o then lost "operand" else
    if wantedOp all fr o then applyR E fr cs (execOp E fr.ev o H) H
    else .next ⟨{ fr.put o.dst undefV with todo := .ops all rest :: k }, cs, H⟩

def unwindA (E : Env) (fr : AFr) (cs : List AFr) (H : Hp) : AOut :=
  match fr.defers with
  | d :: ds => match d.target with
    | .collected b => match H.get b with
      | some (.dfr (some l)) => .next ⟨{ fr with defers := l ++ ds }, cs, H.set b (.dfr none)⟩
      | _ => .fail "collected" ⟨fr, cs, H⟩
    | .fn (.func f) cap => match enterFr E f (d.args.toList ++ cap.toList) true with
      | some g => .next ⟨g, { fr with defers := ds } :: cs, H⟩
      | none => .fail "deferred" ⟨fr, cs, H⟩
    | _ => .fail "deferred" ⟨fr, cs, H⟩
  | [] => match fr.mode with
    | .run => .fail "unwind" ⟨fr, cs, H⟩
    | .panicking chain => match cs with
      | c :: rest => if inDraw c then .fail "panic in draw" ⟨fr, cs, H⟩ else .next ⟨raiseFr c chain, rest, H⟩
      | [] => .fail "panic" ⟨fr, cs, H⟩
    | .returning => match E.P.funcs.toList[fr.fn]? with
      | some fn => match resultsV E.P fr H fn.results.toList with
        | some l => doReturn fr cs (tupleOf l) H
        | none => .fail "results" ⟨fr, cs, H⟩
      | none => .fail "results" ⟨fr, cs, H⟩

def astep (E : Env) (c : ACf) : AOut :=
  match c.fr.mode with
  | .run => runA E c.fr c.cs c.H
  | _ => unwindA E c.fr c.cs c.H

/-- All ways end well. -/
def runs (E : Env) (f : Nat) (ok : Value → Bool) : Nat → ACf → Bool
  | 0, _ => false
  | n + 1, c => match astep E c with
    | .fail _ _ => false
    | .next c => runs E f ok n c
    | .fork l => l.all (runs E f ok n)
    | .done g v _ => Nat.beq g f && ok v

end Go.AM
