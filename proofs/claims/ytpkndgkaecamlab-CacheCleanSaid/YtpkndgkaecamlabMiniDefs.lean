/- A part of the proof: MiniDefs. -/
import GoSem.Dispatch

namespace Go.Mini

/-- Kinds of leaves. -/
inductive LK where
  | bool | int (k : IntKind) | str | ptr | slice | func
  deriving DecidableEq, Repr, Inhabited

/-- Shapes of types: a struct is 'cons field rest' down to 'unit'. -/
inductive Ty where
  | leaf (k : LK)
  | arr (n : Nat) (t : Ty)
  | unit
  | cons (a b : Ty)
  deriving DecidableEq, Repr, Inhabited

inductive Id where
  | stk (l s : Nat)
  | obj (n : Nat)
  | arg (n : Nat)
  deriving DecidableEq, Repr, Inhabited

def Id.isArg : Id → Bool
  | .arg _ => true
  | _ => false

/-- Values as trees. -/
inductive AV where
  | bot
  | bool (b : Bool)
  | int (k : IntKind) (n : Int)
  | str (s : ByteArray)
  | nilp
  | ptr (id : Id) (path : List Nat) (ty : Ty)
  | nilsl
  | slz                                            -- an empty slice that is not nil, of whatever place
  | sl (id : Id) (off len : Nat)
  | nilf
  | func (f : Nat) (cap : AV)
  | unit
  | cons (a b : AV)
  | arr (n : Nat) (f : Fin n → AV)
  | tup (v : AV)
instance : Inhabited AV := ⟨.bot⟩

def Ty.size : Ty → Nat
  | .leaf _ => 1
  | .arr n t => n * t.size
  | .unit => 0
  | .cons a b => a.size + b.size

def LK.zero : LK → AV
  | .bool => .bool false
  | .int k => .int k 0
  | .str => .str ByteArray.empty
  | .ptr => .nilp
  | .slice => .nilsl
  | .func => .nilf

def Ty.zero : Ty → AV
  | .leaf k => k.zero
  | .arr n t => .arr n fun _ => t.zero
  | .unit => .unit
  | .cons a b => .cons a.zero b.zero

def LK.fits : LK → AV → Bool
  | .bool, .bool _ => true
  | .int k, .int k' _ => k == k'
  | .str, .str _ => true
  | .ptr, .nilp => true
  | .ptr, .ptr .. => true
  | .slice, .nilsl => true
  | .slice, .sl .. => true
  | .slice, .slz => true
  | .func, .nilf => true
  | .func, .func .. => true
  | _, _ => false

/-- No pointer to a local block: what may lie in a block, or be handed back. -/
def AV.safe : AV → Bool
  | .ptr (.stk ..) .. => false
  | .sl (.stk ..) .. => false
  | .func .. => false
  | .bot => false
  | .tup _ => false
  | .unit => true
  | .cons a b => a.safe && b.safe
  | .arr n f => (List.finRange n).all fun i => (f i).safe
  | _ => true

/-- A value of that shape that may lie in a block. -/
def Ty.fits : Ty → AV → Bool
  | .leaf k, v => k.fits v && v.safe
  | .arr n t, .arr m f => n == m && (List.finRange m).all fun i => t.fits (f i)
  | .unit, .unit => true
  | .cons a b, .cons x y => a.fits x && b.fits y
  | _, _ => false

def AV.at : AV → List Nat → Option AV
  | v, [] => some v
  | .arr n f, i :: p => if h : i < n then (f ⟨i, h⟩).at p else none
  | .cons a _, 0 :: p => a.at p
  | .cons _ b, (i + 1) :: p => b.at (i :: p)
  | _, _ => none

def AV.put : AV → List Nat → AV → Option AV
  | _, [], x => some x
  | .arr n f, i :: p, x => if h : i < n then ((f ⟨i, h⟩).put p x).map fun y => .arr n fun j => if j.val = i then y else f j else none
  | .cons a b, 0 :: p, x => (a.put p x).map fun y => .cons y b
  | .cons a b, (i + 1) :: p, x => (b.put (i :: p) x).map fun y => .cons a y
  | _, _, _ => none

def AV.field : AV → Nat → Option AV
  | .cons a _, 0 => some a
  | .cons _ b, i + 1 => b.field i
  | _, _ => none

def AV.setField : AV → Nat → AV → Option AV
  | .cons _ b, 0, x => some (.cons x b)
  | .cons a b, i + 1, x => (b.setField i x).map (.cons a)
  | _, _, _ => none

def Ty.field : Ty → Nat → Option Ty
  | .cons a _, 0 => some a
  | .cons _ b, i + 1 => b.field i
  | _, _ => none

def andEq : Option Bool → Option Bool → Option Bool
  | some true, r => r
  | some false, _ => some false
  | none, _ => none

/-- Are two values equal? none: the machine is not asked that. -/
def AV.eq : AV → AV → Option Bool
  | .bool a, .bool b => some (a == b)
  | .int k a, .int k' b => if k = k' then some (a == b) else none
  | .str a, .str b => some (a == b)
  | .nilp, .nilp => some true
  | .nilp, .ptr .. => some false
  | .ptr .., .nilp => some false
  | .ptr i [] t, .ptr j [] u => if i = j ∧ t = u then some true else none
  | .nilsl, .nilsl => some true
  | .nilsl, .sl .. => some false
  | .nilsl, .slz => some false
  | .sl .., .nilsl => some false
  | .slz, .nilsl => some false
  | .unit, .unit => some true
  | .cons a b, .cons c d => andEq (a.eq c) (b.eq d)
  | .arr n f, .arr m g => if h : n = m then
      (List.finRange n).foldr (fun i acc => andEq ((f i).eq (g (h ▸ i))) acc) (some true)
    else none
  | _, _ => none

inductive Opd where
  | s (t : Nat)
  | c (v : AV)
  | f (n : Nat)

inductive MK where
  | mov (x : Opd)
  | pick (c a b : Opd)
  | bin (op : BinOp) (x y : Opd)
  | eq (neg : Bool) (t : Ty) (x y : Opd)
  | un (op : UnOp) (x : Opd)
  | alloc (esc : Bool) (t : Ty)
  | box (esc : Bool) (t : Ty) (x : Opd)
  | build (t : Ty) (parts : List (Nat × Opd))
  | bslice (esc : Bool) (t : Ty) (n : Nat) (parts : List (Nat × Opd))
  | load (ro : Bool) (rt : Option Nat) (t : Ty) (x : Opd)
  | store (t : Ty) (ap : List Nat) (x v : Opd)
  | nilck (x : Opd)
  | fld (st : Ty) (i : Nat) (ft : Ty) (x : Opd)
  | idx (n : Nat) (t : Ty) (x i : Opd)
  | sidx (ro : Bool) (t : Ty) (x i : Opd)
  | aidx (n : Nat) (t : Ty) (x i : Opd)
  | stridx (x i : Opd)
  | field (t : Ty) (x : Opd) (i : Nat)
  | ext (x : Opd) (i : Nat)
  | conv (k : IntKind) (x : Opd)
  | len (str : Bool) (x : Opd)
  | min (x y : Opd)
  | append (esc : Bool) (t : Ty) (x y : Opd)
  | slice (t : Ty) (x : Opd) (lo hi : Option Opd)
  | call (prot : Bool) (hide : List Nat) (f : Nat) (args : List Opd)
  | callv (prot : Bool) (hide : List Nat) (x : Opd) (args : List Opd)
  | mkfn (f : Nat) (caps : List Opd)

structure MOp where
  d : Option Nat
  k : MK
  g : Option (Nat × Bool) := none

inductive MC where
  | skip
  | reg (draw : Bool) (ops : List MOp) (kill : List Nat)
  | seq (a b : MC)
  | cond (c : Opd) (t e : MC)
  | block (id : Nat) (b : MC)
  | loop (keep keepo : List Nat) (b : MC)
  | exit (id : Nat)
  | ret

inductive MRes where
  | tmp (t : Nat)
  | cell (t : Nat) (ty : Ty)

structure MFun where
  params : Nat
  nfree : Nat := 0
  res : List MRes
  body : MC

structure Blk where
  ty : Ty
  val : AV
instance : Inhabited Blk := ⟨.unit, .unit⟩

abbrev Slots := List (Nat × AV)
abbrev Own := List (Nat × Blk)

def Slots.get : Slots → Nat → AV
  | [], _ => .bot
  | (t, v) :: s, u => if t = u then v else Slots.get s u

def Slots.set : Slots → Nat → AV → Slots
  | [], u, x => [(u, x)]
  | (t, v) :: s, u, x => if t = u then (u, x) :: s else if u < t then (u, x) :: (t, v) :: s else (t, v) :: Slots.set s u x

def Own.get : Own → Nat → Option Blk
  | [], _ => none
  | (t, v) :: s, u => if t = u then some v else Own.get s u

def Own.set : Own → Nat → Blk → Own
  | [], u, x => [(u, x)]
  | (t, v) :: s, u, x => if t = u then (u, x) :: s else if u < t then (u, x) :: (t, v) :: s else (t, v) :: Own.set s u x

/-- Memory outside of the running function's own local blocks. -/
structure HP where
  stk : Nat → Own
  obj : Nat → Option Blk
  next : Nat
  arg : Nat → Option Blk

def HP.look (h : HP) : Id → Option Blk
  | .stk l t => (h.stk l).get t
  | .obj n => h.obj n
  | .arg n => h.arg n

def HP.set (h : HP) (i : Id) (b : Blk) : HP :=
  match i with
  | .stk l t => { h with stk := fun l' => if l' = l then (h.stk l).set t b else h.stk l' }
  | .obj n => { h with obj := fun n' => if n' = n then some b else h.obj n' }
  | .arg _ => h

/-- What a callee may not write: local blocks below a level, objects below a number. -/
structure Prot where
  lvl : Nat
  obj : Nat

structure St where
  sl : Slots
  own : Own
  hp : HP

structure Cx where
  lvl : Nat
  prot : Prot

def Id.own (i : Id) (l : Nat) : Option Nat :=
  match i with
  | .stk l' t => if l' = l then some t else none
  | _ => none

def St.look (cx : Cx) (s : St) (i : Id) : Option Blk :=
  match i.own cx.lvl with
  | some t => s.own.get t
  | none => s.hp.look i

/-- What lies at a place. -/
def St.rd (cx : Cx) (s : St) (i : Id) (p : List Nat) : Option AV := (s.look cx i).bind fun b => b.val.at p
def HP.rd (h : HP) (i : Id) (p : List Nat) : Option AV := (h.look i).bind fun b => b.val.at p

def Prot.lets (p : Prot) : Id → Bool
  | .stk l _ => p.lvl ≤ l
  | .obj n => p.obj ≤ n
  | .arg _ => false

def St.write (cx : Cx) (s : St) (i : Id) (b : Blk) : Option St :=
  match i.own cx.lvl with
  | some t => some { s with own := s.own.set t b }
  | none => if cx.prot.lets i then some { s with hp := s.hp.set i b } else none

def AV.isAgg : AV → Bool
  | .unit => true
  | .cons .. => true
  | .arr .. => true
  | _ => false

/-- Does a pointer lead to another block? -/
def AV.apart (i : Id) : AV → Bool
  | .ptr j .. => !(j == i)
  | .sl j .. => !(j == i)
  | _ => false

/-- Does a pointer lead to that very block? -/
def AV.into (i : Id) : AV → Bool
  | .ptr j .. => j == i
  | .sl j .. => j == i
  | _ => false

def AV.isLeaf : AV → Bool
  | .unit => false
  | .cons .. => false
  | .arr .. => false
  | .tup _ => false
  | _ => true

def AV.names (i : Id) : AV → Bool
  | .ptr j .. => i == j
  | .sl j .. => i == j
  | .func _ c => c.names i
  | .cons a b => a.names i || b.names i
  | _ => false
/-- Does a slot's value lead to that block? (What lies in an aggregate never leads to a local one.) -/
def AV.leads (i : Id) (v : AV) : Bool := !v.isAgg && v.names i

/-- All slots forget a block that is made anew, or has gone into another one. -/
def Slots.forget : Slots → Id → Slots
  | [], _ => []
  | (t, v) :: s, i => (t, if v.leads i then .bot else v) :: Slots.forget s i
def has : List Nat → Nat → Bool
  | [], _ => false
  | a :: l, t => a == t || has l t

def Slots.without : Slots → List Nat → Slots
  | [], _ => []
  | (t, v) :: s, l => if has l t then Slots.without s l else (t, v) :: Slots.without s l
def Slots.only : Slots → List Nat → Slots
  | [], _ => []
  | (t, v) :: s, l => if has l t then (t, v) :: Slots.only s l else Slots.only s l
def Own.only : Own → List Nat → Own
  | [], _ => []
  | (t, v) :: s, l => if has l t then (t, v) :: Own.only s l else Own.only s l
def Own.without : Own → List Nat → Own
  | [], _ => []
  | (t, v) :: s, l => if has l t then Own.without s l else (t, v) :: Own.without s l
/-- What a callee is not to see. -/
def Own.veil (o : Own) : List Nat → Own
  | [] => o
  | a :: l => o.without (a :: l)
/-- Behind it, that lies there as it did. -/
def Own.unveil (o m : Own) : List Nat → Own
  | [] => m
  | a :: l => (o.only (a :: l)).foldr (fun p acc => Own.set acc p.1 p.2) (m.without (a :: l))
def Own.rid : Own → Nat → Own
  | [], _ => []
  | (t, v) :: s, u => if t = u then Own.rid s u else (t, v) :: Own.rid s u

def St.opd (s : St) : Opd → AV
  | .s t => Slots.get s.sl t
  | .c v => v
  | .f n => .func n .unit

/-- What an operation does to memory. -/
inductive Eff where
  | val (v : AV)                                  -- nothing; its value
  | new (sl : Option Nat) (b : Blk)               -- a new block; a pointer to it, or a slice of so many elements
  | wr (i : Id) (b : Blk) (v : AV)                -- a block turns; its value
  | grow (j : Id) (b : Blk) (n : Nat)             -- a block goes into a greater one; a slice of that

def AV.ofList (l : List AV) : AV := .arr l.length fun i => l.get i
def AV.toList : AV → Option (List AV)
  | .arr _ f => some (List.ofFn f)
  | _ => none

/-- May values of that shape be held against each other? -/
def Ty.eqOk : Ty → AV → Bool
  | .leaf .bool, .bool _ => true
  | .leaf .ptr, .nilp => true
  | .leaf .ptr, .ptr _ [] _ => true
  | .leaf .slice, .nilsl => true
  | .leaf .slice, .sl .. => true
  | .leaf .slice, .slz => true
  | .leaf _, _ => false
  | t, v => t.fits v

def toIx : AV → Option Int
  | .int _ n => some n
  | _ => none

def evInt (op : BinOp) (k : IntKind) (a b : Int) : Option AV :=
  match op with
  | .eql => some (.bool (a == b))
  | .neq => some (.bool (a != b))
  | .add => some (.int k (k.wrap (a + b)))
  | .sub => some (.int k (k.wrap (a - b)))
  | .mul => some (.int k (k.wrap (a * b)))
  | .quo => if b = 0 then none else some (.int k (k.wrap (a.tdiv b)))
  | .rem => if b = 0 then none else some (.int k (a.tmod b))
  | .lss => some (.bool (decide (a < b)))
  | .leq => some (.bool (decide (a ≤ b)))
  | .gtr => some (.bool (decide (a > b)))
  | .geq => some (.bool (decide (a ≥ b)))
  | _ => none

def evStr (op : BinOp) (a b : ByteArray) : Option AV :=
  match op with
  | .eql => some (.bool (a.toList == b.toList))
  | .neq => some (.bool (!(a.toList == b.toList)))
  | .add => if ((a.size + b.size : Nat) : Int) > IntKind.i64.max then none else some (.str (a ++ b))
  | .lss => some (.bool (Op.bytesLess a.toList b.toList))
  | .leq => some (.bool (Op.bytesLess a.toList b.toList || a.toList == b.toList))
  | .gtr => some (.bool (!(Op.bytesLess a.toList b.toList || a.toList == b.toList)))
  | .geq => some (.bool (!(Op.bytesLess a.toList b.toList)))
  | _ => none

def evBin (op : BinOp) (x y : AV) : Option AV :=
  match x, y with
  | .int k a, .int k' b => if k = k' then evInt op k a b else none
  | .str a, .str b => evStr op a b
  | _, _ => none

def evUn (op : UnOp) (x : AV) : Option AV :=
  match op, x with
  | .not, .bool b => some (.bool !b)
  | .neg, .int k n => some (.int k (k.wrap (0 - n)))
  | _, _ => none

/-- Where a path leads: how many cells on, and to what. -/
def Ty.find : Ty → List Nat → Option (Nat × Ty)
  | t, [] => some (0, t)
  | .arr n t, i :: p => if i < n then (t.find p).map fun q => (i * t.size + q.1, q.2) else none
  | .cons a _, 0 :: p => a.find p
  | .cons a b, (i + 1) :: p => (b.find (i :: p)).map fun q => (a.size + q.1, q.2)
  | _, _ => none

/-- The shape of a part. -/
def Ty.part : Ty → Nat → Option Ty
  | .arr n t, i => if i < n then some t else none
  | .cons a _, 0 => some a
  | .cons _ b, i + 1 => b.part i
  | _, _ => none

def fill (t : Ty) (v : AV) : List (Nat × AV) → Option AV
  | [] => some v
  | (i, x) :: r => match t.part i with
    | some u => if u.fits x then match v.put [i] x with
        | some w => fill t w r
        | none => none
      else none
    | none => none

/-- The elements of a slice. -/
def elems (look : Id → Option Blk) (t : Ty) : AV → Option (List AV)
  | .nilsl => some []
  | .slz => some []
  | .sl j off len => match look j with
    | some ⟨.arr _ t', v⟩ => match v.toList with
      | some l => if t = t' ∧ off + len ≤ l.length then some ((l.drop off).take len) else none
      | none => none
    | _ => none
  | _ => none

def evAppend (look : Id → Option Blk) (t : Ty) (x : AV) (add : List AV) : Option Eff :=
  match x with
  | .nilsl => if add.length = 0 then some (.val .nilsl) else
      if (Ty.arr add.length t).fits (.ofList add) = true ∧ add.length ≤ 1048576 then some (.new (some add.length) ⟨.arr add.length t, .ofList add⟩) else none
  | .sl j off len => match look j with
    | some ⟨.arr _ t', v⟩ => match v.toList with
      | some l => if t = t' then
          if off + len + add.length ≤ l.length then
            if (Ty.arr l.length t).fits (.ofList (l.take (off + len) ++ add ++ l.drop (off + len + add.length))) then
              some (.wr j ⟨.arr l.length t, .ofList (l.take (off + len) ++ add ++ l.drop (off + len + add.length))⟩ (.sl j off (len + add.length)))
            else none
          else if off + len ≤ l.length then
            if (Ty.arr (len + add.length) t).fits (.ofList ((l.drop off).take len ++ add)) = true ∧ len + add.length ≤ 1048576 then
              some (.grow j ⟨.arr (len + add.length) t, .ofList ((l.drop off).take len ++ add)⟩ (len + add.length))
            else none
          else none
        else none
      | none => none
    | _ => none
  | _ => none

def rooted (g : Opd → AV) (i : Id) : Option Nat → Bool
  | some u => (g (.s u)).into i
  | none => true

/-- An operation that is no call of a function: it hangs on its operands and on the blocks that they lead to. -/
def evK (g : Opd → AV) (look : Id → Option Blk) (k : MK) : Option Eff :=
  match k with
  | .mov x => some (.val (g x))
  | .pick c a b => match g c with
    | .bool true => some (.val (g a))
    | .bool false => some (.val (g b))
    | _ => none
  | .bin op x y => (evBin op (g x) (g y)).map .val
  | .eq neg t x y => if t.eqOk (g x) && t.eqOk (g y) then ((g x).eq (g y)).map fun b => .val (.bool (if neg then !b else b)) else none
  | .un op x => (evUn op (g x)).map .val
  | .alloc _ t => some (.new none ⟨t, t.zero⟩)
  | .box _ t x => if t.fits (g x) then some (.new none ⟨t, g x⟩) else none
  | .build t ps => (fill t t.zero (ps.map fun p => (p.1, g p.2))).map .val
  | .bslice _ t n ps => (fill (.arr n t) (Ty.arr n t).zero (ps.map fun p => (p.1, g p.2))).map fun v => .new (some n) ⟨.arr n t, v⟩
  | .load ro rt t x => match g x with
    | .ptr i p t' => if t = t' ∧ (ro = true → i.isArg = true) ∧ rooted g i rt = true then
        match (look i).bind fun b => b.val.at p with
        | some v => if t.fits v then some (.val v) else none
        | none => none
      else none
    | _ => none
  | .store t ap x v => match g x with
    | .ptr i p t' => if t = t' ∧ t.fits (g v) = true ∧ (ap.all fun u => (g (.s u)).apart i) = true then
        match look i with
        | some b => match b.val.put p (g v) with
          | some u => some (.wr i ⟨b.ty, u⟩ .bot)
          | none => none
        | none => none
      else none
    | _ => none
  | .nilck x => match g x with
    | .ptr i p t => some (.val (.ptr i p t))
    | _ => none
  | .fld st i ft x => match g x with
    | .ptr j p t => if t = st ∧ st.field i = some ft then some (.val (.ptr j (p ++ [i]) ft)) else none
    | _ => none
  | .idx n t x i => match g x, toIx (g i) with
    | .ptr j p t', some z => if t' = .arr n t ∧ 0 ≤ z ∧ z < (n : Int) then some (.val (.ptr j (p ++ [z.toNat]) t)) else none
    | _, _ => none
  | .sidx ro t x i => match g x, toIx (g i) with
    | .sl j off len, some z => if 0 ≤ z ∧ z < (len : Int) ∧ (ro = true → j.isArg = true) then
        match look j with
        | some ⟨.arr _ t', _⟩ => if t = t' then some (.val (.ptr j [off + z.toNat] t)) else none
        | _ => none
      else none
    | _, _ => none
  | .aidx n t x i => match g x, toIx (g i) with
    | .arr m f, some z => if h : 0 ≤ z ∧ z < (m : Int) then if (Ty.arr n t).fits (.arr m f) then some (.val (f ⟨z.toNat, by omega⟩)) else none else none
    | _, _ => none
  | .stridx x i => match g x, toIx (g i) with
    | .str b, some z => if 0 ≤ z then (b[z.toNat]?).map fun c => .val (.int .u8 c.toNat) else none
    | _, _ => none
  | .field t x i => if t.fits (g x) then ((g x).field i).map .val else none
  | .ext x i => match g x with
    | .tup v => match v.field i with
      | some u => if u.safe then some (.val u) else none
      | none => none
    | _ => none
  | .conv k x => match g x with
    | .int _ n => some (.val (.int k (k.wrap n)))
    | _ => none
  | .len str x => match str, g x with
    | true, .str b => some (.val (.int .i64 b.size))
    | false, .nilsl => some (.val (.int .i64 0))
    | false, .sl _ _ n => some (.val (.int .i64 n))
    | false, .slz => some (.val (.int .i64 0))
    | _, _ => none
  | .min x y => match g x, g y with
    | .int k a, .int k' b => if k = k' then some (.val (.int k (if b < a then b else a))) else none
    | _, _ => none
  | .mkfn f caps => if caps.all (fun y => (g y).isLeaf) then some (.val (.func f (caps.foldr (fun x acc => .cons (g x) acc) .unit))) else none
  | .append _ t x y => match elems look t (g y) with
    | some add => evAppend look t (g x) add
    | none => none
  | .slice t x lo hi => match g x with
    | .sl j off len =>
      match (match lo with | some o => toIx (g o) | none => some 0), (match hi with | some o => toIx (g o) | none => some (len : Int)) with
      | some a, some b => match look j with
        | some ⟨.arr n t', _⟩ => if t = t' ∧ 0 ≤ a ∧ a ≤ b ∧ b ≤ (len : Int) ∧ (off + a.toNat < n ∨ a = 0) then some (.val (.sl j (off + a.toNat) (b - a).toNat)) else
            if t = t' ∧ 0 ≤ a ∧ a ≤ b ∧ b ≤ (len : Int) then some (.val .slz) else none
        | _ => none
      | _, _ => none
    | .nilsl =>
      match (match lo with | some o => toIx (g o) | none => some 0), (match hi with | some o => toIx (g o) | none => some (0 : Int)) with
      | some 0, some 0 => some (.val .nilsl)
      | _, _ => none
    | _ => none
  | .call .. => none
  | .callv .. => none

def MK.esc : MK → Bool
  | .alloc e _ => e
  | .box e _ _ => e
  | .bslice e _ _ _ => e
  | .append e _ _ _ => e
  | _ => false

/-- A new block is laid. -/
def St.fresh (cx : Cx) (s : St) (esc : Bool) (d : Nat) (b : Blk) : Id × St :=
  if esc then (.obj s.hp.next, { s with hp := { s.hp with obj := fun n => if n = s.hp.next then some b else s.hp.obj n, next := s.hp.next + 1 } })
  else (.stk cx.lvl d, { s with sl := Slots.forget s.sl (.stk cx.lvl d), own := s.own.set d b })

/-- A block is given up. -/
def St.drop (cx : Cx) (s : St) (i : Id) : Option St :=
  match i.own cx.lvl with
  | some t => some { s with own := s.own.rid t }
  | none => match i with
    | .obj n => if cx.prot.lets i then some { s with hp := { s.hp with obj := fun n' => if n' = n then none else s.hp.obj n' } } else none
    | _ => none

def newVal (i : Id) (sl : Option Nat) (b : Blk) : AV :=
  match sl with
  | some n => .sl i 0 n
  | none => .ptr i [] b.ty

def applyEff (cx : Cx) (d : Option Nat) (esc : Bool) (s : St) : Eff → Option (AV × St)
  | .val v => some (v, s)
  | .new sl b => match d with
    | some d => let r := s.fresh cx esc d b; some (newVal r.1 sl b, r.2)
    | none => none
  | .wr i b v => (s.write cx i b).map fun s' => (v, s')
  | .grow j b n => match d with
    | some d => (s.drop cx j).map fun s => let r := s.fresh cx esc d b; (newVal r.1 (some n) b, r.2)
    | none => none

def evOp (cx : Cx) (d : Option Nat) (k : MK) (s : St) : Option (AV × St) :=
  match evK s.opd (s.look cx) k with
  | some e => applyEff cx d k.esc s e
  | none => none

/-- What is left to do. -/
inductive Item where
  | ops (l : List MOp) (kill : List Nat)
  | code (c : MC)
  | inBlock (id : Nat)
  | inLoop (keep keepo : List Nat) (b : MC)

def exitTo (id : Nat) : List Item → Option (List Item)
  | [] => none
  | .inBlock j :: k => if j = id then some k else exitTo id k
  | _ :: k => exitTo id k

def St.setd (s : St) (d : Option Nat) (v : AV) : St :=
  match d with
  | some d => { s with sl := Slots.set s.sl d v }
  | none => s
def St.kill (s : St) (l : List Nat) : St := { s with sl := s.sl.without l }
def St.keep (s : St) (l o : List Nat) : St := { s with sl := s.sl.only l, own := s.own.only o }

def AV.undef : AV := .tup .unit

/-- Is a guarded operation to be done? -/
def St.wanted (s : St) (g : Option (Nat × Bool)) : Option Bool :=
  match g with
  | none => some true
  | some (t, b) => match Slots.get s.sl t with
    | .bool c => some (c == b)
    | .tup .unit => some false
    | _ => none

/-- The memory that a callee finds: the caller's local blocks are among it. -/
def HP.push (h : HP) (l : Nat) (o : Own) : HP := { h with stk := fun l' => if l' = l then o else h.stk l' }
def HP.pop (h h' : HP) (l : Nat) : HP := { h' with stk := fun l' => if l' = l then h.stk l else h'.stk l' }
def St.pop (s : St) (l : Nat) (hide : List Nat) (h' : HP) : St := { s with own := s.own.unveil (h'.stk l) hide, hp := s.hp.pop h' l }
def St.callCx (s : St) (cx : Cx) (prot : Bool) : Cx := ⟨cx.lvl + 1, if prot then ⟨cx.lvl + 1, s.hp.next⟩ else cx.prot⟩

def enterSlots : Nat → List AV → Slots
  | _, [] => []
  | n, v :: r => (n, v) :: enterSlots (n + 1) r
def St.enter (args : List AV) (h : HP) : St := ⟨enterSlots 0 args, [], h⟩

/-- What is handed back. -/
def resOf (cx : Cx) (s : St) : MRes → Option AV
  | .tmp t => let v := Slots.get s.sl t; if v.safe then some v else none
  | .cell t ty => match Slots.get s.sl t with
    | .ptr i [] t' => if ty = t' then (s.look cx i).bind fun b => if b.ty = ty ∧ (b.val.isAgg || b.val.safe) = true then some b.val else none else none
    | _ => none
def resList (cx : Cx) (s : St) : List MRes → Option AV
  | [] => some .unit
  | r :: rs => match resOf cx s r, resList cx s rs with
    | some v, some w => some (.cons v w)
    | _, _ => none
def results (cx : Cx) (s : St) : List MRes → Option AV
  | [r] => resOf cx s r
  | l => (resList cx s l).map .tup

def capList : AV → List AV
  | .cons a b => a :: capList b
  | _ => []

/-- The local block that an operation lays, if it lays one. -/
def MOp.site (o : MOp) : Option Nat :=
  match o.k with
  | .alloc false _ => o.d
  | .box false _ _ => o.d
  | .bslice false _ _ _ => o.d
  | .append false _ _ _ => o.d
  | _ => none

/-- At the head of a region that draws its order: the blocks that it lays are new, and nothing leads to them. -/
def drawHead (cx : Cx) (s : St) (l : List MOp) : Bool :=
  l.all fun o => match o.site with
    | some d => (s.own.get d).isNone && s.sl.all fun p => !(p.2.leads (.stk cx.lvl d))
    | none => true

/-- One step: what is to be done next. -/
inductive Cmd where
  | done (s : St)
  | fail
  | go (todo : List Item) (s : St)
  | call (cx' : Cx) (hide : List Nat) (fn : MFun) (e : St) (d : Option Nat) (todo : List Item) (s : St)

def enterCmd (T : Nat → Option MFun) (cx : Cx) (prot : Bool) (hide : List Nat) (f : Nat) (args caps : List AV) (d : Option Nat) (todo : List Item) (s : St) : Cmd :=
  match T f with
  | some fn => if fn.params = args.length ∧ fn.nfree = caps.length then
      .call (s.callCx cx prot) hide fn (St.enter (args ++ caps) (s.hp.push cx.lvl (s.own.veil hide))) d todo s else .fail
  | none => .fail

def opCmd (T : Nat → Option MFun) (cx : Cx) (d : Option Nat) (k : MK) (todo : List Item) (s : St) : Cmd :=
  match k with
  | .call prot hide f args => enterCmd T cx prot hide f (args.map s.opd) [] d todo s
  | .callv prot hide x args => match s.opd x with
    | .func f cap => enterCmd T cx prot hide f (args.map s.opd) (capList cap) d todo s
    | _ => .fail
  | k => match evOp cx d k s with
    | some (v, s') => .go todo (s'.setd d v)
    | none => .fail

def next (T : Nat → Option MFun) (cx : Cx) : List Item → St → Cmd
  | [], s => .done s
  | .inBlock _ :: k, s => .go k s
  | .inLoop keep ko b :: k, s => .go (.code b :: .inLoop keep ko b :: k) (s.keep keep ko)
  | .code .skip :: k, s => .go k s
  | .code (.reg draw ops kill) :: k, s => if draw && !drawHead cx s ops then .fail else .go (.ops ops kill :: k) s
  | .code (.seq a b) :: k, s => .go (.code a :: .code b :: k) s
  | .code (.cond c t e) :: k, s => match s.opd c with
    | .bool b => .go (.code (if b then t else e) :: k) s
    | _ => .fail
  | .code (.block id b) :: k, s => .go (.code b :: .inBlock id :: k) s
  | .code (.loop keep ko b) :: k, s => .go (.code b :: .inLoop keep ko b :: k) (s.keep keep ko)
  | .code (.exit id) :: k, s => match exitTo id k with
    | some k' => .go k' s
    | none => .fail
  | .code .ret :: _, s => .done s
  | .ops [] kill :: k, s => .go k (s.kill kill)
  | .ops (o :: r) kill :: k, s => match s.wanted o.g with
    | none => .fail
    | some false => .go (.ops r kill :: k) (s.setd o.d .undef)
    | some true => opCmd T cx o.d o.k (.ops r kill :: k) s

/-- Back in the caller. -/
def back (cx cx' : Cx) (hide : List Nat) (fn : MFun) (d : Option Nat) (s s' : St) : Option St :=
  (results cx' s' fn.res).map fun v => (s.pop cx.lvl hide s'.hp).setd d v

def run (T : Nat → Option MFun) : Nat → Cx → List Item → St → Option St
  | 0, _, _, _ => none
  | n + 1, cx, todo, s => match next T cx todo s with
    | .done s => some s
    | .fail => none
    | .go k s => run T n cx k s
    | .call cx' hide fn e d k s => match run T n cx' [.code fn.body] e with
      | some s' => match back cx cx' hide fn d s s' with
        | some s => run T n cx k s
        | none => none
      | none => none

def HP.empty : HP := ⟨fun _ => [], fun _ => none, 0, fun _ => none⟩
def runFn (T : Nat → Option MFun) (n : Nat) (f : Nat) (args : List AV) (h : HP) : Option (AV × HP) :=
  match T f with
  | some fn => match run T n ⟨0, ⟨0, 0⟩⟩ [.code fn.body] (St.enter args h) with
    | some s => (results ⟨0, ⟨0, 0⟩⟩ s fn.res).map fun v => (v, s.hp)
    | none => none
  | none => none

end Go.Mini
