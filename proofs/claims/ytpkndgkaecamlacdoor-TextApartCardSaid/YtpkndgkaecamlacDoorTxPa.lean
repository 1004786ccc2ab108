/- A part of the proof: what Tx computes, step by step. -/
import GoSem.Dispatch
import Derived.WalkKit
import Derived.Laws.CopyRow
import Derived.Deep.MidRow
import Derived.Orders
import Derived.Deep.AppendSrc
import Derived.Deep.Upon
import Derived.Laws.Slices

set_option linter.unusedSimpArgs false
set_option linter.unusedVariables false
set_option linter.unusedSectionVars false
set_option linter.unnecessarySimpa false
namespace Go.Mini
inductive LK where
 | bool | int (k : IntKind) | str | ptr | slice | func
 deriving DecidableEq,Repr,Inhabited
inductive Ty where
 | leaf (k : LK)
 | arr (n : Nat) (t : Ty)
 | unit
 | cons (a b : Ty)
 deriving DecidableEq,Repr,Inhabited
inductive Id where
 | stk (l s : Nat)
 | obj (n : Nat)
 | arg (n : Nat)
 deriving DecidableEq,Repr,Inhabited
def Id.isArg : Id → Bool
 | .arg _=>true
 | _=>false
inductive AV where
 | bot
 | bool (b : Bool)
 | int (k : IntKind) (n : Int)
 | str (s : ByteArray)
 | nilp
 | ptr (id : Id) (path : List Nat) (ty : Ty)
 | nilsl
 | slz
 | sl (id : Id) (off len : Nat)
 | nilf
 | func (f : Nat) (cap : AV)
 | unit
 | cons (a b : AV)
 | arr (n : Nat) (f : Fin n → AV)
 | tup (v : AV)
 | iface (b : Bool)
instance : Inhabited AV:=⟨.bot⟩
def Ty.size : Ty → Nat
 | .leaf _=>1
 | .arr n t=>n * t.size
 | .unit=>0
 | .cons a b=>a.size + b.size
def LK.zero : LK → AV
 | .bool=>.bool false
 | .int k=>.int k 0
 | .str=>.str ByteArray.empty
 | .ptr=>.nilp
 | .slice=>.nilsl
 | .func=>.nilf
def Ty.zero : Ty → AV
 | .leaf k=>k.zero
 | .arr n t=>.arr n fun _=>t.zero
 | .unit=>.unit
 | .cons a b=>.cons a.zero b.zero
def LK.fits : LK → AV → Bool
 | .bool,.bool _=>true
 | .int k,.int k' _=>k == k'
 | .str,.str _=>true
 | .ptr,.nilp=>true
 | .ptr,.ptr ..=>true
 | .slice,.nilsl=>true
 | .slice,.sl ..=>true
 | .slice,.slz=>true
 | .func,.nilf=>true
 | .func,.func ..=>true
 | _,_=>false
def AV.safe : AV → Bool
 | .ptr (.stk ..) ..=>false
 | .sl (.stk ..) ..=>false
 | .func ..=>false
 | .bot=>false
 | .tup _=>false
 | .unit=>true
 | .cons a b=>a.safe && b.safe
 | .arr n f=>(List.finRange n).all fun i=>(f i).safe
 | _=>true
def Ty.fits : Ty → AV → Bool
 | .leaf k,v=>k.fits v && v.safe
 | .arr n t,.arr m f=>n == m && (List.finRange m).all fun i=>t.fits (f i)
 | .unit,.unit=>true
 | .cons a b,.cons x y=>a.fits x && b.fits y
 | _,_=>false
def AV.at : AV → List Nat → Option AV
 | v,[]=>some v
 | .arr n f,i :: p=>if h : i < n then (f ⟨i,h⟩).at p else none
 | .cons a _,0 :: p=>a.at p
 | .cons _ b,(i + 1) :: p=>b.at (i :: p)
 | _,_=>none
def AV.put : AV → List Nat → AV → Option AV
 | _,[],x=>some x
 | .arr n f,i :: p,x=>if h : i < n then ((f ⟨i,h⟩).put p x).map fun y=>.arr n fun j=>if j.val = i then y else f j else none
 | .cons a b,0 :: p,x=>(a.put p x).map fun y=>.cons y b
 | .cons a b,(i + 1) :: p,x=>(b.put (i :: p) x).map fun y=>.cons a y
 | _,_,_=>none
def AV.field : AV → Nat → Option AV
 | .cons a _,0=>some a
 | .cons _ b,i + 1=>b.field i
 | _,_=>none
def Ty.field : Ty → Nat → Option Ty
 | .cons a _,0=>some a
 | .cons _ b,i + 1=>b.field i
 | _,_=>none
def andEq : Option Bool → Option Bool → Option Bool
 | some true,r=>r
 | some false,_=>some false
 | none,_=>none
def AV.eq : AV → AV → Option Bool
 | .bool a,.bool b=>some (a == b)
 | .int k a,.int k' b=>if k = k' then some (a == b) else none
 | .str a,.str b=>some (a == b)
 | .nilp,.nilp=>some true
 | .nilp,.ptr ..=>some false
 | .ptr ..,.nilp=>some false
 | .ptr i [] t,.ptr j [] u=>if i = j ∧ t = u then some true else none
 | .nilsl,.nilsl=>some true
 | .nilsl,.sl ..=>some false
 | .nilsl,.slz=>some false
 | .sl ..,.nilsl=>some false
 | .slz,.nilsl=>some false
 | .unit,.unit=>some true
 | .cons a b,.cons c d=>andEq (a.eq c) (b.eq d)
 | .arr n f,.arr m g=>if h : n = m then
   (List.finRange n).foldr (fun i acc=>andEq ((f i).eq (g (h ▸ i))) acc) (some true)
  else none
 | _,_=>none
inductive Opd where
 | s (t : Nat)
 | c (v : AV)
 | f (n : Nat)
inductive MK where
 | mov (x : Opd)
 | pick (c a b : Opd)
 | bin (op : BinOp) (x y : Opd)
 | eq (neg : Bool) (t : Ty) (x y : Opd)
 | un (op : UnOp) (x : Opd)
 | alloc (esc : Bool) (t : Ty)
 | box (esc : Bool) (t : Ty) (x : Opd)
 | build (t : Ty) (parts : List (Nat × Opd))
 | bslice (esc : Bool) (t : Ty) (n : Nat) (parts : List (Nat × Opd))
 | load (ro : Bool) (rt : Option Nat) (t : Ty) (x : Opd)
 | store (t : Ty) (ap : List Nat) (x v : Opd)
 | nilck (x : Opd)
 | fld (st : Ty) (i : Nat) (ft : Ty) (x : Opd)
 | idx (n : Nat) (t : Ty) (x i : Opd)
 | sidx (ro : Bool) (t : Ty) (x i : Opd)
 | aidx (n : Nat) (t : Ty) (x i : Opd)
 | stridx (x i : Opd)
 | field (t : Ty) (x : Opd) (i : Nat)
 | ext (x : Opd) (i : Nat)
 | conv (k : IntKind) (x : Opd)
 | len (str : Bool) (x : Opd)
 | min (x y : Opd)
 | max (x y : Opd)
 | append (esc : Bool) (ap : List Nat) (t : Ty) (x y : Opd)
 | slice (rt : Option Nat) (t : Ty) (x : Opd) (lo hi mx : Option Opd)
 | clear (t : Ty) (x : Opd)
 | eqp (neg : Bool) (x y : Opd)
 | call (prot : Bool) (hide : List Nat) (f : Nat) (args : List Opd)
 | callv (prot : Bool) (hide : List Nat) (x : Opd) (args : List Opd)
 | mkfn (f : Nat) (caps : List Opd)
 | stuck
 | strsl (x : Opd) (lo hi : Option Opd)
 | tostr (x : Opd)
 | eqif (neg : Bool) (x y : Opd)
 | appstr (x y : Opd)
 | drop (x : Opd)
 | prim (f : List AV → Option AV) (xs : List Opd)
 | primS (f : List AV → ByteArray → Option AV) (t : Ty) (x y : Opd)
structure MOp where
 d : Option Nat
 k : MK
 g : Option (Nat × Bool):=none
inductive MC where
 | skip
 | reg (draw : Bool) (ops : List MOp) (kill : List Nat)
 | regL (draw : Bool) (lifts : List Nat) (ops : List MOp) (kill : List Nat)
 | seq (a b : MC)
 | cond (c : Opd) (t e : MC)
 | block (id : Nat) (b : MC)
 | loop (keep keepo : List Nat) (b : MC)
 | exit (id : Nat)
 | ret
inductive MRes where
 | tmp (t : Nat)
 | cell (t : Nat) (ty : Ty)
structure MFun where
 params : Nat
 nfree : Nat:=0
 res : List MRes
 body : MC
structure Blk where
 ty : Ty
 val : AV
instance : Inhabited Blk:=⟨.unit,.unit⟩
abbrev Slots:=List (Nat × AV)
abbrev Own:=List (Nat × Blk)
def Slots.get : Slots → Nat → AV
 | [],_=>.bot
 | (t,v) :: s,u=>if t = u then v else Slots.get s u
def Slots.set : Slots → Nat → AV → Slots
 | [],u,x=>[(u,x)]
 | (t,v) :: s,u,x=>if t = u then (u,x) :: s else if u < t then (u,x) :: (t,v) :: s else (t,v) :: Slots.set s u x
def Own.get : Own → Nat → Option Blk
 | [],_=>none
 | (t,v) :: s,u=>if t = u then some v else Own.get s u
def Own.set : Own → Nat → Blk → Own
 | [],u,x=>[(u,x)]
 | (t,v) :: s,u,x=>if t = u then (u,x) :: s else if u < t then (u,x) :: (t,v) :: s else (t,v) :: Own.set s u x
structure HP where
 stk : Nat → Own
 obj : Nat → Option Blk
 next : Nat
 arg : Nat → Option Blk
def HP.look (h : HP) : Id → Option Blk
 | .stk l t=>(h.stk l).get t
 | .obj n=>h.obj n
 | .arg n=>h.arg n
def HP.set (h : HP) (i : Id) (b : Blk) : HP :=
 match i with
 | .stk l t=>{ h with stk:=fun l'=>if l' = l then (h.stk l).set t b else h.stk l' }
 | .obj n=>{ h with obj:=fun n'=>if n' = n then some b else h.obj n' }
 | .arg _=>h
structure Prot where
 lvl : Nat
 obj : Nat
structure St where
 sl : Slots
 own : Own
 hp : HP
structure Cx where
 lvl : Nat
 prot : Prot
def Id.own (i : Id) (l : Nat) : Option Nat :=
 match i with
 | .stk l' t=>if l' = l then some t else none
 | _=>none
def St.look (cx : Cx) (s : St) (i : Id) : Option Blk :=
 match i.own cx.lvl with
 | some t=>s.own.get t
 | none=>s.hp.look i
def St.rd (cx : Cx) (s : St) (i : Id) (p : List Nat) : Option AV:=(s.look cx i).bind fun b=>b.val.at p
def HP.rd (h : HP) (i : Id) (p : List Nat) : Option AV:=(h.look i).bind fun b=>b.val.at p
def Prot.lets (p : Prot) : Id → Bool
 | .stk l _=>p.lvl ≤ l
 | .obj n=>p.obj ≤ n
 | .arg _=>false
def St.write (cx : Cx) (s : St) (i : Id) (b : Blk) : Option St :=
 match i.own cx.lvl with
 | some t=>some { s with own:=s.own.set t b }
 | none=>if cx.prot.lets i then some { s with hp:=s.hp.set i b } else none
def AV.isAgg : AV → Bool
 | .unit=>true
 | .cons ..=>true
 | .arr ..=>true
 | _=>false
def AV.apart (i : Id) : AV → Bool
 | .ptr j ..=>!(j == i)
 | .sl j ..=>!(j == i)
 | _=>false
def AV.into (i : Id) : AV → Bool
 | .ptr j ..=>j == i
 | .sl j ..=>j == i
 | _=>false
def AV.isLeaf : AV → Bool
 | .unit=>false
 | .cons ..=>false
 | .arr ..=>false
 | .tup _=>false
 | _=>true
def AV.names (i : Id) : AV → Bool
 | .ptr j ..=>i == j
 | .sl j ..=>i == j
 | .func _ c=>c.names i
 | .cons a b=>a.names i || b.names i
 | _=>false
def AV.leads (i : Id) (v : AV) : Bool:=!v.isAgg && v.names i
def Slots.forget : Slots → Id → Slots
 | [],_=>[]
 | (t,v) :: s,i=>(t,if v.leads i then .bot else v) :: Slots.forget s i
def has : List Nat → Nat → Bool
 | [],_=>false
 | a :: l,t=>a == t || has l t
def Slots.without : Slots → List Nat → Slots
 | [],_=>[]
 | (t,v) :: s,l=>if has l t then Slots.without s l else (t,v) :: Slots.without s l
def Slots.only : Slots → List Nat → Slots
 | [],_=>[]
 | (t,v) :: s,l=>if has l t then (t,v) :: Slots.only s l else Slots.only s l
def Own.only : Own → List Nat → Own
 | [],_=>[]
 | (t,v) :: s,l=>if has l t then (t,v) :: Own.only s l else Own.only s l
def Own.without : Own → List Nat → Own
 | [],_=>[]
 | (t,v) :: s,l=>if has l t then Own.without s l else (t,v) :: Own.without s l
def Own.veil (o : Own) : List Nat → Own
 | []=>o
 | a :: l=>o.without (a :: l)
def Own.unveil (o m : Own) : List Nat → Own
 | []=>m
 | a :: l=>(o.only (a :: l)).foldr (fun p acc=>Own.set acc p.1 p.2) (m.without (a :: l))
def Own.rid : Own → Nat → Own
 | [],_=>[]
 | (t,v) :: s,u=>if t = u then Own.rid s u else (t,v) :: Own.rid s u
def St.opd (s : St) : Opd → AV
 | .s t=>Slots.get s.sl t
 | .c v=>v
 | .f n=>.func n .unit
inductive Eff where
 | val (v : AV)
 | new (sl : Option Nat) (b : Blk)
 | wr (i : Id) (b : Blk) (v : AV)
 | del (j : Id)
 | grow (j : Id) (b : Blk) (n : Nat)
def AV.ofList (l : List AV) : AV:=.arr l.length fun i=>l.get i
def AV.toList : AV → Option (List AV)
 | .arr _ f=>some (List.ofFn f)
 | _=>none
def Ty.eqOk : Ty → AV → Bool
 | .leaf .bool,.bool _=>true
 | .leaf .ptr,.nilp=>true
 | .leaf .ptr,.ptr _ [] _=>true
 | .leaf .slice,.nilsl=>true
 | .leaf .slice,.sl ..=>true
 | .leaf .slice,.slz=>true
 | .leaf _,_=>false
 | t,v=>t.fits v
def toIx : AV → Option Int
 | .int _ n=>some n
 | _=>none
def evShift (op : BinOp) (k : IntKind) (a b : Int) : Option AV :=
 match op with
 | .shl=>if b < 0 then none else some (.int k (k.wrap (a * 2 ^ (min b.toNat k.bits))))
 | .shr=>if b < 0 then none else some (.int k (a.fdiv (2 ^ (min b.toNat k.bits))))
 | _=>none
def evInt (op : BinOp) (k : IntKind) (a b : Int) : Option AV :=
 match op with
 | .and=>some (.int k (k.wrap (BitVec.ofInt k.bits a &&& BitVec.ofInt k.bits b).toNat))
 | .or=>some (.int k (k.wrap (BitVec.ofInt k.bits a ||| BitVec.ofInt k.bits b).toNat))
 | .xor=>some (.int k (k.wrap (BitVec.ofInt k.bits a ^^^ BitVec.ofInt k.bits b).toNat))
 | .andNot=>some (.int k (k.wrap (BitVec.ofInt k.bits a &&& ~~~BitVec.ofInt k.bits b).toNat))
 | .shl=>evShift .shl k a b
 | .shr=>evShift .shr k a b
 | .eql=>some (.bool (a == b))
 | .neq=>some (.bool (a != b))
 | .add=>some (.int k (k.wrap (a + b)))
 | .sub=>some (.int k (k.wrap (a - b)))
 | .mul=>some (.int k (k.wrap (a * b)))
 | .quo=>if b = 0 then none else some (.int k (k.wrap (a.tdiv b)))
 | .rem=>if b = 0 then none else some (.int k (a.tmod b))
 | .lss=>some (.bool (decide (a < b)))
 | .leq=>some (.bool (decide (a ≤ b)))
 | .gtr=>some (.bool (decide (a > b)))
 | .geq=>some (.bool (decide (a ≥ b)))
def evStr (op : BinOp) (a b : ByteArray) : Option AV :=
 match op with
 | .eql=>some (.bool (a.toList == b.toList))
 | .neq=>some (.bool (!(a.toList == b.toList)))
 | .add=>if ((a.size + b.size : Nat) : Int) > IntKind.i64.max then none else some (.str (a ++ b))
 | .lss=>some (.bool (Op.bytesLess a.toList b.toList))
 | .leq=>some (.bool (Op.bytesLess a.toList b.toList || a.toList == b.toList))
 | .gtr=>some (.bool (!(Op.bytesLess a.toList b.toList || a.toList == b.toList)))
 | .geq=>some (.bool (!(Op.bytesLess a.toList b.toList)))
 | _=>none
def evBin (op : BinOp) (x y : AV) : Option AV :=
 match x,y with
 | .int k a,.int k' b=>if k = k' then evInt op k a b else evShift op k a b
 | .str a,.str b=>evStr op a b
 | _,_=>none
def evUn (op : UnOp) (x : AV) : Option AV :=
 match op,x with
 | .not,.bool b=>some (.bool !b)
 | .neg,.int k n=>some (.int k (k.wrap (0 - n)))
 | _,_=>none
def Ty.find : Ty → List Nat → Option (Nat × Ty)
 | t,[]=>some (0,t)
 | .arr n t,i :: p=>if i < n then (t.find p).map fun q=>(i * t.size + q.1,q.2) else none
 | .cons a _,0 :: p=>a.find p
 | .cons a b,(i + 1) :: p=>(b.find (i :: p)).map fun q=>(a.size + q.1,q.2)
 | _,_=>none
def Ty.part : Ty → Nat → Option Ty
 | .arr n t,i=>if i < n then some t else none
 | .cons a _,0=>some a
 | .cons _ b,i + 1=>b.part i
 | _,_=>none
def fill (t : Ty) (v : AV) : List (Nat × AV) → Option AV
 | []=>some v
 | (i,x) :: r=>match t.part i with
  | some u=>if u.fits x then match v.put [i] x with
    | some w=>fill t w r
    | none=>none
   else none
  | none=>none
def bytesOf : List AV → Option (List UInt8)
 | []=>some []
 | .int .u8 n :: r=>(bytesOf r).map (UInt8.ofNat n.toNat :: ·)
 | _=>none
def ixOr (g : Opd → AV) (o : Option Opd) (d : Int) : Option Int :=
 match o with
 | some x=>toIx (g x)
 | none=>some d
def evStrsl (b : ByteArray) (lo hi : Option Int) : Option AV :=
 match lo,hi with
 | some a,some c=>if 0 ≤ a ∧ a ≤ c ∧ c ≤ (b.size : Int) then some (.str (b.extract a.toNat c.toNat)) else none
 | _,_=>none
def elems (look : Id → Option Blk) (t : Ty) : AV → Option (List AV)
 | .nilsl=>some []
 | .slz=>some []
 | .sl j off len=>match look j with
  | some ⟨.arr _ t',v⟩=>match v.toList with
   | some l=>if t = t' ∧ off + len ≤ l.length then some ((l.drop off).take len) else none
   | none=>none
  | _=>none
 | _=>none
def evAppend (look : Id → Option Blk) (t : Ty) (x : AV) (add : List AV) : Option Eff :=
 match x with
 | .nilsl=>if add.length = 0 then some (.val .nilsl) else
   if (Ty.arr add.length t).fits (.ofList add) = true ∧ add.length ≤ 1048576 then some (.new (some add.length) ⟨.arr add.length t,.ofList add⟩) else none
 | .sl j off len=>match look j with
  | some ⟨.arr _ t',v⟩=>match v.toList with
   | some l=>if t = t' then
     if off + len + add.length ≤ l.length then
      if (Ty.arr l.length t).fits (.ofList (l.take (off + len) ++ add ++ l.drop (off + len + add.length))) then
       some (.wr j ⟨.arr l.length t,.ofList (l.take (off + len) ++ add ++ l.drop (off + len + add.length))⟩ (.sl j off (len + add.length)))
      else none
     else if off + len ≤ l.length then
      if (Ty.arr (len + add.length) t).fits (.ofList ((l.drop off).take len ++ add)) = true ∧ len + add.length ≤ 1048576 then
       some (.grow j ⟨.arr (len + add.length) t,.ofList ((l.drop off).take len ++ add)⟩ (len + add.length))
      else none
     else none
    else none
   | none=>none
  | _=>none
 | _=>none
def Id.isStk : Id → Bool
 | .stk ..=>true
 | _=>false
def rooted (g : Opd → AV) (i : Id) : Option Nat → Bool
 | some u=>if u = 1000000 then !i.isStk else if u = 1000001 then i.isStk else (g (.s u)).into i
 | none=>true
def apartU (g : Opd → AV) (i : Id) (u : Nat) : Bool:=if u = 1000000 then i.isStk else (g (.s u)).apart i
def Eff.isWr : Eff → Bool
 | .wr ..=>true
 | _=>false
def AV.offStk : AV → Bool
 | .nilsl=>true
 | .sl (.stk ..) _ _=>false
 | .sl ..=>true
 | _=>false
def AV.offObj : AV → Bool
 | .sl (.obj _) _ _=>false
 | _=>true
def AV.isNilsl : AV → Bool
 | .nilsl=>true
 | _=>false
def apOk (g : Opd → AV) (v y : AV) (e : Eff) (u : Nat) : Bool :=
 if u = 1000002 then v.isNilsl else if u = 1000003 then !e.isWr && v.offStk && y.offObj else match v with
  | .sl j _ _=>(g (.s u)).apart j
  | _=>true
def rootNil (g : Opd → AV) (rt : Option Nat) : Bool :=
 match rt with
 | none=>true
 | some u=>u == 1000000 || u == 1000001 || (match g (.s u) with | .nilsl=>true | .slz=>true | _=>false)
def evSlice (look : Id → Option Blk) (t : Ty) (j : Id) (off : Nat) (a b : Int) (mx : Option (Option Int)) : Option Eff :=
 match look j with
 | some ⟨.arr n t',_⟩=>if t = t' ∧ 0 ≤ a ∧ a ≤ b ∧ (off : Int) + b ≤ (n : Int) then
   match mx with
   | none=>if off + a.toNat < n ∨ a = 0 then some (.val (.sl j (off + a.toNat) (b - a).toNat)) else some (.val .slz)
   | some (some c)=>if b ≤ c ∧ (off : Int) + c ≤ (n : Int) then some (.val .bot) else none
   | some none=>none
  else none
 | _=>none
def evClear (look : Id → Option Blk) (t : Ty) (v : AV) : Option Eff :=
 match v with
 | .nilsl=>some (.val .bot)
 | .slz=>some (.val .bot)
 | .sl j off len=>match look j with
  | some ⟨.arr _ t',w⟩=>match w.toList with
   | some l=>if t = t' ∧ off + len ≤ l.length then
     if (Ty.arr l.length t).fits (.ofList (l.take off ++ List.replicate len t.zero ++ l.drop (off + len))) = true then
      some (.wr j ⟨.arr l.length t,.ofList (l.take off ++ List.replicate len t.zero ++ l.drop (off + len))⟩ .bot)
     else none
    else none
   | none=>none
  | _=>none
 | _=>none
def eqPtr (look : Id → Option Blk) : AV → AV → Option Bool
 | .nilp,.nilp=>some true
 | .nilp,.ptr ..=>some false
 | .ptr ..,.nilp=>some false
 | .ptr i [] t,.ptr j [] u=>if i = j ∧ t = u then some true
   else if ¬i = j ∧ (look i).isSome = true ∧ (look j).isSome = true ∧ i.isArg = false ∧ j.isArg = false then some false else none
 | _,_=>none
def evK (g : Opd → AV) (look : Id → Option Blk) (k : MK) : Option Eff :=
 match k with
 | .mov x=>some (.val (g x))
 | .pick c a b=>match g c with
  | .bool true=>some (.val (g a))
  | .bool false=>some (.val (g b))
  | _=>none
 | .bin op x y=>(evBin op (g x) (g y)).map .val
 | .eq neg t x y=>if t.eqOk (g x) && t.eqOk (g y) then ((g x).eq (g y)).map fun b=>.val (.bool (if neg then !b else b)) else none
 | .un op x=>(evUn op (g x)).map .val
 | .alloc _ t=>some (.new none ⟨t,t.zero⟩)
 | .box _ t x=>if t.fits (g x) then some (.new none ⟨t,g x⟩) else none
 | .build t ps=>(fill t t.zero (ps.map fun p=>(p.1,g p.2))).map .val
 | .bslice _ t n ps=>(fill (.arr n t) (Ty.arr n t).zero (ps.map fun p=>(p.1,g p.2))).map fun v=>.new (some n) ⟨.arr n t,v⟩
 | .load ro rt t x=>match g x with
  | .ptr i p t'=>if t = t' ∧ (ro = true → i.isArg = true) ∧ rooted g i rt = true then
    match (look i).bind fun b=>b.val.at p with
    | some v=>if t.fits v then some (.val v) else none
    | none=>none
   else none
  | _=>none
 | .store t ap x v=>match g x with
  | .ptr i p t'=>if t = t' ∧ t.fits (g v) = true ∧ (ap.all fun u=>apartU g i u) = true then
    match look i with
    | some b=>match b.val.put p (g v) with
     | some u=>some (.wr i ⟨b.ty,u⟩ .bot)
     | none=>none
    | none=>none
   else none
  | _=>none
 | .nilck x=>match g x with
  | .ptr i p t=>some (.val (.ptr i p t))
  | _=>none
 | .fld st i ft x=>match g x with
  | .ptr j p t=>if t = st ∧ st.field i = some ft then some (.val (.ptr j (p ++ [i]) ft)) else none
  | _=>none
 | .idx n t x i=>match g x,toIx (g i) with
  | .ptr j p t',some z=>if t' = .arr n t ∧ 0 ≤ z ∧ z < (n : Int) then some (.val (.ptr j (p ++ [z.toNat]) t)) else none
  | _,_=>none
 | .sidx ro t x i=>match g x,toIx (g i) with
  | .sl j off len,some z=>if 0 ≤ z ∧ z < (len : Int) ∧ (ro = true → j.isArg = true) then
    match look j with
    | some ⟨.arr _ t',_⟩=>if t = t' then some (.val (.ptr j [off + z.toNat] t)) else none
    | _=>none
   else none
  | _,_=>none
 | .aidx n t x i=>match g x,toIx (g i) with
  | .arr m f,some z=>if h : 0 ≤ z ∧ z < (m : Int) then if (Ty.arr n t).fits (.arr m f) then some (.val (f ⟨z.toNat,by omega⟩)) else none else none
  | _,_=>none
 | .stridx x i=>match g x,toIx (g i) with
  | .str b,some z=>if 0 ≤ z then (b[z.toNat]?).map fun c=>.val (.int .u8 c.toNat) else none
  | _,_=>none
 | .field t x i=>if t.fits (g x) then ((g x).field i).map .val else none
 | .ext x i=>match g x with
  | .tup v=>match v.field i with
   | some u=>if u.safe then some (.val u) else none
   | none=>none
  | _=>none
 | .conv k x=>match g x with
  | .int _ n=>some (.val (.int k (k.wrap n)))
  | _=>none
 | .len str x=>match str,g x with
  | true,.str b=>some (.val (.int .i64 b.size))
  | false,.nilsl=>some (.val (.int .i64 0))
  | false,.sl _ _ n=>some (.val (.int .i64 n))
  | false,.slz=>some (.val (.int .i64 0))
  | _,_=>none
 | .min x y=>match g x,g y with
  | .int k a,.int k' b=>if k = k' then some (.val (.int k (if b < a then b else a))) else none
  | _,_=>none
 | .max x y=>match g x,g y with
  | .int k a,.int k' b=>if k = k' then some (.val (.int k (if a < b then b else a))) else none
  | _,_=>none
 | .mkfn f caps=>if caps.all (fun y=>(g y).isLeaf) then some (.val (.func f (caps.foldr (fun x acc=>.cons (g x) acc) .unit))) else none
 | .append _ ap t x y=>match elems look t (g y) with
  | some add=>match evAppend look t (g x) add with
   | some e=>if ap.all (apOk g (g x) (g y) e) = true then some e else none
   | none=>none
  | none=>none
 | .clear t x=>evClear look t (g x)
 | .eqp neg x y=>(eqPtr look (g x) (g y)).map fun b=>.val (.bool (if neg then !b else b))
 | .slice rt t x lo hi mx=>match g x with
  | .sl j off len =>
   match ixOr g lo 0,ixOr g hi len with
   | some a,some b=>if rooted g j rt = true then evSlice look t j off a b (mx.map fun o=>toIx (g o)) else none
   | _,_=>none
  | .nilsl =>
   match ixOr g lo 0,ixOr g hi 0,mx with
   | some 0,some 0,none=>if rootNil g rt = true then some (.val .nilsl) else none
   | _,_,_=>none
  | .slz =>
   match ixOr g lo 0,ixOr g hi 0,mx with
   | some 0,some 0,none=>if rootNil g rt = true then some (.val .slz) else none
   | _,_,_=>none
  | _=>none
 | .call ..=>none
 | .callv ..=>none
 | .stuck=>none
 | .strsl x lo hi=>match g x with
  | .str b=>(evStrsl b (ixOr g lo 0) (ixOr g hi b.size)).map .val
  | _=>none
 | .tostr x=>match elems look (.leaf (.int .u8)) (g x) with
  | some l=>(bytesOf l).map fun b=>.val (.str ⟨b.toArray⟩)
  | none=>none
 | .eqif neg x y=>match g x,g y with
  | .iface b,.iface false=>some (.val (.bool (if neg then b else !b)))
  | _,_=>none
 | .appstr x y=>match g y with
  | .str b=>evAppend look (.leaf (.int .u8)) (g x) (b.data.toList.map fun c=>.int .u8 c.toNat)
  | _=>none
 | .drop x=>match g x with
  | .sl j _ _=>some (.del j)
  | .nilsl=>some (.val .bot)
  | .slz=>some (.val .bot)
  | _=>none
 | .prim f xs=>match f (xs.map g) with
  | some v=>if v.safe = true then some (.val v) else none
  | none=>none
 | .primS f t x y=>match elems look t (g x),g y with
  | some l,.str b=>match f l b with
   | some v=>if v.safe = true then some (.val v) else none
   | none=>none
  | _,_=>none
def MK.esc : MK → Bool
 | .alloc e _=>e
 | .box e _ _=>e
 | .bslice e _ _ _=>e
 | .append e _ _ _ _=>e
 | .appstr ..=>true
 | _=>false
def St.fresh (cx : Cx) (s : St) (esc : Bool) (d : Nat) (b : Blk) : Id × St :=
 if esc then (.obj s.hp.next,{ s with hp:={ s.hp with obj:=fun n=>if n = s.hp.next then some b else s.hp.obj n,next:=s.hp.next + 1 } })
 else (.stk cx.lvl d,{ s with sl:=Slots.forget s.sl (.stk cx.lvl d),own:=s.own.set d b })
def St.drop (cx : Cx) (s : St) (i : Id) : Option St :=
 match i.own cx.lvl with
 | some t=>some { s with own:=s.own.rid t }
 | none=>match i with
  | .obj n=>if cx.prot.lets i then some { s with hp:={ s.hp with obj:=fun n'=>if n' = n then none else s.hp.obj n' } } else none
  | _=>none
def newVal (i : Id) (sl : Option Nat) (b : Blk) : AV :=
 match sl with
 | some n=>.sl i 0 n
 | none=>.ptr i [] b.ty
def applyEff (cx : Cx) (d : Option Nat) (esc : Bool) (s : St) : Eff → Option (AV × St)
 | .val v=>some (v,s)
 | .new sl b=>match d with
  | some d=>let r:=s.fresh cx esc d b; some (newVal r.1 sl b,r.2)
  | none=>none
 | .wr i b v=>(s.write cx i b).map fun s'=>(v,s')
 | .del j=>(s.drop cx j).map fun s=>(.bot,s)
 | .grow j b n=>match d with
  | some d=>(s.drop cx j).map fun s=>let r:=s.fresh cx esc d b; (newVal r.1 (some n) b,r.2)
  | none=>none
def evOp (cx : Cx) (d : Option Nat) (k : MK) (s : St) : Option (AV × St) :=
 match evK s.opd (s.look cx) k with
 | some e=>applyEff cx d k.esc s e
 | none=>none
inductive Item where
 | ops (l : List MOp) (kill : List Nat)
 | code (c : MC)
 | inBlock (id : Nat)
 | inLoop (keep keepo : List Nat) (b : MC)
def exitTo (id : Nat) : List Item → Option (List Item)
 | []=>none
 | .inBlock j :: k=>if j = id then some k else exitTo id k
 | _ :: k=>exitTo id k
def St.setd (s : St) (d : Option Nat) (v : AV) : St :=
 match d with
 | some d=>{ s with sl:=Slots.set s.sl d v }
 | none=>s
def St.kill (s : St) (l : List Nat) : St:={ s with sl:=s.sl.without l }
def St.keep (s : St) (l o : List Nat) : St:={ s with sl:=s.sl.only l,own:=s.own.only o }
def AV.undef : AV:=.tup .unit
def St.wanted (s : St) (g : Option (Nat × Bool)) : Option Bool :=
 match g with
 | none=>some true
 | some (t,b)=>match Slots.get s.sl t with
  | .bool c=>some (c == b)
  | .tup .unit=>some false
  | _=>none
def HP.push (h : HP) (l : Nat) (o : Own) : HP:={ h with stk:=fun l'=>if l' = l then o else h.stk l' }
def HP.pop (h h' : HP) (l : Nat) : HP:={ h' with stk:=fun l'=>if l' = l then h.stk l else h'.stk l' }
def St.pop (s : St) (l : Nat) (hide : List Nat) (h' : HP) : St:={ s with own:=s.own.unveil (h'.stk l) hide,hp:=s.hp.pop h' l }
def St.callCx (s : St) (cx : Cx) (prot : Bool) (hide : List Nat:=[]) : Cx:=⟨cx.lvl + 1,if prot then ⟨cx.lvl + 1,s.hp.next⟩ else if has hide 1000000 then ⟨cx.lvl + 1,cx.prot.obj⟩ else cx.prot⟩
def enterSlots : Nat → List AV → Slots
 | _,[]=>[]
 | n,v :: r=>(n,v) :: enterSlots (n + 1) r
def St.enter (args : List AV) (h : HP) : St:=⟨enterSlots 0 args,[],h⟩
def resOf (cx : Cx) (s : St) : MRes → Option AV
 | .tmp t=>let v:=Slots.get s.sl t; if v.safe then some v else none
 | .cell t ty=>match Slots.get s.sl t with
  | .ptr i [] t'=>if ty = t' then (s.look cx i).bind fun b=>if b.ty = ty ∧ (b.val.isAgg || b.val.safe) = true then some b.val else none else none
  | _=>none
def resList (cx : Cx) (s : St) : List MRes → Option AV
 | []=>some .unit
 | r :: rs=>match resOf cx s r,resList cx s rs with
  | some v,some w=>some (.cons v w)
  | _,_=>none
def results (cx : Cx) (s : St) : List MRes → Option AV
 | [r]=>resOf cx s r
 | l=>(resList cx s l).map .tup
def capList : AV → List AV
 | .cons a b=>a :: capList b
 | _=>[]
def MOp.site (o : MOp) : Option Nat :=
 match o.k with
 | .alloc false _=>o.d
 | .box false _ _=>o.d
 | .bslice false _ _ _=>o.d
 | .append false _ _ _ _=>o.d
 | _=>none
def drawHead (cx : Cx) (s : St) (l : List MOp) : Bool :=
 l.all fun o=>match o.site with
  | some d=>(s.own.get d).isNone && s.sl.all fun p=>!(p.2.leads (.stk cx.lvl d))
  | none=>true
def St.lift (cx : Cx) (s : St) (t : Nat) : Option St :=
 match Slots.get s.sl t with
 | .nilsl=>some s
 | .sl (.stk l u) off len=>if l = cx.lvl then match s.own.get u with
   | some b=>some { sl:=Slots.set (Slots.forget s.sl (.stk l u)) t (.sl (.obj s.hp.next) off len),own:=s.own.rid u,hp:={ s.hp with obj:=fun n=>if n = s.hp.next then some b else s.hp.obj n,next:=s.hp.next + 1 } }
   | none=>none
  else none
 | _=>none
def St.lifts (cx : Cx) : List Nat → St → Option St
 | [],s=>some s
 | t :: r,s=>(s.lift cx t).bind (St.lifts cx r)
inductive Cmd where
 | done (s : St)
 | fail
 | go (todo : List Item) (s : St)
 | call (cx' : Cx) (hide : List Nat) (fn : MFun) (e : St) (d : Option Nat) (todo : List Item) (s : St)
def enterCmd (T : Nat → Option MFun) (cx : Cx) (prot : Bool) (hide : List Nat) (f : Nat) (args caps : List AV) (d : Option Nat) (todo : List Item) (s : St) : Cmd :=
 match T f with
 | some fn=>if fn.params = args.length ∧ fn.nfree = caps.length then
   .call (s.callCx cx prot hide) hide fn (St.enter (args ++ caps) (s.hp.push cx.lvl (s.own.veil hide))) d todo s else .fail
 | none=>.fail
def opCmd (T : Nat → Option MFun) (cx : Cx) (d : Option Nat) (k : MK) (todo : List Item) (s : St) : Cmd :=
 match k with
 | .call prot hide f args=>enterCmd T cx prot hide f (args.map s.opd) [] d todo s
 | .callv prot hide x args=>match s.opd x with
  | .func f cap=>enterCmd T cx prot hide f (args.map s.opd) (capList cap) d todo s
  | _=>.fail
 | k=>match evOp cx d k s with
  | some (v,s')=>.go todo (s'.setd d v)
  | none=>.fail
def next (T : Nat → Option MFun) (cx : Cx) : List Item → St → Cmd
 | [],s=>.done s
 | .inBlock _ :: k,s=>.go k s
 | .inLoop keep ko b :: k,s=>.go (.code b :: .inLoop keep ko b :: k) (s.keep keep ko)
 | .code .skip :: k,s=>.go k s
 | .code (.reg draw ops kill) :: k,s=>if draw && !drawHead cx s ops then .fail else .go (.ops ops kill :: k) s
 | .code (.regL draw lifts ops kill) :: k,s=>match s.lifts cx lifts with
  | some s=>if draw && !drawHead cx s ops then .fail else .go (.ops ops kill :: k) s
  | none=>.fail
 | .code (.seq a b) :: k,s=>.go (.code a :: .code b :: k) s
 | .code (.cond c t e) :: k,s=>match s.opd c with
  | .bool b=>.go (.code (if b then t else e) :: k) s
  | _=>.fail
 | .code (.block id b) :: k,s=>.go (.code b :: .inBlock id :: k) s
 | .code (.loop keep ko b) :: k,s=>.go (.code b :: .inLoop keep ko b :: k) (s.keep keep ko)
 | .code (.exit id) :: k,s=>match exitTo id k with
  | some k'=>.go k' s
  | none=>.fail
 | .code .ret :: _,s=>.done s
 | .ops [] kill :: k,s=>.go k (s.kill kill)
 | .ops (o :: r) kill :: k,s=>match s.wanted o.g with
  | none=>.fail
  | some false=>.go (.ops r kill :: k) (s.setd o.d .undef)
  | some true=>opCmd T cx o.d o.k (.ops r kill :: k) s
def back (cx cx' : Cx) (hide : List Nat) (fn : MFun) (d : Option Nat) (s s' : St) : Option St :=
 (results cx' s' fn.res).map fun v=>(s.pop cx.lvl hide s'.hp).setd d v
def run (T : Nat → Option MFun) : Nat → Cx → List Item → St → Option St
 | 0,_,_,_=>none
 | n + 1,cx,todo,s=>match next T cx todo s with
  | .done s=>some s
  | .fail=>none
  | .go k s=>run T n cx k s
  | .call cx' hide fn e d k s=>match run T n cx' [.code fn.body] e with
   | some s'=>match back cx cx' hide fn d s s' with
    | some s=>run T n cx k s
    | none=>none
   | none=>none
def HP.empty : HP:=⟨fun _=>[],fun _=>none,0,fun _=>none⟩
def runFn (T : Nat → Option MFun) (n : Nat) (f : Nat) (args : List AV) (h : HP) : Option (AV × HP) :=
 match T f with
 | some fn=>match run T n ⟨0,⟨0,0⟩⟩ [.code fn.body] (St.enter args h) with
  | some s=>(results ⟨0,⟨0,0⟩⟩ s fn.res).map fun v=>(v,s.hp)
  | none=>none
 | none=>none
theorem run_mono {T : Nat → Option MFun} : ∀ {n : Nat} {cx : Cx} {k : List Item} {s r : St},run T n cx k s = some r → run T (n + 1) cx k s = some r:=by
 intro n
 induction n with
 | zero=>intro cx k s r h; simp [run] at h
 | succ n ih =>
  intro cx k s r h
  rw [run] at h ⊢
  split at h
  ·exact h
  ·exact absurd h (by simp)
  ·exact ih h
  ·rename_i cx' hide fn e d k' s1 hn
   cases h1 : run T n cx' [.code fn.body] e with
   | none=>rw [h1] at h; exact absurd h (by simp)
   | some s' =>
    rw [h1] at h
    rw [ih h1]
    dsimp only at h ⊢
    cases h2 : back cx cx' hide fn d s1 s' with
    | none=>rw [h2] at h; exact absurd h (by simp)
    | some s2=>rw [h2] at h; exact ih h
theorem run_le {T : Nat → Option MFun} {n m : Nat} (hm : n ≤ m) {cx : Cx} {k : List Item} {s r : St} (h : run T n cx k s = some r) : run T m cx k s = some r:=by
 obtain ⟨d,rfl⟩:=Nat.le.dest hm
 clear hm
 induction d with
 | zero=>exact h
 | succ d ih=>exact run_mono ih
def W (T : Nat → Option MFun) (cx : Cx) (k : List Item) (s : St) (Q : St → Prop) : Prop:=∃ n s',run T n cx k s = some s' ∧ Q s'
theorem W_done {T : Nat → Option MFun} {cx : Cx} {k : List Item} {s s1 : St} {Q : St → Prop} (h : next T cx k s = .done s1) (hq : Q s1) : W T cx k s Q :=
 ⟨1,s1,by simp [run,h],hq⟩
theorem W_go {T : Nat → Option MFun} {cx : Cx} {k k1 : List Item} {s s1 : St} {Q : St → Prop} (h : next T cx k s = .go k1 s1) (hq : W T cx k1 s1 Q) : W T cx k s Q:=by
 obtain ⟨n,s',hr,hq⟩:=hq
 exact ⟨n + 1,s',by simp [run,h,hr],hq⟩
def Ok (T : Nat → Option MFun) (cx : Cx) (fn : MFun) (e : St) (R : AV → HP → Prop) : Prop:=∃ n s' v,run T n cx [.code fn.body] e = some s' ∧ results cx s' fn.res = some v ∧ R v s'.hp
theorem W_call {T : Nat → Option MFun} {cx cx' : Cx} {hide : List Nat} {k k1 : List Item} {s s1 e : St} {fn : MFun} {d : Option Nat} {Q : St → Prop} {R : AV → HP → Prop}
  (h : next T cx k s = .call cx' hide fn e d k1 s1) (hc : Ok T cx' fn e R) (hq : ∀ v h',R v h' → W T cx k1 ((s1.pop cx.lvl hide h').setd d v) Q) : W T cx k s Q:=by
 obtain ⟨n,s',v,hr,hv,hR⟩:=hc
 obtain ⟨m,s2,hr2,hQ⟩:=hq v _ hR
 refine ⟨max n m + 1,s2,?_,hQ⟩
 have h1:=run_le (Nat.le_max_left n m) hr
 have h2:=run_le (Nat.le_max_right n m) hr2
 simp only [run,h,h1,back,hv,Option.map]
 exact h2
theorem W_loop {T : Nat → Option MFun} {cx : Cx} {keep ko : List Nat} {b : MC} {k : List Item} {s : St} {Q : St → Prop} (N : Nat) (J : Nat → St → Prop) (h0 : J 0 (s.keep keep ko))
  (step : ∀ j s,j ≤ N → J j s → (∀ s',j < N → J (j + 1) (s'.keep keep ko) → W T cx (.inLoop keep ko b :: k) s' Q) → W T cx (.code b :: .inLoop keep ko b :: k) s Q) :
  W T cx (.code (.loop keep ko b) :: k) s Q:=by
 have key : ∀ d j s,N - j = d → j ≤ N → J j s → W T cx (.code b :: .inLoop keep ko b :: k) s Q:=by
  intro d
  induction d with
  | zero=>intro j s hd hj hJ; exact step j s hj hJ fun s' hlt _=>by omega
  | succ d ih =>
   intro j s hd hj hJ
   exact step j s hj hJ fun s' hlt hJ'=>W_go rfl (ih (j + 1) _ (by omega) (by omega) hJ')
 exact W_go rfl (key _ 0 _ rfl (Nat.zero_le _) h0)
def AV.flat : AV → List AV
 | .unit=>[]
 | .cons a b=>a.flat ++ b.flat
 | .arr n f=>(List.finRange n).flatMap fun i=>(f i).flat
 | v=>[v]
def Ty.isAgg : Ty → Bool
 | .leaf _=>false
 | _=>true
theorem LK.fits_flat {k : LK} {v : AV} (h : k.fits v = true) : v.flat = [v] ∧ v.isAgg = false:=by
 cases k <;> cases v <;> simp_all [LK.fits,AV.flat,AV.isAgg]
theorem Ty.fits_isAgg {t : Ty} {v : AV} (h : t.fits v = true) : v.isAgg = t.isAgg:=by
 cases t with
 | leaf k=>simp [Ty.fits] at h; simp [(LK.fits_flat h.1).2,Ty.isAgg]
 | arr n t=>cases v <;> simp_all [Ty.fits,AV.isAgg,Ty.isAgg]
 | unit=>cases v <;> simp_all [Ty.fits,AV.isAgg,Ty.isAgg]
 | cons a b=>cases v <;> simp_all [Ty.fits,AV.isAgg,Ty.isAgg]
theorem length_flatMap_const {α β : Type} (l : List α) (g : α → List β) (c : Nat) (h : ∀ x ∈ l,(g x).length = c) : (l.flatMap g).length = l.length * c:=by
 induction l with
 | nil=>simp
 | cons a l ih =>
  simp only [List.flatMap_cons,List.length_append,List.length_cons]
  rw [h a (by simp),ih (fun x hx=>h x (by simp [hx])),Nat.add_mul]
  omega
theorem Ty.fits_length {t : Ty} : ∀ {v : AV},t.fits v = true → v.flat.length = t.size:=by
 induction t with
 | leaf k=>intro v h; simp [Ty.fits] at h; simp [(LK.fits_flat h.1).1,Ty.size]
 | arr n t ih =>
  intro v h
  cases v <;> simp [Ty.fits] at h
  obtain ⟨rfl,h⟩:=h
  simp only [AV.flat,Ty.size]
  rw [length_flatMap_const _ _ t.size fun i _=>ih (h i),List.length_finRange]
 | unit=>intro v h; cases v <;> simp_all [Ty.fits,AV.flat,Ty.size]
 | cons a b iha ihb =>
  intro v h
  cases v <;> simp [Ty.fits] at h
  simp [AV.flat,Ty.size,iha h.1,ihb h.2]
theorem Ty.fits_safe {t : Ty} : ∀ {v : AV},t.fits v = true → v.safe = true:=by
 induction t with
 | leaf k=>intro v h; simp [Ty.fits] at h; exact h.2
 | arr n t ih =>
  intro v h
  cases v <;> simp [Ty.fits] at h
  obtain ⟨rfl,h⟩:=h
  simp only [AV.safe,List.all_eq_true]
  exact fun i _=>ih (h i)
 | unit=>intro v h; cases v <;> simp_all [Ty.fits,AV.safe]
 | cons a b iha ihb =>
  intro v h
  cases v <;> simp [Ty.fits] at h
  simp [AV.safe,iha h.1,ihb h.2]
theorem getElem?_flatMap_const {α β : Type} (l : List α) (g : α → List β) (c : Nat) (h : ∀ x ∈ l,(g x).length = c) (i : Nat) (hi : i < l.length) (k : Nat) (hk : k < c) :
  (l.flatMap g)[i * c + k]? = (g (l[i]))[k]?:=by
 induction l generalizing i with
 | nil=>simp at hi
 | cons a l ih =>
  simp only [List.flatMap_cons]
  have ha:=h a (by simp)
  cases i with
  | zero=>simp only [Nat.zero_mul,Nat.zero_add]; rw [List.getElem?_append_left (by omega)]; rfl
  | succ i =>
   rw [List.getElem?_append_right (by rw [ha,Nat.add_mul]; omega),ha]
   have : (i + 1) * c + k - c = i * c + k:=by rw [Nat.add_mul]; omega
   rw [this]
   exact ih (fun x hx=>h x (by simp [hx])) i (by simpa using hi)
theorem Ty.find_size {t : Ty} : ∀ {p : List Nat} {o : Nat} {u : Ty},t.find p = some (o,u) → o + u.size ≤ t.size:=by
 induction t with
 | leaf k=>intro p o u h; cases p <;> simp [Ty.find] at h; obtain ⟨rfl,rfl⟩:=h; simp
 | unit=>intro p o u h; cases p <;> simp [Ty.find] at h; obtain ⟨rfl,rfl⟩:=h; simp
 | arr n t ih =>
  intro p o u h
  cases p with
  | nil=>simp [Ty.find] at h; obtain ⟨rfl,rfl⟩:=h; simp
  | cons i p =>
   simp only [Ty.find] at h
   split at h
   ·rename_i hi
    cases hf : t.find p with
    | none=>simp [hf] at h
    | some q =>
     simp [hf] at h
     obtain ⟨rfl,rfl⟩:=h
     have:=ih (p:=p) (o:=q.1) (u:=q.2) hf
     have h1 : (i + 1) * t.size ≤ n * t.size:=Nat.mul_le_mul_right _ hi
     rw [Nat.add_mul] at h1
     simp only [Ty.size]
     omega
   ·simp at h
 | cons a b iha ihb =>
  intro p o u h
  cases p with
  | nil=>simp [Ty.find] at h; obtain ⟨rfl,rfl⟩:=h; simp
  | cons i p =>
   cases i with
   | zero=>simp only [Ty.find] at h; have:=iha h; simp only [Ty.size]; omega
   | succ i =>
    simp only [Ty.find] at h
    cases hf : b.find (i :: p) with
    | none=>simp [hf] at h
    | some q =>
     simp [hf] at h
     obtain ⟨rfl,rfl⟩:=h
     have:=ihb (p:=i :: p) (o:=q.1) (u:=q.2) hf
     simp only [Ty.size]
     omega
theorem Ty.fits_at {t : Ty} : ∀ {v : AV} {p : List Nat} {o : Nat} {u : Ty} {x : AV},t.fits v = true → t.find p = some (o,u) → v.at p = some x →
  u.fits x = true ∧ ∀ k,k < u.size → v.flat[o + k]? = x.flat[k]?:=by
 induction t with
 | leaf k =>
  intro v p o u x hf h hx
  cases p with
  | nil=>simp [Ty.find] at h; obtain ⟨rfl,rfl⟩:=h; simp [AV.at] at hx; subst hx; exact ⟨hf,fun k _=>by simp⟩
  | cons i p=>simp [Ty.find] at h
 | unit =>
  intro v p o u x hf h hx
  cases p with
  | nil=>simp [Ty.find] at h; obtain ⟨rfl,rfl⟩:=h; simp [AV.at] at hx; subst hx; exact ⟨hf,fun k _=>by simp⟩
  | cons i p=>simp [Ty.find] at h
 | arr n t ih =>
  intro v p o u x hf h hx
  cases p with
  | nil=>simp [Ty.find] at h; obtain ⟨rfl,rfl⟩:=h; simp [AV.at] at hx; subst hx; exact ⟨hf,fun k _=>by simp⟩
  | cons i p =>
   cases v <;> simp [Ty.fits] at hf
   obtain ⟨rfl,hf⟩:=hf
   rename_i f
   simp only [Ty.find] at h
   split at h
   ·rename_i hi
    simp only [AV.at,hi,dif_pos] at hx
    cases hq : t.find p with
    | none=>simp [hq] at h
    | some q =>
     simp [hq] at h
     obtain ⟨rfl,rfl⟩:=h
     have h1:=ih (o:=q.1) (u:=q.2) (hf ⟨i,hi⟩) hq hx
     have hs:=Ty.find_size (o:=q.1) (u:=q.2) hq
     refine ⟨h1.1,fun k hk=>?_⟩
     rw [← h1.2 k hk,Nat.add_assoc]
     simp only [AV.flat]
     rw [getElem?_flatMap_const _ _ t.size (fun j _=>Ty.fits_length (hf j)) i (by simpa using hi) _ (by omega)]
     simp
   ·simp at h
 | cons a b iha ihb =>
  intro v p o u x hf h hx
  cases p with
  | nil=>simp [Ty.find] at h; obtain ⟨rfl,rfl⟩:=h; simp [AV.at] at hx; subst hx; exact ⟨hf,fun k _=>by simp⟩
  | cons i p =>
   cases v <;> simp [Ty.fits] at hf
   rename_i va vb
   have hl:=Ty.fits_length hf.1
   cases i with
   | zero =>
    simp only [Ty.find] at h
    simp only [AV.at] at hx
    have h1:=iha hf.1 h hx
    have hs:=Ty.find_size h
    refine ⟨h1.1,fun k hk=>?_⟩
    rw [← h1.2 k hk]
    simp only [AV.flat]
    rw [List.getElem?_append_left (by omega)]
   | succ i =>
    simp only [Ty.find] at h
    simp only [AV.at] at hx
    cases hq : b.find (i :: p) with
    | none=>simp [hq] at h
    | some q =>
     simp [hq] at h
     obtain ⟨rfl,rfl⟩:=h
     have h1:=ihb (o:=q.1) (u:=q.2) hf.2 hq hx
     refine ⟨h1.1,fun k hk=>?_⟩
     rw [← h1.2 k hk]
     simp only [AV.flat]
     rw [List.getElem?_append_right (by omega),hl]
     congr 1; omega
theorem Ty.fits_put {t : Ty} : ∀ {v : AV} {p : List Nat} {o : Nat} {u : Ty} {x v' : AV},t.fits v = true → t.find p = some (o,u) → u.fits x = true → v.put p x = some v' →
  t.fits v' = true ∧ ∀ k,v'.flat[k]? = if o ≤ k ∧ k < o + u.size then x.flat[k - o]? else v.flat[k]?:=by
 induction t with
 | leaf k =>
  intro v p o u x v' hf h hu hx
  cases p with
  | nil =>
   simp [Ty.find] at h; obtain ⟨rfl,rfl⟩:=h; simp [AV.put] at hx; subst hx
   refine ⟨hu,fun k=>?_⟩
   have h1:=Ty.fits_length hf
   have h2:=Ty.fits_length hu
   split
   ·simp
   ·rw [List.getElem?_eq_none (by omega),List.getElem?_eq_none (by omega)]
  | cons i p=>simp [Ty.find] at h
 | unit =>
  intro v p o u x v' hf h hu hx
  cases p with
  | nil =>
   simp [Ty.find] at h; obtain ⟨rfl,rfl⟩:=h; simp [AV.put] at hx; subst hx
   refine ⟨hu,fun k=>?_⟩
   have h1:=Ty.fits_length hf
   have h2:=Ty.fits_length hu
   split
   ·simp
   ·rw [List.getElem?_eq_none (by omega),List.getElem?_eq_none (by omega)]
  | cons i p=>simp [Ty.find] at h
 | arr n t ih =>
  intro v p o u x v' hf h hu hx
  cases p with
  | nil =>
   simp [Ty.find] at h; obtain ⟨rfl,rfl⟩:=h; simp [AV.put] at hx; subst hx
   refine ⟨hu,fun k=>?_⟩
   have h1:=Ty.fits_length hf
   have h2:=Ty.fits_length hu
   split
   ·simp
   ·rw [List.getElem?_eq_none (by omega),List.getElem?_eq_none (by omega)]
  | cons i p =>
   cases v <;> simp [Ty.fits] at hf
   obtain ⟨rfl,hf⟩:=hf
   rename_i f
   simp only [Ty.find] at h
   split at h
   ·rename_i hi
    simp only [AV.put,hi,dif_pos] at hx
    cases hq : t.find p with
    | none=>simp [hq] at h
    | some q =>
     simp [hq] at h
     obtain ⟨rfl,rfl⟩:=h
     cases hy : (f ⟨i,hi⟩).put p x with
     | none=>simp [hy] at hx
     | some y =>
      simp [hy] at hx
      subst hx
      have h1:=ih (o:=q.1) (u:=q.2) (hf ⟨i,hi⟩) hq hu hy
      have hs:=Ty.find_size (o:=q.1) (u:=q.2) hq
      have hfit : ∀ j : Fin n,t.fits (if j.val = i then y else f j) = true:=fun j=>by
       split
       ·exact h1.1
       ·exact hf j
      refine ⟨by simp [Ty.fits]; exact hfit,fun k=>?_⟩
      simp only [AV.flat]
      by_cases hk : k < n * t.size
      ·have htp : 0 < t.size:=by
        rcases Nat.eq_zero_or_pos t.size with h0 | h0
        ·rw [h0] at hk; simp at hk
        ·exact h0
       obtain ⟨a,b,hb,rfl⟩ : ∃ a b,b < t.size ∧ k = a * t.size + b:=⟨k / t.size,k % t.size,Nat.mod_lt _ htp,by rw [Nat.mul_comm]; exact (Nat.div_add_mod k t.size).symm⟩
       have ha : a < n:=by
        rcases Nat.lt_or_ge a n with h | h
        ·exact h
        ·have:=Nat.mul_le_mul_right t.size h; omega
       rw [getElem?_flatMap_const _ _ t.size (fun j _=>Ty.fits_length (hfit j)) a (by simpa using ha) b hb]
       rw [getElem?_flatMap_const _ _ t.size (fun j _=>Ty.fits_length (hf j)) a (by simpa using ha) b hb]
       simp only [List.getElem_finRange,Fin.cast_mk]
       by_cases hai : a = i
       ·subst hai
        simp only [if_true]
        rw [h1.2 b]
        by_cases hc : q.1 ≤ b ∧ b < q.1 + q.2.size
        ·rw [if_pos hc,if_pos (by omega)]; congr 1; omega
        ·rw [if_neg hc,if_neg (by omega)]
       ·rw [if_neg hai,if_neg]
        rintro ⟨hA,hB⟩
        rcases Nat.lt_or_gt_of_ne hai with hlt | hlt
        ·have h2 : (a + 1) * t.size ≤ i * t.size:=Nat.mul_le_mul_right _ hlt
         rw [Nat.add_mul] at h2; omega
        ·have h2 : (i + 1) * t.size ≤ a * t.size:=Nat.mul_le_mul_right _ hlt
         rw [Nat.add_mul] at h2; omega
      ·have hl : ∀ g : Fin n → AV,(∀ j,t.fits (g j) = true) → ((List.finRange n).flatMap fun j=>(g j).flat).length = n * t.size:=fun g hg=>by
        rw [length_flatMap_const _ _ t.size fun j _=>Ty.fits_length (hg j),List.length_finRange]
       have h2 : (i + 1) * t.size ≤ n * t.size:=Nat.mul_le_mul_right _ hi
       rw [Nat.add_mul] at h2
       rw [if_neg (by omega),List.getElem?_eq_none (by rw [hl _ hfit]; omega),List.getElem?_eq_none (by rw [hl _ hf]; omega)]
   ·simp at h
 | cons a b iha ihb =>
  intro v p o u x v' hf h hu hx
  cases p with
  | nil =>
   simp [Ty.find] at h; obtain ⟨rfl,rfl⟩:=h; simp [AV.put] at hx; subst hx
   refine ⟨hu,fun k=>?_⟩
   have h1:=Ty.fits_length hf
   have h2:=Ty.fits_length hu
   split
   ·simp
   ·rw [List.getElem?_eq_none (by omega),List.getElem?_eq_none (by omega)]
  | cons i p =>
   cases v <;> simp [Ty.fits] at hf
   rename_i va vb
   have hl:=Ty.fits_length hf.1
   cases i with
   | zero =>
    simp only [Ty.find] at h
    simp only [AV.put] at hx
    cases hy : va.put p x with
    | none=>simp [hy] at hx
    | some y =>
     simp [hy] at hx
     subst hx
     have h1:=iha hf.1 h hu hy
     have hs:=Ty.find_size h
     have hl':=Ty.fits_length h1.1
     refine ⟨by simp [Ty.fits,h1.1,hf.2],fun k=>?_⟩
     simp only [AV.flat]
     by_cases hk : k < a.size
     ·rw [List.getElem?_append_left (by omega),List.getElem?_append_left (by omega),h1.2]
     ·rw [List.getElem?_append_right (by omega),List.getElem?_append_right (by omega),hl,hl',if_neg (by omega)]
   | succ i =>
    simp only [Ty.find] at h
    simp only [AV.put] at hx
    cases hq : b.find (i :: p) with
    | none=>simp [hq] at h
    | some q =>
     simp [hq] at h
     obtain ⟨rfl,rfl⟩:=h
     cases hy : vb.put (i :: p) x with
     | none=>simp [hy] at hx
     | some y =>
      simp [hy] at hx
      subst hx
      have h1:=ihb (o:=q.1) (u:=q.2) hf.2 hq hu hy
      refine ⟨by simp [Ty.fits,h1.1,hf.1],fun k=>?_⟩
      simp only [AV.flat]
      by_cases hk : k < a.size
      ·rw [List.getElem?_append_left (by omega),List.getElem?_append_left (by omega),if_neg (by omega)]
      ·rw [List.getElem?_append_right (by omega),List.getElem?_append_right (by omega),hl,h1.2]
       by_cases hc : q.1 ≤ k - a.size ∧ k - a.size < q.1 + q.2.size
       ·rw [if_pos hc,if_pos (by omega)]; congr 1; omega
       ·rw [if_neg hc,if_neg (by omega)]
theorem Ty.find_append {t : Ty} : ∀ {p : List Nat} {o : Nat} {u : Ty} {q : List Nat},t.find p = some (o,u) →
  t.find (p ++ q) = (u.find q).map fun r=>(o + r.1,r.2):=by
 induction t with
 | leaf k=>intro p o u q h; cases p <;> simp [Ty.find] at h; obtain ⟨rfl,rfl⟩:=h; simp
 | unit=>intro p o u q h; cases p <;> simp [Ty.find] at h; obtain ⟨rfl,rfl⟩:=h; simp
 | arr n t ih =>
  intro p o u q h
  cases p with
  | nil=>simp [Ty.find] at h; obtain ⟨rfl,rfl⟩:=h; simp
  | cons i p =>
   simp only [Ty.find,List.cons_append] at h ⊢
   split at h
   ·rename_i hi
    cases hf : t.find p with
    | none=>simp [hf] at h
    | some r =>
     simp [hf] at h
     obtain ⟨rfl,rfl⟩:=h
     rw [ih (o:=r.1) (u:=r.2) hf]
     cases r.2.find q <;> simp [Nat.add_assoc,hi]
   ·simp at h
 | cons a b iha ihb =>
  intro p o u q h
  cases p with
  | nil=>simp [Ty.find] at h; obtain ⟨rfl,rfl⟩:=h; simp
  | cons i p =>
   cases i with
   | zero=>simp only [Ty.find,List.cons_append] at h ⊢; exact iha h
   | succ i =>
    simp only [Ty.find,List.cons_append] at h ⊢
    cases hf : b.find (i :: p) with
    | none=>simp [hf] at h
    | some r =>
     simp [hf] at h
     obtain ⟨rfl,rfl⟩:=h
     have:=ihb (o:=r.1) (u:=r.2) (q:=q) hf
     rw [List.cons_append] at this
     rw [this]
     cases r.2.find q <;> simp [Nat.add_assoc]
open Go.RowKit
def All2 {α β : Type} (R : α → β → Prop) (l : List α) (m : List β) : Prop:=l.length = m.length ∧ ∀ (k : Nat) (a : α) (b : β),l[k]? = some a → m[k]? = some b → R a b
theorem All2.nil {α β : Type} {R : α → β → Prop} : All2 R [] []:=⟨rfl,by simp⟩
theorem All2.cons {α β : Type} {R : α → β → Prop} {a : α} {b : β} {l : List α} {m : List β} (h : R a b) (t : All2 R l m) : All2 R (a :: l) (b :: m) :=
 ⟨by simp [t.1],fun k x y hx hy=>by
  cases k with
  | zero=>simp at hx hy; subst hx hy; exact h
  | succ k=>exact t.2 k x y (by simpa using hx) (by simpa using hy)⟩
theorem All2.head {α β : Type} {R : α → β → Prop} {a : α} {b : β} {l : List α} {m : List β} (h : All2 R (a :: l) (b :: m)) : R a b:=h.2 0 a b rfl rfl
theorem All2.tail {α β : Type} {R : α → β → Prop} {a : α} {b : β} {l : List α} {m : List β} (h : All2 R (a :: l) (b :: m)) : All2 R l m :=
 ⟨by simpa using h.1,fun k x y hx hy=>h.2 (k + 1) x y (by simpa using hx) (by simpa using hy)⟩
theorem All2.append {α β : Type} {R : α → β → Prop} {l l' : List α} {m m' : List β} (h : All2 R l m) (h' : All2 R l' m') : All2 R (l ++ l') (m ++ m'):=by
 obtain ⟨hl,h⟩:=h
 obtain ⟨hl',h'⟩:=h'
 refine ⟨by simp [hl,hl'],fun k x y hx hy=>?_⟩
 rcases Nat.lt_or_ge k l.length with hk | hk
 ·rw [List.getElem?_append_left hk] at hx
  rw [List.getElem?_append_left (by omega)] at hy
  exact h k x y hx hy
 ·rw [List.getElem?_append_right hk] at hx
  rw [List.getElem?_append_right (by omega)] at hy
  exact h' (k - l.length) x y hx (by rw [hl]; exact hy)
theorem All2.mono {α β : Type} {R R' : α → β → Prop} {l : List α} {m : List β} (h : All2 R l m) (f : ∀ a ∈ l,∀ b,R a b → R' a b) : All2 R' l m :=
 ⟨h.1,fun k a b ha hb=>f a (List.mem_of_getElem? ha) b (h.2 k a b ha hb)⟩
theorem All2.seg {α β : Type} {R : α → β → Prop} {l : List α} {m : List β} (h : All2 R l m) (o n : Nat) : All2 R ((l.drop o).take n) ((m.drop o).take n):=by
 refine ⟨by simp [h.1],fun k a b ha hb=>?_⟩
 simp only [List.getElem?_take,List.getElem?_drop] at ha hb
 split at ha
 ·rename_i hk; rw [if_pos hk] at hb; exact h.2 _ a b ha hb
 ·simp at ha
structure Place where
 r : Nat
 base : Nat
 ty : Ty
 room : Nat
abbrev Beta:=Id → Option Place
def AV.rel (φ : Nat → Option FuncId) (β : Beta) : AV → (Value → Prop) × (List Value → Prop)
 | .bot=>(fun _=>True,fun _=>False)
 | .bool b=>(fun x=>x = .bool b,fun _=>False)
 | .int k n=>(fun x=>x = .int k n,fun _=>False)
 | .str s=>(fun x=>x = .string s,fun _=>False)
 | .nilp=>(fun x=>x = .pointer none,fun _=>False)
 | .ptr i p t=>(fun x=>∃ pl o,β i = some pl ∧ pl.ty.find p = some (o,t) ∧ x = .pointer (some ⟨pl.r,pl.base + o,none⟩),fun _=>False)
 | .nilsl=>(fun x=>x = .slice none 0 0,fun _=>False)
 | .sl i off len=>(fun x=>∃ pl n t cap,β i = some pl ∧ pl.ty = .arr n t ∧ off + len ≤ n ∧ n ≤ off + cap ∧ (off + cap) * t.size ≤ pl.room ∧ x = .slice (some ⟨pl.r,pl.base + off * t.size,none⟩) len cap,fun _=>False)
 | .slz=>(fun x=>∃ a cap,x = .slice (some a) 0 cap,fun _=>False)
 | .nilf=>(fun x=>x = .nilFunc,fun _=>False)
 | .func f c=>(fun x=>∃ F caps,φ f = some F ∧ (c.rel φ β).2 caps ∧ x = .func (.func F) #[] caps.toArray,fun _=>False)
 | .unit=>(fun _=>False,fun l=>l = [])
 | .cons a b=>(fun _=>False,fun l=>∃ x xs,l = x :: xs ∧ (a.rel φ β).1 x ∧ (b.rel φ β).2 xs)
 | .arr _ _=>(fun _=>False,fun _=>False)
 | .tup _=>(fun _=>False,fun _=>False)
 | .iface b=>(fun x=>(b = false ∧ x = .nilIface) ∨ (b = true ∧ ∃ t p,x = .iface t p),fun _=>False)
def LR (φ : Nat → Option FuncId) (β : Beta) (v : AV) (x : Value) : Prop:=(v.rel φ β).1 x
def VR1 (φ : Nat → Option FuncId) (β : Beta) (v : AV) (x : Value) : Prop :=
 if v.isAgg then v.safe = true ∧ ∃ cs : List Value,x = .agg cs.toArray ∧ All2 (LR φ β) v.flat cs else LR φ β v x
def TR (φ : Nat → Option FuncId) (β : Beta) : AV → List Value → Prop
 | .unit,[]=>True
 | .cons a b,x :: xs=>a.safe = true ∧ VR1 φ β a x ∧ TR φ β b xs
 | _,_=>False
def VR (φ : Nat → Option FuncId) (β : Beta) (v : AV) (x : Value) : Prop :=
 match v with
 | .tup w=>∃ xs : List Value,x = .tuple xs.toArray ∧ TR φ β w xs
 | v=>VR1 φ β v x
theorem VR_of_VR1 {φ : Nat → Option FuncId} {β : Beta} {v : AV} {x : Value} (h : VR1 φ β v x) : VR φ β v x:=by
 cases v <;> first | exact h | (simp [VR1,AV.isAgg,LR,AV.rel] at h)
theorem VR_undef {φ : Nat → Option FuncId} {β : Beta} : VR φ β .undef undef:=⟨[],rfl,trivial⟩
theorem VR_bot {φ : Nat → Option FuncId} {β : Beta} {x : Value} : VR φ β .bot x:=by simp [VR,VR1,AV.isAgg,LR,AV.rel]
theorem rel_congr {φ : Nat → Option FuncId} {β β' : Beta} : ∀ {v : AV},(∀ i pl,v.names i = true → β i = some pl → β' i = some pl) →
  (∀ x,(v.rel φ β).1 x → (v.rel φ β').1 x) ∧ (∀ l,(v.rel φ β).2 l → (v.rel φ β').2 l):=by
 intro v
 induction v with
 | ptr i p t =>
  intro h
  refine ⟨fun x hx=>?_,fun l hl=>hl⟩
  obtain ⟨pl,o,hb,hf,rfl⟩:=hx
  exact ⟨pl,o,h i pl (by simp [AV.names]) hb,hf,rfl⟩
 | sl i off len =>
  intro h
  refine ⟨fun x hx=>?_,fun l hl=>hl⟩
  obtain ⟨pl,n,t,cap,hb,r⟩:=hx
  exact ⟨pl,n,t,cap,h i pl (by simp [AV.names]) hb,r⟩
 | func f c ih =>
  intro h
  refine ⟨fun x hx=>?_,fun l hl=>hl⟩
  obtain ⟨F,caps,hF,hc,rfl⟩:=hx
  exact ⟨F,caps,hF,(ih fun i pl hn hb=>h i pl (by simpa [AV.names] using hn) hb).2 _ hc,rfl⟩
 | cons a b iha ihb =>
  intro h
  refine ⟨fun x hx=>hx,fun l hl=>?_⟩
  obtain ⟨x,xs,rfl,ha,hb⟩:=hl
  exact ⟨x,xs,rfl,(iha fun i pl hn hb=>h i pl (by simp [AV.names,hn]) hb).1 _ ha,(ihb fun i pl hn hb=>h i pl (by simp [AV.names,hn]) hb).2 _ hb⟩
 | _=>intro h; exact ⟨fun x hx=>hx,fun l hl=>hl⟩
theorem LR_congr {φ : Nat → Option FuncId} {β β' : Beta} {v : AV} {x : Value} (h : ∀ i pl,v.names i = true → β i = some pl → β' i = some pl) (hx : LR φ β v x) : LR φ β' v x:=(rel_congr h).1 x hx
theorem safe_names {v : AV} (h : v.safe = true) (ha : v.isAgg = false) {i : Id} (hn : v.names i = true) : i.isStk = false:=by
 cases v with
 | ptr j p t=>simp [AV.names] at hn; subst hn; cases i <;> simp_all [AV.safe,Id.isStk]
 | sl j o l=>simp [AV.names] at hn; subst hn; cases i <;> simp_all [AV.safe,Id.isStk]
 | _=>simp_all [AV.names,AV.safe,AV.isAgg]
theorem safe_flat : ∀ {v : AV},v.safe = true → ∀ c ∈ v.flat,c.safe = true ∧ c.isAgg = false:=by
 intro v
 induction v with
 | cons a b iha ihb =>
  intro h c hc
  simp [AV.safe] at h
  simp only [AV.flat,List.mem_append] at hc
  exact hc.elim (iha h.1 c) (ihb h.2 c)
 | arr n f ih =>
  intro h c hc
  simp only [AV.safe,List.all_eq_true] at h
  simp only [AV.flat,List.mem_flatMap] at hc
  obtain ⟨i,hi,hc⟩:=hc
  exact ih i (h i hi) c hc
 | _=>intro h c hc; simp_all [AV.flat,AV.isAgg]
theorem LR_safe {φ : Nat → Option FuncId} {β β' : Beta} {v : AV} {x : Value} (hs : v.safe = true) (ha : v.isAgg = false) (h : ∀ i pl,i.isStk = false → β i = some pl → β' i = some pl) (hx : LR φ β v x) : LR φ β' v x :=
 LR_congr (fun i pl hn hb=>h i pl (safe_names hs ha hn) hb) hx
theorem VR1_safe {φ : Nat → Option FuncId} {β β' : Beta} {v : AV} {x : Value} (hs : v.safe = true) (h : ∀ i pl,i.isStk = false → β i = some pl → β' i = some pl) (hx : VR1 φ β v x) : VR1 φ β' v x:=by
 unfold VR1 at *
 split
 ·rename_i ha
  rw [if_pos ha] at hx
  obtain ⟨_,cs,rfl,hc⟩:=hx
  exact ⟨hs,cs,rfl,hc.mono fun a hm b hab=>LR_safe (safe_flat hs a hm).1 (safe_flat hs a hm).2 h hab⟩
 ·rename_i ha
  rw [if_neg ha] at hx
  exact LR_safe hs (by simpa using ha) h hx
theorem TR_safe {φ : Nat → Option FuncId} {β β' : Beta} (h : ∀ i pl,i.isStk = false → β i = some pl → β' i = some pl) : ∀ {v : AV} {xs : List Value},TR φ β v xs → TR φ β' v xs:=by
 intro v
 induction v with
 | cons a b _ ihb =>
  intro xs hx
  cases xs with
  | nil=>exact hx
  | cons x xs=>exact ⟨hx.1,VR1_safe hx.1 h hx.2.1,ihb hx.2.2⟩
 | unit=>intro xs hx; cases xs <;> exact hx
 | _=>intro xs hx; exact hx.elim
theorem VR_congr {φ : Nat → Option FuncId} {β β' : Beta} {v : AV} {x : Value} (h : ∀ i pl,(v.leads i = true ∨ i.isStk = false) → β i = some pl → β' i = some pl) (hx : VR φ β v x) : VR φ β' v x:=by
 have key : ∀ {v : AV},(∀ i pl,(v.leads i = true ∨ i.isStk = false) → β i = some pl → β' i = some pl) → VR1 φ β v x → VR1 φ β' v x:=by
  intro v h hx
  unfold VR1 at *
  split
  ·rename_i ha
   rw [if_pos ha] at hx
   obtain ⟨hs,cs,rfl,hc⟩:=hx
   exact ⟨hs,cs,rfl,hc.mono fun a hm b hab=>LR_safe (safe_flat hs a hm).1 (safe_flat hs a hm).2 (fun i pl hi hb=>h i pl (.inr hi) hb) hab⟩
  ·rename_i ha
   rw [if_neg ha] at hx
   exact LR_congr (fun i pl hn hb=>h i pl (.inl (by simp [AV.leads,ha,hn])) hb) hx
 cases v with
 | tup w =>
  obtain ⟨xs,rfl,hx⟩:=hx
  exact ⟨xs,rfl,TR_safe (fun i pl hi hb=>h i pl (.inr hi) hb) hx⟩
 | _=>exact key h hx
theorem VR_mono {φ : Nat → Option FuncId} {β β' : Beta} {v : AV} {x : Value} (h : ∀ i pl,β i = some pl → β' i = some pl) (hx : VR φ β v x) : VR φ β' v x :=
 VR_congr (fun i pl _ hb=>h i pl hb) hx
structure BR (φ : Nat → Option FuncId) (β : Beta) (O : Nat → Prop) (i : Id) (b : Blk) (w : World) (pl : Place) (cs : Array Value) (T : TypeId) (fr : Nat × Nat) : Prop where
 place : β i = some pl
 ty : pl.ty = b.ty
 fits : b.ty.fits b.val = true
 heap : w.heap[pl.r]? = some (.cells cs T fr)
 room : pl.base + pl.room ≤ cs.size
 size : b.ty.size ≤ pl.room
 cells : ∀ k c,b.val.flat[k]? = some c → ∃ x,cs[pl.base + k]? = some x ∧ LR φ β c x
 own : i.isArg = false → fr = (0,0) ∧ O pl.r
structure HR (φ : Nat → Option FuncId) (β : Beta) (O : Nat → Prop) (look : Id → Option Blk) (w : World) : Prop where
 live : ∀ i b,look i = some b → ∃ pl cs T fr,BR φ β O i b w pl cs T fr
 apart : ∀ i j bi bj pi pj,look i = some bi → look j = some bj → β i = some pi → β j = some pj → i ≠ j → pi.r = pj.r → i.isArg = true ∧ j.isArg = true
def SR (φ : Nat → Option FuncId) (β : Beta) (sl : Slots) (tmps : Array Value) : Prop:=∀ t,VR φ β (Slots.get sl t) (tmps.getD t undef)
theorem Slots.get_set {s : Slots} {t u : Nat} {v : AV} : Slots.get (Slots.set s t v) u = if t = u then v else Slots.get s u:=by
 induction s with
 | nil=>simp [Slots.set,Slots.get]
 | cons p s ih =>
  obtain ⟨a,x⟩:=p
  simp only [Slots.set]
  by_cases h1 : a = t
  ·subst h1
   simp only [if_true,Slots.get]
   by_cases h2 : a = u <;> simp [h2]
  ·rw [if_neg h1]
   by_cases h2 : t < a
   ·rw [if_pos h2]; simp only [Slots.get]
   ·rw [if_neg h2]
    simp only [Slots.get,ih]
    by_cases h3 : a = u
    ·subst h3; simp [Ne.symm h1]
    ·simp [h3]
theorem Slots.get_forget {s : Slots} {i : Id} {t : Nat} : Slots.get (Slots.forget s i) t = if (Slots.get s t).leads i then .bot else Slots.get s t:=by
 induction s with
 | nil=>simp [Slots.forget,Slots.get,AV.leads,AV.names]
 | cons p s ih =>
  obtain ⟨a,x⟩:=p
  simp only [Slots.forget,Slots.get]
  by_cases h2 : a = t
  ·simp [h2]
  ·simp [h2,ih]
theorem Slots.get_without {s : Slots} {l : List Nat} {t : Nat} : Slots.get (Slots.without s l) t = if has l t then .bot else Slots.get s t:=by
 induction s with
 | nil=>simp [Slots.without,Slots.get]
 | cons p s ih =>
  obtain ⟨a,x⟩:=p
  simp only [Slots.without]
  by_cases h1 : has l a = true
  ·rw [if_pos h1,ih]
   simp only [Slots.get]
   by_cases h2 : a = t
   ·subst h2; simp [h1]
   ·simp [h2]
  ·rw [if_neg h1]
   simp only [Slots.get,ih]
   by_cases h2 : a = t
   ·subst h2; simp [h1]
   ·simp [h2]
theorem Slots.get_only {s : Slots} {l : List Nat} {t : Nat} : Slots.get (Slots.only s l) t = if has l t then Slots.get s t else .bot:=by
 induction s with
 | nil=>simp [Slots.only,Slots.get]
 | cons p s ih =>
  obtain ⟨a,x⟩:=p
  simp only [Slots.only]
  by_cases h1 : has l a = true
  ·rw [if_pos h1]
   simp only [Slots.get,ih]
   by_cases h2 : a = t
   ·subst h2; simp [h1]
   ·simp [h2]
  ·rw [if_neg h1,ih]
   simp only [Slots.get]
   by_cases h2 : a = t
   ·subst h2; simp [h1]
   ·simp [h2]
theorem Own.get_only {s : Own} {l : List Nat} {t : Nat} : Own.get (Own.only s l) t = if has l t then Own.get s t else none:=by
 induction s with
 | nil=>simp [Own.only,Own.get]
 | cons p s ih =>
  obtain ⟨a,x⟩:=p
  simp only [Own.only]
  by_cases h1 : has l a = true
  ·rw [if_pos h1]
   simp only [Own.get,ih]
   by_cases h2 : a = t
   ·subst h2; simp [h1]
   ·simp [h2]
  ·rw [if_neg h1,ih]
   simp only [Own.get]
   by_cases h2 : a = t
   ·subst h2; simp [h1]
   ·simp [h2]
theorem Own.get_rid {s : Own} {u t : Nat} : Own.get (Own.rid s u) t = if u = t then none else Own.get s t:=by
 induction s with
 | nil=>simp [Own.rid,Own.get]
 | cons p s ih =>
  obtain ⟨a,x⟩:=p
  simp only [Own.rid]
  by_cases h1 : a = u
  ·subst h1
   rw [if_pos rfl,ih]
   simp only [Own.get]
   by_cases h2 : a = t <;> simp [h2]
  ·rw [if_neg h1]
   simp only [Own.get,ih]
   by_cases h2 : a = t
   ·subst h2; simp [Ne.symm h1]
   ·simp [h2]
theorem Own.get_set {s : Own} {t u : Nat} {v : Blk} : Own.get (Own.set s t v) u = if t = u then some v else Own.get s u:=by
 induction s with
 | nil=>simp [Own.set,Own.get]
 | cons p s ih =>
  obtain ⟨a,x⟩:=p
  simp only [Own.set]
  by_cases h1 : a = t
  ·subst h1
   simp only [if_true,Own.get]
   by_cases h2 : a = u <;> simp [h2]
  ·rw [if_neg h1]
   by_cases h2 : t < a
   ·rw [if_pos h2]; simp only [Own.get]
   ·rw [if_neg h2]
    simp only [Own.get,ih]
    by_cases h3 : a = u
    ·subst h3; simp [Ne.symm h1]
    ·simp [h3]
theorem Own.get_without {s : Own} {l : List Nat} {t : Nat} : Own.get (Own.without s l) t = if has l t then none else Own.get s t:=by
 induction s with
 | nil=>simp [Own.without,Own.get]
 | cons p s ih =>
  obtain ⟨u,v⟩:=p
  simp only [Own.without]
  split
  ·rename_i h
   rw [ih]
   simp only [Own.get]
   by_cases hu : u = t
   ·subst hu; simp [h]
   ·simp [hu]
  ·rename_i h
   simp only [Own.get]
   by_cases hu : u = t
   ·subst hu; simp [h]
   ·simp [hu,ih]
theorem Own.get_veil {s : Own} {l : List Nat} {t : Nat} : Own.get (Own.veil s l) t = if has l t then none else Own.get s t:=by
 cases l with
 | nil=>simp [Own.veil,has]
 | cons a l=>simp only [Own.veil]; rw [Own.get_without]
theorem Own.get_foldr {l m : Own} {t : Nat} : Own.get (l.foldr (fun p acc=>Own.set acc p.1 p.2) m) t = match Own.get l t with | some b=>some b | none=>Own.get m t:=by
 induction l with
 | nil=>simp [Own.get]
 | cons p l ih =>
  obtain ⟨u,v⟩:=p
  simp only [List.foldr,Own.get,Own.get_set]
  by_cases hu : u = t
  ·subst hu; simp
  ·simp [hu,ih]
theorem Own.get_unveil {s m : Own} {l : List Nat} {t : Nat} : Own.get (Own.unveil s m l) t = if has l t then Own.get s t else Own.get m t:=by
 cases l with
 | nil=>simp [Own.unveil,has]
 | cons a l =>
  simp only [Own.unveil]
  rw [Own.get_foldr,Own.get_only,Own.get_without]
  by_cases h : has (a :: l) t = true
  ·simp [h]; cases Own.get s t <;> rfl
  ·simp [h]
open Go.RowKit
def LK.desc : LK → TypeDesc → Bool
 | .bool,.bool=>true
 | .int k,.int k'=>k == k'
 | .str,.string=>true
 | .ptr,.pointer _=>true
 | .slice,.slice _=>true
 | .func,.func ..=>true
 | _,_=>false
def zeroOk : AV → Value → Bool
 | .bool b,.bool c=>b == c
 | .int k n,.int k' m=>k == k' && n == m
 | .str s,.string u=>s.data == u.data
 | .nilp,.pointer none=>true
 | .nilsl,.slice none 0 0=>true
 | .nilf,.nilFunc=>true
 | .iface false,.nilIface=>true
 | _,_=>false
def zerosOk : List AV → List Value → Bool
 | [],[]=>true
 | a :: l,x :: m=>zeroOk a x && zerosOk l m
 | _,_=>false
def infoOk (P : Program) (ty : Ty) (t : TypeId) : Bool :=
 match P.info? t with
 | some i=>i.size == ty.size && (match i.zero with
  | some z=>(match ty with
   | .leaf k=>zeroOk k.zero z
   | ty=>(match z with | .agg cs=>zerosOk ty.zero.flat cs.toList | _=>false))
  | none=>false)
 | none=>false
def tyOk (P : Program) : Ty → (TypeId ⊕ (List Field × Nat)) → Bool
 | .leaf k,.inl t=>(match P.underlying t with | some d=>k.desc d | none=>false) && infoOk P (.leaf k) t
 | .arr n e,.inl t=>(match P.underlying t with | some (.array m u)=>m == n && tyOk P e (.inl u) | _=>false) && infoOk P (.arr n e) t
 | .cons a b,.inl t=>(match P.underlying t with
  | some (.struct fs)=>(match fs.toList with
   | f :: r => f.offset == 0 && f.name != "_" && a.size != 0 && tyOk P a (.inl f.type) && tyOk P b (.inr (r, a.size))
   | []=>false)
  | _=>false) && infoOk P (.cons a b) t
 | .unit,.inr (fs,_)=>fs.isEmpty
 | .cons a b,.inr (fs,o)=>(match fs with
  | f :: r => f.offset == o && f.name != "_" && a.size != 0 && tyOk P a (.inl f.type) && tyOk P b (.inr (r, o + a.size))
  | []=>false)
 | _,_=>false
theorem tyOk_info {P : Program} {ty : Ty} {t : TypeId} (h : tyOk P ty (.inl t) = true) : infoOk P ty t = true:=by
 cases ty <;> simp [tyOk] at h <;> exact h.2
theorem tyOk_size {P : Program} {ty : Ty} {t : TypeId} (h : tyOk P ty (.inl t) = true) : ∃ i,P.info? t = some i ∧ i.size = ty.size:=by
 have h:=tyOk_info h
 unfold infoOk at h
 cases hi : P.info? t with
 | none=>simp [hi] at h
 | some i=>simp [hi] at h; exact ⟨i,rfl,h.1⟩
theorem tyOk_isAgg {P : Program} {ty : Ty} {t : TypeId} (h : tyOk P ty (.inl t) = true) (w : World) : (isAgg t).run P w = .ok ty.isAgg w:=by
 cases ty with
 | leaf k =>
  simp only [tyOk,Bool.and_eq_true] at h
  cases hu : P.underlying t with
  | none=>simp [hu] at h
  | some d =>
   simp only [hu] at h
   unfold isAgg
   rw [Sem.run_bind,run_underlying hu w]
   cases k <;> cases d <;> simp_all [LK.desc,Ty.isAgg]
 | arr n e =>
  simp only [tyOk,Bool.and_eq_true] at h
  cases hu : P.underlying t with
  | none=>simp [hu] at h
  | some d =>
   simp only [hu] at h
   unfold isAgg
   rw [Sem.run_bind,run_underlying hu w]
   cases d <;> simp_all [Ty.isAgg]
 | cons a b =>
  simp only [tyOk,Bool.and_eq_true] at h
  cases hu : P.underlying t with
  | none=>simp [hu] at h
  | some d =>
   simp only [hu] at h
   unfold isAgg
   rw [Sem.run_bind,run_underlying hu w]
   cases d <;> simp_all [Ty.isAgg]
 | unit=>simp [tyOk] at h
theorem tyOk_array {P : Program} {n : Nat} {e : Ty} {t : TypeId} (h : tyOk P (.arr n e) (.inl t) = true) : ∃ u,P.underlying t = some (.array n u) ∧ tyOk P e (.inl u) = true:=by
 simp only [tyOk,Bool.and_eq_true] at h
 cases hu : P.underlying t with
 | none=>simp [hu] at h
 | some d =>
  simp only [hu] at h
  cases d <;> simp at h
  exact ⟨_,by rw [h.1.1],h.1.2⟩
theorem tyOk_fields {P : Program} : ∀ {ty : Ty} {fs : List Field} {o : Nat} {i : Nat} {ft : Ty},tyOk P ty (.inr (fs,o)) = true → ty.field i = some ft →
  ∃ f off, fs[i]? = some f ∧ f.offset = o + off ∧ ty.find [i] = some (off, ft) ∧ tyOk P ft (.inl f.type) = true ∧ ft.size ≠ 0 ∧ f.name ≠ "_" := by
 intro ty
 induction ty with
 | leaf k=>intro fs o i ft h; simp [tyOk] at h
 | arr n e _=>intro fs o i ft h; simp [tyOk] at h
 | unit=>intro fs o i ft h hf; simp [Ty.field] at hf
 | cons a b iha ihb =>
  intro fs o i ft h hf
  cases fs with
  | nil=>simp [tyOk] at h
  | cons f r =>
   simp [tyOk] at h
   obtain ⟨⟨⟨⟨h1,h2⟩,h3⟩,h4⟩,h5⟩:=h
   cases i with
   | zero =>
    simp [Ty.field] at hf
    subst hf
    exact ⟨f,0,rfl,by simpa using h1,by simp [Ty.find],h4,h3,h2⟩
   | succ i =>
    simp only [Ty.field] at hf
    obtain ⟨g,off,hg,ho,hfi,hr⟩:=ihb h5 hf
    refine ⟨g,a.size + off,by simpa using hg,by omega,?_,hr⟩
    simp only [Ty.find,hfi,Option.map_some]
theorem tyOk_struct {P : Program} {ty : Ty} {t : TypeId} {i : Nat} {ft : Ty} (h : tyOk P ty (.inl t) = true) (hf : ty.field i = some ft) :
  ∃ fs f off,P.underlying t = some (.struct fs) ∧ fs[i]? = some f ∧ f.offset = off ∧ ty.find [i] = some (off,ft) ∧ tyOk P ft (.inl f.type) = true ∧ ft.size ≠ 0 ∧ tyOk P ty (.inr (fs.toList,0)) = true:=by
 cases ty with
 | leaf k=>simp [Ty.field] at hf
 | arr n e=>simp [Ty.field] at hf
 | unit=>simp [Ty.field] at hf
 | cons a b =>
  simp only [tyOk,Bool.and_eq_true] at h
  cases hu : P.underlying t with
  | none=>simp [hu] at h
  | some d =>
   simp only [hu] at h
   cases d <;> simp at h
   rename_i fs
   have h' : tyOk P (.cons a b) (.inr (fs.toList,0)) = true:=by
    cases hl : fs.toList with
    | nil=>simp [hl] at h
    | cons f r=>simp [hl] at h; simp [tyOk]; simpa using h.1
   obtain ⟨f,off,hg,ho,hfi,hr,hs,_⟩:=tyOk_fields h' hf
   exact ⟨fs,f,off,rfl,by simpa using hg,by omega,hfi,hr,hs,h'⟩
section
variable {φ : Nat → Option FuncId} {β : Beta} {P : Program}
theorem zeroOk_LR {a : AV} {x : Value} (h : zeroOk a x = true) : LR φ β a x:=by
 unfold zeroOk at h
 split at h
 ·simp at h; subst h; rfl
 ·simp at h; obtain ⟨rfl,rfl⟩:=h; rfl
 ·rename_i s u
  obtain ⟨⟨s⟩⟩:=s
  obtain ⟨⟨u⟩⟩:=u
  simp at h
  subst h
  rfl
 ·rfl
 ·rfl
 ·rfl
 ·exact .inl ⟨rfl,rfl⟩
 ·simp at h
theorem zerosOk_All2 : ∀ {l : List AV} {m : List Value},zerosOk l m = true → All2 (LR φ β) l m
 | [],[],_=>All2.nil
 | [],_ :: _,h=>by simp [zerosOk] at h
 | _ :: _,[],h=>by simp [zerosOk] at h
 | a :: l,x :: m,h=>by
  simp [zerosOk] at h
  exact All2.cons (zeroOk_LR h.1) (zerosOk_All2 h.2)
theorem zero_fits {t : Ty} : t.fits t.zero = true:=by
 induction t with
 | leaf k=>cases k <;> simp [Ty.fits,Ty.zero,LK.zero,LK.fits,AV.safe]
 | arr n t ih=>simp [Ty.fits,Ty.zero,ih]
 | unit=>rfl
 | cons a b iha ihb=>simp [Ty.fits,Ty.zero,iha,ihb]
theorem tyOk_zero {ty : Ty} {t : TypeId} (h : tyOk P ty (.inl t) = true) (w : World) : ∃ z,(zeroValue t).run P w = .ok z w ∧ All2 (LR φ β) ty.zero.flat z.cells.toList:=by
 have h':=tyOk_info h
 unfold infoOk at h'
 cases hi : P.info? t with
 | none=>simp [hi] at h'
 | some i =>
  simp only [hi,Bool.and_eq_true] at h'
  cases hz : i.zero with
  | none=>simp [hz] at h'
  | some z =>
   refine ⟨z,by simp [zeroValue,typeInfo,hi,hz],?_⟩
   simp only [hz] at h'
   cases ty with
   | leaf k =>
    have hf:=LK.fits_flat (k:=k) (v:=k.zero) (by cases k <;> simp [LK.fits,LK.zero])
    have hc : z.cells = #[z]:=by
     have:=h'.2
     cases k <;> cases z <;> simp_all [zeroOk,LK.zero,Value.cells]
    simp only [Ty.zero,hf.1,hc]
    exact All2.cons (zeroOk_LR h'.2) All2.nil
   | unit=>simp [tyOk] at h
   | arr n e =>
    obtain ⟨_,h2⟩:=h'
    cases z <;> simp at h2
    exact zerosOk_All2 h2
   | cons a b =>
    obtain ⟨_,h2⟩:=h'
    cases z <;> simp at h2
    exact zerosOk_All2 h2
end
open Go.RowKit
section
variable {φ : Nat → Option FuncId} {β : Beta} {P : Program} {O : Nat → Prop} {w : World} {look : Id → Option Blk}
theorem add_addr (b o n : Nat) : (⟨b,o,none⟩ : Addr).add n = ⟨b,o + n,none⟩:=Addr.add_mid b o n
theorem LR_ptr {i : Id} {p : List Nat} {t : Ty} {x : Value} (h : VR φ β (.ptr i p t) x) : ∃ pl o,β i = some pl ∧ pl.ty.find p = some (o,t) ∧ x = .pointer (some ⟨pl.r,pl.base + o,none⟩):=by
 simpa [VR,VR1,AV.isAgg,LR,AV.rel] using h
theorem VR_ptr {i : Id} {p : List Nat} {t : Ty} {pl : Place} {o : Nat} (hb : β i = some pl) (hf : pl.ty.find p = some (o,t)) : VR φ β (.ptr i p t) (.pointer (some ⟨pl.r,pl.base + o,none⟩)):=by
 simp only [VR,VR1,AV.isAgg,LR,AV.rel,Bool.false_eq_true,if_false]
 exact ⟨pl,o,hb,hf,rfl⟩
theorem LR_int {k : IntKind} {n : Int} {x : Value} (h : VR φ β (.int k n) x) : x = .int k n:=by simpa [VR,VR1,AV.isAgg,LR,AV.rel] using h
theorem LR_bool {b : Bool} {x : Value} (h : VR φ β (.bool b) x) : x = .bool b:=by simpa [VR,VR1,AV.isAgg,LR,AV.rel] using h
theorem LR_str {s : ByteArray} {x : Value} (h : VR φ β (.str s) x) : x = .string s:=by simpa [VR,VR1,AV.isAgg,LR,AV.rel] using h
theorem LR_sl {i : Id} {off len : Nat} {x : Value} (h : VR φ β (.sl i off len) x) :
  ∃ pl n t cap,β i = some pl ∧ pl.ty = .arr n t ∧ off + len ≤ n ∧ n ≤ off + cap ∧ (off + cap) * t.size ≤ pl.room ∧ x = .slice (some ⟨pl.r,pl.base + off * t.size,none⟩) len cap:=by
 simpa [VR,VR1,AV.isAgg,LR,AV.rel] using h
theorem VR_int {k : IntKind} {n : Int} : VR φ β (.int k n) (.int k n):=by simp [VR,VR1,AV.isAgg,LR,AV.rel]
theorem VR_bool {b : Bool} : VR φ β (.bool b) (.bool b):=by simp [VR,VR1,AV.isAgg,LR,AV.rel]
theorem VR_str {s : ByteArray} : VR φ β (.str s) (.string s):=by simp [VR,VR1,AV.isAgg,LR,AV.rel]
theorem toIx_int {v : AV} {x : Value} {z : Int} (h : toIx v = some z) (hx : VR φ β v x) : ∃ k,x = .int k z:=by
 cases v <;> simp [toIx] at h
 subst h
 exact ⟨_,LR_int hx⟩
theorem VR1_of_cells {t : Ty} {v : AV} {cs : List Value} (hf : t.fits v = true) (ha : t.isAgg = true) (h : All2 (LR φ β) v.flat cs) : VR φ β v (.agg cs.toArray):=by
 have hv:=Ty.fits_isAgg hf
 rw [ha] at hv
 exact VR_of_VR1 (by rw [VR1,if_pos hv]; exact ⟨Ty.fits_safe hf,cs,rfl,h⟩)
theorem cells_of_VR {t : Ty} {v : AV} {x : Value} (hf : t.fits v = true) (h : VR φ β v x) : All2 (LR φ β) v.flat x.cells.toList ∧ (x.cells.toList.all (·.oneCell') = true) ∧ (t.isAgg = true → x = .agg x.cells) ∧ (t.isAgg = false → x.cells = #[x]):=by
 have one : ∀ {a : AV} {y : Value},a.safe = true → a.isAgg = false → LR φ β a y → y.oneCell' = true ∧ y.cells = #[y]:=by
  intro a y hs hag hl
  cases a <;> simp [AV.safe,AV.isAgg] at hs hag <;> simp only [LR,AV.rel] at hl
  ·subst hl; exact ⟨rfl,rfl⟩
  ·subst hl; exact ⟨rfl,rfl⟩
  ·subst hl; exact ⟨rfl,rfl⟩
  ·subst hl; exact ⟨rfl,rfl⟩
  ·obtain ⟨_,_,_,_,rfl⟩:=hl; exact ⟨rfl,rfl⟩
  ·subst hl; exact ⟨rfl,rfl⟩
  ·obtain ⟨_,_,rfl⟩:=hl; exact ⟨rfl,rfl⟩
  ·obtain ⟨_,_,_,_,_,_,_,_,_,rfl⟩:=hl; exact ⟨rfl,rfl⟩
  ·subst hl; exact ⟨rfl,rfl⟩
  ·rcases hl with ⟨_,rfl⟩ | ⟨_,_,_,rfl⟩ <;> exact ⟨rfl,rfl⟩
 have hag:=Ty.fits_isAgg hf
 have hs:=Ty.fits_safe hf
 have h1 : VR1 φ β v x:=by
  cases v <;> first | exact h | simp [AV.safe] at hs
 unfold VR1 at h1
 by_cases ha : v.isAgg = true
 ·rw [if_pos ha] at h1
  obtain ⟨_,cs,rfl,hc⟩:=h1
  refine ⟨by simpa [Value.cells] using hc,?_,fun _=>by simp [Value.cells],fun h0=>by rw [h0] at hag; rw [hag] at ha; simp at ha⟩
  simp only [Value.cells,List.all_eq_true]
  intro y hy
  obtain ⟨k,hk⟩:=List.mem_iff_getElem?.1 hy
  have hlen:=hc.1
  have hkl : k < v.flat.length:=by
   rcases Nat.lt_or_ge k cs.length with h | h
   ·omega
   ·rw [List.getElem?_eq_none h] at hk; simp at hk
  have:=hc.2 k v.flat[k] y (List.getElem?_eq_getElem hkl) hk
  exact (one (safe_flat hs _ (List.getElem_mem hkl)).1 (safe_flat hs _ (List.getElem_mem hkl)).2 this).1
 ·rw [if_neg ha] at h1
  have ha' : v.isAgg = false:=by simpa using ha
  have ho:=one hs ha' h1
  have hfl : v.flat = [v]:=by cases v <;> simp [AV.isAgg] at ha' <;> rfl
  rw [ho.2,hfl]
  exact ⟨All2.cons h1 All2.nil,by simp [ho.1],fun h0=>(by rw [h0] at hag; simp [hag] at ha'),fun _=>rfl⟩
theorem run_load {t : Ty} {T : TypeId} {i : Id} {p : List Nat} {b : Blk} {v : AV} {x : Value} (hR : HR φ β O look w) (ht : tyOk P t (.inl T) = true) (hx : VR φ β (.ptr i p t) x)
  (hl : look i = some b) (hv : b.val.at p = some v) : ∃ y,(Instr.loadAt T x).run P w = .ok y w ∧ VR φ β v y:=by
 obtain ⟨pl,o,hb,hf,rfl⟩:=LR_ptr hx
 obtain ⟨pl',cs,T',fr,hB⟩:=hR.live i b hl
 obtain rfl : pl' = pl:=Option.some.inj (hB.place.symm.trans hb)
 have hfit:=hB.fits
 rw [hB.ty] at hf
 obtain ⟨hu,hk⟩:=Ty.fits_at hfit hf hv
 have hsz:=Ty.find_size hf
 have hfl:=Ty.fits_length hu
 obtain ⟨ti,hti,htis⟩:=tyOk_size ht
 have hcell : ∀ k,k < t.size → ∃ y,w.cell? ⟨pl'.r,pl'.base + o + k,none⟩ = some y ∧ ∃ c,v.flat[k]? = some c ∧ LR φ β c y:=by
  intro k hkl
  obtain ⟨c,hc⟩ : ∃ c,v.flat[k]? = some c:=⟨_,List.getElem?_eq_getElem (by omega)⟩
  obtain ⟨y,hy,hr⟩:=hB.cells (o + k) c (by rw [hk k hkl]; exact hc)
  exact ⟨y,by rw [cell_of_row w _ _ cs T' fr hB.heap,Nat.add_assoc]; exact hy,c,hc,hr⟩
 simp only [Instr.loadAt,Instr.sureAddr,Sem.run_bind,Sem.run_pure,Result.andThen_ok,loadVar,tyOk_isAgg ht w]
 cases ha : t.isAgg with
 | false =>
  cases t <;> simp [Ty.isAgg] at ha
  obtain ⟨y,hy,c,hc,hr⟩:=hcell 0 (by simp [Ty.size])
  simp only [Nat.add_zero] at hy
  refine ⟨y,by simp [load,Sem.run,hy],?_⟩
  have hl1:=(LK.fits_flat (v:=v) (by simp [Ty.fits] at hu; exact hu.1))
  rw [hl1.1] at hc
  simp at hc
  subst hc
  exact VR_of_VR1 (by simp [VR1,hl1.2,hr])
 | true =>
  simp only [if_true]
  have hall : ∃ ys : List Value,ys.length = t.size ∧ ∀ k y,ys[k]? = some y → w.cell? ⟨pl'.r,pl'.base + o + k,none⟩ = some y ∧ ∃ c,v.flat[k]? = some c ∧ LR φ β c y:=by
   have : ∀ n,n ≤ t.size → ∃ ys : List Value,ys.length = n ∧ ∀ k y,ys[k]? = some y → w.cell? ⟨pl'.r,pl'.base + o + k,none⟩ = some y ∧ ∃ c,v.flat[k]? = some c ∧ LR φ β c y:=by
    intro n
    induction n with
    | zero=>intro _; exact ⟨[],rfl,by simp⟩
    | succ n ih =>
     intro hn
     obtain ⟨ys,hlen,hys⟩:=ih (by omega)
     obtain ⟨y,hy⟩:=hcell n (by omega)
     refine ⟨ys ++ [y],by simp [hlen],fun k z hz=>?_⟩
     rcases Nat.lt_or_ge k n with h | h
     ·rw [List.getElem?_append_left (by omega)] at hz; exact hys k z hz
     ·rw [List.getElem?_append_right (by omega)] at hz
      have hk0 : k - ys.length = 0:=by
       rcases Nat.eq_zero_or_pos (k - ys.length) with h0 | h0
       ·exact h0
       ·rw [List.getElem?_eq_none (by simp; omega)] at hz; simp at hz
      rw [hk0] at hz
      simp at hz
      subst hz
      have : k = n:=by omega
      subst this
      exact hy
   exact this t.size (Nat.le_refl _)
  obtain ⟨ys,hlen,hys⟩:=hall
  have hlc : (loadCells ⟨pl'.r,pl'.base + o,none⟩ ys.length).run P w = .ok ys.toArray w :=
   run_loadCells_list (P:=P) w ⟨pl'.r,pl'.base + o,none⟩ ys fun k y hy=>by rw [add_addr]; exact (hys k y hy).1
  refine ⟨.agg ys.toArray,by simp [sizeOf,typeInfo,hti,htis,← hlen,hlc,Sem.run_bind],?_⟩
  refine VR1_of_cells hu ha ⟨by omega,fun k c y hc hy=>?_⟩
  obtain ⟨_,c',hc',hr⟩:=hys k y hy
  rw [hc] at hc'
  obtain rfl:=Option.some.inj hc'
  exact hr
theorem run_store {t : Ty} {T : TypeId} {i : Id} {p : List Nat} {b : Blk} {v u : AV} {x y : Value} (hR : HR φ β O look w) (ht : tyOk P t (.inl T) = true) (hx : VR φ β (.ptr i p t) x)
  (hy : VR φ β v y) (hv : t.fits v = true) (hl : look i = some b) (hu : b.val.put p v = some u) (hi : i.isArg = false) :
  ∃ pl cs T',BR φ β O i b w pl cs T' (0,0) ∧ ∃ cs' : Array Value,(Instr.storeAt T x y).run P w = .ok () (w.setRow pl.r cs') ∧ cs'.size = cs.size ∧ b.ty.fits u = true ∧
   (∀ k c,u.flat[k]? = some c → ∃ x,cs'[pl.base + k]? = some x ∧ LR φ β c x):=by
 obtain ⟨pl,o,hb,hf,rfl⟩:=LR_ptr hx
 obtain ⟨pl',cs,T',fr,hB⟩:=hR.live i b hl
 obtain rfl : pl' = pl:=Option.some.inj (hB.place.symm.trans hb)
 obtain ⟨hfr,hge⟩:=hB.own hi
 subst hfr
 rw [hB.ty] at hf
 obtain ⟨hfu,hflat⟩:=Ty.fits_put hB.fits hf hv hu
 obtain ⟨hc,h1,hagg,hone⟩:=cells_of_VR hv hy
 have hsz:=Ty.find_size hf
 have hlen : y.cells.toList.length = t.size:=by rw [← hc.1,Ty.fits_length hv]
 have hroom:=hB.room
 have hsize:=hB.size
 obtain ⟨ti,hti,htis⟩:=tyOk_size ht
 have hrun:=run_storeCells_at P pl'.r (pl'.base + o) T' y.cells.toList 0 cs w hB.heap (by simp at hlen ⊢; omega) (fun v hv=>(List.all_eq_true.1 h1) v hv)
 refine ⟨pl',cs,T',hB,(List.take (pl'.base + o + 0) cs.toList ++ y.cells.toList ++ List.drop (pl'.base + o + 0 + y.cells.toList.length) cs.toList).toArray,?_,?_,hfu,?_⟩
 ·simp only [Instr.storeAt,Instr.sureAddr,storeVar,Sem.run_bind,Sem.run_pure,Result.andThen_ok,sizeOf,typeInfo,run_program,hti]
  have he : y.cells.size = ti.size:=by rw [htis,← hlen]; simp
  simp only [he,ne_eq,not_true_eq_false,if_false]
  exact hrun
 ·simp at hlen ⊢; omega
 ·intro k c hk
  rw [hflat] at hk
  simp only [Nat.add_zero,List.getElem?_toArray]
  have htl : (cs.toList.take (pl'.base + o)).length = pl'.base + o:=by simp; omega
  by_cases hin : o ≤ k ∧ k < o + t.size
  ·rw [if_pos hin] at hk
   have hkl : k - o < y.cells.toList.length:=by omega
   refine ⟨y.cells.toList[k - o],?_,hc.2 (k - o) c _ hk (List.getElem?_eq_getElem hkl)⟩
   rw [List.append_assoc,List.getElem?_append_right (by omega),htl,List.getElem?_append_left (by omega)]
   rw [show pl'.base + k - (pl'.base + o) = k - o by omega]
   exact List.getElem?_eq_getElem hkl
  ·rw [if_neg hin] at hk
   obtain ⟨z,hz,hr⟩:=hB.cells k c hk
   refine ⟨z,?_,hr⟩
   rcases Nat.lt_or_ge k o with h | h
   ·rw [List.append_assoc,List.getElem?_append_left (by omega),List.getElem?_take,if_pos (by omega)]
    simpa using hz
   ·rw [List.getElem?_append_right (by simp at hlen htl ⊢; omega)]
    simp only [List.length_append,htl,List.getElem?_drop,hlen]
    rw [show pl'.base + o + t.size + (pl'.base + k - (pl'.base + o + t.size)) = pl'.base + k by omega]
    simpa using hz
end
open Go.RowKit
section
variable {φ : Nat → Option FuncId} {β : Beta} {P : Program} {O : Nat → Prop} {w : World} {look : Id → Option Blk}
theorem run_fld {st ft : Ty} {T : TypeId} {i : Id} {p : List Nat} {f : Nat} {x : Value} (ht : tyOk P st (.inl T) = true) (hf : st.field f = some ft) (hx : VR φ β (.ptr i p st) x) :
  ∃ y,(Instr.fieldAt T x f).run P w = .ok y w ∧ VR φ β (.ptr i (p ++ [f]) ft) y:=by
 obtain ⟨pl,o,hb,hp,rfl⟩:=LR_ptr hx
 obtain ⟨fs,g,off,hu,hg,ho,hfi,hr,hs,_⟩:=tyOk_struct ht hf
 obtain ⟨ti,hti,htis⟩:=tyOk_size hr
 have hgs : ti.size ≠ 0:=by rw [htis]; exact hs
 refine ⟨.pointer (some ⟨pl.r,pl.base + (o + off),none⟩),?_,VR_ptr hb (by rw [Ty.find_append hp,hfi]; rfl)⟩
 simp only [Instr.fieldAt,Sem.run_bind,run_underlying hu w,Result.andThen_ok,hg,Instr.sureAddr,Sem.run_pure,fieldPlace,sizeOf,typeInfo,run_program,hti,if_neg hgs,add_addr]
 simp [ho,Nat.add_assoc]
theorem run_idx {n : Nat} {t : Ty} {T : TypeId} {i : Id} {p : List Nat} {z : Int} {x y : Value} {v : AV} (ht : tyOk P (.arr n t) (.inl T) = true) (hx : VR φ β (.ptr i p (.arr n t)) x) (hy : VR φ β v y) (hz : toIx v = some z) (h0 : 0 ≤ z) (h1 : z < n) :
  ∃ r,(Instr.indexAt T x y).run P w = .ok r w ∧ VR φ β (.ptr i (p ++ [z.toNat]) t) r:=by
 obtain ⟨pl,o,hb,hp,rfl⟩:=LR_ptr hx
 obtain ⟨k,rfl⟩:=toIx_int hz hy
 obtain ⟨u,hu,he⟩:=tyOk_array ht
 obtain ⟨ti,hti,htis⟩:=tyOk_size he
 have hzn : z.toNat < n:=by omega
 refine ⟨.pointer (some ⟨pl.r,pl.base + (o + z.toNat * t.size),none⟩),?_,VR_ptr hb (by rw [Ty.find_append hp]; simp [Ty.find,hzn])⟩
 simp only [Instr.indexAt,asIntOf,Sem.run_bind,Sem.run_pure,run_underlying hu w,Result.andThen_ok,Instr.sureAddr,sizeOf,typeInfo,run_program,hti]
 rw [if_pos ⟨h0,h1⟩]
 simp [Sem.run_bind,sizeOf,typeInfo,hti,htis,add_addr,Nat.add_assoc]
theorem run_sidx {t : Ty} {T e : TypeId} {i : Id} {off len : Nat} {z : Int} {x y : Value} {v : AV} {b : Blk} {n : Nat} (hR : HR φ β O look w) (hu : P.underlying T = some (.slice e)) (ht : tyOk P t (.inl e) = true) (hx : VR φ β (.sl i off len) x) (hy : VR φ β v y) (hz : toIx v = some z)
  (hl : look i = some b) (hbt : b.ty = .arr n t) (h0 : 0 ≤ z) (h1 : z < len) :
  ∃ r,(Instr.indexAt T x y).run P w = .ok r w ∧ VR φ β (.ptr i [off + z.toNat] t) r:=by
 obtain ⟨pl,n',t',cap,hb,hty,hon,hnc,hroom,rfl⟩:=LR_sl hx
 obtain ⟨k,rfl⟩:=toIx_int hz hy
 obtain ⟨ti,hti,htis⟩:=tyOk_size ht
 obtain ⟨pl',cs,T',fr,hB⟩:=hR.live i b hl
 obtain rfl : pl' = pl:=Option.some.inj (hB.place.symm.trans hb)
 have he:=hB.ty
 rw [hty,hbt] at he
 injection he with he1 he2
 subst he1 he2
 have hzn : off + z.toNat < n':=by omega
 refine ⟨.pointer (some ⟨pl'.r,pl'.base + ((off + z.toNat) * t'.size),none⟩),?_,VR_ptr hb (by rw [hty]; simp [Ty.find,hzn])⟩
 simp only [Instr.indexAt,asIntOf,Sem.run_bind,Sem.run_pure,run_underlying hu w,Result.andThen_ok]
 rw [if_pos ⟨h0,h1⟩]
 simp [Sem.run_bind,sizeOf,typeInfo,hti,htis,add_addr,Nat.add_assoc,Nat.add_mul]
theorem flat_arr_seg {n : Nat} {t : Ty} {f : Fin n → AV} (h : ∀ i,t.fits (f i) = true) (i : Nat) (hi : i < n) : ((AV.arr n f).flat.drop (i * t.size)).take t.size = (f ⟨i,hi⟩).flat:=by
 apply List.ext_getElem?
 intro k
 simp only [List.getElem?_take,List.getElem?_drop]
 have hl:=Ty.fits_length (h ⟨i,hi⟩)
 by_cases hk : k < t.size
 ·rw [if_pos hk]
  simp only [AV.flat]
  rw [getElem?_flatMap_const _ _ t.size (fun j _=>Ty.fits_length (h j)) i (by simpa using hi) k hk]
  simp
 ·rw [if_neg hk,List.getElem?_eq_none (by omega)]
theorem fits_arr {n : Nat} {t : Ty} {f : Fin n → AV} (h : (Ty.arr n t).fits (.arr n f) = true) : ∀ i,t.fits (f i) = true:=by
 simpa [Ty.fits] using h
theorem run_part {t : Ty} {T : TypeId} {v : AV} {cs : List Value} {o : Nat} (ht : tyOk P t (.inl T) = true) (hf : t.fits v = true) (h : All2 (LR φ β) v.flat ((cs.drop o).take t.size)) :
  ∃ y,(part T cs.toArray o).run P w = .ok y w ∧ VR φ β v y ∧ y.cells.toList = (cs.drop o).take t.size:=by
 obtain ⟨ti,hti,htis⟩:=tyOk_size ht
 have hfl:=Ty.fits_length hf
 have hlen:=h.1
 simp only [part,Sem.run_bind,tyOk_isAgg ht w,Result.andThen_ok]
 cases ha : t.isAgg with
 | true =>
  have e : ((cs.toArray).extract o (o + ti.size)) = ((cs.drop o).take t.size).toArray:=by
   rw [htis]
   apply Array.toList_inj.1
   simp
  refine ⟨.agg ((cs.drop o).take t.size).toArray,by simp only [Sem.run_bind,sizeOf,typeInfo,run_program,hti,Result.andThen_ok,Sem.run_pure,if_true,e],VR1_of_cells hf ha h,by simp [Value.cells]⟩
 | false =>
  cases t <;> simp [Ty.isAgg] at ha
  simp only [Ty.size] at *
  rw [hfl] at hlen
  have hol : o < cs.length:=by
   rcases Nat.lt_or_ge o cs.length with h | h
   ·exact h
   ·rw [List.drop_eq_nil_of_le h] at hlen; simp at hlen
  have he : (cs.drop o).take 1 = [cs[o]]:=by
   rw [List.drop_eq_getElem_cons hol]; rfl
  have hl1:=LK.fits_flat (v:=v) (by simp [Ty.fits] at hf; exact hf.1)
  rw [he,hl1.1] at h
  have hVR : VR φ β v cs[o]:=VR_of_VR1 (by simp only [VR1,hl1.2,Bool.false_eq_true,if_false]; exact h.head)
  refine ⟨cs[o],by simp [List.getElem?_eq_getElem hol],hVR,?_⟩
  rw [he,(cells_of_VR hf hVR).2.2.2 rfl]
theorem run_aidx {n : Nat} {t : Ty} {T : TypeId} {f : Fin n → AV} {z : Int} {x y : Value} {v : AV} (ht : tyOk P (.arr n t) (.inl T) = true) (hf : (Ty.arr n t).fits (.arr n f) = true) (hx : VR φ β (.arr n f) x) (hy : VR φ β v y) (hz : toIx v = some z) (h0 : 0 ≤ z) (h1 : z < n) :
  ∃ r,(Instr.index T x y).run P w = .ok r w ∧ VR φ β (f ⟨z.toNat,by omega⟩) r:=by
 obtain ⟨k,rfl⟩:=toIx_int hz hy
 obtain ⟨u,hu,he⟩:=tyOk_array ht
 obtain ⟨ti,hti,htis⟩:=tyOk_size he
 obtain ⟨hc,_,hagg,_⟩:=cells_of_VR hf hx
 have hx':=hagg rfl
 have hseg:=flat_arr_seg (fits_arr hf) z.toNat (by omega)
 have h2:=hc.seg (z.toNat * t.size) t.size
 rw [hseg] at h2
 obtain ⟨r,hr,hv,_⟩:=run_part (w:=w) he (fits_arr hf ⟨z.toNat,by omega⟩) h2
 refine ⟨r,?_,hv⟩
 rw [hx']
 simp only [Instr.index,asIntOf,Sem.run_bind,Sem.run_pure,run_underlying hu w,Result.andThen_ok]
 rw [if_pos ⟨h0,h1⟩]
 simp only [Sem.run_bind,sizeOf,typeInfo,run_program,hti,Result.andThen_ok,htis,Sem.run_pure]
 simpa using hr
theorem field_at : ∀ {v u : AV} {i : Nat},v.field i = some u → v.at [i] = some u:=by
 intro v
 induction v with
 | cons a b _ ihb =>
  intro u i hv
  cases i with
  | zero=>simp [AV.field] at hv; simp [AV.at,hv]
  | succ i=>simp only [AV.field] at hv; simp only [AV.at]; exact ihb hv
 | _=>intro u i hv; simp [AV.field] at hv
theorem field_seg {t ft : Ty} {v u : AV} {i off : Nat} (hf : t.fits v = true) (hfi : t.find [i] = some (off,ft)) (hv : v.field i = some u) : ft.fits u = true ∧ (v.flat.drop off).take ft.size = u.flat:=by
 obtain ⟨hu,hk⟩:=Ty.fits_at hf hfi (field_at hv)
 refine ⟨hu,List.ext_getElem? fun k=>?_⟩
 simp only [List.getElem?_take,List.getElem?_drop]
 have hl:=Ty.fits_length hu
 by_cases h : k < ft.size
 ·rw [if_pos h,hk k h]
 ·rw [if_neg h,List.getElem?_eq_none (by omega)]
theorem field_ty {t : Ty} {v u : AV} {i : Nat} (hf : t.fits v = true) (hv : v.field i = some u) : ∃ ft,t.field i = some ft:=by
 revert i t
 induction v with
 | cons a b _ ihb =>
  intro t i hf hv
  cases t with
  | leaf k=>simp [Ty.fits] at hf; exact absurd (LK.fits_flat hf.1).2 (by simp [AV.isAgg])
  | arr n e=>simp [Ty.fits] at hf
  | unit=>simp [Ty.fits] at hf
  | cons ta tb =>
   simp [Ty.fits] at hf
   cases i with
   | zero=>exact ⟨_,rfl⟩
   | succ i=>change b.field i = some u at hv; exact ihb (t:=tb) (i:=i) hf.2 hv
 | _=>intro t i hf hv; simp [AV.field] at hv
theorem run_field {t : Ty} {T : TypeId} {v u : AV} {i : Nat} {x : Value} (ht : tyOk P t (.inl T) = true) (hf : t.fits v = true) (hx : VR φ β v x) (hv : v.field i = some u) :
  ∃ y,(Instr.field T x i).run P w = .ok y w ∧ VR φ β u y:=by
 obtain ⟨ft,hft⟩:=field_ty hf hv
 obtain ⟨fs,g,off,hu,hg,ho,hfi,hr,hs,_⟩:=tyOk_struct ht hft
 obtain ⟨hfu,hseg⟩:=field_seg hf hfi hv
 have hag : t.isAgg = true:=by cases t <;> first | rfl | (simp [Ty.field] at hft)
 obtain ⟨hc,_,hagg,_⟩:=cells_of_VR hf hx
 have h2:=hc.seg off ft.size
 rw [hseg] at h2
 obtain ⟨r,hr',hvr,_⟩:=run_part (w:=w) hr hfu h2
 refine ⟨r,?_,hvr⟩
 rw [hagg hag]
 simp only [Instr.field,Sem.run_bind,run_underlying hu w,Result.andThen_ok,hg,asAgg,Sem.run_pure]
 subst ho
 simpa using hr'
theorem run_newVar {T : TypeId} {z : Value} : (newVar T z).run P w = .ok ⟨w.heap.size,0,none⟩ (w.alloc (.cells z.cells T)):=by
 simp [newVar,newRow,newObj,Sem.run_bind,Sem.run]
theorem run_alloc {t : Ty} {T : TypeId} {old : Value} (ht : tyOk P t (.inl T) = true) :
  ∃ cs : Array Value,(Instr.alloc T true old).run P w = .ok (.pointer (some ⟨w.heap.size,0,none⟩)) (w.alloc (.cells cs T)) ∧ All2 (LR φ β) t.zero.flat cs.toList:=by
 obtain ⟨z,hz,hc⟩:=tyOk_zero (φ:=φ) (β:=β) ht w
 refine ⟨z.cells,?_,hc⟩
 simp only [Instr.alloc,Sem.run_bind,hz,Result.andThen_ok]
 simp only [run_newVar,Sem.run_bind,Result.andThen_ok,Sem.run_pure]
theorem run_box {T : TypeId} {x : Value} : (Instr.box T x).run P w = .ok (.pointer (some ⟨w.heap.size,0,none⟩)) (w.alloc (.cells x.cells T)):=by
 simp only [Instr.box,run_newVar,Sem.run_bind,Result.andThen_ok,Sem.run_pure]
end
open Go.RowKit
section
variable {φ : Nat → Option FuncId} {β : Beta} {P : Program} {O : Nat → Prop} {w : World} {look : Id → Option Blk}
theorem foldl_set_list (off : Nat) : ∀ (xs : List Value) (k : Nat) (cs : Array Value) (m : Nat),
  ((xs.zipIdx k).foldl (fun (cs : Array Value) (p : Value × Nat)=>cs.setIfInBounds (off + p.2) p.1) cs).size = cs.size ∧
  (off + k + xs.length ≤ cs.size → ((xs.zipIdx k).foldl (fun (cs : Array Value) (p : Value × Nat)=>cs.setIfInBounds (off + p.2) p.1) cs)[m]? =
   if off + k ≤ m ∧ m < off + k + xs.length then xs[m - (off + k)]? else cs[m]?)
 | [],k,cs,m=>by simp; intro _ h1 h2; omega
 | x :: xs,k,cs,m=>by
  simp only [List.zipIdx_cons,List.foldl_cons]
  obtain ⟨h1,h2⟩:=foldl_set_list off xs (k + 1) (cs.setIfInBounds (off + k) x) m
  refine ⟨by simpa using h1,fun hl=>?_⟩
  rw [h2 (by rw [Array.size_setIfInBounds]; simp at hl; omega)]
  simp only [List.length_cons] at hl ⊢
  by_cases hm : off + (k + 1) ≤ m ∧ m < off + (k + 1) + xs.length
  ·rw [if_pos hm,if_pos (by omega)]
   rw [show m - (off + k) = (m - (off + (k + 1))) + 1 by omega]
   simp
  ·rw [if_neg hm]
   by_cases hk : m = off + k
   ·subst hk
    rw [if_pos (by omega)]
    simp [Array.getElem?_setIfInBounds]
    omega
   ·rw [if_neg (by omega)]
    simp [Array.getElem?_setIfInBounds,Ne.symm hk]
theorem fill_sound {t : Ty} {place : Nat → Option (Nat × Nat)} (hp : ∀ i u,t.part i = some u → ∃ off,t.find [i] = some (off,u) ∧ place i = some (off,u.size)) :
  ∀ (l : List (Nat × AV)) (xs : List (Nat × Value)) (v r : AV) (cs : Array Value),All2 (fun a b=>a.1 = b.1 ∧ VR φ β a.2 b.2) l xs → t.fits v = true → All2 (LR φ β) v.flat cs.toList → fill t v l = some r →
   ∃ cs',Instr.fill place cs xs = some cs' ∧ All2 (LR φ β) r.flat cs'.toList ∧ t.fits r = true:=by
 intro l
 induction l with
 | nil =>
  intro xs v r cs hx hv hc h
  have : xs = []:=by have:=hx.1; simp at this; exact List.length_eq_zero_iff.1 this.symm
  subst this
  simp [fill] at h
  subst h
  exact ⟨cs,rfl,hc,hv⟩
 | cons a l ih =>
  intro xs v r cs hx hv hc h
  cases xs with
  | nil=>have:=hx.1; simp at this
  | cons b xs =>
   obtain ⟨i,av⟩:=a
   obtain ⟨j,x⟩:=b
   obtain ⟨hij,hVR⟩:=hx.head
   simp only at hij hVR
   subst hij
   simp only [fill] at h
   cases hpt : t.part i with
   | none=>simp [hpt] at h
   | some u =>
    simp only [hpt] at h
    split at h
    ·rename_i hfx
     cases hput : v.put [i] av with
     | none=>simp [hput] at h
     | some w' =>
      simp only [hput] at h
      obtain ⟨off,hfind,hpl⟩:=hp i u hpt
      obtain ⟨hfw,hflat⟩:=Ty.fits_put hv hfind hfx hput
      obtain ⟨hcx,_,_,_⟩:=cells_of_VR hfx hVR
      have hsz:=Ty.find_size hfind
      have hlx:=Ty.fits_length hfx
      have hlv:=Ty.fits_length hv
      have hlw:=Ty.fits_length hfw
      have hcl:=hc.1
      have hxl:=hcx.1
      have hcs : cs.size = t.size:=by rw [← hlv,hcl]; simp
      have hxs : x.cells.size = u.size:=by rw [← hlx,hxl]; simp
      have hfs:=fun m=>foldl_set_list off x.cells.toList 0 cs m
      have hfold : (Array.foldl (fun (cs : Array Value) (x : Value × Nat)=>cs.setIfInBounds (off + x.2) x.1) cs x.cells.zipIdx) =
        (x.cells.toList.zipIdx 0).foldl (fun (cs : Array Value) (p : Value × Nat)=>cs.setIfInBounds (off + p.2) p.1) cs:=by
       rw [← Array.foldl_toList]; simp
      obtain ⟨cs',h1,h2,h3⟩:=ih xs w' r ((x.cells.toList.zipIdx 0).foldl (fun (cs : Array Value) (p : Value × Nat)=>cs.setIfInBounds (off + p.2) p.1) cs) hx.tail hfw
       ⟨by simp only [Array.length_toList,(hfs 0).1]; omega,fun k c y hk hy=>by
        rw [hflat] at hk
        simp only [Array.getElem?_toList] at hy
        rw [(hfs k).2 (by simp; omega)] at hy
        simp only [Nat.add_zero,Array.length_toList] at hy
        by_cases hin : off ≤ k ∧ k < off + u.size
        ·rw [if_pos hin] at hk
         rw [if_pos (by omega)] at hy
         exact hcx.2 (k - off) c y hk hy
        ·rw [if_neg hin] at hk
         rw [if_neg (by omega)] at hy
         exact hc.2 k c y hk (by simpa using hy)⟩ h
      refine ⟨cs',?_,h2,h3⟩
      simp only [Instr.fill,hpl,hxs,ne_eq,not_true_eq_false,decide_false,Bool.false_or,hcs]
      rw [if_neg (by simp; omega),hfold]
      exact h1
    ·simp at h
theorem mapM_places {P : Program} : ∀ {ty : Ty} {fs : List Field} {o : Nat},tyOk P ty (.inr (fs,o)) = true →
  ∃ pl,fs.mapM (fun f=>(P.info? f.type).map fun i=>(f.offset,i.size)) = some pl ∧ ∀ i u,ty.part i = some u → ∃ off,ty.find [i] = some (off,u) ∧ pl[i]? = some (o + off,u.size):=by
 intro ty
 induction ty with
 | leaf k=>intro fs o h; simp [tyOk] at h
 | arr n e _=>intro fs o h; simp [tyOk] at h
 | unit =>
  intro fs o h
  simp [tyOk] at h
  subst h
  exact ⟨[],rfl,fun i u h=>by simp [Ty.part] at h⟩
 | cons a b _ ihb =>
  intro fs o h
  cases fs with
  | nil=>simp [tyOk] at h
  | cons f r =>
   simp [tyOk] at h
   obtain ⟨⟨⟨⟨h1,h2⟩,h3⟩,h4⟩,h5⟩:=h
   obtain ⟨pl,hpl,hq⟩:=ihb h5
   obtain ⟨ti,hti,htis⟩:=tyOk_size h4
   refine ⟨(f.offset,ti.size) :: pl,by simp [List.mapM_cons,hti,hpl],fun i u h=>?_⟩
   cases i with
   | zero=>simp [Ty.part] at h; subst h; exact ⟨0,by simp [Ty.find],by simp [h1,htis]⟩
   | succ i =>
    simp only [Ty.part] at h
    obtain ⟨off,hf,hg⟩:=hq i u h
    refine ⟨a.size + off,by simp only [Ty.find,hf,Option.map_some],?_⟩
    simp only [List.getElem?_cons_succ,hg,Nat.add_assoc]
theorem tyOk_zero_info {ty : Ty} {t : TypeId} (h : tyOk P ty (.inl t) = true) : ∃ i z,P.info? t = some i ∧ i.zero = some z ∧ All2 (LR φ β) ty.zero.flat z.cells.toList:=by
 obtain ⟨z,hz,hc⟩:=tyOk_zero (φ:=φ) (β:=β) h default
 obtain ⟨i,hi,_⟩:=tyOk_size h
 refine ⟨i,z,hi,?_,hc⟩
 simp only [zeroValue,typeInfo,Sem.run_bind,run_program,Result.andThen_ok,hi,Sem.run_pure] at hz
 cases hzz : i.zero with
 | none=>simp [hzz,unsupported,Sem.run] at hz
 | some z'=>simp [hzz] at hz; rw [hz]
theorem run_build_sound {t : Ty} {T : TypeId} {l : List (Nat × AV)} {xs : List (Nat × Value)} {r : AV} (ht : tyOk P t (.inl T) = true) (ha : t.isAgg = true) (hx : All2 (fun a b=>a.1 = b.1 ∧ VR φ β a.2 b.2) l xs)
  (h : fill t t.zero l = some r) : ∃ y,(Instr.build T xs.toArray).run P w = .ok y w ∧ VR φ β r y:=by
 obtain ⟨i,z,hi,hz,hc⟩:=tyOk_zero_info (φ:=φ) (β:=β) ht
 have key : ∃ cs',P.built T xs = some cs' ∧ All2 (LR φ β) r.flat cs'.toList ∧ t.fits r = true:=by
  unfold Program.built
  cases t with
  | leaf k=>simp [Ty.isAgg] at ha
  | unit=>simp [tyOk] at ht
  | arr n e =>
   obtain ⟨u,hu,he⟩:=tyOk_array ht
   obtain ⟨ti,hti,htis⟩:=tyOk_size he
   simp only [hi,hu,hz,hti]
   exact fill_sound (t:=.arr n e) (place:=fun i=>some (i * ti.size,ti.size)) (fun j v hj=>by
    simp only [Ty.part] at hj
    split at hj <;> simp at hj
    subst hj
    exact ⟨j * e.size,by simp [Ty.find, *],by simp [htis]⟩) l xs _ r z.cells hx zero_fits hc h
  | cons a b =>
   have h':=ht
   simp only [tyOk,Bool.and_eq_true] at h'
   cases hu : P.underlying T with
   | none=>simp [hu] at h'
   | some d =>
    simp only [hu] at h'
    cases d <;> simp at h'
    rename_i fs
    have h2 : tyOk P (.cons a b) (.inr (fs.toList,0)) = true:=by
     cases hl : fs.toList with
     | nil=>simp [hl] at h'
     | cons f r=>simp [hl] at h'; simp [tyOk]; simpa using h'.1
    obtain ⟨pl,hpl,hq⟩:=mapM_places h2
    simp only [hi,hz,hpl]
    exact fill_sound (t:=.cons a b) (place:=fun i=>pl.toArray[i]?) (fun j v hj=>by
     obtain ⟨off,hf,hg⟩:=hq j v hj
     exact ⟨off,hf,by simpa using hg⟩) l xs _ r z.cells hx zero_fits hc h
 obtain ⟨cs',hb,hc',hf⟩:=key
 refine ⟨.agg cs',run_build w T xs.toArray cs' (by simpa using hb),?_⟩
 have:=VR1_of_cells hf ha hc'
 simpa using this
end
open Go.RowKit
def eqElems (d : Nat) (elem : TypeId) (xs ys : Array Value) (n : Nat) : List Nat → Sem Bool
 | []=>pure true
 | i :: l=>do
  let a ← part elem xs (i * n)
  let b ← part elem ys (i * n)
  let r ← Op.equalIn d elem a b
  if (!r) = true then pure false else eqElems d elem xs ys n l
theorem run_equalIn_array {P : Program} (w : World) (d : Nat) (t : TypeId) (xs ys : Array Value) (len : Nat) (elem : TypeId) (ti : TypeInfo) (ht : P.underlying t = some (.array len elem)) (hi : P.info? elem = some ti) :
  (Op.equalIn (d + 1) t (.agg xs) (.agg ys)).run P w = (eqElems d elem xs ys ti.size (List.range len)).run P w:=by
 simp only [Op.equalIn,Sem.run_bind,run_underlying ht,Result.andThen_ok,sizeOf,typeInfo,run_program,hi,Sem.run_pure]
 simp only [Std.Legacy.Range.forIn_eq_forIn_range',Std.Legacy.Range.size,Nat.sub_zero,Nat.add_sub_cancel,Nat.div_one]
 rw [List.range_eq_range']
 generalize List.range' 0 len = l
 clear ht
 induction l generalizing w with
 | nil=>simp [eqElems]
 | cons i l ih =>
  simp only [List.forIn_cons,eqElems,Sem.run_bind,Sem.run_ite]
  generalize (part elem xs (i * ti.size)).run P w = r1
  cases r1 with
  | ok a w1 =>
   simp only [Result.andThen_ok]
   generalize (part elem ys (i * ti.size)).run P w1 = r2
   cases r2 with
   | ok b w2 =>
    simp only [Result.andThen_ok]
    generalize (Op.equalIn d elem a b).run P w2 = r3
    cases r3 with
    | ok r w3 =>
     cases r
     ·simp only [Result.andThen_ok,Bool.not_false,if_true,Sem.run_pure]
     ·simp only [Result.andThen_ok,Bool.not_true,Bool.false_eq_true,if_false,Sem.run_pure]
      exact ih w3
    | halt x w3=>simp [Result.andThen]
   | halt x w2=>simp [Result.andThen]
  | halt x w1=>simp [Result.andThen]
def heldOk (P : Program) : Ty → (TypeId ⊕ List Field) → Bool
 | .leaf k,.inl _=>match k with | .bool=>true | .int _=>true | .str=>true | _=>false
 | .arr _ e,.inl t=>match P.underlying t with | some (.array _ u)=>heldOk P e (.inl u) | _=>false
 | .cons a b,.inl t=>!P.stoodInHeld t && (match P.underlying t with
  | some (.struct fs)=>(match fs.toList with
   | f :: r=>heldOk P a (.inl f.type) && heldOk P b (.inr r)
   | []=>false)
  | _=>false)
 | .unit,.inr fs=>fs.isEmpty
 | .cons a b,.inr fs=>(match fs with
  | f :: r=>heldOk P a (.inl f.type) && heldOk P b (.inr r)
  | []=>false)
 | _,_=>false
def Ty.depth : Ty → Nat
 | .leaf _=>1
 | .arr _ t=>t.depth + 1
 | .unit=>1
 | .cons a b=>Nat.max (a.depth + 1) b.depth
section
variable {φ : Nat → Option FuncId} {β : Beta} {P : Program} {O : Nat → Prop} {w : World} {look : Id → Option Blk}
theorem AV.eq_arr {n : Nat} {f g : Fin n → AV} : (AV.arr n f).eq (.arr n g) = (List.finRange n).foldr (fun i acc=>andEq ((f i).eq (g i)) acc) (some true):=by
 simp [AV.eq]
theorem eq_elems {n : Nat} {t : Ty} {elem : TypeId} {f g : Fin n → AV} {xs ys : List Value} {d : Nat} {ti : TypeInfo} (ht : tyOk P t (.inl elem) = true) (hs : ti.size = t.size) (hf : ∀ i,t.fits (f i) = true) (hg : ∀ i,t.fits (g i) = true)
  (hx : All2 (LR φ β) (AV.arr n f).flat xs) (hy : All2 (LR φ β) (AV.arr n g).flat ys)
  (ih : ∀ (a b : AV) (va vb : Value) (r : Bool),t.fits a = true → t.fits b = true → VR φ β a va → VR φ β b vb → a.eq b = some r → (Op.equalIn d elem va vb).run P w = .ok r w) :
  ∀ (l : List (Fin n)) (r : Bool),l.foldr (fun i acc=>andEq ((f i).eq (g i)) acc) (some true) = some r → (eqElems d elem xs.toArray ys.toArray ti.size (l.map (·.val))).run P w = .ok r w:=by
 intro l
 induction l with
 | nil=>intro r h; simp at h; subst h; rfl
 | cons i l ihl =>
  intro r h
  simp only [List.foldr_cons] at h
  simp only [List.map_cons,eqElems,Sem.run_bind]
  have h1:=hx.seg (i.val * t.size) t.size
  rw [flat_arr_seg hf i.val i.isLt] at h1
  have h2:=hy.seg (i.val * t.size) t.size
  rw [flat_arr_seg hg i.val i.isLt] at h2
  obtain ⟨va,ha,hva,_⟩:=run_part (w:=w) ht (hf i) h1
  obtain ⟨vb,hb,hvb,_⟩:=run_part (w:=w) ht (hg i) h2
  rw [hs]
  simp only [ha,hb,Result.andThen_ok]
  cases he : (f i).eq (g i) with
  | none=>simp [he,andEq] at h
  | some q =>
   rw [ih _ _ _ _ q (hf i) (hg i) hva hvb he]
   simp only [Result.andThen_ok]
   cases q with
   | false=>simp [he,andEq] at h; subst h; simp
   | true =>
    simp [he,andEq] at h
    simp only [Bool.not_true,Bool.false_eq_true,if_false]
    have:=ihl r h
    rw [hs] at this
    exact this
theorem eq_fields {xs ys : List Value} {d : Nat} : ∀ {t : Ty} {fs : List Field} {o : Nat} {a b : AV} {r : Bool},tyOk P t (.inr (fs,o)) = true → heldOk P t (.inr fs) = true → t.fits a = true → t.fits b = true →
  All2 (LR φ β) a.flat ((xs.drop o).take t.size) → All2 (LR φ β) b.flat ((ys.drop o).take t.size) → t.depth ≤ d + 1 → a.eq b = some r →
  (∀ (u : Ty) (T : TypeId),u.depth ≤ d → tyOk P u (.inl T) = true → heldOk P u (.inl T) = true → ∀ (a b : AV) (va vb : Value) (r : Bool),u.fits a = true → u.fits b = true → VR φ β a va → VR φ β b vb → a.eq b = some r → (Op.equalIn d T va vb).run P w = .ok r w) →
  (Op.eqFields d xs.toArray ys.toArray fs).run P w = .ok r w:=by
 intro t
 induction t with
 | leaf k=>intro fs o a b r h; simp [tyOk] at h
 | arr n e _=>intro fs o a b r h; simp [tyOk] at h
 | unit =>
  intro fs o a b r h _ ha hb _ _ _ he _
  simp [tyOk] at h
  subst h
  cases a <;> simp [Ty.fits] at ha
  cases b <;> simp [Ty.fits] at hb
  simp [AV.eq] at he
  subst he
  rfl
 | cons ta tb iha ihb =>
  intro fs o a b r h hh ha hb hxa hyb hd he ih
  cases fs with
  | nil=>simp [tyOk] at h
  | cons f fs =>
   simp [tyOk] at h
   obtain ⟨⟨⟨⟨h1,h2⟩,h3⟩,h4⟩,h5⟩:=h
   simp only [heldOk,Bool.and_eq_true] at hh
   cases a <;> simp [Ty.fits] at ha
   cases b <;> simp [Ty.fits] at hb
   rename_i a1 a2 b1 b2
   have hla:=Ty.fits_length ha.1
   have hlb:=Ty.fits_length hb.1
   have sp : ∀ (xs : List Value) (c1 c2 : AV),c1.flat.length = ta.size → All2 (LR φ β) (AV.cons c1 c2).flat ((xs.drop o).take (ta.size + tb.size)) →
     All2 (LR φ β) c1.flat ((xs.drop o).take ta.size) ∧ All2 (LR φ β) c2.flat ((xs.drop (o + ta.size)).take tb.size):=by
    intro xs c1 c2 hl hc
    have e1:=hc.seg 0 ta.size
    have e2:=hc.seg ta.size tb.size
    simp only [AV.flat,List.drop_zero,List.take_append_of_le_length (Nat.le_of_eq hl.symm),List.take_of_length_le (Nat.le_of_eq hl),List.take_take,Nat.min_eq_left (Nat.le_add_right _ _)] at e1
    have hlen:=hc.1
    simp only [AV.flat,List.length_append,List.length_take,List.length_drop] at hlen
    refine ⟨e1,?_⟩
    have e3 : (AV.cons c1 c2).flat.drop ta.size = c2.flat:=by simp [AV.flat,← hl]
    rw [e3] at e2
    have e4 : ((xs.drop o).take (ta.size + tb.size)).drop ta.size = (xs.drop (o + ta.size)).take tb.size:=by
     rw [List.drop_take,List.drop_drop]; congr 1; omega
    rw [e4] at e2
    simp only [List.take_take,Nat.min_self] at e2
    have hl2 : c2.flat.length ≤ tb.size:=by omega
    rw [List.take_of_length_le hl2] at e2
    exact e2
   obtain ⟨hx1,hx2⟩:=sp xs a1 a2 hla (by simpa [Ty.size] using hxa)
   obtain ⟨hy1,hy2⟩:=sp ys b1 b2 hlb (by simpa [Ty.size] using hyb)
   obtain ⟨va,hva,hra,_⟩:=run_part (w:=w) h4 ha.1 hx1
   obtain ⟨vb,hvb,hrb,_⟩:=run_part (w:=w) h4 hb.1 hy1
   have hdp : ta.depth + 1 ≤ d + 1 ∧ tb.depth ≤ d + 1:=by
    simp only [Ty.depth] at hd
    exact ⟨Nat.le_trans (Nat.le_max_left _ _) hd,Nat.le_trans (Nat.le_max_right _ _) hd⟩
   simp only [Op.eqFields,if_pos h2,Sem.run_bind,ne_eq,h2,not_false_eq_true,if_true]
   rw [h1,hva]
   simp only [Result.andThen_ok,hvb]
   simp only [AV.eq] at he
   cases hq : a1.eq b1 with
   | none=>simp [hq,andEq] at he
   | some q =>
    rw [ih ta f.type (by omega) h4 hh.1 a1 b1 va vb q ha.1 hb.1 hra hrb hq]
    simp only [Result.andThen_ok]
    cases q with
    | false=>simp [hq,andEq] at he; subst he; simp
    | true =>
     simp [hq,andEq] at he
     simp only [Bool.not_true,Bool.false_eq_true,if_false]
     exact ihb h5 hh.2 ha.2 hb.2 hx2 hy2 hdp.2 he ih
theorem VR_agg_cells {t : Ty} {v : AV} {x : Value} (hf : t.fits v = true) (ha : t.isAgg = true) (h : VR φ β v x) : ∃ cs : List Value,x = .agg cs.toArray ∧ All2 (LR φ β) v.flat cs:=by
 obtain ⟨hc,_,hagg,_⟩:=cells_of_VR hf h
 exact ⟨x.cells.toList,by simpa using hagg ha,hc⟩
theorem eq_sound : ∀ (d : Nat) (t : Ty) (T : TypeId),t.depth ≤ d → tyOk P t (.inl T) = true → heldOk P t (.inl T) = true → ∀ (a b : AV) (va vb : Value) (r : Bool),t.fits a = true → t.fits b = true → VR φ β a va → VR φ β b vb → a.eq b = some r →
  (Op.equalIn d T va vb).run P w = .ok r w:=by
 intro d
 induction d with
 | zero=>intro t T hd; exact absurd hd (by cases t <;> simp [Ty.depth])
 | succ d ih =>
  intro t T hd ht hh a b va vb r ha hb hva hvb he
  cases t with
  | leaf k =>
   simp only [tyOk,Bool.and_eq_true] at ht
   cases hu : P.underlying T with
   | none=>simp [hu] at ht
   | some de =>
    simp only [hu] at ht
    cases k <;> simp [heldOk] at hh
    ·cases a <;> simp [Ty.fits,LK.fits] at ha
     cases b <;> simp [Ty.fits,LK.fits] at hb
     cases de <;> simp [LK.desc] at ht
     rw [LR_bool hva,LR_bool hvb]
     simp [AV.eq] at he
     rw [run_equalIn_bool' w d T _ _ hu,← he]
    ·cases a <;> simp [Ty.fits,LK.fits] at ha
     cases b <;> simp [Ty.fits,LK.fits] at hb
     cases de <;> simp [LK.desc] at ht
     rw [LR_int hva,LR_int hvb]
     obtain ⟨rfl,_⟩:=ha
     obtain ⟨rfl,_⟩:=hb
     simp [AV.eq] at he
     rw [run_equalIn_int w d T _ _ _ _ hu,← he]
    ·cases a <;> simp [Ty.fits,LK.fits] at ha
     cases b <;> simp [Ty.fits,LK.fits] at hb
     cases de <;> simp [LK.desc] at ht
     rw [LR_str hva,LR_str hvb]
     simp [AV.eq] at he
     rw [run_equalIn_string w d T _ _ hu,← beq_toListBytes,he]
  | unit=>simp [tyOk] at ht
  | arr n e =>
   obtain ⟨u,hu,he'⟩:=tyOk_array ht
   obtain ⟨ti,hti,htis⟩:=tyOk_size he'
   simp only [heldOk,hu] at hh
   obtain ⟨xs,rfl,hx⟩:=VR_agg_cells ha rfl hva
   obtain ⟨ys,rfl,hy⟩:=VR_agg_cells hb rfl hvb
   cases a <;> simp only [Ty.fits] at ha <;> try (simp at ha; done)
   cases b <;> simp only [Ty.fits] at hb <;> try (simp at hb; done)
   rename_i m f m' g
   simp at ha hb
   obtain ⟨rfl,ha⟩:=ha
   obtain ⟨rfl,hb⟩:=hb
   rw [AV.eq_arr] at he
   rw [run_equalIn_array w d T _ _ n u ti hu hti]
   have:=eq_elems (w:=w) (d:=d) he' htis ha hb hx hy (fun a b va vb r h1 h2 h3 h4 h5=>ih e u (by simp [Ty.depth] at hd; omega) he' hh a b va vb r h1 h2 h3 h4 h5) (List.finRange n) r he
   have em : (List.finRange n).map (·.val) = List.range n:=by
    apply List.ext_getElem?; intro k
    rcases Nat.lt_or_ge k n with h | h
    ·simp [List.getElem?_map,h,List.getElem?_eq_getElem]
    ·rw [List.getElem?_eq_none (by simpa using h),List.getElem?_eq_none (by simpa using h)]
   rw [em] at this
   exact this
  | cons ta tb =>
   obtain ⟨xs,rfl,hx⟩:=VR_agg_cells ha rfl hva
   obtain ⟨ys,rfl,hy⟩:=VR_agg_cells hb rfl hvb
   have hlx:=hx.1
   have hly:=hy.1
   have hla:=Ty.fits_length ha
   have hlb:=Ty.fits_length hb
   simp only [heldOk,Bool.and_eq_true] at hh
   have h':=ht
   simp only [tyOk,Bool.and_eq_true] at h'
   cases hu : P.underlying T with
   | none=>simp [hu] at h'
   | some de =>
    simp only [hu] at h' hh
    cases de <;> simp at h'
    rename_i fs
    have h2 : tyOk P (.cons ta tb) (.inr (fs.toList,0)) = true:=by
     cases hl : fs.toList with
     | nil=>simp [hl] at h'
     | cons f r=>simp [hl] at h'; simp [tyOk]; simpa using h'.1
    have h3 : heldOk P (.cons ta tb) (.inr fs.toList) = true:=by
     have:=hh.2
     cases hl : fs.toList with
     | nil=>simp [hl] at this
     | cons f r=>simp [hl] at this; simp [heldOk,this]
    have hfo : P.fieldsOf T = fs:=by simp [Program.fieldsOf,hu]
    rw [run_equalIn_struct w d T _ _ (by rw [hfo]; exact hu) (by simpa using hh.1),hfo]
    exact eq_fields (w:=w) h2 h3 ha hb (by rw [List.drop_zero,List.take_of_length_le (by omega)]; exact hx) (by rw [List.drop_zero,List.take_of_length_le (by omega)]; exact hy) hd he
     fun u U hud h1 h2 a b va vb r=>ih u U hud h1 h2 a b va vb r
end
open Go.RowKit
section
variable {φ : Nat → Option FuncId} {β : Beta} {P : Program} {O : Nat → Prop} {w : World} {look : Id → Option Blk}
structure SameBut (w w' : World) (p : Nat → Prop) : Prop where
 os : w'.os = w.os
 tape : w'.tape = w.tape
 output : w'.output = w.output
 size : w.heap.size ≤ w'.heap.size
 block : ∀ r,r < w.heap.size → ¬ p r → w'.heap[r]? = w.heap[r]?
def Laid (φ : Nat → Option FuncId) (β : Beta) (b : Blk) (w : World) (pl : Place) : Prop :=
 ∃ (cs : Array Value) (T : TypeId),w.heap[pl.r]? = some (.cells cs T (0,0)) ∧ pl.base + pl.room ≤ cs.size ∧ b.ty.size ≤ pl.room ∧ pl.ty = b.ty ∧ b.ty.fits b.val = true ∧
  ∀ k c,b.val.flat[k]? = some c → ∃ x,cs[pl.base + k]? = some x ∧ LR φ β c x
def ValAt (sl : Option Nat) (b : Blk) (pl : Place) (x : Value) : Prop :=
 match sl with
 | none=>x = .pointer (some ⟨pl.r,pl.base,none⟩)
 | some n=>∃ t cap,b.ty = .arr n t ∧ n ≤ cap ∧ cap * t.size ≤ pl.room ∧ x = .slice (some ⟨pl.r,pl.base,none⟩) n cap
def Next.val : Next → Option Value
 | .value x=>some x
 | .skip=>some undef
 | _=>none
def EffOk (φ : Nat → Option FuncId) (β : Beta) (look : Id → Option Blk) (w w' : World) (x : Value) : Eff → Prop
 | .val v=>VR φ β v x ∧ w' = w
 | .new sl b=>∃ pl,Laid φ β b w' pl ∧ pl.r = w.heap.size ∧ pl.base = 0 ∧ ValAt sl b pl x ∧ w.heap.size < w'.heap.size ∧ SameBut w w' (fun _=>False)
 | .wr i b v=>∃ pl old,look i = some old ∧ old.ty = b.ty ∧ β i = some pl ∧ Laid φ β b w' pl ∧ VR φ β v x ∧ SameBut w w' (fun r=>r = pl.r)
 | .del _=>False
 | .grow j b n=>∃ pl plj old,look j = some old ∧ β j = some plj ∧ Laid φ β b w' pl ∧ (pl.r = plj.r ∨ pl.r = w.heap.size) ∧ ValAt (some n) b pl x ∧ SameBut w w' (fun r=>r = plj.r)
def Eff.lets : Eff → Prop
 | .wr i _ _=>i.isArg = false
 | .grow j _ _=>j.isArg = false
 | .del j=>j.isArg = false
 | _=>True
end
open Go.RowKit
section
variable {φ : Nat → Option FuncId} {β : Beta} {P : Program} {O : Nat → Prop} {w w' : World} {look look' : Id → Option Blk}
theorem zeros_flat {n : Nat} {t : Ty} {k : Nat} (hk : k < n * t.size) : (Ty.arr n t).zero.flat[k]? = t.zero.flat[k % t.size]?:=by
 have hs : 0 < t.size:=by
  rcases Nat.eq_zero_or_pos t.size with h | h
  ·rw [h] at hk; simp at hk
  ·exact h
 simp only [Ty.zero,AV.flat]
 have hd : k / t.size < n:=(Nat.div_lt_iff_lt_mul hs).2 hk
 have:=getElem?_flatMap_const (List.finRange n) (fun _ : Fin n=>t.zero.flat) t.size (fun _ _=>Ty.fits_length zero_fits) (k / t.size) (by simpa using hd) (k % t.size) (Nat.mod_lt _ hs)
 rw [← this]
 congr 1
 rw [Nat.mul_comm]; exact (Nat.div_add_mod k t.size).symm
theorem run_bslice {t : Ty} {T e : TypeId} {n : Nat} {l : List (Nat × AV)} {xs : List (Nat × Value)} {r : AV} (hu : P.underlying T = some (.slice e)) (ht : tyOk P t (.inl e) = true) (hn : n * t.size ≤ 2 ^ 24) (hp : 0 < n * t.size)
  (hx : All2 (fun a b=>a.1 = b.1 ∧ VR φ β a.2 b.2) l xs) (h : fill (.arr n t) (Ty.arr n t).zero l = some r) :
  ∃ cs : Array Value,(Instr.buildSlice T n xs.toArray).run P w = .ok (.slice (some ⟨w.heap.size,0,none⟩) n n) (w.alloc (.cells cs e)) ∧ All2 (LR φ β) r.flat cs.toList ∧ (Ty.arr n t).fits r = true:=by
 obtain ⟨i,hi,hsz⟩:=tyOk_size ht
 obtain ⟨z,hz,hzc⟩:=tyOk_zero (φ:=φ) (β:=β) ht w
 have hzl : z.cells.size = t.size:=by
  have:=hzc.1
  rw [Ty.fits_length zero_fits] at this
  simpa using this.symm
 have hs : 0 < t.size:=Nat.pos_of_mul_pos_left hp
 have h0 : All2 (LR φ β) (Ty.arr n t).zero.flat ((Array.range (n * t.size)).map (fun j=>z.cells[j % z.cells.size]!)).toList:=by
  refine ⟨by rw [Ty.fits_length zero_fits]; simp [Ty.size],fun k a b ha hb=>?_⟩
  have hk : k < n * t.size:=by
   rcases Nat.lt_or_ge k (n * t.size) with h | h
   ·exact h
   ·rw [List.getElem?_eq_none (by rw [Ty.fits_length zero_fits]; simpa [Ty.size] using h)] at ha; simp at ha
  rw [zeros_flat hk] at ha
  have hm : k % t.size < z.cells.size:=by rw [hzl]; exact Nat.mod_lt _ hs
  refine hzc.2 (k % t.size) a b ha ?_
  simp only [Array.toList_map,List.getElem?_map,Array.toList_range,List.getElem?_range hk,Option.map_some,Option.some.injEq] at hb
  subst hb
  rw [hzl] at hm ⊢
  simp [hzl,hm]
 obtain ⟨cs,hf,hc,hfit⟩:=fill_sound (φ:=φ) (β:=β) (t:=.arr n t) (place:=fun i=>some (i * t.size,t.size)) (fun i u hiu=>by
  simp only [Ty.part] at hiu
  split at hiu <;> simp at hiu
  subst hiu
  exact ⟨i * t.size,by simp [Ty.find, *],rfl⟩) l xs _ r _ hx zero_fits h0 h
 refine ⟨cs,?_,hc,hfit⟩
 simp only [Instr.buildSlice,Sem.run_bind,run_underlying hu,Result.andThen_ok,sizeOf,typeInfo,run_program,hi,Sem.run_pure,hsz]
 rw [if_neg (by omega)]
 simp only [Sem.run_bind,Sem.run_pure,Result.andThen_ok,if_neg (show ¬ n * t.size = 0 by omega),hz,hf]
 simp [newRow,newObj,Sem.run_bind,Sem.run]
end
open Go.RowKit
section
variable {φ : Nat → Option FuncId} {β : Beta} {P : Program} {O : Nat → Prop} {w w' : World} {look look' : Id → Option Blk}
theorem LR_one {c : AV} {x : Value} (hs : c.safe = true) (ha : c.isAgg = false) (h : LR φ β c x) : x.oneCell' = true:=by
 cases c <;> simp [AV.safe,AV.isAgg] at hs ha <;> simp only [LR,AV.rel] at h
 all_goals first
  | (subst h; rfl)
  | (rcases h with ⟨_,rfl⟩ | ⟨_,_,_,rfl⟩ <;> rfl)
  | (obtain ⟨_,_,_,_,rfl⟩:=h; rfl)
  | (obtain ⟨_,_,rfl⟩:=h; rfl)
  | (obtain ⟨_,_,_,_,_,_,_,_,_,rfl⟩:=h; rfl)
theorem flatMap_drop {α γ : Type} {g : α → List γ} {c : Nat} : ∀ {l : List α} {k : Nat},(∀ x ∈ l,(g x).length = c) → (l.drop k).flatMap g = (l.flatMap g).drop (k * c)
 | [],k,_=>by simp
 | a :: l,0,_=>by simp
 | a :: l,k + 1,h=>by
  simp only [List.drop_succ_cons,List.flatMap_cons]
  rw [flatMap_drop fun x hx=>h x (List.mem_cons_of_mem _ hx),List.drop_append,List.drop_of_length_le (l:=g a) (by rw [h a (List.mem_cons_self ..),Nat.add_mul]; omega),List.nil_append,h a (List.mem_cons_self ..)]
  congr 1
  rw [Nat.add_mul]; omega
theorem flatMap_take {α γ : Type} {g : α → List γ} {c : Nat} : ∀ {l : List α} {k : Nat},(∀ x ∈ l,(g x).length = c) → (l.take k).flatMap g = (l.flatMap g).take (k * c)
 | [],k,_=>by simp
 | a :: l,0,_=>by simp
 | a :: l,k + 1,h=>by
  simp only [List.take_succ_cons,List.flatMap_cons]
  rw [flatMap_take fun x hx=>h x (List.mem_cons_of_mem _ hx),List.take_append,List.take_of_length_le (l:=g a) (by rw [h a (List.mem_cons_self ..),Nat.add_mul]; omega),h a (List.mem_cons_self ..)]
  congr 2
  rw [Nat.add_mul]; omega
theorem arr_list {n : Nat} {t : Ty} {v : AV} {l : List AV} (hf : (Ty.arr n t).fits v = true) (hl : v.toList = some l) : l.length = n ∧ (∀ x ∈ l,t.fits x = true) ∧ v.flat = l.flatMap AV.flat:=by
 cases v <;> simp [AV.toList] at hl
 rename_i m f
 subst hl
 simp only [Ty.fits,Bool.and_eq_true,beq_iff_eq,List.all_eq_true] at hf
 obtain ⟨hnm,hf⟩:=hf
 subst hnm
 refine ⟨by simp,fun x hx=>?_,?_⟩
 ·obtain ⟨i,hi⟩:=(List.mem_ofFn ..).1 hx
  rw [← hi]; exact hf i (List.mem_finRange _)
 ·simp only [AV.flat]
  have e : (List.finRange _).map f = List.ofFn f:=List.ext_getElem (by simp) (by simp)
  rw [← e,List.flatMap_map]
theorem elems_src {t : Ty} {Y e : TypeId} {y : AV} {vy : Value} {add : List AV} (hR : HR φ β O look w) (hu : P.underlying Y = some (.slice e)) (hy : VR φ β y vy) (h : elems look t y = some add) :
  ∃ news,Src P t.size Y vy add.length news w ∧ All2 (LR φ β) (add.flatMap AV.flat) news ∧ ∀ a ∈ add,t.fits a = true:=by
 unfold elems at h
 split at h
 ·simp at h
  subst h
  have : vy = .slice none 0 0:=by simpa [VR,VR1,AV.isAgg,LR,AV.rel] using hy
  subst this
  exact ⟨[],Src.ofNil w hu 0,by simpa using All2.nil,by simp⟩
 ·simp at h
  subst h
  obtain ⟨a,cap,rfl⟩ : ∃ a cap,vy = .slice (some a) 0 cap:=by simpa [VR,VR1,AV.isAgg,LR,AV.rel] using hy
  exact ⟨[],Src.ofSlice w hu a 0 cap [] (by simp) (by simp) (by simp),by simpa using All2.nil,by simp⟩
 ·rename_i j off len
  split at h
  ·rename_i n t' v hlk
   split at h
   ·rename_i l hl
    split at h
    ·rename_i hc
     obtain ⟨rfl,hle⟩:=hc
     simp at h
     subst h
     obtain ⟨pl,m,t',cap,hb,hty,h1,h2,h3,rfl⟩:=LR_sl hy
     obtain ⟨pl',cs,T',fr,hB⟩:=hR.live j _ hlk
     obtain rfl : pl' = pl:=Option.some.inj (hB.place.symm.trans hb)
     rw [hB.ty] at hty
     simp at hty
     obtain ⟨rfl,rfl⟩:=hty
     obtain ⟨hll,hlf,hfl⟩:=arr_list hB.fits hl
     have hlen : ∀ x ∈ l,(AV.flat x).length = t.size:=fun x hx=>Ty.fits_length (hlf x hx)
     have hseg : ((l.drop off).take len).flatMap AV.flat = (v.flat.drop (off * t.size)).take (len * t.size):=by
      rw [flatMap_take fun x hx=>hlen x (List.mem_of_mem_drop hx),flatMap_drop hlen,hfl]
     have hvl : v.flat.length = n * t.size:=by rw [Ty.fits_length hB.fits]; rfl
     have hmul : off * t.size + len * t.size ≤ n * t.size:=by rw [← Nat.add_mul]; exact Nat.mul_le_mul_right _ h1
     have hroom:=hB.room
     have hsize:=hB.size
     simp only [Ty.size] at hsize
     let news:=(cs.toList.drop (pl'.base + off * t.size)).take (len * t.size)
     have hnl : news.length = len * t.size:=by
      simp only [news,List.length_take,List.length_drop,Array.length_toList]
      omega
     have hAll : All2 (LR φ β) ((v.flat.drop (off * t.size)).take (len * t.size)) news:=by
      refine ⟨by rw [hnl]; simp; omega,fun k a b ha hb'=>?_⟩
      have hk : k < len * t.size:=by
       rcases Nat.lt_or_ge k (len * t.size) with h | h
       ·exact h
       ·rw [List.getElem?_eq_none (by omega)] at hb'; simp at hb'
      rw [List.getElem?_take,if_pos hk,List.getElem?_drop] at ha
      obtain ⟨x,hx,hr⟩:=hB.cells _ a ha
      simp only [news] at hb'
      rw [List.getElem?_take,if_pos hk,List.getElem?_drop] at hb'
      have : cs.toList[pl'.base + off * t.size + k]? = some x:=by rw [← hx]; simp [Nat.add_assoc]
      rw [this] at hb'
      simp at hb'
      subst hb'
      exact hr
     have haddl : ((l.drop off).take len).length = len:=by simp; omega
     refine ⟨news,?_,by rw [hseg]; exact hAll,fun a ha=>hlf a (List.mem_of_mem_drop (List.mem_of_mem_take ha))⟩
     rw [haddl]
     refine Src.ofSlice w hu _ len cap news hnl (fun k u hk=>?_) fun u hu'=>?_
     ·rw [add_addr,cell_of_row w _ _ cs T' fr hB.heap]
      have hkl : k < len * t.size:=by
       rcases Nat.lt_or_ge k (len * t.size) with h | h
       ·exact h
       ·rw [List.getElem?_eq_none (by omega)] at hk; simp at hk
      simp only [news] at hk
      rw [List.getElem?_take,if_pos hkl,List.getElem?_drop] at hk
      simpa using hk
     ·obtain ⟨k,hk⟩:=List.mem_iff_getElem?.1 hu'
      have hkl : k < ((v.flat.drop (off * t.size)).take (len * t.size)).length:=by
       rw [hAll.1]
       rcases Nat.lt_or_ge k news.length with h | h
       ·exact h
       ·rw [List.getElem?_eq_none h] at hk; simp at hk
      have hr:=hAll.2 k _ u (List.getElem?_eq_getElem hkl) hk
      have hmem : ((v.flat.drop (off * t.size)).take (len * t.size))[k] ∈ v.flat:=List.mem_of_mem_drop (List.mem_of_mem_take (List.getElem_mem hkl))
      have:=safe_flat (Ty.fits_safe hB.fits) _ hmem
      exact LR_one this.1 this.2 hr
    ·simp at h
   ·simp at h
  ·simp at h
 ·simp at h
end
open Go.RowKit
section
variable {φ : Nat → Option FuncId} {β : Beta} {P : Program} {O : Nat → Prop} {w w' : World} {look look' : Id → Option Blk}
theorem ofList_fits {t : Ty} {l : List AV} (h : ∀ a ∈ l,t.fits a = true) : (Ty.arr l.length t).fits (.ofList l) = true:=by
 simp only [AV.ofList,Ty.fits,beq_self_eq_true,Bool.true_and,List.all_eq_true]
 exact fun i _=>h _ (List.get_mem ..)
theorem ofList_flat (l : List AV) : (AV.ofList l).flat = l.flatMap AV.flat:=by
 simp only [AV.ofList,AV.flat]
 have h : (List.finRange l.length).map l.get = l:=List.ext_getElem (by simp) (by simp)
 have h2 : ((List.finRange l.length).map l.get).flatMap AV.flat = (List.finRange l.length).flatMap fun i=>(l.get i).flat:=List.flatMap_map ..
 rw [← h2,h]
theorem laid_prefix {b : Blk} {xs : List Value} {ys : Array Value} {T : TypeId} (hf : b.ty.fits b.val = true) (hc : All2 (LR φ β) b.val.flat xs) : Laid φ β b (w.alloc (.cells (xs.toArray ++ ys) T)) ⟨w.heap.size,0,b.ty,(xs.toArray ++ ys).size⟩:=by
 have hl:=hc.1
 have hl2:=Ty.fits_length hf
 refine ⟨_,T,heap_alloc_new w _,by simp,by simp at hl ⊢; omega,rfl,hf,fun k c hk=>?_⟩
 have hkl : k < xs.length:=by
  rw [← hl]
  rcases Nat.lt_or_ge k b.val.flat.length with h | h
  ·exact h
  ·rw [List.getElem?_eq_none h] at hk; simp at hk
 refine ⟨xs[k],?_,hc.2 k c _ hk (List.getElem?_eq_getElem hkl)⟩
 rw [Nat.zero_add,Array.getElem?_append_left (by simpa using hkl)]
 simp [hkl]
theorem grow_new {t : Ty} {S Y e : TypeId} {i : TypeInfo} {ty : TypeId} {base : Option Addr} {sLen sCap : Nat} {olds news : List Value} {vy : Value} {m : Nat} {l : List AV}
  (hu : P.underlying S = some (.slice e)) (ht : tyOk P t (.inl e) = true) (hi : P.info? e = some i) (hby : i.bytes ≤ 65536)
  (hold : (Builtin.firstCells i.size sLen (.slice base sLen sCap)).run P w.drew = .ok olds.toArray w.drew) (hs : Src P i.size Y vy m news w) (hg : sCap < sLen + m) (hm : sLen + m ≤ 1048576)
  (hl : l.length = sLen + m) (hf : ∀ a ∈ l,t.fits a = true) (hc : All2 (LR φ β) (l.flatMap AV.flat) (olds ++ news)) :
  ∃ v w',(Builtin.append_ #[S,Y] ty #[.slice base sLen sCap,vy]).run P w = .ok v w' ∧
   ∃ pl,Laid φ β ⟨.arr (sLen + m) t,.ofList l⟩ w' pl ∧ pl.r = w.heap.size ∧ pl.base = 0 ∧ ValAt (some (sLen + m)) ⟨.arr (sLen + m) t,.ofList l⟩ pl v ∧ w.heap.size < w'.heap.size ∧ SameBut w w' (fun _=>False):=by
 obtain ⟨i',z,hi',hz,hzc⟩:=tyOk_zero_info (φ:=φ) (β:=β) ht
 rw [hi] at hi'
 obtain rfl:=Option.some.inj hi'
 obtain ⟨i',hi',hsz⟩:=tyOk_size ht
 rw [hi] at hi'
 obtain rfl:=Option.some.inj hi'
 have hzs : z.cells.size = t.size:=by
  have:=hzc.1
  rw [Ty.fits_length zero_fits] at this
  simpa using this.symm
 have hb : (sLen + m) * i.bytes ≤ 140737488355328:=by
  have:=Nat.mul_le_mul hm hby
  omega
 have hrun:=run_append_grow_src (P:=P) w S Y ty e i z hu hi hz base sLen sCap olds hold vy m news hs hg (by omega) (growslice_fits hg hb)
 have hge:=grownCap_ge w (sLen + m) sCap e
 refine ⟨_,_,hrun,⟨w.heap.size,0,.arr (sLen + m) t,((olds ++ news).toArray ++ Builtin.zeroCells z.cells (grownCap w (sLen + m) sCap e - (sLen + m))).size⟩,?_,?_,?_,?_,?_,?_⟩
 ·have hff : (Ty.arr (sLen + m) t).fits (.ofList l) = true:=by rw [← hl]; exact ofList_fits hf
  exact laid_prefix (w:=w.drew) (b:=⟨.arr (sLen + m) t,.ofList l⟩) hff (by rw [ofList_flat]; exact hc)
 ·rfl
 ·rfl
 ·refine ⟨t,_,rfl,hge,?_,rfl⟩
  have hlen : (olds ++ news).length = (sLen + m) * t.size:=by
   rw [← hc.1]
   have:=Ty.fits_length (ofList_fits hf)
   rw [ofList_flat] at this
   rw [this,Ty.size,hl]
  show grownCap w (sLen + m) sCap e * t.size ≤ ((olds ++ news).toArray ++ Builtin.zeroCells z.cells (grownCap w (sLen + m) sCap e - (sLen + m))).size
  have e1 : ((olds ++ news).toArray ++ Builtin.zeroCells z.cells (grownCap w (sLen + m) sCap e - (sLen + m))).size = (sLen + m) * t.size + (grownCap w (sLen + m) sCap e - (sLen + m)) * t.size:=by
   rw [Array.size_append,size_zeroCells,hzs,← hlen]; simp
  rw [e1,← Nat.add_mul]
  exact Nat.mul_le_mul_right _ (by omega)
 ·simp
 ·exact ⟨rfl,rfl,rfl,by simp,fun k hk _=>Below.heap_alloc w.drew _ k hk⟩
end
open Go.RowKit
section
variable {φ : Nat → Option FuncId} {β : Beta} {P : Program} {O : Nat → Prop} {w w' : World} {look look' : Id → Option Blk}
theorem run_append_row (S Y ty e : TypeId) (i : TypeInfo) (ht : P.underlying S = some (.slice e)) (hi : P.info? e = some i) (b off sLen sCap : Nat) (x : Value) (n : Nat) (news : List Value) (hs : Src P i.size Y x n news w)
  (hroom : sLen + n ≤ sCap) {cs : Array Value} {T : TypeId} (hb : w.heap[b]? = some (.cells cs T (0,0))) (hc : off + sLen * i.size + news.length ≤ cs.size) :
  (Builtin.append_ #[S,Y] ty #[.slice (some ⟨b,off,none⟩) sLen sCap,x]).run P w = .ok (.slice (some ⟨b,off,none⟩) (sLen + n) sCap)
   (w.setRow b (cs.toList.take (off + sLen * i.size) ++ news ++ cs.toList.drop (off + sLen * i.size + news.length)).toArray):=by
 have hst:=run_storeCells_at P b (off + sLen * i.size) T news 0 cs w hb (by omega) hs.one
 simp only [Nat.add_zero] at hst
 rcases hs.kind with ⟨e',hk⟩ | hk <;> simp [Builtin.append_,run_underlying ht,run_underlying hk,sizeOf,typeInfo,hi,hs.len,hroom,hs.cells,Addr.add_lit,hst]
theorem row_get {cs : Array Value} {o k : Nat} {news : List Value} (h : o + news.length ≤ cs.size) :
  ((cs.toList.take o ++ news ++ cs.toList.drop (o + news.length)).toArray)[k]? = if o ≤ k ∧ k < o + news.length then news[k - o]? else cs[k]?:=by
 have htl : (cs.toList.take o).length = o:=by simp; omega
 rw [List.getElem?_toArray]
 by_cases hk : o ≤ k ∧ k < o + news.length
 ·rw [if_pos hk,List.append_assoc,List.getElem?_append_right (by omega),htl,List.getElem?_append_left (by omega)]
 ·rw [if_neg hk]
  rcases Nat.lt_or_ge k o with h1 | h1
  ·rw [List.append_assoc,List.getElem?_append_left (by omega),List.getElem?_take,if_pos h1]; simp
  ·rw [List.getElem?_append_right (by simp only [List.length_append,htl]; omega)]
   simp only [List.length_append,htl,List.getElem?_drop]
   rw [show o + news.length + (k - (o + news.length)) = k by omega]; simp
theorem mid_get {α : Type} {A B : List α} {p k : Nat} (h : p + B.length ≤ A.length) : (A.take p ++ B ++ A.drop (p + B.length))[k]? = if p ≤ k ∧ k < p + B.length then B[k - p]? else A[k]?:=by
 have htl : (A.take p).length = p:=by simp; omega
 by_cases hk : p ≤ k ∧ k < p + B.length
 ·rw [if_pos hk,List.append_assoc,List.getElem?_append_right (by omega),htl,List.getElem?_append_left (by omega)]
 ·rw [if_neg hk]
  rcases Nat.lt_or_ge k p with h1 | h1
  ·rw [List.append_assoc,List.getElem?_append_left (by omega),List.getElem?_take,if_pos h1]
  ·rw [List.getElem?_append_right (by simp only [List.length_append,htl]; omega)]
   simp only [List.length_append,htl,List.getElem?_drop]
   rw [show p + B.length + (k - (p + B.length)) = k by omega]
theorem setRow_same {w : World} {r : Nat} {cs cs' : Array Value} {T : TypeId} (hb : w.heap[r]? = some (.cells cs T (0,0))) : SameBut w (w.setRow r cs') (fun q=>q = r) ∧ (w.setRow r cs').heap[r]? = some (.cells cs' T (0,0)) :=
 ⟨⟨rfl,rfl,rfl,by simp,fun q _ hq=>setRow_other w r q cs' hq⟩,setRow_heap w r cs cs' T (0,0) hb⟩
set_option maxHeartbeats 2000000 in
theorem run_append_src {t : Ty} {S Y e ty : TypeId} {i : TypeInfo} {x : AV} {vx vy : Value} {add : List AV} {ef : Eff} {news : List Value} (hR : HR φ β O look w) (hu : P.underlying S = some (.slice e)) (ht : tyOk P t (.inl e) = true) (hi : P.info? e = some i) (hby : i.bytes ≤ 65536)
  (hs : Src P t.size Y vy add.length news w) (hnl : All2 (LR φ β) (add.flatMap AV.flat) news) (haf : ∀ a ∈ add,t.fits a = true) (hx : VR φ β x vx) (he : evAppend look t x add = some ef) (hlets : ef.lets) :
  ∃ v w',(Builtin.append_ #[S,Y] ty #[vx,vy]).run P w = .ok v w' ∧ EffOk φ β look w w' v ef:=by
 obtain ⟨i',hi',hsz⟩:=tyOk_size ht
 rw [hi] at hi'
 obtain rfl:=Option.some.inj hi'
 rw [← hsz] at hs
 have hnews : news.length = add.length * t.size:=by rw [hs.newsLen,hsz]
 unfold evAppend at he
 split at he
 ·
  have : vx = .slice none 0 0:=by simpa [VR,VR1,AV.isAgg,LR,AV.rel] using hx
  subst this
  split at he
  ·rename_i h0
   simp at he
   subst he
   have hn0 : news = []:=List.eq_nil_of_length_eq_zero (by rw [hnews,h0]; simp)
   subst hn0
   rw [h0] at hs
   exact ⟨_,_,run_append_nothing w S Y ty e i hu hi none 0 0 (Nat.le_refl _) vy hs,hx,rfl⟩
  ·rename_i h0
   split at he
   ·rename_i hc
    simp at he
    subst he
    obtain ⟨v,w',hrun,pl,h1,h2,h3,h4,h5,h6⟩:=grow_new (φ:=φ) (β:=β) (ty:=ty) (l:=add) (olds:=[]) hu ht hi hby (base:=none) (sLen:=0) (sCap:=0) (run_firstCells_none w.drew i.size 0 0 0) hs (by omega) (by omega) (by omega) haf (by simpa using hnl)
    simp only [Nat.zero_add] at h1 h4
    exact ⟨v,w',hrun,pl,h1,h2,h3,h4,h5,h6⟩
   ·simp at he
 ·rename_i j off len
  split at he
  ·rename_i n t' bv hlk
   split at he
   ·rename_i l hl
    split at he
    ·rename_i htt
     subst htt
     obtain ⟨pl,m,t',cap,hb,hty,h1,h2,h3,rfl⟩:=LR_sl hx
     obtain ⟨pl',cs,T',fr,hB⟩:=hR.live j _ hlk
     obtain rfl : pl' = pl:=Option.some.inj (hB.place.symm.trans hb)
     have htyB:=hB.ty
     rw [hB.ty] at hty
     simp at hty
     obtain ⟨rfl,rfl⟩:=hty
     obtain ⟨hll,hlf,hfl⟩:=arr_list hB.fits hl
     have hlen : ∀ x ∈ l,(AV.flat x).length = t.size:=fun x hx=>Ty.fits_length (hlf x hx)
     have hvl : bv.flat.length = n * t.size:=by rw [Ty.fits_length hB.fits]; rfl
     have hroom:=hB.room
     have hsize:=hB.size
     simp only [Ty.size] at hsize
     have hafl : ∀ x ∈ add,(AV.flat x).length = t.size:=fun x hx=>Ty.fits_length (haf x hx)
     have haddl : (add.flatMap AV.flat).length = add.length * t.size:=by rw [hnl.1,hnews]
     have hfr : fr = (0,0):=by
      have hja : j.isArg = false:=by
       split at he
       ·split at he
        ·simp at he; subst he; exact hlets
        ·simp at he
       ·split at he
        ·split at he
         ·simp at he; subst he; exact hlets
         ·simp at he
        ·simp at he
      exact (hB.own hja).1
     subst hfr
     have hmul : ∀ {a b : Nat},a ≤ b → a * t.size ≤ b * t.size:=fun h=>Nat.mul_le_mul_right _ h

     have hstore : len + add.length ≤ cap → pl'.base + off * t.size + len * t.size + news.length ≤ cs.size:=by
      intro hle
      have:=hmul (show off + (len + add.length) ≤ off + cap by omega)
      rw [hnews]
      simp only [Nat.add_mul] at this h3
      omega
     split at he
     ·rename_i hin
      split at he
      ·rename_i hfit
       obtain rfl:=Option.some.inj he
       have hcap : len + add.length ≤ cap:=by omega
       have hst:=hstore hcap
       have hrun:=run_append_row (P:=P) (w:=w) S Y ty e i hu hi pl'.r (pl'.base + off * t.size) len cap vy add.length news hs hcap hB.heap (by rw [hsz]; exact hst)
       rw [hsz] at hrun
       refine ⟨_,_,hrun,pl',_,hlk,congrArg (fun k=>Ty.arr k t) hll.symm,hB.place,⟨_,T',(setRow_same hB.heap).2,?_,?_,?_,hfit,?_⟩,?_,(setRow_same hB.heap).1⟩
       ·have h4 : ((cs.toList.take (pl'.base + off * t.size + len * t.size) ++ news ++ cs.toList.drop (pl'.base + off * t.size + len * t.size + news.length)).toArray).size = cs.size:=by
         simp only [List.size_toArray,List.length_append,List.length_take,List.length_drop,Array.length_toList]; omega
        rw [h4]; exact hroom
       ·simp only [Ty.size,hll]; exact hsize
       ·rw [hB.ty,hll]
       ·intro k c hk
        have e1 : (AV.ofList (l.take (off + len) ++ add ++ l.drop (off + len + add.length))).flat = bv.flat.take ((off + len) * t.size) ++ add.flatMap AV.flat ++ bv.flat.drop ((off + len) * t.size + (add.flatMap AV.flat).length):=by
         rw [ofList_flat,List.flatMap_append,List.flatMap_append,flatMap_take hlen,flatMap_drop hlen,← hfl,haddl,← Nat.add_mul]
        have e2 : (off + len) * t.size + (add.flatMap AV.flat).length ≤ bv.flat.length:=by
         rw [haddl,hvl,← Nat.add_mul]; exact hmul (by omega)
        change (AV.ofList (l.take (off + len) ++ add ++ l.drop (off + len + add.length))).flat[k]? = some c at hk
        rw [e1,mid_get e2] at hk
        rw [row_get (by omega)]
        have e3 : pl'.base + off * t.size + len * t.size = pl'.base + (off + len) * t.size:=by rw [Nat.add_mul]; omega
        rw [e3]
        by_cases hk2 : (off + len) * t.size ≤ k ∧ k < (off + len) * t.size + (add.flatMap AV.flat).length
        ·rw [if_pos hk2] at hk
         rw [if_pos ⟨by omega,by rw [hnews,← haddl]; omega⟩,show pl'.base + k - (pl'.base + (off + len) * t.size) = k - (off + len) * t.size by omega]
         have hkl : k - (off + len) * t.size < news.length:=by rw [hnews,← haddl]; omega
         exact ⟨_,List.getElem?_eq_getElem hkl,hnl.2 _ c _ hk (List.getElem?_eq_getElem hkl)⟩
        ·rw [if_neg hk2] at hk
         rw [if_neg (by rw [hnews,← haddl]; omega)]
         exact hB.cells k c hk
       ·simp only [VR,VR1,AV.isAgg,Bool.false_eq_true,if_false,LR,AV.rel]
        exact ⟨pl',_,t,cap,hB.place,htyB,by omega,h2,h3,rfl⟩
      ·simp at he
     ·rename_i hin
      split at he
      ·rename_i hol
       split at he
       ·rename_i hfit
        obtain rfl:=Option.some.inj he
        have e1 : (AV.ofList ((l.drop off).take len ++ add)).flat = (bv.flat.drop (off * t.size)).take (len * t.size) ++ add.flatMap AV.flat:=by
         rw [ofList_flat,List.flatMap_append,flatMap_take fun x hx=>hlen x (List.mem_of_mem_drop hx),flatMap_drop hlen,← hfl]
        have hol' : off * t.size + len * t.size ≤ bv.flat.length:=by
         rw [hvl,← Nat.add_mul]; exact hmul (by omega)
        have hseg : ((bv.flat.drop (off * t.size)).take (len * t.size)).length = len * t.size:=by
         rw [List.length_take,List.length_drop]; omega
        have hcell : ∀ k c,((bv.flat.drop (off * t.size)).take (len * t.size))[k]? = some c → k < len * t.size ∧ ∃ x,cs[pl'.base + off * t.size + k]? = some x ∧ LR φ β c x:=by
         intro k c hk
         have hkl : k < len * t.size:=by
          rcases Nat.lt_or_ge k (len * t.size) with h | h
          ·exact h
          ·rw [List.getElem?_eq_none (by omega)] at hk; simp at hk
         rw [List.getElem?_take,if_pos hkl,List.getElem?_drop] at hk
         obtain ⟨x,hx,hr⟩:=hB.cells _ c hk
         exact ⟨hkl,x,by rw [Nat.add_assoc]; exact hx,hr⟩
        by_cases hcap : len + add.length ≤ cap
        ·have hst:=hstore hcap
         have hrun:=run_append_row (P:=P) (w:=w) S Y ty e i hu hi pl'.r (pl'.base + off * t.size) len cap vy add.length news hs hcap hB.heap (by rw [hsz]; exact hst)
         rw [hsz] at hrun
         refine ⟨_,_,hrun,⟨pl'.r,pl'.base + off * t.size,.arr (len + add.length) t,cap * t.size⟩,pl',_,hlk,hB.place,⟨_,T',(setRow_same hB.heap).2,?_,?_,rfl,hfit.1,?_⟩,.inl rfl,⟨t,cap,rfl,hcap,Nat.le_refl _,rfl⟩,(setRow_same hB.heap).1⟩
         ·have h4 : ((cs.toList.take (pl'.base + off * t.size + len * t.size) ++ news ++ cs.toList.drop (pl'.base + off * t.size + len * t.size + news.length)).toArray).size = cs.size:=by
           simp only [List.size_toArray,List.length_append,List.length_take,List.length_drop,Array.length_toList]; omega
          rw [h4]
          rw [Nat.add_mul] at h3
          show pl'.base + off * t.size + cap * t.size ≤ cs.size
          omega
         ·simp only [Ty.size]; exact hmul hcap
         ·intro k c hk
          change (AV.ofList ((l.drop off).take len ++ add)).flat[k]? = some c at hk
          rw [e1] at hk
          show ∃ x,(_ : Array Value)[pl'.base + off * t.size + k]? = some x ∧ _
          rw [row_get (by omega)]
          by_cases hk2 : k < len * t.size
          ·rw [List.getElem?_append_left (by omega)] at hk
           rw [if_neg (by omega)]
           exact (hcell k c hk).2
          ·rw [List.getElem?_append_right (by omega),hseg] at hk
           have hkl : k - len * t.size < news.length:=by
            rw [← hnl.1]
            rcases Nat.lt_or_ge (k - len * t.size) (add.flatMap AV.flat).length with h | h
            ·exact h
            ·rw [List.getElem?_eq_none h] at hk; simp at hk
           rw [if_pos ⟨by omega,by omega⟩,show pl'.base + off * t.size + k - (pl'.base + off * t.size + len * t.size) = k - len * t.size by omega]
           exact ⟨_,List.getElem?_eq_getElem hkl,hnl.2 _ c _ hk (List.getElem?_eq_getElem hkl)⟩
        ·let olds:=(cs.toList.drop (pl'.base + off * t.size)).take (len * t.size)
         have hbnd : pl'.base + off * t.size + len * t.size ≤ cs.size:=by
          have:=hmul (show off + len ≤ n by omega)
          rw [Nat.add_mul] at this
          omega
         have holds : olds.length = len * t.size:=by
          simp only [olds,List.length_take,List.length_drop,Array.length_toList]; omega
         have hget : ∀ k v,olds[k]? = some v → cs[pl'.base + off * t.size + k]? = some v:=by
          intro k v hk
          have hkl : k < len * t.size:=by
           rcases Nat.lt_or_ge k (len * t.size) with h | h
           ·exact h
           ·rw [List.getElem?_eq_none (by omega)] at hk; simp at hk
          simp only [olds] at hk
          rw [List.getElem?_take,if_pos hkl,List.getElem?_drop] at hk
          simpa using hk
         have hold : (Builtin.firstCells i.size len (.slice (some ⟨pl'.r,pl'.base + off * t.size,none⟩) len cap)).run P w.drew = .ok olds.toArray w.drew:=by
          rw [hsz]
          refine run_firstCells_some (w:=w.drew) t.size len _ len cap olds holds fun k v hk=>?_
          rw [add_addr,cell_of_row w.drew _ _ cs T' (0,0) hB.heap]
          exact hget k v hk
         have hall : All2 (LR φ β) (((l.drop off).take len ++ add).flatMap AV.flat) (olds ++ news):=by
          rw [← ofList_flat,e1]
          refine ⟨by rw [List.length_append,List.length_append,hseg,holds,hnl.1],fun k a b ha hb'=>?_⟩
          by_cases hk2 : k < len * t.size
          ·rw [List.getElem?_append_left (by omega)] at ha hb'
           obtain ⟨_,x,hx,hr⟩:=hcell k a ha
           rw [hget k b hb'] at hx
           obtain rfl:=Option.some.inj hx
           exact hr
          ·rw [List.getElem?_append_right (by omega),hseg] at ha
           rw [List.getElem?_append_right (by omega),holds] at hb'
           exact hnl.2 _ a b ha hb'
         obtain ⟨v,w',hrun,pl,h1',h2',h3',h4',h5',h6'⟩:=grow_new (φ:=φ) (β:=β) (w:=w) (S:=S) (Y:=Y) (ty:=ty) (l:=(l.drop off).take len ++ add) hu ht hi hby hold hs (by omega) hfit.2
          (by simp; omega) (by
           intro a ha
           rcases List.mem_append.1 ha with h | h
           ·exact hlf a (List.mem_of_mem_drop (List.mem_of_mem_take h))
           ·exact haf a h) hall
         exact ⟨v,w',hrun,pl,pl',_,hlk,hB.place,h1',.inr h2',h4',⟨h6'.os,h6'.tape,h6'.output,h6'.size,fun r hr _=>h6'.block r hr (fun h=>h)⟩⟩
       ·simp at he
      ·simp at he
    ·simp at he
   ·simp at he
  ·simp at he
 ·simp at he
theorem run_append_sound {t : Ty} {S Y e e' ty : TypeId} {i : TypeInfo} {x y : AV} {vx vy : Value} {add : List AV} {ef : Eff} (hR : HR φ β O look w) (hu : P.underlying S = some (.slice e)) (ht : tyOk P t (.inl e) = true) (hi : P.info? e = some i) (hby : i.bytes ≤ 65536)
  (huY : P.underlying Y = some (.slice e')) (hx : VR φ β x vx) (hy : VR φ β y vy) (hadd : elems look t y = some add) (he : evAppend look t x add = some ef) (hlets : ef.lets) :
  ∃ v w',(Builtin.append_ #[S,Y] ty #[vx,vy]).run P w = .ok v w' ∧ EffOk φ β look w w' v ef:=by
 obtain ⟨news,hs,hnl,haf⟩:=elems_src (P:=P) hR huY hy hadd
 exact run_append_src hR hu ht hi hby hs hnl haf hx he hlets
theorem run_appstr_sound {S Y e ty : TypeId} {i : TypeInfo} {x : AV} {vx : Value} {b : ByteArray} {ef : Eff} (hR : HR φ β O look w) (hu : P.underlying S = some (.slice e)) (ht : tyOk P (.leaf (.int .u8)) (.inl e) = true) (hi : P.info? e = some i) (hby : i.bytes ≤ 65536)
  (huY : P.underlying Y = some .string) (hx : VR φ β x vx) (he : evAppend look (.leaf (.int .u8)) x (b.data.toList.map fun c=>.int .u8 c.toNat) = some ef) (hlets : ef.lets) :
  ∃ v w',(Builtin.append_ #[S,Y] ty #[vx,.string b]).run P w = .ok v w' ∧ EffOk φ β look w w' v ef:=by
 have hs:=Src.ofString w huY b
 have hl : (b.data.toList.map fun c=>AV.int .u8 c.toNat).length = b.size:=by rw [List.length_map]; rfl
 rw [← hl] at hs
 refine run_append_src (t:=.leaf (.int .u8)) hR hu ht hi hby hs ?_ ?_ hx he hlets
 ·have : ∀ l : List UInt8,All2 (LR φ β) ((l.map fun c=>AV.int .u8 c.toNat).flatMap AV.flat) (l.map fun b=>Value.int .u8 b.toNat):=by
   intro l
   induction l with
   | nil=>exact All2.nil
   | cons c l ih=>simp only [List.map_cons,List.flatMap_cons,AV.flat,List.cons_append,List.nil_append]; exact All2.cons rfl ih
  exact this _
 ·intro a ha
  obtain ⟨c,_,rfl⟩:=List.mem_map.1 ha
  rfl
end
open Go.RowKit
section
variable {φ : Nat → Option FuncId} {β : Beta} {P : Program} {O : Nat → Prop} {w w' : World} {look look' : Id → Option Blk}
theorem run_slice_sl {T e : TypeId} {t : Ty} {j : Id} {off len : Nat} {vx : Value} {lo hi mx : Option Value} {a b : Int} {c : Option (Option Int)} {ef : Eff}
  (hR : HR φ β O look w) (hu : P.underlying T = some (.slice e)) (ht : tyOk P t (.inl e) = true) (hx : VR φ β (.sl j off len) vx)
  (hlo : (lo = none ∧ a = 0) ∨ ∃ k,lo = some (.int k a)) (hhi : (hi = none ∧ b = len ∧ mx = none) ∨ ∃ k,hi = some (.int k b)) (hmx : (mx = none ∧ c = none) ∨ ∃ k z,mx = some (.int k z) ∧ c = some (some z))
  (he : evSlice look t j off a b c = some ef) : ∃ v u,(Instr.sliceAt T vx lo hi mx).run P w = .ok v w ∧ ef = .val u ∧ VR φ β u v:=by
 obtain ⟨pl,m,t',cap,hb,hty,h1,h2,h3,rfl⟩:=LR_sl hx
 obtain ⟨i',hi',hsz⟩:=tyOk_size ht
 unfold evSlice at he
 split at he
 ·rename_i n t'' v hlk
  obtain ⟨pl',cs,T',fr,hB⟩:=hR.live j _ hlk
  obtain rfl : pl' = pl:=Option.some.inj (hB.place.symm.trans hb)
  have htyB:=hB.ty
  rw [hB.ty] at hty
  simp at hty
  obtain ⟨rfl,rfl⟩:=hty
  split at he
  ·rename_i hc
   obtain ⟨rfl,a0,ab,bn⟩:=hc
   have hbcap : b ≤ (cap : Int):=by omega
   have hmap : ∀ (h m : Nat),(Instr.sliceBounds true len cap lo hi mx).run P w = .ok (a.toNat,h,m) w → (Instr.sliceAt T (.slice (some ⟨pl'.r,pl'.base + off * t.size,none⟩) len cap) lo hi mx).run P w =
     .ok (.slice (if m = a.toNat then some ⟨pl'.r,pl'.base + off * t.size,none⟩ else some ⟨pl'.r,pl'.base + off * t.size + a.toNat * t.size,none⟩) (h - a.toNat) (m - a.toNat)) w:=by
    intro h m hbd
    simp only [Instr.sliceAt,Sem.run_bind,run_underlying hu,Result.andThen_ok,Instr.slice,hbd,sizeOf,typeInfo,run_program,hi',Sem.run_pure,hsz]
    split <;> simp [Option.map,add_addr]
   rcases hmx with ⟨rfl,rfl⟩ | ⟨k,z,rfl,rfl⟩
   ·have hbd : (Instr.sliceBounds true len cap lo hi none).run P w = .ok (a.toNat,b.toNat,cap) w:=by
     rcases hhi with ⟨rfl,rfl,_⟩ | ⟨k,rfl⟩
     ·rcases hlo with ⟨rfl,rfl⟩ | ⟨kl,rfl⟩
      ·simp [Instr.sliceBounds,Sem.run_bind]
      ·have q1 : ∀ code,(Instr.sliceBound (.int kl a) len code).run P w = .ok a.toNat w:=fun code=>run_sliceBound w kl a len code a0 (by omega)
       simp [Instr.sliceBounds,Sem.run_bind,q1]
     ·have q2 : ∀ code,(Instr.sliceBound (.int k b) cap code).run P w = .ok b.toNat w:=fun code=>run_sliceBound w k b cap code (by omega) hbcap
      rcases hlo with ⟨rfl,rfl⟩ | ⟨kl,rfl⟩
      ·simp [Instr.sliceBounds,Sem.run_bind,q2]
      ·have q1 : ∀ code,(Instr.sliceBound (.int kl a) b.toNat code).run P w = .ok a.toNat w:=fun code=>run_sliceBound w kl a b.toNat code a0 (by omega)
       simp [Instr.sliceBounds,Sem.run_bind,q1,q2]
    have hrun:=hmap _ _ hbd
    dsimp only at he
    split at he
    ·rename_i hoff
     simp only [Option.some.injEq] at he
     refine ⟨_,_,hrun,he.symm,?_⟩
     simp only [VR,VR1,AV.isAgg,Bool.false_eq_true,if_false,LR,AV.rel]
     refine ⟨pl',n,t,cap - a.toNat,hB.place,htyB,by omega,by omega,?_,?_⟩
     ·have : off + a.toNat + (cap - a.toNat) = off + cap:=by omega
      rw [this]; exact h3
     ·have e1 : (b - a).toNat = b.toNat - a.toNat:=by omega
      rw [e1]
      by_cases hca : cap = a.toNat
      ·have hz : a.toNat = 0:=by omega
       rw [if_pos hca,hz]
       rfl
      ·rw [if_neg hca,Nat.add_mul,Nat.add_assoc]
    ·rename_i hoff
     simp only [Option.some.injEq] at he
     refine ⟨_,_,hrun,he.symm,?_⟩
     simp only [VR,VR1,AV.isAgg,Bool.false_eq_true,if_false,LR,AV.rel]
     have e1 : b.toNat - a.toNat = 0:=by omega
     rw [e1]
     split
     ·exact ⟨_,_,rfl⟩
     ·exact ⟨_,_,rfl⟩
   ·have hh : ∃ k',hi = some (.int k' b):=by
     rcases hhi with ⟨_,_,h⟩ | h
     ·simp at h
     ·exact h
    obtain ⟨k',rfl⟩:=hh
    dsimp only at he
    split at he
    ·rename_i hbc
     have hbd : (Instr.sliceBounds true len cap lo (some (.int k' b)) (some (.int k z))).run P w = .ok (a.toNat,b.toNat,z.toNat) w:=by
      have q2 : ∀ code,(Instr.sliceBound (.int k z) cap code).run P w = .ok z.toNat w:=fun code=>run_sliceBound w k z cap code (by omega) (by omega)
      have q3 : ∀ code,(Instr.sliceBound (.int k' b) z.toNat code).run P w = .ok b.toNat w:=fun code=>run_sliceBound w k' b z.toNat code (by omega) (by omega)
      rcases hlo with ⟨rfl,rfl⟩ | ⟨kl,rfl⟩
      ·simp [Instr.sliceBounds,Sem.run_bind,q2,q3]
      ·have q1 : ∀ code,(Instr.sliceBound (.int kl a) b.toNat code).run P w = .ok a.toNat w:=fun code=>run_sliceBound w kl a b.toNat code a0 (by omega)
       simp [Instr.sliceBounds,Sem.run_bind,q1,q2,q3]
     simp only [Option.some.injEq] at he
     exact ⟨_,_,hmap _ _ hbd,he.symm,VR_bot⟩
    ·simp at he
  ·simp at he
 ·simp at he
theorem run_slice_nil {T e : TypeId} {i : TypeInfo} {x : Option Addr} {cap : Nat} {lo hi : Option Value} (hu : P.underlying T = some (.slice e)) (hi' : P.info? e = some i)
  (hlo : lo = none ∨ ∃ k,lo = some (.int k 0)) (hhi : hi = none ∨ ∃ k,hi = some (.int k 0)) :
  ∃ y,(Instr.sliceAt T (.slice x 0 cap) lo hi none).run P w = .ok (.slice y 0 cap) w ∧ (x = none → y = none) ∧ ∀ a,x = some a → ∃ b,y = some b:=by
 have hbd : (Instr.sliceBounds true 0 cap lo hi none).run P w = .ok (0,0,cap) w:=by
  rcases hhi with rfl | ⟨k,rfl⟩ <;> rcases hlo with rfl | ⟨k',rfl⟩ <;> simp [Instr.sliceBounds,Sem.run_bind,Instr.sliceBound,asIntOf]
 refine ⟨_,by simp only [Instr.sliceAt,Sem.run_bind,run_underlying hu,Result.andThen_ok,Instr.slice,hbd,sizeOf,typeInfo,run_program,hi',Sem.run_pure]; rfl,?_,?_⟩
 ·rintro rfl; split <;> rfl
 ·rintro a rfl; split <;> exact ⟨_,rfl⟩
theorem zeros_all2 {t : Ty} {z : Value} (hz : All2 (LR φ β) t.zero.flat z.cells.toList) (n : Nat) : All2 (LR φ β) ((List.replicate n t.zero).flatMap AV.flat) (Builtin.zeroCells z.cells n).toList:=by
 have hzl : z.cells.size = t.size:=by
  have:=hz.1
  rw [Ty.fits_length zero_fits] at this
  simpa using this.symm
 have hlen : ((List.replicate n t.zero).flatMap AV.flat).length = n * t.size:=by
  rw [length_flatMap_const _ _ t.size (fun x hx=>by rw [(List.mem_replicate.1 hx).2]; exact Ty.fits_length zero_fits),List.length_replicate]
 refine ⟨by rw [hlen]; simp [Builtin.zeroCells,hzl],fun k a b ha hb=>?_⟩
 have hk : k < n * t.size:=by
  rw [← hlen]
  rcases Nat.lt_or_ge k ((List.replicate n t.zero).flatMap AV.flat).length with h | h
  ·exact h
  ·rw [List.getElem?_eq_none h] at ha; simp at ha
 have hs : 0 < t.size:=by
  rcases Nat.eq_zero_or_pos t.size with h | h
  ·rw [h] at hk; simp at hk
  ·exact h
 have hd : k / t.size < n:=(Nat.div_lt_iff_lt_mul hs).2 hk
 have e1:=getElem?_flatMap_const (List.replicate n t.zero) AV.flat t.size (fun x hx=>by rw [(List.mem_replicate.1 hx).2]; exact Ty.fits_length zero_fits) (k / t.size) (by simpa using hd) (k % t.size) (Nat.mod_lt _ hs)
 rw [show k / t.size * t.size + k % t.size = k by rw [Nat.mul_comm]; exact Nat.div_add_mod k t.size] at e1
 rw [e1,List.getElem_replicate] at ha
 have hm : k % t.size < z.cells.size:=by rw [hzl]; exact Nat.mod_lt _ hs
 refine hz.2 (k % t.size) a b ha ?_
 simp only [Builtin.zeroCells,Array.toList_map,List.getElem?_map,Array.toList_range,hzl,List.getElem?_range hk,Option.map_some,Option.some.injEq] at hb
 subst hb
 show z.cells.toList[k % t.size]? = some (z.cells[k % t.size]!)
 rw [Array.getElem?_toList,Array.getElem?_eq_getElem hm,getElem!_pos z.cells (k % t.size) hm]
theorem run_clear_sound {t : Ty} {T e ty : TypeId} {x : AV} {vx : Value} {ef : Eff} (hR : HR φ β O look w) (hu : P.underlying T = some (.slice e)) (ht : tyOk P t (.inl e) = true) (hx : VR φ β x vx)
  (he : evClear look t x = some ef) (hlets : ef.lets) : ∃ v w',(Builtin.clear_ #[T] ty #[vx]).run P w = .ok v w' ∧ EffOk φ β look w w' v ef:=by
 unfold evClear at he
 split at he
 ·simp only [Option.some.injEq] at he
  subst he
  have : vx = .slice none 0 0:=by simpa [VR,VR1,AV.isAgg,LR,AV.rel] using hx
  subst this
  exact ⟨.tuple #[],w,by simp [Builtin.clear_,Sem.run_bind,run_underlying hu],VR_bot,rfl⟩
 ·simp only [Option.some.injEq] at he
  subst he
  obtain ⟨a,cap,rfl⟩ : ∃ a cap,vx = .slice (some a) 0 cap:=by simpa [VR,VR1,AV.isAgg,LR,AV.rel] using hx
  exact ⟨.tuple #[],w,by simp [Builtin.clear_,Sem.run_bind,run_underlying hu],VR_bot,rfl⟩
 ·rename_i j off len
  obtain ⟨pl,m,t',cap,hb,hty,h1,h2,h3,rfl⟩:=LR_sl hx
  split at he
  ·rename_i n t'' bv hlk
   obtain ⟨pl',cs,T',fr,hB⟩:=hR.live j _ hlk
   obtain rfl : pl' = pl:=Option.some.inj (hB.place.symm.trans hb)
   have htyB:=hB.ty
   rw [hB.ty] at hty
   simp at hty
   obtain ⟨rfl,rfl⟩:=hty
   split at he
   ·rename_i l hl
    obtain ⟨hll,hlf,hfl⟩:=arr_list hB.fits hl
    split at he
    ·rename_i hc
     obtain ⟨rfl,hol⟩:=hc
     split at he
     ·rename_i hfit
      simp only [Option.some.injEq] at he
      subst he
      have hfr : fr = (0,0):=(hB.own hlets).1
      subst hfr
      have hlen : ∀ x ∈ l,(AV.flat x).length = t.size:=fun x hx=>Ty.fits_length (hlf x hx)
      have hvl : bv.flat.length = n * t.size:=by rw [Ty.fits_length hB.fits]; rfl
      have hroom:=hB.room
      have hsize:=hB.size
      simp only [Ty.size] at hsize
      obtain ⟨z,hz,hzc⟩:=tyOk_zero (φ:=φ) (β:=β) ht w
      have hnl:=zeros_all2 hzc len
      have hzl : z.cells.size = t.size:=by
       have:=hzc.1
       rw [Ty.fits_length zero_fits] at this
       simpa using this.symm
      have hmul : (off + len) * t.size ≤ n * t.size:=Nat.mul_le_mul_right _ (by omega)
      rw [Nat.add_mul] at hmul
      by_cases h0 : len = 0
      ·subst h0
       refine ⟨.tuple #[],w,by simp [Builtin.clear_,Sem.run_bind,run_underlying hu],pl',_,hlk,congrArg (fun k=>Ty.arr k t) hll.symm,hB.place,?_,VR_bot,⟨rfl,rfl,rfl,Nat.le_refl _,fun _ _ _=>rfl⟩⟩
       have e0 : l.take off ++ List.replicate 0 t.zero ++ l.drop (off + 0) = l:=by simp
       rw [e0] at hfit ⊢
       refine ⟨cs,T',hB.heap,hroom,by simp only [Ty.size,hll]; exact hsize,by rw [htyB,hll],hfit,fun k c hk=>?_⟩
       refine hB.cells k c ?_
       show bv.flat[k]? = _
       rw [hfl,← ofList_flat]
       exact hk
      let news:=(Builtin.zeroCells z.cells len).toList
      have hnews : news.length = len * t.size:=by simp [news,Builtin.zeroCells,hzl]
      have hrun:=run_storeCells_at P pl'.r (pl'.base + off * t.size) T' news 0 cs w hB.heap (by rw [hnews]; omega) (fun v hv=>by
       obtain ⟨k,hk⟩:=List.mem_iff_getElem?.1 hv
       have hkl : k < ((List.replicate len t.zero).flatMap AV.flat).length:=by
        rw [hnl.1]
        rcases Nat.lt_or_ge k news.length with h | h
        ·exact h
        ·rw [List.getElem?_eq_none h] at hk; simp at hk
       have hr:=hnl.2 k _ v (List.getElem?_eq_getElem hkl) hk
       have hmem : ((List.replicate len t.zero).flatMap AV.flat)[k] ∈ (List.replicate len t.zero).flatMap AV.flat:=List.getElem_mem hkl
       obtain ⟨y,hy,hy2⟩:=List.mem_flatMap.1 hmem
       rw [(List.mem_replicate.1 hy).2] at hy2
       have:=safe_flat (Ty.fits_safe zero_fits) _ hy2
       exact LR_one this.1 this.2 hr)
      have hst : (Builtin.clear_ #[T] ty #[.slice (some ⟨pl'.r,pl'.base + off * t.size,none⟩) len cap]).run P w = .ok (.tuple #[]) (w.setRow pl'.r (cs.toList.take (pl'.base + off * t.size + 0) ++ news ++ cs.toList.drop (pl'.base + off * t.size + 0 + news.length)).toArray):=by
       obtain ⟨q,rfl⟩ : ∃ q,len = q + 1:=⟨len - 1,by omega⟩
       simp only [Builtin.clear_,Sem.run_bind,run_underlying hu,Result.andThen_ok]
       simp [Sem.run_bind,run_underlying hu,hz]
       simp only [Nat.add_zero] at hrun
       rw [show storeCells { block:=pl'.r,off:=pl'.base + off * t.size } (Builtin.zeroCells z.cells (q + 1)).toList = storeCells ⟨pl'.r,pl'.base + off * t.size,none⟩ news 0 from rfl,hrun]
       simp
      refine ⟨_,_,hst,pl',_,hlk,congrArg (fun k=>Ty.arr k t) hll.symm,hB.place,⟨_,T',(setRow_same hB.heap).2,?_,?_,?_,hfit,?_⟩,VR_bot,(setRow_same hB.heap).1⟩
      ·have h4 : ((cs.toList.take (pl'.base + off * t.size + 0) ++ news ++ cs.toList.drop (pl'.base + off * t.size + 0 + news.length)).toArray).size = cs.size:=by
        simp only [List.size_toArray,List.length_append,List.length_take,List.length_drop,Array.length_toList]; omega
       rw [h4]; exact hroom
      ·simp only [Ty.size,hll]; exact hsize
      ·rw [htyB,hll]
      ·intro k c hk
       have hadl : ((List.replicate len t.zero).flatMap AV.flat).length = len * t.size:=by rw [hnl.1]; exact hnews
       have e1 : (AV.ofList (l.take off ++ List.replicate len t.zero ++ l.drop (off + len))).flat = bv.flat.take (off * t.size) ++ (List.replicate len t.zero).flatMap AV.flat ++ bv.flat.drop (off * t.size + ((List.replicate len t.zero).flatMap AV.flat).length):=by
        rw [ofList_flat,List.flatMap_append,List.flatMap_append,flatMap_take hlen,flatMap_drop hlen,← hfl,hadl,← Nat.add_mul]
       have e2 : off * t.size + ((List.replicate len t.zero).flatMap AV.flat).length ≤ bv.flat.length:=by
        rw [hadl,hvl]; exact hmul
       change (AV.ofList (l.take off ++ List.replicate len t.zero ++ l.drop (off + len))).flat[k]? = some c at hk
       rw [e1,mid_get e2] at hk
       simp only [Nat.add_zero]
       rw [row_get (by rw [hnews]; omega)]
       by_cases hk2 : off * t.size ≤ k ∧ k < off * t.size + ((List.replicate len t.zero).flatMap AV.flat).length
       ·rw [if_pos hk2] at hk
        rw [if_pos ⟨by omega,by rw [hnews,← hadl]; omega⟩,show pl'.base + k - (pl'.base + off * t.size) = k - off * t.size by omega]
        have hkl : k - off * t.size < news.length:=by rw [hnews,← hadl]; omega
        exact ⟨_,List.getElem?_eq_getElem hkl,hnl.2 _ c _ hk (List.getElem?_eq_getElem hkl)⟩
       ·rw [if_neg hk2] at hk
        rw [if_neg (by rw [hnews,← hadl]; omega)]
        exact hB.cells k c hk
     ·simp at he
    ·simp at he
   ·simp at he
  ·simp at he
 ·simp at he
end
end Go.Mini
