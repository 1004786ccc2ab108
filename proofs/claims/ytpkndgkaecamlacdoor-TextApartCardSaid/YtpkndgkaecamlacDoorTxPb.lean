/- A part of the proof: what Tx computes, step by step. -/
import Derived.Test.YtpkndgkaecamlacDoorTxPa
import Derived.LaidEql
import Derived.Laws.BytesString

set_option linter.unusedSimpArgs false
set_option linter.unusedVariables false
set_option linter.unusedSectionVars false
set_option linter.unnecessarySimpa false
namespace Go.Mini
open Go.RowKit
section
variable {φ : Nat → Option FuncId} {β : Beta} {P : Program} {O : Nat → Prop} {w : World} {look : Id → Option Blk}
def opdOk (φ : Nat → Option FuncId) : Operand → Opd → Bool
 | .tmp t,.s u=>t == u
 | .const v,.c a=>zeroOk a v
 | .func F,.f n=>φ n == some F
 | _,_=>false
def opdsOk (φ : Nat → Option FuncId) : List Operand → List Opd → Bool
 | [],[]=>true
 | x :: xs,y :: ys=>opdOk φ x y && opdsOk φ xs ys
 | _,_=>false
def partsOk (φ : Nat → Option FuncId) : List (Nat × Operand) → List (Nat × Opd) → Bool
 | [],[]=>true
 | (i,x) :: xs,(j,y) :: ys=>i == j && opdOk φ x y && partsOk φ xs ys
 | _,_=>false
def optOk (φ : Nat → Option FuncId) : Option Operand → Option Opd → Bool
 | none,none=>true
 | some x,some y=>opdOk φ x y
 | _,_=>false
def eqTy (P : Program) (t : Ty) (T : TypeId) : Bool :=
 match t with
 | .leaf .bool=>(match P.underlying T with | some .bool=>true | _=>false)
 | .leaf .ptr=>(match P.underlying T with | some (.pointer e)=>(match P.info? e with | some i=>i.size != 0 | none=>false) | _=>false)
 | .leaf .slice=>(match P.underlying T with | some (.slice _)=>true | _=>false)
 | .leaf _=>false
 | t=>tyOk P t (.inl T) && heldOk P t (.inl T) && !P.eqGuardType P.depth T && decide (t.depth ≤ 10000)
def sliceOf (P : Program) (t : Ty) (T : TypeId) : Bool :=
 match P.underlying T with
 | some (.slice e)=>tyOk P t (.inl e)
 | _=>false
def lenTy (P : Program) (str : Bool) (T : TypeId) : Bool :=
 match str,P.underlying T with
 | true,some .string=>true
 | false,some (.slice _)=>true
 | _,_=>false
def smallElem (P : Program) (T : TypeId) : Bool :=
 match P.underlying T with
 | some (.slice e)=>(match P.info? e with | some i=>decide (i.bytes ≤ 65536) | none=>false)
 | _=>false
theorem lenTy_slice {T : TypeId} (h : lenTy P false T = true) : ∃ e,P.underlying T = some (.slice e):=by
 unfold lenTy at h
 cases hu : P.underlying T with
 | none=>simp [hu] at h
 | some d=>cases d <;> simp [hu] at h; exact ⟨_,rfl⟩
theorem lenTy_str {T : TypeId} (h : lenTy P true T = true) : P.underlying T = some .string:=by
 unfold lenTy at h
 cases hu : P.underlying T with
 | none=>simp [hu] at h
 | some d=>cases d <;> simp [hu] at h; rfl
def matchK (P : Program) (φ : Nat → Option FuncId) (o : Op) (k : MK) : Bool :=
 match o,k with
 | .move x,.mov y=>opdOk φ x y
 | .assign x,.mov y=>opdOk φ x y
 | .pick c a b,.pick c' a' b'=>opdOk φ c c' && opdOk φ a a' && opdOk φ b b'
 | .binOp op _ x y _,.bin op' x' y'=>op == op' && opdOk φ x x' && opdOk φ y y'
 | .binOp op T x y _,.eq neg t x' y'=>op == (if neg then .neq else .eql) && opdOk φ x x' && opdOk φ y y' && eqTy P t T
 | .unOp op _ x,.un op' x'=>op == op' && opdOk φ x x'
 | .alloc T,.alloc _ t=>tyOk P t (.inl T)
 | .box T x,.box _ t x'=>tyOk P t (.inl T) && opdOk φ x x'
 | .build T ps,.build t ps'=>tyOk P t (.inl T) && t.isAgg && partsOk φ ps.toList ps'
 | .load T x,.load _ _ t x'=>tyOk P t (.inl T) && opdOk φ x x'
 | .store T x v,.store t _ x' v'=>tyOk P t (.inl T) && opdOk φ x x' && opdOk φ v v'
 | .nilCheck x,.nilck x'=>opdOk φ x x'
 | .fieldAddr T x i,.fld st i' _ x'=>tyOk P st (.inl T) && i == i' && opdOk φ x x'
 | .indexAddr T x i,.idx n t x' i'=>tyOk P (.arr n t) (.inl T) && opdOk φ x x' && opdOk φ i i'
 | .indexAddr T x i,.sidx _ t x' i'=>sliceOf P t T && opdOk φ x x' && opdOk φ i i'
 | .index T x i,.aidx n t x' i'=>tyOk P (.arr n t) (.inl T) && opdOk φ x x' && opdOk φ i i'
 | .index T x i,.stridx x' i'=>(match P.underlying T with | some .string=>true | _=>false) && opdOk φ x x' && opdOk φ i i'
 | .field T x i,.field t x' i'=>tyOk P t (.inl T) && i == i' && opdOk φ x x'
 | .extract x i,.ext x' i'=>i == i' && opdOk φ x x'
 | .convert s d x,.conv k x'=>(match P.underlying s with | some (.int _)=>true | _=>false) && (match P.underlying d with | some (.int k')=>k' == k | _=>false) && opdOk φ x x'
 | .call ⟨.builtin .len,args,tys⟩,.len str x'=>(match args.toList,tys.toList with | [x],[T]=>opdOk φ x x' && lenTy P str T | _,_=>false)
 | .call ⟨.builtin .min,args,_⟩,.min x' y'=>opdsOk φ args.toList [x',y']
 | .call ⟨.builtin .max,args,_⟩,.max x' y'=>opdsOk φ args.toList [x',y']
 | .buildSlice T n ps,.bslice _ t n' ps'=>n == n' && sliceOf P t T && decide (n * t.size ≤ 2 ^ 24 ∧ 0 < n * t.size) && partsOk φ ps.toList ps'
 | .call ⟨.builtin .append,args,tys⟩,.append _ _ t x' y'=>(match args.toList,tys.toList with | [x,y],[S,Y]=>opdOk φ x x' && opdOk φ y y' && sliceOf P t S && lenTy P false Y && smallElem P S | _,_=>false)
 | .makeFunc (.func F) first caps,.mkfn f caps'=>φ f == some F && first.isEmpty && opdsOk φ caps.toList caps'
 | .slice T x lo hi mx,.slice _ t x' lo' hi' mx'=>sliceOf P t T && opdOk φ x x' && optOk φ lo lo' && optOk φ hi hi' && optOk φ mx mx' && (mx'.isNone || hi'.isSome)
 | .call ⟨.builtin .clear,args,tys⟩,.clear t x'=>(match args.toList,tys.toList with | [x],[T]=>opdOk φ x x' && sliceOf P t T | _,_=>false)
 | .binOp op T x y _,.eqp neg x' y'=>op == (if neg then .neq else .eql) && opdOk φ x x' && opdOk φ y y' && eqTy P (.leaf .ptr) T
 | .slice T x lo hi none,.strsl x' lo' hi'=>(match P.underlying T with | some .string=>true | _=>false) && opdOk φ x x' && optOk φ lo lo' && optOk φ hi hi'
 | .convert s d x,.tostr x'=>sliceOf P (.leaf (.int .u8)) s && (match P.underlying d with | some .string=>true | _=>false) && opdOk φ x x'
 | .binOp op T x (.const c) _,.eqif neg x' y'=>op == (if neg then .neq else .eql) && opdOk φ x x' && opdOk φ (.const c) y' && (match P.underlying T with | some (.interface _)=>true | _=>false)
 | .call ⟨.builtin .append,args,tys⟩,.appstr x' y'=>(match args.toList,tys.toList with | [x,y],[S,Y]=>opdOk φ x x' && opdOk φ y y' && sliceOf P (.leaf (.int .u8)) S && (match P.underlying Y with | some .string=>true | _=>false) && smallElem P S | _,_=>false)
 | _,.stuck=>true
 | _,_=>false
def Opds (φ : Nat → Option FuncId) (β : Beta) (ρ : Operand → Value) (g : Opd → AV) : Prop:=∀ x y,opdOk φ x y = true → VR φ β (g y) (ρ x)
theorem parts_rel {ρ : Operand → Value} {g : Opd → AV} (hg : Opds φ β ρ g) : ∀ {xs : List (Nat × Operand)} {ys : List (Nat × Opd)},partsOk φ xs ys = true →
  All2 (fun a b=>a.1 = b.1 ∧ VR φ β a.2 b.2) (ys.map fun p=>(p.1,g p.2)) (xs.map fun p=>(p.1,ρ p.2))
 | [],[],_=>All2.nil
 | [],_ :: _,h=>by simp [partsOk] at h
 | _ :: _,[],h=>by simp [partsOk] at h
 | (i,x) :: xs,(j,y) :: ys,h=>by
  simp [partsOk] at h
  exact All2.cons ⟨h.1.1.symm,hg _ _ h.1.2⟩ (parts_rel hg h.2)
theorem run_shift {op : BinOp} {T : TypeId} {k k' : IntKind} {a b : Int} {v : AV} (h : evShift op k a b = some v) : ∃ x,(binOp op T (.int k a) (.int k' b)).run P w = .ok x w ∧ VR φ β v x:=by
 unfold evShift at h
 split at h
 ·split at h
  ·simp at h
  ·rename_i hb; simp at h; subst h; exact ⟨_,by simp [binOp,Op.shift,hb],VR_int⟩
 ·split at h
  ·simp at h
  ·rename_i hb; simp at h; subst h; exact ⟨_,by simp [binOp,Op.shift,hb],VR_int⟩
 ·simp at h
theorem run_bin_int {op : BinOp} {T : TypeId} {k : IntKind} {a b : Int} {v : AV} (h : evInt op k a b = some v) : ∃ x,(binOp op T (.int k a) (.int k b)).run P w = .ok x w ∧ VR φ β v x:=by
 cases op <;> simp only [evInt] at h
 case add=>simp at h; subst h; exact ⟨_,by simp [binOp,Op.intArith],VR_int⟩
 case sub=>simp at h; subst h; exact ⟨_,by simp [binOp,Op.intArith],VR_int⟩
 case mul=>simp at h; subst h; exact ⟨_,by simp [binOp,Op.intArith],VR_int⟩
 case quo =>
  split at h
  ·simp at h
  ·rename_i hb; simp at h; subst h; exact ⟨_,by simp [binOp,Op.intDiv,hb],VR_int⟩
 case rem =>
  split at h
  ·simp at h
  ·rename_i hb; simp at h; subst h; exact ⟨_,by simp [binOp,Op.intDiv,hb],VR_int⟩
 case eql=>simp at h; subst h; exact ⟨_,by simp [binOp,Op.intCmp],VR_bool⟩
 case neq=>simp at h; subst h; exact ⟨_,by simp [binOp,Op.intCmp],VR_bool⟩
 case lss=>simp at h; subst h; exact ⟨_,by simp [binOp,Op.intCmp],VR_bool⟩
 case leq=>simp at h; subst h; exact ⟨_,by simp [binOp,Op.intCmp],VR_bool⟩
 case gtr=>simp at h; subst h; exact ⟨_,by simp [binOp,Op.intCmp],VR_bool⟩
 case geq=>simp at h; subst h; exact ⟨_,by simp [binOp,Op.intCmp],VR_bool⟩
 case and=>simp at h; subst h; exact ⟨_,by simp [binOp,Op.intBits],VR_int⟩
 case or=>simp at h; subst h; exact ⟨_,by simp [binOp,Op.intBits],VR_int⟩
 case xor=>simp at h; subst h; exact ⟨_,by simp [binOp,Op.intBits],VR_int⟩
 case andNot=>simp at h; subst h; exact ⟨_,by simp [binOp,Op.intBits],VR_int⟩
 case shl=>exact run_shift h
 case shr=>exact run_shift h
 all_goals simp at h
theorem run_bin_str {op : BinOp} {T : TypeId} {a b : ByteArray} {v : AV} (h : evStr op a b = some v) : ∃ x,(binOp op T (.string a) (.string b)).run P w = .ok x w ∧ VR φ β v x:=by
 cases op <;> simp only [evStr] at h
 case add =>
  split at h
  ·simp at h
  ·rename_i hb
   simp at h
   subst h
   refine ⟨.string (a ++ b),?_,VR_str⟩
   simp only [binOp,Op.stringOp]
   rw [if_neg hb]
   rfl
 case eql=>simp at h; subst h; exact ⟨_,by simp only [binOp,Op.stringOp]; rfl,VR_bool⟩
 case neq=>simp at h; subst h; exact ⟨_,by simp only [binOp,Op.stringOp]; rfl,VR_bool⟩
 case lss=>simp at h; subst h; exact ⟨_,by simp only [binOp,Op.stringOp]; rfl,VR_bool⟩
 case leq=>simp at h; subst h; exact ⟨_,by simp only [binOp,Op.stringOp]; rfl,VR_bool⟩
 case gtr=>simp only [Option.some.injEq] at h; subst h; exact ⟨_,by simp only [binOp,Op.stringOp]; rfl,VR_bool⟩
 case geq=>simp at h; subst h; exact ⟨_,by simp only [binOp,Op.stringOp]; rfl,VR_bool⟩
 all_goals simp at h
theorem run_guard_int {op : BinOp} {T : TypeId} {x y : Operand} {k k' : IntKind} {a b : Int} : (eqGuard op T x y (.int k a) (.int k' b)).run P w = .ok () w:=by
 cases op <;> simp [eqGuard]
theorem run_guard_str {op : BinOp} {T : TypeId} {x y : Operand} {a b : ByteArray} : (eqGuard op T x y (.string a) (.string b)).run P w = .ok () w:=by
 cases op <;> simp [eqGuard]
theorem run_bin {op : BinOp} {T : TypeId} {x y : Operand} {a b : AV} {va vb : Value} {v : AV} (ha : VR φ β a va) (hb : VR φ β b vb) (h : evBin op a b = some v) :
  ∃ r,(do eqGuard op T x y va vb; binOp op T va vb : Sem Value).run P w = .ok r w ∧ VR φ β v r:=by
 unfold evBin at h
 split at h
 ·rename_i k p k' q
  split at h
  ·rename_i hk
   subst hk
   obtain ⟨r,hr,hv⟩:=run_bin_int (φ:=φ) (β:=β) (P:=P) (w:=w) (T:=T) h
   rw [LR_int ha,LR_int hb]
   exact ⟨r,by simp only [Sem.run_bind,run_guard_int,Result.andThen_ok,hr],hv⟩
  ·obtain ⟨r,hr,hv⟩:=run_shift (φ:=φ) (β:=β) (P:=P) (w:=w) (T:=T) (k':=k') h
   rw [LR_int ha,LR_int hb]
   exact ⟨r,by simp only [Sem.run_bind,run_guard_int,Result.andThen_ok,hr],hv⟩
 ·rename_i p q
  obtain ⟨r,hr,hv⟩:=run_bin_str (φ:=φ) (β:=β) (P:=P) (w:=w) (T:=T) h
  rw [LR_str ha,LR_str hb]
  exact ⟨r,by simp only [Sem.run_bind,run_guard_str,Result.andThen_ok,hr],hv⟩
 ·simp at h
theorem equalIn_nil_ptr {T e : TypeId} {d : Nat} {q : Option Addr} (hu : P.underlying T = some (.pointer e)) : (Op.equalIn (d + 1) T (.pointer none) (.pointer q)).run P w = .ok q.isNone w:=by
 cases q <;> simp [Op.equalIn,run_underlying hu w]
theorem equalIn_ptr_nil {T e : TypeId} {d : Nat} {q : Addr} (hu : P.underlying T = some (.pointer e)) : (Op.equalIn (d + 1) T (.pointer (some q)) (.pointer none)).run P w = .ok false w:=by
 simp [Op.equalIn,run_underlying hu w]
theorem equalIn_ptr_same {T e : TypeId} {d : Nat} {q : Addr} {ti : TypeInfo} (hu : P.underlying T = some (.pointer e)) (hi : P.info? e = some ti) (hs : ti.size ≠ 0) : (Op.equalIn (d + 1) T (.pointer (some q)) (.pointer (some q))).run P w = .ok true w:=by
 simp [Op.equalIn,run_underlying hu w,sizeOf,typeInfo,hi,hs,sameAddr]
theorem equalIn_nil_sl {T e : TypeId} {d : Nat} {q : Option Addr} {n c n' c' : Nat} (hu : P.underlying T = some (.slice e)) : (Op.equalIn (d + 1) T (.slice none n c) (.slice q n' c')).run P w = .ok q.isNone w:=by
 cases q <;> simp [Op.equalIn,run_underlying hu w]
theorem equalIn_sl_nil {T e : TypeId} {d : Nat} {q : Addr} {n c n' c' : Nat} (hu : P.underlying T = some (.slice e)) : (Op.equalIn (d + 1) T (.slice (some q) n c) (.slice none n' c')).run P w = .ok false w:=by
 simp [Op.equalIn,run_underlying hu w]
def plainV : Value → Bool
 | .pointer _=>true
 | .slice ..=>true
 | .bool _=>true
 | _=>false
theorem run_eqlv {neg : Bool} {T : TypeId} {x y : Operand} {va vb : Value} {r : Bool} (h1 : plainV va = true) (h2 : plainV vb = true) (h : (Op.equalIn 10000 T va vb).run P w = .ok r w) :
  (do eqGuard (if neg then .neq else .eql) T x y va vb; binOp (if neg then .neq else .eql) T va vb : Sem Value).run P w = .ok (.bool (if neg then !r else r)) w:=by
 have h' : (Op.equal T va vb).run P w = .ok r w:=h
 cases va <;> simp [plainV] at h1 <;> cases vb <;> simp [plainV] at h2 <;> cases neg <;> simp [eqGuard,binOp,Sem.run_bind,h']
theorem run_eq {neg : Bool} {t : Ty} {T : TypeId} {x y : Operand} {a b : AV} {va vb : Value} {r : Bool} (hty : eqTy P t T = true) (h1 : t.eqOk a = true) (h2 : t.eqOk b = true) (ha : VR φ β a va) (hb : VR φ β b vb) (h : a.eq b = some r) :
  (do eqGuard (if neg then .neq else .eql) T x y va vb; binOp (if neg then .neq else .eql) T va vb : Sem Value).run P w = .ok (.bool (if neg then !r else r)) w:=by
 have agg : t.isAgg = true → tyOk P t (.inl T) = true → heldOk P t (.inl T) = true → P.eqGuardType P.depth T = false → t.depth ≤ 10000 → t.fits a = true → t.fits b = true →
   (do eqGuard (if neg then .neq else .eql) T x y va vb; binOp (if neg then .neq else .eql) T va vb : Sem Value).run P w = .ok (.bool (if neg then !r else r)) w:=by
  intro hag ht hh hgt hd hfa hfb
  have hq:=eq_sound (P:=P) (w:=w) 10000 t T hd ht hh a b va vb r hfa hfb ha hb h
  obtain ⟨xs,rfl,_⟩:=VR_agg_cells hfa hag ha
  obtain ⟨ys,rfl,_⟩:=VR_agg_cells hfb hag hb
  cases neg
  ·simp only [Bool.false_eq_true,if_false,Sem.run_bind,run_eqGuard_agg w .eql T x y _ _ hgt,Result.andThen_ok,run_eql_struct,hq]
  ·simp only [if_true,Sem.run_bind,run_eqGuard_agg w .neq T x y _ _ hgt,Result.andThen_ok,run_neq_struct,hq]
 cases t with
 | arr n e =>
  simp only [eqTy,Bool.and_eq_true,Bool.not_eq_true',decide_eq_true_eq] at hty
  exact agg rfl hty.1.1.1 hty.1.1.2 hty.1.2 hty.2 (by simpa [Ty.eqOk] using h1) (by simpa [Ty.eqOk] using h2)
 | unit =>
  simp only [eqTy,Bool.and_eq_true,Bool.not_eq_true',decide_eq_true_eq] at hty
  exact agg rfl hty.1.1.1 hty.1.1.2 hty.1.2 hty.2 (by simpa [Ty.eqOk] using h1) (by simpa [Ty.eqOk] using h2)
 | cons p q =>
  simp only [eqTy,Bool.and_eq_true,Bool.not_eq_true',decide_eq_true_eq] at hty
  exact agg rfl hty.1.1.1 hty.1.1.2 hty.1.2 hty.2 (by simpa [Ty.eqOk] using h1) (by simpa [Ty.eqOk] using h2)
 | leaf k =>
 clear agg
 cases k
 case int=>simp [eqTy] at hty
 case str=>simp [eqTy] at hty
 case func=>simp [eqTy] at hty
 ·
  simp only [eqTy] at hty
  cases hu : P.underlying T with
  | none=>simp [hu] at hty
  | some d =>
   cases d <;> simp [hu] at hty
   cases a <;> simp [Ty.eqOk] at h1
   cases b <;> simp [Ty.eqOk] at h2
   rw [LR_bool ha,LR_bool hb]
   simp [AV.eq] at h
   subst h
   exact run_eqlv rfl rfl (run_equalIn_bool' w 9999 T _ _ hu)
 ·
  simp only [eqTy] at hty
  cases hu : P.underlying T with
  | none=>simp [hu] at hty
  | some d =>
   cases d <;> simp [hu] at hty
   rename_i e
   cases hi : P.info? e with
   | none=>simp [hi] at hty
   | some ti =>
    simp [hi] at hty
    cases a <;> simp [Ty.eqOk] at h1
    ·cases b <;> simp [Ty.eqOk] at h2
     ·simp [AV.eq] at h
      subst h
      have e1 : va = .pointer none:=by simpa [VR,VR1,AV.isAgg,LR,AV.rel] using ha
      have e2 : vb = .pointer none:=by simpa [VR,VR1,AV.isAgg,LR,AV.rel] using hb
      subst e1 e2
      exact run_eqlv rfl rfl (equalIn_nil_ptr (d:=9999) hu)
     ·simp [AV.eq] at h
      subst h
      have e1 : va = .pointer none:=by simpa [VR,VR1,AV.isAgg,LR,AV.rel] using ha
      obtain ⟨pl,o,_,_,rfl⟩:=LR_ptr hb
      subst e1
      exact run_eqlv rfl rfl (equalIn_nil_ptr (d:=9999) hu)
    ·cases b <;> simp [Ty.eqOk] at h2
     ·simp [AV.eq] at h
      subst h
      have e2 : vb = .pointer none:=by simpa [VR,VR1,AV.isAgg,LR,AV.rel] using hb
      obtain ⟨pl,o,_,_,rfl⟩:=LR_ptr ha
      subst e2
      exact run_eqlv rfl rfl (equalIn_ptr_nil (d:=9999) hu)
     ·rename_i i p t' j q u'
      cases p with
      | cons=>simp [Ty.eqOk] at h1
      | nil =>
       cases q with
       | cons=>simp [Ty.eqOk] at h2
       | nil =>
        simp only [AV.eq] at h
        split at h
        ·rename_i hij
         obtain ⟨rfl,rfl⟩:=hij
         simp at h
         subst h
         obtain ⟨pl,o,hb1,hp1,rfl⟩:=LR_ptr ha
         obtain ⟨pl',o',hb2,hp2,rfl⟩:=LR_ptr hb
         rw [hb1] at hb2
         obtain rfl:=Option.some.inj hb2
         rw [hp1] at hp2
         injection hp2 with hp2
         injection hp2 with hp2 _
         subst hp2
         exact run_eqlv rfl rfl (equalIn_ptr_same (d:=9999) hu hi hty)
        ·simp at h
 ·
  simp only [eqTy] at hty
  cases hu : P.underlying T with
  | none=>simp [hu] at hty
  | some d =>
   cases d <;> simp [hu] at hty
   have sl : ∀ {v : AV} {x : Value},(Ty.leaf .slice).eqOk v = true → VR φ β v x → (v = .nilsl ∧ x = .slice none 0 0) ∨ (v ≠ .nilsl ∧ ∃ a n c,x = .slice (some a) n c):=by
    intro v x hv hx
    cases v <;> simp [Ty.eqOk] at hv
    ·exact .inl ⟨rfl,by simpa [VR,VR1,AV.isAgg,LR,AV.rel] using hx⟩
    ·obtain ⟨a,c,rfl⟩ : ∃ a cap,x = .slice (some a) 0 cap:=by simpa [VR,VR1,AV.isAgg,LR,AV.rel] using hx
     exact .inr ⟨by simp,a,0,c,rfl⟩
    ·obtain ⟨_,_,_,_,_,_,_,_,_,rfl⟩:=LR_sl hx
     exact .inr ⟨by simp,_,_,_,rfl⟩
   rcases sl h1 ha with ⟨rfl,rfl⟩ | ⟨hna,a',n,c,rfl⟩
   ·rcases sl h2 hb with ⟨rfl,rfl⟩ | ⟨hnb,b',n',c',rfl⟩
    ·simp [AV.eq] at h
     subst h
     exact run_eqlv rfl rfl (equalIn_nil_sl (d:=9999) hu)
    ·have : r = false:=by cases b <;> simp [Ty.eqOk] at h2 <;> simp_all [AV.eq]
     subst this
     exact run_eqlv rfl rfl (equalIn_nil_sl (d:=9999) hu)
   ·rcases sl h2 hb with ⟨rfl,rfl⟩ | ⟨hnb,b',n',c',rfl⟩
    ·have : r = false:=by cases a <;> simp [Ty.eqOk] at h1 <;> simp_all [AV.eq]
     subst this
     exact run_eqlv rfl rfl (equalIn_sl_nil (d:=9999) hu)
    ·exfalso
     cases a <;> simp [Ty.eqOk] at h1 <;> cases b <;> simp [Ty.eqOk] at h2 <;> simp_all [AV.eq]
theorem equalIn_ptr_other {T e : TypeId} {d : Nat} {q r : Addr} {ti : TypeInfo} {ca cb : Array Value} {ta tb : TypeId} (hu : P.underlying T = some (.pointer e)) (hi : P.info? e = some ti) (hs : ti.size ≠ 0) (hne : q ≠ r)
  (h1 : w.heap[q.block]? = some (.cells ca ta (0,0))) (h2 : w.heap[r.block]? = some (.cells cb tb (0,0))) : (Op.equalIn (d + 1) T (.pointer (some q)) (.pointer (some r))).run P w = .ok false w:=by
 simp [Op.equalIn,run_underlying hu w,sizeOf,typeInfo,hi,hs,run_sameAddr_other w hne h1 h2]
theorem run_eqp {neg : Bool} {T : TypeId} {x y : Operand} {a b : AV} {va vb : Value} {r : Bool} (hR : HR φ β O look w) (hty : eqTy P (.leaf .ptr) T = true) (ha : VR φ β a va) (hb : VR φ β b vb) (h : eqPtr look a b = some r) :
  (do eqGuard (if neg then .neq else .eql) T x y va vb; binOp (if neg then .neq else .eql) T va vb : Sem Value).run P w = .ok (.bool (if neg then !r else r)) w:=by
 simp only [eqTy] at hty
 cases hu : P.underlying T with
 | none=>simp [hu] at hty
 | some d =>
  cases d <;> simp [hu] at hty
  rename_i e
  cases hi : P.info? e with
  | none=>simp [hi] at hty
  | some ti =>
   simp [hi] at hty
   unfold eqPtr at h
   split at h
   ·simp at h
    subst h
    have e1 : va = .pointer none:=by simpa [VR,VR1,AV.isAgg,LR,AV.rel] using ha
    have e2 : vb = .pointer none:=by simpa [VR,VR1,AV.isAgg,LR,AV.rel] using hb
    subst e1 e2
    exact run_eqlv rfl rfl (equalIn_nil_ptr (d:=9999) hu)
   ·simp at h
    subst h
    have e1 : va = .pointer none:=by simpa [VR,VR1,AV.isAgg,LR,AV.rel] using ha
    obtain ⟨pl,o,_,_,rfl⟩:=LR_ptr hb
    subst e1
    exact run_eqlv rfl rfl (equalIn_nil_ptr (d:=9999) hu)
   ·simp at h
    subst h
    have e2 : vb = .pointer none:=by simpa [VR,VR1,AV.isAgg,LR,AV.rel] using hb
    obtain ⟨pl,o,_,_,rfl⟩:=LR_ptr ha
    subst e2
    exact run_eqlv rfl rfl (equalIn_ptr_nil (d:=9999) hu)
   ·rename_i i t' j u'
    obtain ⟨pl,o,hb1,hp1,rfl⟩:=LR_ptr ha
    obtain ⟨pl',o',hb2,hp2,rfl⟩:=LR_ptr hb
    split at h
    ·rename_i hij
     obtain ⟨rfl,rfl⟩:=hij
     simp at h
     subst h
     rw [hb1] at hb2
     obtain rfl:=Option.some.inj hb2
     rw [hp1] at hp2
     injection hp2 with hp2
     injection hp2 with hp2 _
     subst hp2
     exact run_eqlv rfl rfl (equalIn_ptr_same (d:=9999) hu hi hty)
    ·split at h
     ·rename_i hne
      obtain ⟨hij,hli,hlj,hia,hja⟩:=hne
      simp at h
      subst h
      obtain ⟨bi,hbi⟩:=Option.isSome_iff_exists.1 hli
      obtain ⟨bj,hbj⟩:=Option.isSome_iff_exists.1 hlj
      have hr : pl.r ≠ pl'.r:=fun e=>by
       have:=(hR.apart i j bi bj pl pl' hbi hbj hb1 hb2 hij e).1
       rw [hia] at this; simp at this
      obtain ⟨p1,c1,T1,f1,B1⟩:=hR.live i bi hbi
      obtain ⟨p2,c2,T2,f2,B2⟩:=hR.live j bj hbj
      obtain rfl : p1 = pl:=Option.some.inj (B1.place.symm.trans hb1)
      obtain rfl : p2 = pl':=Option.some.inj (B2.place.symm.trans hb2)
      have g1:=(B1.own hia).1
      have g2:=(B2.own hja).1
      subst g1 g2
      exact run_eqlv rfl rfl (equalIn_ptr_other (d:=9999) hu hi hty (fun e=>hr (congrArg (·.block) e)) B1.heap B2.heap)
     ·simp at h
   ·simp at h
theorem evSlice_none {t : Ty} {j : Id} {off : Nat} {a b : Int} : evSlice look t j off a b (some none) = none:=by
 unfold evSlice
 split
 ·split <;> rfl
 ·rfl
theorem opt_rel {ρ : Operand → Value} {g : Opd → AV} (hg : Opds φ β ρ g) {x : Option Operand} {y : Option Opd} (h : optOk φ x y = true) : (x = none ∧ y = none) ∨ ∃ a b,x = some a ∧ y = some b ∧ VR φ β (g b) (ρ a):=by
 cases x <;> cases y <;> simp [optOk] at h
 ·exact .inl ⟨rfl,rfl⟩
 ·exact .inr ⟨_,_,rfl,rfl,hg _ _ h⟩
theorem alloc_same (w : World) (o : Obj) : SameBut w (w.alloc o) (fun _=>False) :=
 ⟨rfl,rfl,rfl,by simp,fun r hr _=>Below.heap_alloc w o r hr⟩
theorem laid_alloc {b : Blk} {cs : Array Value} {T : TypeId} (hf : b.ty.fits b.val = true) (hc : All2 (LR φ β) b.val.flat cs.toList) : Laid φ β b (w.alloc (.cells cs T)) ⟨w.heap.size,0,b.ty,cs.size⟩:=by
 have hl:=hc.1
 have hl2:=Ty.fits_length hf
 refine ⟨cs,T,heap_alloc_new w _,by simp,by simp at hl ⊢; omega,rfl,hf,fun k c hk=>?_⟩
 have hkl : k < cs.toList.length:=by
  rw [← hl]
  rcases Nat.lt_or_ge k b.val.flat.length with h | h
  ·exact h
  ·rw [List.getElem?_eq_none h] at hk; simp at hk
 exact ⟨cs.toList[k],by rw [Nat.zero_add,← Array.getElem?_toList]; exact List.getElem?_eq_getElem hkl,hc.2 k c _ hk (List.getElem?_eq_getElem hkl)⟩
theorem caps_rel {ρ : Operand → Value} {g : Opd → AV} (hg : Opds φ β ρ g) : ∀ {xs : List Operand} {ys : List Opd},opdsOk φ xs ys = true → (∀ y ∈ ys,(g y).isLeaf = true) →
  ((ys.foldr (fun x acc=>AV.cons (g x) acc) .unit).rel φ β).2 (xs.map ρ)
 | [],[],_,_=>rfl
 | [],_ :: _,h,_=>by simp [opdsOk] at h
 | _ :: _,[],h,_=>by simp [opdsOk] at h
 | x :: xs,y :: ys,h,hl=>by
  simp [opdsOk] at h
  have h1:=hg _ _ h.1
  have h2:=hl y (by simp)
  have : LR φ β (g y) (ρ x):=by
   cases hv : g y <;> rw [hv] at h1 h2 <;> simp [AV.isLeaf] at h2 <;> simpa [VR,VR1,AV.isAgg] using h1
  exact ⟨ρ x,xs.map ρ,rfl,this,caps_rel hg h.2 fun z hz=>hl z (by simp [hz])⟩
theorem tup_field : ∀ {v u : AV} {xs : List Value} {i : Nat},TR φ β v xs → v.field i = some u → ∃ x,xs[i]? = some x ∧ VR φ β u x:=by
 intro v
 induction v with
 | cons a b _ ihb =>
  intro u xs i h hv
  cases xs with
  | nil=>exact h.elim
  | cons x xs =>
   cases i with
   | zero=>simp [AV.field] at hv; subst hv; exact ⟨x,rfl,VR_of_VR1 h.2.1⟩
   | succ i=>change b.field i = some u at hv; exact ihb (xs:=xs) (i:=i) h.2.2 hv
 | _=>intro u xs i h hv; simp [AV.field] at hv
theorem run_strsl {T : TypeId} {b : ByteArray} {lo hi : Option Value} {a c : Int} (hu : P.underlying T = some .string) (hlo : (lo = none ∧ a = 0) ∨ ∃ k,lo = some (.int k a)) (hhi : (hi = none ∧ c = b.size) ∨ ∃ k,hi = some (.int k c))
  (h0 : 0 ≤ a) (hac : a ≤ c) (hcb : c ≤ b.size) : (Instr.sliceAt T (.string b) lo hi none).run P w = .ok (.string (b.extract a.toNat c.toNat)) w:=by
 have hc0 : 0 ≤ c:=by omega
 have hb : (Instr.sliceBounds false b.size b.size lo hi none).run P w = .ok (a.toNat,c.toNat,b.size) w:=by
  have hh : (match hi with | some v=>Instr.sliceBound v b.size .sliceAlen | none=>(pure b.size : Sem Nat)).run P w = .ok c.toNat w:=by
   rcases hhi with ⟨rfl,rfl⟩ | ⟨k,rfl⟩
   ·simp [Sem.run_pure]
   ·simp [Instr.sliceBound,Sem.run_bind,asIntOf,hc0,hcb]
  have hl : (match lo with | some v=>Instr.sliceBound v c.toNat .sliceB | none=>(pure 0 : Sem Nat)).run P w = .ok a.toNat w:=by
   rcases hlo with ⟨rfl,rfl⟩ | ⟨k,rfl⟩
   ·simp [Sem.run_pure]
   ·have : a ≤ (c.toNat : Int):=by omega
    simp [Instr.sliceBound,Sem.run_bind,asIntOf,h0,this]
    try (intro hmx; omega)
  rcases hhi with ⟨rfl,rfl⟩ | ⟨k,rfl⟩ <;> rcases hlo with ⟨rfl,rfl⟩ | ⟨k',rfl⟩ <;> simp [Instr.sliceBounds,Sem.run_bind,Sem.run_pure] at hh hl ⊢ <;> simp [hh,hl]
 simp [Instr.sliceAt,Sem.run_bind,run_underlying hu,Result.andThen_ok,Instr.slice,hb,Sem.run_pure]
theorem bytes_all2 : ∀ {l : List AV} {bs : List UInt8} {news : List Value},bytesOf l = some bs → All2 (LR φ β) (l.flatMap AV.flat) news → ∃ ns : List Int,news = ns.map (Value.int .u8) ∧ bs = ns.map fun n=>UInt8.ofNat n.toNat
 | [],bs,news,h,ha=>by
  simp only [bytesOf,Option.some.injEq] at h
  subst h
  have : news = []:=by
   cases news with
   | nil=>rfl
   | cons y ys=>have:=ha.1; simp only [List.flatMap_nil,List.length_nil,List.length_cons] at this; omega
  exact ⟨[],by simp [this],rfl⟩
 | x :: r,bs,news,h,ha=>by
  cases x <;> try (simp [bytesOf] at h; done)
  rename_i k n
  cases k <;> try (simp [bytesOf] at h; done)
  simp [bytesOf] at h
  obtain ⟨rs,hr,rfl⟩:=h
  simp only [List.flatMap_cons,AV.flat,List.cons_append,List.nil_append] at ha
  cases news with
  | nil=>have:=ha.1; simp at this
  | cons y ys =>
   obtain ⟨ns,e1,e2⟩:=bytes_all2 hr ha.tail
   have hy:=ha.head
   have : y = .int .u8 n:=by simpa [LR,AV.rel] using hy
   exact ⟨n :: ns,by simp [this,e1],by simp [e2]⟩
theorem elems_slice {t : Ty} {y : AV} {vy : Value} {add : List AV} (hy : VR φ β y vy) (h : elems look t y = some add) : ∃ a l c,vy = .slice a l c:=by
 unfold elems at h
 split at h
 ·exact ⟨none,0,0,by simpa [VR,VR1,AV.isAgg,LR,AV.rel] using hy⟩
 ·obtain ⟨a,cap,rfl⟩ : ∃ a cap,vy = .slice (some a) 0 cap:=by simpa [VR,VR1,AV.isAgg,LR,AV.rel] using hy
  exact ⟨_,_,_,rfl⟩
 ·obtain ⟨pl,m,t',cap,hb,hty,h1,h2,h3,rfl⟩:=LR_sl hy
  exact ⟨_,_,_,rfl⟩
 ·simp at h
theorem equalIn_if {T : TypeId} {d : Nat} {b : Bool} {va : Value} {q} (hu : P.underlying T = some (.interface q)) (hb : LR φ β (.iface b) va) : (Op.equalIn (d + 1) T va .nilIface).run P w = .ok (!b) w:=by
 rcases hb with ⟨rfl,rfl⟩ | ⟨rfl,t,p,rfl⟩ <;> simp [Op.equalIn,run_underlying hu w]
theorem run_eqif {neg : Bool} {T : TypeId} {x : Operand} {c : Value} {b : Bool} {va : Value} {q} (hu : P.underlying T = some (.interface q)) (hb : LR φ β (.iface b) va) :
  (do eqGuard (if neg then .neq else .eql) T x (.const c) va .nilIface; binOp (if neg then .neq else .eql) T va .nilIface : Sem Value).run P w = .ok (.bool (if neg then b else !b)) w:=by
 have h' : (Op.equal T va .nilIface).run P w = .ok (!b) w:=equalIn_if hu hb
 have hgd : ∀ op : BinOp,(eqGuard op T x (.const c) va .nilIface).run P w = .ok () w:=by
  intro op
  rcases hb with ⟨rfl,rfl⟩ | ⟨rfl,t,p,rfl⟩ <;> cases op <;> simp [eqGuard,Sem.run_pure]
 rw [Sem.run_bind,hgd]
 rcases hb with ⟨rfl,rfl⟩ | ⟨rfl,t,p,rfl⟩ <;> cases neg <;> simp [binOp,Sem.run_bind,h']
theorem foldl_push (ns : List Int) (b : ByteArray) : ns.foldl (fun r n=>r.push (UInt8.ofNat n.toNat)) b = ⟨b.data ++ (ns.map fun n=>UInt8.ofNat n.toNat).toArray⟩:=by
 induction ns generalizing b with
 | nil=>simp
 | cons n ns ih =>
  rw [List.foldl_cons,ih]
  congr 1
  apply Array.toList_inj.1
  simp [ByteArray.push]
theorem op_sound {o : Oper} {k : MK} {ρ : Operand → Value} {g : Opd → AV} {e : Eff} (hR : HR φ β O look w) (hg : Opds φ β ρ g) (hm : matchK P φ o.op k = true) (he : evK g look k = some e) (hl : e.lets) :
  ∃ nx x w',(execOp ρ o).run P w = .ok nx w' ∧ Next.val nx = some x ∧ EffOk φ β look w w' x e:=by
 obtain ⟨dst,op,ty,pos,after,guard⟩:=o
 simp only at hm
 unfold matchK at hm
 split at hm

 ·rename_i x y
  simp only [evK,Option.some.injEq] at he
  subst he
  exact ⟨.value (ρ x),_,w,by simp [execOp],rfl,hg _ _ hm,rfl⟩
 ·rename_i x y
  simp only [evK,Option.some.injEq] at he
  subst he
  exact ⟨.value (ρ x),_,w,by simp [execOp],rfl,hg _ _ hm,rfl⟩

 ·rename_i c a b c' a' b'
  simp only [Bool.and_eq_true] at hm
  have hc:=hg _ _ hm.1.1
  simp only [evK] at he
  split at he
  ·rename_i hb
   rw [hb] at hc
   simp only [Option.some.injEq] at he
   subst he
   exact ⟨.value (ρ a),_,w,by simp [execOp,LR_bool hc,asBool,Sem.run_bind],rfl,hg _ _ hm.1.2,rfl⟩
  ·rename_i hb
   rw [hb] at hc
   simp only [Option.some.injEq] at he
   subst he
   exact ⟨.value (ρ b),_,w,by simp [execOp,LR_bool hc,asBool,Sem.run_bind],rfl,hg _ _ hm.2,rfl⟩
  ·simp at he

 ·rename_i op T x y yt op' x' y'
  simp only [Bool.and_eq_true,beq_iff_eq] at hm
  obtain ⟨⟨rfl,h1⟩,h2⟩:=hm
  simp only [evK,Option.map_eq_some_iff] at he
  obtain ⟨v,hv,rfl⟩:=he
  obtain ⟨r,hr,hrv⟩:=run_bin (P:=P) (w:=w) (T:=T) (x:=x) (y:=y) (hg _ _ h1) (hg _ _ h2) hv
  refine ⟨.value r,r,w,?_,rfl,hrv,rfl⟩
  simp only [execOp]
  rw [Sem.run_bind,hr]
  rfl

 ·rename_i op T x y yt neg t x' y'
  simp only [Bool.and_eq_true,beq_iff_eq] at hm
  obtain ⟨⟨⟨rfl,h1⟩,h2⟩,h3⟩:=hm
  simp only [evK] at he
  split at he
  ·rename_i hq
   simp only [Bool.and_eq_true] at hq
   simp only [Option.map_eq_some_iff] at he
   obtain ⟨r,hr,rfl⟩:=he
   have:=run_eq (P:=P) (w:=w) (neg:=neg) (x:=x) (y:=y) h3 hq.1 hq.2 (hg _ _ h1) (hg _ _ h2) hr
   refine ⟨.value (.bool (if neg then !r else r)),_,w,?_,rfl,VR_bool,rfl⟩
   simp only [execOp]
   rw [Sem.run_bind,this]
   rfl
  ·simp at he

 ·rename_i op T x op' x'
  simp only [Bool.and_eq_true,beq_iff_eq] at hm
  obtain ⟨rfl,h1⟩:=hm
  simp only [evK,Option.map_eq_some_iff] at he
  obtain ⟨v,hv,rfl⟩:=he
  have hx:=hg _ _ h1
  unfold evUn at hv
  split at hv
  ·rename_i b hb
   rw [hb] at hx
   simp at hv
   subst hv
   exact ⟨.value (.bool !b),_,w,by simp [execOp,LR_bool hx,Op.unary,Sem.run_bind],rfl,VR_bool,rfl⟩
  ·rename_i k n hb
   rw [hb] at hx
   simp at hv
   subst hv
   exact ⟨.value (.int k (k.wrap (0 - n))),_,w,by simp [execOp,LR_int hx,Op.unary,Op.intArith,Sem.run_bind],rfl,by simpa using VR_int,rfl⟩
  ·simp at hv

 ·rename_i T esc t
  simp only [evK,Option.some.injEq] at he
  subst he
  obtain ⟨cs,hr,hc⟩:=run_alloc (φ:=φ) (β:=β) (P:=P) (w:=w) (old:=.tuple #[]) hm
  exact ⟨.value _,_,w.alloc (.cells cs T),by simp [execOp,Sem.run_bind,hr],rfl,⟨w.heap.size,0,t,cs.size⟩,laid_alloc (b:=⟨t,t.zero⟩) zero_fits hc,rfl,rfl,rfl,by simp,alloc_same _ _⟩

 ·rename_i T x esc t x'
  simp only [Bool.and_eq_true] at hm
  simp only [evK] at he
  split at he
  ·rename_i hf
   simp only [Option.some.injEq] at he
   subst he
   obtain ⟨hc,_,_,_⟩:=cells_of_VR hf (hg _ _ hm.2)
   exact ⟨.value _,_,w.alloc (.cells (ρ x).cells T),by simp [execOp,Sem.run_bind,run_box],rfl,⟨w.heap.size,0,t,(ρ x).cells.size⟩,laid_alloc (b:=⟨t,g x'⟩) hf hc,rfl,rfl,rfl,by simp,alloc_same _ _⟩
  ·simp at he

 ·rename_i T ps t ps'
  simp only [Bool.and_eq_true] at hm
  simp only [evK,Option.map_eq_some_iff] at he
  obtain ⟨v,hv,rfl⟩:=he
  obtain ⟨y,hy,hvy⟩:=run_build_sound (P:=P) (w:=w) hm.1.1 hm.1.2 (parts_rel hg hm.2) hv
  refine ⟨.value y,y,w,?_,rfl,hvy,rfl⟩
  have e : (ps.map fun (p : Nat × Operand)=>(p.1,ρ p.2)) = (ps.toList.map fun p=>(p.1,ρ p.2)).toArray:=by apply Array.toList_inj.1; rw [Array.toList_map]
  simp only [execOp]
  rw [Sem.run_bind]
  have e2 : (ps.map fun x=>match x with | (i,x)=>(i,ρ x)) = (ps.toList.map fun p=>(p.1,ρ p.2)).toArray:=by rw [← e]
  rw [e2,hy]
  rfl

 ·rename_i T x ro t x'
  simp only [Bool.and_eq_true] at hm
  have hx:=hg _ _ hm.2
  simp only [evK] at he
  split at he
  ·rename_i i p t' hgx
   rw [hgx] at hx
   split at he
   ·rename_i hc
    obtain ⟨rfl,_⟩:=hc
    cases hlk : look i with
    | none=>simp [hlk] at he
    | some b =>
     simp only [hlk,Option.bind_some] at he
     cases hv : b.val.at p with
     | none=>simp [hv] at he
     | some v =>
      simp only [hv] at he
      split at he
      ·simp only [Option.some.injEq] at he
       subst he
       obtain ⟨y,hy,hvy⟩:=run_load hR hm.1 hx hlk hv
       exact ⟨.value y,y,w,by simp [execOp,Sem.run_bind,hy],rfl,hvy,rfl⟩
      ·simp at he
   ·simp at he
  ·simp at he

 ·rename_i T x v t ap x' v'
  simp only [Bool.and_eq_true] at hm
  have hx:=hg _ _ hm.1.2
  have hv:=hg _ _ hm.2
  simp only [evK] at he
  split at he
  ·rename_i i p t' hgx
   rw [hgx] at hx
   split at he
   ·rename_i hc
    obtain ⟨rfl,hf,_⟩:=hc
    cases hlk : look i with
    | none=>simp [hlk] at he
    | some b =>
     simp only [hlk] at he
     cases hu : b.val.put p (g v') with
     | none=>simp [hu] at he
     | some u =>
      simp only [hu,Option.some.injEq] at he
      subst he
      obtain ⟨pl,cs,T',hB,cs',hrun,hsz,hfu,hcells⟩:=run_store hR hm.1.1 hx hv hf hlk hu hl
      refine ⟨.skip,undef,_,by simp [execOp,Sem.run_bind,hrun],rfl,pl,b,hlk,rfl,hB.place,⟨cs',T',setRow_heap w pl.r cs cs' T' (0,0) hB.heap,by rw [hsz]; exact hB.room,hB.size,hB.ty,hfu,hcells⟩,VR_bot,
       ⟨rfl,rfl,rfl,by simp,fun r _ hr=>setRow_other w pl.r r cs' hr⟩⟩
   ·simp at he
  ·simp at he

 ·rename_i x x'
  have hx:=hg _ _ hm
  simp only [evK] at he
  split at he
  ·rename_i i p t hgx
   rw [hgx] at hx
   simp only [Option.some.injEq] at he
   subst he
   obtain ⟨pl,o,hb,hf,hxe⟩:=LR_ptr hx
   refine ⟨.value (ρ x),_,w,by simp [execOp,hxe],rfl,hx,rfl⟩
  ·simp at he

 ·rename_i T x i st i' ft x'
  simp only [Bool.and_eq_true,beq_iff_eq] at hm
  obtain ⟨⟨h1,rfl⟩,h2⟩:=hm
  have hx:=hg _ _ h2
  simp only [evK] at he
  split at he
  ·rename_i j p t hgx
   rw [hgx] at hx
   split at he
   ·rename_i hc
    obtain ⟨rfl,hf⟩:=hc
    simp only [Option.some.injEq] at he
    subst he
    obtain ⟨y,hy,hvy⟩:=run_fld (w:=w) h1 hf hx
    exact ⟨.value y,y,w,by simp [execOp,Sem.run_bind,hy],rfl,hvy,rfl⟩
   ·simp at he
  ·simp at he

 ·rename_i T x i n t x' i'
  simp only [Bool.and_eq_true] at hm
  have hx:=hg _ _ hm.1.2
  have hi:=hg _ _ hm.2
  simp only [evK] at he
  split at he
  ·rename_i j p t' z hgx hz
   rw [hgx] at hx
   split at he
   ·rename_i hc
    obtain ⟨rfl,h0,h1⟩:=hc
    simp only [Option.some.injEq] at he
    subst he
    obtain ⟨y,hy,hvy⟩:=run_idx (w:=w) hm.1.1 hx hi hz h0 h1
    exact ⟨.value y,y,w,by simp [execOp,Sem.run_bind,hy],rfl,hvy,rfl⟩
   ·simp at he
  ·simp at he

 ·rename_i T x i ro t x' i'
  simp only [Bool.and_eq_true] at hm
  have hx:=hg _ _ hm.1.2
  have hi:=hg _ _ hm.2
  have hs:=hm.1.1
  unfold sliceOf at hs
  cases hu : P.underlying T with
  | none=>simp [hu] at hs
  | some d =>
   cases d <;> simp [hu] at hs
   simp only [evK] at he
   split at he
   ·rename_i j off len z hgx hz
    rw [hgx] at hx
    split at he
    ·rename_i hc
     cases hlk : look j with
     | none=>simp [hlk] at he
     | some b =>
      obtain ⟨bty,bval⟩:=b
      simp only [hlk] at he
      cases bty <;> simp at he
      obtain ⟨rfl,rfl⟩:=he
      obtain ⟨y,hy,hvy⟩:=run_sidx hR hu hs hx hi hz hlk rfl hc.1 hc.2.1
      exact ⟨.value y,y,w,by simp [execOp,Sem.run_bind,hy],rfl,hvy,rfl⟩
    ·simp at he
   ·simp at he

 ·rename_i T x i n t x' i'
  simp only [Bool.and_eq_true] at hm
  have hx:=hg _ _ hm.1.2
  have hi:=hg _ _ hm.2
  simp only [evK] at he
  split at he
  ·rename_i m f z hgx hz
   rw [hgx] at hx
   split at he
   ·rename_i hc
    split at he
    ·rename_i hf
     simp only [Option.some.injEq] at he
     subst he
     have hnm : n = m:=by simp [Ty.fits] at hf; exact hf.1
     subst hnm
     obtain ⟨y,hy,hvy⟩:=run_aidx (w:=w) hm.1.1 hf hx hi hz hc.1 hc.2
     exact ⟨.value y,y,w,by simp [execOp,Sem.run_bind,hy],rfl,hvy,rfl⟩
    ·simp at he
   ·simp at he
  ·simp at he

 ·rename_i T x i x' i'
  simp only [Bool.and_eq_true] at hm
  have hx:=hg _ _ hm.1.2
  have hi:=hg _ _ hm.2
  cases hu : P.underlying T with
  | none=>simp [hu] at hm
  | some d =>
   cases d <;> simp [hu] at hm
   simp only [evK] at he
   split at he
   ·rename_i b z hgx hz
    rw [hgx] at hx
    obtain ⟨k,hk⟩:=toIx_int hz hi
    split at he
    ·rename_i h0
     simp only [Option.map_eq_some_iff] at he
     obtain ⟨c,hc,rfl⟩:=he
     refine ⟨.value (.int .u8 c.toNat),_,w,?_,rfl,VR_int,rfl⟩
     simp [execOp,Sem.run_bind,Instr.index,hk,asIntOf,run_underlying hu w,LR_str hx,h0,hc]
    ·simp at he
   ·simp at he

 ·rename_i T x i t x' i'
  simp only [Bool.and_eq_true,beq_iff_eq] at hm
  obtain ⟨⟨h1,rfl⟩,h2⟩:=hm
  have hx:=hg _ _ h2
  simp only [evK] at he
  split at he
  ·rename_i hf
   simp only [Option.map_eq_some_iff] at he
   obtain ⟨v,hv,rfl⟩:=he
   obtain ⟨y,hy,hvy⟩:=run_field (w:=w) h1 hf hx hv
   exact ⟨.value y,y,w,by simp [execOp,Sem.run_bind,hy],rfl,hvy,rfl⟩
  ·simp at he

 ·rename_i x i x' i'
  simp only [Bool.and_eq_true,beq_iff_eq] at hm
  obtain ⟨rfl,h2⟩:=hm
  have hx:=hg _ _ h2
  simp only [evK] at he
  split at he
  ·rename_i v hgx
   rw [hgx] at hx
   cases hu : v.field i with
   | none=>simp [hu] at he
   | some u =>
    simp only [hu] at he
    split at he
    ·simp only [Option.some.injEq] at he
     subst he
     obtain ⟨xs,hxe,hT⟩:=hx
     obtain ⟨y,hy,hvy⟩:=tup_field hT hu
     refine ⟨.value y,y,w,?_,rfl,hvy,rfl⟩
     simp [execOp,Sem.run_bind,hxe,Instr.extract,hy]
    ·simp at he
  ·simp at he

 ·rename_i s d x k x'
  simp only [Bool.and_eq_true] at hm
  have hx:=hg _ _ hm.2
  cases hs : P.underlying s with
  | none=>simp [hs] at hm
  | some sd =>
   cases sd <;> simp [hs] at hm
   cases hd : P.underlying d with
   | none=>simp [hd] at hm
   | some dd =>
    cases dd <;> simp [hd] at hm
    obtain ⟨rfl,hm⟩:=hm
    simp only [evK] at he
    split at he
    ·rename_i k' n hgx
     rw [hgx] at hx
     simp only [Option.some.injEq] at he
     subst he
     refine ⟨.value _,_,w,by simp [execOp,Sem.run_bind,convert,run_underlying hs w,run_underlying hd w,LR_int hx,Conv.intToInt],rfl,VR_int,rfl⟩
    ·simp at he

 ·rename_i args tys str x'
  split at hm
  ·rename_i x T ha ht
   simp only [Bool.and_eq_true] at hm
   have hx:=hg _ _ hm.1
   obtain rfl : args = #[x]:=by apply Array.toList_inj.1; simpa using ha
   obtain rfl : tys = #[T]:=by apply Array.toList_inj.1; simpa using ht
   have run : ∀ {v : Value} {n : Nat},ρ x = v → (∃ s,v = .string s ∧ s.size = n ∧ P.underlying T = some .string) ∨ (∃ a c e,v = .slice a n c ∧ P.underlying T = some (.slice e)) →
     (execOp ρ ⟨dst,.call ⟨.builtin .len,#[x],#[T]⟩,ty,pos,after,guard⟩).run P w = .ok (.value (.int .i64 n)) w:=by
    rintro v n hv (⟨s,rfl,rfl,hu⟩ | ⟨a,c,e,rfl,hu⟩)
    ·simp [execOp,Sem.run_bind,resolve,invoke,builtin,Builtin.len_,run_underlying hu w,hv,goInt]
    ·simp [execOp,Sem.run_bind,resolve,invoke,builtin,Builtin.len_,run_underlying hu w,hv,goInt]
   simp only [evK] at he
   split at he
   ·rename_i b hgx
    rw [hgx] at hx
    simp only [Option.some.injEq] at he
    subst he
    exact ⟨.value _,_,w,run (LR_str hx) (.inl ⟨b,rfl,rfl,lenTy_str hm.2⟩),rfl,VR_int,rfl⟩
   all_goals (try (simp at he; done))
   all_goals simp only [Option.some.injEq] at he
   all_goals subst he
   all_goals obtain ⟨e,hu⟩:=lenTy_slice hm.2
   ·rename_i hgx
    rw [hgx] at hx
    have hx : ρ x = .slice none 0 0:=by simpa [VR,VR1,AV.isAgg,LR,AV.rel] using hx
    exact ⟨.value _,_,w,run hx (.inr ⟨_,_,e,rfl,hu⟩),rfl,VR_int,rfl⟩
   ·rename_i j off n hgx
    rw [hgx] at hx
    obtain ⟨_,_,_,_,_,_,_,_,_,hx⟩:=LR_sl hx
    exact ⟨.value _,_,w,run hx (.inr ⟨_,_,e,rfl,hu⟩),rfl,VR_int,rfl⟩
   ·rename_i hgx
    rw [hgx] at hx
    obtain ⟨a,c,hx⟩ : ∃ a cap,ρ x = .slice (some a) 0 cap:=by simpa [VR,VR1,AV.isAgg,LR,AV.rel] using hx
    exact ⟨.value _,_,w,run hx (.inr ⟨_,_,e,rfl,hu⟩),rfl,VR_int,rfl⟩
  ·simp at hm

 ·rename_i args tys x' y'
  cases ha : args.toList with
  | nil=>simp [ha,opdsOk] at hm
  | cons x l =>
   cases l with
   | nil=>simp [ha,opdsOk] at hm
   | cons y l =>
    cases l with
    | cons=>simp [ha,opdsOk] at hm
    | nil =>
     simp [ha,opdsOk] at hm
     obtain rfl : args = #[x,y]:=by apply Array.toList_inj.1; simpa using ha
     have hx:=hg _ _ hm.1
     have hy:=hg _ _ hm.2
     simp only [evK] at he
     split at he
     ·rename_i k a k' b hgx hgy
      rw [hgx] at hx
      rw [hgy] at hy
      split at he
      ·rename_i hk
       subst hk
       simp only [Option.some.injEq] at he
       subst he
       refine ⟨.value _,_,w,by simp [execOp,Sem.run_bind,resolve,invoke,builtin,Builtin.min_,LR_int hx,LR_int hy,Builtin.min2],rfl,VR_int,rfl⟩
      ·simp at he
     ·simp at he

 ·rename_i args tys x' y'
  cases ha : args.toList with
  | nil=>simp [ha,opdsOk] at hm
  | cons x l =>
   cases l with
   | nil=>simp [ha,opdsOk] at hm
   | cons y l =>
    cases l with
    | cons=>simp [ha,opdsOk] at hm
    | nil =>
     simp [ha,opdsOk] at hm
     obtain rfl : args = #[x,y]:=by apply Array.toList_inj.1; simpa using ha
     have hx:=hg _ _ hm.1
     have hy:=hg _ _ hm.2
     simp only [evK] at he
     split at he
     ·rename_i k a k' b hgx hgy
      rw [hgx] at hx
      rw [hgy] at hy
      split at he
      ·rename_i hk
       subst hk
       simp only [Option.some.injEq] at he
       subst he
       refine ⟨.value _,_,w,by simp [execOp,Sem.run_bind,resolve,invoke,builtin,Builtin.max_,LR_int hx,LR_int hy,Builtin.max2],rfl,VR_int,rfl⟩
      ·simp at he
     ·simp at he

 ·rename_i T n ps esc t n' ps'
  simp only [Bool.and_eq_true,beq_iff_eq,decide_eq_true_eq] at hm
  obtain ⟨⟨⟨rfl,h1⟩,h2⟩,h3⟩:=hm
  simp only [evK,Option.map_eq_some_iff] at he
  obtain ⟨v,hv,rfl⟩:=he
  unfold sliceOf at h1
  cases hu : P.underlying T with
  | none=>simp [hu] at h1
  | some d =>
   cases d <;> simp [hu] at h1
   rename_i el
   obtain ⟨cs,hr,hc,hf⟩:=run_bslice (φ:=φ) (β:=β) (w:=w) hu h1 h2.1 h2.2 (parts_rel hg h3) hv
   have e2 : (ps.map fun x=>match x with | (i,x)=>(i,ρ x)) = (ps.toList.map fun p=>(p.1,ρ p.2)).toArray:=by apply Array.toList_inj.1; rw [Array.toList_map]
   have hsz : n * t.size ≤ cs.size:=by
    have:=hc.1
    rw [Ty.fits_length hf] at this
    simp only [Ty.size,Array.length_toList] at this
    omega
   refine ⟨.value _,_,w.alloc (.cells cs el),?_,rfl,⟨w.heap.size,0,.arr n t,cs.size⟩,laid_alloc (b:=⟨.arr n t,v⟩) hf hc,rfl,rfl,⟨t,n,rfl,Nat.le_refl _,hsz,rfl⟩,by simp,alloc_same _ _⟩
   simp only [execOp]
   rw [Sem.run_bind,e2,hr]
   rfl

 ·rename_i args tys esc ap t x' y'
  split at hm
  ·rename_i x y S Y hargs htys
   simp only [Bool.and_eq_true] at hm
   obtain ⟨⟨⟨⟨h1,h2⟩,h3⟩,h4⟩,h5⟩:=hm
   obtain rfl : args = #[x,y]:=Array.toList_inj.1 hargs
   obtain rfl : tys = #[S,Y]:=Array.toList_inj.1 htys
   simp only [evK] at he
   split at he
   ·rename_i add hadd
    split at he
    rotate_left
    ·simp at he
    rename_i e0 he0
    split at he
    rotate_left
    ·simp at he
    simp only [Option.some.injEq] at he
    subst he
    have he:=he0
    clear he0
    obtain ⟨e',huY⟩:=lenTy_slice h4
    unfold sliceOf at h3
    unfold smallElem at h5
    cases hu : P.underlying S with
    | none=>simp [hu] at h3
    | some d =>
     cases d <;> simp [hu] at h3
     rename_i el
     simp only [hu] at h5
     cases hi : P.info? el with
     | none=>simp [hi] at h5
     | some i =>
      simp only [hi,decide_eq_true_eq] at h5
      obtain ⟨v,w',hrun,hok⟩:=run_append_sound (ty:=ty) hR hu h3 hi h5 huY (hg _ _ h1) (hg _ _ h2) hadd he hl
      refine ⟨.value v,v,w',?_,rfl,hok⟩
      simp [execOp,Sem.run_bind,resolve,invoke,builtin,hrun]
   ·simp at he
  ·simp at hm

 ·rename_i F first caps f caps'
  simp only [Bool.and_eq_true,beq_iff_eq] at hm
  simp only [evK] at he
  split at he
  ·rename_i hl'
   simp only [Option.some.injEq] at he
   subst he
   simp only [List.all_eq_true] at hl'
   have hc:=caps_rel hg hm.2 hl'
   have hfi : first = #[]:=by simpa using hm.1.2
   subst hfi
   have hca : caps.map ρ = (caps.toList.map ρ).toArray:=by apply Array.toList_inj.1; rw [Array.toList_map]
   refine ⟨.value (.func (.func F) #[] (caps.toList.map ρ).toArray),_,w,by simp only [execOp,Sem.run_bind,Instr.makeFunc,hca,Array.map_empty,Sem.run_pure,Result.andThen_ok],rfl,?_,rfl⟩
   exact VR_of_VR1 (by simp only [VR1,AV.isAgg,Bool.false_eq_true,if_false]; exact ⟨F,_,hm.1.1,hc,rfl⟩)
  ·simp at he

 ·rename_i T x lo hi mx rt t x' lo' hi' mx'
  simp only [Bool.and_eq_true] at hm
  obtain ⟨⟨⟨⟨⟨h1,h2⟩,h3⟩,h4⟩,h5⟩,h6⟩:=hm
  have hx:=hg _ _ h2
  have h1':=h1
  unfold sliceOf at h1
  cases hu : P.underlying T with
  | none=>simp [hu] at h1
  | some d =>
   cases d <;> simp [hu] at h1
   rename_i el
   obtain ⟨ti,hti,_⟩:=tyOk_size h1
   have hex : ∀ {v : Value},(Instr.sliceAt T (ρ x) (lo.map ρ) (hi.map ρ) (mx.map ρ)).run P w = .ok v w → (execOp ρ ⟨dst,.slice T x lo hi mx,ty,pos,after,guard⟩).run P w = .ok (.value v) w:=by
    intro v hv
    simp only [execOp]
    rw [Sem.run_bind,hv]
    rfl
   simp only [evK] at he
   split at he
   ·rename_i j off len hgx
    rw [hgx] at hx
    split at he
    ·rename_i a b hla hlb
     split at he
     ·rename_i hrt
      have hlo : (lo.map ρ = none ∧ a = 0) ∨ ∃ k,lo.map ρ = some (.int k a):=by
       rcases opt_rel hg h3 with ⟨rfl,rfl⟩ | ⟨p,q,rfl,rfl,hpq⟩
       ·simp [ixOr] at hla; exact .inl ⟨rfl,hla.symm⟩
       ·obtain ⟨k,hk⟩:=toIx_int hla hpq
        exact .inr ⟨k,by simp [hk]⟩
      have hmx : (mx.map ρ = none ∧ (mx'.map fun o=>toIx (g o)) = none) ∨ ∃ k z,mx.map ρ = some (.int k z) ∧ (mx'.map fun o=>toIx (g o)) = some (some z):=by
       rcases opt_rel hg h5 with ⟨rfl,rfl⟩ | ⟨p,q,rfl,rfl,hpq⟩
       ·exact .inl ⟨rfl,rfl⟩
       ·cases hz : toIx (g q) with
        | none =>
         exfalso
         simp only [Option.map_some,hz,evSlice_none] at he
         exact absurd he (by simp)
        | some z =>
         obtain ⟨k,hk⟩:=toIx_int hz hpq
         exact .inr ⟨k,z,by simp [hk],by simp [hz]⟩
      have hhi : (hi.map ρ = none ∧ b = len ∧ mx.map ρ = none) ∨ ∃ k,hi.map ρ = some (.int k b):=by
       rcases opt_rel hg h4 with ⟨rfl,rfl⟩ | ⟨p,q,rfl,rfl,hpq⟩
       ·simp [ixOr] at hlb
        have : mx' = none:=by simpa using h6
        subst this
        have : mx = none:=by
         cases mx with
         | none=>rfl
         | some _=>simp [optOk] at h5
        subst this
        exact .inl ⟨rfl,hlb.symm,rfl⟩
       ·obtain ⟨k,hk⟩:=toIx_int hlb hpq
        exact .inr ⟨k,by simp [hk]⟩
      obtain ⟨v,u,hv,rfl,hvu⟩:=run_slice_sl hR hu h1 hx hlo hhi hmx he
      exact ⟨.value v,v,w,hex hv,rfl,hvu,rfl⟩
     ·simp at he
    ·simp at he
   all_goals try (simp at he; done)
   all_goals
    rename_i hgx
    rw [hgx] at hx
    split at he <;> try (simp at he; done)
    rename_i mxv hla hlb
    split at he <;> try (simp at he; done)
    simp only [Option.some.injEq] at he
    subst he
    have hlo : lo.map ρ = none ∨ ∃ k,lo.map ρ = some (.int k 0):=by
     rcases opt_rel hg h3 with ⟨rfl,rfl⟩ | ⟨p,q,rfl,rfl,hpq⟩
     ·exact .inl rfl
     ·obtain ⟨k,hk⟩:=toIx_int hla hpq
      exact .inr ⟨k,by simp [hk]⟩
    have hhi : hi.map ρ = none ∨ ∃ k,hi.map ρ = some (.int k 0):=by
     rcases opt_rel hg h4 with ⟨rfl,rfl⟩ | ⟨p,q,rfl,rfl,hpq⟩
     ·exact .inl rfl
     ·obtain ⟨k,hk⟩:=toIx_int hlb hpq
      exact .inr ⟨k,by simp [hk]⟩
    have hmx : mx.map ρ = none:=by
     have : mx = none:=by
         cases mx with
         | none=>rfl
         | some _=>simp [optOk] at h5
     rw [this]; rfl
   ·have hxe : ρ x = .slice none 0 0:=by simpa [VR,VR1,AV.isAgg,LR,AV.rel] using hx
    obtain ⟨y,hy,hy1,_⟩:=run_slice_nil (P:=P) (w:=w) (x:=none) (cap:=0) hu hti hlo hhi
    rw [← hxe] at hy
    obtain rfl:=hy1 rfl
    exact ⟨.value _,_,w,hex (by rw [hmx]; exact hy),rfl,VR_of_VR1 (by simp [VR1,AV.isAgg,LR,AV.rel]),rfl⟩
   ·obtain ⟨a,cap,hxe⟩ : ∃ a cap,ρ x = .slice (some a) 0 cap:=by simpa [VR,VR1,AV.isAgg,LR,AV.rel] using hx
    obtain ⟨y,hy,_,hy2⟩:=run_slice_nil (P:=P) (w:=w) (x:=some a) (cap:=cap) hu hti hlo hhi
    rw [← hxe] at hy
    obtain ⟨b,rfl⟩:=hy2 a rfl
    exact ⟨.value _,_,w,hex (by rw [hmx]; exact hy),rfl,VR_of_VR1 (by simp [VR1,AV.isAgg,LR,AV.rel]),rfl⟩

 ·rename_i args tys t x'
  split at hm
  ·rename_i x T hargs htys
   simp only [Bool.and_eq_true] at hm
   obtain ⟨h1,h2⟩:=hm
   obtain rfl : args = #[x]:=Array.toList_inj.1 hargs
   obtain rfl : tys = #[T]:=Array.toList_inj.1 htys
   simp only [evK] at he
   unfold sliceOf at h2
   cases hu : P.underlying T with
   | none=>simp [hu] at h2
   | some d =>
    cases d <;> simp [hu] at h2
    obtain ⟨v,w',hrun,hok⟩:=run_clear_sound (ty:=ty) hR hu h2 (hg _ _ h1) he hl
    refine ⟨.value v,v,w',?_,rfl,hok⟩
    simp [execOp,Sem.run_bind,resolve,invoke,builtin,hrun]
  ·simp at hm

 ·rename_i op T x y yt neg x' y'
  simp only [Bool.and_eq_true,beq_iff_eq] at hm
  obtain ⟨⟨⟨rfl,h1⟩,h2⟩,h3⟩:=hm
  simp only [evK,Option.map_eq_some_iff] at he
  obtain ⟨r,hr,rfl⟩:=he
  have:=run_eqp (P:=P) (w:=w) (neg:=neg) (x:=x) (y:=y) hR h3 (hg _ _ h1) (hg _ _ h2) hr
  refine ⟨.value (.bool (if neg then !r else r)),_,w,?_,rfl,VR_bool,rfl⟩
  simp only [execOp]
  rw [Sem.run_bind,this]
  rfl

 ·rename_i T x lo hi x' lo' hi'
  simp only [Bool.and_eq_true] at hm
  obtain ⟨⟨⟨h0,h1⟩,h2⟩,h3⟩:=hm
  have hu : P.underlying T = some .string:=by
   split at h0
   ·assumption
   ·simp at h0
  have hx:=hg _ _ h1
  simp only [evK] at he
  split at he
  ·rename_i b hgx
   rw [hgx] at hx
   simp only [Option.map_eq_some_iff] at he
   obtain ⟨v,hv,rfl⟩:=he
   unfold evStrsl at hv
   split at hv
   ·rename_i a c hla hlc
    split at hv
    ·rename_i hc
     simp only [Option.some.injEq] at hv
     subst hv
     have hlo : (lo.map ρ = none ∧ a = 0) ∨ ∃ k,lo.map ρ = some (.int k a):=by
      rcases opt_rel hg h2 with ⟨rfl,rfl⟩ | ⟨p,q,rfl,rfl,hpq⟩
      ·simp [ixOr] at hla; exact .inl ⟨rfl,hla.symm⟩
      ·obtain ⟨k,hk⟩:=toIx_int hla hpq
       exact .inr ⟨k,by simp [hk]⟩
     have hhi : (hi.map ρ = none ∧ c = b.size) ∨ ∃ k,hi.map ρ = some (.int k c):=by
      rcases opt_rel hg h3 with ⟨rfl,rfl⟩ | ⟨p,q,rfl,rfl,hpq⟩
      ·simp [ixOr] at hlc; exact .inl ⟨rfl,hlc.symm⟩
      ·obtain ⟨k,hk⟩:=toIx_int hlc hpq
       exact .inr ⟨k,by simp [hk]⟩
     have hrun:=run_strsl (P:=P) (w:=w) hu hlo hhi hc.1 hc.2.1 hc.2.2
     refine ⟨.value _,_,w,?_,rfl,VR_str,rfl⟩
     simp only [execOp,Option.map_none]
     rw [Sem.run_bind,LR_str hx,hrun]
     rfl
    ·simp at hv
   ·simp at hv
  ·simp at he

 ·rename_i src dd x x'
  simp only [Bool.and_eq_true] at hm
  obtain ⟨⟨h1,h2⟩,h3⟩:=hm
  have hud : P.underlying dd = some .string:=by
   split at h2
   ·assumption
   ·simp at h2
  have hx:=hg _ _ h3
  simp only [evK] at he
  split at he
  rotate_left
  ·simp at he
  rename_i l hel
  simp only [Option.map_eq_some_iff] at he
  obtain ⟨bs,hbs,rfl⟩:=he
  unfold sliceOf at h1
  cases hu : P.underlying src with
  | none=>simp [hu] at h1
  | some d =>
   cases d <;> simp [hu] at h1
   rename_i el
   have hue : P.underlying el = some (.int .u8):=by
    simp only [tyOk,Bool.and_eq_true] at h1
    have h4:=h1.1
    cases hq : P.underlying el with
    | none=>simp [hq] at h4
    | some q=>cases q <;> simp [hq,LK.desc] at h4 <;> simp [h4]
   obtain ⟨news,hsrc,hall,_⟩:=elems_src hR hu hx hel
   obtain ⟨ns,rfl,rfl⟩:=bytes_all2 hbs hall
   have hrun : (Conv.bytesToString (ρ x)).run P w = .ok (.string ⟨(ns.map fun n=>UInt8.ofNat n.toNat).toArray⟩) w:=by
    have hc:=hsrc.cells
    have hln:=hsrc.newsLen
    have hlen:=hsrc.len w
    obtain ⟨a,n,c,e⟩:=elems_slice hx hel
    rw [e] at hc hlen ⊢
    cases a with
    | none =>
     have : ns = []:=by
      simp [Builtin.firstCells,Sem.run_pure] at hc
      exact hc
     subst this
     rfl
    | some a =>
     have hn : n = l.length:=by
      simp [Builtin.lenOf,Sem.run_pure] at hlen
      exact hlen
     have hc' : (loadCells a n).run P w = .ok (ns.map (Value.int .u8)).toArray w:=by
      rw [hn]
      simpa [Builtin.firstCells,Ty.size] using hc
     rw [Go.run_bytesToString w a n c ns hc',foldl_push]
     simp
   obtain ⟨a,n,c,e⟩:=elems_slice hx hel
   refine ⟨.value _,_,w,?_,rfl,VR_str,rfl⟩
   simp only [execOp]
   rw [Sem.run_bind,e,run_convert_bytes_string w _ _ _ _ _ _ hu hue hud,← e,hrun]
   rfl

 ·rename_i op T x c T' neg x' y'
  simp only [Bool.and_eq_true,beq_iff_eq] at hm
  obtain ⟨⟨⟨rfl,h1⟩,h3⟩,h2⟩:=hm
  have hx:=hg _ _ h1
  have hy:=hg _ _ h3
  simp only [evK] at he
  split at he
  ·rename_i b hgx hgy
   rw [hgx] at hx
   rw [hgy] at hy
   have hc : ρ (.const c) = .nilIface:=by
    have : LR φ β (.iface false) (ρ (.const c)):=hy
    rcases this with ⟨_,h⟩ | ⟨h,_⟩
    ·exact h
    ·simp at h
   simp only [Option.some.injEq] at he
   subst he
   split at h2
   ·rename_i d hu
    refine ⟨.value _,_,w,?_,rfl,VR_bool,rfl⟩
    have hr:=run_eqif (P:=P) (w:=w) (neg:=neg) (x:=x) (c:=c) hu hx
    simp only [execOp]
    rw [Sem.run_bind,hc,hr]
    rfl
   ·simp at h2
  ·simp at he

 ·rename_i args tys x' y'
  split at hm
  ·rename_i x y S Y hargs htys
   simp only [Bool.and_eq_true] at hm
   obtain ⟨⟨⟨⟨h1,h2⟩,h3⟩,h4⟩,h5⟩:=hm
   obtain rfl : args = #[x,y]:=Array.toList_inj.1 hargs
   obtain rfl : tys = #[S,Y]:=Array.toList_inj.1 htys
   have huY : P.underlying Y = some .string:=by
    split at h4
    ·assumption
    ·simp at h4
   have hy:=hg _ _ h2
   simp only [evK] at he
   split at he
   ·rename_i b hgy
    rw [hgy] at hy
    unfold sliceOf at h3
    unfold smallElem at h5
    cases hu : P.underlying S with
    | none=>simp [hu] at h3
    | some d =>
     cases d <;> simp [hu] at h3
     rename_i el
     simp only [hu] at h5
     cases hi : P.info? el with
     | none=>simp [hi] at h5
     | some i =>
      simp only [hi,decide_eq_true_eq] at h5
      obtain ⟨v,w',hrun,hok⟩:=run_appstr_sound (ty:=ty) hR hu h3 hi h5 huY (hg _ _ h1) he hl
      refine ⟨.value v,v,w',?_,rfl,hok⟩
      simp [execOp,Sem.run_bind,resolve,invoke,builtin,LR_str hy,hrun]
   ·simp at he
  ·simp at hm

 ·simp [evK] at he
 ·simp at hm
end
open Go.RowKit
def Id.under : Id → Nat → Nat → Prop
 | .stk l _,m,_=>l < m
 | .obj k,_,n=>k < n
 | .arg _,_,_=>True
section looks
variable {cx : Cx} {s s' : St} {i j : Id} {b : Blk} {d : Nat}
theorem own_some {i : Id} {l t : Nat} (h : i.own l = some t) : i = .stk l t:=by
 cases i <;> simp [Id.own] at h
 obtain ⟨rfl,rfl⟩:=h
 rfl
theorem own_none {i : Id} {l : Nat} (h : i.own l = none) (t : Nat) : i ≠ .stk l t:=by
 rintro rfl
 simp [Id.own] at h
theorem look_stk : s.look cx (.stk cx.lvl d) = s.own.get d:=by simp [St.look,Id.own]
theorem look_fresh_stk : (s.fresh cx false d b).2.look cx i = if i = .stk cx.lvl d then some b else s.look cx i:=by
 simp only [St.fresh,Bool.false_eq_true,if_false,St.look]
 cases ho : i.own cx.lvl with
 | none =>
  have:=own_none ho d
  simp [this]
 | some t =>
  have:=own_some ho
  subst this
  simp only [Own.get_set]
  by_cases h : d = t
  ·subst h; simp
  ·rw [if_neg h,if_neg (by simp; exact fun e=>h e.symm)]
theorem look_fresh_obj : (s.fresh cx true d b).2.look cx i = if i = .obj s.hp.next then some b else s.look cx i:=by
 simp only [St.fresh,if_true,St.look]
 cases ho : i.own cx.lvl with
 | none =>
  cases i with
  | stk l t=>simp [HP.look]
  | obj n=>simp only [HP.look]; by_cases h : n = s.hp.next <;> simp [h]
  | arg n=>simp [HP.look]
 | some t =>
  have:=own_some ho
  subst this
  simp
theorem look_write (h : s.write cx i b = some s') : i.isArg = false ∧ s'.sl = s.sl ∧ s'.hp.next = s.hp.next ∧ (∀ j,s'.look cx j = if j = i then some b else s.look cx j) ∧ (∀ l t,i = .stk l t → l ≠ cx.lvl → (∀ l',l' ≠ l → s'.hp.stk l' = s.hp.stk l')) ∧ ((∀ l t,i ≠ .stk l t ∨ l = cx.lvl) → s'.hp.stk = s.hp.stk):=by
 unfold St.write at h
 cases ho : i.own cx.lvl with
 | some t =>
  have:=own_some ho
  subst this
  simp [ho] at h
  subst h
  refine ⟨rfl,rfl,rfl,fun j=>?_,fun l t' e hl=>by simp at e; exact absurd e.1.symm hl,fun _=>rfl⟩
  simp only [St.look]
  cases hj : j.own cx.lvl with
  | none =>
   have:=own_none hj t
   simp [this]
  | some u =>
   have:=own_some hj
   subst this
   simp only [Own.get_set]
   by_cases h : t = u
   ·subst h; simp
   ·rw [if_neg h,if_neg (by simp; exact fun e=>h e.symm)]
 | none =>
  simp only [ho] at h
  split at h
  ·rename_i hl
   simp at h
   subst h
   cases i with
   | stk l t =>
    have hne : l ≠ cx.lvl:=fun e=>by subst e; simp [Id.own] at ho
    refine ⟨rfl,rfl,rfl,fun j=>?_,fun l' t' e _ l'' h=>by simp at e; obtain ⟨rfl,rfl⟩:=e; simp [HP.set,h],fun h=>by simpa [hne] using h l t⟩
    simp only [St.look]
    cases hj : j.own cx.lvl with
    | some u =>
     have:=own_some hj
     subst this
     simp [Ne.symm hne]
    | none =>
     cases j with
     | stk l' t' =>
      simp only [HP.look,HP.set]
      by_cases h1 : l' = l
      ·subst h1
       simp only [if_true,Own.get_set]
       by_cases h2 : t = t'
       ·subst h2; simp
       ·rw [if_neg h2,if_neg (by simp; exact fun e=>h2 e.symm)]
      ·simp [h1]
     | obj n=>simp [HP.look,HP.set]
     | arg n=>simp [HP.look,HP.set]
   | obj n =>
    refine ⟨rfl,rfl,rfl,fun j=>?_,fun l' t' e=>by simp at e,fun _=>rfl⟩
    simp only [St.look]
    cases hj : j.own cx.lvl with
    | some u =>
     have:=own_some hj
     subst this
     simp
    | none =>
     cases j with
     | stk l' t'=>simp [HP.look,HP.set]
     | obj n'=>simp only [HP.look,HP.set]; by_cases h : n' = n <;> simp [h]
     | arg n=>simp [HP.look,HP.set]
   | arg n=>simp [Prot.lets] at hl
  ·simp at h
theorem look_drop (h : s.drop cx i = some s') : i.isArg = false ∧ s'.sl = s.sl ∧ s'.hp.next = s.hp.next ∧ s'.hp.stk = s.hp.stk ∧ ∀ j,s'.look cx j = if j = i then none else s.look cx j:=by
 unfold St.drop at h
 cases ho : i.own cx.lvl with
 | some t =>
  have:=own_some ho
  subst this
  simp [ho] at h
  subst h
  refine ⟨rfl,rfl,rfl,rfl,fun j=>?_⟩
  simp only [St.look]
  cases hj : j.own cx.lvl with
  | none =>
   have:=own_none hj t
   simp [this]
  | some u =>
   have:=own_some hj
   subst this
   simp only [Own.get_rid]
   by_cases h : t = u
   ·subst h; simp
   ·rw [if_neg h,if_neg (by simp; exact fun e=>h e.symm)]
 | none =>
  simp only [ho] at h
  cases i with
  | stk l t=>simp at h
  | arg n=>simp at h
  | obj n =>
   simp only at h
   split at h
   ·simp at h
    subst h
    refine ⟨rfl,rfl,rfl,rfl,fun j=>?_⟩
    simp only [St.look]
    cases hj : j.own cx.lvl with
    | some u =>
     have:=own_some hj
     subst this
     simp
    | none =>
     cases j with
     | stk l' t'=>simp [HP.look]
     | obj n'=>simp only [HP.look]; by_cases h : n' = n <;> simp [h]
     | arg n=>simp [HP.look]
   ·simp at h
end looks
class Fix where
 w0 : World
 gb : Nat → Prop
def Fix.I [X : Fix] (O : Nat → Prop) (w : World) : Prop:=∀ r,X.gb r → ¬O r ∧ r < w.heap.size ∧ w.heap[r]? = X.w0.heap[r]?
theorem Fix.I.step [X : Fix] {O : Nat → Prop} {w w' : World} (h : Fix.I O w) (s : SameBut w w' O) : Fix.I O w':=fun r hr =>
 ⟨(h r hr).1,Nat.lt_of_lt_of_le (h r hr).2.1 s.size,(s.block r (h r hr).2.1 (h r hr).1).trans (h r hr).2.2⟩
theorem Fix.I.mono [X : Fix] {O O' : Nat → Prop} {w : World} (h : Fix.I O w) (ho : ∀ r,O' r → O r) : Fix.I O' w:=fun r hr =>
 ⟨fun e=>(h r hr).1 (ho r e),(h r hr).2⟩
structure Rel [Fix] (φ : Nat → Option FuncId) (β : Beta) (O : Nat → Prop) (nt : Nat) (cx : Cx) (s : St) (a : Act) (w : World) : Prop where
 slots : SR φ β s.sl a.tmps
 mem : HR φ β O (s.look cx) w
 dom : ∀ i pl,β i = some pl → i.under (cx.lvl + 1) s.hp.next
 top : ∀ l,cx.lvl ≤ l → s.hp.stk l = []
 fresh : ∀ r,w.heap.size ≤ r → O r
 defers : a.defers = []
 size : a.tmps.size = nt
 inv : Fix.I O w
section
variable [Fix] {φ : Nat → Option FuncId} {β : Beta} {O : Nat → Prop} {w w' : World} {look look' : Id → Option Blk} {nt : Nat} {cx : Cx} {s s' : St} {a : Act}
theorem HR_mono (h : HR φ β O look w) (hl : ∀ i b,look' i = some b → look i = some b) : HR φ β O look' w :=
 ⟨fun i b hb=>h.live i b (hl i b hb),fun i j bi bj pi pj hi hj=>h.apart i j bi bj pi pj (hl i bi hi) (hl j bj hj)⟩
theorem SR_put (h : SR φ β s.sl a.tmps) {d : Nat} {v : AV} {x : Value} (hd : d < a.tmps.size) (hv : VR φ β v x) : SR φ β (Slots.set s.sl d v) (a.put (some d) x).tmps:=by
 intro t
 rw [Slots.get_set]
 simp only [Act.put]
 by_cases ht : d = t
 ·subst ht
  simp [Array.getD,hd,hv]
 ·rw [if_neg ht]
  have:=h t
  simpa [Array.getD_eq_getD_getElem?,Array.getElem?_setIfInBounds,ht] using this
theorem Rel_setd (h : Rel φ β O nt cx s a w) {d : Option Nat} {v : AV} {x : Value} (hd : ∀ t,d = some t → t < nt) (hv : VR φ β v x) : Rel φ β O nt cx (s.setd d v) (a.put d x) w:=by
 cases d with
 | none=>exact h
 | some t=>exact ⟨SR_put h.slots (by rw [h.size]; exact hd t rfl) hv,h.mem,h.dom,h.top,h.fresh,h.defers,by simp [Act.put,h.size],h.inv⟩
def upd (β : Beta) (i : Id) (pl : Place) : Beta:=fun j=>if j = i then some pl else β j
theorem cells_congr {β' : Beta} {v : AV} {cs : Array Value} {base : Nat} (hs : v.safe = true) (h : ∀ i pl,i.isStk = false → β i = some pl → β' i = some pl) (hc : ∀ k c,v.flat[k]? = some c → ∃ x,cs[base + k]? = some x ∧ LR φ β c x) :
  ∀ k c,v.flat[k]? = some c → ∃ x,cs[base + k]? = some x ∧ LR φ β' c x:=by
 intro k c hk
 obtain ⟨x,hx,hr⟩:=hc k c hk
 have hm:=List.mem_of_getElem? hk
 exact ⟨x,hx,LR_safe (safe_flat hs c hm).1 (safe_flat hs c hm).2 h hr⟩
theorem SameBut.mono {p q : Nat → Prop} (h : SameBut w w' p) (hq : ∀ r,p r → q r) : SameBut w w' q:=⟨h.os,h.tape,h.output,h.size,fun r hr hn=>h.block r hr fun hp=>hn (hq r hp)⟩
theorem SameBut.refl {p : Nat → Prop} : SameBut w w p:=⟨rfl,rfl,rfl,Nat.le_refl _,fun _ _ _=>rfl⟩
theorem SameBut.trans {p : Nat → Prop} {w'' : World} (h : SameBut w w' p) (k : SameBut w' w'' p) : SameBut w w'' p :=
 ⟨k.os.trans h.os,k.tape.trans h.tape,k.output.trans h.output,Nat.le_trans h.size k.size,fun r hr hn=>(k.block r (Nat.lt_of_lt_of_le hr h.size) hn).trans (h.block r hr hn)⟩
theorem HR_lt (h : HR φ β O look w) {i : Id} {b : Blk} {pl : Place} (hl : look i = some b) (hb : β i = some pl) : pl.r < w.heap.size:=by
 obtain ⟨pl',cs,T,fr,hB⟩:=h.live i b hl
 obtain rfl:=Option.some.inj (hB.place.symm.trans hb)
 have:=hB.heap
 rcases Nat.lt_or_ge pl'.r w.heap.size with h | h
 ·exact h
 ·rw [Array.getElem?_eq_none h] at this; simp at this
theorem HR_upd (h : HR φ β O look w) {i : Id} {b : Blk} {pl : Place} (hi : i.isArg = false) (hn : i.isStk = true ∨ β i = none) (hL : Laid φ β b w' pl) (hO : O pl.r)
  (hs : ∀ j bj pj,j ≠ i → look' j = some bj → β j = some pj → pj.r ≠ pl.r ∧ w'.heap[pj.r]? = w.heap[pj.r]?)
  (h1 : look' i = some b) (h2 : ∀ j bj,j ≠ i → look' j = some bj → look j = some bj) : HR φ (upd β i pl) O look' w':=by
 have hcong : ∀ j pj,j.isStk = false → β j = some pj → upd β i pl j = some pj:=by
  intro j pj hj hb
  unfold upd
  rw [if_neg]
  ·exact hb
  ·rintro rfl
   rcases hn with hn | hn
   ·rw [hn] at hj; simp at hj
   ·rw [hn] at hb; simp at hb
 refine ⟨fun j bj hj=>?_,fun j k bj bk pj pk hj hk hpj hpk hjk hr=>?_⟩
 ·by_cases hji : j = i
  ·subst hji
   rw [h1] at hj
   obtain rfl:=Option.some.inj hj
   obtain ⟨cs,T,hh,hroom,hsz,hty,hf,hc⟩:=hL
   exact ⟨pl,cs,T,(0,0),by simp [upd],hty,hf,hh,hroom,hsz,cells_congr (Ty.fits_safe hf) hcong hc,fun _=>⟨rfl,hO⟩⟩
  ·have hlj:=h2 j bj hji hj
   obtain ⟨pj,cs,T,fr,hB⟩:=h.live j bj hlj
   obtain ⟨hne,hsame⟩:=hs j bj pj hji hj hB.place
   exact ⟨pj,cs,T,fr,by simp [upd,hji,hB.place],hB.ty,hB.fits,by rw [hsame]; exact hB.heap,hB.room,hB.size,cells_congr (Ty.fits_safe hB.fits) hcong hB.cells,hB.own⟩
 ·by_cases hji : j = i
  ·subst hji
   have hki : k ≠ j:=fun e=>hjk e.symm
   simp [upd] at hpj
   simp [upd,hki] at hpk
   subst hpj
   exact absurd hr.symm (hs k bk pk hki hk hpk).1
  ·simp [upd,hji] at hpj
   by_cases hki : k = i
   ·subst hki
    simp [upd] at hpk
    subst hpk
    exact absurd hr (hs j bj pj hji hj hpj).1
   ·simp [upd,hki] at hpk
    exact h.apart j k bj bk pj pk (h2 j bj hji hj) (h2 k bk hki hk) hpj hpk hjk hr
theorem HR_wr (h : HR φ β O look w) {i : Id} {b old : Blk} {pl : Place} (hi : i.isArg = false) (ho : look i = some old) (hb : β i = some pl) (hL : Laid φ β b w' pl)
  (hs : SameBut w w' (fun r=>r = pl.r)) (hl : ∀ j,look' j = if j = i then some b else look j) : HR φ β O look' w':=by
 obtain ⟨pl',cs0,T0,fr0,hB0⟩:=h.live i old ho
 obtain rfl:=Option.some.inj (hB0.place.symm.trans hb)
 have hO:=(hB0.own hi).2
 refine ⟨fun j bj hj=>?_,fun j k bj bk pj pk hj hk hpj hpk hjk hr=>?_⟩
 ·rw [hl] at hj
  by_cases hji : j = i
  ·subst hji
   rw [if_pos rfl] at hj
   obtain rfl:=Option.some.inj hj
   obtain ⟨cs,T,hh,hroom,hsz,hty,hf,hc⟩:=hL
   exact ⟨pl',cs,T,(0,0),hb,hty,hf,hh,hroom,hsz,hc,fun _=>⟨rfl,hO⟩⟩
  ·rw [if_neg hji] at hj
   obtain ⟨pj,cs,T,fr,hB⟩:=h.live j bj hj
   have hne : pj.r ≠ pl'.r:=fun e=>by
    have:=(h.apart j i bj old pj pl' hj ho hB.place hb hji e).2
    rw [hi] at this; simp at this
   exact ⟨pj,cs,T,fr,hB.place,hB.ty,hB.fits,by rw [hs.block _ (HR_lt h hj hB.place) hne]; exact hB.heap,hB.room,hB.size,hB.cells,hB.own⟩
 ·have f : ∀ j bj,look' j = some bj → ∃ bj',look j = some bj':=by
   intro j bj hj
   rw [hl] at hj
   by_cases hji : j = i
   ·subst hji; exact ⟨old,ho⟩
   ·rw [if_neg hji] at hj; exact ⟨bj,hj⟩
  obtain ⟨bj',hj'⟩:=f j bj hj
  obtain ⟨bk',hk'⟩:=f k bk hk
  exact h.apart j k bj' bk' pj pk hj' hk' hpj hpk hjk hr
def Ext (l n : Nat) (β β' : Beta) : Prop:=∀ i pl,i.under l n → β i = some pl → β' i = some pl
theorem Ext.refl {l n : Nat} : Ext l n β β:=fun _ _ _ h=>h
theorem Ext.trans {l n n' : Nat} {β' β'' : Beta} (h : Ext l n β β') (k : Ext l n' β' β'') (hn : n ≤ n') : Ext l n β β'':=fun i pl hi hb=>k i pl (by cases i <;> simp_all [Id.under]; omega) (h i pl hi hb)
theorem VR_new {i : Id} {sl : Option Nat} {b : Blk} {pl : Place} {x : Value} (hb : β i = some pl) (hty : pl.ty = b.ty) (hx : ValAt sl b pl x) : VR φ β (newVal i sl b) x:=by
 cases sl with
 | none =>
  simp only [ValAt] at hx
  subst hx
  have:=VR_ptr (φ:=φ) (p:=[]) hb (t:=b.ty) (o:=0) (by rw [hty]; cases b.ty <;> rfl)
  simpa [newVal] using this
 | some n =>
  obtain ⟨t,cap,ht,hn,hc,rfl⟩:=hx
  refine VR_of_VR1 ?_
  simp only [newVal,VR1,AV.isAgg,Bool.false_eq_true,if_false]
  exact ⟨pl,n,t,cap,hb,by rw [hty,ht],by omega,by omega,by simpa using hc,by simp⟩
theorem SR_upd {i : Id} {pl : Place} (h : SR φ β s.sl a.tmps) (hi : i.isStk = true) : SR φ (upd β i pl) (s.sl.forget i) a.tmps:=by
 intro t
 rw [Slots.get_forget]
 split
 ·exact VR_bot
 ·rename_i hl
  refine VR_congr (fun j pj hj hb=>?_) (h t)
  unfold upd
  rw [if_neg]
  ·exact hb
  ·rintro rfl
   rcases hj with hj | hj
   ·exact hl hj
   ·rw [hi] at hj; simp at hj
theorem SR_upd_obj {i : Id} {pl : Place} (h : SR φ β s.sl a.tmps) (hi : β i = none) : SR φ (upd β i pl) s.sl a.tmps:=by
 intro t
 refine VR_mono (fun j pj hb=>?_) (h t)
 unfold upd
 rw [if_neg]
 ·exact hb
 ·rintro rfl; rw [hi] at hb; simp at hb
theorem fresh_next {esc : Bool} {d : Nat} {b : Blk} : s.hp.next ≤ (s.fresh cx esc d b).2.hp.next:=by
 cases esc <;> simp [St.fresh]
theorem fresh_stk {esc : Bool} {d : Nat} {b : Blk} : (s.fresh cx esc d b).2.hp.stk = s.hp.stk:=by
 cases esc <;> simp [St.fresh]
theorem Rel_fresh {esc : Bool} {d : Nat} {b : Blk} {pl : Place} {sl : Option Nat} {x : Value} {l0 : Id → Option Blk} (h : Rel φ β O nt cx s a w) (hL : Laid φ β b w' pl) (hO : O pl.r)
  (hs : ∀ j bj pj,s.look cx j = some bj → β j = some pj → pj.r ≠ pl.r ∧ w'.heap[pj.r]? = w.heap[pj.r]?) (hsz : w.heap.size ≤ w'.heap.size) (hx : ValAt sl b pl x) (hd : d < nt) (hinv : Fix.I O w') :
  ∃ β',Rel φ β' O nt cx ((s.fresh cx esc d b).2.setd (some d) (newVal (s.fresh cx esc d b).1 sl b)) (a.put (some d) x) w' ∧ Ext cx.lvl s.hp.next β β':=by
 have hty : pl.ty = b.ty:=by obtain ⟨_,_,_,_,_,h,_⟩:=hL; exact h
 cases esc with
 | false =>
  refine ⟨upd β (.stk cx.lvl d) pl,Rel_setd ⟨?_,?_,?_,?_,?_,h.defers,h.size,hinv⟩ (fun t ht=>by simp at ht; omega) ?_,?_⟩
  ·exact SR_upd h.slots rfl
  ·exact HR_upd h.mem rfl (.inl rfl) hL hO (fun j bj pj hji hj hb=>hs j bj pj (by rw [look_fresh_stk,if_neg hji] at hj; exact hj) hb) (by rw [look_fresh_stk,if_pos rfl]) (fun j bj hji hj=>by rw [look_fresh_stk,if_neg hji] at hj; exact hj)
  ·intro i p hi
   unfold upd at hi
   split at hi
   ·rename_i e; subst e; simp [Id.under]
   ·exact h.dom i p hi
  ·intro l hl; rw [fresh_stk]; exact h.top l hl
  ·exact fun r hr=>h.fresh r (Nat.le_trans hsz hr)
  ·exact VR_new (by simp [St.fresh,upd]) hty hx
  ·intro i p hi hb
   unfold upd
   rw [if_neg]
   ·exact hb
   ·rintro rfl; simp [Id.under] at hi
 | true =>
  have hnone : β (.obj s.hp.next) = none:=by
   cases hb : β (.obj s.hp.next) with
   | none=>rfl
   | some p=>have:=h.dom _ p hb; simp [Id.under] at this
  refine ⟨upd β (.obj s.hp.next) pl,Rel_setd ⟨?_,?_,?_,?_,?_,h.defers,h.size,hinv⟩ (fun t ht=>by simp at ht; omega) ?_,?_⟩
  ·exact SR_upd_obj h.slots hnone
  ·exact HR_upd h.mem rfl (.inr hnone) hL hO (fun j bj pj hji hj hb=>hs j bj pj (by rw [look_fresh_obj,if_neg hji] at hj; exact hj) hb) (by rw [look_fresh_obj,if_pos rfl]) (fun j bj hji hj=>by rw [look_fresh_obj,if_neg hji] at hj; exact hj)
  ·intro i p hi
   unfold upd at hi
   split at hi
   ·rename_i e; subst e; simp [Id.under,St.fresh]
   ·have:=h.dom i p hi
    cases i <;> simp_all [Id.under,St.fresh]; omega
  ·intro l hl; rw [fresh_stk]; exact h.top l hl
  ·exact fun r hr=>h.fresh r (Nat.le_trans hsz hr)
  ·exact VR_new (by simp [St.fresh,upd]) hty hx
  ·intro i p hi hb
   unfold upd
   rw [if_neg]
   ·exact hb
   ·rintro rfl; rw [hnone] at hb; simp at hb
theorem eff_rel {d : Option Nat} {esc : Bool} {e : Eff} {v : AV} {x : Value} (h : Rel φ β O nt cx s a w) (he : EffOk φ β (s.look cx) w w' x e) (ha : applyEff cx d esc s e = some (v,s')) (hd : ∀ t,d = some t → t < nt) :
  ∃ β',Rel φ β' O nt cx (s'.setd d v) (a.put d x) w' ∧ SameBut w w' O ∧ Ext cx.lvl s.hp.next β β' ∧ s.hp.next ≤ s'.hp.next:=by
 cases e with
 | val u =>
  simp [applyEff] at ha
  obtain ⟨rfl,rfl⟩:=ha
  obtain ⟨hv,rfl⟩:=he
  exact ⟨β,Rel_setd h hd hv,.refl,.refl,Nat.le_refl _⟩
 | new sl b =>
  cases d with
  | none=>simp [applyEff] at ha
  | some t =>
   simp [applyEff] at ha
   obtain ⟨rfl,rfl⟩:=ha
   obtain ⟨pl,hL,hr,hb0,hx,hsz,hsame⟩:=he
   obtain ⟨β',hrel,hext⟩:=Rel_fresh (l0:=s.look cx) (esc:=esc) h hL (by rw [hr]; exact h.fresh _ (Nat.le_refl _)) (fun j bj pj hj hb=>by
    have:=HR_lt h.mem hj hb
    exact ⟨by omega,hsame.block _ this (fun h=>h)⟩) (by omega) hx (hd t rfl) (h.inv.step (hsame.mono (fun _ h=>h.elim)))
   exact ⟨β',hrel,hsame.mono (fun _ h=>h.elim),hext,fresh_next⟩
 | wr i b u =>
  simp only [applyEff,Option.map_eq_some_iff] at ha
  obtain ⟨s1,hw,heq⟩:=ha
  simp at heq
  obtain ⟨rfl,rfl⟩:=heq
  obtain ⟨pl,old,ho,hoty,hb,hL,hv,hsame⟩:=he
  obtain ⟨hi,hsl,hnx,hlk,hstk1,hstk2⟩:=look_write hw
  obtain ⟨pl',cs0,T0,fr0,hB0⟩:=h.mem.live i old ho
  obtain rfl:=Option.some.inj (hB0.place.symm.trans hb)
  refine ⟨β,Rel_setd ⟨by rw [hsl]; exact h.slots,HR_wr h.mem hi ho hb hL hsame hlk,by rw [hnx]; exact h.dom,?_,fun r hr=>h.fresh r (Nat.le_trans hsame.size hr),h.defers,h.size,h.inv.step (hsame.mono (fun r e=>by subst e; exact (hB0.own hi).2))⟩ hd hv,hsame.mono (fun r e=>by subst e; exact (hB0.own hi).2),.refl,Nat.le_of_eq hnx.symm⟩
  intro l hl
  have hun:=h.dom i pl' hb
  cases i with
  | stk l' t' =>
   by_cases hll : l' = cx.lvl
   ·have hst:=hstk2 (fun a b=>by
     by_cases h : l' = a
     ·subst h; exact .inr hll
     ·exact .inl (by simp [h]))
    rw [hst]; exact h.top l hl
   ·have : l' < cx.lvl:=by simp [Id.under] at hun; omega
    rw [hstk1 l' t' rfl hll l (by omega)]; exact h.top l hl
  | obj n=>rw [hstk2 (fun a b=>.inl (by simp))]; exact h.top l hl
  | arg n=>simp [Id.isArg] at hi
 | del j=>exact he.elim
 | grow j b n =>
  cases d with
  | none=>simp [applyEff] at ha
  | some t =>
   simp only [applyEff,Option.map_eq_some_iff] at ha
   obtain ⟨s1,hdr,heq⟩:=ha
   simp at heq
   obtain ⟨rfl,rfl⟩:=heq
   obtain ⟨pl,plj,old,ho,hbj,hL,hr,hx,hsame⟩:=he
   obtain ⟨hi,hsl,hnx,hstk,hlk⟩:=look_drop hdr
   obtain ⟨pl',cs0,T0,fr0,hB0⟩:=h.mem.live j old ho
   obtain rfl:=Option.some.inj (hB0.place.symm.trans hbj)
   have h1 : Rel φ β O nt cx s1 a w:=⟨by rw [hsl]; exact h.slots,HR_mono h.mem (fun i b hb=>by
    rw [hlk] at hb
    by_cases hij : i = j
    ·rw [if_pos hij] at hb; simp at hb
    ·rw [if_neg hij] at hb; exact hb),by rw [hnx]; exact h.dom,by rw [hstk]; exact h.top,h.fresh,h.defers,h.size,h.inv⟩
   have hOr : O pl.r:=by
    rcases hr with hr | hr
    ·rw [hr]; exact (hB0.own hi).2
    ·rw [hr]; exact h.fresh _ (Nat.le_refl _)
   obtain ⟨β',hrel,hext⟩:=Rel_fresh (l0:=s.look cx) (esc:=esc) h1 hL hOr (fun k bk pk hk hb=>by
    rw [hlk] at hk
    split at hk
    ·simp at hk
    ·rename_i hkj
     have hlt:=HR_lt h.mem hk hb
     have hne : pk.r ≠ pl'.r:=fun e=>by
      have:=(h.mem.apart k j bk old pk pl' hk ho hb hbj hkj e).2
      rw [hi] at this; simp at this
     refine ⟨?_,hsame.block _ hlt hne⟩
     rcases hr with hr | hr
     ·rw [hr]; exact hne
     ·rw [hr]; omega) hsame.size hx (hd t rfl) (h.inv.step (hsame.mono (fun r e=>by subst e; exact (hB0.own hi).2)))
   refine ⟨β',hrel,hsame.mono (fun r e=>by subst e; exact (hB0.own hi).2),by rw [hnx] at hext; exact hext,?_⟩
   rw [← hnx]; exact fresh_next
end
open Go.RowKit
def matchCall (φ : Nat → Option FuncId) (o : Op) (k : MK) : Bool :=
 match o,k with
 | .call ⟨.value (.func F),args,_⟩,.call _ _ f args'=>φ f == some F && opdsOk φ args.toList args'
 | .call ⟨.value (.tmp t),args,_⟩,.callv _ _ x args'=>opdOk φ (.tmp t) x && opdsOk φ args.toList args'
 | _,_=>false
def MK.isCall : MK → Bool
 | .call ..=>true
 | .callv ..=>true
 | _=>false
def guardOk (ops : Array Oper) (g : Option (Nat × Bool)) (h : Option (Nat × Bool)) : Bool :=
 match g,h with
 | none,none=>true
 | some (j,b),some (t,c)=>b == c && (match ops[j]? with | some o=>o.dst == some t | none=>false)
 | _,_=>false
def matchOp (P : Program) (φ : Nat → Option FuncId) (nt : Nat) (ops : Array Oper) (o : Oper) (m : MOp) : Bool :=
 o.dst == m.d && (match m.d with | some d=>decide (d < nt) | none=>true) && guardOk ops o.guard m.g && (if m.k.isCall then matchCall φ o.op m.k else matchK P φ o.op m.k)
def matchOps (P : Program) (φ : Nat → Option FuncId) (nt : Nat) (ops : Array Oper) : List Oper → List MOp → Bool
 | [],[]=>true
 | o :: os,m :: ms=>matchOp P φ nt ops o m && matchOps P φ nt ops os ms
 | _,_=>false
def matchC (P : Program) (φ : Nat → Option FuncId) (nt : Nat) (draw : Array Oper → List MOp → Bool) : Code → MC → Bool
 | .skip,.skip=>true
 | .ret,.ret=>true
 | .seq a b,.seq c d=>matchC P φ nt draw a c && matchC P φ nt draw b d
 | .cond x a b,.cond y c d=>opdOk φ x y && matchC P φ nt draw a c && matchC P φ nt draw b d
 | .block i a,.block j c=>i == j && matchC P φ nt draw a c
 | .loop a,.loop _ _ c=>matchC P φ nt draw a c
 | .exit i,.exit j=>i == j
 | .region _ ops d,.reg e l _=>d == e && matchOps P φ nt ops ops.toList l && (!d || draw ops l)
 | .region _ ops d,.regL e _ l _=>d == e && matchOps P φ nt ops ops.toList l && (!d || draw ops l)
 | _,_=>false
def matchRes (P : Program) : List ResultVar → List MRes → Bool
 | [],[]=>true
 | .tmp t :: r,.tmp u :: m=>t == u && matchRes P r m
 | .cell t T :: r,.cell u ty :: m=>t == u && tyOk P ty (.inl T) && matchRes P r m
 | _,_=>false
def matchFn (P : Program) (φ : Nat → Option FuncId) (draw : Array Oper → List MOp → Bool) (F : FuncId) (fn : MFun) : Bool :=
 match P.funcs[F]? with
 | some f=>(match f.body with
  | some c=>matchC P φ f.ntmps draw c fn.body
  | none => false) && matchRes P f.results.toList fn.res && decide (fn.params + fn.nfree ≤ f.ntmps) && !(f.name == "runtime.NumGoroutine")
 | none=>false
section
variable {φ : Nat → Option FuncId} {β : Beta} {P : Program} {O : Nat → Prop} {w w' : World} {look look' : Id → Option Blk} {nt : Nat} {cx : Cx} {s s' : St} {a : Act} {T : Nat → Option MFun}
def Step (T : Nat → Option MFun) (n : Nat) (cx : Cx) (o : MOp) (s s1 : St) : Prop :=
 match s.wanted o.g with
 | none=>False
 | some false=>s1 = s.setd o.d .undef
 | some true=>match opCmd T cx o.d o.k [] s with
  | .go _ s2=>s1 = s2
  | .call cx' hide fn e _ _ _=>∃ m s2,m < n ∧ run T m cx' [.code fn.body] e = some s2 ∧ back cx cx' hide fn o.d s s2 = some s1
  | _=>False
theorem Step.mono {n n' : Nat} {o : MOp} {s s1 : St} (h : Step T n cx o s s1) (hn : n ≤ n') : Step T n' cx o s s1:=by
 unfold Step at h ⊢
 cases hw : s.wanted o.g with
 | none=>simp [hw] at h
 | some b =>
  cases b with
  | false=>simpa [hw] using h
  | true =>
   simp only [hw] at h ⊢
   cases hc : opCmd T cx o.d o.k [] s with
   | done s2=>simp [hc] at h
   | fail=>simp [hc] at h
   | go k s2=>simpa [hc] using h
   | call cx' hide fn e d k s2 =>
    simp only [hc] at h ⊢
    obtain ⟨m,s2,hm,r⟩:=h
    exact ⟨m,s2,Nat.lt_of_lt_of_le hm hn,r⟩
theorem opCmd_shape {cx : Cx} {d : Option Nat} {k : MK} {todo : List Item} {s : St} :
  (∃ s2,opCmd T cx d k [] s = .go [] s2 ∧ opCmd T cx d k todo s = .go todo s2) ∨ (∃ cx' hide fn e,opCmd T cx d k [] s = .call cx' hide fn e d [] s ∧ opCmd T cx d k todo s = .call cx' hide fn e d todo s) ∨ opCmd T cx d k todo s = .fail:=by
 cases k <;> simp only [opCmd] <;> (try simp only [enterCmd]) <;> (repeat' split) <;> simp
theorem trace {n : Nat} {l : List MOp} {kill : List Nat} {k : List Item} : ∀ {s s' : St},run T n cx (.ops l kill :: k) s = some s' →
  ∃ tr : Nat → St,tr 0 = s ∧ (∀ i (h : i < l.length),Step T n cx l[i] (tr i) (tr (i + 1))) ∧ ∃ m,m < n ∧ run T m cx k ((tr l.length).kill kill) = some s':=by
 induction l generalizing n with
 | nil =>
  intro s s' h
  cases n with
  | zero=>simp [run] at h
  | succ n =>
   simp only [run,next] at h
   exact ⟨fun _=>s,rfl,fun i hi=>by simp at hi,n,by omega,h⟩
 | cons o l ih =>
  intro s s' h
  cases n with
  | zero=>simp [run] at h
  | succ n =>
   simp only [run,next] at h
   cases hw : s.wanted o.g with
   | none=>simp [hw] at h
   | some b =>
    cases b with
    | false =>
     simp only [hw] at h
     obtain ⟨tr,h0,hs,m,hm,hr⟩:=ih h
     refine ⟨fun i=>match i with | 0=>s | i + 1=>tr i,rfl,fun i hi=>?_,m,by omega,by simpa using hr⟩
     cases i with
     | zero=>simp only [List.getElem_cons_zero,Step,hw]; exact h0
     | succ i =>
      exact (hs i (by simpa using hi)).mono (by omega)
    | true =>
     simp only [hw] at h
     have key : ∃ s1,Step T (n + 1) cx o s s1 ∧ ∃ n',n' ≤ n ∧ run T n' cx (.ops l kill :: k) s1 = some s':=by
      rcases opCmd_shape (T:=T) (cx:=cx) (d:=o.d) (k:=o.k) (todo:=.ops l kill :: k) (s:=s) with ⟨s2,h1,h2⟩ | ⟨cx',hide,fn,e,h1,h2⟩ | h2
      ·simp only [h2] at h
       exact ⟨s2,by simp only [Step,hw,h1],n,Nat.le_refl _,h⟩
      ·simp only [h2] at h
       cases hr : run T n cx' [.code fn.body] e with
       | none=>simp [hr] at h
       | some s2 =>
        simp only [hr] at h
        cases hb : back cx cx' hide fn o.d s s2 with
        | none=>simp [hb] at h
        | some s1 =>
         simp only [hb] at h
         exact ⟨s1,by simp only [Step,hw,h1]; exact ⟨n,s2,by omega,hr,hb⟩,n,Nat.le_refl _,h⟩
      ·simp [h2] at h
     obtain ⟨s1,hst,n',hn',hrun⟩:=key
     obtain ⟨tr,h0,hs,m,hm,hr⟩:=ih hrun
     refine ⟨fun i=>match i with | 0=>s | i + 1=>tr i,rfl,fun i hi=>?_,m,by omega,by simpa using hr⟩
     cases i with
     | zero=>simp only [List.getElem_cons_zero]; rw [h0]; exact hst
     | succ i =>
      exact (hs i (by simpa using hi)).mono (by omega)
end
def Held (cx : Cx) (nx : Nat) : Id → Prop
 | .arg _=>True
 | .stk l _=>l < cx.prot.lvl ∧ cx.prot.lvl ≤ cx.lvl
 | .obj n=>n < cx.prot.obj ∧ cx.prot.obj ≤ nx
section
variable {cx cx' : Cx} {s s' s1 : St} {T : Nat → Option MFun}
theorem Held.mono {n m : Nat} {i : Id} (h : Held cx n i) (hm : n ≤ m) : Held cx m i:=by
 cases i <;> simp_all [Held]; omega
def Same (i : Id) (h h' : HP) : Prop:=h'.look i = h.look i ∧ h.next ≤ h'.next
theorem fresh_frame {i : Id} {esc : Bool} {d : Nat} {b : Blk} (hi : Held cx s.hp.next i) : Same i s.hp (s.fresh cx esc d b).2.hp:=by
 unfold St.fresh
 cases esc with
 | false=>exact ⟨rfl,Nat.le_refl _⟩
 | true =>
  refine ⟨?_,Nat.le_succ _⟩
  cases i with
  | obj n=>simp only [Held] at hi; simp only [HP.look,if_true]; rw [if_neg (by omega)]
  | _=>rfl
theorem write_frame {i j : Id} {b : Blk} (hi : Held cx s.hp.next i) (h : s.write cx j b = some s') : Same i s.hp s'.hp:=by
 unfold St.write at h
 cases ho : j.own cx.lvl with
 | some t=>simp [ho] at h; subst h; exact ⟨rfl,Nat.le_refl _⟩
 | none =>
  simp only [ho] at h
  split at h
  ·rename_i hl
   simp at h
   subst h
   cases j with
   | arg n=>exact ⟨rfl,Nat.le_refl _⟩
   | obj n =>
    refine ⟨?_,Nat.le_refl _⟩
    cases i with
    | obj m=>simp only [Held] at hi; simp [Prot.lets] at hl; simp only [HP.look,HP.set]; rw [if_neg (by omega)]
    | _=>rfl
   | stk l t =>
    refine ⟨?_,Nat.le_refl _⟩
    cases i with
    | stk l' t'=>simp only [Held] at hi; simp [Prot.lets] at hl; simp only [HP.look,HP.set]; rw [if_neg (by omega)]
    | _=>rfl
  ·simp at h
theorem drop_frame {i j : Id} (hi : Held cx s.hp.next i) (h : s.drop cx j = some s') : Same i s.hp s'.hp:=by
 unfold St.drop at h
 cases ho : j.own cx.lvl with
 | some t=>simp [ho] at h; subst h; exact ⟨rfl,Nat.le_refl _⟩
 | none =>
  simp only [ho] at h
  cases j with
  | arg n=>simp at h
  | stk l t=>simp at h
  | obj n =>
   simp only at h
   split at h
   ·rename_i hl
    simp at h
    subst h
    refine ⟨?_,Nat.le_refl _⟩
    cases i with
    | obj m=>simp only [Held] at hi; simp [Prot.lets] at hl; simp only [HP.look]; rw [if_neg (by omega)]
    | _=>rfl
   ·simp at h
theorem Same.trans {i : Id} {a b c : HP} (h : Same i a b) (k : Same i b c) : Same i a c:=⟨k.1.trans h.1,Nat.le_trans h.2 k.2⟩
theorem eff_frame {i : Id} {d : Option Nat} {esc : Bool} {e : Eff} {v : AV} (hi : Held cx s.hp.next i) (h : applyEff cx d esc s e = some (v,s')) : Same i s.hp s'.hp:=by
 cases e with
 | val u=>simp [applyEff] at h; obtain ⟨_,rfl⟩:=h; exact ⟨rfl,Nat.le_refl _⟩
 | new sl b =>
  cases d with
  | none=>simp [applyEff] at h
  | some t=>simp [applyEff] at h; obtain ⟨_,rfl⟩:=h; exact fresh_frame hi
 | wr j b u =>
  simp only [applyEff,Option.map_eq_some_iff] at h
  obtain ⟨s1,hw,heq⟩:=h
  simp at heq
  obtain ⟨_,rfl⟩:=heq
  exact write_frame hi hw
 | del j =>
  simp only [applyEff,Option.map_eq_some_iff] at h
  obtain ⟨s1,hdr,heq⟩:=h
  simp at heq
  obtain ⟨_,rfl⟩:=heq
  exact drop_frame hi hdr
 | grow j b n =>
  cases d with
  | none=>simp [applyEff] at h
  | some t =>
   simp only [applyEff,Option.map_eq_some_iff] at h
   obtain ⟨s1,hdr,heq⟩:=h
   simp at heq
   obtain ⟨_,rfl⟩:=heq
   have h1:=drop_frame hi hdr
   exact h1.trans (fresh_frame (hi.mono h1.2))
theorem setd_hp {d : Option Nat} {v : AV} : (s.setd d v).hp = s.hp:=by cases d <;> rfl
theorem enterCmd_shape {prot : Bool} {hide : List Nat} {f : Nat} {args caps : List AV} {d : Option Nat} {todo : List Item} :
  enterCmd T cx prot hide f args caps d todo s = .fail ∨ ∃ fn l,T f = some fn ∧ l = args ++ caps ∧ enterCmd T cx prot hide f args caps d todo s = .call (s.callCx cx prot hide) hide fn (St.enter l (s.hp.push cx.lvl (s.own.veil hide))) d todo s:=by
 unfold enterCmd
 cases hT : T f with
 | none=>exact .inl rfl
 | some fn =>
  simp only
  split
  ·exact .inr ⟨fn,_,rfl,rfl,rfl⟩
  ·exact .inl rfl
theorem opCmd_cases (cx : Cx) (d : Option Nat) (k : MK) (todo : List Item) (s : St) :
  opCmd T cx d k todo s = .fail ∨ (∃ v s',evOp cx d k s = some (v,s') ∧ opCmd T cx d k todo s = .go todo (s'.setd d v)) ∨
  (∃ prot hide fn l,opCmd T cx d k todo s = .call (s.callCx cx prot hide) hide fn (St.enter l (s.hp.push cx.lvl (s.own.veil hide))) d todo s):=by
 cases k
 case call prot hide f args =>
  simp only [opCmd]
  rcases enterCmd_shape (T:=T) (cx:=cx) (s:=s) (prot:=prot) (hide:=hide) (f:=f) (args:=args.map s.opd) (caps:=[]) (d:=d) (todo:=todo) with h | ⟨fn,l,_,_,h⟩
  ·exact .inl h
  ·exact .inr (.inr ⟨prot,hide,fn,l,h⟩)
 case callv prot hide x args =>
  simp only [opCmd]
  split
  ·rename_i f cap hx
   rcases enterCmd_shape (T:=T) (cx:=cx) (s:=s) (prot:=prot) (hide:=hide) (f:=f) (args:=args.map s.opd) (caps:=capList cap) (d:=d) (todo:=todo) with h | ⟨fn,l,_,_,h⟩
   ·exact .inl h
   ·exact .inr (.inr ⟨prot,hide,fn,l,h⟩)
  ·exact .inl rfl
 all_goals
  simp only [opCmd]
  split
  ·rename_i v s' he; exact .inr (.inl ⟨v,s',he,rfl⟩)
  ·exact .inl rfl
theorem evOp_frame {i : Id} {d : Option Nat} {k : MK} {v : AV} (hi : Held cx s.hp.next i) (h : evOp cx d k s = some (v,s')) : Same i s.hp s'.hp:=by
 unfold evOp at h
 split at h
 ·exact eff_frame hi h
 ·simp at h
theorem lift_frame {i : Id} {t : Nat} (hi : Held cx s.hp.next i) (h : s.lift cx t = some s1) : Same i s.hp s1.hp:=by
 unfold St.lift at h
 split at h
 ·simp at h; subst h; exact ⟨rfl,Nat.le_refl _⟩
 ·split at h
  ·split at h
   ·simp at h
    subst h
    refine ⟨?_,Nat.le_succ _⟩
    cases i with
    | obj n=>simp only [Held] at hi; simp only [HP.look]; rw [if_neg (by omega)]
    | _=>rfl
   ·simp at h
  ·simp at h
 ·simp at h
theorem lifts_frame {i : Id} : ∀ {l : List Nat} {s s1 : St},Held cx s.hp.next i → s.lifts cx l = some s1 → Same i s.hp s1.hp
 | [],s,s1,_,h=>by simp [St.lifts] at h; subst h; exact ⟨rfl,Nat.le_refl _⟩
 | t :: r,s,s1,hi,h=>by
  simp only [St.lifts] at h
  cases hl : s.lift cx t with
  | none=>simp [hl] at h
  | some s2 =>
   simp only [hl,Option.bind_some] at h
   have h1:=lift_frame hi hl
   exact h1.trans (lifts_frame (hi.mono h1.2) h)
theorem next_frame {i : Id} {k : List Item} (hi : Held cx s.hp.next i) :
  (next T cx k s = .fail) ∨ (∃ s1,next T cx k s = .done s1 ∧ s1.hp = s.hp) ∨ (∃ k1 s1,next T cx k s = .go k1 s1 ∧ Same i s.hp s1.hp) ∨
  (∃ prot hide fn l d k1,next T cx k s = .call (s.callCx cx prot hide) hide fn (St.enter l (s.hp.push cx.lvl (s.own.veil hide))) d k1 s):=by
 have rf : Same i s.hp s.hp:=⟨rfl,Nat.le_refl _⟩
 cases k with
 | nil=>exact .inr (.inl ⟨_,rfl,rfl⟩)
 | cons it k =>
  cases it with
  | inBlock j=>exact .inr (.inr (.inl ⟨_,_,rfl,rf⟩))
  | inLoop keep ko b=>exact .inr (.inr (.inl ⟨_,_,rfl,rf⟩))
  | ops l kill =>
   cases l with
   | nil=>exact .inr (.inr (.inl ⟨_,_,rfl,rf⟩))
   | cons o r =>
    simp only [next]
    cases hw : s.wanted o.g with
    | none=>exact .inl rfl
    | some b =>
     cases b with
     | false=>exact .inr (.inr (.inl ⟨_,_,rfl,by rw [setd_hp]; exact rf⟩))
     | true =>
      simp only
      rcases opCmd_cases (T:=T) cx o.d o.k (.ops r kill :: k) s with h | ⟨v,s',he,h⟩ | ⟨prot,hide,fn,l,h⟩
      ·exact .inl h
      ·exact .inr (.inr (.inl ⟨_,_,h,by rw [setd_hp]; exact evOp_frame hi he⟩))
      ·exact .inr (.inr (.inr ⟨_,_,_,_,_,_,h⟩))
  | code c =>
   cases c with
   | skip=>exact .inr (.inr (.inl ⟨_,_,rfl,rf⟩))
   | reg dr ops kill =>
    simp only [next]
    split
    ·exact .inl rfl
    ·exact .inr (.inr (.inl ⟨_,_,rfl,rf⟩))
   | regL dr lf ops kill =>
    simp only [next]
    cases hl : s.lifts cx lf with
    | none=>exact .inl rfl
    | some s2 =>
     simp only
     split
     ·exact .inl rfl
     ·exact .inr (.inr (.inl ⟨_,_,rfl,lifts_frame hi hl⟩))
   | seq a b=>exact .inr (.inr (.inl ⟨_,_,rfl,rf⟩))
   | cond c t e =>
    simp only [next]
    split
    ·exact .inr (.inr (.inl ⟨_,_,rfl,rf⟩))
    ·exact .inl rfl
   | block id b=>exact .inr (.inr (.inl ⟨_,_,rfl,rf⟩))
   | loop keep ko b=>exact .inr (.inr (.inl ⟨_,_,rfl,rf⟩))
   | exit id =>
    simp only [next]
    split
    ·exact .inr (.inr (.inl ⟨_,_,rfl,rf⟩))
    ·exact .inl rfl
   | ret=>exact .inr (.inl ⟨_,rfl,rfl⟩)
theorem callCx_held {i : Id} {prot : Bool} {hide : List Nat} (hi : Held cx s.hp.next i) : Held (s.callCx cx prot hide) s.hp.next i:=by
 cases hh : has hide 1000000 <;> cases prot <;> cases i <;> simp_all [Held,St.callCx] <;> omega
theorem push_held {i : Id} {o : Own} (hi : Held cx s.hp.next i) : (s.hp.push cx.lvl o).look i = s.hp.look i:=by
 cases i with
 | stk l t =>
  simp only [Held] at hi
  simp only [HP.look,HP.push]
  rw [if_neg (by omega)]
 | _=>rfl
theorem pop_held {i : Id} {h h' : HP} {n : Nat} (hi : Held cx n i) (hs : h'.look i = h.look i) : (h.pop h' cx.lvl).look i = h.look i:=by
 cases i with
 | stk l t =>
  simp only [Held] at hi
  simp only [HP.look,HP.pop]
  rw [if_neg (by omega)]
  exact hs
 | _=>exact hs
theorem run_frame {n : Nat} : ∀ {cx : Cx} {k : List Item} {s s' : St} {i : Id},run T n cx k s = some s' → Held cx s.hp.next i → Same i s.hp s'.hp:=by
 induction n with
 | zero=>intro cx k s s' i h; simp [run] at h
 | succ n ih =>
  intro cx k s s' i h hi
  rw [run] at h
  rcases next_frame (T:=T) (k:=k) hi with h1 | ⟨s1,h1,he⟩ | ⟨k1,s1,h1,hs⟩ | ⟨prot,hide,fn,l,d,k1,h1⟩
  ·simp [h1] at h
  ·simp [h1] at h
   subst h
   rw [he]; exact ⟨rfl,Nat.le_refl _⟩
  ·simp only [h1] at h
   exact hs.trans (ih h (hi.mono hs.2))
  ·simp only [h1] at h
   cases hr : run T n (s.callCx cx prot hide) [.code fn.body] (St.enter l (s.hp.push cx.lvl (s.own.veil hide))) with
   | none=>simp [hr] at h
   | some s2 =>
    simp only [hr] at h
    cases hb : back cx (s.callCx cx prot hide) hide fn d s s2 with
    | none=>simp [hb] at h
    | some s3 =>
     simp only [hb] at h
     have hs2:=ih hr (i:=i) (callCx_held hi)
     unfold back at hb
     simp only [Option.map_eq_some_iff] at hb
     obtain ⟨v,hv,rfl⟩:=hb
     have h3 : Same i s.hp ((s.pop cx.lvl hide s2.hp).setd d v).hp:=by
      rw [setd_hp]
      refine ⟨pop_held hi ?_,hs2.2⟩
      rw [hs2.1]; exact push_held hi
     exact h3.trans (ih h (hi.mono h3.2))
end
open Go.RowKit
section
variable [Fix] {φ : Nat → Option FuncId} {β : Beta} {P : Program} {O : Nat → Prop} {w w' : World} {look look' : Id → Option Blk} {nt : Nat} {cx : Cx} {s s' : St} {a : Act} {T : Nat → Option MFun}
def resV (tmps : Array Value) : ResultVar → Sem Value
 | .tmp t=>pure (tmps.getD t undef)
 | .cell t ty=>do loadVar ty (← asAddr (tmps.getD t undef))
theorem results_eq (f : Func) (tmps : Array Value) : Go.results f tmps = (do let vs ← f.results.mapM (resV tmps); pure (if h : vs.size = 1 then vs[0] else .tuple vs)):=rfl
def AV.resOk (v : AV) : Prop:=v.safe = true ∨ ∃ u,v = .tup u
theorem resOf_sound {r : ResultVar} {m : MRes} {v : AV} {rs : List ResultVar} {ms : List MRes} (h : Rel φ β O nt cx s a w) (hm : matchRes P (r :: rs) (m :: ms) = true) (hv : resOf cx s m = some v) :
  ∃ x,(resV a.tmps r).run P w = .ok x w ∧ VR φ β v x ∧ v.safe = true:=by
 cases r with
 | tmp t =>
  cases m with
  | cell=>simp [matchRes] at hm
  | tmp u =>
   simp [matchRes] at hm
   obtain ⟨rfl,_⟩:=hm
   simp only [resOf] at hv
   split at hv
   ·rename_i hs
    simp at hv
    subst hv
    exact ⟨_,rfl,h.slots t,hs⟩
   ·simp at hv
 | cell t ty =>
  cases m with
  | tmp=>simp [matchRes] at hm
  | cell u uy =>
   simp [matchRes] at hm
   obtain ⟨⟨rfl,hty⟩,_⟩:=hm
   simp only [resOf] at hv
   have hsl:=h.slots t
   split at hv
   ·rename_i i t' hg
    rw [hg] at hsl
    split at hv
    ·rename_i he
     subst he
     cases hl : s.look cx i with
     | none=>simp [hl] at hv
     | some b =>
      simp only [hl,Option.bind_some] at hv
      split at hv
      ·rename_i hb
       simp at hv
       subst hv
       obtain ⟨pl,o,hbt,hf,hx⟩:=LR_ptr hsl
       obtain ⟨y,hy,hvy⟩:=run_load (P:=P) h.mem hty hsl hl (v:=b.val) (by cases b.val <;> rfl)
       obtain ⟨pl',cs,T',fr,hB⟩:=h.mem.live i b hl
       refine ⟨y,?_,hvy,Ty.fits_safe hB.fits⟩
       simp only [resV]
       rw [hx] at hy ⊢
       simp only [asAddr,Sem.run_bind,Sem.run_pure,Result.andThen_ok]
       simpa [Instr.loadAt,Instr.sureAddr,Sem.run_bind] using hy
      ·simp at hv
    ·simp at hv
   ·simp at hv
theorem resList_sound (h : Rel φ β O nt cx s a w) : ∀ {rs : List ResultVar} {ms : List MRes} {v : AV},matchRes P rs ms = true → resList cx s ms = some v →
  ∃ xs : List Value,(rs.mapM (resV a.tmps)).run P w = .ok xs w ∧ TR φ β v xs ∧ xs.length = ms.length
 | [],[],v,_,hv=>by simp [resList] at hv; subst hv; exact ⟨[],rfl,trivial,rfl⟩
 | [],_ :: _,_,hm,_=>by simp [matchRes] at hm
 | r :: rs,[],_,hm,_=>by cases r <;> simp [matchRes] at hm
 | r :: rs,m :: ms,v,hm,hv=>by
  have hm' : matchRes P rs ms = true:=by cases r <;> cases m <;> simp [matchRes] at hm <;> exact hm.2
  simp only [resList] at hv
  cases h1 : resOf cx s m with
  | none=>simp [h1] at hv
  | some u =>
   cases h2 : resList cx s ms with
   | none=>simp [h1,h2] at hv
   | some t =>
    simp [h1,h2] at hv
    subst hv
    obtain ⟨x,hx,hvx,hs⟩:=resOf_sound h hm h1
    obtain ⟨xs,hxs,ht,hlen⟩:=resList_sound h hm' h2
    refine ⟨x :: xs,?_,⟨hs,?_,ht⟩,by simp [hlen]⟩
    ·simp only [List.mapM_cons,Sem.run_bind]
     rw [hx]
     simp only [Result.andThen_ok,Sem.run_bind,hxs,Sem.run_pure]
    ·cases u <;> first | exact hvx | simp [AV.safe] at hs
theorem matchRes_len : ∀ {rs : List ResultVar} {ms : List MRes},matchRes P rs ms = true → rs.length = ms.length
 | [],[],_=>rfl
 | [],_ :: _,hm=>by simp [matchRes] at hm
 | r :: rs,[],hm=>by cases r <;> simp [matchRes] at hm
 | r :: rs,m :: ms,hm=>by
  have hm' : matchRes P rs ms = true:=by cases r <;> cases m <;> simp [matchRes] at hm <;> exact hm.2
  simp [matchRes_len hm']
theorem results_sound {f : Func} {ms : List MRes} {v : AV} (h : Rel φ β O nt cx s a w) (hm : matchRes P f.results.toList ms = true) (hv : results cx s ms = some v) :
  ∃ x,(Go.results f a.tmps).run P w = .ok x w ∧ VR φ β v x ∧ v.resOk:=by
 have conv : ∀ (xs : List Value),(f.results.toList.mapM (resV a.tmps)).run P w = .ok xs w →
   (Go.results f a.tmps).run P w = .ok (if h : xs.toArray.size = 1 then xs.toArray[0] else .tuple xs.toArray) w:=by
  intro xs hxs
  rw [results_eq,Sem.run_bind,Array.mapM_eq_mapM_toList]
  simp only [Sem.run_map,hxs,Result.andThen_ok,Sem.run_pure]
 have hlen:=matchRes_len hm
 match ms,hv with
 | [r],hv =>
  simp only [results] at hv
  cases hl : f.results.toList with
  | nil=>rw [hl] at hlen; simp at hlen
  | cons q qs =>
   cases qs with
   | cons=>rw [hl] at hlen; simp at hlen
   | nil =>
    rw [hl] at hm
    obtain ⟨x,hx,hvx,hs⟩:=resOf_sound h hm hv
    refine ⟨x,?_,hvx,.inl hs⟩
    rw [conv [x] (by rw [hl]; simp only [List.mapM_cons,List.mapM_nil,Sem.run_bind]; rw [hx]; simp)]
    simp
 | [],hv =>
  simp only [results,resList,Option.map_some,Option.some.injEq] at hv
  subst hv
  obtain ⟨xs,hxs,ht,hl⟩:=resList_sound h hm (v:=.unit) rfl
  have : xs = []:=List.length_eq_zero_iff.1 (by simpa using hl)
  subst this
  exact ⟨_,conv [] hxs,⟨[],by simp,trivial⟩,.inr ⟨_,rfl⟩⟩
 | r :: r' :: rs,hv =>
  simp only [results,Option.map_eq_some_iff] at hv
  obtain ⟨u,hu,rfl⟩:=hv
  obtain ⟨xs,hxs,ht,hl⟩:=resList_sound h hm hu
  refine ⟨_,conv xs hxs,⟨xs,?_,ht⟩,.inr ⟨_,rfl⟩⟩
  rw [dif_neg]
  simp [hl]
end
open Go.RowKit
structure After (φ : Nat → Option FuncId) (O : Nat → Prop) (β : Beta) (l n0 : Nat) (w : World) (look : Id → Option Blk) (n1 : Nat) (stk : Nat → Own) (β' : Beta) (w' : World) : Prop where
 mem : HR φ β' O look w'
 same : SameBut w w' O
 ext : Ext l n0 β β'
 next : n0 ≤ n1
 dom : ∀ i pl,β' i = some pl → i.under (l + 1) n1
 top : ∀ k,l ≤ k → stk k = []
def CallTo [Fix] (P : Program) (T : Nat → Option MFun) (φ : Nat → Option FuncId) (m : Nat) (fn : MFun) (F : FuncId) : Prop :=
 ∀ (cx : Cx) (args : List AV) (h : HP) (s2 : St) (v : AV) (β : Beta) (O : Nat → Prop) (rargs : List Value) (w : World),
  run T m cx [.code fn.body] (St.enter args h) = some s2 → results cx s2 fn.res = some v → args.length = fn.params + fn.nfree → All2 (VR φ β) args rargs →
  HR φ β O h.look w → (∀ i pl,β i = some pl → i.under cx.lvl h.next) → (∀ l,cx.lvl ≤ l → h.stk l = []) → (∀ r,w.heap.size ≤ r → O r) → Fix.I O w →
  Calls P F rargs.toArray w fun en w'=>∃ x β',en = .returned x ∧ VR φ β' v x ∧ v.resOk ∧ After φ O β cx.lvl h.next w (s2.look cx) s2.hp.next s2.hp.stk β' w'
def ExtOk [Fix] (P : Program) (T : Nat → Option MFun) (φ : Nat → Option FuncId) (F : FuncId) (fn : MFun) : Prop :=
 (∃ f c, P.funcs[F]? = some f ∧ f.body = some c ∧ (f.name == "runtime.NumGoroutine") = false) ∧ ∀ m, CallTo P T φ m fn F
def FnOk [Fix] (P : Program) (T : Nat → Option MFun) (φ : Nat → Option FuncId) (draw : Array Oper → List MOp → Bool) (F : FuncId) (fn : MFun) : Prop:=matchFn P φ draw F fn = true ∨ ExtOk P T φ F fn
def CallSim [Fix] (P : Program) (T : Nat → Option MFun) (φ : Nat → Option FuncId) (draw : Array Oper → List MOp → Bool) (m : Nat) : Prop :=
 ∀ (fn : MFun) (F : FuncId),FnOk P T φ draw F fn → CallTo P T φ m fn F
def TblOk [Fix] (P : Program) (T : Nat → Option MFun) (φ : Nat → Option FuncId) (draw : Array Oper → List MOp → Bool) : Prop:=∀ f fn F,T f = some fn → φ f = some F → FnOk P T φ draw F fn
section
variable [Fix] {φ : Nat → Option FuncId} {β : Beta} {P : Program} {O : Nat → Prop} {w w' : World} {look look' : Id → Option Blk} {nt : Nat} {cx : Cx} {s s' s1 : St} {a : Act} {T : Nat → Option MFun} {draw : Array Oper → List MOp → Bool}
theorem opds_of_slots (h : SR φ β s.sl a.tmps) : Opds φ β a.eval s.opd:=by
 intro x y hxy
 cases x <;> cases y <;> simp [opdOk] at hxy
 ·subst hxy; simpa [Act.eval,St.opd] using h _
 ·rename_i y b
  have hl:=zeroOk_LR (φ:=φ) (β:=β) hxy
  have ha : b.isAgg = false:=by cases b <;> simp [zeroOk] at hxy <;> rfl
  have : VR φ β b y:=VR_of_VR1 (by simp only [VR1,ha,Bool.false_eq_true,if_false]; exact hl)
  exact this
 ·rename_i F n
  have : VR φ β (.func n .unit) (.func (.func F) #[] #[]):=VR_of_VR1 (by
   simp only [VR1,AV.isAgg,Bool.false_eq_true,if_false]
   exact ⟨F,[],hxy,rfl,rfl⟩)
  exact this
theorem opds_list {ρ : Operand → Value} {g : Opd → AV} (hg : Opds φ β ρ g) : ∀ {xs : List Operand} {ys : List Opd},opdsOk φ xs ys = true → All2 (VR φ β) (ys.map g) (xs.map ρ)
 | [],[],_=>All2.nil
 | [],_ :: _,h=>by simp [opdsOk] at h
 | _ :: _,[],h=>by simp [opdsOk] at h
 | x :: xs,y :: ys,h=>by
  simp [opdsOk] at h
  exact All2.cons (hg _ _ h.1) (opds_list hg h.2)
theorem cap_list : ∀ {c : AV} {l : List Value},(c.rel φ β).2 l → All2 (VR φ β) (capList c) l:=by
 intro c
 induction c with
 | cons x y _ ihy =>
  intro l h
  obtain ⟨v,vs,rfl,h1,h2⟩:=h
  refine All2.cons ?_ (ihy h2)
  cases x <;> first | exact VR_of_VR1 (by simp only [VR1,AV.isAgg,Bool.false_eq_true,if_false]; exact h1) | simp [AV.rel] at h1
 | unit=>intro l h; simp [AV.rel] at h; subst h; exact All2.nil
 | _=>intro l h; simp [AV.rel] at h
theorem wanted_ok {ops : Array Oper} {o : Oper} {g : Option (Nat × Bool)} {b : Bool} (h : SR φ β s.sl a.tmps) (hg : guardOk ops o.guard g = true) (hw : s.wanted g = some b) : Region.wanted o (yielded ops a.tmps) = b:=by
 unfold Region.wanted
 cases hgd : o.guard with
 | none =>
  cases g with
  | none=>simp [St.wanted] at hw; subst hw; rfl
  | some q=>simp [guardOk,hgd] at hg
 | some p =>
  cases g with
  | none=>obtain ⟨j,c⟩:=p; simp [guardOk,hgd] at hg
  | some q =>
   obtain ⟨j,c⟩:=p
   obtain ⟨t,d⟩:=q
   simp only [guardOk,hgd,Bool.and_eq_true,beq_iff_eq] at hg
   obtain ⟨rfl,hd⟩:=hg
   cases ho : ops[j]? with
   | none=>simp [ho] at hd
   | some oj =>
    simp [ho] at hd
    simp only
    have hsl:=h t
    have hy : yielded ops a.tmps j = match a.tmps[t]? with | some (.bool b)=>some b | _=>none:=by
     unfold yielded
     rw [ho]
     simp only [Option.bind_some,hd]
     cases a.tmps[t]? with
     | none=>rfl
     | some y=>cases y <;> rfl
    rw [hy]
    simp only [St.wanted] at hw
    split at hw
    ·rename_i c' hc
     rw [hc] at hsl
     have hv:=LR_bool hsl
     simp at hw
     have : a.tmps[t]? = some (.bool c'):=by
      rw [Array.getD_eq_getD_getElem?] at hv
      cases ht : a.tmps[t]? with
      | none=>rw [ht] at hv; simp [undef] at hv
      | some y=>rw [ht] at hv; simp at hv; rw [hv]
     simp only [this]
     rw [← hw]
     cases c' <;> cases c <;> rfl
    ·rename_i hc
     rw [hc] at hsl
     obtain ⟨xs,hx,ht⟩:=hsl
     simp at hw
     subst hw
     cases xs with
     | cons=>exact ht.elim
     | nil =>
      have : ∀ b,a.tmps[t]? ≠ some (.bool b):=by
       intro b hb
       rw [Array.getD_eq_getD_getElem?,hb] at hx
       simp at hx
      cases hq : a.tmps[t]? with
      | none=>rfl
      | some y=>cases y <;> first | rfl | exact absurd hq (this _)
    ·simp at hw
theorem Rel_back {d : Option Nat} {hide : List Nat} {s2 : St} {v : AV} {x : Value} {O' : Nat → Prop} {β' : Beta} {cx' : Cx} (h : Rel φ β O nt cx s a w) (hl : cx'.lvl = cx.lvl + 1) (hv : VR φ β' v x) (hr : v.resOk)
  (hA : After φ O' β cx'.lvl s.hp.next w (s2.look cx') s2.hp.next s2.hp.stk β' w') (hd : ∀ t,d = some t → t < nt)
  (hO : ∀ r,O' r → O r) (hh : ∀ t b pl,has hide t = true → s.own.get t = some b → β (.stk cx.lvl t) = some pl → ¬ O' pl.r)
  (harg : ∀ n,s2.look cx' (.arg n) = s.look cx (.arg n)) :
  ∃ β1,Rel φ β1 O nt cx ((s.pop cx.lvl hide s2.hp).setd d v) (a.put d x) w' ∧ Ext cx.lvl s.hp.next β β1:=by
 have hdec : ∀ i : Id,Decidable (i.under (cx.lvl + 1) s2.hp.next):=fun i=>by cases i <;> simp only [Id.under] <;> infer_instance
 let β1 : Beta:=fun i=>if @decide (i.under (cx.lvl + 1) s2.hp.next) (hdec i) then β' i else none
 have h1 : ∀ i pl,i.under (cx.lvl + 1) s2.hp.next → β' i = some pl → β1 i = some pl:=by
  intro i pl hi hb
  show (if _ then _ else _) = _
  rw [if_pos (by simpa using hi)]
  exact hb
 have h1' : ∀ i pl,β1 i = some pl → β' i = some pl ∧ i.under (cx.lvl + 1) s2.hp.next:=by
  intro i pl hb
  have hb : (if @decide (i.under (cx.lvl + 1) s2.hp.next) (hdec i) then β' i else none) = some pl:=hb
  split at hb
  ·rename_i hi; exact ⟨hb,by simpa using hi⟩
  ·simp at hb
 have hns : ∀ i pl,i.isStk = false → β' i = some pl → β1 i = some pl:=by
  intro i pl hi hb
  refine h1 i pl ?_ hb
  have:=hA.dom i pl hb
  cases i <;> simp_all [Id.under,Id.isStk]
 have hmono : ∀ i pl,β i = some pl → β1 i = some pl:=by
  intro i pl hb
  have hu:=h.dom i pl hb
  refine h1 i pl ?_ (hA.ext i pl ?_ hb)
  ·cases i <;> simp_all [Id.under]
   have:=hA.next; omega
  ·rw [hl]; exact hu
 have hlook : ∀ i b,(s.pop cx.lvl hide s2.hp).look cx i = some b → (s2.look cx' i = some b ∧ ∀ t,i ≠ .stk cx'.lvl t) ∨ (∃ t,i = .stk cx.lvl t ∧ has hide t = true ∧ s.own.get t = some b):=by
  intro i b hb
  cases i with
  | stk l t =>
   by_cases hll : l = cx.lvl
   ·subst hll
    simp only [St.look,Id.own,if_true,St.pop,Own.get_unveil] at hb
    split at hb
    ·rename_i hhd; exact .inr ⟨t,rfl,hhd,hb⟩
    ·refine .inl ⟨?_,fun t' e=>by simp at e; omega⟩
     simp only [St.look,Id.own,hl]
     rw [if_neg (by omega)]
     exact hb
   ·simp only [St.look,Id.own,if_neg hll,St.pop,HP.pop,HP.look] at hb
    by_cases hl2 : l = cx'.lvl
    ·have:=hA.top l (by omega)
     rw [this] at hb
     simp [Own.get] at hb
    ·refine .inl ⟨?_,fun t' e=>by simp at e; exact hl2 e.1⟩
     simp only [St.look,Id.own,if_neg hl2,HP.look]
     exact hb
  | obj n=>exact .inl ⟨by simpa [St.look,Id.own,St.pop,HP.pop,HP.look] using hb,by simp⟩
  | arg n=>exact .inl ⟨by simpa [St.look,Id.own,St.pop,HP.pop,HP.look] using hb,by simp⟩

 have hmix : ∀ t b j bj pi pj,has hide t = true → s.own.get t = some b → s2.look cx' j = some bj → β1 (.stk cx.lvl t) = some pi → β1 j = some pj → pi.r ≠ pj.r:=by
  intro t b j bj pi pj hht ho hj hpi hpj e
  have hlk : s.look cx (.stk cx.lvl t) = some b:=by rw [look_stk]; exact ho
  obtain ⟨pl,cs,T,fr,hB⟩:=h.mem.live _ b hlk
  obtain rfl:=Option.some.inj ((hmono _ _ hB.place).symm.trans hpi)
  have hnO:=hh t b pl hht ho hB.place
  obtain ⟨plj,csj,Tj,frj,hBj⟩:=hA.mem.live j bj hj
  obtain rfl:=Option.some.inj (hBj.place.symm.trans (h1' j pj hpj).1)
  cases hja : j.isArg with
  | false=>exact hnO (by rw [e]; exact (hBj.own hja).2)
  | true =>
   cases j with
   | arg n =>
    rw [harg] at hj
    obtain ⟨plj',_,_,_,hBj'⟩:=h.mem.live _ bj hj
    obtain rfl:=Option.some.inj ((hmono _ _ hBj'.place).symm.trans hpj)
    have:=(h.mem.apart _ _ _ _ _ _ hlk hj hB.place hBj'.place (by simp) e).1
    simp [Id.isArg] at this
   | _=>simp [Id.isArg] at hja
 refine ⟨β1,Rel_setd (s:=s.pop cx.lvl hide s2.hp) ⟨fun t=>VR_mono hmono (h.slots t),⟨?_,?_⟩,fun i pl hb=>(h1' i pl hb).2,?_,fun r hr=>h.fresh r (Nat.le_trans hA.same.size hr),h.defers,h.size,h.inv.step (hA.same.mono hO)⟩ hd ?_,fun i pl _ hb=>hmono i pl hb⟩
 ·intro i b hb
  rcases hlook i b hb with ⟨hb2,hne⟩ | ⟨t,rfl,hht,ho⟩
  ·obtain ⟨pl,cs,T,fr,hB⟩:=hA.mem.live i b hb2
   have hu:=hA.dom i pl hB.place
   have hu' : i.under (cx.lvl + 1) s2.hp.next:=by
    cases i with
    | stk l t =>
     simp only [Id.under] at hu ⊢
     have : l ≠ cx'.lvl:=fun e=>by subst e; exact hne t rfl
     omega
    | obj n=>exact hu
    | arg n=>trivial
   exact ⟨pl,cs,T,fr,h1 i pl hu' hB.place,hB.ty,hB.fits,hB.heap,hB.room,hB.size,cells_congr (Ty.fits_safe hB.fits) hns hB.cells,fun hi=>⟨(hB.own hi).1,hO _ (hB.own hi).2⟩⟩
  ·have hlk : s.look cx (.stk cx.lvl t) = some b:=by rw [look_stk]; exact ho
   obtain ⟨pl,cs,T,fr,hB⟩:=h.mem.live _ b hlk
   have hlt:=HR_lt h.mem hlk hB.place
   have hsame:=hA.same.block pl.r hlt (hh t b pl hht ho hB.place)
   exact ⟨pl,cs,T,fr,hmono _ _ hB.place,hB.ty,hB.fits,by rw [hsame]; exact hB.heap,hB.room,hB.size,cells_congr (Ty.fits_safe hB.fits) (fun i pl _ hb=>hmono i pl hb) hB.cells,hB.own⟩
 ·intro i j bi bj pi pj hi hj hpi hpj
  rcases hlook i bi hi with ⟨hi2,_⟩ | ⟨t,rfl,hht,ho⟩ <;> rcases hlook j bj hj with ⟨hj2,_⟩ | ⟨t',rfl,hht',ho'⟩
  ·exact hA.mem.apart i j bi bj pi pj hi2 hj2 (h1' i pi hpi).1 (h1' j pj hpj).1
  ·exact fun _ e=>absurd e.symm (hmix t' bj i bi pj pi hht' ho' hi2 hpj hpi)
  ·exact fun _ e=>absurd e (hmix t bi j bj pi pj hht ho hj2 hpi hpj)
  ·have hlk : s.look cx (.stk cx.lvl t) = some bi:=by rw [look_stk]; exact ho
   have hlk' : s.look cx (.stk cx.lvl t') = some bj:=by rw [look_stk]; exact ho'
   obtain ⟨p1,_,_,_,hB1⟩:=h.mem.live _ bi hlk
   obtain ⟨p2,_,_,_,hB2⟩:=h.mem.live _ bj hlk'
   obtain rfl:=Option.some.inj ((hmono _ _ hB1.place).symm.trans hpi)
   obtain rfl:=Option.some.inj ((hmono _ _ hB2.place).symm.trans hpj)
   exact h.mem.apart _ _ bi bj _ _ hlk hlk' hB1.place hB2.place
 ·intro l hle
  simp only [St.pop,HP.pop]
  by_cases hll : l = cx.lvl
  ·rw [if_pos hll]; exact h.top _ (Nat.le_refl _)
  ·rw [if_neg hll]; exact hA.top l (by omega)
 ·refine VR_congr (fun i pl hi hb=>?_) hv
  rcases hi with hi | hi
  ·rcases hr with hr | ⟨u,rfl⟩
   ·simp only [AV.leads,Bool.and_eq_true,Bool.not_eq_true'] at hi
    exact hns i pl (safe_names hr hi.1 hi.2) hb
   ·simp [AV.leads,AV.names] at hi
  ·exact hns i pl hi hb
omit [Fix] in
theorem push_look_veil {hide : List Nat} : (s.hp.push cx.lvl (s.own.veil hide)).look = fun i=>match i.own cx.lvl with | some t=>if has hide t then none else s.look cx i | none=>s.look cx i:=by
 funext i
 cases i with
 | stk l t =>
  simp only [HP.look,HP.push,St.look,Id.own]
  by_cases h : l = cx.lvl <;> simp [h,Own.get_veil]
 | obj n=>simp [HP.look,HP.push,St.look,Id.own]
 | arg n=>simp [HP.look,HP.push,St.look,Id.own]
end
open Go.RowKit
section
variable [Fix] {φ : Nat → Option FuncId} {β : Beta} {P : Program} {O : Nat → Prop} {w w' : World} {look look' : Id → Option Blk} {nt : Nat} {cx : Cx} {s s' s1 : St} {a : Act} {T : Nat → Option MFun} {draw : Array Oper → List MOp → Bool}
theorem eff_lets {d : Option Nat} {esc : Bool} {e : Eff} {v : AV} (h : applyEff cx d esc s e = some (v,s')) : e.lets:=by
 cases e with
 | val=>trivial
 | new=>trivial
 | wr i b u =>
  simp only [applyEff,Option.map_eq_some_iff] at h
  obtain ⟨s1,hw,_⟩:=h
  exact (look_write hw).1
 | del j =>
  simp only [applyEff,Option.map_eq_some_iff] at h
  obtain ⟨s1,hw,_⟩:=h
  exact (look_drop hw).1
 | grow j b n =>
  cases d with
  | none=>simp [applyEff] at h
  | some t =>
   simp only [applyEff,Option.map_eq_some_iff] at h
   obtain ⟨s1,hw,_⟩:=h
   exact (look_drop hw).1
theorem fn_facts {F : FuncId} {fn : MFun} (h : matchFn P φ draw F fn = true) : ∃ f c, P.funcs[F]? = some f ∧ f.body = some c ∧ matchC P φ f.ntmps draw c fn.body = true ∧ matchRes P f.results.toList fn.res = true ∧ fn.params + fn.nfree ≤ f.ntmps ∧ (f.name == "runtime.NumGoroutine") = false := by
 unfold matchFn at h
 cases hf : P.funcs[F]? with
 | none=>simp [hf] at h
 | some f =>
  simp only [hf,Bool.and_eq_true] at h
  cases hb : f.body with
  | none=>simp [hb] at h
  | some c =>
   simp only [hb,decide_eq_true_eq,Bool.not_eq_true'] at h
   exact ⟨f,c,rfl,hb,h.1.1.1,h.1.1.2,h.1.2,h.2⟩
theorem run_callFunc {F : FuncId} {fn : MFun} {args : Array Value} (h : FnOk P T φ draw F fn) : (callFunc F args).run P w = .ok (.enter F args) w:=by
 obtain ⟨f, c, hf, hb, hn⟩ : ∃ f c, P.funcs[F]? = some f ∧ f.body = some c ∧ (f.name == "runtime.NumGoroutine") = false := by
  rcases h with h | h
  ·obtain ⟨f,c,hf,hb,_,_,_,hn⟩:=fn_facts h
   exact ⟨f,c,hf,hb,hn⟩
  ·exact h.1
 simp only [callFunc,Sem.run_bind,run_program,Result.andThen_ok,hf,hn,Bool.false_eq_true,if_false,hb,Option.isNone_some,Sem.run_pure]
def veilO (O : Nat → Prop) (cx : Cx) (s : St) (hide : List Nat) (β : Beta) : Nat → Prop :=
 fun r=>O r ∧ ∀ t b pl,has hide t = true → s.own.get t = some b → β (.stk cx.lvl t) = some pl → r ≠ pl.r
theorem HR_veil {hide : List Nat} (h : HR φ β O (s.look cx) w) : HR φ β (veilO O cx s hide β) (s.hp.push cx.lvl (s.own.veil hide)).look w:=by
 have hl : ∀ i b,(s.hp.push cx.lvl (s.own.veil hide)).look i = some b → s.look cx i = some b ∧ ∀ t,i = .stk cx.lvl t → has hide t = false:=by
  intro i b hb
  rw [push_look_veil] at hb
  simp only at hb
  cases ho : i.own cx.lvl with
  | none=>simp only [ho] at hb; exact ⟨hb,fun t e=>by subst e; simp [Id.own] at ho⟩
  | some t =>
   simp only [ho] at hb
   split at hb
   ·simp at hb
   ·rename_i hh
    refine ⟨hb,fun t' e=>?_⟩
    subst e
    simp [Id.own] at ho
    subst ho
    simpa using hh
 refine ⟨fun i b hb=>?_,fun i j bi bj pi pj hi hj=>h.apart i j bi bj pi pj (hl i bi hi).1 (hl j bj hj).1⟩
 obtain ⟨hb',hne⟩:=hl i b hb
 obtain ⟨pl,cs,T,fr,hB⟩:=h.live i b hb'
 refine ⟨pl,cs,T,fr,hB.place,hB.ty,hB.fits,hB.heap,hB.room,hB.size,hB.cells,fun hi=>⟨(hB.own hi).1,(hB.own hi).2,?_⟩⟩
 intro t b' pl' hht ho hp e
 have hlk : s.look cx (.stk cx.lvl t) = some b':=by rw [look_stk]; exact ho
 have:=(h.apart i (.stk cx.lvl t) b b' pl pl' hb' hlk hB.place hp (fun e=>by rw [hne t e] at hht; simp at hht) e).2
 simp [Id.isArg] at this
theorem call_step {n : Nat} {oper : Oper} {d : Option Nat} {F : FuncId} {f : Nat} {prot : Bool} {hide : List Nat} {args caps : List AV} {rargs rcaps : List Value} {K : Act → World → Prop} {Q : Exit → Act → World → Prop} (hT : TblOk P T φ draw) (ih : ∀ m,m < n → CallSim P T φ draw m)
  (h : Rel φ β O nt cx s a w) (hdst : oper.dst = d) (hd : ∀ t,d = some t → t < nt) (hF : φ f = some F) (hr : (execOp a.eval oper).run P w = .ok (.enter F (rargs ++ rcaps).toArray) w ∨ ∀ g,T f = some g → (execOp a.eval oper).run P w = .ok (.enter F (rargs ++ rcaps).toArray) w) (ha : All2 (VR φ β) args rargs) (hc : All2 (VR φ β) caps rcaps)
  (hs : match enterCmd T cx prot hide f args caps d [] s with
   | .go _ s2=>s1 = s2
   | .call cx' hide fn e _ _ _=>∃ m s2,m < n ∧ run T m cx' [.code fn.body] e = some s2 ∧ back cx cx' hide fn d s s2 = some s1
   | _=>False)
  (hK : ∀ a' w' β',Rel φ β' O nt cx s1 a' w' → SameBut w w' O → Ext cx.lvl s.hp.next β β' → s.hp.next ≤ s1.hp.next → K a' w') :
  oper.wp P a w K Q:=by
 unfold enterCmd at hs
 cases hTf : T f with
 | none=>simp [hTf] at hs
 | some fn =>
  simp only [hTf] at hs
  by_cases hpar : fn.params = args.length ∧ fn.nfree = caps.length
  ·simp only [if_pos hpar] at hs
   obtain ⟨m,s2,hm,hrun,hback⟩:=hs
   unfold back at hback
   simp only [Option.map_eq_some_iff] at hback
   obtain ⟨v,hv,rfl⟩:=hback
   have hmf:=hT f fn F hTf hF
   have hr' : (execOp a.eval oper).run P w = .ok (.enter F (rargs ++ rcaps).toArray) w:=by
    rcases hr with hr | hr
    ·exact hr
    ·exact hr fn hTf
   have harg : ∀ k,s2.look (s.callCx cx prot hide) (.arg k) = s.look cx (.arg k):=by
    intro k
    exact (run_frame (i:=.arg k) hrun trivial).1
   have hcall:=ih m hm fn F hmf (s.callCx cx prot hide) (args ++ caps) (s.hp.push cx.lvl (s.own.veil hide)) s2 v β (veilO O cx s hide β) (rargs ++ rcaps) w hrun hv (by simp [hpar.1,hpar.2]) (ha.append hc)
    (HR_veil h.mem) (fun i pl hb=>h.dom i pl hb) (fun l hl=>by
     have : l ≠ cx.lvl:=by simp [St.callCx] at hl; omega
     simp only [HP.push,if_neg this]
     exact h.top l (by simp [St.callCx] at hl; omega)) (fun r hr=>⟨h.fresh r hr,fun t b pl _ ho hp e=>by
      have:=HR_lt h.mem (i:=.stk cx.lvl t) (by rw [look_stk]; exact ho) hp
      omega⟩) (h.inv.mono fun r hr=>hr.1)
   unfold Oper.wp
   rw [hr']
   simp only [Oper.upon]
   refine hcall.mono fun en w'' hen=>?_
   obtain ⟨x,β',rfl,hvx,hok,hA⟩:=hen
   obtain ⟨β1,hrel,hext⟩:=Rel_back (d:=d) (hide:=hide) h (by simp [St.callCx]) hvx hok hA hd (fun r hr=>hr.1) (fun t b pl hht ho hp hO=>hO.2 t b pl hht ho hp rfl) harg
   rw [hdst]
   exact hK _ _ β1 hrel (hA.same.mono fun r hr=>hr.1) hext (by
    have:=hA.next
    cases d <;> simpa [St.setd,St.pop,HP.pop,HP.push] using this)
  ·simp [if_neg hpar] at hs
theorem step_sound {n : Nat} {oper : Oper} {o : MOp} {ops : Array Oper} {K : Act → World → Prop} {Q : Exit → Act → World → Prop} (hT : TblOk P T φ draw) (ih : ∀ m,m < n → CallSim P T φ draw m) (h : Rel φ β O nt cx s a w) (hs : Step T n cx o s s1) (hm : matchOp P φ nt ops oper o = true)
  (hK : ∀ a' w' β',Rel φ β' O nt cx s1 a' w' → SameBut w w' O → Ext cx.lvl s.hp.next β β' → s.hp.next ≤ s1.hp.next → K a' w') :
  if Region.wanted oper (yielded ops a.tmps) then oper.wp P a w K Q else K (a.put oper.dst undef) w:=by
 unfold matchOp at hm
 simp only [Bool.and_eq_true,beq_iff_eq] at hm
 obtain ⟨⟨⟨hdst,hnt⟩,hg⟩,hm⟩:=hm
 have hd : ∀ t,o.d = some t → t < nt:=by
  intro t ht
  rw [ht] at hnt
  simpa using hnt
 unfold Step at hs
 cases hw : s.wanted o.g with
 | none=>simp [hw] at hs
 | some b =>
  rw [wanted_ok h.slots hg hw]
  cases b with
  | false =>
   simp only [hw] at hs
   simp only [Bool.false_eq_true,if_false]
   subst hs
   rw [hdst]
   exact hK _ _ β (Rel_setd h hd VR_undef) .refl .refl (by cases o.d <;> exact Nat.le_refl _)
  | true =>
   simp only [hw] at hs
   simp only [if_true]
   obtain ⟨od,ok,og⟩:=o
   simp only at hs hdst hm hd
   have hops:=opds_of_slots h.slots
   by_cases hcall : ok.isCall = true
   ·rw [if_pos hcall] at hm
    cases ok <;> simp [MK.isCall] at hcall
    ·rename_i prot hide f args
     unfold matchCall at hm
     split at hm
     ·rename_i F rargs tys prot' hide' f' args' hop heq
      cases heq
      simp only [Bool.and_eq_true,beq_iff_eq] at hm
      simp only [opCmd] at hs
      refine call_step (f:=f) (caps:=[]) (rcaps:=[]) hT ih h hdst hd hm.1 (.inr fun g hg=>?_) (opds_list hops hm.2) All2.nil hs hK
      have hcf:=run_callFunc (w:=w) (args:=(rargs.toList.map a.eval).toArray) (hT f g F hg hm.1)
      have e1 : rargs.map a.eval = (rargs.toList.map a.eval).toArray:=by apply Array.toList_inj.1; rw [Array.toList_map]
      simp only [execOp,hop,resolve,Sem.run_bind,Deferred.ofValue,Act.eval,Sem.run_pure,Result.andThen_ok,invoke,List.append_nil]
      rw [← hcf,e1]
      simp
     ·rename_i heq; cases heq
     ·simp at hm
    ·rename_i prot hide x args
     unfold matchCall at hm
     split at hm
     ·rename_i heq; cases heq
     ·rename_i t rargs tys prot' hide' x' args' hop heq
      cases heq
      simp only [Bool.and_eq_true] at hm
      simp only [opCmd] at hs
      have hx:=hops _ _ hm.1
      cases hv : s.opd x <;> simp only [hv] at hs
      rename_i f cap
      rw [hv] at hx
      obtain ⟨F,caps,hF,hcaps,hxe⟩ : ∃ F caps,φ f = some F ∧ (cap.rel φ β).2 caps ∧ a.eval (.tmp t) = .func (.func F) #[] caps.toArray:=by
       simpa [VR,VR1,AV.isAgg,LR,AV.rel] using hx
      refine call_step (f:=f) (caps:=capList cap) (rcaps:=caps) hT ih h hdst hd hF (.inr fun g hg=>?_) (opds_list hops hm.2) (cap_list hcaps) hs hK
      have hcf:=run_callFunc (w:=w) (args:=(rargs.toList.map a.eval ++ caps).toArray) (hT f g F hg hF)
      have e1 : rargs.map a.eval = (rargs.toList.map a.eval).toArray:=by apply Array.toList_inj.1; rw [Array.toList_map]
      simp only [execOp,hop,resolve,Sem.run_bind,hxe,Deferred.ofValue,Sem.run_pure,Result.andThen_ok,invoke]
      rw [← hcf,e1]
      simp
     ·simp at hm
   ·rw [if_neg hcall] at hm
    have hev : ∃ v s2,evOp cx od ok s = some (v,s2) ∧ s1 = s2.setd od v:=by
     cases ok <;> simp [MK.isCall] at hcall
     all_goals
      simp only [opCmd] at hs
      split at hs
      ·rename_i hc
       split at hc
       ·rename_i v s2 he
        injection hc with hc1 hc2
        subst hc2
        exact ⟨v,s2,he,hs⟩
       ·simp at hc
      ·rename_i hc; split at hc <;> simp at hc
      ·exact hs.elim
    obtain ⟨v,s2,he,rfl⟩:=hev
    unfold evOp at he
    cases hk : evK s.opd (s.look cx) ok with
    | none=>simp [hk] at he
    | some e =>
     simp only [hk] at he
     obtain ⟨nx,x,w',hrun,hval,heff⟩:=op_sound h.mem hops hm hk (eff_lets he)
     obtain ⟨β',hrel,hsame,hext,hnext⟩:=eff_rel h heff he hd
     have hnext' : s.hp.next ≤ (s2.setd od v).hp.next:=by cases od <;> exact hnext
     unfold Oper.wp
     rw [hrun]
     cases nx <;> simp [Next.val] at hval
     ·subst hval
      simp only [Oper.upon]
      rw [hdst]
      exact hK _ _ β' hrel hsame hext hnext'
     ·subst hval
      simp only [Oper.upon]
      rw [hdst]
      exact hK _ _ β' hrel hsame hext hnext'
end
open Go.RowKit
structure Left [Fix] (φ : Nat → Option FuncId) (O : Nat → Prop) (nt : Nat) (cx : Cx) (β : Beta) (n0 : Nat) (w : World) (s1 : St) (β' : Beta) (a' : Act) (w' : World) : Prop where
 rel : Rel φ β' O nt cx s1 a' w'
 same : SameBut w w' O
 ext : Ext cx.lvl n0 β β'
 next : n0 ≤ s1.hp.next
def RegPost [Fix] (φ : Nat → Option FuncId) (O : Nat → Prop) (nt : Nat) (cx : Cx) (β : Beta) (n0 : Nat) (w : World) (s1 : St) : Exit → Act → World → Prop
 | .normal,a',w'=>∃ β',Left φ O nt cx β n0 w s1 β' a' w'
 | _,_,_=>False
def TodoOk (P : Program) (φ : Nat → Option FuncId) (nt : Nat) (draw : Array Oper → List MOp → Bool) : List Item → List Go.Item → Prop
 | [],[]=>True
 | .code c :: k,.code C :: kR=>matchC P φ nt draw C c = true ∧ TodoOk P φ nt draw k kR
 | .inBlock i :: k,.inBlock j :: kR=>i = j ∧ TodoOk P φ nt draw k kR
 | .inLoop _ _ c :: k,.inLoop C :: kR=>matchC P φ nt draw C c = true ∧ TodoOk P φ nt draw k kR
 | _,_=>False
def DrawSound [Fix] (P : Program) (T : Nat → Option MFun) (φ : Nat → Option FuncId) (draw : Array Oper → List MOp → Bool) : Prop :=
 ∀ (n : Nat) (id : Nat) (ops : Array Oper) (l : List MOp) (β : Beta) (O : Nat → Prop) (nt : Nat) (cx : Cx) (tr : Nat → St) (a : Act) (w : World),
  (∀ m,m < n → CallSim P T φ draw m) → draw ops l = true → matchOps P φ nt ops ops.toList l = true → (∀ i (h : i < l.length),Step T n cx l[i] (tr i) (tr (i + 1))) → Rel φ β O nt cx (tr 0) a w →
  drawHead cx (tr 0) l = true → (Code.region id ops true).wp P (RegPost φ O nt cx β (tr 0).hp.next w (tr l.length)) a w
section
variable [Fix] {φ : Nat → Option FuncId} {β : Beta} {P : Program} {O : Nat → Prop} {w w' : World} {look look' : Id → Option Blk} {nt : Nat} {cx : Cx} {s s' s1 : St} {a : Act} {T : Nat → Option MFun} {draw : Array Oper → List MOp → Bool}
theorem matchOps_get : ∀ {os : List Oper} {ms : List MOp} {ops : Array Oper},matchOps P φ nt ops os ms = true → os.length = ms.length ∧ ∀ i (h : i < ms.length) (h' : i < os.length),matchOp P φ nt ops os[i] ms[i] = true
 | [],[],_,_=>⟨rfl,fun i h=>by simp at h⟩
 | [],_ :: _,_,h=>by simp [matchOps] at h
 | _ :: _,[],_,h=>by simp [matchOps] at h
 | o :: os,m :: ms,ops,h=>by
  simp [matchOps] at h
  obtain ⟨hl,hg⟩:=matchOps_get h.2
  refine ⟨by simp [hl],fun i hi hi'=>?_⟩
  cases i with
  | zero=>exact h.1
  | succ i=>exact hg i (by simpa using hi) (by simpa using hi')
theorem Left.step {β' : Beta} {a' : Act} {w'' : World} {s2 : St} {n0 : Nat} {β'' : Beta} {a'' : Act} (h : Left φ O nt cx β n0 w s1 β' a' w') (hr : Rel φ β'' O nt cx s2 a'' w'') (hs : SameBut w' w'' O) (he : Ext cx.lvl s1.hp.next β' β'') (hn : s1.hp.next ≤ s2.hp.next) :
  Left φ O nt cx β n0 w s2 β'' a'' w'':=⟨hr,h.same.trans hs,h.ext.trans he h.next,Nat.le_trans h.next hn⟩
theorem region_text {n : Nat} {id : Nat} {ops : Array Oper} {l : List MOp} {tr : Nat → St} (hT : TblOk P T φ draw) (ih : ∀ m,m < n → CallSim P T φ draw m) (hm : matchOps P φ nt ops ops.toList l = true)
  (hs : ∀ i (h : i < l.length),Step T n cx l[i] (tr i) (tr (i + 1))) (h : Rel φ β O nt cx (tr 0) a w) :
  (Code.region id ops false).wp P (RegPost φ O nt cx β (tr 0).hp.next w (tr l.length)) a w:=by
 obtain ⟨hlen,hget⟩:=matchOps_get hm
 have hsz : ops.size = l.length:=by simpa using hlen
 apply wp_region
 rw [List.range_eq_range',hsz]
 have key : ∀ d i a' w' β',i + d = l.length → Left φ O nt cx β (tr 0).hp.next w (tr i) β' a' w' → wpOps P ops (RegPost φ O nt cx β (tr 0).hp.next w (tr l.length)) (List.range' i d) a' w':=by
  intro d
  induction d with
  | zero =>
   intro i a' w' β' hi hL
   simp only [List.range'_zero,wpOps]
   have : i = l.length:=by omega
   subst this
   exact ⟨β',hL⟩
  | succ d ihd =>
   intro i a' w' β' hi hL
   have hil : i < l.length:=by omega
   have his : i < ops.size:=by omega
   simp only [List.range'_succ,wpOps]
   have ho : ops[i]? = some ops[i]:=Array.getElem?_eq_getElem his
   rw [ho]
   simp only
   have hmo:=hget i hil (by simpa using his)
   have:=step_sound (K:=wpOps P ops (RegPost φ O nt cx β (tr 0).hp.next w (tr l.length)) (List.range' (i + 1) d)) (Q:=RegPost φ O nt cx β (tr 0).hp.next w (tr l.length)) (ops:=ops) hT ih hL.rel (hs i hil) (by simpa using hmo)
    fun a'' w'' β'' hr hsame hext hn=>ihd (i + 1) a'' w'' β'' (by omega) (hL.step hr hsame hext hn)
   split
   ·rename_i hw; rw [if_pos (by simpa using hw)] at this; exact .inl (by simpa using this)
   ·rename_i hw; rw [if_neg (by simpa using hw)] at this; simpa using this
 exact key l.length 0 a w β (by omega) ⟨h,.refl,.refl,Nat.le_refl _⟩
theorem exitTo_ok {id : Nat} : ∀ {k k' : List Item} {kR : List Go.Item},TodoOk P φ nt draw k kR → exitTo id k = some k' → ∃ kR',Go.exitTo id kR = some kR' ∧ TodoOk P φ nt draw k' kR'
 | [],k',kR,_,h=>by simp [exitTo] at h
 | .ops .. :: _,_,kR,ht,h=>by cases kR <;> simp [TodoOk] at ht
 | .code c :: k,k',kR,ht,h=>by
  cases kR with
  | nil=>simp [TodoOk] at ht
  | cons x kR =>
   cases x <;> simp [TodoOk] at ht
   simp only [exitTo] at h
   obtain ⟨kR',h1,h2⟩:=exitTo_ok ht.2 h
   exact ⟨kR',by simpa [Go.exitTo] using h1,h2⟩
 | .inLoop _ _ c :: k,k',kR,ht,h=>by
  cases kR with
  | nil=>simp [TodoOk] at ht
  | cons x kR =>
   cases x <;> simp [TodoOk] at ht
   simp only [exitTo] at h
   obtain ⟨kR',h1,h2⟩:=exitTo_ok ht.2 h
   exact ⟨kR',by simpa [Go.exitTo] using h1,h2⟩
 | .inBlock i :: k,k',kR,ht,h=>by
  cases kR with
  | nil=>simp [TodoOk] at ht
  | cons x kR =>
   cases x <;> simp [TodoOk] at ht
   obtain ⟨rfl,ht⟩:=ht
   simp only [exitTo] at h
   split at h
   ·rename_i he
    simp at h
    subst h
    exact ⟨kR,by simp [Go.exitTo,he],ht⟩
   ·rename_i he
    obtain ⟨kR',h1,h2⟩:=exitTo_ok ht h
    exact ⟨kR',by simpa [Go.exitTo,he] using h1,h2⟩
theorem Rel_kill {l : List Nat} (h : Rel φ β O nt cx s a w) : Rel φ β O nt cx (s.kill l) a w :=
 ⟨fun t=>by
  simp only [St.kill,Slots.get_without]
  split
  ·exact VR_bot
  ·exact h.slots t,h.mem,h.dom,h.top,h.fresh,h.defers,h.size,h.inv⟩
theorem Rel_keep {l o : List Nat} (h : Rel φ β O nt cx s a w) : Rel φ β O nt cx (s.keep l o) a w :=
 ⟨fun t=>by
  simp only [St.keep,Slots.get_only]
  split
  ·exact h.slots t
  ·exact VR_bot,HR_mono h.mem (fun i b hb=>by
   simp only [St.look,St.keep] at hb ⊢
   split at hb
   ·rw [Own.get_only] at hb
    split at hb
    ·exact hb
    ·simp at hb
   ·exact hb),h.dom,h.top,h.fresh,h.defers,h.size,h.inv⟩
theorem Rel_lift {t : Nat} (h : Rel φ β O nt cx s a w) (hl : s.lift cx t = some s1) : ∃ β',Rel φ β' O nt cx s1 a w ∧ Ext cx.lvl s.hp.next β β' ∧ s.hp.next ≤ s1.hp.next:=by
 unfold St.lift at hl
 split at hl
 ·simp at hl; subst hl; exact ⟨β,h,.refl,Nat.le_refl _⟩
 ·rename_i l u off len hg
  split at hl
  ·rename_i hlv
   subst hlv
   split at hl
   ·rename_i b hb
    simp at hl
    subst hl
    have hlk : s.look cx (.stk cx.lvl u) = some b:=by rw [look_stk]; exact hb
    obtain ⟨pl,cs,T',fr,hB⟩:=h.mem.live _ _ hlk
    obtain ⟨hfr,hO⟩:=hB.own rfl
    subst hfr
    have hnone : β (.obj s.hp.next) = none:=by
     cases hb : β (.obj s.hp.next) with
     | none=>rfl
     | some p=>have:=h.dom _ p hb; simp [Id.under] at this
    have hap : ∀ j bj pj,j ≠ .stk cx.lvl u → s.look cx j = some bj → β j = some pj → pj.r ≠ pl.r:=fun j bj pj hj hlj hbj e=>by
     have:=(h.mem.apart j (.stk cx.lvl u) bj b pj pl hlj hlk hbj hB.place hj e).2
     simp [Id.isArg] at this
    let s2 : St:={ sl:=Slots.set (Slots.forget s.sl (.stk cx.lvl u)) t (.sl (.obj s.hp.next) off len),own:=s.own.rid u,hp:={ s.hp with obj:=fun n=>if n = s.hp.next then some b else s.hp.obj n,next:=s.hp.next + 1 } }
    have hlook : ∀ j,s2.look cx j = if j = .obj s.hp.next then some b else if j = .stk cx.lvl u then none else s.look cx j:=by
     intro j
     simp only [s2,St.look]
     cases ho : j.own cx.lvl with
     | some t' =>
      have:=own_some ho
      subst this
      simp only [Own.get_rid]
      by_cases hu : u = t'
      ·subst hu; simp
      ·rw [if_neg hu,if_neg (by simp),if_neg (by simp; exact fun e=>hu e.symm)]
     | none =>
      have hn:=own_none ho u
      rw [if_neg hn]
      cases j with
      | obj n =>
       simp only [HP.look]
       by_cases hn : n = s.hp.next <;> simp [hn]
      | _=>simp [HP.look]
    refine ⟨upd β (.obj s.hp.next) pl,⟨?_,?_,?_,h.top,h.fresh,h.defers,h.size,h.inv⟩,?_,Nat.le_succ _⟩
    ·intro t'
     show VR φ _ (Slots.get (Slots.set (Slots.forget s.sl (.stk cx.lvl u)) t (.sl (.obj s.hp.next) off len)) t') _
     rw [Slots.get_set]
     by_cases ht : t = t'
     ·subst ht
      rw [if_pos rfl]
      have hv:=h.slots t
      rw [hg] at hv
      obtain ⟨pl',m,t',cap,hb',hty,h1,h2,h3,hx⟩:=LR_sl hv
      rw [hB.place] at hb'
      obtain rfl:=Option.some.inj hb'
      refine VR_of_VR1 ?_
      simp only [VR1,AV.isAgg,Bool.false_eq_true,if_false]
      exact ⟨pl,m,t',cap,by simp [upd],hty,h1,h2,h3,hx⟩
     ·rw [if_neg ht,Slots.get_forget]
      split
      ·exact VR_bot
      ·refine VR_mono (fun j pj hbj=>?_) (h.slots t')
       unfold upd
       rw [if_neg]
       ·exact hbj
       ·rintro rfl; rw [hnone] at hbj; simp at hbj
    ·have h0 : HR φ β O (fun j=>if j = .stk cx.lvl u then none else s.look cx j) w:=HR_mono h.mem fun j bj hj=>by
      by_cases hju : j = .stk cx.lvl u
      ·rw [if_pos hju] at hj; simp at hj
      ·rw [if_neg hju] at hj; exact hj
     refine HR_upd (look':=s2.look cx) h0 rfl (.inr hnone) ⟨cs,T',hB.heap,hB.room,hB.size,hB.ty,hB.fits,hB.cells⟩ hO (fun j bj pj hj hlj hbj=>?_) (by rw [hlook,if_pos rfl]) (fun j bj hj hlj=>by rw [hlook,if_neg hj] at hlj; exact hlj)
     rw [hlook,if_neg hj] at hlj
     by_cases hju : j = .stk cx.lvl u
     ·rw [if_pos hju] at hlj; simp at hlj
     ·rw [if_neg hju] at hlj
      exact ⟨hap j bj pj hju hlj hbj,rfl⟩
    ·intro i p hi
     unfold upd at hi
     split at hi
     ·rename_i e; subst e; simp [Id.under]
     ·have:=h.dom i p hi
      cases i <;> simp_all [Id.under]; omega
    ·intro i p hi hbi
     unfold upd
     rw [if_neg]
     ·exact hbi
     ·rintro rfl; rw [hnone] at hbi; simp at hbi
   ·simp at hl
  ·simp at hl
 ·simp at hl
theorem Rel_lifts : ∀ {l : List Nat} {s s1 : St} {β : Beta},Rel φ β O nt cx s a w → s.lifts cx l = some s1 → ∃ β',Rel φ β' O nt cx s1 a w ∧ Ext cx.lvl s.hp.next β β' ∧ s.hp.next ≤ s1.hp.next
 | [],s,s1,β,h,hl=>by simp [St.lifts] at hl; subst hl; exact ⟨β,h,.refl,Nat.le_refl _⟩
 | t :: r,s,s1,β,h,hl=>by
  simp only [St.lifts] at hl
  cases hlt : s.lift cx t with
  | none=>simp [hlt] at hl
  | some s2 =>
   simp only [hlt,Option.bind_some] at hl
   obtain ⟨β1,h1,e1,n1⟩:=Rel_lift h hlt
   obtain ⟨β2,h2,e2,n2⟩:=Rel_lifts h1 hl
   exact ⟨β2,h2,e1.trans e2 n1,Nat.le_trans n1 n2⟩
end
open Go.RowKit
section
variable [Fix] {φ : Nat → Option FuncId} {P : Program} {T : Nat → Option MFun} {draw : Array Oper → List MOp → Bool}
def Sim [Fix] (P : Program) (T : Nat → Option MFun) (φ : Nat → Option FuncId) (draw : Array Oper → List MOp → Bool) (n : Nat) : Prop :=
 ∀ (cx : Cx) (k : List Item) (s s' : St) (β : Beta) (O : Nat → Prop) (nt : Nat) (b : Frame) (a : Act) (kR : List Go.Item) (cs : List Frame) (w : World),
  run T n cx k s = some s' → TodoOk P φ nt draw k kR → Rel φ β O nt cx s a w →
  ∃ β' a' w' todo,Steps P (lone (b.at a kR) cs w) (lone { b.at a' todo with mode:=.returning } cs w') ∧ Left φ O nt cx β s.hp.next w s' β' a' w'
theorem Left.from {O : Nat → Prop} {nt : Nat} {cx : Cx} {β : Beta} {n0 : Nat} {w : World} {s1 s2 : St} {β' β'' : Beta} {a' a'' : Act} {w' w'' : World} (h : Left φ O nt cx β n0 w s1 β' a' w') (k : Left φ O nt cx β' s1.hp.next w' s2 β'' a'' w'') :
  Left φ O nt cx β n0 w s2 β'' a'' w'':=h.step k.rel k.same k.ext k.next
theorem Left.start {O : Nat → Prop} {nt : Nat} {cx : Cx} {β : Beta} {w : World} {s : St} {a : Act} (h : Rel φ β O nt cx s a w) : Left φ O nt cx β s.hp.next w s β a w:=⟨h,.refl,.refl,Nat.le_refl _⟩
theorem sim (hT : TblOk P T φ draw) (hD : DrawSound P T φ draw) (n : Nat) (ih : ∀ m,m < n → CallSim P T φ draw m) : ∀ m,m ≤ n → Sim P T φ draw m:=by
 intro m
 induction m using Nat.strongRecOn with
 | _ m ihm =>
  intro hmn cx k s s' β O nt b a kR cs w hrun hk hR
  cases m with
  | zero=>simp [run] at hrun
  | succ m =>
   have go : ∀ {k1 : List Item} {s1 : St} {kR1 : List Go.Item} {a1 : Act} {w1 : World} {β1 : Beta} {m' : Nat},m' ≤ m → run T m' cx k1 s1 = some s' → TodoOk P φ nt draw k1 kR1 → Left φ O nt cx β s.hp.next w s1 β1 a1 w1 → Steps P (lone (b.at a kR) cs w) (lone (b.at a1 kR1) cs w1) →
     ∃ β' a' w' todo,Steps P (lone (b.at a kR) cs w) (lone { b.at a' todo with mode:=.returning } cs w') ∧ Left φ O nt cx β s.hp.next w s' β' a' w':=by
    intro k1 s1 kR1 a1 w1 β1 m' hm' hr hk1 hL hst
    obtain ⟨β',a',w',todo,h1,h2⟩:=ihm m' (by omega) (by omega) cx k1 s1 s' β1 O nt b a1 kR1 cs w1 hr hk1 hL.rel
    exact ⟨β',a',w',todo,hst.trans h1,hL.from h2⟩
   rw [run] at hrun
   cases k with
   | nil =>
    simp only [next,Option.some.injEq] at hrun
    subst hrun
    cases kR with
    | cons=>simp [TodoOk] at hk
    | nil=>exact ⟨β,a,w,[],.one step_end,Left.start hR⟩
   | cons it k =>
    cases it with
    | ops l kill=>cases kR <;> simp [TodoOk] at hk
    | inBlock i =>
     cases kR with
     | nil=>simp [TodoOk] at hk
     | cons x kR =>
      cases x <;> simp [TodoOk] at hk
      simp only [next] at hrun
      exact go (Nat.le_refl _) hrun hk.2 (Left.start hR) (.one step_inBlock)
    | inLoop keep ko c =>
     cases kR with
     | nil=>simp [TodoOk] at hk
     | cons x kR =>
      cases x <;> simp [TodoOk] at hk
      simp only [next] at hrun
      exact go (Nat.le_refl _) hrun (k1:=.code c :: .inLoop keep ko c :: k) (kR1:=.code _ :: .inLoop _ :: kR) ⟨hk.1,hk.1,hk.2⟩ (s1:=s.keep keep ko) ⟨Rel_keep hR,.refl,.refl,Nat.le_refl _⟩ (.one step_inLoop)
    | code c =>
     cases kR with
     | nil=>simp [TodoOk] at hk
     | cons x kR =>
      cases x <;> simp [TodoOk] at hk
      rename_i C
      obtain ⟨hc,hk⟩:=hk
      cases C <;> cases c <;> simp only [matchC,Bool.and_eq_true,beq_iff_eq] at hc <;> try (simp at hc; done)
      ·
       simp only [next] at hrun
       exact go (Nat.le_refl _) hrun hk (Left.start hR) (.one step_skip)
      ·
       rename_i id ops d e l kill
       obtain ⟨⟨rfl,hmo⟩,hdr⟩:=hc
       simp only [next] at hrun
       split at hrun
       ·rename_i hcmd; split at hcmd <;> simp at hcmd
       ·simp at hrun
       ·rename_i k1 s1 hcmd
        split at hcmd
        ·simp at hcmd
        ·rename_i hhead
         injection hcmd with h1 h2
         subst h1 h2
         obtain ⟨tr,h0,hst,m',hm',hr'⟩:=trace hrun
         have hwp : (Code.region id ops d).wp P (RegPost φ O nt cx β (tr 0).hp.next w (tr l.length)) a w:=by
          cases d with
          | false=>exact region_text hT (fun j hj=>ih j (by omega)) hmo hst (by rw [h0]; exact hR)
          | true =>
           refine hD m id ops l β O nt cx tr a w (fun j hj=>ih j (by omega)) (by simpa using hdr) hmo hst (by rw [h0]; exact hR) (by rw [h0]; simpa using hhead)
         obtain ⟨en,a1,w1,hq,harr⟩:=hwp b kR cs
         cases en with
         | normal =>
          obtain ⟨β1,hL⟩:=hq
          rw [h0] at hL
          exact go (by omega) hr' hk (s1:=(tr l.length).kill kill) ⟨Rel_kill hL.rel,hL.same,hL.ext,hL.next⟩ harr
         | _=>exact hq.elim
       ·rename_i hcmd; split at hcmd <;> simp at hcmd
      ·
       rename_i id ops d e lf l kill
       obtain ⟨⟨rfl,hmo⟩,hdr⟩:=hc
       simp only [next] at hrun
       cases hlf : s.lifts cx lf with
       | none=>simp [hlf] at hrun
       | some sL =>
       simp only [hlf] at hrun
       obtain ⟨βL,hRL,hEL,hNL⟩:=Rel_lifts hR hlf
       split at hrun
       ·rename_i hcmd; split at hcmd <;> simp at hcmd
       ·simp at hrun
       ·rename_i k1 s1 hcmd
        split at hcmd
        ·simp at hcmd
        ·rename_i hhead
         injection hcmd with h1 h2
         subst h1 h2
         obtain ⟨tr,h0,hst,m',hm',hr'⟩:=trace hrun
         have hwp : (Code.region id ops d).wp P (RegPost φ O nt cx βL (tr 0).hp.next w (tr l.length)) a w:=by
          cases d with
          | false=>exact region_text hT (fun j hj=>ih j (by omega)) hmo hst (by rw [h0]; exact hRL)
          | true =>
           refine hD m id ops l βL O nt cx tr a w (fun j hj=>ih j (by omega)) (by simpa using hdr) hmo hst (by rw [h0]; exact hRL) (by rw [h0]; simpa using hhead)
         obtain ⟨en,a1,w1,hq,harr⟩:=hwp b kR cs
         cases en with
         | normal =>
          obtain ⟨β1,hL⟩:=hq
          rw [h0] at hL
          exact go (by omega) hr' hk (s1:=(tr l.length).kill kill) ⟨Rel_kill hL.rel,hL.same,hEL.trans hL.ext hNL,Nat.le_trans hNL hL.next⟩ harr
         | _=>exact hq.elim
       ·rename_i hcmd; split at hcmd <;> simp at hcmd
      ·
       rename_i A B c d
       simp only [next] at hrun
       exact go (Nat.le_refl _) hrun (k1:=.code c :: .code d :: k) (kR1:=.code A :: .code B :: kR) ⟨hc.1,hc.2,hk⟩ (Left.start hR) (.one step_seq)
      ·
       rename_i x A B y c d
       obtain ⟨⟨hxy,hA⟩,hB⟩:=hc
       have hv:=opds_of_slots hR.slots x y hxy
       simp only [next] at hrun
       cases hy : s.opd y <;> simp only [hy] at hrun <;> try (simp at hrun; done)
       rename_i t
       rw [hy] at hv
       refine go (Nat.le_refl _) hrun (k1:=.code (if t then c else d) :: k) (kR1:=.code (if t then A else B) :: kR) ⟨?_,hk⟩ (Left.start hR) (.one (step_cond (LR_bool hv)))
       cases t
       ·exact hB
       ·exact hA
      ·
       rename_i i A j c
       obtain ⟨rfl,hA⟩:=hc
       simp only [next] at hrun
       exact go (Nat.le_refl _) hrun (k1:=.code c :: .inBlock i :: k) (kR1:=.code A :: .inBlock i :: kR) ⟨hA,rfl,hk⟩ (Left.start hR) (.one step_block)
      ·
       rename_i A keep ko c
       simp only [next] at hrun
       exact go (Nat.le_refl _) hrun (k1:=.code c :: .inLoop keep ko c :: k) (kR1:=.code A :: .inLoop A :: kR) ⟨hc,hc,hk⟩ (s1:=s.keep keep ko) ⟨Rel_keep hR,.refl,.refl,Nat.le_refl _⟩ (.one step_loop)
      ·
       rename_i i j
       subst hc
       simp only [next] at hrun
       cases he : exitTo i k with
       | none=>simp [he] at hrun
       | some k' =>
        simp only [he] at hrun
        obtain ⟨kR',h1,h2⟩:=exitTo_ok hk he
        exact go (Nat.le_refl _) hrun h2 (Left.start hR) (.one (step_exit h1))
      ·
       simp only [next,Option.some.injEq] at hrun
       subst hrun
       exact ⟨β,a,w,_,.one step_ret,Left.start hR⟩
theorem SR_enter {β : Beta} : ∀ {args : List AV} {rargs : List Value} {n : Nat} {tmps : Array Value},All2 (VR φ β) args rargs → (∀ i x,rargs[i]? = some x → tmps.getD (n + i) undef = x) → ∀ t,VR φ β (Slots.get (enterSlots n args) t) (tmps.getD t undef)
 | [],_,n,tmps,_,_=>fun t=>by simp only [enterSlots,Slots.get]; exact VR_bot
 | v :: args,[],n,tmps,h,_=>by have:=h.1; simp at this
 | v :: args,x :: rargs,n,tmps,h,ht=>fun t=>by
  simp only [enterSlots,Slots.get]
  split
  ·rename_i e
   subst e
   have:=ht 0 x rfl
   simp only [Nat.add_zero] at this
   rw [this]
   exact h.head
  ·exact SR_enter h.tail (fun i y hy=>by
    have:=ht (i + 1) y (by simpa using hy)
    rw [← this]; congr 1; omega) t
theorem callSim (hT : TblOk P T φ draw) (hD : DrawSound P T φ draw) : ∀ n,CallSim P T φ draw n:=by
 intro n
 induction n using Nat.strongRecOn with
 | _ n ih =>
  intro fn F hmf cx args h s2 v β O rargs w hrun hv hlen ha hm hdom htop hfresh hinv
  rcases hmf with hmf | hmf
  rotate_left
  ·exact hmf.2 n cx args h s2 v β O rargs w hrun hv hlen ha hm hdom htop hfresh hinv
  obtain ⟨f,c,hf,hb,hmc,hmr,hnt,_⟩:=fn_facts hmf
  have hS:=sim hT hD n ih n (Nat.le_refl _)
  have hrl : rargs.length = fn.params + fn.nfree:=by rw [← ha.1,hlen]
  let a0 : Act:={ tmps:=rargs.toArray ++ Array.replicate (f.ntmps - rargs.toArray.size) undef,defers:=[] }
  have hR : Rel φ β O f.ntmps cx (St.enter args h) a0 w:=by
   refine ⟨SR_enter ha fun i x hx=>?_,?_,fun i pl hb=>?_,htop,hfresh,rfl,?_,hinv⟩
   ·have hi : i < rargs.length:=by
     rcases Nat.lt_or_ge i rargs.length with h | h
     ·exact h
     ·rw [List.getElem?_eq_none h] at hx; simp at hx
    simp only [Nat.zero_add,Array.getD_eq_getD_getElem?,a0]
    rw [Array.getElem?_append_left (by simpa using hi)]
    simp [hx]
   ·refine HR_mono hm fun i b hb=>?_
    cases i with
    | stk l t =>
     by_cases hl : l = cx.lvl
     ·simp [St.look,St.enter,Id.own,hl,Own.get] at hb
     ·simpa [St.look,St.enter,Id.own,hl] using hb
    | obj k=>simpa [St.look,St.enter,Id.own] using hb
    | arg k=>simpa [St.look,St.enter,Id.own] using hb
   ·have:=hdom i pl hb
    cases i <;> simp_all [Id.under,St.enter]
    omega
   ·simp [a0]; omega
  intro cs
  let b : Frame:={ (default : Frame) with fn:=F,kind:=.normal }
  obtain ⟨β',a',w',todo,hst,hL⟩:=hS cx [.code fn.body] (St.enter args h) s2 β O f.ntmps b a0 [.code c] cs w hrun ⟨hmc,trivial⟩ hR
  obtain ⟨x,hx,hvx,hok⟩:=results_sound hL.rel hmr hv
  have henter : Frame.enter P F rargs.toArray .normal = b.at a0 [.code c]:=by
   simp [Frame.enter,Frame.at,hf,hb,b,a0]
  refine ⟨.returned x,w',{ b.at a' todo with mode:=.returning },⟨x,β',rfl,hvx,hok,⟨hL.rel.mem,hL.same,hL.ext,hL.next,hL.rel.dom,hL.rel.top⟩⟩,?_,rfl,?_⟩
  ·rw [henter]; exact hst
  ·exact ⟨rfl,hL.rel.defers,rfl,f,hf,hx⟩
end
def MK.ops : MK → List Opd
 | .mov x=>[x]
 | .pick c a b=>[c,a,b]
 | .bin _ x y=>[x,y]
 | .eq _ _ x y=>[x,y]
 | .un _ x=>[x]
 | .alloc ..=>[]
 | .box _ _ x=>[x]
 | .build _ ps=>ps.map (·.2)
 | .bslice _ _ _ ps=>ps.map (·.2)
 | .load _ rt _ x=>x :: (rt.toList.filter fun u=>!(u == 1000000 || u == 1000001)).map .s
 | .store _ ap x v=>x :: v :: ap.map .s
 | .nilck x=>[x]
 | .fld _ _ _ x=>[x]
 | .idx _ _ x i=>[x,i]
 | .sidx _ _ x i=>[x,i]
 | .aidx _ _ x i=>[x,i]
 | .stridx x i=>[x,i]
 | .field _ x _=>[x]
 | .ext x _=>[x]
 | .conv _ x=>[x]
 | .len _ x=>[x]
 | .min x y=>[x,y]
 | .max x y=>[x,y]
 | .append _ ap _ x y=>x :: y :: (ap.filter fun u=>!(u == 1000002 || u == 1000003)).map .s
 | .slice rt _ x lo hi mx=>x :: ((rt.toList.filter fun u=>!(u == 1000000 || u == 1000001)).map .s ++ (lo.toList ++ (hi.toList ++ mx.toList)))
 | .clear _ x=>[x]
 | .eqp _ x y=>[x,y]
 | .call _ _ _ args=>args
 | .callv _ _ x args=>x :: args
 | .mkfn _ caps=>caps
 | .stuck=>[]
 | .strsl x lo hi=>x :: (lo.toList ++ hi.toList)
 | .tostr x=>[x]
 | .eqif _ x y=>[x,y]
 | .appstr x y=>[x,y]
 | .drop x=>[x]
 | .prim _ xs=>xs
 | .primS _ _ x y=>[x,y]
def MK.shape : MK → Bool
 | .sidx ..=>true
 | .slice ..=>true
 | _=>false
def MK.agree (k : MK) (a b : Option Blk) : Prop:=if k.shape then a.map (·.ty) = b.map (·.ty) else a = b
theorem MK.agree_refl {k : MK} {a : Option Blk} : k.agree a a:=by unfold MK.agree; split <;> rfl
section
variable {g g' : Opd → AV} {look look' : Id → Option Blk} {k : MK}
theorem into_ptr {i : Id} {p : List Nat} {t : Ty} : (AV.ptr i p t).into i = true:=by simp [AV.into]
theorem into_sl {i : Id} {o n : Nat} : (AV.sl i o n).into i = true:=by simp [AV.into]
theorem parts_congr {ps : List (Nat × Opd)} (hg : ∀ x ∈ ps.map (·.2),g x = g' x) : (ps.map fun p=>(p.1,g p.2)) = ps.map fun p=>(p.1,g' p.2) :=
 List.map_congr_left fun p hp=>by rw [hg p.2 (List.mem_map.2 ⟨p,hp,rfl⟩)]
theorem elems_congr {t : Ty} {v : AV} (hl : ∀ i,v.into i = true → look i = look' i) : elems look t v = elems look' t v:=by
 cases v <;> try rfl
 rename_i j off len
 simp only [elems,hl j into_sl]
theorem evAppend_congr {t : Ty} {v : AV} {add : List AV} (hl : ∀ i,v.into i = true → look i = look' i) : evAppend look t v add = evAppend look' t v add:=by
 cases v <;> try rfl
 rename_i j off len
 simp only [evAppend,hl j into_sl]
theorem evSlice_congr {t : Ty} {j : Id} {off : Nat} {a b : Int} {c : Option (Option Int)} (h : (look j).map (·.ty) = (look' j).map (·.ty)) : evSlice look t j off a b c = evSlice look' t j off a b c:=by
 unfold evSlice
 cases h1 : look j with
 | none=>rw [h1] at h; cases h2 : look' j with
  | none=>rfl
  | some b=>rw [h2] at h; simp at h
 | some a=>rw [h1] at h; cases h2 : look' j with
  | none=>rw [h2] at h; simp at h
  | some b=>rw [h2] at h; obtain ⟨t1,v1⟩:=a; obtain ⟨t2,v2⟩:=b; simp at h; subst h; cases t1 <;> rfl
theorem evClear_congr {t : Ty} {v : AV} (hl : ∀ i,v.into i = true → look i = look' i) : evClear look t v = evClear look' t v:=by
 cases v <;> try rfl
 rename_i j off len
 simp only [evClear,hl j into_sl]
theorem eqPtr_congr {v w : AV} (h1 : ∀ i,v.into i = true → look i = look' i) (h2 : ∀ i,w.into i = true → look i = look' i) : eqPtr look v w = eqPtr look' v w:=by
 cases v <;> cases w <;> try rfl
 rename_i i p t j q u
 cases p <;> cases q <;> simp only [eqPtr]
 rw [h1 i into_ptr,h2 j into_ptr]
theorem apOk_congr {v y : AV} {e : Eff} {u : Nat} (h : ¬u = 1000002 → ¬u = 1000003 → g (.s u) = g' (.s u)) : apOk g v y e u = apOk g' v y e u:=by
 unfold apOk
 by_cases h1 : u = 1000002
 ·rw [if_pos h1,if_pos h1]
 ·rw [if_neg h1,if_neg h1]
  by_cases h2 : u = 1000003
  ·rw [if_pos h2,if_pos h2]
  ·rw [if_neg h2,if_neg h2,h h1 h2]
theorem append_inv {esc : Bool} {ap : List Nat} {t : Ty} {x y : Opd} {e : Eff} (h : evK g look (.append esc ap t x y) = some e) : ∃ add,elems look t (g y) = some add ∧ evAppend look t (g x) add = some e ∧ ∀ u ∈ ap,apOk g (g x) (g y) e u = true:=by
 simp only [evK] at h
 split at h <;> try (simp at h; done)
 rename_i add hadd
 split at h <;> try (simp at h; done)
 rename_i e0 he0
 split at h <;> try (simp at h; done)
 rename_i hap
 simp only [Option.some.injEq] at h
 subst h
 exact ⟨add,hadd,he0,List.all_eq_true.1 hap⟩
theorem slice_inv {rt : Option Nat} {t : Ty} {x : Opd} {lo hi mx : Option Opd} {e : Eff} (h : evK g look (.slice rt t x lo hi mx) = some e) :
  (∃ j off len a b,g x = .sl j off len ∧ ixOr g lo 0 = some a ∧ ixOr g hi len = some b ∧ rooted g j rt = true ∧ evSlice look t j off a b (mx.map fun o=>toIx (g o)) = some e) ∨
  ((g x = .nilsl ∨ g x = .slz) ∧ ixOr g lo 0 = some 0 ∧ ixOr g hi 0 = some 0 ∧ mx = none ∧ e = .val (g x) ∧ rootNil g rt = true):=by
 simp only [evK] at h
 split at h <;> try (simp at h; done)
 ·rename_i j off len hx
  split at h <;> try (simp at h; done)
  rename_i a b ha hb
  split at h <;> try (simp at h; done)
  rename_i hr
  exact .inl ⟨j,off,len,a,b,hx,ha,hb,hr,h⟩
 ·rename_i hx
  split at h <;> try (simp at h; done)
  rename_i ha hb
  split at h <;> try (simp at h; done)
  rename_i hr
  simp only [Option.some.injEq] at h
  exact .inr ⟨.inl hx,ha,hb,rfl,by rw [hx]; exact h.symm,hr⟩
 ·rename_i hx
  split at h <;> try (simp at h; done)
  rename_i ha hb
  split at h <;> try (simp at h; done)
  rename_i hr
  simp only [Option.some.injEq] at h
  exact .inr ⟨.inr hx,ha,hb,rfl,by rw [hx]; exact h.symm,hr⟩
theorem evSlice_val {t : Ty} {j : Id} {off : Nat} {a b : Int} {c : Option (Option Int)} {e : Eff} (h : evSlice look t j off a b c = some e) : e = .val .slz ∨ e = .val .bot ∨ ∃ o n,e = .val (.sl j o n):=by
 unfold evSlice at h
 split at h <;> try (simp at h; done)
 split at h <;> try (simp at h; done)
 split at h <;> try (simp at h; done)
 ·split at h
  ·simp at h; exact .inr (.inr ⟨_,_,h.symm⟩)
  ·simp at h; exact .inl h.symm
 ·split at h
  ·simp at h; exact .inr (.inl h.symm)
  ·simp at h
theorem evClear_wr {t : Ty} {v : AV} {e : Eff} (h : evClear look t v = some e) : e = .val .bot ∨ ∃ i b,v.into i = true ∧ e = .wr i b .bot:=by
 unfold evClear at h
 split at h <;> try (simp at h; done)
 ·simp at h; exact .inl h.symm
 ·simp at h; exact .inl h.symm
 ·rename_i j off len
  split at h <;> try (simp at h; done)
  split at h <;> try (simp at h; done)
  split at h <;> try (simp at h; done)
  split at h <;> try (simp at h; done)
  simp only [Option.some.injEq] at h
  exact .inr ⟨j,_,into_sl,h.symm⟩
theorem evK_congr (hg : ∀ x ∈ k.ops,g x = g' x) (hl : ∀ x ∈ k.ops,∀ i,(g x).into i = true → k.agree (look i) (look' i)) : evK g look k = evK g' look' k:=by
 cases k <;> simp only [MK.ops] at hg hl <;> simp only [evK]
 case build t ps=>rw [parts_congr hg]
 case bslice e t n ps=>rw [parts_congr hg]
 case mkfn f caps =>
  have h1 : (caps.all fun y=>(g y).isLeaf) = caps.all fun y=>(g' y).isLeaf:=by
   rw [Bool.eq_iff_iff]
   simp only [List.all_eq_true]
   exact ⟨fun h x hx=>by rw [← hg x hx]; exact h x hx,fun h x hx=>by rw [hg x hx]; exact h x hx⟩
  have h2 : ∀ l : List Opd,(∀ x ∈ l,g x = g' x) → l.foldr (fun x acc=>AV.cons (g x) acc) .unit = l.foldr (fun x acc=>AV.cons (g' x) acc) .unit:=by
   intro l
   induction l with
   | nil=>intro _; rfl
   | cons x l ih =>
    intro h
    simp only [List.foldr]
    rw [ih fun y hy=>h y (List.mem_cons_of_mem _ hy),h x (List.mem_cons_self ..)]
  rw [h1,h2 caps hg]
 case load ro rt t x =>
  have h1 : rooted g = rooted g' ∨ True:=.inr trivial
  have hr : ∀ i,rooted g i rt = rooted g' i rt:=by
   intro i
   cases rt with
   | none=>rfl
   | some u =>
    simp only [rooted]
    by_cases hu : u = 1000000
    ·rw [if_pos hu,if_pos hu]
    ·rw [if_neg hu,if_neg hu]
     by_cases hu' : u = 1000001
     ·rw [if_pos hu',if_pos hu']
     ·rw [if_neg hu',if_neg hu',hg (.s u) (by simp [hu,hu'])]
  have hx:=hg x (by simp)
  have hlx:=hl x (by simp)
  rw [← hx]
  cases hv : g x <;> simp only
  rename_i i p t'
  have:=hlx i (by rw [hv]; exact into_ptr)
  simp only [MK.agree,MK.shape,Bool.false_eq_true,if_false] at this
  rw [hr,this]
 case store t ap x v =>
  have hx:=hg x (by simp)
  have hv:=hg v (by simp)
  have hlx:=hl x (by simp)
  have ha : ∀ i,(ap.all fun u=>apartU g i u) = ap.all fun u=>apartU g' i u:=by
   intro i
   rw [Bool.eq_iff_iff]
   simp only [List.all_eq_true]
   have h1 : ∀ u ∈ ap,apartU g i u = apartU g' i u:=fun u hu=>by unfold apartU; rw [hg (.s u) (by simp [hu])]
   exact ⟨fun h x hx=>by rw [← h1 x hx]; exact h x hx,fun h x hx=>by rw [h1 x hx]; exact h x hx⟩
  rw [← hx,← hv]
  cases hgx : g x <;> simp only
  rename_i i p t'
  have:=hlx i (by rw [hgx]; exact into_ptr)
  simp only [MK.agree,MK.shape,Bool.false_eq_true,if_false] at this
  rw [ha,this]
 case sidx ro t x i =>
  have hx:=hg x (by simp)
  have hi:=hg i (by simp)
  have hlx:=hl x (by simp)
  rw [← hx,← hi]
  cases hgx : g x <;> try rfl
  rename_i j off len
  cases hgi : toIx (g i) <;> try rfl
  rename_i z
  simp only
  have:=hlx j (by rw [hgx]; exact into_sl)
  simp only [MK.agree,MK.shape,if_true] at this
  split
  ·cases h1 : look j with
   | none=>rw [h1] at this; cases h2 : look' j with
    | none=>rfl
    | some b=>rw [h2] at this; simp at this
   | some a=>rw [h1] at this; cases h2 : look' j with
    | none=>rw [h2] at this; simp at this
    | some b=>rw [h2] at this; obtain ⟨t1,v1⟩:=a; obtain ⟨t2,v2⟩:=b; simp at this; subst this; cases t1 <;> rfl
  ·rfl
 case slice rt t x lo hi mx =>
  have hx:=hg x (by simp)
  have hlx:=hl x (by simp)
  have hlo : ixOr g lo 0 = ixOr g' lo 0:=by
   cases lo with
   | none=>rfl
   | some o=>simp only [ixOr]; rw [hg o (by simp)]
  have hhi : ∀ d,ixOr g hi d = ixOr g' hi d:=by
   intro d
   cases hi with
   | none=>rfl
   | some o=>simp only [ixOr]; rw [hg o (by simp)]
  have hmx : (mx.map fun o=>toIx (g o)) = mx.map fun o=>toIx (g' o):=by
   cases mx with
   | none=>rfl
   | some o=>simp only [Option.map_some]; rw [hg o (by simp)]
  have hr : ∀ i,rooted g i rt = rooted g' i rt:=by
   intro i
   cases rt with
   | none=>rfl
   | some u =>
    simp only [rooted]
    by_cases hu : u = 1000000
    ·rw [if_pos hu,if_pos hu]
    ·rw [if_neg hu,if_neg hu]
     by_cases hu' : u = 1000001
     ·rw [if_pos hu',if_pos hu']
     ·rw [if_neg hu',if_neg hu',hg (.s u) (by simp [hu,hu'])]
  have hn : rootNil g rt = rootNil g' rt:=by
   cases rt with
   | none=>rfl
   | some u =>
    simp only [rootNil]
    by_cases hu : u = 1000000
    ·simp [hu]
    ·by_cases hu' : u = 1000001
     ·simp [hu']
     ·rw [hg (.s u) (by simp [hu,hu'])]
  rw [← hx,← hlo,← hmx,← hn]
  cases hgx : g x <;> try rfl
  ·simp only [← hhi]
  ·simp only [← hhi]
  ·rename_i j off len
   have hty:=hlx j (by rw [hgx]; exact into_sl)
   simp only [MK.agree,MK.shape,if_true] at hty
   simp only [← hhi,← hr]
   simp only [evSlice_congr hty]
 case append e ap t x y =>
  have hx:=hg x (by simp)
  have hy:=hg y (by simp)
  simp only [MK.agree,MK.shape,Bool.false_eq_true,if_false] at hl
  have hap : ∀ e,ap.all (apOk g (g x) (g y) e) = ap.all (apOk g' (g x) (g y) e):=by
   intro e
   rw [Bool.eq_iff_iff]
   simp only [List.all_eq_true]
   have h1 : ∀ u ∈ ap,apOk g (g x) (g y) e u = apOk g' (g x) (g y) e u:=fun u hu=>apOk_congr fun n1 n2=>hg (.s u) (by simp [hu,n1,n2])
   exact ⟨fun h x hx=>by rw [← h1 x hx]; exact h x hx,fun h x hx=>by rw [h1 x hx]; exact h x hx⟩
  rw [← hx,← hy,elems_congr (look':=look') (fun i hi=>hl y (by simp) i hi)]
  split
  ·rw [evAppend_congr (look':=look') (fun i hi=>hl x (by simp) i hi)]
   split
   ·rw [hap]
   ·rfl
  ·rfl
 case clear t x =>
  have hx:=hg x (by simp)
  simp only [MK.agree,MK.shape,Bool.false_eq_true,if_false] at hl
  rw [← hx,evClear_congr fun i hi=>hl x (by simp) i hi]
 case strsl x lo hi =>
  have hx:=hg x (by simp)
  have hlo : ixOr g lo 0 = ixOr g' lo 0:=by
   cases lo with
   | none=>rfl
   | some o=>simp only [ixOr]; rw [hg o (by simp)]
  have hhi : ∀ d,ixOr g hi d = ixOr g' hi d:=by
   intro d
   cases hi with
   | none=>rfl
   | some o=>simp only [ixOr]; rw [hg o (by simp)]
  rw [← hx]
  simp only [hlo,hhi]
 case tostr x =>
  have hx:=hg x (by simp)
  simp only [MK.agree,MK.shape,Bool.false_eq_true,if_false] at hl
  rw [← hx,elems_congr (look':=look') (fun i hi=>hl x (by simp) i hi)]
 case appstr x y =>
  have hx:=hg x (by simp)
  have hy:=hg y (by simp)
  simp only [MK.agree,MK.shape,Bool.false_eq_true,if_false] at hl
  rw [← hx,← hy]
  split
  ·rw [evAppend_congr (look':=look') (fun i hi=>hl x (by simp) i hi)]
  ·rfl
 case prim f xs=>rw [List.map_congr_left hg]
 case primS f t x y =>
  have hx:=hg x (by simp)
  have hy:=hg y (by simp)
  simp only [MK.agree,MK.shape,Bool.false_eq_true,if_false] at hl
  rw [← hx,← hy,elems_congr (look':=look') (fun i hi=>hl x (by simp) i hi)]
 case eqp neg x y =>
  have hx:=hg x (by simp)
  have hy:=hg y (by simp)
  simp only [MK.agree,MK.shape,Bool.false_eq_true,if_false] at hl
  rw [← hx,← hy,eqPtr_congr (fun i hi=>hl x (by simp) i hi) (fun i hi=>hl y (by simp) i hi)]
 all_goals (first | rfl | (simp only [List.mem_cons,List.mem_singleton,List.not_mem_nil,or_false,forall_eq_or_imp,forall_eq] at hg; simp only [hg]; done) | skip)
theorem safe_leads {v : AV} (h : v.safe = true) {l u : Nat} : v.leads (.stk l u) = false:=by
 cases v <;> simp [AV.leads,AV.isAgg,AV.names,AV.safe] at h ⊢ <;> (rename_i i _ _; cases i <;> simp_all [AV.safe])
theorem evBin_leads {op : BinOp} {x y v : AV} {i : Id} (h : evBin op x y = some v) : v.leads i = false:=by
 unfold evBin at h
 split at h
 ·split at h
  ·unfold evInt evShift at h
   split at h <;> (try split at h) <;> (try split at h) <;> simp at h <;> (try subst h) <;> rfl
  ·unfold evShift at h
   split at h <;> (try split at h) <;> simp at h <;> subst h <;> rfl
 ·unfold evStr at h
  split at h <;> (try split at h) <;> simp at h <;> subst h <;> rfl
 ·simp at h
theorem evUn_leads {op : UnOp} {x v : AV} {i : Id} (h : evUn op x = some v) : v.leads i = false:=by
 unfold evUn at h
 split at h <;> simp at h <;> subst h <;> rfl
theorem agg_leads {v : AV} {i : Id} (h : v.isAgg = true) : v.leads i = false:=by simp [AV.leads,h]
theorem put_agg {v x w : AV} {j : Nat} (h : v.put [j] x = some w) : w.isAgg = true:=by
 cases v with
 | cons a b =>
  cases j <;> simp only [AV.put,Option.map_eq_some_iff] at h
  ·obtain ⟨y,_,rfl⟩:=h; rfl
  ·obtain ⟨y,_,rfl⟩:=h; rfl
 | arr n f =>
  simp only [AV.put] at h
  split at h
  ·simp only [Option.map_eq_some_iff] at h
   obtain ⟨y,_,rfl⟩:=h; rfl
  ·simp at h
 | _=>simp [AV.put] at h
theorem fill_leads {t : Ty} {i : Id} : ∀ {l : List (Nat × AV)} {v w : AV},fill t v l = some w → v.leads i = false → w.leads i = false
 | [],v,w,h,hv=>by simp [fill] at h; subst h; exact hv
 | (j,x) :: l,v,w,h,hv=>by
  simp only [fill] at h
  split at h
  ·split at h
   ·split at h
    ·rename_i hp; exact fill_leads h (agg_leads (put_agg hp))
    ·simp at h
   ·simp at h
  ·simp at h
theorem zero_leads {t : Ty} {i : Id} : t.zero.leads i = false:=by
 cases t with
 | leaf k=>cases k <;> rfl
 | _=>rfl
theorem safe_field : ∀ {v : AV} {i : Nat} {u : AV},v.safe = true → v.field i = some u → u.safe = true:=by
 intro v
 induction v with
 | cons a b iha ihb =>
  intro i u h hf
  simp only [AV.safe,Bool.and_eq_true] at h
  cases i with
  | zero=>simp [AV.field] at hf; subst hf; exact h.1
  | succ i=>exact ihb h.2 hf
 | _=>intro i u h hf; simp [AV.field] at hf
theorem caps_leads {g : Opd → AV} {i : Id} : ∀ {l : List Opd},(∀ y ∈ l,(g y).isLeaf = true) → (∀ y ∈ l,(g y).leads i = false) → (l.foldr (fun x acc=>AV.cons (g x) acc) .unit).names i = false
 | [],_,_=>rfl
 | y :: l,h1,h2=>by
  have hl:=h1 y (List.mem_cons_self ..)
  have hn:=h2 y (List.mem_cons_self ..)
  have ha : (g y).isAgg = false:=by cases hg : g y <;> simp [hg,AV.isLeaf] at hl <;> rfl
  simp only [AV.leads,ha,Bool.not_false,Bool.true_and] at hn
  simp only [List.foldr,AV.names,hn,Bool.false_or]
  exact caps_leads (fun z hz=>h1 z (List.mem_cons_of_mem _ hz)) fun z hz=>h2 z (List.mem_cons_of_mem _ hz)
theorem val_inj {v : AV} {e : Eff} (he : e = .val v ∨ ∃ i b,e = .wr i b v) {u : AV} (h : Eff.val u = e) : u = v:=by
 rcases he with rfl | ⟨i,b,rfl⟩
 ·injection h
 ·simp at h
theorem evAppend_leads {t : Ty} {y : AV} {add : List AV} {e : Eff} {v : AV} {l u : Nat} (h : evAppend look t y add = some e) (he : e = .val v ∨ ∃ i b,e = .wr i b v) (hx : y.leads (.stk l u) = false) : v.leads (.stk l u) = false:=by
 unfold evAppend at h
 split at h <;> try (simp at h; done)
 ·split at h
  ·injection h with h; rw [← val_inj he h]; rfl
  ·split at h
   ·injection h with h; subst h; rcases he with he | ⟨_,_,he⟩ <;> simp at he
   ·simp at h
 ·rename_i j off len
  split at h <;> try (simp at h; done)
  split at h <;> try (simp at h; done)
  split at h <;> try (simp at h; done)
  split at h
  ·split at h <;> try (simp at h; done)
   injection h with h
   subst h
   rcases he with he | ⟨_,_,he⟩
   ·simp at he
   ·simp at he; rw [← he.2.2]; simp_all [AV.leads,AV.names,AV.isAgg]
  ·split at h <;> try (simp at h; done)
   split at h <;> try (simp at h; done)
   injection h with h; subst h; rcases he with he | ⟨_,_,he⟩ <;> simp at he
theorem evK_leads {e : Eff} {v : AV} {l u : Nat} (h : evK g look k = some e) (he : e = .val v ∨ ∃ i b,e = .wr i b v) (hn : ∀ x ∈ k.ops,(g x).leads (.stk l u) = false) : v.leads (.stk l u) = false:=by
 cases k <;> simp only [MK.ops] at hn <;> simp only [evK] at h
 case mov x =>
  injection h with h; rw [← val_inj he h]; exact hn x (by simp)
 case pick c a b =>
  split at h <;> try (simp at h; done)
  ·injection h with h; rw [← val_inj he h]; exact hn a (by simp)
  ·injection h with h; rw [← val_inj he h]; exact hn b (by simp)
 case bin op x y =>
  simp only [Option.map_eq_some_iff] at h
  obtain ⟨w,hw,h⟩:=h
  rw [← val_inj he h]; exact evBin_leads hw
 case eq neg t x y =>
  split at h
  ·simp only [Option.map_eq_some_iff] at h
   obtain ⟨w,hw,h⟩:=h
   rw [← val_inj he h]; rfl
  ·simp at h
 case un op x =>
  simp only [Option.map_eq_some_iff] at h
  obtain ⟨w,hw,h⟩:=h
  rw [← val_inj he h]; exact evUn_leads hw
 case alloc e t=>injection h with h; subst h; rcases he with he | ⟨_,_,he⟩ <;> simp at he
 case box e t x =>
  split at h
  ·injection h with h; subst h; rcases he with he | ⟨_,_,he⟩ <;> simp at he
  ·simp at h
 case build t ps =>
  simp only [Option.map_eq_some_iff] at h
  obtain ⟨w,hw,h⟩:=h
  rw [← val_inj he h]; exact fill_leads hw zero_leads
 case bslice e t n ps =>
  simp only [Option.map_eq_some_iff] at h
  obtain ⟨w,hw,h⟩:=h
  subst h; rcases he with he | ⟨_,_,he⟩ <;> simp at he
 case load ro rt t x =>
  split at h <;> try (simp at h; done)
  split at h <;> try (simp at h; done)
  split at h <;> try (simp at h; done)
  split at h <;> try (simp at h; done)
  rename_i hf
  injection h with h; rw [← val_inj he h]; exact safe_leads (Ty.fits_safe hf)
 case store t ap x w =>
  split at h <;> try (simp at h; done)
  split at h <;> try (simp at h; done)
  split at h <;> try (simp at h; done)
  split at h <;> try (simp at h; done)
  injection h with h
  subst h
  rcases he with he | ⟨_,_,he⟩
  ·simp at he
  ·simp at he; rw [← he.2.2]; rfl
 case nilck x =>
  split at h <;> try (simp at h; done)
  rename_i hx
  injection h with h; rw [← val_inj he h]
  have:=hn x (by simp); rw [hx] at this; exact this
 case fld st i ft x =>
  split at h <;> try (simp at h; done)
  rename_i hx
  split at h <;> try (simp at h; done)
  injection h with h; rw [← val_inj he h]
  have:=hn x (by simp); rw [hx] at this; exact this
 case idx n t x i =>
  split at h <;> try (simp at h; done)
  rename_i hx _
  split at h <;> try (simp at h; done)
  injection h with h; rw [← val_inj he h]
  have:=hn x (by simp); rw [hx] at this; exact this
 case sidx ro t x i =>
  split at h <;> try (simp at h; done)
  rename_i hx _
  split at h <;> try (simp at h; done)
  split at h <;> try (simp at h; done)
  split at h <;> try (simp at h; done)
  injection h with h; rw [← val_inj he h]
  have:=hn x (by simp); rw [hx] at this; exact this
 case aidx n t x i =>
  split at h <;> try (simp at h; done)
  split at h <;> try (simp at h; done)
  split at h <;> try (simp at h; done)
  rename_i hf
  injection h with h; rw [← val_inj he h]
  have:=Ty.fits_safe hf
  simp only [AV.safe,List.all_eq_true] at this
  exact safe_leads (this _ (List.mem_finRange _))
 case stridx x i =>
  split at h <;> try (simp at h; done)
  split at h <;> try (simp at h; done)
  simp only [Option.map_eq_some_iff] at h
  obtain ⟨w,hw,h⟩:=h
  rw [← val_inj he h]; rfl
 case field t x i =>
  split at h <;> try (simp at h; done)
  rename_i hf
  simp only [Option.map_eq_some_iff] at h
  obtain ⟨w,hw,h⟩:=h
  rw [← val_inj he h]; exact safe_leads (safe_field (Ty.fits_safe hf) hw)
 case ext x i =>
  split at h <;> try (simp at h; done)
  split at h <;> try (simp at h; done)
  split at h <;> try (simp at h; done)
  rename_i hs
  injection h with h; rw [← val_inj he h]; exact safe_leads hs
 case conv k x =>
  split at h <;> try (simp at h; done)
  injection h with h; rw [← val_inj he h]; rfl
 case len str x =>
  split at h <;> try (simp at h; done)
  all_goals (injection h with h; rw [← val_inj he h]; rfl)
 case min x y =>
  split at h <;> try (simp at h; done)
  split at h <;> try (simp at h; done)
  injection h with h; rw [← val_inj he h]; rfl
 case max x y =>
  split at h <;> try (simp at h; done)
  split at h <;> try (simp at h; done)
  injection h with h; rw [← val_inj he h]; rfl
 case append e ap t x y =>
  obtain ⟨add,_,h,_⟩:=append_inv (e:=_) (esc:=e) h
  exact evAppend_leads h he (hn x (by simp))
 case slice rt t x lo hi mx =>
  rcases slice_inv h with ⟨j,off,len,a,b,hx,_,_,_,h⟩ | ⟨hx,_,_,_,h,_⟩
  ·rcases evSlice_val h with rfl | rfl | ⟨o,n,rfl⟩
   ·rw [← val_inj he rfl]; rfl
   ·rw [← val_inj he rfl]; rfl
   ·rw [← val_inj he rfl]
    have:=hn x (by simp); rw [hx] at this; exact this
  ·rw [← val_inj he h.symm]; exact hn x (by simp)
 case clear t x =>
  rcases evClear_wr h with rfl | ⟨i,b,_,rfl⟩
  ·rw [← val_inj he rfl]; rfl
  ·rcases he with he | ⟨_,_,he⟩
   ·simp at he
   ·simp at he; rw [← he.2.2]; rfl
 case eqp neg x y =>
  simp only [Option.map_eq_some_iff] at h
  obtain ⟨w,hw,h⟩:=h
  rw [← val_inj he h]; rfl
 case strsl x lo hi =>
  split at h <;> try (simp at h; done)
  simp only [Option.map_eq_some_iff] at h
  obtain ⟨w,hw,h⟩:=h
  rw [← val_inj he h]
  unfold evStrsl at hw
  split at hw <;> try (simp at hw; done)
  split at hw <;> try (simp at hw; done)
  simp only [Option.some.injEq] at hw
  subst hw; rfl
 case tostr x =>
  split at h <;> try (simp at h; done)
  simp only [Option.map_eq_some_iff] at h
  obtain ⟨w,hw,h⟩:=h
  rw [← val_inj he h]; rfl
 case eqif neg x y =>
  split at h <;> try (simp at h; done)
  injection h with h; rw [← val_inj he h]; rfl
 case appstr x y =>
  split at h <;> try (simp at h; done)
  exact evAppend_leads h he (hn x (by simp))
 case drop x =>
  split at h <;> try (simp at h; done)
  ·injection h with h; subst h; rcases he with he | ⟨_,_,he⟩ <;> simp at he
  ·injection h with h; rw [← val_inj he h]; rfl
  ·injection h with h; rw [← val_inj he h]; rfl
 case prim f xs =>
  split at h <;> try (simp at h; done)
  split at h <;> try (simp at h; done)
  rename_i hs
  injection h with h; rw [← val_inj he h]; exact safe_leads hs
 case primS f t x y =>
  split at h <;> try (simp at h; done)
  split at h <;> try (simp at h; done)
  split at h <;> try (simp at h; done)
  rename_i hs
  injection h with h; rw [← val_inj he h]; exact safe_leads hs
 case mkfn f caps =>
  split at h <;> try (simp at h; done)
  rename_i hc
  simp only [List.all_eq_true] at hc
  injection h with h; rw [← val_inj he h]
  simp only [AV.leads,AV.isAgg,Bool.not_false,Bool.true_and,AV.names]
  exact caps_leads hc hn
 all_goals simp at h
def Eff.at : Eff → Option Id
 | .wr i _ _=>some i
 | .grow j _ _=>some j
 | .del j=>some j
 | _=>none
theorem evAppend_at {t : Ty} {v : AV} {add : List AV} {e : Eff} {i : Id} (h : evAppend look t v add = some e) (he : e.at = some i) : v.into i = true:=by
 unfold evAppend at h
 split at h <;> try (simp at h; done)
 ·split at h
  ·injection h with h; subst h; simp [Eff.at] at he
  ·split at h <;> try (simp at h; done)
   injection h with h; subst h; simp [Eff.at] at he
 ·split at h <;> try (simp at h; done)
  split at h <;> try (simp at h; done)
  split at h <;> try (simp at h; done)
  split at h
  ·split at h <;> try (simp at h; done)
   injection h with h; subst h; simp [Eff.at] at he; subst he; exact into_sl
  ·split at h <;> try (simp at h; done)
   split at h <;> try (simp at h; done)
   injection h with h; subst h; simp [Eff.at] at he; subst he; exact into_sl
def MK.quiet : MK → Bool
 | .alloc ..=>false
 | .box ..=>false
 | .bslice ..=>false
 | .store ..=>false
 | .append ..=>false
 | .appstr ..=>false
 | .drop ..=>false
 | .clear ..=>false
 | .call ..=>false
 | .callv ..=>false
 | _=>true
theorem evK_quiet {e : Eff} (h : evK g look k = some e) (hq : k.quiet = true) : ∃ v,e = .val v:=by
 cases k <;> simp only [MK.quiet,Bool.false_eq_true] at hq
 case slice rt t x lo hi mx =>
  rcases slice_inv h with ⟨j,off,len,a,b,hx,_,_,_,h⟩ | ⟨hx,_,_,_,h,_⟩
  ·rcases evSlice_val h with rfl | rfl | ⟨o,n,rfl⟩ <;> exact ⟨_,rfl⟩
  ·exact ⟨_,h⟩
 all_goals simp only [evK] at h
 all_goals (repeat' (split at h))
 all_goals (try simp only [Option.map_eq_some_iff] at h)
 all_goals (first | (simp at h; done) | (obtain ⟨_,_,h⟩:=h; exact ⟨_,h.symm⟩) | (injection h with h; exact ⟨_,h.symm⟩))
theorem evK_at {e : Eff} {i : Id} (h : evK g look k = some e) (he : e.at = some i) : ∃ x ∈ k.ops,(g x).into i = true:=by
 by_cases hq : k.quiet = true
 ·obtain ⟨v,rfl⟩:=evK_quiet h hq; simp [Eff.at] at he
 ·cases k <;> simp only [MK.quiet,not_true_eq_false] at hq <;> simp only [evK] at h
  case alloc e t=>injection h with h; subst h; simp [Eff.at] at he
  case box e t x =>
   split at h <;> try (simp at h; done)
   injection h with h; subst h; simp [Eff.at] at he
  case bslice e t n ps =>
   simp only [Option.map_eq_some_iff] at h
   obtain ⟨w,hw,h⟩:=h
   subst h; simp [Eff.at] at he
  case store t ap x w =>
   split at h <;> try (simp at h; done)
   rename_i hx
   split at h <;> try (simp at h; done)
   split at h <;> try (simp at h; done)
   split at h <;> try (simp at h; done)
   injection h with h
   subst h
   simp [Eff.at] at he
   subst he
   exact ⟨x,by simp [MK.ops],by rw [hx]; exact into_ptr⟩
  case append e ap t x y =>
   obtain ⟨add,_,h,_⟩:=append_inv (esc:=e) h
   exact ⟨x,by simp [MK.ops],evAppend_at h he⟩
  case drop x =>
   split at h <;> try (simp at h; done)
   ·rename_i hx
    injection h with h; subst h; simp [Eff.at] at he; subst he
    exact ⟨x,by simp [MK.ops],by rw [hx]; exact into_sl⟩
   ·injection h with h; subst h; simp [Eff.at] at he
   ·injection h with h; subst h; simp [Eff.at] at he
  case appstr x y =>
   split at h <;> try (simp at h; done)
   exact ⟨x,by simp [MK.ops],evAppend_at h he⟩
  case clear t x =>
   rcases evClear_wr h with rfl | ⟨j,b,hj,rfl⟩
   ·simp [Eff.at] at he
   ·simp [Eff.at] at he; subst he
    exact ⟨x,by simp [MK.ops],hj⟩
  all_goals simp at h
end
theorem Slots.set_comm {t u : Nat} {v w : AV} (h : t ≠ u) : ∀ {l : Slots},Slots.set (Slots.set l t v) u w = Slots.set (Slots.set l u w) t v
 | []=>by
  simp only [Slots.set]
  by_cases h1 : t < u
  ·simp [Slots.set,h,Ne.symm h,h1,show ¬ u < t by omega]
  ·have : u < t:=by omega
   simp [Slots.set,h,Ne.symm h,h1,this]
 | (a,x) :: l=>by
  have ih:=Slots.set_comm h (l:=l) (v:=v) (w:=w)
  rcases Nat.lt_trichotomy a t with h1 | h1 | h1 <;> rcases Nat.lt_trichotomy a u with h2 | h2 | h2
  ·simp [Slots.set,show a ≠ t by omega,show ¬ t < a by omega,show a ≠ u by omega,show ¬ u < a by omega,ih]
  ·subst h2; simp [Slots.set,show a ≠ t by omega,show ¬ t < a by omega]
  ·simp [Slots.set,show a ≠ t by omega,show ¬ t < a by omega,show a ≠ u by omega,h2,show u ≠ t by omega,show ¬ t < u by omega]
  ·subst h1; simp [Slots.set,show a ≠ u by omega,show ¬ u < a by omega]
  ·omega
  ·subst h1; simp [Slots.set,show a ≠ u by omega,h2,show u ≠ a by omega]; omega
  ·simp [Slots.set,show a ≠ t by omega,h1,show a ≠ u by omega,show ¬ u < a by omega,show t ≠ u by omega,show ¬ u < t by omega]
  ·subst h2; simp [Slots.set,show a ≠ t by omega,h1,show t ≠ a by omega,show ¬ a < t by omega]
  ·rcases Nat.lt_or_ge t u with h3 | h3
   ·simp [Slots.set,show a ≠ t by omega,h1,show a ≠ u by omega,h2,show t ≠ u by omega,show u ≠ t by omega,h3,show ¬ u < t by omega]
   ·have : u < t:=by omega
    simp [Slots.set,show a ≠ t by omega,h1,show a ≠ u by omega,h2,show t ≠ u by omega,show u ≠ t by omega,this,show ¬ t < u by omega]
theorem Own.set_comm {t u : Nat} {v w : Blk} (h : t ≠ u) : ∀ {l : Own},Own.set (Own.set l t v) u w = Own.set (Own.set l u w) t v
 | []=>by
  simp only [Own.set]
  by_cases h1 : t < u
  ·simp [Own.set,h,Ne.symm h,h1,show ¬ u < t by omega]
  ·have : u < t:=by omega
   simp [Own.set,h,Ne.symm h,h1,this]
 | (a,x) :: l=>by
  have ih:=Own.set_comm h (l:=l) (v:=v) (w:=w)
  rcases Nat.lt_trichotomy a t with h1 | h1 | h1 <;> rcases Nat.lt_trichotomy a u with h2 | h2 | h2
  ·simp [Own.set,show a ≠ t by omega,show ¬ t < a by omega,show a ≠ u by omega,show ¬ u < a by omega,ih]
  ·subst h2; simp [Own.set,show a ≠ t by omega,show ¬ t < a by omega]
  ·simp [Own.set,show a ≠ t by omega,show ¬ t < a by omega,show a ≠ u by omega,h2,show u ≠ t by omega,show ¬ t < u by omega]
  ·subst h1; simp [Own.set,show a ≠ u by omega,show ¬ u < a by omega]
  ·omega
  ·subst h1; simp [Own.set,show a ≠ u by omega,h2,show u ≠ a by omega]; omega
  ·simp [Own.set,show a ≠ t by omega,h1,show a ≠ u by omega,show ¬ u < a by omega,show t ≠ u by omega,show ¬ u < t by omega]
  ·subst h2; simp [Own.set,show a ≠ t by omega,h1,show t ≠ a by omega,show ¬ a < t by omega]
  ·rcases Nat.lt_or_ge t u with h3 | h3
   ·simp [Own.set,show a ≠ t by omega,h1,show a ≠ u by omega,h2,show t ≠ u by omega,show u ≠ t by omega,h3,show ¬ u < t by omega]
   ·have : u < t:=by omega
    simp [Own.set,show a ≠ t by omega,h1,show a ≠ u by omega,h2,show t ≠ u by omega,show u ≠ t by omega,this,show ¬ t < u by omega]
theorem Slots.forget_set {i : Id} {t : Nat} {v : AV} (h : v.leads i = false) : ∀ {l : Slots},Slots.forget (Slots.set l t v) i = Slots.set (Slots.forget l i) t v
 | []=>by simp [Slots.set,Slots.forget,h]
 | (a,x) :: l=>by
  simp only [Slots.set,Slots.forget]
  by_cases h1 : a = t
  ·simp [h1,Slots.forget,h]
  ·by_cases h2 : t < a
   ·simp [h1,h2,Slots.forget,h]
   ·simp [h1,h2,Slots.forget,Slots.forget_set h]
theorem Slots.forget_id {i : Id} : ∀ {l : Slots},(∀ p ∈ l,(p.2 : AV).leads i = false) → Slots.forget l i = l
 | [],_=>rfl
 | (a,x) :: l,h=>by
  simp only [Slots.forget]
  rw [Slots.forget_id fun p hp=>h p (List.mem_cons_of_mem _ hp)]
  have:=h (a,x) (List.mem_cons_self ..)
  simp at this
  simp [this]
theorem Slots.mem_set {t : Nat} {v : AV} : ∀ {l : Slots} {p : Nat × AV},p ∈ Slots.set l t v → p = (t,v) ∨ p ∈ l
 | [],p,h=>by simp [Slots.set] at h; exact .inl h
 | (a,x) :: l,p,h=>by
  simp only [Slots.set] at h
  split at h
  ·rename_i e; subst e
   rcases List.mem_cons.1 h with h | h
   ·exact .inl h
   ·exact .inr (List.mem_cons_of_mem _ h)
  ·split at h
   ·rcases List.mem_cons.1 h with h | h
    ·exact .inl h
    ·exact .inr h
   ·rcases List.mem_cons.1 h with h | h
    ·exact .inr (by rw [h]; exact List.mem_cons_self ..)
    ·rcases Slots.mem_set h with h | h
     ·exact .inl h
     ·exact .inr (List.mem_cons_of_mem _ h)
theorem Slots.mem_forget {i : Id} : ∀ {l : Slots} {p : Nat × AV},p ∈ Slots.forget l i → p ∈ l ∨ p.2 = .bot
 | [],p,h=>by simp [Slots.forget] at h
 | (a,x) :: l,p,h=>by
  simp only [Slots.forget] at h
  rcases List.mem_cons.1 h with h | h
  ·subst h
   by_cases hx : x.leads i = true
   ·exact .inr (by simp [hx])
   ·exact .inl (by simp [hx])
  ·rcases Slots.mem_forget h with h | h
   ·exact .inl (List.mem_cons_of_mem _ h)
   ·exact .inr h
theorem Slots.get_mem {t : Nat} : ∀ {l : Slots},Slots.get l t = .bot ∨ (t,Slots.get l t) ∈ l
 | []=>.inl rfl
 | (a,x) :: l=>by
  simp only [Slots.get]
  split
  ·rename_i h; subst h; exact .inr (List.mem_cons_self ..)
  ·rcases Slots.get_mem (t:=t) (l:=l) with h | h
   ·exact .inl h
   ·exact .inr (List.mem_cons_of_mem _ h)
theorem Own.without_set {l : List Nat} {u : Nat} {b : Blk} (h : has l u = true) : ∀ {o : Own},Own.without (Own.set o u b) l = Own.without o l
 | []=>by simp [Own.set,Own.without,h]
 | (a,x) :: o=>by
  simp only [Own.set]
  by_cases h1 : a = u
  ·subst h1; simp [Own.without,h]
  ·by_cases h2 : u < a
   ·simp [h1,h2,Own.without,h]
   ·simp [h1,h2,Own.without,Own.without_set h]
theorem Own.veil_set {l : List Nat} {u : Nat} {b : Blk} {o : Own} (h : has l u = true) : Own.veil (Own.set o u b) l = Own.veil o l:=by
 cases l with
 | nil=>simp [has] at h
 | cons a l=>exact Own.without_set h
theorem Own.only_set {l : List Nat} {u : Nat} {b : Blk} (h : has l u = true) : ∀ {o : Own},Own.get o u = none → ∃ p q,Own.only o l = p ++ q ∧ Own.only (Own.set o u b) l = p ++ (u,b) :: q ∧ ∀ x ∈ p,x.1 ≠ u
 | [],_=>⟨[],[],by simp [Own.only],by simp [Own.set,Own.only,h],by simp⟩
 | (a,x) :: o,hn=>by
  simp only [Own.get] at hn
  split at hn
  ·simp at hn
  ·rename_i h1
   simp only [Own.set,h1,if_false]
   by_cases h2 : u < a
   ·simp only [h2,if_true]
    exact ⟨[],Own.only ((a,x) :: o) l,by simp,by rw [Own.only]; simp [h],by simp⟩
   ·simp only [h2,if_false]
    obtain ⟨p,q,e1,e2,e3⟩:=Own.only_set h hn (b:=b)
    by_cases h3 : has l a = true
    ·refine ⟨(a,x) :: p,q,by simp [Own.only,h3,e1],by simp [Own.only,h3,e2],fun y hy=>?_⟩
     rcases List.mem_cons.1 hy with hy | hy
     ·subst hy; exact h1
     ·exact e3 y hy
    ·exact ⟨p,q,by simp [Own.only,h3,e1],by simp [Own.only,h3,e2],e3⟩
theorem Own.foldr_set {u : Nat} {b : Blk} {q : Own} {m : Own} : ∀ {p : Own},(∀ x ∈ p,x.1 ≠ u) → (p ++ (u,b) :: q).foldr (fun p acc=>Own.set acc p.1 p.2) m = Own.set ((p ++ q).foldr (fun p acc=>Own.set acc p.1 p.2) m) u b
 | [],_=>rfl
 | (a,x) :: p,h=>by
  simp only [List.cons_append,List.foldr]
  rw [Own.foldr_set fun y hy=>h y (List.mem_cons_of_mem _ hy)]
  exact Own.set_comm (Ne.symm (h (a,x) (List.mem_cons_self ..)))
theorem Own.unveil_set {l : List Nat} {u : Nat} {b : Blk} {o m : Own} (h : has l u = true) (hn : Own.get o u = none) : Own.unveil (Own.set o u b) m l = Own.set (Own.unveil o m l) u b:=by
 cases l with
 | nil=>simp [has] at h
 | cons a l =>
  simp only [Own.unveil]
  obtain ⟨p,q,e1,e2,e3⟩:=Own.only_set h hn (b:=b)
  rw [e1,e2]
  exact Own.foldr_set e3
def AV.plain : AV → Bool
 | .ptr ..=>false
 | .sl ..=>false
 | .func ..=>false
 | _=>true
def Opd.plain : Opd → Bool
 | .c v=>v.plain
 | _=>true
def Opd.slot : Opd → List Nat
 | .s t=>[t]
 | _=>[]
def MOp.uses (o : MOp) : List Nat:=o.k.ops.flatMap Opd.slot ++ (match o.g with | some (t,_)=>[t] | none=>[])
theorem plain_leads {v : AV} {i : Id} (h : v.plain = true) : v.leads i = false:=by
 cases v <;> simp [AV.plain] at h <;> simp [AV.leads,AV.names,AV.isAgg]
theorem plain_into {v : AV} {i : Id} (h : v.plain = true) : v.into i = false:=by
 cases v <;> simp [AV.plain] at h <;> simp [AV.into]
def Fresh (cx : Cx) (u : Nat) (s : St) : Prop:=s.own.get u = none ∧ ∀ p ∈ s.sl,(p.2 : AV).leads (.stk cx.lvl u) = false
def callOf (T : Nat → Option MFun) (g : Opd → AV) : MK → Option (Bool × List Nat × MFun × List AV)
 | .call prot hide f args=>match T f with
  | some fn=>if fn.params = (args.map g).length ∧ fn.nfree = ([] : List AV).length then some (prot,hide,fn,args.map g ++ []) else none
  | none=>none
 | .callv prot hide x args=>match g x with
  | .func f cap=>match T f with
   | some fn=>if fn.params = (args.map g).length ∧ fn.nfree = (capList cap).length then some (prot,hide,fn,args.map g ++ capList cap) else none
   | none=>none
  | _=>none
 | _=>none
section
variable {cx cx' : Cx} {s s' s1 s2 : St} {T : Nat → Option MFun} {n : Nat} {o : MOp}
theorem opCmd_call {d : Option Nat} {k : MK} {todo : List Item} (h : k.isCall = true) : opCmd T cx d k todo s = match callOf T s.opd k with
  | some (prot,hide,fn,l)=>.call (s.callCx cx prot hide) hide fn (St.enter l (s.hp.push cx.lvl (s.own.veil hide))) d todo s
  | none=>.fail:=by
 cases k <;> simp [MK.isCall] at h
 ·rename_i prot hide f args
  simp only [opCmd,callOf,enterCmd]
  cases T f with
  | none=>rfl
  | some fn=>simp only; split <;> rfl
 ·rename_i prot hide x args
  simp only [opCmd,callOf,enterCmd]
  cases s.opd x <;> try rfl
  rename_i f cap
  simp only
  cases T f with
  | none=>rfl
  | some fn=>simp only; split <;> rfl
theorem opCmd_ev {d : Option Nat} {k : MK} {todo : List Item} (h : k.isCall = false) : opCmd T cx d k todo s = match evOp cx d k s with
  | some (v,s')=>.go todo (s'.setd d v)
  | none=>.fail:=by
 cases k <;> simp [MK.isCall] at h <;> rfl
inductive StepIs (T : Nat → Option MFun) (n : Nat) (cx : Cx) (o : MOp) (s : St) : St → Prop
 | skip : s.wanted o.g = some false → StepIs T n cx o s (s.setd o.d .undef)
 | op {e : Eff} {v : AV} {s' : St} : s.wanted o.g = some true → o.k.isCall = false → evK s.opd (s.look cx) o.k = some e → applyEff cx o.d o.k.esc s e = some (v,s') → StepIs T n cx o s (s'.setd o.d v)
 | call {prot : Bool} {hide : List Nat} {fn : MFun} {l : List AV} {m : Nat} {s2 s1 : St} : s.wanted o.g = some true → o.k.isCall = true → callOf T s.opd o.k = some (prot,hide,fn,l) → m < n →
   run T m (s.callCx cx prot hide) [.code fn.body] (St.enter l (s.hp.push cx.lvl (s.own.veil hide))) = some s2 → back cx (s.callCx cx prot hide) hide fn o.d s s2 = some s1 → StepIs T n cx o s s1
theorem Step_iff : Step T n cx o s s1 ↔ StepIs T n cx o s s1:=by
 constructor
 ·intro h
  unfold Step at h
  cases hw : s.wanted o.g with
  | none=>simp [hw] at h
  | some b =>
   cases b with
   | false=>simp only [hw] at h; subst h; exact .skip hw
   | true =>
    simp only [hw] at h
    cases hc : o.k.isCall with
    | true =>
     rw [opCmd_call hc] at h
     cases hco : callOf T s.opd o.k with
     | none=>simp [hco] at h
     | some q =>
      obtain ⟨prot,hide,fn,l⟩:=q
      simp only [hco] at h
      obtain ⟨m,s2,hm,hr,hb⟩:=h
      exact .call hw hc hco hm hr hb
    | false =>
     rw [opCmd_ev hc] at h
     unfold evOp at h
     cases he : evK s.opd (s.look cx) o.k with
     | none=>simp [he] at h
     | some e =>
      simp only [he] at h
      cases ha : applyEff cx o.d o.k.esc s e with
      | none=>simp [ha] at h
      | some q =>
       obtain ⟨v,s'⟩:=q
       simp only [ha] at h
       subst h
       exact .op hw hc he ha
 ·intro h
  cases h with
  | skip hw=>simp only [Step,hw]
  | op hw hc he ha=>simp only [Step,hw,opCmd_ev hc,evOp,he,ha]
  | call hw hc hco hm hr hb=>simp only [Step,hw,opCmd_call hc,hco]; exact ⟨_,_,hm,hr,hb⟩
theorem opd_uses (h : ∀ t ∈ o.uses,Slots.get s.sl t = Slots.get s'.sl t) : ∀ x ∈ o.k.ops,s.opd x = s'.opd x:=by
 intro x hx
 cases x with
 | s t=>exact h t (by simp only [MOp.uses,List.mem_append,List.mem_flatMap]; exact .inl ⟨_,hx,by simp [Opd.slot]⟩)
 | _=>rfl
theorem wanted_uses (h : ∀ t ∈ o.uses,Slots.get s.sl t = Slots.get s'.sl t) : s.wanted o.g = s'.wanted o.g:=by
 cases hg : o.g with
 | none=>rfl
 | some q =>
  obtain ⟨t,b⟩:=q
  have:=h t (by simp [MOp.uses,hg])
  simp only [St.wanted,this]
theorem callOf_congr {g g' : Opd → AV} {k : MK} (h : ∀ x ∈ k.ops,g x = g' x) : callOf T g k = callOf T g' k:=by
 have e : ∀ l : List Opd,(∀ x ∈ l,g x = g' x) → l.map g = l.map g':=fun l hl=>List.map_congr_left hl
 cases k <;> try rfl
 ·rename_i prot hide f args
  simp only [callOf,e args h]
 ·rename_i prot hide x args
  simp only [callOf,e args fun y hy=>h y (List.mem_cons_of_mem _ hy),h x (List.mem_cons_self ..)]
theorem Step_mod {f : St → St} (h0 : ∀ t ∈ o.uses,Slots.get s.sl t = Slots.get (f s).sl t)
  (h2 : ∀ x ∈ o.k.ops,∀ i,(s.opd x).into i = true → o.k.agree (s.look cx i) ((f s).look cx i))
  (h3 : ∀ e,evK s.opd (s.look cx) o.k = some e → applyEff cx o.d o.k.esc (f s) e = (applyEff cx o.d o.k.esc s e).map fun p=>(p.1,f p.2))
  (h4 : ∀ s v,(f s).setd o.d v = f (s.setd o.d v))
  (h5 : ∀ prot hide fn l,callOf T s.opd o.k = some (prot,hide,fn,l) → ((f s).hp.push cx.lvl ((f s).own.veil hide) = s.hp.push cx.lvl (s.own.veil hide)) ∧ (f s).hp.next = s.hp.next ∧ ∀ h',(f s).pop cx.lvl hide h' = f (s.pop cx.lvl hide h')) :
  Step T n cx o (f s) s2 ↔ ∃ s1,Step T n cx o s s1 ∧ s2 = f s1:=by
 have ho:=opd_uses h0
 have hw:=wanted_uses h0
 have hev:=evK_congr ho h2
 have hcx : ∀ prot hide fn l,callOf T s.opd o.k = some (prot,hide,fn,l) → (f s).callCx cx prot hide = s.callCx cx prot hide:=by
  intro prot hide fn l hc
  simp only [St.callCx,(h5 prot hide fn l hc).2.1]
 have hback : ∀ prot hide fn l cx' t,callOf T s.opd o.k = some (prot,hide,fn,l) → back cx cx' hide fn o.d (f s) t = (back cx cx' hide fn o.d s t).map f:=by
  intro prot hide fn l cx' t hc
  simp only [back,Option.map_map]
  congr 1
  funext v
  simp only [Function.comp,(h5 prot hide fn l hc).2.2,h4]
 constructor
 ·intro h
  rw [Step_iff] at h
  cases h with
  | skip hw'=>exact ⟨_,Step_iff.2 (.skip (hw.trans hw')),h4 _ _⟩
  | op hw' hc he ha =>
   rw [← hev] at he
   rw [h3 _ he] at ha
   simp only [Option.map_eq_some_iff] at ha
   obtain ⟨⟨v,s'⟩,ha,heq⟩:=ha
   simp at heq
   obtain ⟨rfl,rfl⟩:=heq
   exact ⟨_,Step_iff.2 (.op (hw.trans hw') hc he ha),h4 _ _⟩
  | call hw' hc hco hm hr hb =>
   rw [← callOf_congr ho] at hco
   rw [hcx _ _ _ _ hco,(h5 _ _ _ _ hco).1] at hr
   rw [hcx _ _ _ _ hco,hback _ _ _ _ _ _ hco] at hb
   simp only [Option.map_eq_some_iff] at hb
   obtain ⟨s1,hb,rfl⟩:=hb
   exact ⟨s1,Step_iff.2 (.call (hw.trans hw') hc hco hm hr hb),rfl⟩
 ·rintro ⟨s1,h,rfl⟩
  rw [Step_iff] at h
  cases h with
  | skip hw'=>rw [← h4]; exact Step_iff.2 (.skip (hw.symm.trans hw'))
  | op hw' hc he ha =>
   rw [← h4]
   exact Step_iff.2 (.op (hw.symm.trans hw') hc (hev ▸ he) (by rw [h3 _ he,ha]; rfl))
  | call hw' hc hco hm hr hb =>
   refine Step_iff.2 (.call (hw.symm.trans hw') hc (by rw [← callOf_congr ho]; exact hco) hm ?_ (s2:=?_) ?_)
   ·rename_i s2 ; exact s2
   ·rw [hcx _ _ _ _ hco,(h5 _ _ _ _ hco).1]; exact hr
   ·rw [hcx _ _ _ _ hco,hback _ _ _ _ _ _ hco,hb]; rfl
end
def Eff.lays : Eff → Bool
 | .new ..=>true
 | .grow ..=>true
 | _=>false
def MK.isAppend : MK → Bool
 | .append ..=>true
 | .appstr ..=>true
 | .drop ..=>true
 | _=>false
def MK.offOwn : MK → Bool
 | .append _ ap _ _ _=>has ap 1000002 || has ap 1000003
 | _=>false
def MK.hide : MK → List Nat
 | .call _ h _ _=>h
 | .callv _ h _ _=>h
 | _=>[]
section
variable {cx cx' : Cx} {s s' s1 s2 : St} {T : Nat → Option MFun} {n : Nat} {o : MOp} {g : Opd → AV} {look : Id → Option Blk}
theorem into_leads {v : AV} {i : Id} (h : v.into i = true) : v.leads i = true:=by
 cases v <;> simp [AV.into] at h <;> simp [AV.leads,AV.names,AV.isAgg,h]
theorem into_inj {v : AV} {i j : Id} (h : v.into i = true) (k : v.into j = true) : i = j:=by
 cases v <;> simp [AV.into] at h k <;> rw [← h,← k]
theorem site_lays {e : Eff} (he : evK g look o.k = some e) (hl : e.lays = true) (hs : o.k.esc = false) : o.site = o.d:=by
 by_cases hq : o.k.quiet = true
 ·obtain ⟨v,rfl⟩:=evK_quiet he hq; simp [Eff.lays] at hl
 ·obtain ⟨d,k,gd⟩:=o
  simp only at he hs hq ⊢
  cases k <;> simp only [MK.quiet,not_true_eq_false] at hq <;> simp only [MK.esc] at hs
  case alloc e t=>subst hs; rfl
  case box e t x=>subst hs; rfl
  case bslice e t n ps=>subst hs; rfl
  case append e ap t x y=>subst hs; rfl
  case appstr x y=>simp at hs
  case drop x =>
   simp only [evK] at he
   split at he <;> first | (simp at he; done) | (injection he with he; subst he; simp [Eff.lays] at hl)
  case clear t x =>
   simp only [evK] at he
   rcases evClear_wr he with rfl | ⟨_,_,_,rfl⟩ <;> simp [Eff.lays] at hl
  case store t ap x w =>
   simp only [evK] at he
   split at he <;> try (simp at he; done)
   split at he <;> try (simp at he; done)
   split at he <;> try (simp at he; done)
   split at he <;> try (simp at he; done)
   injection he with he
   subst he
   simp [Eff.lays] at hl
  all_goals simp [evK] at he
theorem evAppend_noDel {t : Ty} {v : AV} {add : List AV} {j : Id} (h : evAppend look t v add = some (.del j)) : False:=by
 unfold evAppend at h
 repeat' (split at h)
 all_goals simp at h
theorem not_grow {k : MK} {j : Id} {b : Blk} {m : Nat} (he : evK g look k = some (.grow j b m)) (ha : k.isAppend = false) : False:=by
 by_cases hq : k.quiet = true
 ·obtain ⟨v,h⟩:=evK_quiet he hq; simp at h
 ·cases k <;> simp only [MK.quiet,not_true_eq_false] at hq <;> simp only [evK] at he
  case alloc e t=>simp at he
  case box e t x=>split at he <;> simp at he
  case bslice e t n ps=>simp at he
  case append e ap t x y=>simp [MK.isAppend] at ha
  case appstr x y=>simp [MK.isAppend] at ha
  case drop x=>simp [MK.isAppend] at ha
  case clear t x=>rcases evClear_wr he with h | ⟨_,_,_,h⟩ <;> simp at h
  case store t ap x w =>
   split at he <;> try (simp at he; done)
   split at he <;> try (simp at he; done)
   split at he <;> try (simp at he; done)
   split at he <;> try (simp at he; done)
  all_goals simp at he
theorem del_kind {k : MK} {j : Id} (he : evK g look k = some (.del j)) : ∃ x,k = .drop x:=by
 by_cases hq : k.quiet = true
 ·obtain ⟨v,h⟩:=evK_quiet he hq; simp at h
 ·cases k <;> simp only [MK.quiet,not_true_eq_false] at hq <;> simp only [evK] at he
  case drop x=>exact ⟨x,rfl⟩
  case alloc e t=>simp at he
  case box e t x=>split at he <;> simp at he
  case bslice e t n ps=>simp at he
  case append e ap t x y =>
   split at he <;> try (simp at he; done)
   split at he <;> try (simp at he; done)
   rename_i h
   split at he <;> try (simp at he; done)
   simp only [Option.some.injEq] at he
   subst he
   have:=evAppend_noDel h
   exact this.elim
  case appstr x y =>
   split at he <;> try (simp at he; done)
   exact (evAppend_noDel he).elim
  case clear t x=>rcases evClear_wr he with h | ⟨_,_,_,h⟩ <;> simp at h
  case store t ap x w =>
   split at he <;> try (simp at he; done)
   split at he <;> try (simp at he; done)
   split at he <;> try (simp at he; done)
   split at he <;> try (simp at he; done)
  all_goals simp at he
theorem not_del {k : MK} {j : Id} (he : evK g look k = some (.del j)) (ha : k.isAppend = false ∨ k.offOwn = true) : False:=by
 obtain ⟨x,rfl⟩:=del_kind he
 rcases ha with ha | ha <;> simp [MK.isAppend,MK.offOwn] at ha
theorem has_mem {l : List Nat} {t : Nat} : has l t = true ↔ t ∈ l:=by
 induction l with
 | nil=>simp [has]
 | cons a l ih =>
  simp only [has,Bool.or_eq_true,beq_iff_eq,List.mem_cons,ih]
  exact ⟨fun h=>h.imp Eq.symm id,fun h=>h.imp Eq.symm id⟩
theorem append_off {k : MK} {j : Id} {b : Blk} {m : Nat} (he : evK g look k = some (.grow j b m)) (ho : k.offOwn = true) : j.isStk = false:=by
 cases k <;> simp [MK.offOwn] at ho
 rename_i esc ap t x y
 obtain ⟨add,_,ha,hap⟩:=append_inv he
 have hx : (g x).into j = true:=evAppend_at ha rfl
 rcases ho with h | h
 ·have:=hap _ (has_mem.1 h)
  simp only [apOk,if_true] at this
  cases hv : g x <;> rw [hv] at this hx <;> simp [AV.isNilsl] at this
  simp [AV.into] at hx
 ·have:=hap _ (has_mem.1 h)
  simp only [apOk,if_true,show ¬(1000003 : Nat) = 1000002 by decide,if_false,Bool.and_eq_true] at this
  cases hv : g x <;> rw [hv] at this hx <;> simp [AV.into] at hx
  ·simp [AV.offStk] at this
  ·subst hx
   have h2:=this.1.2
   rename_i i _ _
   cases i <;> simp [AV.offStk] at h2 <;> rfl
theorem callOf_hide {k : MK} {prot : Bool} {hide : List Nat} {fn : MFun} {l : List AV} (h : callOf T g k = some (prot,hide,fn,l)) : hide = k.hide:=by
 cases k <;> simp only [callOf] at h <;> try (simp at h; done)
 ·split at h <;> try (simp at h; done)
  split at h <;> simp at h
  exact h.2.1.symm
 ·split at h <;> try (simp at h; done)
  split at h <;> try (simp at h; done)
  split at h <;> simp at h
  exact h.2.1.symm
theorem look_setd {d : Option Nat} {v : AV} : (s.setd d v).look cx = s.look cx:=by cases d <;> rfl
theorem get_setd {d : Option Nat} {v : AV} {t : Nat} (h : d ≠ some t) : Slots.get (s.setd d v).sl t = Slots.get s.sl t:=by
 cases d with
 | none=>rfl
 | some u=>simp only [St.setd,Slots.get_set]; rw [if_neg (fun e=>h (by rw [e]))]
theorem fresh_setd {esc : Bool} {u : Nat} {b : Blk} {td : Option Nat} {v : AV} (h : esc = false → v.leads (.stk cx.lvl u) = false) : (s.setd td v).fresh cx esc u b = ((s.fresh cx esc u b).1,(s.fresh cx esc u b).2.setd td v):=by
 cases td with
 | none=>rfl
 | some t =>
  cases esc with
  | true=>rfl
  | false =>
   simp only [St.fresh,St.setd,Bool.false_eq_true,if_false]
   rw [Slots.forget_set (h rfl)]
theorem write_setd {i : Id} {b : Blk} {td : Option Nat} {v : AV} : (s.setd td v).write cx i b = (s.write cx i b).map fun x=>x.setd td v:=by
 cases td with
 | none=>simp [St.setd]
 | some t =>
  unfold St.write
  simp only [St.setd]
  cases i.own cx.lvl with
  | some t=>rfl
  | none=>simp only; split <;> rfl
theorem drop_setd {i : Id} {td : Option Nat} {v : AV} : (s.setd td v).drop cx i = (s.drop cx i).map fun x=>x.setd td v:=by
 cases td with
 | none=>simp [St.setd]
 | some t =>
  unfold St.drop
  simp only [St.setd]
  cases i.own cx.lvl with
  | some t=>rfl
  | none =>
   cases i with
   | obj m=>simp only; split <;> rfl
   | _=>rfl
theorem applyEff_setd {d : Option Nat} {esc : Bool} {e : Eff} {td : Option Nat} {v : AV} (hF : e.lays = true → esc = false → ∀ u,d = some u → v.leads (.stk cx.lvl u) = false) :
  applyEff cx d esc (s.setd td v) e = (applyEff cx d esc s e).map fun p=>(p.1,p.2.setd td v):=by
 cases e with
 | val w=>rfl
 | new sl b =>
  cases d with
  | none=>rfl
  | some u =>
   simp only [applyEff,Option.map]
   rw [fresh_setd fun h=>hF rfl h u rfl]
 | wr i b w =>
  simp only [applyEff,write_setd,Option.map_map]
  rfl
 | del j =>
  simp only [applyEff,drop_setd,Option.map_map]
  rfl
 | grow j b m =>
  cases d with
  | none=>rfl
  | some u =>
   simp only [applyEff,drop_setd,Option.map_map]
   congr 1
   funext x
   simp only [Function.comp]
   rw [fresh_setd fun h=>hF rfl h u rfl]
theorem setd_comm {d td : Option Nat} {v w : AV} (h : ∀ t,td = some t → d ≠ some t) : (s.setd td v).setd d w = (s.setd d w).setd td v:=by
 cases td with
 | none=>rfl
 | some t =>
  cases d with
  | none=>rfl
  | some u =>
   have : t ≠ u:=fun e=>h t rfl (by rw [e])
   simp only [St.setd,Slots.set_comm this]
theorem Step_setd {td : Option Nat} {v : AV} (h0 : ∀ t,td = some t → t ∉ o.uses ∧ o.d ≠ some t) (hF : ∀ u,o.site = some u → v.leads (.stk cx.lvl u) = false) :
  Step T n cx o (s.setd td v) s2 ↔ ∃ s1,Step T n cx o s s1 ∧ s2 = s1.setd td v:=by
 refine Step_mod (f:=fun s=>s.setd td v) (fun t ht=>(get_setd fun e=>(h0 t e).1 ht).symm) (fun x hx i hi=>by rw [look_setd]; exact MK.agree_refl) (fun e he=>applyEff_setd fun hl hs u hu=>hF u (by rw [site_lays he hl hs,hu])) (fun s v=>setd_comm fun t ht=>(h0 t ht).2)
  fun prot hide fn l hc=>⟨?_,?_,fun h'=>?_⟩
 ·cases td <;> rfl
 ·cases td <;> rfl
 ·cases td <;> rfl
def St.setO (s : St) (u : Nat) (b : Blk) : St:={ s with own:=s.own.set u b }
theorem look_setO {u : Nat} {b : Blk} {i : Id} (h : i ≠ .stk cx.lvl u) : (s.setO u b).look cx i = s.look cx i:=by
 simp only [St.look,St.setO]
 cases ho : i.own cx.lvl with
 | none=>rfl
 | some t =>
  have:=own_some ho
  subst this
  simp only
  rw [Own.get_set,if_neg (fun e=>h (by rw [e]))]
theorem opd_fresh {u : Nat} {x : Opd} (hp : x.plain = true) (hf : Fresh cx u s) : (s.opd x).leads (.stk cx.lvl u) = false:=by
 cases x with
 | s t =>
  simp only [St.opd]
  rcases Slots.get_mem (t:=t) (l:=s.sl) with h | h
  ·rw [h]; rfl
  ·exact hf.2 _ h
 | c v=>exact plain_leads hp
 | f m=>rfl
theorem into_fresh {u : Nat} {x : Opd} {i : Id} (hp : x.plain = true) (hf : Fresh cx u s) (hi : (s.opd x).into i = true) : i ≠ .stk cx.lvl u:=by
 rintro rfl
 have:=into_leads hi
 rw [opd_fresh hp hf] at this
 simp at this
theorem Step_setO {u : Nat} {b : Blk} (hf : Fresh cx u s) (hp : ∀ x ∈ o.k.ops,x.plain = true) (hs : o.site ≠ some u) (ha : o.k.isAppend = false ∨ o.k.offOwn = true) (hh : o.k.isCall = true → has o.k.hide u = true) :
  Step T n cx o (s.setO u b) s2 ↔ ∃ s1,Step T n cx o s s1 ∧ s2 = s1.setO u b:=by
 refine Step_mod (f:=fun s=>s.setO u b) (fun t ht=>rfl) (fun x hx i hi=>by rw [look_setO (into_fresh (hp x hx) hf hi)]; exact MK.agree_refl) (fun e he=>?_) (fun s v=>by cases o.d <;> rfl)
  fun prot hide fn l hc=>?_
 ·cases e with
  | val w=>rfl
  | new sl b' =>
   cases hd : o.d with
   | none=>rfl
   | some t =>
    simp only [applyEff,Option.map]
    cases hes : o.k.esc with
    | true=>rfl
    | false =>
     have : t ≠ u:=fun e=>hs (by rw [site_lays he rfl hes,hd,e])
     simp only [St.fresh,St.setO,Bool.false_eq_true,if_false]
     rw [Own.set_comm (Ne.symm this)]
  | wr i b' w =>
   obtain ⟨x,hx,hi⟩:=evK_at he rfl
   have hne:=into_fresh (hp x hx) hf hi
   simp only [applyEff,Option.map_map]
   unfold St.write
   simp only [St.setO]
   cases ho : i.own cx.lvl with
   | some t =>
    have:=own_some ho
    subst this
    have : t ≠ u:=fun e=>hne (by rw [e])
    simp only [Option.map,Function.comp]
    rw [Own.set_comm (Ne.symm this)]
   | none=>simp only; split <;> rfl
  | del j=>exact (not_del he ha).elim
  | grow j b' m =>
   have hj : j.isStk = false:=by
    rcases ha with ha | ha
    ·exact (not_grow he ha).elim
    ·exact append_off he ha
   have hown : j.own cx.lvl = none:=by cases j <;> simp_all [Id.own,Id.isStk]
   cases hd : o.d with
   | none=>rfl
   | some t =>
    simp only [applyEff,Option.map_map]
    have hdr : (s.setO u b).drop cx j = (s.drop cx j).map fun x=>x.setO u b:=by
     unfold St.drop
     simp only [hown,St.setO]
     cases j with
     | obj m=>simp only; split <;> rfl
     | _=>rfl
    rw [hdr,Option.map_map]
    congr 1
    funext x
    simp only [Function.comp]
    cases hes : o.k.esc with
    | true=>rfl
    | false =>
     have : t ≠ u:=fun e=>hs (by rw [site_lays he rfl hes,hd,e])
     simp only [St.fresh,St.setO,Bool.false_eq_true,if_false]
     rw [Own.set_comm (Ne.symm this)]
 ·have hc' : o.k.isCall = true:=by
   cases hk : o.k <;> simp [hk,callOf] at hc <;> rfl
  have:=callOf_hide hc
  subst this
  have hu:=hh hc'
  refine ⟨?_,rfl,fun h'=>?_⟩
  ·simp only [St.setO,Own.veil_set hu]
  ·simp only [St.setO,St.pop,Own.unveil_set hu hf.1]
end
end Go.Mini
