/- A part of the proof: what Id computes, step by step. -/
import Derived.Test.YtpkndgkaecamlabIdPd
import Derived.ChangeSame
import Derived.Carry
import Derived.OpenShut
import Derived.ProofKit
import Derived.WalkKit
import Derived.Deep.Slices
import Derived.Deep.Fields1

set_option linter.unusedSimpArgs false
set_option linter.unusedVariables false
set_option maxHeartbeats 4000000
set_option maxRecDepth 100000
namespace Go.Mini
def HP.ob (h : HP) (n : Nat) (t : Ty) (v : AV) : HP:=h.set (.obj n) ⟨t,v⟩
def HP.nw (h : HP) (t : Ty) (v : AV) : HP:={ h.ob h.next t v with next:=h.next + 1 }
section
variable {h : HP} {n m l : Nat} {t u : Ty} {v w : AV} {o : Own}
@[go_sem] theorem look_ob : (h.ob n t v).look (.obj n) = some ⟨t,v⟩:=by simp [HP.ob,HP.set,HP.look]
theorem look_ob_ne (e : ¬m = n) : (h.ob n t v).look (.obj m) = h.look (.obj m):=by simp [HP.ob,HP.set,HP.look,e]
theorem obj_ob_ne (e : ¬m = n) : (h.ob n t v).obj m = h.obj m:=by simp [HP.ob,HP.set,e]
@[go_sem] theorem look_ob_arg : (h.ob n t v).look (.arg m) = h.look (.arg m):=rfl
@[go_sem] theorem ob_ob : (h.ob n t v).ob n u w = h.ob n u w:=by
 simp only [HP.ob,HP.set]; congr 1; funext k; by_cases e : k = n <;> simp [e]
@[go_sem] theorem push_ob : (h.push l o).ob n t v = (h.ob n t v).push l o:=rfl
@[go_sem] theorem push_nw : (h.push l o).nw t v = (h.nw t v).push l o:=rfl
@[go_sem] theorem next_ob : (h.ob n t v).next = h.next:=rfl
@[go_sem] theorem next_nw : (h.nw t v).next = h.next + 1:=rfl
@[go_sem] theorem next_push : (h.push l o).next = h.next:=rfl
@[go_sem] theorem look_nw : (h.nw t v).look (.obj h.next) = some ⟨t,v⟩:=by simp [HP.nw,HP.ob,HP.set,HP.look]
theorem look_nw_ne (e : ¬m = h.next) : (h.nw t v).look (.obj m) = h.look (.obj m):=by simp [HP.nw,HP.ob,HP.set,HP.look,e]
@[go_sem] theorem push_looko : (h.push l o).look (.obj n) = h.look (.obj n):=rfl
@[go_sem] theorem push_look_arg : (h.push l o).look (.arg n) = h.look (.arg n):=rfl
@[go_sem] theorem nw_ob : (h.nw t v).ob h.next u w = h.nw u w:=by
 simp only [HP.nw,HP.ob,HP.set]; congr 1; funext k; by_cases e : k = h.next <;> simp [e]
end
section
variable {T : Nat → Option MFun} {cx : Cx} {k : List Item} {kill : List Nat} {r : List MOp} {sl : Slots} {own : Own} {h : HP} {Q : St → Prop}
@[go_sem] theorem fg_ob (n l t : Nat) (p : List Nat) (u : Ty) : fg (.ptr (.obj n) p u) (.stk l t) = .ptr (.obj n) p u:=fg_ptr (below_obj n l) p u
@[go_sem] theorem leads_ob (n l t : Nat) (p : List Nat) (u : Ty) : (AV.ptr (.obj n) p u).leads (.stk l t) = false:=leads_ptr (below_obj n l) p u
@[go_sem] theorem fg_obs (n l t : Nat) (a b : Nat) : fg (.sl (.obj n) a b) (.stk l t) = .sl (.obj n) a b:=fg_sl (below_obj n l) a b
@[go_sem] theorem fg_args (n l t : Nat) (a b : Nat) : fg (.sl (.arg n) a b) (.stk l t) = .sl (.arg n) a b:=fg_sl (below_arg n l) a b
@[go_sem] theorem fg_slz (i : Id) : fg .slz i = .slz:=rfl
@[go_sem] theorem leads_slz (i : Id) : AV.slz.leads i = false:=rfl
@[go_sem] theorem leads_nilsl (i : Id) : AV.nilsl.leads i = false:=rfl
@[go_sem] theorem leads_obs (n l t : Nat) (a b : Nat) : (AV.sl (.obj n) a b).leads (.stk l t) = false:=by simp [AV.leads,AV.isAgg,AV.names]
@[go_sem] theorem leads_args (n l t : Nat) (a b : Nat) : (AV.sl (.arg n) a b).leads (.stk l t) = false:=by simp [AV.leads,AV.isAgg,AV.names]
@[go_sem] theorem rd_look (n : Nat) (p : List Nat) : St.rd cx ⟨sl,own,h⟩ (.obj n) p = (h.look (.obj n)).bind fun b=>b.val.at p:=rfl
@[go_sem] theorem rd_look_arg (n : Nat) (p : List Nat) : St.rd cx ⟨sl,own,h⟩ (.arg n) p = (h.look (.arg n)).bind fun b=>b.val.at p:=rfl
@[go_sem] theorem look_obj (n : Nat) : St.look cx ⟨sl,own,h⟩ (.obj n) = h.look (.obj n):=rfl
@[go_sem] theorem look_arg (n : Nat) : St.look cx ⟨sl,own,h⟩ (.arg n) = h.look (.arg n):=rfl
@[go_sem] theorem apart_ob (n m : Nat) (p : List Nat) (u : Ty) : AV.apart (.obj n) (.ptr (.obj m) p u) = !decide (m = n):=by
 simp only [AV.apart]; congr 1; rw [Bool.eq_iff_iff]; simp
@[go_sem] theorem apart_obstk (n l t : Nat) (p : List Nat) (u : Ty) : AV.apart (.obj n) (.ptr (.stk l t) p u) = true:=by simp [AV.apart]
@[go_sem] theorem apart_stkob (n l t : Nat) (p : List Nat) (u : Ty) : AV.apart (.stk l t) (.ptr (.obj n) p u) = true:=apart_ptr (below_obj n l) p u
theorem stV_ob {n : Nat} {t : Ty} {p : List Nat} {v : AV} (hl : cx.prot.lets (.obj n) = true) : stV cx t (.ptr (.obj n) p t) v ⟨sl,own,h⟩ =
  if t.fits v = true then (h.look (.obj n)).bind fun b=>(b.val.put p v).map fun u=>⟨sl,own,h.ob n b.ty u⟩ else none:=by
 simp only [stV,true_and,St.look,Id.own]
 split
 ·cases h.look (.obj n) with
  | none=>rfl
  | some b =>
   simp only [Option.bind]
   cases b.val.put p v with
   | none=>rfl
   | some u=>simp only [St.write,Id.own,hl,if_true,Option.map]; rfl
 ·rfl
theorem WG_dec {p : Prop} [Decidable p] {c : Bool} {d : Option Nat} {o : MK} {s : St} (h1 : p → WG T cx (.bool true) c d o r kill k s Q) (h2 : ¬p → WG T cx (.bool false) c d o r kill k s Q) : WG T cx (.bool (decide p)) c d o r kill k s Q:=by
 by_cases hp : p
 ·rw [decide_eq_true hp]; exact h1 hp
 ·rw [decide_eq_false hp]; exact h2 hp
theorem WC_dec {p : Prop} [Decidable p] {t e : MC} {s : St} (h1 : p → WC T cx (.bool true) t e k s Q) (h2 : ¬p → WC T cx (.bool false) t e k s Q) : WC T cx (.bool (decide p)) t e k s Q:=by
 by_cases hp : p
 ·rw [decide_eq_true hp]; exact h1 hp
 ·rw [decide_eq_false hp]; exact h2 hp
theorem WG_ndec {p : Prop} [Decidable p] {c : Bool} {d : Option Nat} {o : MK} {s : St} (h1 : p → WG T cx (.bool false) c d o r kill k s Q) (h2 : ¬p → WG T cx (.bool true) c d o r kill k s Q) : WG T cx (.bool (!decide p)) c d o r kill k s Q:=by
 by_cases hp : p
 ·rw [decide_eq_true hp]; exact h1 hp
 ·rw [decide_eq_false hp]; exact h2 hp
theorem WC_ndec {p : Prop} [Decidable p] {t e : MC} {s : St} (h1 : p → WC T cx (.bool false) t e k s Q) (h2 : ¬p → WC T cx (.bool true) t e k s Q) : WC T cx (.bool (!decide p)) t e k s Q:=by
 by_cases hp : p
 ·rw [decide_eq_true hp]; exact h1 hp
 ·rw [decide_eq_false hp]; exact h2 hp
theorem WG_bool {b : Bool} {c : Bool} {d : Option Nat} {o : MK} {s : St} (h1 : b = true → WG T cx (.bool true) c d o r kill k s Q) (h2 : b = false → WG T cx (.bool false) c d o r kill k s Q) : WG T cx (.bool b) c d o r kill k s Q:=by
 cases b
 ·exact h2 rfl
 ·exact h1 rfl
theorem WC_bool {b : Bool} {t e : MC} {s : St} (h1 : b = true → WC T cx (.bool true) t e k s Q) (h2 : b = false → WC T cx (.bool false) t e k s Q) : WC T cx (.bool b) t e k s Q:=by
 cases b
 ·exact h2 rfl
 ·exact h1 rfl
theorem W_callR {prot : Bool} {f : Nat} {args : List Opd} {d : Option Nat} {fn : MFun} {R : AV → HP → Prop} (hf : T f = some fn) (hp : fn.params = args.length ∧ fn.nfree = 0)
  (hc : Ok T (St.callCx ⟨sl,own,h⟩ cx prot) fn (St.enter (args.map (St.opd ⟨sl,own,h⟩)) (h.push cx.lvl own)) fun v' h'=>∃ h1 : HP,h' = h1.push cx.lvl own ∧ h1.stk = h.stk ∧ R v' h1)
  (hq : ∀ v h1,R v h1 → W T cx (.ops r kill :: k) (St.setd ⟨sl,own,h1⟩ d v) Q) :
  W T cx (.ops (⟨d,.call prot [] f args,none⟩ :: r) kill :: k) ⟨sl,own,h⟩ Q:=by
 refine W_callr hf hp hc ?_
 rintro v h' ⟨h1,rfl,hs,hR⟩
 have : St.pop ⟨sl,own,h⟩ cx.lvl [] (h1.push cx.lvl own) = ⟨sl,own,h1⟩:=by
  simp only [St.pop,HP.pop,HP.push,Own.unveil,if_true]
  congr 1
  cases h1
  simp only at hs
  subst hs
  simp only [HP.mk.injEq,and_true]
  funext l
  by_cases hl : l = cx.lvl <;> simp [hl]
 rw [this]; exact hq v h1 hR
theorem W_forE {α : Type} {keep ko : List Nat} {b : MC} {s : St} (N : Nat) (S : Nat → α → St) (P : Nat → α → Prop) (a0 : α) (h0 : s.keep keep ko = S 0 a0) (p0 : P 0 a0)
  (step : ∀ j a,j ≤ N → P j a → (∀ s' a',j < N → s'.keep keep ko = S (j + 1) a' → P (j + 1) a' → W T cx (.inLoop keep ko b :: k) s' Q) → W T cx (.code b :: .inLoop keep ko b :: k) (S j a) Q) :
  W T cx (.code (.loop keep ko b) :: k) s Q :=
 W_loop N (fun j s=>∃ a,s = S j a ∧ P j a) ⟨a0,h0,p0⟩ fun j s hj hs ih=>by
  obtain ⟨a,rfl,hp⟩:=hs
  exact step j a hj hp fun s' a' hlt he hp'=>ih s' hlt ⟨a',he,hp'⟩
@[go_sem] theorem pickV_sel (c : Bool) (x y : AV) : pickV (.bool c) x y = some (if c = true then x else y):=by cases c <;> rfl
end
structure SStep where
 kind : Int
 dir : Int
 toDir : Int
 p : Int
 name : Str
 to : Str
 text : Str
def SStep.enc (x : SStep) : AV:=.cons (.int .i64 x.kind) (.cons (.int .i64 x.dir) (.cons (.int .i64 x.toDir) (.cons (.int .i64 x.p) (.cons (.str x.name) (.cons (.str x.to) (.cons (.str x.text) .unit))))))
@[go_sem] theorem at_step0 (x : SStep) : x.enc.at [0] = some (.int .i64 x.kind):=rfl
@[go_sem] theorem at_step1 (x : SStep) : x.enc.at [1] = some (.int .i64 x.dir):=rfl
@[go_sem] theorem at_step2 (x : SStep) : x.enc.at [2] = some (.int .i64 x.toDir):=rfl
@[go_sem] theorem at_step3 (x : SStep) : x.enc.at [3] = some (.int .i64 x.p):=rfl
@[go_sem] theorem at_step4 (x : SStep) : x.enc.at [4] = some (.str x.name):=rfl
@[go_sem] theorem at_step5 (x : SStep) : x.enc.at [5] = some (.str x.to):=rfl
@[go_sem] theorem at_step6 (x : SStep) : x.enc.at [6] = some (.str x.text):=rfl
@[go_sem] theorem field_step0 : tStep.field 0 = some tI:=rfl
@[go_sem] theorem field_step1 : tStep.field 1 = some tI:=rfl
@[go_sem] theorem field_step2 : tStep.field 2 = some tI:=rfl
@[go_sem] theorem field_step3 : tStep.field 3 = some tI:=rfl
@[go_sem] theorem field_step4 : tStep.field 4 = some tS:=rfl
@[go_sem] theorem field_step5 : tStep.field 5 = some tS:=rfl
@[go_sem] theorem field_step6 : tStep.field 6 = some tS:=rfl
@[go_sem] theorem fits_step (x : SStep) : (tStep.fits x.enc = true) = True:=eq_true rfl
@[go_sem] theorem fg_step (x : SStep) (i : Id) : fg x.enc i = x.enc:=rfl
@[go_sem] theorem leads_step (x : SStep) (i : Id) : x.enc.leads i = false:=rfl
@[go_sem] theorem isAgg_step (x : SStep) : x.enc.isAgg = true:=rfl
@[go_sem] theorem safe_step (x : SStep) : x.enc.safe = true:=rfl
def dirFaultN (d : Int) (s : Str) : Int:=if d < 0 ∨ 3 ≤ d then 1 else if isName s = true then 0 else 2
def stepFault (x : SStep) : Int :=
 if x.kind < 1 ∨ 6 < x.kind then 7 else
 if dirFaultN x.dir x.name ≠ 0 then dirFaultN x.dir x.name else
 if x.kind = 2 ∨ x.kind = 4 then dirFaultN x.toDir x.to else
 if (x.kind = 5 ∨ x.kind = 6) ∧ (x.p < 0 ∨ 2 ≤ x.p) then 1 else
 if x.kind = 5 ∧ 8 < x.text.size then 3 else 0
section
variable {cx : Cx} {h : HP}
theorem NameX_ok {s : Str} (hs : s.size ≤ 9223372036854775807) : Ok tblE cx Fn.image_Name (St.enter [.str s] h) fun v h'=>v = .bool (isName s) ∧ h' = h:=by
 rw [Ok_eq]
 simp (maxSteps:=999999) (disch:=omega) only [go_sem]
 refine W_forP s.size (fun j=>⟨[(0,.str s),(5,.int .i64 s.size),(6,.int .i64 j)],[],h⟩) (fun j=>∀ i,i < j → badByte s i = false) (by simp only [go_sem] <;> rfl) (fun i hi=>by omega) fun j hj hp ih=>?_
 by_cases hlt : j < s.size
 ·simp (maxSteps:=999999) (disch:=omega) only [go_sem,hlt]
  by_cases h1 : byteAt s j < 97
  ·simp (maxSteps:=999999) (disch:=omega) only [go_sem,hlt]
   have : anyN s.size (badByte s) = true:=anyN_at hlt (by simp [badByte,h1])
   simp [isName,this]
  ·by_cases h2 : 122 < byteAt s j
   ·simp (maxSteps:=999999) (disch:=omega) only [go_sem,hlt]
    have : anyN s.size (badByte s) = true:=anyN_at hlt (by simp [badByte,h2])
    simp [isName,this]
   ·simp (maxSteps:=999999) (disch:=omega) only [go_sem,hlt]
    refine ih _ hlt (step_all hp (by simp [badByte,h1,h2])) ?_
    simp only [go_sem]
 ·obtain rfl : j = s.size:=by omega
  have hn : anyN s.size (badByte s) = false:=anyN_false.2 hp
  simp (maxSteps:=999999) (disch:=omega) only [go_sem]
  by_cases h1 : s = ⟨#[]⟩
  ·simp (maxSteps:=999999) (disch:=omega) only [go_sem,h1]; simp [isName]
  ·by_cases h2 : s.size ≤ 6
   ·simp (maxSteps:=999999) (disch:=omega) only [go_sem,h1]
    simp [isName,hn,h1,h2]
   ·simp (maxSteps:=999999) (disch:=omega) only [go_sem,h1]
    simp [isName,hn,h1,h2]
theorem IsNameX_ok {s : Str} (hs : s.size ≤ 9223372036854775807) : Ok tblE cx Fn.r_IsName (St.enter [.str s] h) fun v h'=>v = .bool (isName s) ∧ h' = h:=by
 rw [Ok_eq]
 simp (maxSteps:=999999) (disch:=omega) only [go_sem]
 by_cases h1 : s.size = 0
 ·have e:=size_zero.2 h1
  simp (maxSteps:=999999) (disch:=omega) only [go_sem]
  simp [isName,e]
 have e : ¬s = ⟨#[]⟩:=fun e=>h1 (size_zero.1 e)
 by_cases h2 : s.size ≤ 6
 ·simp (maxSteps:=999999) (disch:=omega) only [go_sem]
  refine W_forP s.size (fun j=>⟨[(0,.str s),(3,.int .i64 j)],[],h⟩) (fun j=>∀ i,i < j → badByte s i = false) (by simp only [go_sem] <;> rfl) (fun i hi=>by omega) fun j hj hp ih=>?_
  by_cases hlt : j < s.size
  ·simp (maxSteps:=999999) (disch:=omega) only [go_sem,hlt]
   by_cases h1 : byteAt s j < 97
   ·simp (maxSteps:=999999) (disch:=omega) only [go_sem,hlt]
    have : anyN s.size (badByte s) = true:=anyN_at hlt (by simp [badByte,h1])
    simp [isName,this]
   ·by_cases h2 : 122 < byteAt s j
    ·simp (maxSteps:=999999) (disch:=omega) only [go_sem,hlt]
     have : anyN s.size (badByte s) = true:=anyN_at hlt (by simp [badByte,h2])
     simp [isName,this]
    ·simp (maxSteps:=999999) (disch:=omega) only [go_sem,hlt]
     refine ih _ hlt (step_all hp (by simp [badByte,h1,h2])) ?_
     simp only [go_sem]
  ·obtain rfl : j = s.size:=by omega
   have hn : anyN s.size (badByte s) = false:=anyN_false.2 hp
   simp (maxSteps:=999999) (disch:=omega) only [go_sem]
   simp [isName,hn,e,h2]
 ·simp (maxSteps:=999999) (disch:=omega) only [go_sem]
  simp [isName,h2]
theorem icheck_ok {d : Int} {s : Str} (hs : s.size ≤ 9223372036854775807) : Ok tblE cx Fn.ideal_check (St.enter [.int .i64 d,.str s] h) fun v h'=>v = .int .i64 (dirFaultN d s) ∧ h' = h:=by
 rw [Ok_eq]
 by_cases c1 : d < 0
 ·simp (maxSteps:=999999) (disch:=omega) only [go_sem,c1]; simp [dirFaultN,c1]
 ·by_cases c2 : 3 ≤ d
  ·simp (maxSteps:=999999) (disch:=omega) only [go_sem,c1,c2]; simp [dirFaultN,c2]
  ·simp (maxSteps:=999999) (disch:=omega) only [go_sem,c1,c2]
   refine W_callp rfl ⟨rfl,rfl⟩ (by simp only [go_sem]; exact NameX_ok hs) ?_
   cases c3 : isName s <;> simp (maxSteps:=999999) (disch:=omega) only [go_sem,c3] <;> simp [dirFaultN,c1,c2,c3]
theorem ICheck_ok {x : SStep} (h1 : x.name.size ≤ 9223372036854775807) (h2 : x.to.size ≤ 9223372036854775807) (h3 : x.text.size ≤ 9223372036854775807) : Ok tblE cx Fn.ideal_Check (St.enter [x.enc] h) fun v h'=>v = .int .i64 (stepFault x) ∧ h' = h:=by
 rw [Ok_eq]
 simp (maxSteps:=999999) (disch:=omega) only [go_sem]
 by_cases c1 : x.kind < 1
 ·simp (maxSteps:=999999) (disch:=omega) only [go_sem,c1]; simp [stepFault,c1]
 by_cases c2 : 6 < x.kind
 ·simp (maxSteps:=999999) (disch:=omega) only [go_sem,c1,c2]; simp [stepFault,c2]
 simp (maxSteps:=999999) (disch:=omega) only [go_sem,c1,c2]
 refine W_callp rfl ⟨rfl,rfl⟩ (by simp only [go_sem]; exact icheck_ok h1) ?_
 simp (maxSteps:=999999) (disch:=omega) only [go_sem]
 by_cases c3 : dirFaultN x.dir x.name = 0
 ·simp (maxSteps:=999999) (disch:=omega) only [go_sem,c3]
  by_cases c4 : x.kind = 2
  ·simp (maxSteps:=999999) (disch:=omega) only [go_sem,c4]
   refine W_callp rfl ⟨rfl,rfl⟩ (by simp only [go_sem]; exact icheck_ok h2) ?_
   simp (maxSteps:=999999) (disch:=omega) only [go_sem]; simp [stepFault,c3,c4]
  by_cases c5 : x.kind = 4
  ·simp (maxSteps:=999999) (disch:=omega) only [go_sem,c4,c5]
   refine W_callp rfl ⟨rfl,rfl⟩ (by simp only [go_sem]; exact icheck_ok h2) ?_
   simp (maxSteps:=999999) (disch:=omega) only [go_sem]; simp [stepFault,c3,c5]
  simp (maxSteps:=999999) (disch:=omega) only [go_sem,c4,c5]
  (repeat' (first | simp (maxSteps:=999999) (disch:=first | assumption | omega) only [go_sem] | refine WG_ndec (fun _=>?_) (fun _=>?_) | refine WC_ndec (fun _=>?_) (fun _=>?_) | refine WG_dec (fun _=>?_) (fun _=>?_) | refine WC_dec (fun _=>?_) (fun _=>?_) | refine WG_bool (fun _=>?_) (fun _=>?_) | refine WC_bool (fun _=>?_) (fun _=>?_))) <;> simp_all [stepFault] <;> omega
 ·simp (maxSteps:=999999) (disch:=omega) only [go_sem,c3]
  simp [stepFault,c1,c2,c3]
theorem StepFault_ok {x : SStep} (h1 : x.name.size ≤ 9223372036854775807) (h2 : x.to.size ≤ 9223372036854775807) (h3 : x.text.size ≤ 9223372036854775807) : Ok tblE cx Fn.r_StepFault (St.enter [x.enc] h) fun v h'=>v = .int .i64 (stepFault x) ∧ h' = h:=by
 rw [Ok_eq]
 (repeat' (first | simp (maxSteps:=999999) (disch:=first | assumption | omega) only [go_sem] | (refine W_callp rfl ⟨rfl,rfl⟩ (by simp only [go_sem]; exact IsNameX_ok h1) ?_) | (refine W_callp rfl ⟨rfl,rfl⟩ (by simp only [go_sem]; exact IsNameX_ok h2) ?_) | refine WG_ndec (fun _=>?_) (fun _=>?_) | refine WC_ndec (fun _=>?_) (fun _=>?_) | refine WG_dec (fun _=>?_) (fun _=>?_) | refine WC_dec (fun _=>?_) (fun _=>?_) | refine WG_bool (fun _=>?_) (fun _=>?_) | refine WC_bool (fun _=>?_) (fun _=>?_))) <;> simp_all [stepFault,dirFaultN] <;> omega
end
def room (a b : Img) (d : Int) (s : Str) : Int:=if 0 ≤ slotOf b d s then -1 else freeSlot a b d
def addName (a : Img) (d s : Nat) (name : Str) (n : Nat) : Img :=
 (a.setEnt d s ⟨name,n,(a.ino n).stamp⟩).setIno n { a.ino n with links:=IntKind.i64.wrap ((a.ino n).links + 1) }
def newIno (st : Int) : Ino:=⟨true,st,0,Ino.none.part⟩
structure Fl where
 now : Img
 disk : Img
 stamp : Int
def WF (a : Img) : Prop:=(∀ d s,0 ≤ (a.ent d s).ino ∧ (a.ent d s).ino < 8) ∧ ∀ n p,-1 ≤ (a.ino n).prt p ∧ (a.ino n).prt p < 9
theorem stepFault_zero {x : SStep} (h : stepFault x = 0) : (1 ≤ x.kind ∧ x.kind ≤ 6) ∧ (0 ≤ x.dir ∧ x.dir < 3) ∧ isName x.name = true ∧ (x.kind = 2 ∨ x.kind = 4 → (0 ≤ x.toDir ∧ x.toDir < 3) ∧ isName x.to = true) ∧ (x.kind = 5 ∨ x.kind = 6 → 0 ≤ x.p ∧ x.p < 2) ∧ (x.kind = 5 → x.text.size ≤ 8):=by
 unfold stepFault at h
 split at h
 ·omega
 split at h
 ·exact absurd h (by assumption)
 rename_i h1 h2
 have h2 : dirFaultN x.dir x.name = 0:=by simpa using h2
 have key : ∀ d s,dirFaultN d s = 0 → (0 ≤ d ∧ d < 3) ∧ isName s = true:=by
  intro d s hd
  unfold dirFaultN at hd
  split at hd
  ·omega
  ·split at hd
   ·rename_i h3 h4; exact ⟨by omega,h4⟩
   ·omega
 obtain ⟨k1,k2⟩:=key _ _ h2
 refine ⟨by omega,k1,k2,fun hk=>?_,fun hk=>?_,fun hk=>?_⟩
 ·rw [if_pos hk] at h; exact key _ _ h
 ·rw [if_neg (by omega)] at h
  split at h
  ·omega
  ·rename_i h3; omega
 ·rw [if_neg (by omega)] at h
  split at h
  ·omega
  ·split at h
   ·omega
   ·rename_i h3 h4; omega
def encF (c : Nat) (st : Int) : AV:=.cons (.ptr (.obj c) [] tCache) (.cons (.int .i64 st) .unit)
@[go_sem] theorem at_F0 (c : Nat) (st : Int) : (encF c st).at [0] = some (.ptr (.obj c) [] tCache):=rfl
@[go_sem] theorem at_F1 (c : Nat) (st : Int) : (encF c st).at [1] = some (.int .i64 st):=rfl
@[go_sem] theorem put_F1 (c : Nat) (st n : Int) : (encF c st).put [1] (.int .i64 n) = some (encF c n):=rfl
@[go_sem] theorem field_F0 : tFiles.field 0 = some tP:=rfl
@[go_sem] theorem field_F1 : tFiles.field 1 = some tI:=rfl
@[go_sem] theorem fits_F (c : Nat) (st : Int) : (tFiles.fits (encF c st) = true) = True:=eq_true rfl
@[go_sem] theorem fitO_ptr (n : Nat) (p : List Nat) (t : Ty) : fitO tP (some (.ptr (.obj n) p t)) = some (.ptr (.obj n) p t):=rfl
@[go_sem] theorem fill_F (c : Nat) : fill tFiles tFiles.zero [(0,.ptr (.obj c) [] tCache)] = some (encF c 0):=rfl
@[go_sem] theorem fits_boxF (c : Nat) (st : Int) (i : Id) : fg (encF c st) i = encF c st:=rfl
@[go_sem] theorem fits_tP (n : Nat) (p : List Nat) (t : Ty) : (tP.fits (.ptr (.obj n) p t) = true) = True:=eq_true rfl
@[go_sem] theorem put_C0 (a b : Img) (p : List Nat) (x : AV) : (encC a b).put (0 :: p) x = (a.enc.put p x).map fun y=>.cons y (.cons b.enc .unit):=rfl
@[go_sem] theorem put_C1 (a b : Img) (p : List Nat) (x : AV) : (encC a b).put (1 :: p) x = (b.enc.put p x).map fun y=>.cons a.enc (.cons y .unit):=by
 show ((b.enc.put p x).map fun y=>AV.cons y .unit).map (fun y=>AV.cons a.enc y) = _
 cases b.enc.put p x <;> rfl
@[go_sem] theorem Cmk (a b : Img) : AV.cons a.enc (.cons b.enc .unit) = encC a b:=rfl
@[go_sem] theorem results_nil {cx : Cx} {s : St} : results cx s [] = some (.tup .unit):=rfl
theorem ob_self {h : HP} {n : Nat} {t : Ty} {v : AV} (e : h.look (.obj n) = some ⟨t,v⟩) : h.ob n t v = h:=by
 cases h
 simp only [HP.look] at e
 simp only [HP.ob,HP.set,HP.mk.injEq,and_true,true_and]
 funext k
 by_cases hk : k = n <;> simp [hk,e]
theorem prt_none (p : Nat) : -1 ≤ Ino.none.prt p ∧ Ino.none.prt p < 9:=by
 by_cases hp : p < 2
 ·simp [Ino.prt,Ino.none,hp]
 ·simp [Ino.prt,hp]
theorem prt_with (i : Ino) (l : Int) (p : Nat) : Ino.prt ⟨i.live,i.stamp,l,i.part⟩ p = i.prt p:=rfl
theorem prt_new (st : Int) (p : Nat) : (newIno st).prt p = Ino.none.prt p:=rfl
section
variable {cx : Cx} {h : HP} {f c : Nat} {a b : Img} {st : Int}
def encR (t : Str) (b : Bool) (c : Int) : AV:=.tup (.cons (.str t) (.cons (.bool b) (.cons (.int .i64 c) .unit)))
@[go_sem] theorem fill_step1 (k d p : Int) (s : Str) : fill tStep tStep.zero [(0,.int .i64 k),(1,.int .i64 d),(4,.str s),(3,.int .i64 p)] = some (SStep.enc ⟨k,d,0,p,s,⟨#[]⟩,⟨#[]⟩⟩):=rfl
@[go_sem] theorem encR_mk (t : Str) (b : Bool) (c : Int) : some (AV.tup (.cons (.str t) (.cons (.bool b) (.cons (.int .i64 c) .unit)))) = some (encR t b c):=rfl
end
structure Bd where
 now : Img
 disk : Img
 stamp : Int
 crashes : Int
 files : Int
 counts : Int
 datas : Int
def tailB (s c f n d : Int) : AV:=.cons (.int .i64 s) (.cons (.int .i64 c) (.cons (.int .i64 f) (.cons (.int .i64 n) (.cons (.int .i64 d) .unit))))
def Bd.enc (B : Bd) : AV:=.cons B.now.enc (.cons B.disk.enc (tailB B.stamp B.crashes B.files B.counts B.datas))
@[go_sem] theorem at_B0 (B : Bd) (p : List Nat) : B.enc.at (0 :: p) = B.now.enc.at p:=rfl
@[go_sem] theorem at_B1 (B : Bd) (p : List Nat) : B.enc.at (1 :: p) = B.disk.enc.at p:=rfl
@[go_sem] theorem at_B2 (B : Bd) : B.enc.at [2] = some (.int .i64 B.stamp):=rfl
@[go_sem] theorem at_B3 (B : Bd) : B.enc.at [3] = some (.int .i64 B.crashes):=rfl
@[go_sem] theorem at_B4 (B : Bd) : B.enc.at [4] = some (.int .i64 B.files):=rfl
@[go_sem] theorem at_B5 (B : Bd) : B.enc.at [5] = some (.int .i64 B.counts):=rfl
@[go_sem] theorem at_B6 (B : Bd) : B.enc.at [6] = some (.int .i64 B.datas):=rfl
@[go_sem] theorem put_B0 (B : Bd) (p : List Nat) (x : AV) : B.enc.put (0 :: p) x = (B.now.enc.put p x).map fun y=>.cons y (.cons B.disk.enc (tailB B.stamp B.crashes B.files B.counts B.datas)):=rfl
@[go_sem] theorem put_B1 (B : Bd) (p : List Nat) (x : AV) : B.enc.put (1 :: p) x = (B.disk.enc.put p x).map fun y=>.cons B.now.enc (.cons y (tailB B.stamp B.crashes B.files B.counts B.datas)):=by
 show ((B.disk.enc.put p x).map fun y=>AV.cons y (tailB B.stamp B.crashes B.files B.counts B.datas)).map (fun y=>AV.cons B.now.enc y) = _
 cases B.disk.enc.put p x <;> rfl
@[go_sem] theorem put_B2 (B : Bd) (x : Int) : B.enc.put [2] (.int .i64 x) = some (Bd.enc { B with stamp:=x }):=rfl
@[go_sem] theorem put_B3 (B : Bd) (x : Int) : B.enc.put [3] (.int .i64 x) = some (Bd.enc { B with crashes:=x }):=rfl
@[go_sem] theorem put_B4 (B : Bd) (x : Int) : B.enc.put [4] (.int .i64 x) = some (Bd.enc { B with files:=x }):=rfl
@[go_sem] theorem put_B5 (B : Bd) (x : Int) : B.enc.put [5] (.int .i64 x) = some (Bd.enc { B with counts:=x }):=rfl
@[go_sem] theorem put_B6 (B : Bd) (x : Int) : B.enc.put [6] (.int .i64 x) = some (Bd.enc { B with datas:=x }):=rfl
@[go_sem] theorem Bmk (a b : Img) (s c f n d : Int) : AV.cons a.enc (.cons b.enc (tailB s c f n d)) = Bd.enc ⟨a,b,s,c,f,n,d⟩:=rfl
@[go_sem] theorem field_B0 : tBed.field 0 = some tImage:=rfl
@[go_sem] theorem field_B1 : tBed.field 1 = some tImage:=rfl
@[go_sem] theorem field_B2 : tBed.field 2 = some tI:=rfl
@[go_sem] theorem field_B3 : tBed.field 3 = some tI:=rfl
@[go_sem] theorem field_B4 : tBed.field 4 = some tI:=rfl
@[go_sem] theorem field_B5 : tBed.field 5 = some tI:=rfl
@[go_sem] theorem field_B6 : tBed.field 6 = some tI:=rfl
theorem fits_B' (B : Bd) : tBed.fits B.enc = true:=by
 show (Ty.cons tImage (.cons tImage _)).fits (AV.cons _ (.cons _ _)) = true
 simp only [fits_cons,fits_img',true_and]
 rfl
@[go_sem] theorem fits_B (B : Bd) : (tBed.fits B.enc = true) = True:=eq_true (fits_B' B)
@[go_sem] theorem fg_B (B : Bd) (i : Id) : fg B.enc i = B.enc:=rfl
@[go_sem] theorem leads_B (B : Bd) (i : Id) : B.enc.leads i = false:=rfl
theorem zero_bed : tBed.zero = Bd.enc ⟨.zero,.zero,0,0,0,0,0⟩:=by
 show AV.cons tImage.zero (.cons tImage.zero _) = _
 rw [zero_img]; rfl
@[go_sem] theorem fill_B (a b : Img) : fill tBed tBed.zero [(0,a.enc),(1,b.enc)] = some (Bd.enc ⟨a,b,0,0,0,0,0⟩):=by
 rw [zero_bed]
 simp only [fill]
 show (if tImage.fits a.enc = true then _ else _) = _
 rw [if_pos (fits_img' a),put_B0,put_nil,Option.map_some,Bmk]
 show (if tImage.fits b.enc = true then _ else _) = _
 rw [if_pos (fits_img' b),put_B1,put_nil,Option.map_some,Bmk]
def Bd.fl (B : Bd) : Fl:=⟨B.now,B.disk,B.stamp⟩
section
variable {T : Nat → Option MFun} {cx : Cx} {k : List Item} {kill : List Nat} {r : List MOp} {sl : Slots} {own : Own} {h : HP} {Q : St → Prop}
def WBX (T : Nat → Option MFun) (cx : Cx) (t : Ty) (v : AV) (d : Nat) (r : List MOp) (kill : List Nat) (k : List Item) (sl : Slots) (own : Own) (h : HP) (Q : St → Prop) : Prop :=
 t.fits v = true ∧ W T cx (.ops r kill :: k) ⟨sl.set d (.ptr (.obj h.next) [] t),own,h.nw t v⟩ Q
@[go_sem] theorem WBX_bed {B : Bd} {d : Nat} : WBX T cx tBed B.enc d r kill k sl own h Q = W T cx (.ops r kill :: k) ⟨sl.set d (.ptr (.obj h.next) [] tBed),own,h.nw tBed B.enc⟩ Q:=by
 simp only [WBX,fits_B,true_and]
@[go_sem] theorem WBX_files {c : Nat} {n : Int} {d : Nat} : WBX T cx tFiles (encF c n) d r kill k sl own h Q = W T cx (.ops r kill :: k) ⟨sl.set d (.ptr (.obj h.next) [] tFiles),own,h.nw tFiles (encF c n)⟩ Q:=by
 simp only [WBX,fits_F,true_and]
theorem W_boxX {d : Nat} {t : Ty} {x : Opd} : W T cx (.ops (⟨some d,.box true t x,none⟩ :: r) kill :: k) ⟨sl,own,h⟩ Q = WBX T cx t (St.opd ⟨sl,own,h⟩ x) d r kill k sl own h Q:=by
 rw [W_op rfl,evOp]
 simp only [evK,WBX]
 by_cases h1 : t.fits (St.opd ⟨sl,own,h⟩ x) = true
 ·simp only [h1,true_and,if_true]; rfl
 ·simp only [h1,false_and,Bool.false_eq_true,if_false]; rfl
@[go_sem] theorem W_boxBed {d : Nat} {x : Opd} : W T cx (.ops (⟨some d,.box true tBed x,none⟩ :: r) kill :: k) ⟨sl,own,h⟩ Q = WBX T cx tBed (St.opd ⟨sl,own,h⟩ x) d r kill k sl own h Q:=W_boxX
@[go_sem] theorem W_boxFiles {d : Nat} {x : Opd} : W T cx (.ops (⟨some d,.box true tFiles x,none⟩ :: r) kill :: k) ⟨sl,own,h⟩ Q = WBX T cx tFiles (St.opd ⟨sl,own,h⟩ x) d r kill k sl own h Q:=W_boxX
@[go_sem] theorem mk1_nw (a b : Img) : h.mk1 a b = h.nw tCache (encC a b):=rfl
end
theorem ent_addName (a : Img) (d s : Nat) (name : Str) (n : Nat) (d' s' : Nat) : (addName a d s name n).ent d' s' = if (d = d' ∧ s = s') ∧ d' < 3 ∧ s' < 4 then ⟨name,n,(a.ino n).stamp⟩ else a.ent d' s':=by
 rw [addName,ent_setIno,ent_setEnt]
structure Fr (h h' : HP) (S : List Nat) : Prop where
 stk : h'.stk = h.stk
 arg : h'.arg = h.arg
 next : h.next ≤ h'.next
 same : ∀ n,n < h.next → n ∉ S → h'.obj n = h.obj n
theorem Fr.refl (h : HP) (S : List Nat) : Fr h h S:=⟨rfl,rfl,Nat.le_refl _,fun _ _ _=>rfl⟩
theorem Fr.trans {h h1 h2 : HP} {S : List Nat} (a : Fr h h1 S) (b : Fr h1 h2 S) : Fr h h2 S :=
 ⟨b.stk.trans a.stk,b.arg.trans a.arg,Nat.le_trans a.next b.next,fun n hn hs=>(b.same n (by have:=a.next; omega) hs).trans (a.same n hn hs)⟩
theorem Fr.ob {h : HP} {n : Nat} {t : Ty} {v : AV} {S : List Nat} (hn : n ∈ S) : Fr h (h.ob n t v) S :=
 ⟨rfl,rfl,Nat.le_refl _,fun k _ hs=>obj_ob_ne fun e=>hs (e ▸ hn)⟩
theorem Fr.nw {h : HP} {t : Ty} {v : AV} {S : List Nat} : Fr h (h.nw t v) S :=
 ⟨rfl,rfl,Nat.le_succ _,fun k hk _=>by simp [HP.nw,HP.ob,HP.set]; omega⟩
theorem Fr.mono {h h' : HP} {S S' : List Nat} (a : Fr h h' S) (hs : ∀ n ∈ S,n < h.next → n ∈ S') : Fr h h' S' :=
 ⟨a.stk,a.arg,a.next,fun n hn hn'=>a.same n hn fun e=>hn' (hs n e hn)⟩
theorem Fr.look {h h' : HP} {S : List Nat} (a : Fr h h' S) {n : Nat} {b : Option Blk} (hn : n < h.next) (hs : n ∉ S) (e : h.look (.obj n) = b) : h'.look (.obj n) = b:=by
 rw [← e]; exact a.same n hn hs
theorem look_nn1 {h : HP} {t u : Ty} {v w : AV} : ((h.nw t v).nw u w).look (.obj (h.next + 1)) = some ⟨u,w⟩:=look_nw (h:=h.nw t v)
theorem look_nn0 {h : HP} {t u : Ty} {v w : AV} : ((h.nw t v).nw u w).look (.obj h.next) = some ⟨t,v⟩:=by
 rw [look_nw_ne (by show ¬h.next = h.next + 1; omega),look_nw]
section
variable {T : Nat → Option MFun} {cx : Cx} {k : List Item} {kill : List Nat} {r : List MOp} {sl : Slots} {own : Own} {h : HP} {Q : St → Prop}
theorem W_callF {S : List Nat} {R : AV → HP → Prop} {prot : Bool} {f : Nat} {args : List Opd} {d : Option Nat} {fn : MFun} (hf : T f = some fn) (hp : fn.params = args.length ∧ fn.nfree = 0)
  (hc : Ok T (St.callCx ⟨sl,own,h⟩ cx prot) fn (St.enter (args.map (St.opd ⟨sl,own,h⟩)) (h.push cx.lvl own)) fun v' h'=>Fr (h.push cx.lvl own) h' S ∧ R v' h')
  (hR : ∀ v h1,R v (HP.push h1 cx.lvl own) → R v h1)
  (hq : ∀ v h1,Fr h h1 S → R v h1 → W T cx (.ops r kill :: k) (St.setd ⟨sl,own,h1⟩ d v) Q) :
  W T cx (.ops (⟨d,.call prot [] f args,none⟩ :: r) kill :: k) ⟨sl,own,h⟩ Q:=by
 refine W_callR (R:=fun v h1=>Fr h h1 S ∧ R v h1) hf hp (hc.mono fun v h' e=>?_) fun v h1 e=>hq v h1 e.1 e.2
 obtain ⟨e1,e2⟩:=e
 have hh : h' = HP.push ⟨h.stk,h'.obj,h'.next,h'.arg⟩ cx.lvl own:=by
  have:=e1.stk
  cases h'
  simp only at this
  subst this
  rfl
 refine ⟨⟨h.stk,h'.obj,h'.next,h'.arg⟩,hh,rfl,⟨rfl,e1.arg,e1.next,e1.same⟩,hR _ _ (hh ▸ e2)⟩
end
def maxSt (m : Img) : Nat → Int
 | 0=>0
 | k + 1=>if maxSt m k < (m.ino k).stamp then (m.ino k).stamp else maxSt m k
@[go_sem] theorem maxV_int (k : IntKind) (a b : Int) : maxV (.int k a) (.int k b) = some (.int k (if a < b then b else a)):=by simp [maxV]
@[go_sem] theorem fits_tInodes (v : Vector Ino 8) : (tInodes.fits (encV Ino.enc v) = true) = True:=fits_inodes v
structure Lf where
 fl : Fl
 a : Int
 b : Int
 c : Int
 n : Int
def Lf.new : Lf:=⟨⟨.blank,.blank,0⟩,0,0,0,0⟩
theorem small_setEnt {m : Img} (h : m.small) {d s : Nat} {y : Ent} (hy : y.name.size ≤ 100000) : (m.setEnt d s y).small:=fun d' s'=>by
 rw [ent_setEnt]; split
 ·exact hy
 ·exact h d' s'
theorem small_wrDir {a b : Img} (ha : a.small) (hb : b.small) (d : Nat) : ∀ k,(wrDir a b d k).small
 | 0=>hb
 | k + 1=>by
  have ih:=small_wrDir ha hb d k
  refine small_setEnt ih ?_
  rcases entryAs_cases a (wrDir a b d k) d k with e | ⟨_,e,_⟩ | ⟨_,e,_⟩ <;> rw [e]
  ·exact ih d k
  ·exact ha d k
  ·decide
theorem small_writeAs {a b : Img} (ha : a.small) (hb : b.small) (x : Int) : (writeAs a b x).1.small:=by
 obtain ⟨n,hn,e⟩ | ⟨n,hn,e⟩ | ⟨n,hn,e⟩ | e:=blockOf_cases x
 ·rw [writeAs_i e]; intro d s; show ((wrInodes a b n 4).ent d s).name.size ≤ _; rw [wrInodes_ent]; exact hb d s
 ·rw [writeAs_d e]; exact small_wrDir ha hb n 4
 ·rw [writeAs_a e]; exact hb
 ·rw [writeAs_n e]; exact hb
theorem WF_check {m : Img} (hc : check m = 0) : WF m:=by
 refine ⟨fun d s=>?_,fun n p=>?_⟩
 ·by_cases h : d < 3 ∧ s < 4
  ·rcases entry_parts ((check_parts hc).1 d h.1 s h.2) with e | ⟨_,_,_,a4,a5,_⟩
   ·rw [e]; exact ⟨by decide,by decide⟩
   ·exact ⟨a4,a5⟩
  ·have : m.ent d s = Ent.zero:=by simp only [Img.ent]; rw [dif_neg h]
   rw [this]; exact ⟨by decide,by decide⟩
 ·by_cases hn : n < 8
  ·by_cases hp : p < 2
   ·cases hl : (m.ino n).live with
    | true =>
     have:=part_dat ((ino_parts hc hn hl).2.2 p hp)
     omega
    | false=>rw [dead_none hc hn hl]; exact prt_none p
   ·simp [Ino.prt,hp]
  ·have : m.ino n = Ino.zero:=by simp only [Img.ino]; rw [dif_neg hn]
   rw [this]
   by_cases hp : p < 2
   ·simp [Ino.prt,Ino.zero,hp]
   ·simp [Ino.prt,hp]
structure Inv0 (F : Fl) : Prop where
 wf : WF F.now
 sn : F.now.small
 sd : F.disk.small
def encLi (f : Nat) (a b c n : Int) : AV:=.cons (.ptr (.obj f) [] tFiles) (.cons (encLost a b c) (.cons (.int .i64 n) .unit))
@[go_sem] theorem at_Li0 (f : Nat) (a b c n : Int) : (encLi f a b c n).at [0] = some (.ptr (.obj f) [] tFiles):=rfl
@[go_sem] theorem at_Li1 (f : Nat) (a b c n : Int) : (encLi f a b c n).at [1] = some (encLost a b c):=rfl
@[go_sem] theorem at_Li2 (f : Nat) (a b c n : Int) : (encLi f a b c n).at [2] = some (.int .i64 n):=rfl
@[go_sem] theorem put_Li0 (f g : Nat) (a b c n : Int) : (encLi f a b c n).put [0] (.ptr (.obj g) [] tFiles) = some (encLi g a b c n):=rfl
@[go_sem] theorem put_Li1 (f : Nat) (a b c n a' b' c' : Int) : (encLi f a b c n).put [1] (encLost a' b' c') = some (encLi f a' b' c' n):=rfl
@[go_sem] theorem put_Li2 (f : Nat) (a b c n n' : Int) : (encLi f a b c n).put [2] (.int .i64 n') = some (encLi f a b c n'):=rfl
@[go_sem] theorem field_Li0 : tLife.field 0 = some tP:=rfl
@[go_sem] theorem field_Li1 : tLife.field 1 = some tLost:=rfl
@[go_sem] theorem field_Li2 : tLife.field 2 = some tI:=rfl
@[go_sem] theorem fill_Li (f : Nat) : fill tLife tLife.zero [(0,.ptr (.obj f) [] tFiles)] = some (encLi f 0 0 0 0):=rfl
@[go_sem] theorem fits_Li (f : Nat) (a b c n : Int) : (tLife.fits (encLi f a b c n) = true) = True:=eq_true rfl
section
variable {T : Nat → Option MFun} {cx : Cx} {k : List Item} {kill : List Nat} {r : List MOp} {sl : Slots} {own : Own} {h : HP} {Q : St → Prop}
@[go_sem] theorem WBX_life {f : Nat} {a b c n : Int} {d : Nat} : WBX T cx tLife (encLi f a b c n) d r kill k sl own h Q = W T cx (.ops r kill :: k) ⟨sl.set d (.ptr (.obj h.next) [] tLife),own,h.nw tLife (encLi f a b c n)⟩ Q:=by
 simp only [WBX,fits_Li,true_and]
@[go_sem] theorem W_boxLife {d : Nat} {x : Opd} : W T cx (.ops (⟨some d,.box true tLife x,none⟩ :: r) kill :: k) ⟨sl,own,h⟩ Q = WBX T cx tLife (St.opd ⟨sl,own,h⟩ x) d r kill k sl own h Q:=W_boxX
end
structure LifeAt (h : HP) (p f c : Nat) (L : Lf) : Prop where
 li : h.look (.obj p) = some ⟨tLife,encLi f L.a L.b L.c L.n⟩
 fi : h.look (.obj f) = some ⟨tFiles,encF c L.fl.stamp⟩
 ca : h.look (.obj c) = some ⟨tCache,encC L.fl.now L.fl.disk⟩
 pf : ¬p = f
 fc : ¬f = c
 pc : ¬p = c
 pn : p < h.next
 fn : f < h.next
 cn : c < h.next
def LifeTo (h h' : HP) (p f c : Nat) (L : Lf) : Prop:=∃ f' c',LifeAt h' p f' c' L ∧ ((f' = f ∧ c' = c) ∨ (h.next ≤ f' ∧ h.next ≤ c'))
theorem LifeAt.pop {h : HP} {p f c l : Nat} {o : Own} {L : Lf} (a : LifeAt (h.push l o) p f c L) : LifeAt h p f c L:=⟨a.li,a.fi,a.ca,a.pf,a.fc,a.pc,a.pn,a.fn,a.cn⟩
theorem LifeAt.push {h : HP} {p f c l : Nat} {o : Own} {L : Lf} (a : LifeAt h p f c L) : LifeAt (h.push l o) p f c L:=⟨a.li,a.fi,a.ca,a.pf,a.fc,a.pc,a.pn,a.fn,a.cn⟩
theorem LifeTo.pop {h h1 : HP} {p f c l l' : Nat} {o o' : Own} {L : Lf} (a : LifeTo (h.push l' o') (h1.push l o) p f c L) : LifeTo h h1 p f c L:=by
 obtain ⟨f',c',a,b⟩:=a
 exact ⟨f',c',a.pop,b⟩
theorem LifeTo.push {h h1 : HP} {p f c l : Nat} {o : Own} {L : Lf} (a : LifeTo h h1 p f c L) : LifeTo (h.push l o) h1 p f c L:=a
def sLt (a b : Str) : Bool:=Op.bytesLess a.toList b.toList
theorem bLt_irrefl : ∀ l : List UInt8,Op.bytesLess l l = false
 | []=>rfl
 | a :: l=>by simp [Op.bytesLess,bLt_irrefl l]
theorem bLt_asymm : ∀ l m : List UInt8,Op.bytesLess l m = true → Op.bytesLess m l = false
 | _,[],h=>by simp [Op.bytesLess] at h
 | [],b :: m,_=>rfl
 | a :: l,b :: m,h=>by
  simp only [Op.bytesLess,Bool.or_eq_true,Bool.and_eq_true,decide_eq_true_eq,beq_iff_eq] at h
  simp only [Op.bytesLess,Bool.or_eq_false_iff,decide_eq_false_iff_not]
  rcases h with h | ⟨rfl,h⟩
  ·refine ⟨fun e=>absurd (UInt8.lt_trans h e) (UInt8.lt_irrefl _),?_⟩
   have : ¬b = a:=fun e=>by subst e; exact absurd h (UInt8.lt_irrefl _)
   simp [this]
  ·exact ⟨UInt8.lt_irrefl _,by simp [bLt_asymm l m h]⟩
theorem bLt_total : ∀ l m : List UInt8,Op.bytesLess l m = false → Op.bytesLess m l = false → l = m
 | [],[],_,_=>rfl
 | [],_ :: _,h,_=>by simp [Op.bytesLess] at h
 | _ :: _,[],_,h=>by simp [Op.bytesLess] at h
 | a :: l,b :: m,h,k=>by
  simp only [Op.bytesLess,Bool.or_eq_false_iff,decide_eq_false_iff_not] at h k
  have e : a = b:=by
   have h1:=h.1; have k1:=k.1
   rw [UInt8.lt_iff_toNat_lt] at h1 k1
   exact UInt8.toNat_inj.1 (by omega)
  subst e
  simp at h k
  rw [bLt_total l m h k]
theorem bLt_trans : ∀ l m n : List UInt8,Op.bytesLess l m = true → Op.bytesLess m n = true → Op.bytesLess l n = true
 | _,[],_,h,_=>by simp [Op.bytesLess] at h
 | _,_ :: _,[],_,h=>by simp [Op.bytesLess] at h
 | [],_ :: _,_ :: _,_,_=>rfl
 | a :: l,b :: m,c :: n,h,k=>by
  simp only [Op.bytesLess,Bool.or_eq_true,Bool.and_eq_true,decide_eq_true_eq,beq_iff_eq] at h k ⊢
  rcases h with h | ⟨rfl,h⟩
  ·rcases k with k | ⟨rfl,k⟩
   ·exact .inl (UInt8.lt_trans h k)
   ·exact .inl h
  ·rcases k with k | ⟨rfl,k⟩
   ·exact .inl k
   ·exact .inr ⟨rfl,bLt_trans l m n h k⟩
theorem str_toList {a b : Str} : a.toList = b.toList ↔ a = b:=by
 constructor
 ·intro h
  rw [bytes_list,bytes_list] at h
  cases a; cases b
  simp only [ByteArray.mk.injEq]
  exact Array.toList_inj.1 h
 ·rintro rfl; rfl
theorem sLt_irrefl (a : Str) : sLt a a = false:=bLt_irrefl _
theorem sLt_asymm {a b : Str} (h : sLt a b = true) : sLt b a = false:=bLt_asymm _ _ h
theorem sLt_trans {a b c : Str} (h : sLt a b = true) (k : sLt b c = true) : sLt a c = true:=bLt_trans _ _ _ h k
theorem sLt_total {a b : Str} (h : sLt a b = false) (k : sLt b a = false) : a = b:=str_toList.1 (bLt_total _ _ h k)
def sLe (a b : Str) : Bool:=!sLt b a
theorem sLe_trans {a b c : Str} (h : sLe a b = true) (k : sLe b c = true) : sLe a c = true:=by
 simp only [sLe,Bool.not_eq_true'] at h k ⊢
 cases e : sLt c a with
 | false=>rfl
 | true =>
  cases e2 : sLt b c with
  | true=>rw [sLt_trans e2 e] at h; exact h
  | false =>
   have : b = c:=sLt_total e2 k
   subst this
   rw [e] at h; exact h
theorem sLe_antisymm {a b : Str} (h : sLe a b = true) (k : sLe b a = true) : a = b:=by
 simp only [sLe,Bool.not_eq_true'] at h k
 exact sLt_total k h
theorem sLe_refl (a : Str) : sLe a a = true:=by simp [sLe,sLt_irrefl]
def Sorted (l : List Str) : Prop:=l.Pairwise fun a b=>sLe a b = true
theorem sorted_unique : ∀ {l m : List Str},Sorted l → Sorted m → l.Perm m → l = m
 | [],m,_,_,p=>(List.Perm.nil_eq p)
 | a :: l,[],_,_,p=>absurd p.length_eq (by simp)
 | a :: l,b :: m,hl,hm,p=>by
  have e : a = b:=by
   have ha : a ∈ b :: m:=p.subset List.mem_cons_self
   have hb : b ∈ a :: l:=p.symm.subset List.mem_cons_self
   rcases List.mem_cons.1 ha with e | ha
   ·exact e
   ·rcases List.mem_cons.1 hb with e | hb
    ·exact e.symm
    ·exact sLe_antisymm ((List.pairwise_cons.1 hl).1 b hb) ((List.pairwise_cons.1 hm).1 a ha)
  subst e
  rw [sorted_unique (List.pairwise_cons.1 hl).2 (List.pairwise_cons.1 hm).2 (List.Perm.cons_inv p)]
def encS (l : List Str) : AV:=.ofList (l.map AV.str)
theorem encS_toList (l : List Str) : (encS l).toList = some (l.map AV.str):=by
 simp only [encS,AV.ofList,AV.toList]
 congr 1
 exact List.ext_getElem (by simp) (by simp)
theorem encS_fits (l : List Str) {n : Nat} (h : n = l.length) : (Ty.arr n tS).fits (encS l) = true:=by
 subst h
 simp [encS,AV.ofList,Ty.fits,tS,LK.fits,AV.safe]
def txt (l : List Str) (i : Nat) : Str:=l.getD i ⟨#[]⟩
@[go_sem] theorem encS_at (l : List Str) {i : Nat} (h : i < l.length) : (encS l).at [i] = some (.str (txt l i)):=by
 simp [encS,AV.ofList,AV.at,h,txt]
theorem txt_set (l : List Str) (i : Nat) (s : Str) (j : Nat) : txt (l.set i s) j = if j = i ∧ i < l.length then s else txt l j:=by
 simp only [txt,List.getD_eq_getElem?_getD,List.getElem?_set]
 by_cases e : i = j
 ·subst e
  by_cases h : i < l.length
  ·simp [h]
  ·simp [h]
 ·have : ¬j = i:=fun h=>e h.symm
  simp [e,this]
theorem txt_get {l : List Str} {i : Nat} (h : i < l.length) : txt l i = l[i]:=by simp [txt,h]
theorem arr_ofList {n : Nat} {f : Fin n → AV} {l : List AV} (hl : l.length = n) (h : ∀ i (hi : i < n),f ⟨i,hi⟩ = l[i]'(by omega)) : AV.arr n f = AV.ofList l:=by
 subst hl
 simp only [AV.ofList]
 congr 1
 funext i
 exact h i.val i.isLt
@[go_sem] theorem encS_put (l : List Str) {i : Nat} (h : i < l.length) (s : Str) : (encS l).put [i] (.str s) = some (encS (l.set i s)):=by
 simp only [encS,AV.ofList,AV.put,List.length_map,h,dite_true,Option.map_some]
 congr 1
 refine arr_ofList (by simp) fun j hj=>?_
 simp only [List.get_eq_getElem,List.getElem_map,List.getElem_set]
 by_cases e : j = i
 ·subst e; simp
 ·have : ¬i = j:=fun h=>e h.symm
  simp [e,this]
def cmpS (a b : Str) : Int:=if sLt a b = true then -1 else if a = b then 0 else 1
theorem cmpS_lt (a b : Str) : (cmpS a b < 0) ↔ sLt a b = true:=by
 unfold cmpS
 split
 ·simp [*]
 ·rename_i h1
  have h2 : sLt a b = false:=by simpa using h1
  split <;> simp [h2]
@[go_sem] theorem evStr_lss (a b : Str) : evStr .lss a b = some (.bool (sLt a b)):=rfl
@[go_sem] theorem evStr_gtr (a b : Str) : evStr .gtr a b = some (.bool (!(sLt a b || decide (a = b)))):=by
 show some (AV.bool (!(Op.bytesLess a.toList b.toList || a.toList == b.toList))) = _
 rw [bytes_eq]; rfl
section
variable {T : Nat → Option MFun} {cx : Cx} {k : List Item} {kill : List Nat} {r : List MOp} {sl : Slots} {own : Own} {h : HP} {Q : St → Prop}
@[go_sem] theorem sidxV_int {t : Ty} {j : Id} {off len : Nat} {z : Int} {kk : IntKind} {L : Id → Option Blk} (h0 : 0 ≤ z) (hm : z < len) : sidxV t (.sl j off len) (.int kk z) L = sidxB t j (off + z.toNat) (L j):=by
 simp only [sidxV,toIx]; rw [if_pos ⟨by omega,by omega⟩]
@[go_sem] theorem toNat_succ (p : Nat) : ((p : Int) + 1).toNat = p + 1:=by omega
theorem W_callvp {prot : Bool} {f : Nat} {x : Opd} {args : List Opd} {d : Option Nat} {fn : MFun} {v : AV} (hx : St.opd ⟨sl,own,h⟩ x = .func f .unit) (hf : T f = some fn) (hp : fn.params = args.length ∧ fn.nfree = 0)
  (hc : Ok T (St.callCx ⟨sl,own,h⟩ cx prot) fn (St.enter (args.map (St.opd ⟨sl,own,h⟩)) (h.push cx.lvl own)) fun v' h'=>v' = v ∧ h' = h.push cx.lvl own)
  (hq : W T cx (.ops r kill :: k) (St.setd ⟨sl,own,h⟩ d v) Q) :
  W T cx (.ops (⟨d,.callv prot [] x args,none⟩ :: r) kill :: k) ⟨sl,own,h⟩ Q:=by
 refine W_call (R:=fun v' h'=>v' = v ∧ h' = h.push cx.lvl own) (cx':=St.callCx ⟨sl,own,h⟩ cx prot) (hide:=[]) (e:=St.enter (args.map (St.opd ⟨sl,own,h⟩)) (h.push cx.lvl own)) (fn:=fn) (d:=d) (k1:=.ops r kill :: k) (s1:=⟨sl,own,h⟩) ?_ hc ?_
 ·simp only [next,St.wanted,opCmd,hx,enterCmd,hf,capList,List.length_map,List.length_nil,List.append_nil,veil_nil]
  rw [if_pos hp]
 ·rintro v' h' ⟨rfl,rfl⟩
  rw [pop_push]; exact hq
@[go_sem] theorem fg_func (f : Nat) (i : Id) : fg (.func f .unit) i = .func f .unit:=by simp [fg,AV.leads,AV.isAgg,AV.names]
@[go_sem] theorem leads_func (f : Nat) (i : Id) : (AV.func f .unit).leads i = false:=by simp [AV.leads,AV.isAgg,AV.names]
end
structure PermIn (l m : List Str) (a b : Nat) : Prop where
 perm : m.Perm l
 out : ∀ i,(i < a ∨ b ≤ i) → txt m i = txt l i
theorem PermIn.refl (l : List Str) (a b : Nat) : PermIn l l a b:=⟨List.Perm.refl _,fun _ _=>rfl⟩
theorem PermIn.len {l m : List Str} {a b : Nat} (h : PermIn l m a b) : m.length = l.length:=h.perm.length_eq
theorem PermIn.trans {l m n : List Str} {a b : Nat} (h : PermIn l m a b) (k : PermIn m n a b) : PermIn l n a b:=⟨k.perm.trans h.perm,fun i hi=>(k.out i hi).trans (h.out i hi)⟩
def swapL (l : List Str) (i j : Nat) : List Str:=(l.set i (txt l j)).set j (txt l i)
theorem swapL_len (l : List Str) (i j : Nat) : (swapL l i j).length = l.length:=by simp [swapL]
theorem txt_swap {l : List Str} {i j : Nat} (hi : i < l.length) (hj : j < l.length) (x : Nat) : txt (swapL l i j) x = if x = j then txt l i else if x = i then txt l j else txt l x:=by
 simp only [swapL,txt_set,List.length_set,hi,hj,and_true]
theorem swap_perm {l : List Str} {i j : Nat} (hi : i < l.length) (hj : j < l.length) : (swapL l i j).Perm l:=by
 rw [swapL,txt_get hi,txt_get hj]
 exact List.set_set_perm hi hj
theorem PermIn.swap {l : List Str} {a b i j : Nat} (hi : i < l.length) (hj : j < l.length) (h1 : a ≤ i ∧ i < b) (h2 : a ≤ j ∧ j < b) : PermIn l (swapL l i j) a b :=
 ⟨swap_perm hi hj,fun x hx=>by
  rw [txt_swap hi hj,if_neg (by omega),if_neg (by omega)]⟩
def SortedIn (l : List Str) (a b : Nat) : Prop:=∀ x y,a ≤ x → x < y → y < b → sLe (txt l x) (txt l y) = true
def SinkIn (l : List Str) (a i j : Nat) : Prop:=(∀ x y,a ≤ x → x < y → y ≤ i → ¬x = j → ¬y = j → sLe (txt l x) (txt l y) = true) ∧ ∀ y,j < y → y ≤ i → sLe (txt l j) (txt l y) = true
theorem sLe_of_lt {a b : Str} (h : sLt a b = true) : sLe a b = true:=by simp [sLe,sLt_asymm h]
theorem SinkIn.start {l : List Str} {a i : Nat} (h : SortedIn l a i) : SinkIn l a i i:=⟨fun x y hx hy hi hxi hyi=>h x y hx hy (by omega),fun y h1 h2=>by omega⟩
theorem SinkIn.step {l : List Str} {a i j : Nat} (h : SinkIn l a i (j + 1)) (hj : a ≤ j) (hi : j + 1 ≤ i) (hl : i < l.length) (hlt : sLt (txt l (j + 1)) (txt l j) = true) : SinkIn (swapL l (j + 1) j) a i j:=by
 have ts:=txt_swap (l:=l) (i:=j + 1) (j:=j) (by omega) (by omega)
 refine ⟨fun x y hx hxy hyi hxj hyj=>?_,fun y hy hyi=>?_⟩
 ·rw [ts x,ts y,if_neg hxj,if_neg hyj]
  by_cases e1 : x = j + 1
  ·rw [if_pos e1,if_neg (by omega)]
   exact h.1 j y hj (by omega) hyi (by omega) (by omega)
  ·rw [if_neg e1]
   by_cases e2 : y = j + 1
   ·rw [if_pos e2]
    exact h.1 x j hx (by omega) (by omega) (by omega) (by omega)
   ·rw [if_neg e2]
    exact h.1 x y hx hxy hyi (by omega) (by omega)
 ·rw [ts j,ts y,if_pos rfl,if_neg (by omega)]
  by_cases e2 : y = j + 1
  ·rw [if_pos e2]; exact sLe_of_lt hlt
  ·rw [if_neg e2]; exact h.2 y (by omega) hyi
theorem SinkIn.low {l : List Str} {a i : Nat} (h : SinkIn l a i a) : SortedIn l a (i + 1):=fun x y hx hxy hy=>by
 by_cases e : x = a
 ·subst e; exact h.2 y hxy (by omega)
 ·exact h.1 x y hx hxy (by omega) e (by omega)
theorem SinkIn.rest {l : List Str} {a i j : Nat} (h : SinkIn l a i (j + 1)) (hj : a ≤ j) (hge : sLt (txt l (j + 1)) (txt l j) = false) : SortedIn l a (i + 1):=fun x y hx hxy hy=>by
 have hle : sLe (txt l j) (txt l (j + 1)) = true:=by simp [sLe,hge]
 by_cases e : x = j + 1
 ·subst e; exact h.2 y hxy (by omega)
 ·by_cases e2 : y = j + 1
  ·subst e2
   by_cases e3 : x = j
   ·subst e3; exact hle
   ·by_cases e4 : j ≤ i
    ·exact sLe_trans (h.1 x j hx (by omega) e4 e (by omega)) hle
    ·omega
  ·exact h.1 x y hx hxy (by omega) e e2
section
variable {cx : Cx} {h : HP}
theorem isNaN_ok {a : Str} : Ok tblE cx Fn.cmp_isNaN (St.enter [.str a] h) fun v h'=>v = .bool false ∧ h' = h:=by
 rw [Ok_eq]
 simp (maxSteps:=999999) (disch:=omega) only [go_sem]
theorem Compare_ok {a b : Str} : Ok tblE cx Fn.cmp_Compare (St.enter [.str a,.str b] h) fun v h'=>v = .int .i64 (cmpS a b) ∧ h' = h:=by
 rw [Ok_eq]
 simp (maxSteps:=999999) (disch:=omega) only [go_sem]
 refine W_callp rfl ⟨rfl,rfl⟩ (by simp only [go_sem]; exact isNaN_ok) ?_
 simp (maxSteps:=999999) (disch:=omega) only [go_sem]
 refine W_callp rfl ⟨rfl,rfl⟩ (by simp only [go_sem]; exact isNaN_ok) ?_
 simp (maxSteps:=999999) (disch:=omega) only [go_sem]
 cases c1 : sLt a b with
 | true=>simp (maxSteps:=999999) (disch:=omega) only [go_sem,c1]; simp [cmpS,c1]
 | false =>
  simp (maxSteps:=999999) (disch:=omega) only [go_sem,c1]
  by_cases c2 : a = b
  ·simp (maxSteps:=999999) (disch:=omega) only [go_sem,c2]
   simp [cmpS,sLt_irrefl]
  ·simp (maxSteps:=999999) (disch:=omega) only [go_sem,c2]
   simp [cmpS,c1,c2]
def IsCmp (F : Nat) : Prop:=∃ fn : MFun,tblE F = some fn ∧ (fn.params = 2 ∧ fn.nfree = 0) ∧ ∀ (cx : Cx) (h : HP) (a b : Str),Ok tblE cx fn (St.enter [.str a,.str b] h) fun v h'=>v = .int .i64 (cmpS a b) ∧ h' = h
theorem insSort_ok {F q n a b : Nat} {l : List Str} (hl : ∀ n,cx.prot.lets (.obj n) = true) (hF : IsCmp F) (hn : l.length = n) (hb : b ≤ n) (hn2 : n ≤ 1000000) (hab : a ≤ b) (hq : h.look (.obj q) = some ⟨.arr n tS,encS l⟩) :
  Ok tblE cx Fn.slices_insertionSortCmpFunc (St.enter [.sl (.obj q) 0 n,.int .i64 a,.int .i64 b,.func F .unit] h) fun v h'=>v = .tup .unit ∧ ∃ m,h' = h.ob q (.arr n tS) (encS m) ∧ PermIn l m a b ∧ SortedIn m a b:=by
 obtain ⟨fn,hf1,hf2,hf3⟩:=hF
 rw [Ok_eq]
 simp (maxSteps:=999999) (disch:=omega) only [go_sem]
 have h0 : h.ob q (.arr n tS) (encS l) = h:=ob_self hq
 refine W_forE (α:=List Str) (b - a) (fun k m=>⟨[(0,.sl (.obj q) 0 n),(1,.int .i64 a),(2,.int .i64 b),(3,.func F .unit),(8,.int .i64 (a + 1 + k : Nat))],[],h.ob q (.arr n tS) (encS m)⟩) (fun k m=>PermIn l m a b ∧ SortedIn m a (a + 1 + k)) l (by simp only [go_sem,h0] <;> rfl) ⟨PermIn.refl _ _ _,fun x y h1 h2 h3=>by omega⟩ fun k m hk hp ih=>?_
 obtain ⟨hp,hs⟩:=hp
 have hm:=hp.len
 by_cases hlt : a + 1 + k < b
 ·simp (maxSteps:=999999) (disch:=omega) only [go_sem,hlt]
  refine W_forE (α:=List Str) (k + 1) (fun j m=>⟨[(0,.sl (.obj q) 0 n),(1,.int .i64 a),(2,.int .i64 b),(3,.func F .unit),(8,.int .i64 (a + 1 + k : Nat)),(9,.int .i64 ((a + 1 + k - j : Nat) : Int))],[],h.ob q (.arr n tS) (encS m)⟩) (fun j m=>PermIn l m a b ∧ SinkIn m a (a + 1 + k) (a + 1 + k - j)) m (by simp only [go_sem] <;> rfl) ⟨hp,SinkIn.start hs⟩ fun j m hj hp ih2=>?_
  obtain ⟨hp,hs⟩:=hp
  have hm:=hp.len
  by_cases hj2 : j < k + 1
  ·obtain ⟨p,hpd⟩ : ∃ p,a + k - j = p:=⟨_,rfl⟩
   have e1 : a + 1 + k - j = p + 1:=by omega
   rw [e1] at hs ⊢
   have e2 : ((p : Int) + 1 - 1) = (p : Int):=by omega
   simp (maxSteps:=999999) (disch:=first | omega | (simp only [List.length_set]; omega)) only [go_sem,e2]
   refine W_callvp (v:=.int .i64 (cmpS (txt m (p + 1)) (txt m p))) (by simp only [go_sem] <;> rfl) hf1 hf2 (by simp only [go_sem]; exact hf3 _ _ _ _) ?_
   simp (maxSteps:=999999) (disch:=first | omega | (simp only [List.length_set]; omega)) only [go_sem]
   cases c : sLt (txt m (p + 1)) (txt m p) with
   | true =>
    have c' : cmpS (txt m (p + 1)) (txt m p) < 0:=(cmpS_lt _ _).2 c
    simp (maxSteps:=999999) (disch:=first | omega | (simp only [List.length_set]; omega)) only [go_sem,c',e2,stV_ob (hl _)]
    refine ih2 _ (swapL m (p + 1) p) hj2 ?_ ⟨hp.trans (PermIn.swap (by omega) (by omega) (by omega) (by omega)),?_⟩
    ·have e3 : a + 1 + k - (j + 1) = p:=by omega
     simp only [go_sem,e3,swapL]
    ·have e3 : a + 1 + k - (j + 1) = p:=by omega
     rw [e3]
     exact hs.step (by omega) (by omega) (by omega) c
   | false =>
    have c' : ¬cmpS (txt m (p + 1)) (txt m p) < 0:=fun e=>by rw [cmpS_lt,c] at e; simp at e
    simp (maxSteps:=999999) (disch:=first | omega | (simp only [List.length_set]; omega)) only [go_sem,c']
    refine ih _ m (by omega) ?_ ⟨hp,?_⟩
    ·simp only [go_sem,Int.add_assoc]
    ·exact hs.rest (by omega) c
  ·obtain rfl : j = k + 1:=by omega
   have e1 : a + 1 + k - (k + 1) = a:=by omega
   rw [e1] at hs ⊢
   simp (maxSteps:=999999) (disch:=first | omega | (simp only [List.length_set]; omega)) only [go_sem]
   refine ih _ m (by omega) ?_ ⟨hp,?_⟩
   ·simp only [go_sem,Int.add_assoc]
   ·exact hs.low
 ·simp (maxSteps:=999999) (disch:=first | omega | (simp only [List.length_set]; omega)) only [go_sem,hlt]
  refine ⟨m,rfl,hp,fun x y h1 h2 h3=>hs x y h1 h2 (by omega)⟩
def lenTab : Str:=⟨#[0,1,2,2,3,3,3,3,4,4,4,4,4,4,4,4,5,5,5,5,5,5,5,5,5,5,5,5,5,5,5,5,6,6,6,6,6,6,6,6,6,6,6,6,6,6,6,6,6,6,6,6,6,6,6,6,6,6,6,6,6,6,6,6,7,7,7,7,7,7,7,7,7,7,7,7,7,7,7,7,7,7,7,7,7,7,7,7,7,7,7,7,7,7,7,7,7,7,7,7,7,7,7,7,7,7,7,7,7,7,7,7,7,7,7,7,7,7,7,7,7,7,7,7,7,7,7,7,8,8,8,8,8,8,8,8,8,8,8,8,8,8,8,8,8,8,8,8,8,8,8,8,8,8,8,8,8,8,8,8,8,8,8,8,8,8,8,8,8,8,8,8,8,8,8,8,8,8,8,8,8,8,8,8,8,8,8,8,8,8,8,8,8,8,8,8,8,8,8,8,8,8,8,8,8,8,8,8,8,8,8,8,8,8,8,8,8,8,8,8,8,8,8,8,8,8,8,8,8,8,8,8,8,8,8,8,8,8,8,8,8,8,8,8,8,8,8,8,8,8,8,8,8,8,8,8]⟩
theorem lenTab_get {x : Nat} (hx : x < 256) : ∃ c : UInt8,lenTab[x]? = some c ∧ c.toNat ≤ 8:=by
 have h : ∀ x : Fin 256,∃ c : UInt8,lenTab[x.val]? = some c ∧ c.toNat ≤ 8:=by
  have : ∀ x : Fin 256,(match lenTab[x.val]? with | some c=>decide (c.toNat ≤ 8) | none=>false) = true:=by decide +kernel
  intro x
  have:=this x
  cases e : lenTab[x.val]? with
  | none=>rw [e] at this; simp at this
  | some c=>rw [e] at this; exact ⟨c,rfl,by simpa using this⟩
 exact h ⟨x,hx⟩
theorem Len64_ok {x : Nat} (hx : x < 256) : Ok tblE cx Fn.math_bits_Len64 (St.enter [.int .u64 x] h) fun v h'=>(∃ z : Int,0 ≤ z ∧ z ≤ 8 ∧ v = .int .i64 z) ∧ h' = h:=by
 obtain ⟨c,hc,hc8⟩:=lenTab_get hx
 have e1 : IntKind.u8.wrap (x : Int) = x:=by
  have e1 : (IntKind.u8).bits = 8:=rfl
  have e2 : (IntKind.u8).signed = false:=rfl
  have p1 : (2 : Int) ^ 8 = 256:=rfl
  simp only [IntKind.wrap,e1,e2,Bool.false_and,Bool.false_eq_true,if_false,p1]
  omega
 have e2 : stridxV (.str lenTab) (.int .u8 (x : Int)) = some (.int .u8 c.toNat):=by
  simp only [stridxV,toIx,Int.toNat_natCast,hc,Option.map_some]
  rw [if_pos (by omega)]
 have e3 : IntKind.i64.wrap (c.toNat : Int) = c.toNat:=wrap64 (by omega) (by omega)
 rw [Ok_eq]
 rw [lenTab] at e2
 simp (maxSteps:=999999) (disch:=omega) only [go_sem,e1,e2,e3]
 exact ⟨_,by omega,by omega,rfl⟩
theorem Len_ok {x : Nat} (hx : x < 256) : Ok tblE cx Fn.math_bits_Len (St.enter [.int .u64 x] h) fun v h'=>(∃ z : Int,0 ≤ z ∧ z ≤ 8 ∧ v = .int .i64 z) ∧ h' = h:=by
 rw [Ok_eq]
 simp (maxSteps:=999999) (disch:=omega) only [go_sem]
 refine W_callhv (P:=fun v=>∃ z : Int,0 ≤ z ∧ z ≤ 8 ∧ v = .int .i64 z) h rfl ⟨rfl,rfl⟩ rfl (by simp only [go_sem]; exact Len64_ok hx) ?_
 rintro v ⟨z,z0,z8,rfl⟩
 simp (maxSteps:=999999) (disch:=omega) only [go_sem]
 exact ⟨_,z0,z8,rfl⟩
def sortS (l : List Str) : List Str:=l.mergeSort sLe
theorem sortS_sorted (l : List Str) : Sorted (sortS l):=List.pairwise_mergeSort (le:=sLe) (fun a b c=>sLe_trans) (fun a b=>by
 cases e : sLt b a with
 | false=>simp [sLe,e]
 | true=>simp [sLe,sLt_asymm e]) l
theorem sortS_perm (l : List Str) : (sortS l).Perm l:=List.mergeSort_perm l sLe
theorem sorted_of {m : List Str} (h : SortedIn m 0 m.length) : Sorted m:=by
 rw [Sorted,List.pairwise_iff_getElem]
 intro i j hi hj hij
 have:=h i j (Nat.zero_le _) hij hj
 rwa [txt_get hi,txt_get hj] at this
theorem sortS_eq {l m : List Str} (hp : m.Perm l) (hs : Sorted m) : m = sortS l:=sorted_unique hs (sortS_sorted l) (hp.trans (sortS_perm l).symm)
theorem insNil_ok {F : Nat} : Ok tblE cx Fn.slices_insertionSortCmpFunc (St.enter [.nilsl,.int .i64 0,.int .i64 0,.func F .unit] h) fun v h'=>v = .tup .unit ∧ h' = h:=by
 rw [Ok_eq]
 simp (maxSteps:=999999) (disch:=omega) only [go_sem,W_round]
theorem pdqNil_ok {F : Nat} {z : Int} : Ok tblE cx Fn.slices_pdqsortCmpFunc (St.enter [.nilsl,.int .i64 0,.int .i64 0,.int .i64 z,.func F .unit] h) fun v h'=>v = .tup .unit ∧ h' = h:=by
 rw [Ok_eq]
 simp (maxSteps:=999999) (disch:=omega) only [go_sem,W_round]
 refine W_callp rfl ⟨rfl,rfl⟩ (by simp only [go_sem]; exact insNil_ok) ?_
 simp (maxSteps:=999999) (disch:=omega) only [go_sem]
theorem SortNil_ok {F : Nat} : Ok tblE cx Fn.slices_SortFunc (St.enter [.nilsl,.func F .unit] h) fun v h'=>v = .tup .unit ∧ h' = h:=by
 have e1 : IntKind.u64.wrap 0 = ((0 : Nat) : Int):=by decide +kernel
 rw [Ok_eq]
 simp (maxSteps:=999999) (disch:=omega) only [go_sem,e1]
 refine W_callhv (P:=fun v=>∃ z : Int,0 ≤ z ∧ z ≤ 8 ∧ v = .int .i64 z) h rfl ⟨rfl,rfl⟩ rfl (by simp only [go_sem]; exact Len_ok (x:=0) (by omega)) ?_
 rintro v ⟨z,z0,z8,rfl⟩
 simp (maxSteps:=999999) (disch:=omega) only [go_sem]
 refine W_callp rfl ⟨rfl,rfl⟩ (by simp only [go_sem]; exact pdqNil_ok) ?_
 simp (maxSteps:=999999) (disch:=omega) only [go_sem]
end
def HP.dl (h : HP) (q : Nat) : HP:={ h with obj:=fun k=>if k = q then none else h.obj k }
theorem Fr.dl {h h1 : HP} {q : Nat} {S : List Nat} (a : Fr h h1 S) (hq : h.next ≤ q) : Fr h (h1.dl q) S :=
 ⟨a.stk,a.arg,a.next,fun n hn hs=>by
  show (if n = q then none else h1.obj n) = _
  rw [if_neg (by omega)]; exact a.same n hn hs⟩
def SlF (h h1 : HP) (v : AV) (l : List Str) : Prop:=(v = .nilsl ∧ l = []) ∨ ∃ q,v = .sl (.obj q) 0 l.length ∧ h.next ≤ q ∧ q < h1.next ∧ h1.look (.obj q) = some ⟨.arr l.length tS,encS l⟩
section
variable {T : Nat → Option MFun} {cx : Cx} {k : List Item} {kill : List Nat} {r : List MOp} {sl : Slots} {own : Own} {h : HP} {Q : St → Prop}
def WBs (T : Nat → Option MFun) (cx : Cx) (v : AV) (d : Nat) (r : List MOp) (kill : List Nat) (k : List Item) (sl : Slots) (own : Own) (h : HP) (Q : St → Prop) : Prop :=
 onO (fill (.arr 1 tS) (Ty.arr 1 tS).zero [(0,v)]) fun w=>W T cx (.ops r kill :: k) ⟨(Slots.forget sl (.stk cx.lvl d)).set d (.sl (.stk cx.lvl d) 0 1),own.set d ⟨.arr 1 tS,w⟩,h⟩ Q
theorem fill1s (s : Str) : fill (.arr 1 tS) (Ty.arr 1 tS).zero [(0,.str s)] = some (encS [s]):=by
 simp only [fill,Ty.part,Nat.lt_one_iff,if_true,fits_tS,Ty.zero,AV.put,Nat.zero_lt_one,dite_true,put_nil,Option.map_some,encS,AV.ofList]
 congr 2
 funext j
 match j with
 | ⟨0,_⟩=>rfl
@[go_sem] theorem WBs_str {s : Str} {d : Nat} : WBs T cx (.str s) d r kill k sl own h Q = W T cx (.ops r kill :: k) ⟨(Slots.forget sl (.stk cx.lvl d)).set d (.sl (.stk cx.lvl d) 0 1),own.set d ⟨.arr 1 tS,encS [s]⟩,h⟩ Q:=by
 simp only [WBs,fill1s,onO]
@[go_sem] theorem W_bslice1s {d : Nat} {x : Opd} : W T cx (.ops (⟨some d,.bslice false tS 1 [(0,x)],none⟩ :: r) kill :: k) ⟨sl,own,h⟩ Q = WBs T cx (St.opd ⟨sl,own,h⟩ x) d r kill k sl own h Q:=by
 rw [W_op rfl,evOp]
 simp only [evK,WBs,List.map_cons,List.map_nil]
 cases fill (.arr 1 tS) (Ty.arr 1 tS).zero [(0,St.opd ⟨sl,own,h⟩ x)] <;> rfl
def WAs (T : Nat → Option MFun) (cx : Cx) (x : AV) (add : Option (List AV)) (d : Nat) (r : List MOp) (kill : List Nat) (k : List Item) (sl : Slots) (own : Own) (h : HP) (Q : St → Prop) : Prop :=
 onO add fun add=>onO (evAppend (St.look cx ⟨sl,own,h⟩) tS x add) fun e=>onO (applyEff cx (some d) true ⟨sl,own,h⟩ e) fun p=>W T cx (.ops r kill :: k) (p.2.setd (some d) p.1) Q
def elemsS (b : Option Blk) (len : Nat) : Option (List AV):=match b with
 | some ⟨.arr _ t',v⟩=>match v.toList with
   | some l=>if tS = t' ∧ len ≤ l.length then some (l.take len) else none
   | none=>none
 | _=>none
@[go_sem] theorem elems_slS (L : Id → Option Blk) (j : Id) (len : Nat) : elems L tS (.sl j 0 len) = elemsS (L j) len:=by
 simp only [elems,elemsS,Nat.zero_add,List.drop_zero]
 cases L j with
 | none=>rfl
 | some b=>obtain ⟨bt,bv⟩:=b; cases bt <;> rfl
@[go_sem] theorem elemsS_all (l : List Str) (n : Nat) : elemsS (some ⟨.arr n tS,encS l⟩) l.length = some (l.map AV.str):=by
 have : List.take l.length (List.map AV.str l) = List.map AV.str l:=List.take_of_length_le (by simp)
 simp [elemsS,encS_toList,this]
@[go_sem] theorem elemsS_one (s : Str) : elemsS (some ⟨.arr 1 tS,encS [s]⟩) 1 = some [.str s]:=by
 simp [elemsS,encS_toList]
@[go_sem] theorem W_appendS {d : Nat} {x y : Opd} : W T cx (.ops (⟨some d,.append true [] tS x y,none⟩ :: r) kill :: k) ⟨sl,own,h⟩ Q = WAs T cx (St.opd ⟨sl,own,h⟩ x) (elems (St.look cx ⟨sl,own,h⟩) tS (St.opd ⟨sl,own,h⟩ y)) d r kill k sl own h Q:=by
 rw [W_op rfl,evOp]
 simp only [evK,WAs]
 cases elems (St.look cx ⟨sl,own,h⟩) tS (St.opd ⟨sl,own,h⟩ y) with
 | none=>rfl
 | some add =>
  simp only [onO_some]
  cases evAppend (St.look cx ⟨sl,own,h⟩) tS (St.opd ⟨sl,own,h⟩ x) add <;> rfl
@[go_sem] theorem WAs_nil {s : Str} {d : Nat} : WAs T cx .nilsl (some [.str s]) d r kill k sl own h Q =
  W T cx (.ops r kill :: k) ⟨sl.set d (.sl (.obj h.next) 0 1),own,h.nw (.arr 1 tS) (encS [s])⟩ Q:=by
 have hf:=encS_fits [s] (n:=1) rfl
 simp only [WAs,onO_some,evAppend,List.length_cons,List.length_nil,Nat.zero_add]
 rw [if_neg (by omega),if_pos ⟨hf,by omega⟩]
 rfl
theorem WAs_grow {d q : Nat} {s : Str} {l : List Str} (hl : cx.prot.lets (.obj q) = true) (hq : h.look (.obj q) = some ⟨.arr l.length tS,encS l⟩) (hm : l.length + 1 ≤ 1048576) : WAs T cx (.sl (.obj q) 0 l.length) (some [.str s]) d r kill k sl own h Q =
  W T cx (.ops r kill :: k) ⟨sl.set d (.sl (.obj h.next) 0 (l ++ [s]).length),own,(h.dl q).nw (.arr (l ++ [s]).length tS) (encS (l ++ [s]))⟩ Q:=by
 have hf:=encS_fits (l ++ [s]) (n:=l.length + 1) (by simp)
 have e : List.map AV.str (l ++ [s]) = (List.map AV.str l).take l.length ++ [.str s]:=by
  rw [List.map_append,List.take_of_length_le (by simp)]; rfl
 have el : (l ++ [s]).length = l.length + 1:=by simp
 simp only [encS,e] at hf ⊢
 simp only [WAs,onO_some,evAppend,look_obj,hq,encS_toList,List.length_map,List.length_cons,List.length_nil,Nat.zero_add,List.drop_zero,if_true]
 rw [if_neg (by omega),if_pos (by omega),if_pos ⟨hf,hm⟩]
 simp only [onO_some,applyEff,St.drop,Id.own,hl,if_true,Option.map_some,el]
 rfl
end
def encSteps (l : List SStep) : AV:=.ofList (l.map SStep.enc)
def stp (l : List SStep) (k : Nat) : SStep:=l.getD k ⟨0,0,0,0,⟨#[]⟩,⟨#[]⟩,⟨#[]⟩⟩
@[go_sem] theorem encSteps_at (l : List SStep) {k : Nat} (h : k < l.length) (p : List Nat) : (encSteps l).at (k :: p) = (stp l k).enc.at p:=by
 simp [encSteps,AV.ofList,AV.at,h,stp]
structure StepsV (h : HP) (v : AV) (l : List SStep) : Prop where
 len : lenV false v = some (.int .i64 l.length)
 fg : ∀ a b,Go.Mini.fg v (.stk a b) = v
 ld : ∀ a b,v.leads (.stk a b) = false
 ix : ∀ k,k < l.length → ∃ n,v = .sl (.arg n) 0 l.length ∧ h.look (.arg n) = some ⟨.arr l.length tStep,encSteps l⟩
theorem StepsV.to {h h' : HP} {v : AV} {l : List SStep} (a : StepsV h v l) (e : h'.arg = h.arg) : StepsV h' v l :=
 ⟨a.len,a.fg,a.ld,fun k hk=>by
  obtain ⟨n,h1,h2⟩:=a.ix k hk
  exact ⟨n,h1,by simp only [HP.look,e] at h2 ⊢; exact h2⟩⟩
theorem StepsV.push {h : HP} {v : AV} {l : List SStep} {a : Nat} {o : Own} (s : StepsV h v l) : StepsV (h.push a o) v l:=s.to rfl
structure SStep.ok (x : SStep) : Prop where
 name : x.name.size ≤ 9223372036854775807
 to : x.to.size ≤ 9223372036854775807
 text : x.text.size ≤ 9223372036854775807
section
variable {T : Nat → Option MFun} {cx : Cx} {k : List Item} {kill : List Nat} {r : List MOp} {sl : Slots} {own : Own} {h : HP} {Q : St → Prop}
def roV (v : AV) (o : Option AV) : Option AV:=match v with
 | .sl j _ _=>if j.isArg = true then o else none
 | .ptr j _ _=>if j.isArg = true then o else none
 | _=>none
@[go_sem] theorem roV_sl (n a b : Nat) (o : Option AV) : roV (.sl (.arg n) a b) o = o:=rfl
@[go_sem] theorem roV_ptr (n : Nat) (p : List Nat) (t : Ty) (o : Option AV) : roV (.ptr (.arg n) p t) o = o:=rfl
@[go_sem] theorem W_sidxT {d : Option Nat} {t : Ty} {x i : Opd} {s : St} : W T cx (.ops (⟨d,.sidx true t x i,none⟩ :: r) kill :: k) s Q = W1 T cx (roV (s.opd x) (sidxV t (s.opd x) (s.opd i) (s.look cx))) d r kill k s Q :=
 W_val rfl (by
  simp only [evK,sidxV,roV]
  cases s.opd x <;> try (simp; done)
  rename_i j off len
  cases toIx (s.opd i) with
  | none=>simp only []; split <;> rfl
  | some z =>
   simp only [true_implies]
   by_cases hj : j.isArg = true
   ·rw [if_pos hj]
    by_cases hz : 0 ≤ z ∧ z < (len : Int)
    ·rw [if_pos ⟨hz.1,hz.2,hj⟩,if_pos hz]
     cases s.look cx j with
     | none=>rfl
     | some b =>
      obtain ⟨bt,bv⟩:=b
      cases bt <;> try rfl
      simp only [sidxB]
      split <;> rfl
    ·rw [if_neg (fun h=>hz ⟨h.1,h.2.1⟩),if_neg hz]; rfl
   ·rw [if_neg (fun h=>hj h.2.2),if_neg hj]; rfl)
@[go_sem] theorem W_loadT {d : Option Nat} {t : Ty} {x : Opd} {s : St} : W T cx (.ops (⟨d,.load true none t x,none⟩ :: r) kill :: k) s Q = W1 T cx (roV (s.opd x) (ldV t (s.opd x) (s.rd cx))) d r kill k s Q :=
 W_val rfl (by
  simp only [evK,roV]
  cases s.opd x <;> simp only [ldV,rooted,true_implies,true_and,and_true,Option.map_none] <;> try rfl
  ·rename_i i p t'
   by_cases hj : i.isArg = true
   ·rw [if_pos hj]
    by_cases ht : t = t'
    ·simp only [ht,hj,and_self,if_true,St.rd]
     cases (s.look cx i).bind fun b=>b.val.at p with
     | none=>rfl
     | some v=>by_cases hf : t'.fits v = true <;> simp [hf]
    ·rw [if_neg (fun h=>ht h.1),if_neg ht]; rfl
   ·rw [if_neg (fun h=>hj h.2),if_neg hj]; rfl
  ·split <;> rfl)
end
def SlX (h : HP) (l : Nat) (v : AV) (m : List Str) : Prop:=(v = .nilsl ∧ m = []) ∨ ∃ i,v = .sl i 0 m.length ∧ i.below l ∧ h.look i = some ⟨.arr m.length tS,encS m⟩
theorem SlF.x {h h1 : HP} {v : AV} {m : List Str} {l : Nat} (a : SlF h h1 v m) : SlX h1 l v m:=by
 rcases a with a | ⟨q,h1,_,_,h2⟩
 ·exact .inl a
 ·exact .inr ⟨.obj q,h1,below_obj _ _,h2⟩
theorem SlX.len {h : HP} {l : Nat} {v : AV} {m : List Str} (a : SlX h l v m) : lenV false v = some (.int .i64 m.length):=by
 rcases a with ⟨rfl,rfl⟩ | ⟨i,rfl,_⟩ <;> rfl
section
variable {cx : Cx} {h : HP}
theorem SameTexts_ok {v w : AV} {l m : List Str} (hv : SlX h cx.lvl v l) (hw : SlX h cx.lvl w m) (hl : l.length ≤ 1000000) :
  Ok tblE cx Fn.r_SameTexts (St.enter [v,w] h) fun x h'=>x = .bool (decide (l = m)) ∧ h' = h:=by
 have h1:=hv.len
 have h2:=hw.len
 rw [Ok_eq]
 simp (maxSteps:=999999) (disch:=omega) only [go_sem,h1,h2]
 by_cases e : l.length = m.length
 rotate_left
 ·have : ¬l = m:=fun h=>e (by rw [h])
  simp (maxSteps:=999999) (disch:=omega) only [go_sem,this]
 simp (maxSteps:=999999) (disch:=omega) only [go_sem,h1,h2]
 refine W_forP l.length (fun k=>⟨[(0,v),(1,w),(5,.int .i64 k)],[],h⟩) (fun k=>∀ i,i < k → txt l i = txt m i) (by simp only [go_sem] <;> rfl) (fun i hi=>by omega) fun k hk hp ih=>?_
 by_cases hlt : k < l.length
 ·have hlt2 : k < m.length:=by omega
  rcases hv with ⟨rfl,rfl⟩ | ⟨i,rfl,hi1,hi2⟩
  ·simp at hlt
  rcases hw with ⟨rfl,rfl⟩ | ⟨j,rfl,hj1,hj2⟩
  ·simp at hlt2
  simp (maxSteps:=999999) (disch:=omega) only [go_sem,hlt,rd_ext hi1,rd_ext hj1,HP.rd,look_ext hi1,look_ext hj1,hi2,hj2]
  by_cases c : txt l k = txt m k
  ·simp (maxSteps:=999999) (disch:=omega) only [go_sem,c]
   refine ih _ hlt (step_all hp c) ?_
   simp only [go_sem]
  ·simp (maxSteps:=999999) (disch:=omega) only [go_sem,c]
   have : ¬l = m:=fun h=>c (by rw [h])
   simp (maxSteps:=999999) (disch:=omega) only [go_sem,this]
 ·obtain rfl : k = l.length:=by omega
  simp (maxSteps:=999999) (disch:=omega) only [go_sem,h1]
  have : l = m:=List.ext_getElem e fun i h1 h2=>by rw [← txt_get h1,← txt_get h2]; exact hp i h1
  simp (maxSteps:=999999) (disch:=omega) only [go_sem,this]
theorem greatStep_ok {x : SStep} : Ok tblE cx Fn.w_greatStep (St.enter [x.enc] h) fun v h'=>(∃ b,v = .bool b) ∧ h' = h:=by
 rw [Ok_eq]
 simp (maxSteps:=999999) (disch:=omega) only [go_sem]
 exact ⟨_,rfl⟩
theorem greatSteps_ok {v : AV} {l : List SStep} (hv : StepsV h v l) : Ok tblE cx Fn.w_greatSteps (St.enter [v] h) fun x h'=>(∃ b,x = .bool b ∧ (b = false → l.length ≤ 200)) ∧ h' = h:=by
 have h1:=hv.len
 rw [Ok_eq]
 simp (maxSteps:=999999) (disch:=omega) only [go_sem]
 refine W_forP l.length (fun k=>⟨[(0,v),(3,.int .i64 k)],[],h⟩) (fun k=>k ≤ 300) (by simp only [go_sem] <;> rfl) (by omega) fun k hk hp ih=>?_
 have fin : ∀ SL : Slots,True:=fun _=>trivial
 by_cases hlt : k < l.length
 ·by_cases h3 : k < 300
  ·obtain ⟨n,rfl,hn⟩:=hv.ix k hlt
   simp (maxSteps:=999999) (disch:=omega) only [go_sem,h1,hlt,h3,hn]
   refine W_callhv (P:=fun v=>∃ b,v = .bool b) h rfl ⟨rfl,rfl⟩ rfl (by simp only [go_sem]; exact greatStep_ok) ?_
   rintro _ ⟨b,rfl⟩
   cases b with
   | true=>simp (maxSteps:=999999) (disch:=omega) only [go_sem]; exact ⟨true,rfl,by simp⟩
   | false =>
    simp (maxSteps:=999999) (disch:=omega) only [go_sem]
    refine ih _ hlt (by omega) ?_
    simp only [go_sem]
  ·simp (maxSteps:=999999) (disch:=omega) only [go_sem,h1,hlt,h3]
   exact ⟨true,rfl,by simp⟩
 ·obtain rfl : k = l.length:=by omega
  simp (maxSteps:=999999) (disch:=omega) only [go_sem,h1]
  exact ⟨_,rfl,by simp; omega⟩
end
def LifeN (h0 h : HP) (p : Nat) (L : Lf) : Prop:=∃ f c,LifeAt h p f c L ∧ (h0.next ≤ p ∧ h0.next ≤ f ∧ h0.next ≤ c) ∧ Fr h0 h []
theorem Fr.since {h h1 h2 : HP} {S : List Nat} (a : Fr h h1 []) (b : Fr h1 h2 S) (hs : ∀ n ∈ S,h.next ≤ n) : Fr h h2 [] :=
 ⟨b.stk.trans a.stk,b.arg.trans a.arg,Nat.le_trans a.next b.next,fun n hn _=>(b.same n (Nat.lt_of_lt_of_le hn a.next) fun e=>absurd hn (Nat.not_lt.2 (hs n e))).trans (a.same n hn (by simp))⟩
theorem LifeN.same {h0 h1 h2 : HP} {p : Nat} {L : Lf} (a : LifeN h0 h1 p L) (b : Fr h1 h2 []) : LifeN h0 h2 p L:=by
 obtain ⟨f,c,hA,hb,hF⟩:=a
 exact ⟨f,c,⟨b.look hA.pn (by simp) hA.li,b.look hA.fn (by simp) hA.fi,b.look hA.cn (by simp) hA.ca,hA.pf,hA.fc,hA.pc,Nat.lt_of_lt_of_le hA.pn b.next,Nat.lt_of_lt_of_le hA.fn b.next,Nat.lt_of_lt_of_le hA.cn b.next⟩,hb,hF.trans b⟩
theorem LifeN.pop {h0 h1 : HP} {p l : Nat} {o : Own} {L : Lf} (a : LifeN (h0.push l o) (h1.push l o) p L) (hs : h1.stk = h0.stk) : LifeN h0 h1 p L:=by
 obtain ⟨f,c,hA,hb,hF⟩:=a
 exact ⟨f,c,hA.pop,hb,⟨hs,hF.arg,hF.next,hF.same⟩⟩
theorem LifeN.push {h0 h1 : HP} {p l : Nat} {o : Own} {L : Lf} (a : LifeN h0 h1 p L) : LifeN (h0.push l o) (h1.push l o) p L:=by
 obtain ⟨f,c,hA,hb,hF⟩:=a
 exact ⟨f,c,hA.push,hb,⟨by simp only [HP.push,hF.stk],hF.arg,hF.next,hF.same⟩⟩
theorem LifeN.stk {h0 h1 : HP} {p : Nat} {L : Lf} (a : LifeN h0 h1 p L) : h1.stk = h0.stk:=by
 obtain ⟨f,c,_,_,hF⟩:=a; exact hF.stk
theorem LifeN.arg {h0 h1 : HP} {p : Nat} {L : Lf} (a : LifeN h0 h1 p L) : h1.arg = h0.arg:=by
 obtain ⟨f,c,_,_,hF⟩:=a; exact hF.arg
@[go_sem] theorem fill_stepA (k : Int) : fill tStep tStep.zero [(0,.int .i64 k)] = some (SStep.enc ⟨k,0,0,0,⟨#[]⟩,⟨#[]⟩,⟨#[]⟩⟩):=rfl
@[go_sem] theorem fill_stepB (k : Int) (s : Str) : fill tStep tStep.zero [(0,.int .i64 k),(4,.str s)] = some (SStep.enc ⟨k,0,0,0,s,⟨#[]⟩,⟨#[]⟩⟩):=rfl
@[go_sem] theorem fill_stepC (k p : Int) : fill tStep tStep.zero [(0,.int .i64 k),(3,.int .i64 p)] = some (SStep.enc ⟨k,0,0,p,⟨#[]⟩,⟨#[]⟩,⟨#[]⟩⟩):=rfl
@[go_sem] theorem fill_lost1 (a : Int) : fill tLost (encLost 0 0 0) [(0,.int .i64 a)] = some (encLost a 0 0):=rfl
theorem SlF.push {h h1 : HP} {v : AV} {m : List Str} {l l' : Nat} {o o' : Own} (a : SlF (h.push l o) (h1.push l' o') v m) : SlF h h1 v m:=a
structure Ck (m : Img) : Prop where
 en : ∀ d s,d < 3 → s < 4 → m.ent d s = Ent.zero ∨ (¬(m.ent d s).name = ⟨#[]⟩ ∧ isName (m.ent d s).name = true ∧ 0 ≤ (m.ent d s).ino ∧ (m.ent d s).ino < 8 ∧ (m.ino (m.ent d s).ino.toNat).live = true ∧ (m.ino (m.ent d s).ino.toNat).stamp = (m.ent d s).stamp)
 un : ∀ d s t,d < 3 → s < 4 → t < 4 → ¬t = s → ¬(m.ent d s).name = ⟨#[]⟩ → ¬(m.ent d t).name = (m.ent d s).name
 li : ∀ n,n < 8 → (m.ino n).live = true → 1 ≤ (m.ino n).stamp ∧ (refs m n : Int) ≤ (m.ino n).links ∧ ∀ p,p < 2 → (m.ino n).prt p = -1 ∨ (0 ≤ (m.ino n).prt p ∧ (m.ino n).prt p < 9 ∧ (m.dat ((m.ino n).prt p).toNat).of = (m.ino n).stamp)
 de : ∀ n,n < 8 → (m.ino n).live = false → m.ino n = Ino.none
 st : ∀ n k,n < 8 → k < 8 → ¬n = k → (m.ino n).live = true → (m.ino k).live = true → ¬(m.ino n).stamp = (m.ino k).stamp
 pt : ∀ n k p q,n < 8 → k < 8 → p < 2 → q < 2 → (m.ino n).live = true → (m.ino k).live = true → 0 ≤ (m.ino n).prt p → (m.ino n).prt p = (m.ino k).prt q → n = k ∧ p = q
theorem Ck.of {m : Img} (hc : check m = 0) : Ck m:=by
 obtain ⟨h1,h2,h3⟩:=check_parts hc
 have h3' : ∀ n k,n < 8 → k < 8 → pairBad m n k = false:=by
  intro n k hn hk
  cases e : pairBad m n k with
  | false=>rfl
  | true=>rw [twice_at hn hk e] at h3; exact absurd h3 (by simp)
 refine ⟨fun d s hd hs=>?_,fun d s t hd hs ht hne hnm heq=>?_,fun n hn hl=>?_,fun n hn hl=>dead_none hc hn hl,fun n k hn hk hne hl hl' heq=>?_,fun n k p q hn hk hp hq hl hl' h0 heq=>?_⟩
 ·rcases entry_parts (h1 d hd s hs) with e | ⟨a1,a2,_,a4⟩
  ·exact .inl e
  ·exact .inr ⟨a1,a2,a4⟩
 ·rcases Nat.lt_or_ge t s with h | h
  ·rcases entry_parts (h1 d hd s hs) with e | ⟨_,_,a3,_⟩
   ·rw [e] at hnm; exact hnm rfl
   ·have:=anyN_false.1 a3 t h; simp [heq] at this
  ·rcases entry_parts (h1 d hd t ht) with e | ⟨_,_,a3,_⟩
   ·rw [← heq,e] at hnm; exact hnm rfl
   ·have:=anyN_false.1 a3 s (by omega); simp [heq] at this
 ·obtain ⟨a1,a2,a3⟩:=ino_parts hc hn hl
  exact ⟨a1,a2,fun p hp=>part_dat (a3 p hp)⟩
 ·have:=h3' n k hn hk
  simp [pairBad,hl,hl',hne,heq] at this
 ·have:=h3' n k hn hk
  simp only [pairBad,hl,hl',Bool.true_and,Bool.or_eq_false_iff] at this
  have:=anyN_false.1 (anyN_false.1 this.2 p hp) q hq
  simp only [partBad,h0,heq,decide_true,Bool.and_true] at this
  have h0' : 0 ≤ (m.ino k).prt q:=by rw [← heq]; exact h0
  simp [h0'] at this
  exact this
theorem Ck.check {m : Img} (h : Ck m) : check m = 0:=by
 refine check_of (fun d hd s hs=>?_) (fun n hn=>?_) ?_
 ·rcases h.en d s hd hs with e | ⟨a1,a2,a4,a5,a6,a7⟩
  ·simp [entryFault,e,show Ent.zero.name = ⟨#[]⟩ from rfl]
  ·exact entry_of a1 a2 (anyN_false.2 fun k hk=>by simpa using h.un d s k hd hs (by omega) (by omega) a1) a4 a5 a6 a7
 ·cases hl : (m.ino n).live with
  | true =>
   obtain ⟨a1,a2,a3⟩:=h.li n hn hl
   exact inoFault_of hl a1 a2 fun p hp=>partFault_of (a3 p hp)
  | false=>exact inoFault_dead (h.de n hn hl)
 ·rw [← twiceR_eq]
  refine anyN_false.2 fun n hn=>anyN_false.2 fun k hk=>?_
  cases hl : (m.ino n).live with
  | false=>simp [pairBad,hl]
  | true =>
   cases hl' : (m.ino k).live with
   | false=>simp [pairBad,hl']
   | true =>
    simp only [pairBad,hl,hl',Bool.true_and,Bool.or_eq_false_iff]
    refine ⟨?_,anyN_false.2 fun p hp=>anyN_false.2 fun q hq=>?_⟩
    ·by_cases e : n = k
     ·simp [e]
     ·simp [h.st n k hn hk e hl hl']
    ·by_cases h0 : 0 ≤ (m.ino n).prt p
     ·by_cases he : (m.ino n).prt p = (m.ino k).prt q
      ·obtain ⟨rfl,rfl⟩:=h.pt n k p q hn hk hp hq hl hl' h0 he
       simp [partBad]
      ·simp [partBad,he]
     ·simp [partBad,h0]
structure Ex1 (m : Img) (o : Nat) : Prop where
 ck : Ck m
 ln : ∀ n,n < 8 → (m.ino n).live = true → (m.ino n).links = refs m n
 rf : ∀ n,n < 8 → ¬n = o → (m.ino n).live = true → ¬refs m n = 0
theorem Ex1.of {m : Img} (h : exact m = true) (o : Nat) : Ex1 m o:=by
 obtain ⟨hc,hx⟩:=exact_parts h
 exact ⟨.of hc,fun n hn hl=>(hx n hn hl).2,fun n hn _ hl=>(hx n hn hl).1⟩
theorem held_iff {m : Img} {x : Int} : held m x = true ↔ ∃ n p,n < 8 ∧ p < 2 ∧ (m.ino n).live = true ∧ (m.ino n).prt p = x:=by
 rw [held,anyN_iff]
 constructor
 ·rintro ⟨n,hn,h⟩
  simp only [Bool.and_eq_true,Bool.or_eq_true,decide_eq_true_eq] at h
  rcases h.2 with e | e
  ·exact ⟨n,0,hn,by omega,h.1,e⟩
  ·exact ⟨n,1,hn,by omega,h.1,e⟩
 ·rintro ⟨n,p,hn,hp,hl,e⟩
  refine ⟨n,hn,?_⟩
  simp only [Bool.and_eq_true,Bool.or_eq_true,decide_eq_true_eq]
  rcases (by omega : p = 0 ∨ p = 1) with rfl | rfl
  ·exact ⟨hl,.inl e⟩
  ·exact ⟨hl,.inr e⟩
structure Ft (a b : Img) : Prop where
 fa : ∀ n,n < 8 → (a.ino n).live = true → (b.ino n).live = true → ¬(a.ino n).stamp = (b.ino n).stamp → refs b n = 0
 fb : ∀ n k,n < 8 → k < 8 → ¬k = n → (a.ino n).live = true → (b.ino k).live = true → ¬(b.ino k).stamp = (a.ino n).stamp
 fc : ∀ n p k q,n < 8 → p < 2 → k < 8 → q < 2 → (a.ino n).live = true → 0 ≤ (a.ino n).prt p → (b.ino k).live = true → (b.ino k).prt q = (a.ino n).prt p → k = n ∧ q = p ∧ (b.ino k).stamp = (a.ino n).stamp
 fd : ∀ x : Nat,x < 9 → held b x = true → (a.dat x).of = (b.dat x).of
 fe : ∀ d s,d < 3 → s < 4 → ¬(a.ent d s).name = ⟨#[]⟩ → ¬(b.ent d s).name = ⟨#[]⟩ → a.ent d s = b.ent d s
 fg : ∀ d s t,d < 3 → s < 4 → t < 4 → ¬t = s → ¬(a.ent d s).name = ⟨#[]⟩ → ¬(b.ent d t).name = (a.ent d s).name
theorem Ft.fits {a b : Img} (h : Ft a b) : Fits a b :=
 ⟨fun n hn=>⟨h.fa n hn,fun k hk=>h.fb n k hn hk,fun p hp hl h0 k hk q hq=>h.fc n p k q hn hp hk hq hl h0⟩,fun x hx=>h.fd x hx,fun d hd s hs=>⟨h.fe d s hd hs,fun t ht=>h.fg d s t hd hs ht⟩⟩
theorem Ft.self {m : Img} (hc : Ck m) : Ft m m :=
 ⟨fun n _ _ _ h=>absurd rfl h,fun n k hn hk hne hl hl' e=>hc.st n k hn hk (fun h=>hne h.symm) hl hl' e.symm,
 fun n p k q hn hp hk hq hl h0 hl' e=>by
  obtain ⟨rfl,rfl⟩:=hc.pt n k p q hn hk hp hq hl hl' h0 e.symm
  exact ⟨rfl,rfl,rfl⟩,
 fun _ _ _=>rfl,fun _ _ _ _ _ _=>rfl,fun d s t hd hs ht hne hn=>hc.un d s t hd hs ht hne hn⟩
theorem Ft.data {a b : Img} (h : Ft a b) (x : Nat) : Ft a (b.setDat x (a.dat x)) :=
 ⟨h.fa,h.fb,h.fc,fun y hy hh=>by
  rw [dat_setDat]
  split
  ·rename_i e; rw [e.1]
  ·exact h.fd y hy hh,h.fe,h.fg⟩
theorem Ft.inodes {a b : Img} (h : Ft a b) (ha : Ck a) (hb : Ck b) {n0 : Nat} (hn0 : n0 ≤ 4) : Ft a (wrInodes a b n0 4):=by
 have hE : ∀ d s,(wrInodes a b n0 4).ent d s = b.ent d s:=fun d s=>wrInodes_ent a b n0 d s 4
 have hI:=wrInodes_ino' a b n0 hn0
 have hD:=fun x=>wrInodes_dat a b n0 x 4
 have hR : ∀ i,refs (wrInodes a b n0 4) i = refs b i:=fun i=>refs_congr hE i
 generalize wrInodes a b n0 4 = X at *

 have hL : ∀ n,n < 8 → (X.ino n).live = true → ((a.ino n).live = true ∧ (X.ino n).stamp = (a.ino n).stamp ∧ ∀ p,p < 2 → (X.ino n).prt p = part a b n p) ∨
   ((b.ino n).live = true ∧ (X.ino n).stamp = (b.ino n).stamp ∧ ∀ p,(X.ino n).prt p = (b.ino n).prt p):=by
  intro n hn hl
  rw [hI] at hl ⊢
  split at hl
  ·rename_i hr
   rw [if_pos hr]
   rcases inodeAs_live_cases hl with ⟨a1,a2,a3⟩ | ⟨_,a2,_,a4,a5⟩
   ·exact .inl ⟨a1,a2,a3⟩
   ·exact .inr ⟨a2,a4,a5⟩
  ·rename_i hr
   rw [if_neg hr]
   exact .inr ⟨hl,rfl,fun _=>rfl⟩
 refine ⟨fun n hn hl hl' hne=>?_,fun n k hn hk hne hl hl'=>?_,fun n p k q hn hp hk hq hl h0 hl' heq=>?_,fun x hx hh=>?_,fun d s hd hs h1 h2=>?_,fun d s t hd hs ht hne h1=>?_⟩
 ·rw [hR]
  rcases hL n hn hl' with ⟨_,e,_⟩ | ⟨e1,e2,_⟩
  ·exact absurd e.symm hne
  ·exact h.fa n hn hl e1 (by rw [← e2]; exact hne)
 ·rcases hL k hk hl' with ⟨e1,e,_⟩ | ⟨e1,e2,_⟩
  ·rw [e]; exact ha.st k n hk hn hne e1 hl
  ·rw [e2]; exact h.fb n k hn hk hne hl e1
 ·rcases hL k hk hl' with ⟨e1,e2,e3⟩ | ⟨e1,e2,e3⟩
  ·rw [e3 q hq] at heq
   rcases part_cases a b k q with c | ⟨c,_⟩ | ⟨c,c1,c2⟩
   ·omega
   ·rw [c] at heq
    obtain ⟨rfl,rfl⟩:=ha.pt n k p q hn hk hp hq hl e1 h0 heq.symm
    exact ⟨rfl,rfl,e2⟩
   ·rw [c] at heq
    obtain ⟨rfl,rfl,_⟩:=h.fc n p k q hn hp hk hq hl h0 c1 heq
    exact ⟨rfl,rfl,e2⟩
  ·rw [e3] at heq
   obtain ⟨rfl,rfl,e⟩:=h.fc n p k q hn hp hk hq hl h0 e1 heq
   exact ⟨rfl,rfl,by rw [e2]; exact e⟩
 ·rw [hD]
  obtain ⟨k,q,hk,hq,hl',heq⟩:=held_iff.1 hh
  rcases hL k hk hl' with ⟨e1,e2,e3⟩ | ⟨e1,e2,e3⟩
  ·rw [e3 q hq] at heq
   rcases part_cases a b k q with c | ⟨c,c0,c9,c3⟩ | ⟨c,c1,c2⟩
   ·omega
   ·rw [c] at heq
    rcases (ha.li k hk e1).2.2 q hq with g | ⟨_,_,g⟩
    ·omega
    ·have : ((a.ino k).prt q).toNat = x:=by omega
     rw [this] at c3 g
     rw [c3,g]
   ·rw [c] at heq
    exact h.fd x hx (held_iff.2 ⟨k,q,hk,hq,c1,heq⟩)
  ·rw [e3] at heq
   exact h.fd x hx (held_iff.2 ⟨k,q,hk,hq,e1,heq⟩)
 ·rw [hE] at h2 ⊢; exact h.fe d s hd hs h1 h2
 ·rw [hE]; exact h.fg d s t hd hs ht hne h1
theorem Ft.dir {a b : Img} (h : Ft a b) (ha : Ck a) (hb : Ck b) {d0 : Nat} (hd0 : d0 < 3) : Ft a (wrDir a b d0 4):=by
 obtain ⟨i1,i2,i3,i4,_,_⟩:=wrDir_ok a b hd0 4 (Nat.le_refl _)
 generalize wrDir a b d0 4 = X at *
 have slot : ∀ d t,d < 3 → t < 4 → X.ent d t = b.ent d t ∨ X.ent d t = Ent.zero ∨ (X.ent d t = a.ent d t ∧ 0 ≤ (a.ent d t).ino ∧ (a.ent d t).ino < 8 ∧ (b.ino (a.ent d t).ino.toNat).live = true ∧ (b.ino (a.ent d t).ino.toNat).stamp = (a.ent d t).stamp):=by
  intro d t hd ht
  by_cases e : d = d0
  ·subst e; exact i4 t ht
  ·exact .inl (i3 d t hd ht (.inl e))
 refine ⟨fun n hn hl hl' hne=>?_,fun n k hn hk hne hl hl'=>?_,fun n p k q hn hp hk hq hl h0 hl' heq=>?_,fun x hx hh=>?_,fun d s hd hs h1 h2=>?_,fun d s t hd hs ht hne h1=>?_⟩
 ·rw [i1] at hl' hne
  have hz:=h.fa n hn hl hl' hne
  refine sumN_zeros fun d hd=>sumN_zeros fun s hs=>?_
  have hbz : leads b d s n = false:=by
   cases e : leads b d s n with
   | false=>rfl
   | true=>have:=refs_pos hd hs e; omega
  rcases slot d s hd hs with e | e | ⟨e,e0,e8,el,es⟩
  ·rw [leads_congr e,hbz]; rfl
  ·rw [leads_zero e]; rfl
  ·cases hx : leads X d s n with
   | false=>rfl
   | true =>
    exfalso
    rw [leads_congr e] at hx
    simp only [leads,Bool.and_eq_true,Bool.not_eq_true',decide_eq_false_iff_not,decide_eq_true_eq] at hx
    have en : (a.ent d s).ino.toNat = n:=by omega
    rw [en] at el es
    rcases ha.en d s hd hs with g | ⟨_,_,_,_,_,g⟩
    ·rw [g] at hx; exact hx.1 rfl
    ·rw [en] at g; exact hne (by rw [g,es])
 ·rw [i1] at hl' ⊢; exact h.fb n k hn hk hne hl hl'
 ·rw [i1] at hl' heq ⊢; exact h.fc n p k q hn hp hk hq hl h0 hl' heq
 ·rw [i2]; exact h.fd x hx (by rw [← held_congr i1]; exact hh)
 ·rcases slot d s hd hs with e | e | ⟨e,_⟩
  ·rw [e] at h2 ⊢; exact h.fe d s hd hs h1 h2
  ·rw [e] at h2; exact absurd rfl h2
  ·exact e.symm
 ·rcases slot d t hd ht with e | e | ⟨e,_⟩
  ·rw [e]; exact h.fg d s t hd hs ht hne h1
  ·rw [e]; exact fun e'=>h1 e'.symm
  ·rw [e]; exact ha.un d s t hd hs ht hne h1
theorem Ft.write {a b : Img} (h : Ft a b) (ha : Ck a) (hb : Ck b) (x : Int) : Ft a (writeAs a b x).1:=by
 obtain ⟨n,hn,e⟩ | ⟨n,hn,e⟩ | ⟨n,hn,e⟩ | e:=blockOf_cases x
 ·rw [writeAs_i e]; exact h.inodes ha hb hn
 ·rw [writeAs_d e]; exact h.dir ha hb hn
 ·rw [writeAs_a e]; exact h.data n
 ·rw [writeAs_n e]; exact h
theorem Ft.add {a b : Img} (h : Ft a b) {d k n : Nat} {name : Str} (hd : d < 3) (hk : k < 4) (n8 : n < 8) (hbn : (b.ent d k).name = ⟨#[]⟩) (hu : ∀ t,t < 4 → ¬(b.ent d t).name = name) : Ft (addName a d k name n) b:=by
 have hent:=ent_addName a d k name n
 have hlv : ∀ j,j < 8 → ((addName a d k name n).ino j).live = (a.ino j).live ∧ ((addName a d k name n).ino j).stamp = (a.ino j).stamp ∧ ∀ p,((addName a d k name n).ino j).prt p = (a.ino j).prt p:=fun j hj=>by
  simp only [addName,ino_setIno,ino_setEnt]
  split
  ·rename_i e; rw [← e.1]; exact ⟨rfl,rfl,fun p=>prt_with _ _ _⟩
  ·exact ⟨rfl,rfl,fun _=>rfl⟩
 have hdat : ∀ x,(addName a d k name n).dat x = a.dat x:=fun x=>by simp only [addName,dat_setIno,dat_setEnt]
 generalize addName a d k name n = X at *
 refine ⟨fun i hi hl hl' hne=>?_,fun i j hi hj hne hl hl'=>?_,fun i p j q hi hp hj hq hl h0 hl' heq=>?_,fun x hx hh=>?_,fun d' s hd' hs h1 h2=>?_,fun d' s t hd' hs ht hne h1=>?_⟩
 ·obtain ⟨e1,e2,_⟩:=hlv i hi
  rw [e1] at hl; rw [e2] at hne
  exact h.fa i hi hl hl' hne
 ·obtain ⟨e1,e2,_⟩:=hlv i hi
  rw [e1] at hl; rw [e2]
  exact h.fb i j hi hj hne hl hl'
 ·obtain ⟨e1,e2,e3⟩:=hlv i hi
  rw [e1] at hl; rw [e3] at h0 heq; rw [e2]
  exact h.fc i p j q hi hp hj hq hl h0 hl' heq
 ·rw [hdat]; exact h.fd x hx hh
 ·rw [hent] at h1 ⊢
  split at h1
  ·rename_i e; rw [← e.1.1,← e.1.2,hbn] at h2; exact absurd rfl h2
  ·rename_i e; rw [if_neg e]; exact h.fe d' s hd' hs h1 h2
 ·rw [hent] at h1 ⊢
  split at h1
  ·rename_i e; rw [if_pos e]; rw [← e.1.1]; exact hu t ht
  ·rename_i e; rw [if_neg e]; exact h.fg d' s t hd' hs ht hne h1
theorem Ft.new {a b : Img} (h : Ft a b) {n : Nat} {st : Int} (n8 : n < 8) (hr : refs b n = 0) (hmax : ∀ j,j < 8 → (b.ino j).live = true → (b.ino j).stamp < st) : Ft (a.setIno n (newIno st)) b:=by
 have hino : ∀ j,j < 8 → (a.setIno n (newIno st)).ino j = if n = j then newIno st else a.ino j:=fun j hj=>by rw [ino_setIno]; simp [hj]
 refine ⟨fun i hi' hl hl' hne=>?_,fun i j hi' hj hne hl hl'=>?_,fun i p j q hi' hp hj hq hl h0 hl' heq=>?_,h.fd,h.fe,h.fg⟩
 ·rw [hino i hi'] at hl hne
  by_cases e : n = i
  ·rw [← e]; exact hr
  ·rw [if_neg e] at hl hne; exact h.fa i hi' hl hl' hne
 ·rw [hino i hi'] at hl ⊢
  by_cases e : n = i
  ·rw [if_pos e]; have:=hmax j hj hl'; show ¬_ = st; omega
  ·rw [if_neg e] at hl ⊢; exact h.fb i j hi' hj hne hl hl'
 ·rw [hino i hi'] at hl h0 heq ⊢
  by_cases e : n = i
  ·rw [if_pos e,prt_new] at h0
   have : Ino.none.prt p = -1:=by simp [Ino.prt,Ino.none,hp]
   omega
  ·rw [if_neg e] at hl h0 heq ⊢; exact h.fc i p j q hi' hp hj hq hl h0 hl' heq
theorem Ft.put {a b : Img} (h : Ft a b) {n p x : Nat} {y : Dat} (n8 : n < 8) (hl : (a.ino n).live = true) (hx : held b x = false) : Ft ((a.setIno n ((a.ino n).setPrt p x)).setDat x y) b:=by
 have hino : ∀ j,j < 8 → ((a.setIno n ((a.ino n).setPrt p x)).setDat x y).ino j = if n = j then (a.ino n).setPrt p x else a.ino j:=fun j hj=>by rw [ino_setDat,ino_setIno]; simp [hj]
 have hlv : ∀ j,j < 8 → (((a.setIno n ((a.ino n).setPrt p x)).setDat x y).ino j).live = (a.ino j).live ∧ (((a.setIno n ((a.ino n).setPrt p x)).setDat x y).ino j).stamp = (a.ino j).stamp:=fun j hj=>by
  rw [hino j hj]; split
  ·rename_i e; subst e; exact ⟨rfl,rfl⟩
  ·exact ⟨rfl,rfl⟩
 refine ⟨fun i hi' hl hl' hne=>?_,fun i j hi' hj hne hl hl'=>?_,fun i p' j q hi' hp hj hq hl h0 hl' heq=>?_,fun z hz hh=>?_,h.fe,h.fg⟩
 ·obtain ⟨e1,e2⟩:=hlv i hi'
  rw [e1] at hl; rw [e2] at hne; exact h.fa i hi' hl hl' hne
 ·obtain ⟨e1,e2⟩:=hlv i hi'
  rw [e1] at hl; rw [e2]; exact h.fb i j hi' hj hne hl hl'
 ·obtain ⟨e1,e2⟩:=hlv i hi'
  rw [e1] at hl; rw [e2]
  have hpr : (((a.setIno n ((a.ino n).setPrt p x)).setDat x y).ino i).prt p' = if n = i ∧ p = p' then (x : Int) else (a.ino i).prt p':=by
   rw [hino i hi']
   by_cases e : n = i
   ·subst e; rw [if_pos rfl,prt_setPrt]; simp [hp]
   ·rw [if_neg e,if_neg (fun h=>e h.1)]
  rw [hpr] at h0 heq
  split at heq
  ·have : held b x = true:=held_iff.2 ⟨j,q,hj,hq,hl',heq⟩
   rw [hx] at this; exact absurd this (by simp)
  ·rename_i e; rw [if_neg e] at h0; exact h.fc i p' j q hi' hp hj hq hl h0 hl' heq
 ·rw [dat_setDat,dat_setIno]
  split
  ·rename_i e; rw [← e.1] at hh; rw [hx] at hh; exact absurd hh (by simp)
  ·exact h.fd z hz hh
theorem Ft.text {a b : Img} (h : Ft a b) {x : Nat} {t : Str} : Ft (a.setDat x ⟨(a.dat x).of,t⟩) b :=
 ⟨h.fa,h.fb,h.fc,fun z hz hh=>by
  rw [dat_setDat]
  split
  ·rename_i e; rw [← e.1] at hh ⊢; exact h.fd x (by rw [e.1]; exact hz) hh
  ·exact h.fd z hz hh,h.fe,h.fg⟩
structure Inv (F : Fl) : Prop where
 i0 : Inv0 F
 ex : exact F.now = true
 ck : check F.disk = 0
 ft : Ft F.now F.disk
 s0 : 0 ≤ F.stamp
 sn : ∀ j,j < 8 → (F.now.ino j).live = true → (F.now.ino j).stamp ≤ F.stamp
 sd : ∀ j,j < 8 → (F.disk.ino j).live = true → (F.disk.ino j).stamp ≤ F.stamp
theorem Inv.cn {F : Fl} (h : Inv F) : check F.now = 0:=(exact_parts h.ex).1
theorem stamp_write {a b : Img} {N : Int} (ha : ∀ j,j < 8 → (a.ino j).live = true → (a.ino j).stamp ≤ N) (hb : ∀ j,j < 8 → (b.ino j).live = true → (b.ino j).stamp ≤ N) (x : Int) : ∀ j,j < 8 → ((writeAs a b x).1.ino j).live = true → ((writeAs a b x).1.ino j).stamp ≤ N:=by
 obtain ⟨n,hn,e⟩ | ⟨n,hn,e⟩ | ⟨n,hn,e⟩ | e:=blockOf_cases x
 ·rw [writeAs_i e]
  intro j hj hl
  dsimp only at hl ⊢
  rw [wrInodes_ino' a b n hn] at hl ⊢
  split at hl
  ·rename_i q; rw [if_pos q]
   rcases inodeAs_live_cases hl with ⟨a1,a2,_⟩ | ⟨_,a2,_,a4,_⟩
   ·rw [a2]; exact ha j hj a1
   ·rw [a4]; exact hb j hj a2
  ·rename_i q; rw [if_neg q]; exact hb j hj hl
 ·rw [writeAs_d e]
  intro j hj hl
  dsimp only at hl ⊢
  obtain ⟨i1,_⟩:=wrDir_ok a b hn 4 (Nat.le_refl _)
  rw [i1] at hl ⊢; exact hb j hj hl
 ·rw [writeAs_a e]; exact hb
 ·rw [writeAs_n e]; exact hb
theorem Inv.write {F : Fl} (h : Inv F) (x : Int) : Inv { F with disk:=(writeAs F.now F.disk x).1 } :=
 ⟨⟨h.i0.wf,h.i0.sn,small_writeAs h.i0.sn h.i0.sd x⟩,h.ex,write_mends h.ck h.ex h.ft.fits x,h.ft.write (.of h.cn) (.of h.ck) x,h.s0,h.sn,stamp_write h.sn h.sd x⟩
theorem maxSt_ge (m : Img) {n j : Nat} (h : j < n) : (m.ino j).stamp ≤ maxSt m n:=by
 induction n with
 | zero=>omega
 | succ n ih =>
  unfold maxSt
  by_cases e : j = n
  ·subst e; split <;> omega
  ·have:=ih (by omega)
   split <;> omega
theorem maxSt_pos (m : Img) : ∀ n,0 ≤ maxSt m n
 | 0=>Int.le_refl _
 | n + 1=>by have:=maxSt_pos m n; unfold maxSt; split <;> omega
theorem Inv.of {m : Img} (he : exact m = true) (hs : m.small) : Inv ⟨m,m,maxSt m 8⟩:=by
 have hc:=(exact_parts he).1
 exact ⟨⟨WF_check hc,hs,hs⟩,he,hc,Ft.self (.of hc),maxSt_pos m 8,fun j hj _=>maxSt_ge m hj,fun j hj _=>maxSt_ge m hj⟩
theorem Inv.new : Inv Lf.new.fl:=by
 have:=Inv.of (m:=.blank) (by decide +kernel) (small_of (by decide +kernel))
 have e : maxSt .blank 8 = 0:=by decide +kernel
 rw [e] at this
 exact this
@[go_sem] theorem fill_lost0 : fill tLost (encLost 0 0 0) [] = some (encLost 0 0 0):=rfl
def SlJ (h0 h : HP) (v : AV) (l : List Int) : Prop:=(v = .nilsl ∧ l = []) ∨ ∃ q,v = .sl (.obj q) 0 l.length ∧ h0.next ≤ q ∧ q < h.next ∧ h.look (.obj q) = some ⟨.arr l.length tI,encL l⟩
theorem SlJ.same {h0 h h' : HP} {v : AV} {l : List Int} (a : SlJ h0 h v l) (b : Fr h h' []) : SlJ h0 h' v l:=by
 rcases a with a | ⟨q,h1,h2,h3,h4⟩
 ·exact .inl a
 ·exact .inr ⟨q,h1,h2,Nat.lt_of_lt_of_le h3 b.next,b.look h3 (by simp) h4⟩
theorem SlJ.push {h0 h : HP} {v : AV} {l : List Int} {n : Nat} {o : Own} (a : SlJ h0 h v l) : SlJ h0 (h.push n o) v l:=a
theorem SlJ.from {h0 h1 h : HP} {v : AV} {l : List Int} (a : SlJ h1 h v l) (e : h0.next ≤ h1.next) : SlJ h0 h v l:=by
 rcases a with a | ⟨q,h1,h2,h3,h4⟩
 ·exact .inl a
 ·exact .inr ⟨q,h1,by omega,h3,h4⟩
theorem SlJ.len {h0 h : HP} {v : AV} {l : List Int} (a : SlJ h0 h v l) : lenV false v = some (.int .i64 l.length):=by
 rcases a with ⟨rfl,rfl⟩ | ⟨i,rfl,_⟩ <;> rfl
theorem SlJ.fg {h0 h : HP} {v : AV} {l : List Int} (a : SlJ h0 h v l) (x y : Nat) : Go.Mini.fg v (.stk x y) = v:=by
 rcases a with ⟨rfl,rfl⟩ | ⟨i,rfl,_⟩ <;> simp only [go_sem]
theorem SlJ.ld {h0 h : HP} {v : AV} {l : List Int} (a : SlJ h0 h v l) (x y : Nat) : v.leads (.stk x y) = false:=by
 rcases a with ⟨rfl,rfl⟩ | ⟨i,rfl,_⟩ <;> simp only [go_sem]
section
variable {T : Nat → Option MFun} {cx : Cx} {k : List Item} {kill : List Nat} {r : List MOp} {sl : Slots} {own : Own} {h : HP} {Q : St → Prop}
def WAi (T : Nat → Option MFun) (cx : Cx) (x : AV) (add : Option (List AV)) (d : Nat) (r : List MOp) (kill : List Nat) (k : List Item) (sl : Slots) (own : Own) (h : HP) (Q : St → Prop) : Prop :=
 onO add fun add=>onO (evAppend (St.look cx ⟨sl,own,h⟩) tI x add) fun e=>onO (applyEff cx (some d) true ⟨sl,own,h⟩ e) fun p=>W T cx (.ops r kill :: k) (p.2.setd (some d) p.1) Q
@[go_sem] theorem W_appendI {d : Nat} {x y : Opd} : W T cx (.ops (⟨some d,.append true [] tI x y,none⟩ :: r) kill :: k) ⟨sl,own,h⟩ Q = WAi T cx (St.opd ⟨sl,own,h⟩ x) (elems (St.look cx ⟨sl,own,h⟩) tI (St.opd ⟨sl,own,h⟩ y)) d r kill k sl own h Q:=by
 rw [W_op rfl,evOp]
 simp only [evK,WAi]
 cases elems (St.look cx ⟨sl,own,h⟩) tI (St.opd ⟨sl,own,h⟩ y) with
 | none=>rfl
 | some add =>
  simp only [onO_some]
  cases evAppend (St.look cx ⟨sl,own,h⟩) tI (St.opd ⟨sl,own,h⟩ x) add <;> rfl
@[go_sem] theorem WAi_nil {n : Int} {d : Nat} : WAi T cx .nilsl (some [.int .i64 n]) d r kill k sl own h Q =
  W T cx (.ops r kill :: k) ⟨sl.set d (.sl (.obj h.next) 0 1),own,h.nw (.arr 1 tI) (encL [n])⟩ Q:=by
 have hf:=encL_fits [n] (n:=1) rfl
 simp only [WAi,onO_some,evAppend,List.length_cons,List.length_nil,Nat.zero_add]
 rw [if_neg (by omega),if_pos ⟨hf,by omega⟩]
 rfl
end
structure IntsV (h : HP) (v : AV) (l : List Int) : Prop where
 len : lenV false v = some (.int .i64 l.length)
 fg : ∀ a b,Go.Mini.fg v (.stk a b) = v
 ld : ∀ a b,v.leads (.stk a b) = false
 ix : ∀ k,k < l.length → ∃ n,v = .sl (.arg n) 0 l.length ∧ h.look (.arg n) = some ⟨.arr l.length tI,encL l⟩
theorem IntsV.to {h h' : HP} {v : AV} {l : List Int} (a : IntsV h v l) (e : h'.arg = h.arg) : IntsV h' v l :=
 ⟨a.len,a.fg,a.ld,fun k hk=>by
  obtain ⟨n,h1,h2⟩:=a.ix k hk
  exact ⟨n,h1,by simp only [HP.look,e] at h2 ⊢; exact h2⟩⟩
open Go.RowKit Go.ChangeShapes
section
variable {H : Type} {enc : TypeId × Value → H} {P : Program}
theorem trodAll_stays (hl : laidOutB P = true) {W W' : World} {sp : Nat → Bool} (hB : Below W.heap.size W W') : ∀ {ts : List TypeId} {vs : List Value} {ds : List (DataW H)} {ps : List MemPlace},
  (∀ t ∈ ts,P.readableRec t = true ∧ t < P.types.size) → DataW.TrodAll enc P W 0 (fun _=>true) true ts vs ds ps → (∀ p ∈ ps,p.block < W.heap.size) → (∀ p ∈ ps,sp p.block = true) →
  DataW.TrodAll enc P W' 0 sp true ts vs ds ps
 | [],vs,ds,ps,_,h,_,_=>by
  obtain ⟨rfl,rfl,rfl⟩:=trodAll_nil h
  exact trodAll_mk0
 | t :: ts,vs,ds,ps,ht,h,h1,h2=>by
  obtain ⟨v,vs',d,ds',p,q,rfl,rfl,rfl,h3,h4⟩:=trodAll_cons h
  exact ⟨p,q,WideElems.Trod_stays hl (ht t List.mem_cons_self).1 (ht t List.mem_cons_self).2 h3 (fun x hx=>hB.same (h1 x (List.mem_append_left _ hx))) (fun x hx=>h2 x (List.mem_append_left _ hx)),
   trodAll_stays hl hB (fun t' ht'=>ht t' (List.mem_cons_of_mem _ ht')) h4 (fun x hx=>h1 x (List.mem_append_right _ hx)) (fun x hx=>h2 x (List.mem_append_right _ hx)),rfl⟩
theorem law_post {f : Func} {s : ChangeSpec} {tb : TypeId} {W W' : World} {args : Array Value} {ds gs : List (DataW H)} {before : List MemPlace} (hl : laidOutB P = true) (hts : ∀ t ∈ f.params.toList,P.readableRec t = true ∧ t < P.types.size)
  (hv : s.vars = []) (hr : f.resultTypes = #[tb]) (hb : P.underlying tb = some .bool)
  (hW : DataW.Whole enc P f.params.toList s.vars false W args.toList ds gs before) (hs : s.fn H ds = { results:=[.lit (.bool true)],args:=ds }) (hB : Below W.heap.size W W') :
  s.post enc P f false true false false W args (.bool true) W':=by
 have hlt:=hW.lt
 obtain ⟨p,q,hA,hV,rfl,hfz,hnd⟩:=id hW
 rw [hv] at hV
 obtain ⟨rfl,rfl⟩:=trodVars_none hV
 refine ⟨ds,[],p ++ [],[],p,[],hW,?_,?_,?_,hB.frame _,fun h=>by cases h⟩
 ·rw [hr,List.append_nil,hs]
  exact trodAll_cons_mk (shut_bool hb _) trodAll_mk0
 ·rw [List.append_nil,hs]
  exact trodAll_stays hl hB hts hA (fun x hx=>hlt x (by simpa using hx)) (fun x hx=>by simpa using hlt x (by simpa using hx))
 ·rw [hv,List.append_nil,hs]
  rfl
end
theorem dec_encV {α : Type} {f : α → AV} {t : Ty} {n : Nat} (h : ∀ v,t.fits v = true → ∃ a,v = f a) {v : AV} (hv : (Ty.arr n t).fits v = true) : ∃ w : Vector α n,v = encV f w:=by
 cases v with
 | arr k g =>
  simp only [Ty.fits,Bool.and_eq_true,beq_iff_eq,List.all_eq_true] at hv
  obtain ⟨rfl,hg⟩:=hv
  have hc : ∀ i,∃ a,g i = f a:=fun i=>h _ (hg i (List.mem_finRange _))
  refine ⟨Vector.ofFn fun i=>(hc i).choose,?_⟩
  simp only [encV]
  congr 1
  funext i
  simp only [Fin.getElem_fin,Vector.getElem_ofFn]
  exact (hc i).choose_spec
 | _=>simp [Ty.fits] at hv
theorem dec_int {v : AV} (h : tI.fits v = true) : ∃ n,v = .int .i64 n:=by
 cases v <;> simp [tI,Ty.fits,LK.fits,AV.safe] at h
 subst h; exact ⟨_,rfl⟩
theorem dec_bool {v : AV} (h : tB.fits v = true) : ∃ n,v = .bool n:=by
 cases v <;> simp [tB,Ty.fits,LK.fits,AV.safe] at h
 exact ⟨_,rfl⟩
theorem dec_str {v : AV} (h : tS.fits v = true) : ∃ n,v = .str n:=by
 cases v <;> simp [tS,Ty.fits,LK.fits,AV.safe] at h
 exact ⟨_,rfl⟩
theorem dec_cons {a b : Ty} {v : AV} (h : (Ty.cons a b).fits v = true) : ∃ x y,v = .cons x y ∧ a.fits x = true ∧ b.fits y = true:=by
 cases v <;> simp [Ty.fits] at h
 exact ⟨_,_,rfl,h⟩
theorem dec_unit {v : AV} (h : Ty.unit.fits v = true) : v = .unit:=by
 cases v <;> simp [Ty.fits] at h
 rfl
theorem dec_ent {v : AV} (h : tEntry.fits v = true) : ∃ e : Ent,v = e.enc:=by
 obtain ⟨a,v,rfl,ha,h⟩:=dec_cons h
 obtain ⟨b,v,rfl,hb,h⟩:=dec_cons h
 obtain ⟨c,v,rfl,hc,h⟩:=dec_cons h
 obtain rfl:=dec_unit h
 obtain ⟨a,rfl⟩:=dec_str ha
 obtain ⟨b,rfl⟩:=dec_int hb
 obtain ⟨c,rfl⟩:=dec_int hc
 exact ⟨⟨a,b,c⟩,rfl⟩
theorem dec_dat {v : AV} (h : tData.fits v = true) : ∃ e : Dat,v = e.enc:=by
 obtain ⟨a,v,rfl,ha,h⟩:=dec_cons h
 obtain ⟨b,v,rfl,hb,h⟩:=dec_cons h
 obtain rfl:=dec_unit h
 obtain ⟨a,rfl⟩:=dec_int ha
 obtain ⟨b,rfl⟩:=dec_str hb
 exact ⟨⟨a,b⟩,rfl⟩
theorem dec_ino {v : AV} (h : tInode.fits v = true) : ∃ e : Ino,v = e.enc:=by
 obtain ⟨a,v,rfl,ha,h⟩:=dec_cons h
 obtain ⟨b,v,rfl,hb,h⟩:=dec_cons h
 obtain ⟨c,v,rfl,hc,h⟩:=dec_cons h
 obtain ⟨d,v,rfl,hd,h⟩:=dec_cons h
 obtain rfl:=dec_unit h
 obtain ⟨a,rfl⟩:=dec_bool ha
 obtain ⟨b,rfl⟩:=dec_int hb
 obtain ⟨c,rfl⟩:=dec_int hc
 obtain ⟨d,rfl⟩:=dec_encV (f:=AV.int .i64) (fun _=>dec_int) hd
 exact ⟨⟨a,b,c,d⟩,rfl⟩
theorem dec_img {v : AV} (h : tImage.fits v = true) : ∃ e : Img,v = e.enc:=by
 obtain ⟨a,v,rfl,ha,h⟩:=dec_cons h
 obtain ⟨b,v,rfl,hb,h⟩:=dec_cons h
 obtain ⟨c,v,rfl,hc,h⟩:=dec_cons h
 obtain rfl:=dec_unit h
 obtain ⟨a,rfl⟩:=dec_encV (f:=Ino.enc) (fun _=>dec_ino) ha
 obtain ⟨b,rfl⟩:=dec_encV (f:=encV Ent.enc) (fun _=>dec_encV (f:=Ent.enc) fun _=>dec_ent) hb
 obtain ⟨c,rfl⟩:=dec_encV (f:=Dat.enc) (fun _=>dec_dat) hc
 exact ⟨⟨a,b,c⟩,rfl⟩
open Go.RowKit Go.ChangeShapes
def HP.args (f : Nat → Option Blk) : HP:=⟨fun _=>[],fun _=>none,0,f⟩
def betaA (g : Nat → Option Place) : Beta
 | .arg n=>g n
 | _=>none
def elemOk (P : Program) (ks : List LK) (e : TypeId) : Bool :=
 match P.underlying e with
 | some (.struct fs)=>Go.Deep.oneCellFields P fs && (P.cellsOf e == fs.size) && (fs.toList.map (fun f=>kindOf (P.underlying f.type)) == ks.map some)
 | d=>(P.cellsOf e == 1) && (match kindOf d with | some k=>ks == [k] | none=>false)
section
variable {H : Type} {enc : TypeId × Value → H} {P : Program} {w : World} {base : Nat} {spare : Nat → Bool} {held : Bool} {φ : Nat → Option FuncId} {β : Beta}
theorem wf_has {k : IntKind} {n : Int} (h : (Lit.int k n).wf = true) : k.has n:=by
 simp only [Lit.wf,Bool.and_eq_true,decide_eq_true_eq] at h
 exact h
theorem maxLen_le {n : Nat} (h : n ≤ maxLen) : (n : Int) ≤ IntKind.i64.max:=by
 have : IntKind.i64.max = 2 ^ 63 - 1:=by decide
 rw [this]
 unfold maxLen at h
 omega
theorem leaf_trod {u : TypeId} {k : LK} {n : Nat} {cs : List Value} {y : DataW H × List MemPlace} (hk : kindOf (P.underlying u) = some k) (h : DataW.trod enc P w base spare held n u cs = some y) : ∃ x,cs = [x] ∧ okCell k x:=by
 unfold kindOf at hk
 split at hk <;> simp at hk <;> subst hk <;> rename_i hu
 ·cases n with
  | zero=>simp [DataW.trod] at h
  | succ n =>
   unfold DataW.trod at h
   rw [hu] at h
   match cs,h with
   | [.bool b],_=>exact ⟨_,rfl,b,rfl⟩
 ·obtain ⟨s,rfl,_,hs⟩:=DataW.trod_string hu h
  exact ⟨_,rfl,s,rfl,maxLen_le hs⟩
 ·obtain ⟨m,rfl,_,hs⟩:=DataW.trod_int hu h
  exact ⟨_,rfl,m,rfl,wf_has hs⟩
theorem elem_trod {e : TypeId} {ks : List LK} {n : Nat} {cs : List Value} {y : DataW H × List MemPlace} (hk : elemOk P ks e = true) (h : DataW.trod enc P w base spare held n e cs = some y) : All2 okCell ks cs:=by
 unfold elemOk at hk
 split at hk
 ·rename_i fs hu
  simp only [Bool.and_eq_true,beq_iff_eq] at hk
  obtain ⟨⟨h1,h2⟩,h3⟩:=hk
  obtain ⟨xs,m,rfl,rfl,hl,hxl,hf⟩:=DataW.trod_struct hu h
  have hone:=Go.Deep.hone_of h1
  have hkl : ks.length = fs.size:=by simpa using (congrArg List.length h3).symm
  refine ⟨by omega,fun i k x hi hx=>?_⟩
  have hi' : i < fs.size:=by
   rcases Nat.lt_or_ge i ks.length with h | h
   ·omega
   ·rw [List.getElem?_eq_none h] at hi; simp at hi
  have hfi : fs[i]? = some fs[i]:=Array.getElem?_eq_getElem hi'
  obtain ⟨ho,hc1⟩:=hone i _ hfi
  have g:=hf i _ hfi
  rw [ho,hc1,Go.Deep.take1_drop cs i undef (by omega),List.getElem?_eq_getElem (by omega)] at g
  have hki : kindOf (P.underlying fs[i].type) = some k:=by
   have:=congrArg (fun l=>l[i]?) h3
   simp only [List.getElem?_map,hi,Array.getElem?_toList,hfi,Option.map_some] at this
   simpa using this
  obtain ⟨x',e1,e2⟩:=leaf_trod hki g
  have : cs.getD i undef = x:=by simp [List.getD,hx]
  rw [this] at e1
  simp at e1
  subst e1; exact e2
 ·simp only [Bool.and_eq_true,beq_iff_eq] at hk
  obtain ⟨_,hk⟩:=hk
  cases hq : kindOf (P.underlying e) with
  | none=>rw [hq] at hk; simp at hk
  | some k =>
   rw [hq] at hk
   simp at hk
   subst hk
   obtain ⟨x,rfl,hx⟩:=leaf_trod hq h
   exact All2.cons hx All2.nil
structure SliceAt (φ : Nat → Option FuncId) (W : World) (t : Ty) (l : List AV) (x : Value) (pl : Place) : Prop where
 ty : pl.ty = .arr l.length t
 val : ∀ (g : Nat → Option Place) n,g n = some pl → VR φ (betaA g) (.sl (.arg n) 0 l.length) x
 blk : ∀ (g : Nat → Option Place) (O : Nat → Prop) n,g n = some pl → ∃ cs T fr,BR φ (betaA g) O (.arg n) ⟨.arr l.length t,.ofList l⟩ W pl cs T fr
theorem fits_ofList {t : Ty} {l : List AV} (h : ∀ v ∈ l,t.fits v = true) : (Ty.arr l.length t).fits (.ofList l) = true:=by
 simp only [AV.ofList,Ty.fits,beq_self_eq_true,Bool.true_and,List.all_eq_true]
 exact fun i _=>h _ (List.get_mem ..)
theorem given_slice {t : Ty} {U e : TypeId} {r : Reach} {b : Nat} {x : Value} {d : DataW H} {ps : List MemPlace} (hu : P.underlying U = some (.slice e)) (hk : elemOk P t.kinds e = true) (hs : P.cellsOf e = t.size) (hp : 0 < t.size)
  (hok : Value.okWide P w r b U x) (h : DataW.Trod enc P w 0 (fun _=>true) true U x d ps) :
  ∃ l : List AV,(∀ v ∈ l,t.fits v = true ∧ v.ranged) ∧ ((l = [] ∧ (x = .slice none 0 0 ∨ ∃ a cap,x = .slice (some a) 0 cap)) ∨ ∃ pl,SliceAt φ w t l x pl):=by
 obtain ⟨fuel,h⟩:=h
 have hx : Cell.okWide P w r b U x:=by unfold Value.okWide at hok; rw [hu] at hok; exact hok
 have hx' : Cell.ok P w r b U x:=by
  unfold Cell.okWide at hx
  rw [hu] at hx
  cases x <;> exact hx
 have hx'' : x = .slice none 0 0 ∨ ∃ a len cap,x = .slice (some a) len cap ∧ len ≤ cap ∧ a.spot = none:=by
  unfold Cell.ok at hx'
  rw [hu] at hx'
  cases x with
  | slice a len cap =>
   cases a with
   | none =>
    cases len <;> cases cap <;> simp at hx'
    exact .inl rfl
   | some a=>exact .inr ⟨a,len,cap,rfl,hx'.1,hx'.2.2.2.1⟩
  | _=>simp at hx'
 rcases hx'' with rfl | ⟨a,len,cap,rfl,hlc,hspot⟩
 ·exact ⟨[],by simp,.inl ⟨rfl,.inl rfl⟩⟩
 by_cases h0 : len = 0
 ·subst h0
  exact ⟨[],by simp,.inl ⟨rfl,.inr ⟨a,cap,rfl⟩⟩⟩
 rcases Go.Deep.open_slice hu h with ⟨h1,_⟩ | ⟨a',len',cap',m,n,D,Pl,h1,_,_,hcm,hm,_,hel⟩
 ·simp [Value.cells] at h1
 simp [Value.cells] at h1
 obtain ⟨rfl,rfl,rfl⟩:=h1
 simp only [if_true] at hm
 subst hm
 rw [hs] at hel
 obtain ⟨br,off,spot⟩:=a
 simp only at hspot
 subst hspot

 obtain ⟨cs0,hc0,_⟩:=hel 0 (by omega)
 obtain ⟨_,hl0,hcell0⟩:=World.cells?_some hc0
 have hb0:=hcell0 0 hp
 rw [List.getElem?_eq_getElem (by omega)] at hb0
 obtain ⟨cs,T,fr,hheap⟩ : ∃ cs T fr,w.heap[br]? = some (.cells cs T fr):=by
  have hblk : ((Addr.mk br off none).add (0 * t.size)).add 0 = ⟨br,off,none⟩:=by simp [Addr.add]
  rw [hblk] at hb0
  unfold World.cell? at hb0
  split at hb0
  ·exact ⟨_,_,_,by assumption⟩
  ·simp at hb0
 have hcell : ∀ i,i < m → ∀ k,k < t.size → ∀ ci,w.cells? 0 ((Addr.mk br off none).add (i * t.size)) t.size = some ci → cs[off + i * t.size + k]? = ci[k]?:=by
  intro i hi k hkt ci hci
  obtain ⟨_,hl,hcell⟩:=World.cells?_some hci
  rw [← hcell k hkt]
  have : ((Addr.mk br off none).add (i * t.size)).add k = ⟨br,off + i * t.size + k,none⟩:=by
   unfold Addr.add
   by_cases e1 : i * t.size = 0 <;> by_cases e2 : k = 0 <;> simp [e1,e2]
  rw [this]
  simp [World.cell?,hheap]
 obtain ⟨V,hV⟩:=Go.Deep.choose_lt (α:=AV) (n:=len) (p:=fun i v=>t.fits v = true ∧ v.ranged ∧ ∀ (β : Beta) k c,v.flat[k]? = some c → ∃ x,cs[off + i * t.size + k]? = some x ∧ LR φ β c x) (fun i hi=>by
  obtain ⟨ci,hci,hti⟩:=hel i (by omega)
  obtain ⟨_,hlci,_⟩:=World.cells?_some hci
  obtain ⟨v,hf,hl,hr⟩:=build (φ:=φ) (β:=fun _=>none) t ci (elem_trod hk hti)
  refine ⟨v,hf,hr,fun β k c hc=>?_⟩
  have hkt : k < t.size:=by
   rcases Nat.lt_or_ge k v.flat.length with h | h
   ·rw [Ty.fits_length hf] at h; exact h
   ·rw [List.getElem?_eq_none h] at hc; simp at hc
  refine ⟨ci[k]'(by omega),?_,?_⟩
  ·rw [hcell i (by omega) k hkt ci hci,List.getElem?_eq_getElem (by omega)]
  ·have:=hl.2 k c _ hc (List.getElem?_eq_getElem (by omega))
   exact LR_congr (fun i pl _ h=>by simp at h) this)
 refine ⟨(List.range len).map V,fun v hv=>?_,.inr ⟨⟨br,off,.arr len t,m * t.size⟩,by simp,fun g n hg=>?_,fun g O n hg=>⟨cs,T,fr,?_⟩⟩⟩
 ·obtain ⟨i,hi,rfl⟩:=List.mem_map.1 hv
  obtain ⟨h1,h2,_⟩:=hV i (List.mem_range.1 hi)
  exact ⟨h1,h2⟩
 ·refine VR_of_VR1 ?_
  simp only [VR1,AV.isAgg,Bool.false_eq_true,if_false,LR,AV.rel,List.length_map,List.length_range]
  exact ⟨_,len,t,m,hg,rfl,by omega,by omega,by simp,by simp⟩
 ·have hfits : (Ty.arr ((List.range len).map V).length t).fits (.ofList ((List.range len).map V)) = true:=fits_ofList fun v hv=>by
   obtain ⟨i,hi,rfl⟩:=List.mem_map.1 hv
   exact (hV i (List.mem_range.1 hi)).1
  refine ⟨hg,by simp,hfits,hheap,?_,?_,?_,fun h=>by simp [Id.isArg] at h⟩
  ·
   obtain ⟨ci,hci,_⟩:=hel (m - 1) (by omega)
   obtain ⟨_,hlci,_⟩:=World.cells?_some hci
   have:=hcell (m - 1) (by omega) (t.size - 1) (by omega) ci hci
   rw [List.getElem?_eq_getElem (by omega)] at this
   obtain ⟨hlt,_⟩:=Array.getElem?_eq_some_iff.1 this
   show off + m * t.size ≤ cs.size
   have e : m * t.size = (m - 1) * t.size + t.size:=by
    have : m = (m - 1) + 1:=by omega
    calc m * t.size = ((m - 1) + 1) * t.size:=by rw [← this]
     _ = _:=by rw [Nat.add_mul,Nat.one_mul]
   omega
  ·simp only [Ty.size,List.length_map,List.length_range]
   exact Nat.mul_le_mul_right _ hlc
  ·intro k c hc
   have hflat : (AV.ofList ((List.range len).map V)).flat = (List.range len).flatMap fun i=>(V i).flat:=by
    rw [arr_flat,List.flatMap_map]
   rw [hflat] at hc
   have hlen : ∀ i ∈ List.range len,((V i).flat).length = t.size:=fun i hi=>Ty.fits_length (hV i (List.mem_range.1 hi)).1
   have hk : k / t.size < len:=by
    have hkl : k < ((List.range len).flatMap fun i=>(V i).flat).length:=by
     rcases Nat.lt_or_ge k ((List.range len).flatMap fun i=>(V i).flat).length with h | h
     ·exact h
     ·rw [List.getElem?_eq_none h] at hc; simp at hc
    have hll : ((List.range len).flatMap fun i=>(V i).flat).length = len * t.size:=by
     rw [List.length_flatMap,List.map_congr_left hlen,List.map_const',List.sum_replicate_nat,List.length_range]
    rw [hll] at hkl
    exact (Nat.div_lt_iff_lt_mul hp).2 hkl
   have e:=getElem?_flatMap_const (List.range len) (fun i=>(V i).flat) t.size hlen (k / t.size) (by simpa using hk) (k % t.size) (Nat.mod_lt _ hp)
   have ek : k / t.size * t.size + k % t.size = k:=by rw [Nat.mul_comm]; exact Nat.div_add_mod k t.size
   rw [ek] at e
   rw [e] at hc
   simp only [List.getElem_range] at hc
   obtain ⟨y,hy,hyl⟩:=(hV (k / t.size) hk).2.2 (betaA g) (k % t.size) c hc
   refine ⟨y,?_,hyl⟩
   show cs[off + k]? = some y
   rw [← hy]
   congr 1
   omega
end
section
variable {P : Program} {T : Nat → Option MFun}
theorem law_runA {φ : Nat → Option FuncId} {fuel F f : Nat} {fn : MFun} {args : List AV} {rargs : List Value} {v : AV} {hp : HP} {bf : Nat → Option Blk} {g : Nat → Option Place} (hT : TblOk P T φ drawOk) (hmo : P.follows .mixedOrders = true) (hf : T f = some fn) (hF : φ f = some F) (hfree : fn.nfree = 0)
  (hrun : runFn T fuel f args (HP.args bf) = some (v,hp)) (hlen : args.length = fn.params) (ha : All2 (VR φ (betaA g)) args rargs) (W : World)
  (hB : ∀ n b,bf n = some b → ∃ pl cs T fr,BR φ (betaA g) (fun r=>W.heap.size ≤ r) (.arg n) b W pl cs T fr) :
  Calls P F rargs.toArray W fun e W'=>(∃ x β',e = .returned x ∧ VR φ β' v x) ∧ Below W.heap.size W W':=by
 unfold runFn at hrun
 rw [hf] at hrun
 simp only at hrun
 cases hr : run T fuel ⟨0,⟨0,0⟩⟩ [.code fn.body] (St.enter args (HP.args bf)) with
 | none=>simp [hr] at hrun
 | some s2 =>
  simp only [hr,Option.map_eq_some_iff] at hrun
  obtain ⟨v',hv,he⟩:=hrun
  simp at he
  obtain ⟨rfl,_⟩:=he
  have hst : ∀ i b,(HP.args bf).look i = some b → ∃ n,i = .arg n ∧ bf n = some b:=by
   intro i b hb
   cases i with
   | stk l t=>simp [HP.args,HP.look,Own.get] at hb
   | obj n=>simp [HP.args,HP.look] at hb
   | arg n=>exact ⟨n,rfl,hb⟩
  have:=callSim hT (drawSound hT hmo) fuel ⟨0,⟨0,0⟩⟩ fn F args (HP.args bf) s2 v' (betaA g) (fun r=>W.heap.size ≤ r) rargs W (hT f fn F hf hF) hr hv (by simp [hlen,hfree]) ha
   ⟨fun i b hb=>by obtain ⟨n,rfl,h⟩:=hst i b hb; exact hB n b h,fun i j bi bj pi pj hi hj _ _ _ _=>by
    obtain ⟨n,rfl,_⟩:=hst i bi hi
    obtain ⟨m,rfl,_⟩:=hst j bj hj
    exact ⟨rfl,rfl⟩⟩ (fun i pl h=>by cases i <;> simp [betaA] at h <;> trivial) (fun _ _=>rfl) (fun r h=>h)
  refine this.mono fun e W' h=>?_
  obtain ⟨x,β',rfl,hvx,_,hA⟩:=h
  exact ⟨⟨x,β',rfl,hvx⟩,hA.same.os,hA.same.tape,hA.same.output,hA.same.size,fun k hk=>hA.same.block k hk (by omega)⟩
theorem law_callsS {φ : Nat → Option FuncId} {F f : Nat} {fn : MFun} {bf : Nat → Option Blk} {g : Nat → Option Place} (hT : TblOk P T φ drawOk) (hmo : P.follows .mixedOrders = true) (hf : T f = some fn) (hF : φ f = some F) (hfree : fn.nfree = 0)
  {args : Array Value} {avs : List AV} (W : World) (ha : All2 (VR φ (betaA g)) avs args.toList) (hlen : avs.length = fn.params) (hB : ∀ n b,bf n = some b → ∃ pl cs T fr,BR φ (betaA g) (fun r=>W.heap.size ≤ r) (.arg n) b W pl cs T fr)
  (h : Ok T ⟨0,⟨0,0⟩⟩ fn (St.enter avs (HP.args bf)) fun v _=>v = .bool true) :
  Calls P F args W fun e W'=>e = .returned (.bool true) ∧ Below W.heap.size W W':=by
 obtain ⟨n,s',v,hr,hv,rfl⟩:=h
 have hr' : runFn T n f avs (HP.args bf) = some (.bool true,s'.hp):=by simp only [runFn,hf,hr,hv]; rfl
 have:=law_runA hT hmo hf hF hfree hr' hlen ha W hB
 rw [Array.toArray_toList] at this
 refine this.mono fun e W' h=>⟨?_,h.2⟩
 obtain ⟨⟨x,β',rfl,hv⟩,_⟩:=h
 simp [VR,VR1,AV.isAgg,LR,AV.rel] at hv
 rw [hv]
end
open Go.RowKit Go.ChangeShapes
theorem dec_step {v : AV} (h : tStep.fits v = true) : ∃ x : SStep,v = x.enc:=by
 obtain ⟨a,v,rfl,ha,h⟩:=dec_cons h
 obtain ⟨b,v,rfl,hb,h⟩:=dec_cons h
 obtain ⟨c,v,rfl,hc,h⟩:=dec_cons h
 obtain ⟨d,v,rfl,hd,h⟩:=dec_cons h
 obtain ⟨e,v,rfl,he,h⟩:=dec_cons h
 obtain ⟨f,v,rfl,hf,h⟩:=dec_cons h
 obtain ⟨g,v,rfl,hg,h⟩:=dec_cons h
 obtain rfl:=dec_unit h
 obtain ⟨a,rfl⟩:=dec_int ha
 obtain ⟨b,rfl⟩:=dec_int hb
 obtain ⟨c,rfl⟩:=dec_int hc
 obtain ⟨d,rfl⟩:=dec_int hd
 obtain ⟨e,rfl⟩:=dec_str he
 obtain ⟨f,rfl⟩:=dec_str hf
 obtain ⟨g,rfl⟩:=dec_str hg
 exact ⟨⟨a,b,c,d,e,f,g⟩,rfl⟩
theorem dec_list {α : Type} {t : Ty} {f : α → AV} (hd : ∀ v,t.fits v = true → ∃ a,v = f a) : ∀ l : List AV,(∀ v ∈ l,t.fits v = true) → ∃ L : List α,l = L.map f
 | [],_=>⟨[],rfl⟩
 | v :: l,h=>by
  obtain ⟨a,rfl⟩:=hd v (h v List.mem_cons_self)
  obtain ⟨L,rfl⟩:=dec_list hd l fun w hw=>h w (List.mem_cons_of_mem _ hw)
  exact ⟨a :: L,rfl⟩
theorem i64max : IntKind.i64.max = 9223372036854775807:=by decide
theorem step_ranged {x : SStep} (h : x.enc.ranged) : x.ok:=by
 obtain ⟨_,_,_,_,h5,h6,h7,_⟩:=h
 have e:=i64max
 refine ⟨?_,?_,?_⟩
 ·have : ((ByteArray.size x.name : Nat) : Int) ≤ IntKind.i64.max:=h5
  omega
 ·have : ((ByteArray.size x.to : Nat) : Int) ≤ IntKind.i64.max:=h6
  omega
 ·have : ((ByteArray.size x.text : Nat) : Int) ≤ IntKind.i64.max:=h7
  omega
section
variable {H : Type} {enc : TypeId × Value → H} {P : Program} {w : World} {φ : Nat → Option FuncId}
theorem given_steps {U e : TypeId} {r : Reach} {b : Nat} {x : Value} {d : DataW H} {ps : List MemPlace} (hu : P.underlying U = some (.slice e)) (hk : elemOk P tStep.kinds e = true) (hs : P.cellsOf e = tStep.size)
  (hok : Value.okWide P w r b U x) (h : DataW.Trod enc P w 0 (fun _=>true) true U x d ps) (n : Nat) :
  ∃ (L : List SStep) (v : AV) (bf : Option Blk) (pl : Option Place),(∀ k,(stp L k).ok) ∧ (∀ g : Nat → Option Place,g n = pl → VR φ (betaA g) v x) ∧
   (∀ (g : Nat → Option Place) (O : Nat → Prop) (b : Blk),g n = pl → bf = some b → ∃ pl' cs T fr,BR φ (betaA g) O (.arg n) b w pl' cs T fr) ∧ (∀ h : HP,h.arg n = bf → StepsV h v L):=by
 obtain ⟨l,hl,hc⟩:=given_slice (φ:=φ) (t:=tStep) hu hk hs (by decide) hok h
 obtain ⟨L,rfl⟩:=dec_list (fun _=>dec_step) l fun v hv=>(hl v hv).1
 have hokL : ∀ k,(stp L k).ok:=by
  intro k
  by_cases hk : k < L.length
  ·have : stp L k = L[k]:=by simp [stp,hk]
   rw [this]
   exact step_ranged (hl _ (List.mem_map.2 ⟨_,List.getElem_mem hk,rfl⟩)).2
  ·have : stp L k = ⟨0,0,0,0,⟨#[]⟩,⟨#[]⟩,⟨#[]⟩⟩:=by simp only [stp]; rw [List.getD_eq_getElem?_getD,List.getElem?_eq_none (by omega)]; rfl
   rw [this]
   exact ⟨Nat.zero_le _,Nat.zero_le _,Nat.zero_le _⟩
 rcases hc with ⟨h0,hx⟩ | ⟨pl,hp⟩
 ·have hL : L = []:=by simpa using h0
  subst hL
  rcases hx with rfl | ⟨a,cap,rfl⟩
  ·exact ⟨[],.nilsl,none,none,hokL,fun g _=>by simp [VR,VR1,AV.isAgg,LR,AV.rel],fun _ _ b _ hb=>by simp at hb,fun h _=>⟨rfl,fun _ _=>rfl,fun _ _=>rfl,fun k hk=>by simp at hk⟩⟩
  ·exact ⟨[],.slz,none,none,hokL,fun g _=>by simp [VR,VR1,AV.isAgg,LR,AV.rel],fun _ _ b _ hb=>by simp at hb,fun h _=>⟨rfl,fun _ _=>rfl,fun _ _=>rfl,fun k hk=>by simp at hk⟩⟩
 ·have hlen : (L.map SStep.enc).length = L.length:=List.length_map ..
  refine ⟨L,.sl (.arg n) 0 L.length,some ⟨.arr L.length tStep,encSteps L⟩,some pl,hokL,fun g hg=>?_,fun g O b hg hb=>?_,fun h hh=>⟨rfl,fun a b=>fg_args n a b _ _,fun a b=>leads_args n a b _ _,fun k hk=>⟨n,rfl,?_⟩⟩⟩
  ·have:=hp.val g n hg
   rwa [hlen] at this
  ·simp only [Option.some.injEq] at hb
   subst hb
   obtain ⟨cs,T,fr,hB⟩:=hp.blk g O n hg
   rw [hlen] at hB
   exact ⟨pl,cs,T,fr,hB⟩
  ·simp only [HP.look]; exact hh
end
section
variable {P : Program} {φ : Nat → Option FuncId} {β : Beta} {W : World} {r : Reach} {b : Nat} {x : Value} {U : TypeId}
theorem given_intB (hk : kindOf (P.underlying U) = some (.int .i64)) (h : Value.okWide P W r b U x) : ∃ n,VR φ β (.int .i64 n) x:=by
 obtain ⟨v,h1,_,h3⟩:=given_leaf (φ:=φ) (β:=β) hk h
 obtain ⟨n,rfl⟩:=dec_int h1
 exact ⟨n,h3⟩
theorem given_strB (hk : kindOf (P.underlying U) = some .str) (h : Value.okWide P W r b U x) : ∃ n : Str,n.size ≤ 9223372036854775807 ∧ VR φ β (.str n) x:=by
 obtain ⟨v,h1,h2,h3⟩:=given_leaf (φ:=φ) (β:=β) hk h
 obtain ⟨n,rfl⟩:=dec_str h1
 have e:=i64max
 have : ((ByteArray.size n : Nat) : Int) ≤ IntKind.i64.max:=h2
 exact ⟨n,by omega,h3⟩
theorem given_imgB {ts : List TypeId} (hts : P.cellTypes P.depth U = some ts) (hk : (ts.map fun u=>kindOf (P.underlying u)) = tImage.kinds.map some) (hu : ∃ fs,P.underlying U = some (.struct fs)) (hc : P.cellsOf U = tImage.kinds.length)
  (h : Value.okWide P W r b U x) : ∃ m : Img,VR φ β m.enc x:=by
 obtain ⟨v,h1,_,h3⟩:=given_agg (φ:=φ) (β:=β) hts hk rfl (.inl hu) hc h
 obtain ⟨n,rfl⟩:=dec_img h1
 exact ⟨n,h3⟩
theorem given_stepB {ts : List TypeId} (hts : P.cellTypes P.depth U = some ts) (hk : (ts.map fun u=>kindOf (P.underlying u)) = tStep.kinds.map some) (hu : ∃ fs,P.underlying U = some (.struct fs)) (hc : P.cellsOf U = tStep.kinds.length)
  (h : Value.okWide P W r b U x) : ∃ m : SStep,m.ok ∧ VR φ β m.enc x:=by
 obtain ⟨v,h1,h2,h3⟩:=given_agg (φ:=φ) (β:=β) hts hk rfl (.inl hu) hc h
 obtain ⟨n,rfl⟩:=dec_step h1
 exact ⟨n,step_ranged h2,h3⟩
end
theorem lets_top' : ∀ n,(⟨0,⟨0,0⟩⟩ : Cx).prot.lets (.obj n) = true:=fun n=>decide_eq_true (Nat.zero_le n)
def one1 {α : Type} (a : Option α) : Nat → Option α:=fun n=>if n = 0 then a else none
def two2 {α : Type} (a b : Option α) : Nat → Option α:=fun n=>if n = 0 then a else if n = 1 then b else none
@[go_sem] theorem fill_stepD (k : Int) (s t : Str) : fill tStep tStep.zero [(0,.int .i64 k),(4,.str s),(6,.str t)] = some (SStep.enc ⟨k,0,0,0,s,⟨#[]⟩,t⟩):=rfl
@[go_sem] theorem fill_stepE (k d : Int) (s t : Str) : fill tStep tStep.zero [(0,.int .i64 k),(4,.str s),(2,.int .i64 d),(5,.str t)] = some (SStep.enc ⟨k,0,d,0,s,t,⟨#[]⟩⟩):=rfl
def HF (h : HP) (F : Fl) : HP:=(h.nw tCache (encC F.now F.disk)).nw tFiles (encF h.next F.stamp)
section
variable {cx : Cx} {h : HP} {F : Fl}
theorem HF_F : (HF h F).look (.obj (h.next + 1)) = some ⟨tFiles,encF h.next F.stamp⟩:=look_nn1
theorem HF_C : (HF h F).look (.obj h.next) = some ⟨tCache,encC F.now F.disk⟩:=look_nn0
theorem HF_fr : Fr h (HF h F) []:=Fr.nw.trans Fr.nw
end
def fb0 : Fl:=⟨.blank,.blank,0⟩
structure FilAt (h : HP) (f c : Nat) (F : Fl) : Prop where
 fi : h.look (.obj f) = some ⟨tFiles,encF c F.stamp⟩
 ca : h.look (.obj c) = some ⟨tCache,encC F.now F.disk⟩
 fc : ¬f = c
 fn : f < h.next
 cn : c < h.next
theorem FilAt.push {h : HP} {f c l : Nat} {o : Own} {F : Fl} (a : FilAt h f c F) : FilAt (h.push l o) f c F:=⟨a.fi,a.ca,a.fc,a.fn,a.cn⟩
theorem FilAt.pop {h : HP} {f c l : Nat} {o : Own} {F : Fl} (a : FilAt (h.push l o) f c F) : FilAt h f c F:=⟨a.fi,a.ca,a.fc,a.fn,a.cn⟩
theorem FilAt.same {h h' : HP} {f c : Nat} {F : Fl} {S : List Nat} (a : FilAt h f c F) (b : Fr h h' S) (hf : f ∉ S) (hc : c ∉ S) : FilAt h' f c F :=
 ⟨b.look a.fn hf a.fi,b.look a.cn hc a.ca,a.fc,Nat.lt_of_lt_of_le a.fn b.next,Nat.lt_of_lt_of_le a.cn b.next⟩
def FilN (h0 h : HP) (f : Nat) (F : Fl) : Prop:=∃ c,FilAt h f c F ∧ (h0.next ≤ f ∧ h0.next ≤ c) ∧ Fr h0 h []
theorem FilN.same {h0 h1 h2 : HP} {f : Nat} {F : Fl} (a : FilN h0 h1 f F) (b : Fr h1 h2 []) : FilN h0 h2 f F:=by
 obtain ⟨c,hA,hb,hF⟩:=a
 exact ⟨c,hA.same b (by simp) (by simp),hb,hF.trans b⟩
theorem FilN.stk {h0 h1 : HP} {f : Nat} {F : Fl} (a : FilN h0 h1 f F) : h1.stk = h0.stk:=by obtain ⟨_,_,_,hF⟩:=a; exact hF.stk
theorem FilN.arg {h0 h1 : HP} {f : Nat} {F : Fl} (a : FilN h0 h1 f F) : h1.arg = h0.arg:=by obtain ⟨_,_,_,hF⟩:=a; exact hF.arg
theorem FilN.new {h : HP} : FilN h (HF h fb0) (h.next + 1) fb0 :=
 ⟨h.next,⟨HF_F,HF_C,by omega,by show h.next + 1 < h.next + 1 + 1; omega,by show h.next < h.next + 1 + 1; omega⟩,⟨by omega,by omega⟩,HF_fr⟩
def SlG (t : Ty) (h0 h : HP) (v : AV) (l : List AV) : Prop:=(v = .nilsl ∧ l = []) ∨ ∃ q,v = .sl (.obj q) 0 l.length ∧ h0.next ≤ q ∧ q < h.next ∧ h.look (.obj q) = some ⟨.arr l.length t,.ofList l⟩ ∧ l ≠ []
theorem SlG.len {t : Ty} {h0 h : HP} {v : AV} {l : List AV} (a : SlG t h0 h v l) : lenV false v = some (.int .i64 l.length):=by
 rcases a with ⟨rfl,rfl⟩ | ⟨q,rfl,_⟩ <;> rfl
theorem SlG.fg {t : Ty} {h0 h : HP} {v : AV} {l : List AV} (a : SlG t h0 h v l) (x y : Nat) : fg v (.stk x y) = v:=by
 rcases a with ⟨rfl,_⟩ | ⟨q,rfl,_⟩ <;> simp only [go_sem]
theorem SlG.ld {t : Ty} {h0 h : HP} {v : AV} {l : List AV} (a : SlG t h0 h v l) (x y : Nat) : v.leads (.stk x y) = false:=by
 rcases a with ⟨rfl,_⟩ | ⟨q,rfl,_⟩ <;> simp only [go_sem]
structure Off (h h' : HP) (v : AV) : Prop where
 stk : h'.stk = h.stk
 arg : h'.arg = h.arg
 next : h.next ≤ h'.next
 same : ∀ n,n < h.next → v.into (.obj n) = false → h'.obj n = h.obj n
theorem Off.refl (h : HP) (v : AV) : Off h h v:=⟨rfl,rfl,Nat.le_refl _,fun _ _ _=>rfl⟩
theorem Off.look {h h' : HP} {v : AV} (a : Off h h' v) {n : Nat} {b : Option Blk} (hn : n < h.next) (hv : v.into (.obj n) = false) (e : h.look (.obj n) = b) : h'.look (.obj n) = b:=by
 rw [← e]; exact a.same n hn hv
theorem Off.fr {h0 h h' : HP} {v : AV} (f : Fr h0 h []) (a : Off h h' v) (hv : ∀ n,n < h0.next → v.into (.obj n) = false) : Fr h0 h' [] :=
 ⟨a.stk.trans f.stk,a.arg.trans f.arg,Nat.le_trans f.next a.next,fun n hn hs=>(a.same n (Nat.lt_of_lt_of_le hn f.next) (hv n hn)).trans (f.same n hn hs)⟩
theorem SlG.into {t : Ty} {h0 h : HP} {v : AV} {l : List AV} (a : SlG t h0 h v l) (n : Nat) (hn : n < h0.next) : v.into (.obj n) = false:=by
 rcases a with ⟨rfl,_⟩ | ⟨q,rfl,hq,_⟩
 ·rfl
 ·simp [AV.into]; omega
theorem SlG.same {t : Ty} {h0 h h' : HP} {v w : AV} {l : List AV} (a : SlG t h0 h v l) (b : Off h h' w) (hw : ∀ n,v.into (.obj n) = true → w.into (.obj n) = false) : SlG t h0 h' v l:=by
 rcases a with a | ⟨q,rfl,hq,hq2,hq3⟩
 ·exact .inl a
 ·exact .inr ⟨q,rfl,hq,Nat.lt_of_lt_of_le hq2 b.next,b.look hq2 (hw q (by simp [AV.into])) hq3.1,hq3.2⟩
theorem SlG.mono {t : Ty} {h0 h1 h : HP} {v : AV} {l : List AV} (a : SlG t h1 h v l) (e : h0.next ≤ h1.next) : SlG t h0 h v l:=by
 rcases a with a | ⟨q,rfl,hq,r⟩
 ·exact .inl a
 ·exact .inr ⟨q,rfl,Nat.le_trans e hq,r⟩
theorem toList_ofList (l : List AV) : (AV.ofList l).toList = some l:=by
 simp only [AV.ofList,AV.toList]
 congr 1
 exact List.ext_getElem (by simp) (by simp)
theorem fits_ofListG {t : Ty} {l : List AV} {n : Nat} (hn : n = l.length) (h : ∀ a ∈ l,t.fits a = true) : (Ty.arr n t).fits (.ofList l) = true:=by
 subst hn
 simp only [AV.ofList,Ty.fits,beq_self_eq_true,Bool.true_and,List.all_eq_true]
 exact fun i _=>h _ (List.get_mem ..)
section
variable {T : Nat → Option MFun} {cx : Cx} {k : List Item} {kill : List Nat} {r : List MOp} {sl : Slots} {own : Own} {h h0 : HP} {Q : St → Prop} {t : Ty}
theorem W_app {ap : List Nat} {d : Nat} {x y : Opd} {v : AV} {l add : List AV} (hx : St.opd ⟨sl,own,h⟩ x = v) (hl : ∀ n,cx.prot.lets (.obj n) = true) (h0n : h0.next ≤ h.next) (hS : SlG t h0 h v l)
  (hy : elems (St.look cx ⟨sl,own,h⟩) t (St.opd ⟨sl,own,h⟩ y) = some add) (hfl : ∀ a ∈ l,t.fits a = true) (hfa : ∀ a ∈ add,t.fits a = true) (hn : l.length + add.length ≤ 1048576)
  (hap : ∀ e,ap.all (apOk (St.opd ⟨sl,own,h⟩) v (St.opd ⟨sl,own,h⟩ y) e) = true)
  (hq : ∀ v' h',SlG t h0 h' v' (l ++ add) → Off h h' v → W T cx (.ops r kill :: k) ⟨sl.set d v',own,h'⟩ Q) :
  W T cx (.ops (⟨some d,.append true ap t x y,none⟩ :: r) kill :: k) ⟨sl,own,h⟩ Q:=by
 rw [W_op rfl,evOp]
 have hev : ∀ e,evAppend (St.look cx ⟨sl,own,h⟩) t v add = some e → evK (St.opd ⟨sl,own,h⟩) (St.look cx ⟨sl,own,h⟩) (.append true ap t x y) = some e:=by
  intro e he
  simp only [evK,hy,hx,he,hap e,if_true]
 rcases hS with ⟨rfl,rfl⟩ | ⟨q,rfl,hq1,hq2,hq3,hne⟩
 ·by_cases ha : add.length = 0
  ·have ha' : add = []:=List.eq_nil_of_length_eq_zero ha
   subst ha'
   rw [hev (.val .nilsl) (by simp [evAppend])]
   exact hq _ h (.inl ⟨rfl,rfl⟩) (Off.refl _ _)
  ·rw [hev (.new (some add.length) ⟨.arr add.length t,.ofList add⟩) (by
    simp only [evAppend]
    rw [if_neg ha,if_pos ⟨fits_ofListG rfl hfa,by simp at hn; omega⟩])]
   refine hq (.sl (.obj h.next) 0 add.length) (h.nw (.arr add.length t) (.ofList add)) (.inr ⟨h.next,by simp,h0n,Nat.lt_succ_self _,by simpa using look_nw,by simp; exact fun e=>ha (by rw [e]; rfl)⟩) ⟨rfl,rfl,Nat.le_succ _,fun n hn _=>?_⟩
   simp [HP.nw,HP.ob,HP.set]; omega
 ·have hlk : St.look cx ⟨sl,own,h⟩ (.obj q) = some ⟨.arr l.length t,.ofList l⟩:=hq3
  by_cases ha : add.length = 0
  ·have ha' : add = []:=List.eq_nil_of_length_eq_zero ha
   subst ha'
   have e0 : l.take l.length ++ [] ++ l.drop (l.length + 0) = l:=by simp
   rw [hev (.wr (.obj q) ⟨.arr l.length t,.ofList l⟩ (.sl (.obj q) 0 (l.length + 0))) (by
    simp only [evAppend,hlk,toList_ofList,if_true,List.length_nil,Nat.zero_add]
    rw [if_pos (by omega),e0,if_pos (fits_ofListG rfl hfl)])]
   simp only [applyEff,St.write,Id.own,hl q,if_true,Option.map_some,onO_some]
   refine hq (.sl (.obj q) 0 (l.length + 0)) (h.ob q (.arr l.length t) (.ofList l)) ?_ ⟨rfl,rfl,Nat.le_refl _,fun n hn hv=>obj_ob_ne fun e=>?_⟩
   ·exact .inr ⟨q,by simp,hq1,hq2,by simpa using look_ob,by simpa using hne⟩
   ·subst e; simp [AV.into] at hv
  ·rw [hev (.grow (.obj q) ⟨.arr (l.length + add.length) t,.ofList (l ++ add)⟩ (l.length + add.length)) (by
    simp only [evAppend,hlk,toList_ofList,if_true,Nat.zero_add,List.drop_zero]
    rw [if_neg (by omega),if_pos (by omega),List.take_of_length_le (Nat.le_refl _),if_pos ⟨fits_ofListG (by simp) (fun a ha=>by
     rcases List.mem_append.1 ha with h | h
     ·exact hfl a h
     ·exact hfa a h),hn⟩])]
   simp only [applyEff,St.drop,Id.own,hl q,if_true,Option.map_some,onO_some]
   refine hq (.sl (.obj h.next) 0 (l.length + add.length)) ((h.dl q).nw (.arr (l.length + add.length) t) (.ofList (l ++ add))) (.inr ⟨h.next,by simp,h0n,Nat.lt_succ_self _,?_,by simp [hne]⟩) ⟨rfl,rfl,Nat.le_succ _,fun n hn hv=>?_⟩
   ·have:=look_nw (h:=h.dl q) (t:=.arr (l.length + add.length) t) (v:=.ofList (l ++ add))
    rw [List.length_append]
    exact this
   ·have hnq : ¬n = q:=fun e=>by subst e; simp [AV.into] at hv
    simp [HP.nw,HP.ob,HP.set,HP.dl,hnq]; omega
theorem W_slc {rt : Option Nat} {d : Nat} {x : Opd} {lo hi : Option Opd} {v : AV} {l : List AV} {a b : Nat} (hx : St.opd ⟨sl,own,h⟩ x = v) (hS : SlG t h0 h v l)
  (hlo : (lo = none ∧ a = 0) ∨ ∃ y kk,lo = some y ∧ St.opd ⟨sl,own,h⟩ y = .int kk a) (hhi : (hi = none ∧ b = l.length) ∨ ∃ y kk,hi = some y ∧ St.opd ⟨sl,own,h⟩ y = .int kk b) (hab : a ≤ b) (hbl : b ≤ l.length)
  (hrt : rt = none ∨ ∃ u,rt = some u ∧ u < 1000000 ∧ Slots.get sl u = v)
  (hq : ∀ v',(∀ q,v'.into q = true → v.into q = true) → (∀ x y,Go.Mini.fg v' (.stk x y) = v') → (∀ sl' : Slots,elems (St.look cx ⟨sl',own,h⟩) t v' = some ((l.drop a).take (b - a))) → W T cx (.ops r kill :: k) ⟨sl.set d v',own,h⟩ Q) :
  W T cx (.ops (⟨some d,.slice rt t x lo hi none,none⟩ :: r) kill :: k) ⟨sl,own,h⟩ Q:=by
 rw [W_op rfl,evOp]
 have e1 : ixOr (St.opd ⟨sl,own,h⟩) lo 0 = some (a : Int):=by
  rcases hlo with ⟨rfl,rfl⟩ | ⟨y,kk,rfl,hy⟩
  ·rfl
  ·simp [ixOr,hy,toIx]
 rcases hS with ⟨rfl,rfl⟩ | ⟨q,rfl,hq1,hq2,hq3,_⟩
 ·obtain rfl : b = 0:=by simpa using hbl
  obtain rfl : a = 0:=by omega
  have e2 : ixOr (St.opd ⟨sl,own,h⟩) hi 0 = some (0 : Int):=by
   rcases hhi with ⟨rfl,_⟩ | ⟨y,kk,rfl,hy⟩
   ·rfl
   ·simp [ixOr,hy,toIx]
  have e3 : rootNil (St.opd ⟨sl,own,h⟩) rt = true:=by
   rcases hrt with rfl | ⟨u,rfl,_,hu⟩
   ·rfl
   ·simp [rootNil,St.opd,hu]
  have e1' : ixOr (St.opd ⟨sl,own,h⟩) lo 0 = some (0 : Int):=e1
  simp only [evK,hx,e1',e2,e3,if_true,applyEff]
  exact hq .nilsl (fun _ h=>h) (fun _ _=>rfl) fun _=>rfl
 ·have e2 : ixOr (St.opd ⟨sl,own,h⟩) hi (l.length : Int) = some (b : Int):=by
   rcases hhi with ⟨rfl,rfl⟩ | ⟨y,kk,rfl,hy⟩
   ·rfl
   ·simp [ixOr,hy,toIx]
  have e3 : rooted (St.opd ⟨sl,own,h⟩) (.obj q) rt = true:=by
   rcases hrt with rfl | ⟨u,rfl,hu,hs⟩
   ·rfl
   ·simp only [rooted]
    rw [if_neg (by omega),if_neg (by omega)]
    simp [St.opd,hs,AV.into]
  have hlk : ∀ sl' : Slots,St.look cx ⟨sl',own,h⟩ (.obj q) = some ⟨.arr l.length t,.ofList l⟩:=fun _=>hq3
  simp only [evK,hx,e1,e2,e3,if_true,evSlice,hlk,Option.map_none,true_and]
  rw [if_pos ⟨by omega,by omega,by omega⟩]
  by_cases hoff : 0 + (a : Int).toNat < l.length ∨ (a : Int) = 0
  ·rw [if_pos hoff]
   simp only [applyEff]
   refine hq (.sl (.obj q) (0 + (a : Int).toNat) ((b : Int) - a).toNat) (fun p hp=>by simpa [AV.into] using hp) (fun x y=>by simp only [go_sem]) fun sl'=>?_
   have h1 : ((b : Int) - a).toNat = b - a:=by omega
   simp only [elems,hlk,toList_ofList,h1]
   rw [if_pos ⟨trivial,by simp; omega⟩]
   simp
  ·rw [if_neg hoff]
   simp only [applyEff]
   refine hq .slz (fun p hp=>by simp [AV.into] at hp) (fun x y=>rfl) fun sl'=>?_
   have : b - a = 0:=by omega
   simp [elems,this]
end
abbrev tTag : Ty:=.cons tI (.cons tS (.cons tI .unit))
abbrev tRFile : Ty:=.cons (.arr 2 tB) (.cons (.arr 2 tS) .unit)
abbrev tRIdeal : Ty:=.cons tSl (.cons tSl .unit)
structure Tag where
 dir : Int
 name : Str
 file : Nat
 deriving DecidableEq
def Tag.enc (x : Tag) : AV:=.cons (.int .i64 x.dir) (.cons (.str x.name) (.cons (.int .i64 x.file) .unit))
@[go_sem] theorem at_tag0 (x : Tag) : x.enc.at [0] = some (.int .i64 x.dir):=rfl
@[go_sem] theorem at_tag1 (x : Tag) : x.enc.at [1] = some (.str x.name):=rfl
@[go_sem] theorem at_tag2 (x : Tag) : x.enc.at [2] = some (.int .i64 x.file):=rfl
@[go_sem] theorem fits_tag (x : Tag) : (tTag.fits x.enc = true) = True:=eq_true rfl
theorem fits_tags (l : List Tag) : ∀ a ∈ l.map Tag.enc,tTag.fits a = true:=fun a ha=>by
 obtain ⟨x,_,rfl⟩:=List.mem_map.1 ha; rfl
def tagN (l : List Tag) (k : Nat) : Tag:=l.getD k ⟨0,⟨#[]⟩,0⟩
theorem tagN_get {l : List Tag} {k : Nat} (h : k < l.length) : tagN l k = l[k]:=by simp [tagN,h]
@[go_sem] theorem tags_at (l : List Tag) {k : Nat} (h : k < l.length) (p : List Nat) : (AV.ofList (l.map Tag.enc)).at (k :: p) = (tagN l k).enc.at p:=by
 simp [AV.ofList,AV.at,h,tagN]
structure RFile where
 h0 : Bool
 h1 : Bool
 t0 : Str
 t1 : Str
def RFile.has (f : RFile) (p : Nat) : Bool:=if p = 0 then f.h0 else f.h1
def RFile.text (f : RFile) (p : Nat) : Str:=if p = 0 then f.t0 else f.t1
def RFile.enc (f : RFile) : AV:=.cons (.arr 2 fun i=>.bool (f.has i.val)) (.cons (.arr 2 fun i=>.str (f.text i.val)) .unit)
def RFile.zero : RFile:=⟨false,false,⟨#[]⟩,⟨#[]⟩⟩
theorem RFile.fits (f : RFile) : tRFile.fits f.enc = true:=by
 simp [RFile.enc,Ty.fits,tB,tS,LK.fits,AV.safe]
@[go_sem] theorem fits_rfile (f : RFile) : (tRFile.fits f.enc = true) = True:=eq_true f.fits
theorem fits_rfiles (l : List RFile) : ∀ a ∈ l.map RFile.enc,tRFile.fits a = true:=fun a ha=>by
 obtain ⟨x,_,rfl⟩:=List.mem_map.1 ha; exact x.fits
@[go_sem] theorem rfile_at0 (f : RFile) {p : Nat} (hp : p < 2) : f.enc.at [0,p] = some (.bool (f.has p)):=by
 simp [RFile.enc,AV.at,hp]
@[go_sem] theorem rfile_at1 (f : RFile) {p : Nat} (hp : p < 2) : f.enc.at [1,p] = some (.str (f.text p)):=by
 simp [RFile.enc,AV.at,hp]
@[go_sem] theorem fg_rfile (f : RFile) (i : Id) : fg f.enc i = f.enc:=rfl
@[go_sem] theorem leads_rfile (f : RFile) (i : Id) : f.enc.leads i = false:=rfl
@[go_sem] theorem fg_tag (f : Tag) (i : Id) : fg f.enc i = f.enc:=rfl
@[go_sem] theorem leads_tag (f : Tag) (i : Id) : f.enc.leads i = false:=rfl
@[go_sem] theorem rfile_nil (f : RFile) : f.enc.at [] = some f.enc:=rfl
def filN (l : List RFile) (k : Nat) : RFile:=l.getD k RFile.zero
@[go_sem] theorem files_at (l : List RFile) {k : Nat} (h : k < l.length) (p : List Nat) : (AV.ofList (l.map RFile.enc)).at (k :: p) = (filN l k).enc.at p:=by
 simp [AV.ofList,AV.at,h,filN]
def SlR (t : Ty) (h : HP) (v : AV) (l : List AV) : Prop:=(v = .nilsl ∧ l = []) ∨ ∃ q,v = .sl (.obj q) 0 l.length ∧ h.look (.obj q) = some ⟨.arr l.length t,.ofList l⟩
theorem SlG.r {t : Ty} {h0 h : HP} {v : AV} {l : List AV} (a : SlG t h0 h v l) : SlR t h v l:=by
 rcases a with a | ⟨q,h1,_,_,h2,_⟩
 ·exact .inl a
 ·exact .inr ⟨q,h1,h2⟩
theorem SlR.len {t : Ty} {h : HP} {v : AV} {l : List AV} (a : SlR t h v l) : lenV false v = some (.int .i64 l.length):=by
 rcases a with ⟨rfl,rfl⟩ | ⟨q,rfl,_⟩ <;> rfl
theorem SlR.fits {t : Ty} {h : HP} {v : AV} {l : List AV} (a : SlR t h v l) : (tSl.fits v = true) = True:=by
 rcases a with ⟨rfl,rfl⟩ | ⟨q,rfl,_⟩ <;> exact eq_true rfl
theorem SlR.push {t : Ty} {h : HP} {v : AV} {l : List AV} {x : Nat} {o : Own} (a : SlR t h v l) : SlR t (h.push x o) v l:=a
@[go_sem] theorem field_ri0 : tRIdeal.field 0 = some tSl:=rfl
@[go_sem] theorem field_ri1 : tRIdeal.field 1 = some tSl:=rfl
@[go_sem] theorem field_tag0 : tTag.field 0 = some tI:=rfl
@[go_sem] theorem field_tag1 : tTag.field 1 = some tS:=rfl
@[go_sem] theorem field_tag2 : tTag.field 2 = some tI:=rfl
@[go_sem] theorem field_rf0 : tRFile.field 0 = some (.arr 2 tB):=rfl
@[go_sem] theorem field_rf1 : tRFile.field 1 = some (.arr 2 tS):=rfl
def atT (l : List Tag) (d : Int) (s : Str) : Int:=findN l.length fun i=>decide ((tagN l i).dir = d) && decide ((tagN l i).name = s)
section
variable {cx : Cx} {h : HP} {p : Id} {v1 v2 : AV} {l : List Tag} {fs : List RFile}
theorem at_ok {d : Int} {s : Str} (hb : p.below cx.lvl) (hm : h.rd p [0] = some v1) (hS : SlR tTag h v1 (l.map Tag.enc)) (hn : l.length ≤ 1000000) :
  Ok tblE cx Fn.r_Ideal_at (St.enter [.ptr p [] tRIdeal,.int .i64 d,.str s] h) fun v h'=>v = .int .i64 (atT l d s) ∧ h' = h:=by
 have hlen:=hS.len
 have hfit:=hS.fits
 rw [List.length_map] at hlen
 rw [Ok_eq]
 simp (maxSteps:=999999) (disch:=omega) only [go_sem]
 refine W_forP l.length (fun i=>⟨[(0,.ptr p [] tRIdeal),(1,.int .i64 d),(2,.str s),(7,.int .i64 i)],[],h⟩) (fun i=>∀ j,j < i → (decide ((tagN l j).dir = d) && decide ((tagN l j).name = s)) = false) (by simp only [go_sem] <;> rfl) (fun j hj=>by omega) fun i hi hp ih=>?_
 by_cases hlt : i < l.length
 ·rcases hS with ⟨_,e⟩ | ⟨q,rfl,hq⟩
  ·have : l = []:=by simpa using e
   rw [this] at hlt; simp at hlt
  rw [List.length_map] at hq hlen hfit
  rw [List.length_map] at hm
  simp (maxSteps:=999999) (disch:=omega) only [go_sem,hlt,hlen,hfit,rd_ext hb,hm,fg_ptr hb,leads_ptr hb,apart_ptr hb,hq]
  by_cases c1 : (tagN l i).dir = d
  ·by_cases c2 : (tagN l i).name = s
   ·simp (maxSteps:=999999) (disch:=omega) only [go_sem,c1,c2,hlt,hlen,hfit,rd_ext hb,hm,fg_ptr hb,leads_ptr hb,apart_ptr hb,hq]
    rw [atT,findN_at hp (by simp [c1,c2]) hlt]
   ·simp (maxSteps:=999999) (disch:=omega) only [go_sem,c1,c2,hlt,hlen,hfit,rd_ext hb,hm,fg_ptr hb,leads_ptr hb,apart_ptr hb,hq]
    refine ih _ hlt (step_all hp (by simp [c2])) ?_
    simp only [go_sem]
  ·simp (maxSteps:=999999) (disch:=omega) only [go_sem,c1,hlt,hlen,hfit,rd_ext hb,hm,fg_ptr hb,leads_ptr hb,apart_ptr hb,hq]
   refine ih _ hlt (step_all hp (by simp [c1])) ?_
   simp only [go_sem]
 ·obtain rfl : i = l.length:=by omega
  simp (maxSteps:=999999) (disch:=omega) only [go_sem,hlen,hfit,rd_ext hb,hm,fg_ptr hb,leads_ptr hb,apart_ptr hb]
  rw [atT,findN_none hp]
theorem atT_cases (l : List Tag) (d : Int) (s : Str) : atT l d s = -1 ∨ ∃ k : Nat,k < l.length ∧ atT l d s = k ∧ (tagN l k).dir = d ∧ (tagN l k).name = s:=by
 rcases findN_lt (f:=fun i=>decide ((tagN l i).dir = d) && decide ((tagN l i).name = s)) (n:=l.length) with e | ⟨j,h1,e,h2,_⟩
 ·exact .inl e
 ·simp at h2; exact .inr ⟨j,h1,e,h2.1,h2.2⟩
def rReadC (l : List Tag) (d : Int) (s : Str) (p : Int) : Int :=
 if stepFault ⟨6,d,0,p,s,⟨#[]⟩,⟨#[]⟩⟩ ≠ 0 then stepFault ⟨6,d,0,p,s,⟨#[]⟩,⟨#[]⟩⟩ else if atT l d s < 0 then 5 else 0
def rReadF (l : List Tag) (fs : List RFile) (d : Int) (s : Str) : RFile:=filN fs (tagN l (atT l d s).toNat).file
def rReadB (l : List Tag) (fs : List RFile) (d : Int) (s : Str) (p : Int) : Bool:=if rReadC l d s p = 0 then (rReadF l fs d s).has p.toNat else false
def rReadT (l : List Tag) (fs : List RFile) (d : Int) (s : Str) (p : Int) : Str:=if rReadC l d s p = 0 then (rReadF l fs d s).text p.toNat else ⟨#[]⟩
def rSameB (l : List Tag) (d : Int) (s : Str) (e : Int) (t : Str) : Bool:=decide (0 ≤ atT l d s) && decide (0 ≤ atT l e t) && decide ((tagN l (atT l d s).toNat).file = (tagN l (atT l e t).toNat).file)
def FilesOk (l : List Tag) (fs : List RFile) : Prop:=∀ k,k < l.length → (tagN l k).file < fs.length
theorem RRead_ok {d p' : Int} {s : Str} (hb : p.below cx.lvl) (hm : h.rd p [0] = some v1) (hm2 : h.rd p [1] = some v2) (hS : SlR tTag h v1 (l.map Tag.enc)) (hF : SlR tRFile h v2 (fs.map RFile.enc)) (hn : l.length ≤ 1000000) (hfo : FilesOk l fs) (hs : s.size ≤ 9223372036854775807) :
  Ok tblE cx Fn.r_Ideal_Read (St.enter [.ptr p [] tRIdeal,.int .i64 d,.str s,.int .i64 p'] h) fun v h'=>v = encR (rReadT l fs d s p') (rReadB l fs d s p') (rReadC l d s p') ∧ h' = h:=by
 have hlen:=hS.len
 have hfit:=hS.fits
 have hlen2:=hF.len
 have hfit2:=hF.fits
 rw [List.length_map] at hlen hlen2
 rw [Ok_eq]
 simp (maxSteps:=999999) (disch:=omega) only [go_sem,rd_ext hb,hm,fg_ptr hb,leads_ptr hb,apart_ptr hb]
 refine W_callp rfl ⟨rfl,rfl⟩ (by simp only [go_sem]; exact StepFault_ok (x:=⟨6,d,0,p',s,⟨#[]⟩,⟨#[]⟩⟩) hs (Nat.zero_le _) (Nat.zero_le _)) ?_
 simp (maxSteps:=999999) (disch:=omega) only [go_sem,rd_ext hb,hm,fg_ptr hb,leads_ptr hb,apart_ptr hb]
 by_cases c0 : stepFault ⟨6,d,0,p',s,⟨#[]⟩,⟨#[]⟩⟩ = 0
 rotate_left
 ·simp (maxSteps:=999999) (disch:=omega) only [go_sem,c0]
  simp [rReadC,rReadB,rReadT,c0,encR]
 obtain ⟨_,⟨d0,d3⟩,_,_,hp,_⟩:=stepFault_zero c0
 obtain ⟨p0,p2⟩:=hp (.inr rfl)
 simp only at d0 d3 p0 p2
 simp (maxSteps:=999999) (disch:=omega) only [go_sem,c0,rd_ext hb,hm,fg_ptr hb,leads_ptr hb,apart_ptr hb]
 refine W_callp rfl ⟨rfl,rfl⟩ (by simp only [go_sem]; exact at_ok (l:=l) hb.succ (by simp only [HP.push_rd_ext hb,hm]) hS.push hn) ?_
 simp (maxSteps:=999999) (disch:=omega) only [go_sem,rd_ext hb,hm,fg_ptr hb,leads_ptr hb,apart_ptr hb]
 rcases atT_cases l d s with e | ⟨k,hk,e,_⟩
 ·simp (maxSteps:=999999) (disch:=omega) only [go_sem,e]
  simp [rReadC,rReadB,rReadT,c0,e,encR]
 have k0 : ¬(k : Int) < 0:=by omega
 have hfk:=hfo k hk
 rcases hS with ⟨_,e'⟩ | ⟨q,rfl,hq⟩
 ·have : l = []:=by simpa using e'
  rw [this] at hk; simp at hk
 rcases hF with ⟨_,e'⟩ | ⟨q2,rfl,hq2⟩
 ·have : fs = []:=by simpa using e'
  rw [this] at hfk; simp at hfk
 rw [List.length_map] at hq hlen hfit hm hq2 hlen2 hfit2 hm2
 simp (maxSteps:=999999) (disch:=omega) only [go_sem,e,k0,rd_ext hb,hm,fg_ptr hb,leads_ptr hb,apart_ptr hb,hm2,hfit,hfit2,hq,hq2,hk,hfk,encR]
 have hc : rReadC l d s p' = 0:=by simp [rReadC,c0,e,k0]
 simp [rReadB,rReadT,rReadF,hc,e]
theorem RSame_ok {d e : Int} {s t : Str} (hb : p.below cx.lvl) (hm : h.rd p [0] = some v1) (hS : SlR tTag h v1 (l.map Tag.enc)) (hn : l.length ≤ 1000000) :
  Ok tblE cx Fn.r_Ideal_Same (St.enter [.ptr p [] tRIdeal,.int .i64 d,.str s,.int .i64 e,.str t] h) fun v h'=>v = .bool (rSameB l d s e t) ∧ h' = h:=by
 have hlen:=hS.len
 have hfit:=hS.fits
 rw [List.length_map] at hlen
 rw [Ok_eq]
 simp (maxSteps:=999999) (disch:=omega) only [go_sem,rd_ext hb,hm,fg_ptr hb,leads_ptr hb,apart_ptr hb]
 refine W_callp rfl ⟨rfl,rfl⟩ (by simp only [go_sem]; exact at_ok (l:=l) hb.succ (by simp only [HP.push_rd_ext hb,hm]) hS.push hn) ?_
 simp (maxSteps:=999999) (disch:=omega) only [go_sem,rd_ext hb,hm,fg_ptr hb,leads_ptr hb,apart_ptr hb]
 refine W_callp rfl ⟨rfl,rfl⟩ (by simp only [go_sem]; exact at_ok (l:=l) hb.succ (by simp only [HP.push_rd_ext hb,hm]) hS.push hn) ?_
 simp (maxSteps:=999999) (disch:=omega) only [go_sem,rd_ext hb,hm,fg_ptr hb,leads_ptr hb,apart_ptr hb]
 rcases atT_cases l d s with e1 | ⟨k,hk,e1,_⟩
 ·simp (maxSteps:=999999) (disch:=omega) only [go_sem,e1]
  simp [rSameB,e1]
 rcases atT_cases l e t with e2 | ⟨j,hj,e2,_⟩
 ·simp (maxSteps:=999999) (disch:=omega) only [go_sem,e1,e2]
  simp [rSameB,e1,e2]
 have k0 : ¬(k : Int) < 0:=by omega
 have j0 : ¬(j : Int) < 0:=by omega
 rcases hS with ⟨_,e'⟩ | ⟨q,rfl,hq⟩
 ·have : l = []:=by simpa using e'
  rw [this] at hk; simp at hk
 rw [List.length_map] at hq hlen hfit hm
 simp (maxSteps:=999999) (disch:=omega) only [go_sem,e1,e2,k0,j0,rd_ext hb,hm,fg_ptr hb,leads_ptr hb,apart_ptr hb,hfit,hq,hk,hj]
 simp [rSameB,e1,e2]
 omega
end
def insK (s : Str) (l : List Str) : Nat:=(l.takeWhile fun x=>sLt x s).length
def insS (s : Str) (l : List Str) : List Str:=(l.take (insK s l) ++ [s]) ++ l.drop (insK s l)
def namesT (l : List Tag) (d : Int) : Nat → List Str
 | 0=>[]
 | k + 1=>if (tagN l k).dir = d then namesT l d k ++ [(tagN l k).name] else namesT l d k
def listD (l : List Tag) (d : Int) : Nat → List Str
 | 0=>[]
 | k + 1=>if (tagN l k).dir = d then insS (tagN l k).name (listD l d k) else listD l d k
theorem insK_at {s : Str} : ∀ {l : List Str} {k : Nat},k ≤ l.length → (∀ j,j < k → sLt (txt l j) s = true) → (k = l.length ∨ sLt (txt l k) s = false) → insK s l = k
 | [],k,hk,_,_=>by simp at hk; simp [insK,hk]
 | a :: l,0,_,_,h=>by
  have : sLt a s = false:=by
   rcases h with h | h
   ·simp at h
   ·simpa [txt] using h
  simp [insK,this]
 | a :: l,k + 1,hk,hp,h=>by
  have h0 : sLt a s = true:=by simpa [txt] using hp 0 (by omega)
  have ih:=insK_at (s:=s) (l:=l) (k:=k) (by simpa using hk) (fun j hj=>by simpa [txt] using hp (j + 1) (by omega)) (by
   rcases h with h | h
   ·exact .inl (by simpa using h)
   ·exact .inr (by simpa [txt] using h))
  simp only [insK,List.takeWhile_cons,h0,if_true,List.length_cons]
  simp only [insK] at ih
  rw [ih]
theorem insS_perm (s : Str) (l : List Str) : (insS s l).Perm (s :: l):=by
 unfold insS
 rw [List.append_assoc]
 refine List.perm_middle.trans ?_
 simp
theorem insS_sorted {s : Str} : ∀ {l : List Str},Sorted l → Sorted (insS s l)
 | [],_=>by simp [insS,insK,Sorted]
 | a :: l,h=>by
  obtain ⟨h1,h2⟩:=List.pairwise_cons.1 h
  by_cases c : sLt a s = true
  ·have e : insS s (a :: l) = a :: insS s l:=by
    simp [insS,insK,List.takeWhile_cons,c]
   rw [e]
   refine List.pairwise_cons.2 ⟨fun b hb=>?_,insS_sorted h2⟩
   rcases List.mem_cons.1 ((insS_perm s l).mem_iff.1 hb) with rfl | hb
   ·exact sLe_of_lt c
   ·exact h1 b hb
  ·have e : insS s (a :: l) = s :: a :: l:=by
    simp [insS,insK,List.takeWhile_cons,c]
   rw [e]
   have hsa : sLe s a = true:=by
    have : sLt a s = false:=by simpa using c
    simp [sLe,this]
   refine List.pairwise_cons.2 ⟨fun b hb=>?_,h⟩
   rcases List.mem_cons.1 hb with rfl | hb
   ·exact hsa
   ·exact sLe_trans hsa (h1 b hb)
theorem listD_ok (l : List Tag) (d : Int) : ∀ k,Sorted (listD l d k) ∧ (listD l d k).Perm (namesT l d k)
 | 0=>⟨List.Pairwise.nil,List.Perm.refl _⟩
 | k + 1=>by
  obtain ⟨h1,h2⟩:=listD_ok l d k
  unfold listD namesT
  split
  ·refine ⟨insS_sorted h1,(insS_perm _ _).trans ?_⟩
   exact ((h2.cons _).trans (List.perm_append_singleton _ _).symm)
  ·exact ⟨h1,h2⟩
theorem listD_sort (l : List Tag) (d : Int) (k : Nat) : listD l d k = sortS (namesT l d k):=by
 obtain ⟨h1,h2⟩:=listD_ok l d k
 exact sortS_eq h2 h1
theorem namesT_len (l : List Tag) (d : Int) : ∀ k,(namesT l d k).length ≤ k
 | 0=>Nat.le_refl _
 | k + 1=>by
  have:=namesT_len l d k
  unfold namesT
  split
  ·simp; omega
  ·omega
theorem listD_len (l : List Tag) (d : Int) (k : Nat) : (listD l d k).length ≤ k:=by
 rw [(listD_ok l d k).2.length_eq]; exact namesT_len l d k
theorem SlG.safe {t : Ty} {h0 h : HP} {v : AV} {l : List AV} (a : SlG t h0 h v l) : v.safe = true:=by
 rcases a with ⟨rfl,_⟩ | ⟨q,rfl,_⟩ <;> rfl
theorem SlG.slf {h0 h : HP} {v : AV} {l : List Str} (a : SlG tS h0 h v (l.map .str)) : SlF h0 h v l:=by
 rcases a with ⟨rfl,e⟩ | ⟨q,rfl,h1,h2,h3,_⟩
 ·exact .inl ⟨rfl,by simpa using e⟩
 ·rw [List.length_map] at *
  exact .inr ⟨q,rfl,h1,h2,h3⟩
theorem fits_strs (l : List Str) : ∀ a ∈ l.map AV.str,tS.fits a = true:=fun a ha=>by
 obtain ⟨x,_,rfl⟩:=List.mem_map.1 ha; rfl
section
variable {cx : Cx} {h : HP} {p : Id} {v1 v2 : AV} {l : List Tag}
theorem IList_ok {d : Int} (hl : ∀ n,cx.prot.lets (.obj n) = true) (hb : p.below cx.lvl) (hm : h.rd p [0] = some v1) (hpn : ∀ n,p = .obj n → n < h.next) (hS : SlR tTag h v1 (l.map Tag.enc)) (hqn : ∀ q,v1.into (.obj q) = true → q < h.next) (hn : l.length ≤ 1000000) :
  Ok tblE cx Fn.r_Ideal_List (St.enter [.ptr p [] tRIdeal,.int .i64 d] h) fun v h'=>Fr h h' [] ∧ SlF h h' v (sortS (namesT l d l.length)):=by
 have hlen:=hS.len
 have hfit:=hS.fits
 rw [List.length_map] at hlen
 rw [Ok_eq]
 simp (maxSteps:=999999) (disch:=omega) only [go_sem]
 refine W_forE (α:=AV × HP) l.length (fun i q=>⟨[(0,.ptr p [] tRIdeal),(1,.int .i64 d),(5,q.1),(6,.int .i64 i)],[],q.2⟩) (fun i q=>Fr h q.2 [] ∧ SlG tS h q.2 q.1 ((listD l d i).map .str)) (.nilsl,h) (by simp only [go_sem] <;> rfl) ⟨Fr.refl _ _,.inl ⟨rfl,rfl⟩⟩ fun i q hi hq ih=>?_
 obtain ⟨ov,H⟩:=q
 obtain ⟨hF,hO⟩:=hq
 dsimp only at hF hO ⊢
 have hmH : H.rd p [0] = some v1:=by
  cases p with
  | stk a b=>simp only [HP.rd,HP.look,hF.stk] at hm ⊢; exact hm
  | arg a=>simp only [HP.rd,HP.look,hF.arg] at hm ⊢; exact hm
  | obj a=>simp only [HP.rd,HP.look] at hm ⊢; rw [hF.same a (hpn a rfl) (by simp)]; exact hm
 by_cases hlt : i < l.length
 ·rcases hS with ⟨_,e'⟩ | ⟨q,rfl,hq⟩
  ·have : l = []:=by simpa using e'
   rw [this] at hlt; simp at hlt
  have hqH : H.look (.obj q) = some ⟨.arr (l.map Tag.enc).length tTag,.ofList (l.map Tag.enc)⟩:=hF.look (hqn q (by simp [AV.into])) (by simp) hq
  rw [List.length_map] at hqH hlen hfit hmH
  have hofg:=hO.fg
  have hold:=hO.ld
  by_cases cd : (tagN l i).dir = d
  rotate_left
  ·simp (maxSteps:=999999) (disch:=omega) only [go_sem,hlt,hlen,hfit,rd_ext hb,hmH,fg_ptr hb,leads_ptr hb,apart_ptr hb,hqH,cd,hofg]
   refine ih _ (ov,H) hlt ?_ ⟨hF,?_⟩
   ·simp only [go_sem]
   ·unfold listD; rw [if_neg cd]; exact hO
  simp (maxSteps:=999999) (disch:=omega) only [go_sem,hlt,hlen,hfit,rd_ext hb,hmH,fg_ptr hb,leads_ptr hb,apart_ptr hb,hqH,cd,hofg]
  have hLn:=listD_len l d i
  generalize hL : listD l d i = L at hO hLn
  have hOlen:=hO.len
  rw [List.length_map] at hOlen
  refine W_forP L.length (fun k=>⟨[(0,.ptr p [] tRIdeal),(1,.int .i64 d),(5,ov),(6,.int .i64 i),(7,.str (tagN l i).name),(8,.nilsl),(9,.int .i64 k)],[],H⟩) (fun k=>∀ j,j < k → sLt (txt L j) (tagN l i).name = true) (by simp only [go_sem] <;> rfl) (fun j hj=>by omega) fun k hk hp ih2=>?_
  by_cases hlk : k < L.length
  ·have hO':=hO
   rcases hO' with ⟨_,e0⟩ | ⟨q',rfl,hq1,hq2,hq3,_⟩
   ·have : L = []:=by simpa using e0
    rw [this] at hlk; simp at hlk
   rw [List.length_map] at hq3 hofg hold hOlen hO
   have hq4 : H.look (.obj q') = some ⟨.arr L.length tS,encS L⟩:=hq3
   cases cs : sLt (txt L k) (tagN l i).name with
   | true =>
    simp (maxSteps:=999999) (disch:=omega) only [go_sem,hlk,hOlen,hq4,cs,List.length_map,leads_ptr hb,fg_ptr hb]
    refine ih2 _ hlk (fun j hj=>?_) ?_
    ·by_cases hjk : j = k
     ·subst hjk; exact cs
     ·exact hp j (by omega)
    ·simp only [go_sem,List.length_map]
   | false =>
    simp (maxSteps:=999999) (disch:=omega) only [go_sem,hlk,hOlen,hq4,cs,List.length_map,leads_ptr hb,fg_ptr hb]
    generalize hov : AV.sl (.obj q') 0 L.length = ov at *
    have hik : insK (tagN l i).name L = k:=insK_at (by omega) hp (.inr cs)
    have hk1 : k ≤ L.length:=by omega
    refine W_slc (h0:=h) (v:=ov) (l:=L.map .str) (a:=0) (b:=k) (by simp only [go_sem]) hO (.inl ⟨rfl,rfl⟩) (.inr ⟨_,.i64,rfl,by simp only [go_sem]⟩) (by omega) (by simp; omega) (.inl rfl) fun v54 _ hfg54 hel54=>?_
    simp (maxSteps:=999999) (disch:=omega) only [go_sem]
    refine W_app (h0:=H) (v:=.nilsl) (l:=[]) (by simp only [go_sem]) (fun n=>hl n) (Nat.le_refl _) (.inl ⟨rfl,rfl⟩) (add:=((L.take k).map .str)) (by simp only [go_sem]; rw [hel54]; simp [List.map_take]) (fun _ h=>by simp at h) (fits_strs _) (by simp; omega) (fun e=>by simp [apOk,AV.isNilsl]) fun v55 H1 hS1 hof1=>?_
    have hfg55:=hS1.fg
    have hO1 : SlG tS h H1 ov (L.map .str):=hO.same hof1 (fun n _=>rfl)
    have hne1 : ∀ n,ov.into (.obj n) = true → v55.into (.obj n) = false:=fun n hn=>by
     refine hS1.into n ?_
     rcases hO with ⟨rfl,_⟩ | ⟨q,rfl,_,hq2,_⟩
     ·simp [AV.into] at hn
     ·simp [AV.into] at hn; omega
    simp (maxSteps:=999999) (disch:=omega) only [go_sem,hfg54,hfg55,hofg,leads_ptr hb,fg_ptr hb]
    refine W_app (h0:=H) (v:=v55) (l:=[] ++ (L.take k).map .str) (by simp only [go_sem]) (fun n=>hl n) hof1.next hS1 (add:=[.str (tagN l i).name]) (by simp only [go_sem]) (fun a h=>by rw [List.nil_append] at h; exact fits_strs _ a h) (fun a h=>by simp at h; subst h; rfl) (by simp; omega) (fun e=>?_) fun v58 H2 hS2 hof2=>?_
    ·simp only [List.all_cons,List.all_nil,Bool.and_true,apOk,go_sem]
     rcases hO1 with ⟨rfl,e0⟩ | ⟨q,rfl,_,_,_,_⟩
     ·have : L = []:=by simpa using e0
      have hk0 : k = 0:=by rw [this] at hk1; simpa using hk1
      rw [hk0] at hS1
      rcases hS1 with ⟨rfl,_⟩ | ⟨q,rfl,_,_,_,hne⟩
      ·rfl
      ·simp at hne
     ·rcases hS1 with ⟨rfl,_⟩ | ⟨q',rfl,_,_,_,_⟩
      ·rfl
      ·have:=hne1 q (by simp [AV.into])
       simp [AV.into] at this
       simp [AV.apart]
       exact fun e=>this e.symm
    have hfg58:=hS2.fg
    have hO2 : SlG tS h H2 ov (L.map .str):=hO1.same hof2 hne1
    simp (maxSteps:=999999) (disch:=omega) only [go_sem,hfg54,hfg55,hfg58,hofg,leads_ptr hb,fg_ptr hb]
    refine W_slc (h0:=h) (v:=ov) (l:=L.map .str) (a:=k) (b:=L.length) (by simp only [go_sem]) hO2 (.inr ⟨_,.i64,rfl,by simp only [go_sem]⟩) (.inl ⟨rfl,by simp⟩) (by omega) (by simp) (.inr ⟨5,rfl,by omega,by simp only [go_sem]⟩) fun v61 _ hfg61 hel61=>?_
    refine W_app (h0:=H) (v:=v58) (l:=([] ++ (L.take k).map .str) ++ [.str (tagN l i).name]) (by simp only [go_sem]) (fun n=>hl n) (Nat.le_trans hof1.next hof2.next) hS2 (add:=(L.drop k).map .str) (by simp only [go_sem]; rw [hel61]; simp [List.map_drop,List.take_of_length_le]) (fun a h=>fits_strs (L.take k ++ [(tagN l i).name]) a (by simpa using h)) (fits_strs _) (by simp; omega) (fun e=>by rfl) fun v62 H3 hS3 hof3=>?_
    have hfg62:=hS3.fg
    simp (maxSteps:=999999) (disch:=omega) only [go_sem,hfg62]
    refine ih _ (v62,H3) hlt ?_ ⟨?_,?_⟩
    ·simp only [go_sem]
    ·have f1:=Off.fr hF hof1 (fun n _=>rfl)
     have f2:=Off.fr f1 hof2 (fun n hn=>hS1.into n (Nat.lt_of_lt_of_le hn hF.next))
     exact Off.fr f2 hof3 (fun n hn=>hS2.into n (Nat.lt_of_lt_of_le hn hF.next))
    ·have e1 : (listD l d (i + 1)).map AV.str = (([] ++ (L.take k).map .str) ++ [.str (tagN l i).name]) ++ (L.drop k).map .str:=by
      rw [show listD l d (i + 1) = insS (tagN l i).name L by rw [← hL]; exact if_pos cd]
      simp only [insS,hik,List.map_append,List.nil_append,List.map_cons,List.map_nil]
     rw [e1]
     exact hS3.mono hF.next
  ·obtain rfl : k = L.length:=by omega
   simp (maxSteps:=999999) (disch:=omega) only [go_sem,hOlen,hofg,hold,leads_ptr hb,fg_ptr hb]
   generalize hkk : L.length = k at hp hlk
   have hik : insK (tagN l i).name L = k:=insK_at (by omega) hp (.inl hkk.symm)
   have hk1 : k ≤ L.length:=by omega
   refine W_slc (h0:=h) (v:=ov) (l:=L.map .str) (a:=0) (b:=k) (by simp only [go_sem]) hO (.inl ⟨rfl,rfl⟩) (.inr ⟨_,.i64,rfl,by simp only [go_sem]⟩) (by omega) (by simp; omega) (.inl rfl) fun v54 _ hfg54 hel54=>?_
   simp (maxSteps:=999999) (disch:=omega) only [go_sem]
   refine W_app (h0:=H) (v:=.nilsl) (l:=[]) (by simp only [go_sem]) (fun n=>hl n) (Nat.le_refl _) (.inl ⟨rfl,rfl⟩) (add:=((L.take k).map .str)) (by simp only [go_sem]; rw [hel54]; simp [List.map_take]) (fun _ h=>by simp at h) (fits_strs _) (by simp; omega) (fun e=>by simp [apOk,AV.isNilsl]) fun v55 H1 hS1 hof1=>?_
   have hfg55:=hS1.fg
   have hO1 : SlG tS h H1 ov (L.map .str):=hO.same hof1 (fun n _=>rfl)
   have hne1 : ∀ n,ov.into (.obj n) = true → v55.into (.obj n) = false:=fun n hn=>by
    refine hS1.into n ?_
    rcases hO with ⟨rfl,_⟩ | ⟨q,rfl,_,hq2,_⟩
    ·simp [AV.into] at hn
    ·simp [AV.into] at hn; omega
   simp (maxSteps:=999999) (disch:=omega) only [go_sem,hfg54,hfg55,hofg,leads_ptr hb,fg_ptr hb]
   refine W_app (h0:=H) (v:=v55) (l:=[] ++ (L.take k).map .str) (by simp only [go_sem]) (fun n=>hl n) hof1.next hS1 (add:=[.str (tagN l i).name]) (by simp only [go_sem]) (fun a h=>by rw [List.nil_append] at h; exact fits_strs _ a h) (fun a h=>by simp at h; subst h; rfl) (by simp; omega) (fun e=>?_) fun v58 H2 hS2 hof2=>?_
   ·simp only [List.all_cons,List.all_nil,Bool.and_true,apOk,go_sem]
    rcases hO1 with ⟨rfl,e0⟩ | ⟨q,rfl,_,_,_,_⟩
    ·have : L = []:=by simpa using e0
     have hk0 : k = 0:=by rw [this] at hk1; simpa using hk1
     rw [hk0] at hS1
     rcases hS1 with ⟨rfl,_⟩ | ⟨q,rfl,_,_,_,hne⟩
     ·rfl
     ·simp at hne
    ·rcases hS1 with ⟨rfl,_⟩ | ⟨q',rfl,_,_,_,_⟩
     ·rfl
     ·have:=hne1 q (by simp [AV.into])
      simp [AV.into] at this
      simp [AV.apart]
      exact fun e=>this e.symm
   have hfg58:=hS2.fg
   have hO2 : SlG tS h H2 ov (L.map .str):=hO1.same hof2 hne1
   simp (maxSteps:=999999) (disch:=omega) only [go_sem,hfg54,hfg55,hfg58,hofg,leads_ptr hb,fg_ptr hb]
   refine W_slc (h0:=h) (v:=ov) (l:=L.map .str) (a:=k) (b:=L.length) (by simp only [go_sem]) hO2 (.inr ⟨_,.i64,rfl,by simp only [go_sem]⟩) (.inl ⟨rfl,by simp⟩) (by omega) (by simp) (.inr ⟨5,rfl,by omega,by simp only [go_sem]⟩) fun v61 _ hfg61 hel61=>?_
   refine W_app (h0:=H) (v:=v58) (l:=([] ++ (L.take k).map .str) ++ [.str (tagN l i).name]) (by simp only [go_sem]) (fun n=>hl n) (Nat.le_trans hof1.next hof2.next) hS2 (add:=(L.drop k).map .str) (by simp only [go_sem]; rw [hel61]; simp [List.map_drop,List.take_of_length_le]) (fun a h=>fits_strs (L.take k ++ [(tagN l i).name]) a (by simpa using h)) (fits_strs _) (by simp; omega) (fun e=>by rfl) fun v62 H3 hS3 hof3=>?_
   have hfg62:=hS3.fg
   simp (maxSteps:=999999) (disch:=omega) only [go_sem,hfg62]
   refine ih _ (v62,H3) hlt ?_ ⟨?_,?_⟩
   ·simp only [go_sem]
   ·have f1:=Off.fr hF hof1 (fun n _=>rfl)
    have f2:=Off.fr f1 hof2 (fun n hn=>hS1.into n (Nat.lt_of_lt_of_le hn hF.next))
    exact Off.fr f2 hof3 (fun n hn=>hS2.into n (Nat.lt_of_lt_of_le hn hF.next))
   ·have e1 : (listD l d (i + 1)).map AV.str = (([] ++ (L.take k).map .str) ++ [.str (tagN l i).name]) ++ (L.drop k).map .str:=by
     rw [show listD l d (i + 1) = insS (tagN l i).name L by rw [← hL]; exact if_pos cd]
     simp only [insS,hik,List.map_append,List.nil_append,List.map_cons,List.map_nil]
    rw [e1]
    exact hS3.mono hF.next
 ·obtain rfl : i = l.length:=by omega
  simp (maxSteps:=999999) (disch:=omega) only [go_sem,hlen,hfit,rd_ext hb,hmH,fg_ptr hb,leads_ptr hb,apart_ptr hb,hO.fg,hO.safe]
  exact ⟨hF,by rw [← listD_sort]; exact hO.slf⟩
end
section
variable {T : Nat → Option MFun} {cx : Cx} {k : List Item} {kill : List Nat} {r : List MOp} {sl : Slots} {own : Own} {h h0 : HP} {Q : St → Prop} {t : Ty}
theorem fill1G {v : AV} (hf : t.fits v = true) : fill (.arr 1 t) (Ty.arr 1 t).zero [(0,v)] = some (.ofList [v]):=by
 simp only [fill,Ty.part,Nat.lt_one_iff,if_true,hf,Ty.zero,AV.put,Nat.zero_lt_one,dite_true,put_nil,Option.map_some,AV.ofList]
 congr 2
 funext j
 match j with
 | ⟨0,_⟩=>rfl
theorem W_bsliceG {d : Nat} {x : Opd} {v : AV} (hx : St.opd ⟨sl,own,h⟩ x = v) (hf : t.fits v = true) (hq : W T cx (.ops r kill :: k) ⟨(Slots.forget sl (.stk cx.lvl d)).set d (.sl (.stk cx.lvl d) 0 1),own.set d ⟨.arr 1 t,.ofList [v]⟩,h⟩ Q) :
  W T cx (.ops (⟨some d,.bslice false t 1 [(0,x)],none⟩ :: r) kill :: k) ⟨sl,own,h⟩ Q:=by
 rw [W_op rfl,evOp]
 simp only [evK,List.map_cons,List.map_nil,hx,fill1G hf,Option.map_some,applyEff]
 exact hq
theorem elems_one {L : Id → Option Blk} {j : Id} {v : AV} (hl : L j = some ⟨.arr 1 t,.ofList [v]⟩) : elems L t (.sl j 0 1) = some [v]:=by
 simp [elems,hl,toList_ofList]
end
def encRI (a b : AV) : AV:=.cons a (.cons b .unit)
@[go_sem] theorem at_RI0 (a b : AV) : (encRI a b).at [0] = some a:=by simp [encRI,AV.at]
@[go_sem] theorem at_RI1 (a b : AV) : (encRI a b).at [1] = some b:=by simp [encRI,AV.at]
@[go_sem] theorem put_RI0 (a b x : AV) : (encRI a b).put [0] x = some (encRI x b):=by simp [encRI,AV.put]
@[go_sem] theorem put_RI1 (a b x : AV) : (encRI a b).put [1] x = some (encRI a x):=by simp [encRI,AV.put]
@[go_sem] theorem zero_RI : tRIdeal.zero = encRI .nilsl .nilsl:=rfl
@[go_sem] theorem fits_RI0 : (tRIdeal.fits (encRI .nilsl .nilsl) = true) = True:=eq_true rfl
@[go_sem] theorem safe_nil : (AV.nilsl.safe = true) = True:=eq_true rfl
@[go_sem] theorem fill_tag (d : Int) (s : Str) (n : Nat) : fill tTag tTag.zero [(0,.int .i64 d),(1,.str s),(2,.int .i64 (n : Int))] = some (Tag.enc ⟨d,s,n⟩):=rfl
@[go_sem] theorem fill_tagZ (d : Int) (s : Str) : fill tTag tTag.zero [(0,.int .i64 d),(1,.str s),(2,.int .i64 0)] = some (Tag.enc ⟨d,s,0⟩):=rfl
@[go_sem] theorem fill_RI : fill tRIdeal tRIdeal.zero [] = some (encRI .nilsl .nilsl):=rfl
@[go_sem] theorem fill_lostB (a b c : Int) : fill tLost (encLost 0 0 0) [(0,.int .i64 a),(1,.int .i64 b),(2,.int .i64 c)] = some (encLost a b c):=rfl
theorem SlX_ofq {h h1 h2 : HP} {v : AV} {l : List Str} {k k' : Nat} {o : Own} (a : SlF h h1 v l) (b : Fr h1 h2 []) : SlX (h2.push k' o) k v l:=by
 rcases a with a | ⟨q,rfl,h1,h2,h3⟩
 ·exact .inl a
 ·exact .inr ⟨.obj q,rfl,below_obj _ _,b.look h2 (by simp) h3⟩
theorem bed_life {h : HP} {p f c e : Nat} {L : Lf} {B : Bd} (hA : LifeAt h p f c L) (hB : h.look (.obj e) = some ⟨tBed,B.enc⟩) : ¬e = p ∧ ¬e = f ∧ ¬e = c:=by
 refine ⟨?_,?_,?_⟩
 ·rintro rfl
  have:=hA.li
  rw [hB] at this
  simp at this
  exact absurd this.1 (by decide)
 ·rintro rfl
  have:=hA.fi
  rw [hB] at this
  simp at this
  exact absurd this.1 (by decide)
 ·rintro rfl
  have:=hA.ca
  rw [hB] at this
  simp at this
  exact absurd this.1 (by decide)
theorem LifeN.ob {h0 h : HP} {p e : Nat} {L : Lf} {t : Ty} {v : AV} {B : Bd} (a : LifeN h0 h p L) (hB : h.look (.obj e) = some ⟨tBed,B.enc⟩) (he : h0.next ≤ e) : LifeN h0 (h.ob e t v) p L:=by
 obtain ⟨f,c,hA,hb,hF⟩:=a
 obtain ⟨n1,n2,n3⟩:=bed_life hA hB
 have q1 : ¬p = e:=fun h=>n1 h.symm
 have q2 : ¬f = e:=fun h=>n2 h.symm
 have q3 : ¬c = e:=fun h=>n3 h.symm
 exact ⟨f,c,⟨by rw [look_ob_ne q1]; exact hA.li,by rw [look_ob_ne q2]; exact hA.fi,by rw [look_ob_ne q3]; exact hA.ca,hA.pf,hA.fc,hA.pc,hA.pn,hA.fn,hA.cn⟩,hb,hF.since (S:=[e]) (Fr.ob (by simp)) (by simpa using he)⟩
def RFile.setH (f : RFile) (p : Nat) (b : Bool) : RFile:=if p = 0 then { f with h0:=b } else { f with h1:=b }
def RFile.setT (f : RFile) (p : Nat) (t : Str) : RFile:=if p = 0 then { f with t0:=t } else { f with t1:=t }
def RFile.setP (f : RFile) (p : Nat) (b : Bool) (t : Str) : RFile:=(f.setH p b).setT p t
theorem rfile_put0 (f : RFile) {p : Nat} (hp : p < 2) (b : Bool) : f.enc.put [0,p] (.bool b) = some (f.setH p b).enc:=by
 match p,hp with
 | 0,_ =>
  simp only [RFile.enc,AV.put,dite_true,show 0 < 2 by omega,Option.map_some]
  congr 2
  ·congr 1; funext j; match j with
   | ⟨0,_⟩=>rfl
   | ⟨1,_⟩=>rfl
 | 1,_ =>
  simp only [RFile.enc,AV.put,dite_true,show 1 < 2 by omega,Option.map_some]
  congr 2
  ·congr 1; funext j; match j with
   | ⟨0,_⟩=>rfl
   | ⟨1,_⟩=>rfl
theorem rfile_put1 (f : RFile) {p : Nat} (hp : p < 2) (b : Str) : f.enc.put [1,p] (.str b) = some (f.setT p b).enc:=by
 match p,hp with
 | 0,_ =>
  simp only [RFile.enc,AV.put,dite_true,show 0 < 2 by omega,Option.map_some]
  congr 3
  ·congr 1; funext j; match j with
   | ⟨0,_⟩=>rfl
   | ⟨1,_⟩=>rfl
 | 1,_ =>
  simp only [RFile.enc,AV.put,dite_true,show 1 < 2 by omega,Option.map_some]
  congr 3
  ·congr 1; funext j; match j with
   | ⟨0,_⟩=>rfl
   | ⟨1,_⟩=>rfl
theorem files_put {F : List RFile} {n : Nat} (h : n < F.length) {p : List Nat} {v : AV} {f : RFile} (hf : (filN F n).enc.put p v = some f.enc) : (AV.ofList (F.map RFile.enc)).put (n :: p) v = some (AV.ofList ((F.set n f).map RFile.enc)):=by
 have e0 : F[n].enc.put p v = some f.enc:=by rw [← hf,filN]; simp [h]
 rw [show AV.ofList (F.map RFile.enc) = .arr (F.map RFile.enc).length fun i=>(F.map RFile.enc).get i from rfl]
 simp only [AV.put,List.length_map,h,dite_true,List.get_eq_getElem,List.getElem_map,e0,Option.map_some]
 congr 1
 refine arr_ofList (by simp) fun j hj=>?_
 by_cases e : j = n
 ·subst e; simp
 ·have : ¬n = j:=fun h=>e h.symm
  simp [e,this,List.getElem_set]
theorem filN_set {F : List RFile} {n : Nat} (h : n < F.length) (f : RFile) : filN (F.set n f) n = f:=by simp [filN,h]
def rdoC (T : List Tag) (x : SStep) : Int :=
 if stepFault x ≠ 0 then stepFault x else if x.kind = 1 then (if 0 ≤ atT T x.dir x.name then 4 else 0) else if atT T x.dir x.name < 0 then 5
 else if (x.kind = 2 ∨ x.kind = 4) ∧ 0 ≤ atT T x.toDir x.to then 4 else 0
def rdoN (T : List Tag) (x : SStep) : Nat:=(tagN T (atT T x.dir x.name).toNat).file
def rdoT (T : List Tag) (F : List RFile) (x : SStep) : List Tag :=
 if rdoC T x ≠ 0 then T else if x.kind = 1 then T ++ [(⟨x.dir,x.name,F.length⟩ : Tag)]
 else if x.kind = 2 then T ++ [(⟨x.toDir,x.to,rdoN T x⟩ : Tag)]
 else if x.kind = 3 then T.take (atT T x.dir x.name).toNat ++ T.drop ((atT T x.dir x.name).toNat + 1)
 else if x.kind = 4 then (T ++ [(⟨x.toDir,x.to,rdoN T x⟩ : Tag)]).take (atT T x.dir x.name).toNat ++ (T ++ [(⟨x.toDir,x.to,rdoN T x⟩ : Tag)]).drop ((atT T x.dir x.name).toNat + 1)
 else T
def rdoF (T : List Tag) (F : List RFile) (x : SStep) : List RFile :=
 if rdoC T x ≠ 0 then F else if x.kind = 1 then F ++ [RFile.zero]
 else if x.kind = 5 then F.set (rdoN T x) ((filN F (rdoN T x)).setP x.p.toNat true x.text)
 else if x.kind = 6 then F.set (rdoN T x) ((filN F (rdoN T x)).setP x.p.toNat false ⟨#[]⟩)
 else F
structure FrI (h0 h h' : HP) (l u : Nat) : Prop where
 arg : h'.arg = h.arg
 next : h.next ≤ h'.next
 same : ∀ n,n < h0.next → h'.obj n = h.obj n
 stk : h'.stk = h.stk ∨ ∃ B,h'.stk = (h.set (.stk l u) B).stk
theorem FrI.refl (h0 h : HP) (l u : Nat) : FrI h0 h h l u:=⟨rfl,Nat.le_refl _,fun _ _=>rfl,.inl rfl⟩
theorem Own.set_setI (o : Own) (u : Nat) (a b : Blk) : (o.set u a).set u b = o.set u b:=by
 induction o with
 | nil=>simp [Own.set]
 | cons p s ih =>
  obtain ⟨t,v⟩:=p
  simp only [Own.set]
  split
  ·simp [Own.set]
  ·split
   ·simp [Own.set]
   ·rename_i h1 h2
    simp only [Own.set,h1,h2,if_false,ih]
theorem Own.get_setI (o : Own) (u : Nat) (a : Blk) : (o.set u a).get u = some a:=by
 induction o with
 | nil=>simp [Own.set,Own.get]
 | cons p s ih =>
  obtain ⟨t,v⟩:=p
  simp only [Own.set]
  split
  ·simp [Own.get]
  ·split
   ·simp [Own.get]
   ·rename_i h1 h2
    simp only [Own.get,h1,if_false,ih]
theorem stk_set_set (h : HP) (l u : Nat) (a b : Blk) : ((h.set (.stk l u) a).set (.stk l u) b) = h.set (.stk l u) b:=by
 simp only [HP.set]
 congr 1
 funext l'
 by_cases e : l' = l
 ·simp [e,Own.set_setI]
 ·simp [e]
theorem stk_look_set (h : HP) (l u : Nat) (a : Blk) : (h.set (.stk l u) a).look (.stk l u) = some a:=by
 simp [HP.set,HP.look,Own.get_setI]
theorem FrI.off {h0 h h1 h2 : HP} {l u : Nat} {v : AV} (a : FrI h0 h h1 l u) (b : Off h1 h2 v) (h0n : h0.next ≤ h1.next) (hv : ∀ n,n < h0.next → v.into (.obj n) = false) : FrI h0 h h2 l u :=
 ⟨b.arg.trans a.arg,Nat.le_trans a.next b.next,fun n hn=>(b.same n (Nat.lt_of_lt_of_le hn h0n) (hv n hn)).trans (a.same n hn),by
  rcases a.stk with e | ⟨B,e⟩
  ·exact .inl (b.stk.trans e)
  ·exact .inr ⟨B,b.stk.trans e⟩⟩
theorem FrI.set {h0 h h1 : HP} {l u : Nat} (a : FrI h0 h h1 l u) (B : Blk) : FrI h0 h (h1.set (.stk l u) B) l u :=
 ⟨a.arg,a.next,a.same,.inr ⟨B,by
  rcases a.stk with e | ⟨C,e⟩
  ·show (fun l'=>if l' = l then (h1.stk l).set u B else h1.stk l') = fun l'=>if l' = l then (h.stk l).set u B else h.stk l'
   rw [e]
  ·have e2 : (h1.set (.stk l u) B).stk = ((h.set (.stk l u) C).set (.stk l u) B).stk:=by
    show (fun l'=>if l' = l then (h1.stk l).set u B else h1.stk l') = fun l'=>if l' = l then ((h.set (.stk l u) C).stk l).set u B else (h.set (.stk l u) C).stk l'
    rw [e]
   rw [e2,stk_set_set]⟩⟩
theorem FrI.ob {h0 h h1 : HP} {l u q : Nat} {t : Ty} {v : AV} (a : FrI h0 h h1 l u) (hq : h0.next ≤ q) : FrI h0 h (h1.ob q t v) l u :=
 ⟨a.arg,a.next,fun n hn=>(obj_ob_ne (by omega)).trans (a.same n hn),a.stk⟩
theorem stV_RI0 {cx : Cx} {sl : Slots} {own : Own} {h : HP} {l u : Nat} {a b v : AV} (hb : l < cx.lvl) (hls : cx.prot.lets (.stk l u) = true) (hm : h.look (.stk l u) = some ⟨tRIdeal,encRI a b⟩) (hf : tSl.fits v = true) :
  stV cx tSl (.ptr (.stk l u) [0] tSl) v ⟨sl,own,h⟩ = some ⟨sl,own,h.set (.stk l u) ⟨tRIdeal,encRI v b⟩⟩:=by
 have e : (Id.stk l u).own cx.lvl = none:=by simp [Id.own]; omega
 have e2 : St.look cx ⟨sl,own,h⟩ (.stk l u) = some ⟨tRIdeal,encRI a b⟩:=by simp only [St.look,e]; exact hm
 simp only [stV,hf,and_self,if_true,e2,put_RI0,St.write,e,hls]
theorem stV_RI1 {cx : Cx} {sl : Slots} {own : Own} {h : HP} {l u : Nat} {a b v : AV} (hb : l < cx.lvl) (hls : cx.prot.lets (.stk l u) = true) (hm : h.look (.stk l u) = some ⟨tRIdeal,encRI a b⟩) (hf : tSl.fits v = true) :
  stV cx tSl (.ptr (.stk l u) [1] tSl) v ⟨sl,own,h⟩ = some ⟨sl,own,h.set (.stk l u) ⟨tRIdeal,encRI a v⟩⟩:=by
 have e : (Id.stk l u).own cx.lvl = none:=by simp [Id.own]; omega
 have e2 : St.look cx ⟨sl,own,h⟩ (.stk l u) = some ⟨tRIdeal,encRI a b⟩:=by simp only [St.look,e]; exact hm
 simp only [stV,hf,and_self,if_true,e2,put_RI1,St.write,e,hls]
theorem rd_RI0 (h : HP) (l u : Nat) (a b : AV) : (h.set (.stk l u) ⟨tRIdeal,encRI a b⟩).rd (.stk l u) [0] = some a:=by
 simp only [HP.rd,stk_look_set,Option.bind_some,at_RI0]
theorem rd_RI1 (h : HP) (l u : Nat) (a b : AV) : (h.set (.stk l u) ⟨tRIdeal,encRI a b⟩).rd (.stk l u) [1] = some b:=by
 simp only [HP.rd,stk_look_set,Option.bind_some,at_RI1]
theorem zero_rf : tRFile.zero = RFile.zero.enc:=by
 have e1 : (fun i : Fin 2=>AV.bool (RFile.zero.has i.val)) = fun _=>AV.bool false:=by funext i; simp [RFile.has,RFile.zero]
 have e2 : (fun i : Fin 2=>AV.str (RFile.zero.text i.val)) = fun _=>AV.str ⟨#[]⟩:=by funext i; simp [RFile.text,RFile.zero]
 unfold RFile.enc
 rw [e1,e2]; rfl
theorem SlG.apart {h0 h1 h : HP} {v w : AV} {l m : List AV} (a : SlG tTag h0 h v l) (b : SlG tRFile h1 h w m) (n : Nat) (hn : v.into (.obj n) = true) : w.into (.obj n) = false:=by
 rcases a with ⟨rfl,_⟩ | ⟨q,rfl,_,_,hq,_⟩
 ·simp [AV.into] at hn
 rcases b with ⟨rfl,_⟩ | ⟨q',rfl,_,_,hq',_⟩
 ·rfl
 have : q = n:=by simpa [AV.into] using hn
 subst this
 by_cases e : q' = q
 ·subst e
  rw [hq] at hq'
  simp [tTag,tRFile,tI,tB] at hq'
 ·simp [AV.into,e]
theorem SlG.apart' {h0 h1 h : HP} {v w : AV} {l m : List AV} (a : SlG tTag h0 h v l) (b : SlG tRFile h1 h w m) (n : Nat) (hn : w.into (.obj n) = true) : v.into (.obj n) = false:=by
 cases e : v.into (.obj n) with
 | false=>rfl
 | true=>exact absurd hn (by rw [a.apart b n e]; simp)
theorem PermIn.wide {l m : List Str} {a b a' b' : Nat} (h : PermIn l m a b) (ha : a' ≤ a) (hb : b ≤ b') : PermIn l m a' b' :=
 ⟨h.perm,fun i hi=>h.out i (by omega)⟩
theorem list_txt_ext {l m : List Str} (hl : l.length = m.length) (h : ∀ i,i < l.length → txt l i = txt m i) : l = m:=by
 refine List.ext_getElem hl fun i h1 h2=>?_
 have:=h i h1
 rwa [txt_get h1,txt_get h2] at this
theorem PermIn.mid {l m : List Str} {a b : Nat} (h : PermIn l m a b) (hab : a ≤ b) (hb : b ≤ l.length) {i : Nat} (h1 : a ≤ i) (h2 : i < b) : ∃ j,a ≤ j ∧ j < b ∧ txt m i = txt l j:=by
 have hlen:=h.len
 have split : ∀ x : List Str,x = x.take a ++ ((x.drop a).take (b - a) ++ (x.drop a).drop (b - a)):=fun x=>by
  rw [List.take_append_drop,List.take_append_drop]
 have e1 : m.take a = l.take a:=by
  refine list_txt_ext (by simp [hlen]) fun i hi=>?_
  have hi' : i < a:=by simp at hi; omega
  have:=h.out i (.inl hi')
  simp only [txt,List.getD_eq_getElem?_getD,List.getElem?_take,hi',if_true] at this ⊢
  exact this
 have e2 : (m.drop a).drop (b - a) = (l.drop a).drop (b - a):=by
  rw [List.drop_drop,List.drop_drop]
  refine list_txt_ext (by simp [hlen]) fun i hi=>?_
  have:=h.out (a + (b - a) + i) (.inr (by omega))
  simp only [txt,List.getD_eq_getElem?_getD,List.getElem?_drop] at this ⊢
  exact this
 have hp:=h.perm
 rw [split m,split l,e1,e2] at hp
 have hp2:=(List.perm_append_left_iff _).1 hp
 have hp3:=(List.perm_append_right_iff _).1 hp2
 have hm : txt m i ∈ (m.drop a).take (b - a):=by
  rw [txt_get (by omega)]
  rw [List.mem_take_iff_getElem]
  refine ⟨i - a,by simp; omega,?_⟩
  simp only [List.getElem_drop]
  congr 1; omega
 have hm2:=hp3.mem_iff.1 hm
 rw [List.mem_take_iff_getElem] at hm2
 obtain ⟨j,hj,e⟩:=hm2
 simp at hj
 refine ⟨a + j,by omega,by omega,?_⟩
 rw [← e,List.getElem_drop,txt_get (by omega)]
section
variable {cx : Cx} {h : HP} {F q n a b : Nat} {l : List Str}
theorem reverse_ok (hl : ∀ n,cx.prot.lets (.obj n) = true) (hn : l.length = n) (hb : b ≤ n) (hn2 : n ≤ 1000000) (hab : a ≤ b) (hq : h.look (.obj q) = some ⟨.arr n tS,encS l⟩) :
  Ok tblE cx Fn.slices_reverseRangeCmpFunc (St.enter [.sl (.obj q) 0 n,.int .i64 a,.int .i64 b,.func F .unit] h) fun v h'=>v = .tup .unit ∧ ∃ m,h' = h.ob q (.arr n tS) (encS m) ∧ PermIn l m a b:=by
 rw [Ok_eq]
 simp (maxSteps:=999999) (disch:=omega) only [go_sem]
 have h0 : h.ob q (.arr n tS) (encS l) = h:=ob_self hq
 refine W_forE (α:=List Str × Nat × Int) n (fun k m=>⟨[(0,.sl (.obj q) 0 n),(8,.int .i64 m.2.1),(9,.int .i64 m.2.2)],[],h.ob q (.arr n tS) (encS m.1)⟩) (fun k m=>PermIn l m.1 a b ∧ m.2.1 = a + k ∧ m.2.2 = b - 1 - k) (l,a,b - 1) (by simp only [go_sem,h0] <;> rfl) ⟨PermIn.refl _ _ _,rfl,by simp⟩ fun k m hk hp ih=>?_
 obtain ⟨m,i,j⟩:=m
 obtain ⟨hp,rfl,ej⟩:=hp
 dsimp only at hp ej ih ⊢
 have hm:=hp.len
 by_cases hlt : ((a + k : Nat) : Int) < j
 ·obtain ⟨p,rfl⟩ : ∃ p : Nat,j = p:=⟨j.toNat,by omega⟩
  simp (maxSteps:=999999) (disch:=first | omega | (simp only [List.length_set]; omega)) only [go_sem,hlt,stV_ob (hl _)]
  refine ih _ (swapL m (a + k) p,a + k + 1,(p : Int) - 1) (by omega) ?_ ⟨hp.trans (PermIn.swap (by omega) (by omega) (by omega) (by omega)),by dsimp only; omega,by dsimp only; omega⟩
  simp only [go_sem,swapL]
 ·simp (maxSteps:=999999) (disch:=first | omega | (simp only [List.length_set]; omega)) only [go_sem,hlt]
  exact ⟨m,rfl,hp⟩
end
def StkTo (h h' : HP) (x u : Nat) : Prop:=h' = h ∨ ∃ B,h' = h.set (.stk x u) B
theorem StkTo.trans {h h1 h2 : HP} {x u : Nat} (a : StkTo h h1 x u) (b : StkTo h1 h2 x u) : StkTo h h2 x u:=by
 rcases b with rfl | ⟨B,rfl⟩
 ·exact a
 ·rcases a with rfl | ⟨C,rfl⟩
  ·exact .inr ⟨B,rfl⟩
  ·exact .inr ⟨B,stk_set_set ..⟩
theorem StkTo.obj {h h' : HP} {x u : Nat} (a : StkTo h h' x u) (q : Nat) : h'.look (.obj q) = h.look (.obj q):=by
 rcases a with rfl | ⟨B,rfl⟩ <;> rfl
def SwAt (h : HP) (x u : Nat) (s : Int) : Prop:=h.look (.stk x u) = some ⟨tI,.int .i64 s⟩
theorem SwAt.push {h : HP} {x u l : Nat} {o : Own} {s : Int} (a : SwAt h x u s) (hx : x < l) : SwAt (h.push l o) x u s:=by
 unfold SwAt at a ⊢
 rw [← a]
 simp only [HP.look,HP.push]
 rw [if_neg (by omega)]
theorem SwAt.pop {h : HP} {x u l : Nat} {o : Own} {s : Int} (a : SwAt (h.push l o) x u s) (hx : x < l) : SwAt h x u s:=by
 unfold SwAt at a ⊢
 rw [← a]
 simp only [HP.look,HP.push]
 rw [if_neg (by omega)]
theorem W_callT {cx : Cx} {k : List Item} {kill : List Nat} {r : List MOp} {sl : Slots} {own : Own} {h : HP} {Q : St → Prop} {x u f : Nat} {args : List Opd} {d : Option Nat} {fn : MFun} {R : AV → Int → Prop} {prot : Bool}
  (hf : tblE f = some fn) (hp : fn.params = args.length ∧ fn.nfree = 0) (hx : x < cx.lvl)
  (hc : Ok tblE (St.callCx ⟨sl,own,h⟩ cx prot) fn (St.enter (args.map (St.opd ⟨sl,own,h⟩)) (h.push cx.lvl own)) fun v' h'=>StkTo (h.push cx.lvl own) h' x u ∧ ∃ s,SwAt h' x u s ∧ R v' s)
  (hq : ∀ v h1 s,StkTo h h1 x u → SwAt h1 x u s → R v s → W tblE cx (.ops r kill :: k) (St.setd ⟨sl,own,h1⟩ d v) Q) :
  W tblE cx (.ops (⟨d,.call prot [] f args,none⟩ :: r) kill :: k) ⟨sl,own,h⟩ Q:=by
 refine W_callr hf hp hc ?_
 rintro v h' ⟨hS,s,hs,hR⟩
 rcases hS with rfl | ⟨B,rfl⟩
 ·rw [pop_push]
  exact hq v h s (.inl rfl) (hs.pop hx) hR
 ·have e : (h.push cx.lvl own).set (.stk x u) B = (h.set (.stk x u) B).push cx.lvl own:=by
   simp only [HP.set,HP.push]
   congr 1
   funext l
   by_cases e1 : l = x
   ·subst e1; simp [show ¬l = cx.lvl by omega]
   ·simp [e1]
  have e2 : St.pop ⟨sl,own,h⟩ cx.lvl [] ((h.set (.stk x u) B).push cx.lvl own) = ⟨sl,own,h.set (.stk x u) B⟩:=by
   simp only [St.pop,HP.pop,HP.push,Own.unveil,if_true]
   congr 1
   simp only [HP.set,HP.mk.injEq,and_true]
   funext l
   by_cases e1 : l = cx.lvl
   ·subst e1; simp [show ¬cx.lvl = x by omega]
   ·simp [e1]
  rw [e,e2]
  rw [e] at hs
  exact hq v _ s (.inr ⟨B,rfl⟩) (hs.pop hx) hR
theorem W_callO {cx : Cx} {k : List Item} {kill : List Nat} {r : List MOp} {sl : Slots} {h : HP} {Q : St → Prop} {u f : Nat} {args : List Opd} {d : Option Nat} {fn : MFun} {R : AV → Int → Prop} {prot : Bool} {B0 : Blk}
  (hf : tblE f = some fn) (hp : fn.params = args.length ∧ fn.nfree = 0)
  (hc : Ok tblE (St.callCx ⟨sl,[(u,B0)],h⟩ cx prot) fn (St.enter (args.map (St.opd ⟨sl,[(u,B0)],h⟩)) (h.push cx.lvl [(u,B0)])) fun v' h'=>StkTo (h.push cx.lvl [(u,B0)]) h' cx.lvl u ∧ ∃ s,SwAt h' cx.lvl u s ∧ R v' s)
  (hq : ∀ v s,R v s → W tblE cx (.ops r kill :: k) (St.setd ⟨sl,[(u,⟨tI,.int .i64 s⟩)],h⟩ d v) Q) :
  W tblE cx (.ops (⟨d,.call prot [] f args,none⟩ :: r) kill :: k) ⟨sl,[(u,B0)],h⟩ Q:=by
 refine W_callr hf hp hc ?_
 rintro v h' ⟨hS,s,hs,hR⟩
 have e2 : St.pop ⟨sl,[(u,B0)],h⟩ cx.lvl [] h' = ⟨sl,[(u,⟨tI,.int .i64 s⟩)],h⟩:=by
  have e3 : h'.stk cx.lvl = [(u,⟨tI,.int .i64 s⟩)]:=by
   unfold SwAt at hs
   rcases hS with rfl | ⟨B,rfl⟩
   ·simp [HP.look,HP.push,Own.get] at hs
    simp [HP.push,hs]
   ·simp [HP.look,HP.push,HP.set,Own.set,Own.get] at hs
    simp [HP.push,HP.set,Own.set,hs]
  simp only [St.pop,HP.pop,Own.unveil,e3]
  congr 1
  rcases hS with rfl | ⟨B,rfl⟩
  ·cases h
   simp only [HP.push,HP.mk.injEq,and_true]
   funext l
   by_cases e1 : l = cx.lvl <;> simp [e1]
  ·cases h
   simp only [HP.push,HP.set,HP.mk.injEq,and_true]
   funext l
   by_cases e1 : l = cx.lvl <;> simp [e1]
 rw [e2]
 exact hq v s hR
theorem rd_sw {h : HP} {x u : Nat} {s : Int} (a : SwAt h x u s) : h.rd (.stk x u) [] = some (.int .i64 s):=by
 unfold SwAt at a
 simp only [HP.rd,a]; rfl
theorem stV_sw {cx : Cx} {sl : Slots} {own : Own} {h : HP} {x u : Nat} {s t : Int} (hx : x < cx.lvl) (hls : cx.prot.lets (.stk x u) = true) (hm : SwAt h x u s) :
  stV cx tI (.ptr (.stk x u) [] tI) (.int .i64 t) ⟨sl,own,h⟩ = some ⟨sl,own,h.set (.stk x u) ⟨tI,.int .i64 t⟩⟩:=by
 have e : (Id.stk x u).own cx.lvl = none:=by simp [Id.own]; omega
 have e2 : St.look cx ⟨sl,own,h⟩ (.stk x u) = some ⟨tI,.int .i64 s⟩:=by simp only [St.look,e]; exact hm
 simp only [stV,e2]
 simp [AV.put,St.write,e,hls,Ty.fits,tI,LK.fits]
 rfl
def encP (i j : Int) : AV:=.tup (.cons (.int .i64 i) (.cons (.int .i64 j) .unit))
section
variable {cx : Cx} {h : HP} {F q n a b x u : Nat} {l : List Str} {s : Int}
theorem order2_ok {i j : Nat} (hls : cx.prot.lets (.stk x u) = true) (hx : x < cx.lvl) (hF : IsCmp F) (hn : l.length = n) (hn2 : n ≤ 1000000) (hi : i < n) (hj : j < n) (hq : h.look (.obj q) = some ⟨.arr n tS,encS l⟩) (hs : SwAt h x u s) (s0 : 0 ≤ s ∧ s ≤ 1000) :
  Ok tblE cx Fn.slices_order2CmpFunc (St.enter [.sl (.obj q) 0 n,.int .i64 i,.int .i64 j,.ptr (.stk x u) [] tI,.func F .unit] h) fun v h' =>
   StkTo h h' x u ∧ ∃ s',SwAt h' x u s' ∧ (v = encP i j ∨ v = encP j i) ∧ s ≤ s' ∧ s' ≤ s + 1:=by
 obtain ⟨fn,hf1,hf2,hf3⟩:=hF
 have hb : (Id.stk x u).below cx.lvl:=hx
 rw [Ok_eq]
 simp (maxSteps:=999999) (disch:=omega) only [go_sem,hq]
 refine W_callvp (v:=.int .i64 (cmpS (txt l j) (txt l i))) (by simp only [go_sem] <;> rfl) hf1 hf2 (by simp only [go_sem]; exact hf3 _ _ _ _) ?_
 simp (maxSteps:=999999) (disch:=omega) only [go_sem]
 by_cases c : cmpS (txt l j) (txt l i) < 0
 ·simp (maxSteps:=999999) (disch:=omega) only [go_sem,c,rd_ext hb,rd_sw hs,fg_ptr hb,leads_ptr hb,apart_ptr hb,stV_sw hx hls hs]
  exact ⟨.inr ⟨_,rfl⟩,s + 1,stk_look_set ..,.inr rfl,by omega,by omega⟩
 ·simp (maxSteps:=999999) (disch:=omega) only [go_sem,c]
  exact ⟨.inl rfl,s,hs,.inl rfl,by omega,by omega⟩
theorem extP0 (i j : Int) : extV (encP i j) 0 = some (.int .i64 i):=rfl
theorem extP1 (i j : Int) : extV (encP i j) 1 = some (.int .i64 j):=rfl
theorem median_ok {i j k : Nat} (hls : cx.prot.lets (.stk x u) = true) (hx : x < cx.lvl) (hF : IsCmp F) (hn : l.length = n) (hn2 : n ≤ 1000000) (hi : i < n) (hj : j < n) (hk : k < n) (hq : h.look (.obj q) = some ⟨.arr n tS,encS l⟩) (hs : SwAt h x u s) (s0 : 0 ≤ s ∧ s ≤ 100) :
  Ok tblE cx Fn.slices_medianCmpFunc (St.enter [.sl (.obj q) 0 n,.int .i64 i,.int .i64 j,.int .i64 k,.ptr (.stk x u) [] tI,.func F .unit] h) fun v h' =>
   StkTo h h' x u ∧ ∃ s',SwAt h' x u s' ∧ (∃ r : Nat,v = .int .i64 r ∧ (r = i ∨ r = j ∨ r = k)) ∧ s ≤ s' ∧ s' ≤ s + 3:=by
 rw [Ok_eq]
 simp (maxSteps:=999999) (disch:=omega) only [go_sem]
 refine W_callT (x:=x) (u:=u) (R:=fun v s'=>(v = encP i j ∨ v = encP j i) ∧ s ≤ s' ∧ s' ≤ s + 1) rfl ⟨rfl,rfl⟩ hx (by simp only [go_sem]; exact order2_ok hls (Nat.lt_succ_of_lt hx) hF hn hn2 hi hj hq (hs.push hx) (by omega)) ?_
 rintro v h1 s1 t1 w1 ⟨hv,a1,a2⟩
 have hq1 : h1.look (.obj q) = some ⟨.arr n tS,encS l⟩:=by rw [t1.obj]; exact hq
 obtain ⟨p1,p2,rfl,hp⟩ : ∃ p1 p2 : Nat,v = encP p1 p2 ∧ (p1 = i ∧ p2 = j ∨ p1 = j ∧ p2 = i):=by
  rcases hv with e | e
  ·exact ⟨i,j,e,.inl ⟨rfl,rfl⟩⟩
  ·exact ⟨j,i,e,.inr ⟨rfl,rfl⟩⟩
 simp (maxSteps:=999999) (disch:=omega) only [go_sem,extP0,extP1]
 refine W_callT (x:=x) (u:=u) (R:=fun v s'=>(v = encP p2 k ∨ v = encP k p2) ∧ s1 ≤ s' ∧ s' ≤ s1 + 1) rfl ⟨rfl,rfl⟩ hx (by simp only [go_sem]; exact order2_ok hls (Nat.lt_succ_of_lt hx) hF hn hn2 (by omega) hk hq1 (w1.push hx) (by omega)) ?_
 rintro v h2 s2 t2 w2 ⟨hv,b1,b2⟩
 have hq2 : h2.look (.obj q) = some ⟨.arr n tS,encS l⟩:=by rw [t2.obj]; exact hq1
 obtain ⟨p3,p4,rfl,hp3⟩ : ∃ p3 p4 : Nat,v = encP p3 p4 ∧ (p3 = p2 ∧ p4 = k ∨ p3 = k ∧ p4 = p2):=by
  rcases hv with e | e
  ·exact ⟨p2,k,e,.inl ⟨rfl,rfl⟩⟩
  ·exact ⟨k,p2,e,.inr ⟨rfl,rfl⟩⟩
 simp (maxSteps:=999999) (disch:=omega) only [go_sem,extP0,extP1]
 refine W_callT (x:=x) (u:=u) (R:=fun v s'=>(v = encP p1 p3 ∨ v = encP p3 p1) ∧ s2 ≤ s' ∧ s' ≤ s2 + 1) rfl ⟨rfl,rfl⟩ hx (by simp only [go_sem]; exact order2_ok hls (Nat.lt_succ_of_lt hx) hF hn hn2 (by omega) (by omega) hq2 (w2.push hx) (by omega)) ?_
 rintro v h3 s3 t3 w3 ⟨hv,c1,c2⟩
 obtain ⟨p5,p6,rfl,hp5⟩ : ∃ p5 p6 : Nat,v = encP p5 p6 ∧ (p5 = p1 ∧ p6 = p3 ∨ p5 = p3 ∧ p6 = p1):=by
  rcases hv with e | e
  ·exact ⟨p1,p3,e,.inl ⟨rfl,rfl⟩⟩
  ·exact ⟨p3,p1,e,.inr ⟨rfl,rfl⟩⟩
 simp (maxSteps:=999999) (disch:=omega) only [go_sem,extP0,extP1]
 exact ⟨(t1.trans t2).trans t3,s3,w3,⟨p6,rfl,by omega⟩,by omega,by omega⟩
theorem medAdj_ok {i : Nat} (hls : cx.prot.lets (.stk x u) = true) (hx : x < cx.lvl) (hF : IsCmp F) (hn : l.length = n) (hn2 : n ≤ 1000000) (hi0 : 0 < i) (hi : i + 1 < n) (hq : h.look (.obj q) = some ⟨.arr n tS,encS l⟩) (hs : SwAt h x u s) (s0 : 0 ≤ s ∧ s ≤ 100) :
  Ok tblE cx Fn.slices_medianAdjacentCmpFunc (St.enter [.sl (.obj q) 0 n,.int .i64 i,.ptr (.stk x u) [] tI,.func F .unit] h) fun v h' =>
   StkTo h h' x u ∧ ∃ s',SwAt h' x u s' ∧ (∃ r : Nat,v = .int .i64 r ∧ i - 1 ≤ r ∧ r ≤ i + 1) ∧ s ≤ s' ∧ s' ≤ s + 3:=by
 obtain ⟨p,rfl⟩ : ∃ p,i = p + 1:=⟨i - 1,by omega⟩
 have e1 : ((p : Int) + 1 - 1) = p:=by omega
 have e2 : ((p : Int) + 1 + 1) = ((p + 2 : Nat) : Int):=by omega
 have e3 : ((p : Int) + 1) = ((p + 1 : Nat) : Int):=by omega
 rw [Ok_eq]
 simp (maxSteps:=999999) (disch:=omega) only [go_sem,e1,e2]
 refine W_callT (x:=x) (u:=u) (R:=fun v s'=>(∃ r : Nat,v = .int .i64 r ∧ (r = p ∨ r = p + 1 ∨ r = p + 2)) ∧ s ≤ s' ∧ s' ≤ s + 3) rfl ⟨rfl,rfl⟩ hx (by
  simp only [go_sem]
  rw [show ((p : Int) + 2) = ((p + 2 : Nat) : Int) from rfl,e3]
  exact median_ok hls (Nat.lt_succ_of_lt hx) hF hn hn2 (by omega) (by omega) (by omega) hq (hs.push hx) s0) ?_
 rintro v h1 s1 t1 w1 ⟨⟨r,rfl,hr⟩,a1,a2⟩
 simp (maxSteps:=999999) (disch:=omega) only [go_sem]
 exact ⟨t1,s1,w1,⟨r,rfl,by omega,by omega⟩,a1,a2⟩
theorem pivot_ok (hls : ∀ u,cx.prot.lets (.stk cx.lvl u) = true) (hF : IsCmp F) (hn : l.length = n) (hn2 : n ≤ 1000000) (hb : b ≤ n) (hab : a + 12 < b) (hq : h.look (.obj q) = some ⟨.arr n tS,encS l⟩) :
  Ok tblE cx Fn.slices_choosePivotCmpFunc (St.enter [.sl (.obj q) 0 n,.int .i64 a,.int .i64 b,.func F .unit] h) fun v h' =>
   h' = h ∧ ∃ (p : Nat) (t : Int),v = encP p t ∧ a ≤ p ∧ p < b ∧ (t = 0 ∨ t = 1 ∨ t = 2):=by
 obtain ⟨L,hL⟩ : ∃ L : Nat,(b : Int) - a = L:=⟨b - a,by omega⟩
 obtain ⟨d,hd⟩ : ∃ d : Nat,L / 4 = d:=⟨_,rfl⟩
 have hquo : evInt .quo .i64 (L : Int) 4 = some (.int .i64 (d : Int)):=by
  have e : Int.tdiv (L : Int) 4 = d:=by rw [← hd]; rfl
  simp only [evInt]
  rw [if_neg (by omega),e,wrap64 (by omega) (by omega)]
 have e1 : (d : Int) * 1 = d:=by omega
 have e2 : (d : Int) * 2 = ((2 * d : Nat) : Int):=by omega
 have e3 : (d : Int) * 3 = ((3 * d : Nat) : Int):=by omega
 rw [Ok_eq]
 simp (maxSteps:=999999) (disch:=omega) only [go_sem,hL,hquo,e1,e2,e3]
 by_cases c50 : 50 ≤ L
 ·simp (maxSteps:=999999) (disch:=omega) only [go_sem,c50]
  refine W_callO (R:=fun v s'=>(∃ r : Nat,v = .int .i64 r ∧ a + d - 1 ≤ r ∧ r ≤ a + d + 1) ∧ 0 ≤ s' ∧ s' ≤ 0 + 3) rfl ⟨rfl,rfl⟩ (by
   simp only [go_sem]
   rw [show (a : Int) + d = ((a + d : Nat) : Int) from by omega]
   exact medAdj_ok (by exact hls 11) (Nat.lt_succ_self _) hF hn hn2 (by omega) (by omega) hq (by simp [SwAt,HP.look,HP.push,Own.get]) (by omega)) ?_
  rintro _ s1 ⟨⟨rs1,rfl,ras1,rbs1⟩,as1,bs1⟩
  simp (maxSteps:=999999) (disch:=omega) only [go_sem]
  refine W_callO (R:=fun v s'=>(∃ r : Nat,v = .int .i64 r ∧ a + 2 * d - 1 ≤ r ∧ r ≤ a + 2 * d + 1) ∧ s1 ≤ s' ∧ s' ≤ s1 + 3) rfl ⟨rfl,rfl⟩ (by
   simp only [go_sem]
   rw [show (a : Int) + ((2 * d : Nat) : Int) = ((a + 2 * d : Nat) : Int) from by omega]
   exact medAdj_ok (by exact hls 11) (Nat.lt_succ_self _) hF hn hn2 (by omega) (by omega) hq (by simp [SwAt,HP.look,HP.push,Own.get]) (by omega)) ?_
  rintro _ s2 ⟨⟨rs2,rfl,ras2,rbs2⟩,as2,bs2⟩
  simp (maxSteps:=999999) (disch:=omega) only [go_sem]
  refine W_callO (R:=fun v s'=>(∃ r : Nat,v = .int .i64 r ∧ a + 3 * d - 1 ≤ r ∧ r ≤ a + 3 * d + 1) ∧ s2 ≤ s' ∧ s' ≤ s2 + 3) rfl ⟨rfl,rfl⟩ (by
   simp only [go_sem]
   rw [show (a : Int) + ((3 * d : Nat) : Int) = ((a + 3 * d : Nat) : Int) from by omega]
   exact medAdj_ok (by exact hls 11) (Nat.lt_succ_self _) hF hn hn2 (by omega) (by omega) hq (by simp [SwAt,HP.look,HP.push,Own.get]) (by omega)) ?_
  rintro _ s3 ⟨⟨rs3,rfl,ras3,rbs3⟩,as3,bs3⟩
  simp (maxSteps:=999999) (disch:=omega) only [go_sem]
  refine W_callO (R:=fun v s'=>(∃ r : Nat,v = .int .i64 r ∧ (r = rs1 ∨ r = rs2 ∨ r = rs3)) ∧ s3 ≤ s' ∧ s' ≤ s3 + 3) rfl ⟨rfl,rfl⟩ (by
   simp only [go_sem]
   exact median_ok (by exact hls 11) (Nat.lt_succ_self _) hF hn hn2 (by omega) (by omega) (by omega) hq (by simp [SwAt,HP.look,HP.push,Own.get]) (by omega)) ?_
  rintro _ sm ⟨⟨rm,rfl,rh⟩,am,bm⟩
  simp (maxSteps:=999999) (disch:=omega) only [go_sem]
  have hra : a ≤ rm:=by omega
  have hrb : rm < b:=by omega
  by_cases z0 : sm = 0
  ·simp (maxSteps:=999999) (disch:=omega) only [go_sem,z0]
   exact ⟨rm,_,rfl,hra,hrb,by omega⟩
  by_cases z1 : sm = 12
  ·simp (maxSteps:=999999) (disch:=omega) only [go_sem,z0,z1]
   exact ⟨rm,_,rfl,hra,hrb,by omega⟩
  simp (maxSteps:=999999) (disch:=omega) only [go_sem,z0,z1]
  exact ⟨rm,_,rfl,hra,hrb,by omega⟩
 ·simp (maxSteps:=999999) (disch:=omega) only [go_sem,c50]
  refine W_callO (R:=fun v s'=>(∃ r : Nat,v = .int .i64 r ∧ (r = a + d ∨ r = a + 2 * d ∨ r = a + 3 * d)) ∧ 0 ≤ s' ∧ s' ≤ 0 + 3) rfl ⟨rfl,rfl⟩ (by
   simp only [go_sem]
   rw [show (a : Int) + d = ((a + d : Nat) : Int) from by omega]
   rw [show (a : Int) + ((2 * d : Nat) : Int) = ((a + 2 * d : Nat) : Int) from by omega]
   rw [show (a : Int) + ((3 * d : Nat) : Int) = ((a + 3 * d : Nat) : Int) from by omega]
   exact median_ok (by exact hls 11) (Nat.lt_succ_self _) hF hn hn2 (by omega) (by omega) (by omega) hq (by simp [SwAt,HP.look,HP.push,Own.get]) (by omega)) ?_
  rintro _ sm ⟨⟨rm,rfl,rh⟩,am,bm⟩
  simp (maxSteps:=999999) (disch:=omega) only [go_sem]
  have hra : a ≤ rm:=by omega
  have hrb : rm < b:=by omega
  by_cases z0 : sm = 0
  ·simp (maxSteps:=999999) (disch:=omega) only [go_sem,z0]
   exact ⟨rm,_,rfl,hra,hrb,by omega⟩
  by_cases z1 : sm = 12
  ·simp (maxSteps:=999999) (disch:=omega) only [go_sem,z0,z1]
   exact ⟨rm,_,rfl,hra,hrb,by omega⟩
  simp (maxSteps:=999999) (disch:=omega) only [go_sem,z0,z1]
  exact ⟨rm,_,rfl,hra,hrb,by omega⟩
end
theorem W_whileE {T : Nat → Option MFun} {cx : Cx} {α : Type} {keep ko : List Nat} {b : MC} {id : Nat} {k : List Item} {s : St} {Q : St → Prop} (N : Nat) (S : α → St) (P : Nat → α → Prop) (SE : α → St) (PE : α → Prop) (a0 : α) (h0 : s.keep keep ko = S a0) (p0 : P 0 a0)
  (step : ∀ (k : List Item) (Q : St → Prop),(∀ a,PE a → W T cx k (SE a) Q) → ∀ j a,j ≤ N → P j a → (∀ s' a',j < N → s'.keep keep ko = S a' → P (j + 1) a' → W T cx (.inLoop keep ko b :: .inBlock id :: k) s' Q) → W T cx (.code b :: .inLoop keep ko b :: .inBlock id :: k) (S a) Q)
  (hx : ∀ a,PE a → W T cx k (SE a) Q) : W T cx (.code (.loop keep ko b) :: .inBlock id :: k) s Q :=
 W_forE N (fun _ a=>S a) P a0 h0 p0 fun j a hj hp ih=>step k Q hx j a hj hp ih
structure PInv (f : Str → Bool) (l1 m : List Str) (a b i : Nat) (j : Int) : Prop where
 hp : PermIn l1 m (a + 1) b
 hi : a + 1 ≤ i
 hj : (i : Int) ≤ j + 1
 jb : j < b
 lo : ∀ x,a + 1 ≤ x → x < i → f (txt m x) = true
 up' : ∀ x : Nat,j < x → x < b → f (txt m x) = false
section
variable {f : Str → Bool} {l1 m : List Str} {a b i : Nat} {j : Int}
theorem PInv.up (h : PInv f l1 m a b i j) (hij : (i : Int) ≤ j) (hf : f (txt m i) = true) : PInv f l1 m a b (i + 1) j :=
 ⟨h.hp,by have:=h.hi; omega,by omega,h.jb,fun x h1 h2=>by
  by_cases e : x = i
  ·subst e; exact hf
  ·exact h.lo x h1 (by omega),h.up'⟩
theorem PInv.down {jn : Nat} (h : PInv f l1 m a b i jn) (hij : (i : Int) ≤ jn) (hf : f (txt m jn) = false) : PInv f l1 m a b i ((jn : Int) - 1) :=
 ⟨h.hp,h.hi,by omega,by have:=h.jb; omega,h.lo,fun x h1 h2=>by
  by_cases e : x = jn
  ·subst e; exact hf
  ·exact h.up' x (by omega) h2⟩
theorem PInv.swap {jn : Nat} (h : PInv f l1 m a b i jn) (hb : b ≤ l1.length) (hij : i < jn) (hf : f (txt m i) = false) (hg : f (txt m jn) = true) : PInv f l1 (swapL m i jn) a b (i + 1) ((jn : Int) - 1):=by
 have h1:=h.hi
 have h2:=h.jb
 have hm:=h.hp.len
 have ts:=txt_swap (l:=m) (i:=i) (j:=jn) (by omega) (by omega)
 refine ⟨h.hp.trans (PermIn.swap (by omega) (by omega) (by omega) (by omega)),by omega,by omega,by omega,fun x h3 h4=>?_,fun x h3 h4=>?_⟩
 ·rw [ts]
  by_cases e : x = i
  ·rw [if_neg (by omega),if_pos e]; exact hg
  ·rw [if_neg (by omega),if_neg e]; exact h.lo x h3 (by omega)
 ·rw [ts]
  by_cases e : x = jn
  ·rw [if_pos e]; exact hf
  ·rw [if_neg e,if_neg (by omega)]; exact h.up' x (by omega) h4
theorem PInv.start {l1 : List Str} (hab : a < b) : PInv f l1 l1 a b (a + 1) ((b : Int) - 1) :=
 ⟨PermIn.refl _ _ _,by omega,by omega,by omega,fun x h1 h2=>by omega,fun x h1 h2=>by omega⟩
theorem PInv.piv (h : PInv f l1 m a b i j) : txt m a = txt l1 a:=h.hp.out a (.inl (by omega))
end
section
variable {cx : Cx} {h : HP} {F q n a b p : Nat} {l : List Str}
structure Parted (l m : List Str) (a b c : Nat) : Prop where
 hp : PermIn l m a b
 ca : a ≤ c
 cb : c < b
 lo : ∀ x,a ≤ x → x < c → sLt (txt m x) (txt m c) = true
 up : ∀ x,c < x → x < b → sLt (txt m x) (txt m c) = false
theorem PInv.done {l m : List Str} {a b c p : Nat} (hn : b ≤ l.length) (ha : a ≤ p) (hp : p < b) (h : PInv (fun x=>sLt x (txt (swapL l a p) a)) (swapL l a p) m a b (c + 1) c) : Parted l (swapL m c a) a b c:=by
 have h1:=h.hi
 have h2:=h.jb
 have hm:=h.hp.len
 rw [swapL_len] at hm
 have hPa:=h.piv
 have ts:=txt_swap (l:=m) (i:=c) (j:=a) (by omega) (by omega)
 have tc : txt (swapL m c a) c = txt m a:=by
  rw [ts]
  by_cases e : c = a
  ·subst e; rw [if_pos rfl]
  ·rw [if_neg e,if_pos rfl]
 refine ⟨((PermIn.swap (by omega) (by omega) (by omega) (by omega)).trans (h.hp.wide (by omega) (Nat.le_refl _))).trans (PermIn.swap (by omega) (by omega) (by omega) (by omega)),by omega,by omega,fun x h3 h4=>?_,fun x h3 h4=>?_⟩
 ·rw [tc,hPa,ts]
  by_cases e : x = a
  ·rw [if_pos e]; exact h.lo c (by omega) (by omega)
  ·rw [if_neg e,if_neg (by omega)]; exact h.lo x (by omega) (by omega)
 ·rw [tc,hPa,ts,if_neg (by omega),if_neg (by omega)]
  exact h.up' x (by omega) h4
theorem partition_ok (hl : ∀ n,cx.prot.lets (.obj n) = true) (hF : IsCmp F) (hn : l.length = n) (hn2 : n ≤ 1000000) (hb : b ≤ n) (hap : a ≤ p) (hpb : p < b) (hq : h.look (.obj q) = some ⟨.arr n tS,encS l⟩) :
  Ok tblE cx Fn.slices_partitionCmpFunc (St.enter [.sl (.obj q) 0 n,.int .i64 a,.int .i64 b,.int .i64 p,.func F .unit] h) fun v h' =>
   ∃ (c : Nat) (t : Bool) (m : List Str),v = .tup (.cons (.int .i64 c) (.cons (.bool t) .unit)) ∧ h' = h.ob q (.arr n tS) (encS m) ∧ Parted l m a b c:=by
 obtain ⟨fn,hf1,hf2,hf3⟩:=hF
 rw [Ok_eq]
 simp (maxSteps:=999999) (disch:=first | omega | (simp only [List.length_set]; omega)) only [go_sem,stV_ob (hl _),hq]
 have e1 : (encS l).put = (encS l).put:=rfl
 obtain ⟨l1,hl1⟩ : ∃ x,swapL l a p = x:=⟨_,rfl⟩
 obtain ⟨f,hf⟩ : ∃ f : Str → Bool,f = fun x=>sLt x (txt l1 a):=⟨_,rfl⟩
 have hl1n : l1.length = n:=by rw [← hl1,swapL_len]; exact hn
 have hP : PInv f l1 l1 a b (a + 1) ((b : Int) - 1):=PInv.start (by omega)
 rw [show (l.set a (txt l p)).set p (txt l a) = l1 from hl1]
 obtain ⟨j0,hj0⟩ : ∃ j0 : Int,(b : Int) - 1 = j0:=⟨_,rfl⟩
 obtain ⟨i0,hi0⟩ : ∃ i0 : Nat,a + 1 = i0:=⟨_,rfl⟩
 have hi0' : (a : Int) + 1 = i0:=by omega
 rw [hj0,hi0']
 rw [hj0,hi0] at hP
 have hPa : txt l1 a = txt l1 a:=rfl
 have hbl : b ≤ l1.length:=by omega
 refine W_whileE (α:=Nat) (n + 1) (fun i : Nat=>⟨[(0,.sl (.obj q) 0 n),(1,.int .i64 a),(4,.func F .unit),(12,.int .i64 i),(13,.int .i64 j0)],[],h.ob q (.arr n tS) (encS l1)⟩) (fun k i=>PInv f l1 l1 a b i j0 ∧ i0 + k ≤ i) (fun i : Nat=>⟨[(0,.sl (.obj q) 0 n),(1,.int .i64 a),(4,.func F .unit),(12,.int .i64 i),(13,.int .i64 j0),(47,.bool false)],[],h.ob q (.arr n tS) (encS l1)⟩) (fun i=>PInv f l1 l1 a b i j0 ∧ i0 ≤ i ∧ (¬(i : Int) ≤ j0 ∨ f (txt l1 i) = false)) i0 (by simp only [go_sem] <;> rfl) ⟨hP,by omega⟩ (fun kk QQ hx k i hk hp ih=>?_) ?_
 ·obtain ⟨hP,hki⟩:=hp
  have hb1:=hP.hj
  have hb2:=hP.jb
  have ha1:=hP.hi
  have hlm:=hP.hp.len
  by_cases c1 : (i : Int) ≤ j0
  ·simp (maxSteps:=999999) (disch:=first | omega | (simp only [List.length_set]; omega)) only [go_sem,c1]
   refine W_callvp (v:=.int .i64 (cmpS (txt l1 i) (txt l1 a))) (by simp only [go_sem] <;> rfl) hf1 hf2 (by simp only [go_sem]; exact hf3 _ _ _ _) ?_
   simp (maxSteps:=999999) (disch:=first | omega | (simp only [List.length_set]; omega)) only [go_sem]
   cases c : sLt (txt l1 i) (txt l1 a) with
   | true =>
    have c' : cmpS (txt l1 i) (txt l1 a) < 0:=(cmpS_lt _ _).2 c
    simp (maxSteps:=999999) (disch:=first | omega | (simp only [List.length_set]; omega)) only [go_sem,c']
    exact ih _ (i + 1) (by omega) (by simp only [go_sem]) ⟨hP.up c1 (by rw [hf]; rw [hPa] at c; simp [c]),by omega⟩
   | false =>
    have c' : ¬cmpS (txt l1 i) (txt l1 a) < 0:=fun e=>by rw [cmpS_lt,c] at e; simp at e
    simp (maxSteps:=999999) (disch:=first | omega | (simp only [List.length_set]; omega)) only [go_sem,c']
    exact hx i ⟨hP,by omega,.inr (by rw [hf]; rw [hPa] at c; simp [c])⟩
  ·simp (maxSteps:=999999) (disch:=first | omega | (simp only [List.length_set]; omega)) only [go_sem,c1]
   exact hx i ⟨hP,by omega,.inl c1⟩
 rintro i ⟨hP,hge,hE⟩
 simp (maxSteps:=999999) (disch:=omega) only [go_sem]
 have hjb0:=hP.jb
 refine W_whileE (α:=Int) (n + 1) (fun j : Int=>⟨[(0,.sl (.obj q) 0 n),(1,.int .i64 a),(4,.func F .unit),(12,.int .i64 i),(13,.int .i64 j)],[],h.ob q (.arr n tS) (encS l1)⟩) (fun k j=>PInv f l1 l1 a b i j ∧ j ≤ j0 - k ∧ (¬(i : Int) ≤ j ∨ f (txt l1 i) = false)) (fun j : Int=>⟨[(0,.sl (.obj q) 0 n),(1,.int .i64 a),(4,.func F .unit),(12,.int .i64 i),(13,.int .i64 j),(66,.bool false)],[],h.ob q (.arr n tS) (encS l1)⟩) (fun j=>PInv f l1 l1 a b i j ∧ (¬(i : Int) ≤ j ∨ f (txt l1 i) = false) ∧ (¬(i : Int) ≤ j ∨ f (txt l1 j.toNat) = true)) j0 (by simp only [go_sem] <;> rfl) ⟨hP,by omega,hE⟩ (fun kk QQ hx k j hk hp ih=>?_) ?_
 ·obtain ⟨hP,hki,hE⟩:=hp
  have hb1:=hP.hj
  have hb2:=hP.jb
  have ha1:=hP.hi
  have hlm:=hP.hp.len
  by_cases c1 : (i : Int) ≤ j
  ·obtain ⟨jn,rfl⟩ : ∃ x : Nat,j = x:=⟨j.toNat,by omega⟩
   simp (maxSteps:=999999) (disch:=first | omega | (simp only [List.length_set]; omega)) only [go_sem,c1]
   refine W_callvp (v:=.int .i64 (cmpS (txt l1 jn) (txt l1 a))) (by simp only [go_sem] <;> rfl) hf1 hf2 (by simp only [go_sem]; exact hf3 _ _ _ _) ?_
   simp (maxSteps:=999999) (disch:=first | omega | (simp only [List.length_set]; omega)) only [go_sem]
   cases c : sLt (txt l1 jn) (txt l1 a) with
   | true =>
    have c' : cmpS (txt l1 jn) (txt l1 a) < 0:=(cmpS_lt _ _).2 c
    simp (maxSteps:=999999) (disch:=first | omega | (simp only [List.length_set]; omega)) only [go_sem,c']
    exact hx jn ⟨hP,hE,.inr (by rw [hf,Int.toNat_natCast]; rw [hPa] at c; simp [c])⟩
   | false =>
    have c' : ¬cmpS (txt l1 jn) (txt l1 a) < 0:=fun e=>by rw [cmpS_lt,c] at e; simp at e
    simp (maxSteps:=999999) (disch:=first | omega | (simp only [List.length_set]; omega)) only [go_sem,c']
    exact ih _ ((jn : Int) - 1) (by omega) (by simp only [go_sem]) ⟨hP.down c1 (by rw [hf]; rw [hPa] at c; simp [c]),by omega,by rcases hE with e | e; exact .inl (by omega); exact .inr e⟩
  ·simp (maxSteps:=999999) (disch:=first | omega | (simp only [List.length_set]; omega)) only [go_sem,c1]
   exact hx j ⟨hP,.inl c1,.inl c1⟩
 rintro j ⟨hP,hE,hE2⟩
 simp (maxSteps:=999999) (disch:=omega) only [go_sem]
 have g1:=hP.hj
 have g2:=hP.jb
 have g3:=hP.hi
 by_cases c3 : j < i
 ·obtain ⟨c,rfl⟩ : ∃ x : Nat,j = x:=⟨j.toNat,by omega⟩
  obtain rfl : i = c + 1:=by omega
  simp (maxSteps:=999999) (disch:=first | omega | (simp only [List.length_set]; omega)) only [go_sem,c3,stV_ob (hl _)]
  refine ⟨c,true,swapL l1 c a,rfl,rfl,?_⟩
  rw [hf,← hl1] at hP
  have:=hP.done (by omega) hap hpb
  rw [hl1] at this
  exact this
 have f1 : f (txt l1 i) = false:=by rcases hE with e | e; exact absurd e (by omega); exact e
 have f2 : f (txt l1 j.toNat) = true:=by rcases hE2 with e | e; exact absurd e (by omega); exact e
 obtain ⟨jn,rfl⟩ : ∃ x : Nat,j = x:=⟨j.toNat,by omega⟩
 rw [Int.toNat_natCast] at f2
 have hij : i < jn:=by
  by_cases e : i = jn
  ·subst e; rw [f1] at f2; exact absurd f2 (by simp)
  ·omega
 have hP2:=hP.swap hbl hij f1 f2
 simp (maxSteps:=999999) (disch:=first | omega | (simp only [List.length_set]; omega)) only [go_sem,c3,stV_ob (hl _)]
 rw [show (l1.set i (txt l1 jn)).set jn (txt l1 i) = swapL l1 i jn from rfl]
 refine W_forE (α:=List Str × Nat × Int) (n + 1) (fun k m=>⟨[(0,.sl (.obj q) 0 n),(1,.int .i64 a),(4,.func F .unit),(12,.int .i64 m.2.1),(13,.int .i64 m.2.2)],[],h.ob q (.arr n tS) (encS m.1)⟩) (fun k m=>PInv f l1 m.1 a b m.2.1 m.2.2 ∧ a + 1 + k ≤ m.2.1) (swapL l1 i jn,i + 1,(jn : Int) - 1) (by simp only [go_sem] <;> rfl) ⟨hP2,by dsimp only; omega⟩ fun k m hk hp ih0=>?_
 obtain ⟨m,i0,j0⟩:=m
 obtain ⟨hP,hki⟩:=hp
 dsimp only at hP hki ih0 ⊢
 have hPa:=hP.piv
 have hlm:=hP.hp.len
 simp (maxSteps:=999999) (disch:=omega) only [go_sem]
 refine W_whileE (α:=Nat) (n + 1) (fun i : Nat=>⟨[(0,.sl (.obj q) 0 n),(1,.int .i64 a),(4,.func F .unit),(12,.int .i64 i),(13,.int .i64 j0)],[],h.ob q (.arr n tS) (encS m)⟩) (fun k i=>PInv f l1 m a b i j0 ∧ i0 + k ≤ i) (fun i : Nat=>⟨[(0,.sl (.obj q) 0 n),(1,.int .i64 a),(4,.func F .unit),(12,.int .i64 i),(13,.int .i64 j0),(120,.bool false)],[],h.ob q (.arr n tS) (encS m)⟩) (fun i=>PInv f l1 m a b i j0 ∧ i0 ≤ i ∧ (¬(i : Int) ≤ j0 ∨ f (txt m i) = false)) i0 (by simp only [go_sem] <;> rfl) ⟨hP,by omega⟩ (fun kk QQ hx k i hk hp ih=>?_) ?_
 ·obtain ⟨hP,hki⟩:=hp
  have hb1:=hP.hj
  have hb2:=hP.jb
  have ha1:=hP.hi
  have hlm:=hP.hp.len
  by_cases c1 : (i : Int) ≤ j0
  ·simp (maxSteps:=999999) (disch:=first | omega | (simp only [List.length_set]; omega)) only [go_sem,c1]
   refine W_callvp (v:=.int .i64 (cmpS (txt m i) (txt m a))) (by simp only [go_sem] <;> rfl) hf1 hf2 (by simp only [go_sem]; exact hf3 _ _ _ _) ?_
   simp (maxSteps:=999999) (disch:=first | omega | (simp only [List.length_set]; omega)) only [go_sem]
   cases c : sLt (txt m i) (txt m a) with
   | true =>
    have c' : cmpS (txt m i) (txt m a) < 0:=(cmpS_lt _ _).2 c
    simp (maxSteps:=999999) (disch:=first | omega | (simp only [List.length_set]; omega)) only [go_sem,c']
    exact ih _ (i + 1) (by omega) (by simp only [go_sem]) ⟨hP.up c1 (by rw [hf]; rw [hPa] at c; simp [c]),by omega⟩
   | false =>
    have c' : ¬cmpS (txt m i) (txt m a) < 0:=fun e=>by rw [cmpS_lt,c] at e; simp at e
    simp (maxSteps:=999999) (disch:=first | omega | (simp only [List.length_set]; omega)) only [go_sem,c']
    exact hx i ⟨hP,by omega,.inr (by rw [hf]; rw [hPa] at c; simp [c])⟩
  ·simp (maxSteps:=999999) (disch:=first | omega | (simp only [List.length_set]; omega)) only [go_sem,c1]
   exact hx i ⟨hP,by omega,.inl c1⟩
 rintro i ⟨hP,hge,hE⟩
 simp (maxSteps:=999999) (disch:=omega) only [go_sem]
 have hjb0:=hP.jb
 refine W_whileE (α:=Int) (n + 1) (fun j : Int=>⟨[(0,.sl (.obj q) 0 n),(1,.int .i64 a),(4,.func F .unit),(12,.int .i64 i),(13,.int .i64 j)],[],h.ob q (.arr n tS) (encS m)⟩) (fun k j=>PInv f l1 m a b i j ∧ j ≤ j0 - k ∧ (¬(i : Int) ≤ j ∨ f (txt m i) = false)) (fun j : Int=>⟨[(0,.sl (.obj q) 0 n),(1,.int .i64 a),(4,.func F .unit),(12,.int .i64 i),(13,.int .i64 j),(139,.bool false)],[],h.ob q (.arr n tS) (encS m)⟩) (fun j=>PInv f l1 m a b i j ∧ (¬(i : Int) ≤ j ∨ f (txt m i) = false) ∧ (¬(i : Int) ≤ j ∨ f (txt m j.toNat) = true)) j0 (by simp only [go_sem] <;> rfl) ⟨hP,by omega,hE⟩ (fun kk QQ hx k j hk hp ih=>?_) ?_
 ·obtain ⟨hP,hki,hE⟩:=hp
  have hb1:=hP.hj
  have hb2:=hP.jb
  have ha1:=hP.hi
  have hlm:=hP.hp.len
  by_cases c1 : (i : Int) ≤ j
  ·obtain ⟨jn,rfl⟩ : ∃ x : Nat,j = x:=⟨j.toNat,by omega⟩
   simp (maxSteps:=999999) (disch:=first | omega | (simp only [List.length_set]; omega)) only [go_sem,c1]
   refine W_callvp (v:=.int .i64 (cmpS (txt m jn) (txt m a))) (by simp only [go_sem] <;> rfl) hf1 hf2 (by simp only [go_sem]; exact hf3 _ _ _ _) ?_
   simp (maxSteps:=999999) (disch:=first | omega | (simp only [List.length_set]; omega)) only [go_sem]
   cases c : sLt (txt m jn) (txt m a) with
   | true =>
    have c' : cmpS (txt m jn) (txt m a) < 0:=(cmpS_lt _ _).2 c
    simp (maxSteps:=999999) (disch:=first | omega | (simp only [List.length_set]; omega)) only [go_sem,c']
    exact hx jn ⟨hP,hE,.inr (by rw [hf,Int.toNat_natCast]; rw [hPa] at c; simp [c])⟩
   | false =>
    have c' : ¬cmpS (txt m jn) (txt m a) < 0:=fun e=>by rw [cmpS_lt,c] at e; simp at e
    simp (maxSteps:=999999) (disch:=first | omega | (simp only [List.length_set]; omega)) only [go_sem,c']
    exact ih _ ((jn : Int) - 1) (by omega) (by simp only [go_sem]) ⟨hP.down c1 (by rw [hf]; rw [hPa] at c; simp [c]),by omega,by rcases hE with e | e; exact .inl (by omega); exact .inr e⟩
  ·simp (maxSteps:=999999) (disch:=first | omega | (simp only [List.length_set]; omega)) only [go_sem,c1]
   exact hx j ⟨hP,.inl c1,.inl c1⟩
 rintro j ⟨hP,hE,hE2⟩
 simp (maxSteps:=999999) (disch:=omega) only [go_sem]
 have g1:=hP.hj
 have g2:=hP.jb
 have g3:=hP.hi
 by_cases c3 : j < i
 ·obtain ⟨c,rfl⟩ : ∃ x : Nat,j = x:=⟨j.toNat,by omega⟩
  obtain rfl : i = c + 1:=by omega
  simp (maxSteps:=999999) (disch:=first | omega | (simp only [List.length_set]; omega)) only [go_sem,c3,stV_ob (hl _)]
  refine ⟨c,false,swapL m c a,rfl,rfl,?_⟩
  rw [hf,← hl1] at hP
  exact hP.done (by omega) hap hpb
 have f1 : f (txt m i) = false:=by rcases hE with e | e; exact absurd e (by omega); exact e
 have f2 : f (txt m j.toNat) = true:=by rcases hE2 with e | e; exact absurd e (by omega); exact e
 obtain ⟨jn,rfl⟩ : ∃ x : Nat,j = x:=⟨j.toNat,by omega⟩
 rw [Int.toNat_natCast] at f2
 have hij : i < jn:=by
  by_cases e : i = jn
  ·subst e; rw [f1] at f2; exact absurd f2 (by simp)
  ·omega
 have hP2:=hP.swap hbl hij f1 f2
 simp (maxSteps:=999999) (disch:=first | omega | (simp only [List.length_set]; omega)) only [go_sem,c3,stV_ob (hl _)]
 refine ih0 _ (swapL m i jn,i + 1,(jn : Int) - 1) (by omega) ?_ ⟨hP2,by dsimp only; omega⟩
 simp only [go_sem,swapL]
structure PartEq (l m : List Str) (a b c : Nat) : Prop where
 hp : PermIn l m a b
 ac : a < c
 cb : c ≤ b
 lo : ∀ x,a ≤ x → x < c → sLt (txt m a) (txt m x) = false
 up : ∀ x,c ≤ x → x < b → sLt (txt m a) (txt m x) = true
theorem partEq_ok (hl : ∀ n,cx.prot.lets (.obj n) = true) (hF : IsCmp F) (hn : l.length = n) (hn2 : n ≤ 1000000) (hb : b ≤ n) (hap : a ≤ p) (hpb : p < b) (hq : h.look (.obj q) = some ⟨.arr n tS,encS l⟩) :
  Ok tblE cx Fn.slices_partitionEqualCmpFunc (St.enter [.sl (.obj q) 0 n,.int .i64 a,.int .i64 b,.int .i64 p,.func F .unit] h) fun v h' =>
   ∃ (c : Nat) (m : List Str),v = .int .i64 c ∧ h' = h.ob q (.arr n tS) (encS m) ∧ PartEq l m a b c ∧ txt m a = txt l p:=by
 obtain ⟨fn,hf1,hf2,hf3⟩:=hF
 rw [Ok_eq]
 simp (maxSteps:=999999) (disch:=first | omega | (simp only [List.length_set]; omega)) only [go_sem,stV_ob (hl _),hq]
 obtain ⟨l1,hl1⟩ : ∃ x,swapL l a p = x:=⟨_,rfl⟩
 obtain ⟨f,hf⟩ : ∃ f : Str → Bool,f = fun x=>!sLt (txt l1 a) x:=⟨_,rfl⟩
 have hl1n : l1.length = n:=by rw [← hl1,swapL_len]; exact hn
 have hP : PInv f l1 l1 a b (a + 1) ((b : Int) - 1):=PInv.start (by omega)
 rw [show (l.set a (txt l p)).set p (txt l a) = l1 from hl1]
 have hbl : b ≤ l1.length:=by omega
 refine W_forE (α:=List Str × Nat × Int) (n + 1) (fun k m=>⟨[(0,.sl (.obj q) 0 n),(1,.int .i64 a),(4,.func F .unit),(11,.int .i64 m.2.1),(12,.int .i64 m.2.2)],[],h.ob q (.arr n tS) (encS m.1)⟩) (fun k m=>PInv f l1 m.1 a b m.2.1 m.2.2 ∧ a + 1 + k ≤ m.2.1) (l1,a + 1,(b : Int) - 1) (by simp only [go_sem] <;> rfl) ⟨hP,by dsimp only; omega⟩ fun k m hk hp ih0=>?_
 obtain ⟨m,i0,j0⟩:=m
 obtain ⟨hP,hki⟩:=hp
 dsimp only at hP hki ih0 ⊢
 have hPa:=hP.piv
 have hlm:=hP.hp.len
 simp (maxSteps:=999999) (disch:=omega) only [go_sem]
 refine W_whileE (α:=Nat) (n + 1) (fun i : Nat=>⟨[(0,.sl (.obj q) 0 n),(1,.int .i64 a),(4,.func F .unit),(11,.int .i64 i),(12,.int .i64 j0)],[],h.ob q (.arr n tS) (encS m)⟩) (fun k i=>PInv f l1 m a b i j0 ∧ i0 + k ≤ i) (fun i : Nat=>⟨[(0,.sl (.obj q) 0 n),(1,.int .i64 a),(4,.func F .unit),(11,.int .i64 i),(12,.int .i64 j0),(47,.bool false)],[],h.ob q (.arr n tS) (encS m)⟩) (fun i=>PInv f l1 m a b i j0 ∧ i0 ≤ i ∧ (¬(i : Int) ≤ j0 ∨ f (txt m i) = false)) i0 (by simp only [go_sem] <;> rfl) ⟨hP,by omega⟩ (fun kk QQ hx k i hk hp ih=>?_) ?_
 ·obtain ⟨hP,hki⟩:=hp
  have hb1:=hP.hj
  have hb2:=hP.jb
  have ha1:=hP.hi
  have hlm:=hP.hp.len
  by_cases c1 : (i : Int) ≤ j0
  ·simp (maxSteps:=999999) (disch:=first | omega | (simp only [List.length_set]; omega)) only [go_sem,c1]
   refine W_callvp (v:=.int .i64 (cmpS (txt m a) (txt m i))) (by simp only [go_sem] <;> rfl) hf1 hf2 (by simp only [go_sem]; exact hf3 _ _ _ _) ?_
   simp (maxSteps:=999999) (disch:=first | omega | (simp only [List.length_set]; omega)) only [go_sem]
   cases c : sLt (txt m a) (txt m i) with
   | true =>
    have c' : cmpS (txt m a) (txt m i) < 0:=(cmpS_lt _ _).2 c
    simp (maxSteps:=999999) (disch:=first | omega | (simp only [List.length_set]; omega)) only [go_sem,c']
    exact hx i ⟨hP,by omega,.inr (by rw [hf]; rw [hPa] at c; simp [c])⟩
   | false =>
    have c' : ¬cmpS (txt m a) (txt m i) < 0:=fun e=>by rw [cmpS_lt,c] at e; simp at e
    simp (maxSteps:=999999) (disch:=first | omega | (simp only [List.length_set]; omega)) only [go_sem,c']
    exact ih _ (i + 1) (by omega) (by simp only [go_sem]) ⟨hP.up c1 (by rw [hf]; rw [hPa] at c; simp [c]),by omega⟩
  ·simp (maxSteps:=999999) (disch:=first | omega | (simp only [List.length_set]; omega)) only [go_sem,c1]
   exact hx i ⟨hP,by omega,.inl c1⟩
 rintro i ⟨hP,hge,hE⟩
 simp (maxSteps:=999999) (disch:=omega) only [go_sem]
 have hjb0:=hP.jb
 refine W_whileE (α:=Int) (n + 1) (fun j : Int=>⟨[(0,.sl (.obj q) 0 n),(1,.int .i64 a),(4,.func F .unit),(11,.int .i64 i),(12,.int .i64 j)],[],h.ob q (.arr n tS) (encS m)⟩) (fun k j=>PInv f l1 m a b i j ∧ j ≤ j0 - k ∧ (¬(i : Int) ≤ j ∨ f (txt m i) = false)) (fun j : Int=>⟨[(0,.sl (.obj q) 0 n),(1,.int .i64 a),(4,.func F .unit),(11,.int .i64 i),(12,.int .i64 j),(65,.bool false)],[],h.ob q (.arr n tS) (encS m)⟩) (fun j=>PInv f l1 m a b i j ∧ (¬(i : Int) ≤ j ∨ f (txt m i) = false) ∧ (¬(i : Int) ≤ j ∨ f (txt m j.toNat) = true)) j0 (by simp only [go_sem] <;> rfl) ⟨hP,by omega,hE⟩ (fun kk QQ hx k j hk hp ih=>?_) ?_
 ·obtain ⟨hP,hki,hE⟩:=hp
  have hb1:=hP.hj
  have hb2:=hP.jb
  have ha1:=hP.hi
  have hlm:=hP.hp.len
  by_cases c1 : (i : Int) ≤ j
  ·obtain ⟨jn,rfl⟩ : ∃ x : Nat,j = x:=⟨j.toNat,by omega⟩
   simp (maxSteps:=999999) (disch:=first | omega | (simp only [List.length_set]; omega)) only [go_sem,c1]
   refine W_callvp (v:=.int .i64 (cmpS (txt m a) (txt m jn))) (by simp only [go_sem] <;> rfl) hf1 hf2 (by simp only [go_sem]; exact hf3 _ _ _ _) ?_
   simp (maxSteps:=999999) (disch:=first | omega | (simp only [List.length_set]; omega)) only [go_sem]
   cases c : sLt (txt m a) (txt m jn) with
   | true =>
    have c' : cmpS (txt m a) (txt m jn) < 0:=(cmpS_lt _ _).2 c
    simp (maxSteps:=999999) (disch:=first | omega | (simp only [List.length_set]; omega)) only [go_sem,c']
    exact ih _ ((jn : Int) - 1) (by omega) (by simp only [go_sem]) ⟨hP.down c1 (by rw [hf]; rw [hPa] at c; simp [c]),by omega,by rcases hE with e | e; exact .inl (by omega); exact .inr e⟩
   | false =>
    have c' : ¬cmpS (txt m a) (txt m jn) < 0:=fun e=>by rw [cmpS_lt,c] at e; simp at e
    simp (maxSteps:=999999) (disch:=first | omega | (simp only [List.length_set]; omega)) only [go_sem,c']
    exact hx jn ⟨hP,hE,.inr (by rw [hf,Int.toNat_natCast]; rw [hPa] at c; simp [c])⟩
  ·simp (maxSteps:=999999) (disch:=first | omega | (simp only [List.length_set]; omega)) only [go_sem,c1]
   exact hx j ⟨hP,.inl c1,.inl c1⟩
 rintro j ⟨hP,hE,hE2⟩
 simp (maxSteps:=999999) (disch:=omega) only [go_sem]
 have g1:=hP.hj
 have g2:=hP.jb
 have g3:=hP.hi
 by_cases c3 : j < i
 ·simp (maxSteps:=999999) (disch:=first | omega | (simp only [List.length_set]; omega)) only [go_sem,c3]
  refine ⟨i,m,rfl,rfl,⟨?_,by omega,by omega,fun x h1 h2=>?_,fun x h1 h2=>?_⟩,?_⟩
  ·rw [← hl1] at hP
   exact (PermIn.swap (by omega) (by omega) (by omega) (by omega)).trans (hP.hp.wide (by omega) (Nat.le_refl _))
  ·by_cases e : x = a
   ·subst e; exact sLt_irrefl _
   ·have:=hP.lo x (by omega) h2
    rw [hf] at this
    rw [hPa]; simpa using this
  ·have:=hP.up' x (by omega) h2
   rw [hf] at this
   rw [hPa]; simpa using this
  ·rw [hPa,← hl1,txt_swap (by omega) (by omega)]
   by_cases e : a = p
   ·subst e; rw [if_pos rfl]
   ·rw [if_neg e,if_pos rfl]
 have f1 : f (txt m i) = false:=by rcases hE with e | e; exact absurd e (by omega); exact e
 have f2 : f (txt m j.toNat) = true:=by rcases hE2 with e | e; exact absurd e (by omega); exact e
 obtain ⟨jn,rfl⟩ : ∃ x : Nat,j = x:=⟨j.toNat,by omega⟩
 rw [Int.toNat_natCast] at f2
 have hij : i < jn:=by
  by_cases e : i = jn
  ·subst e; rw [f1] at f2; exact absurd f2 (by simp)
  ·omega
 have hP2:=hP.swap hbl hij f1 f2
 simp (maxSteps:=999999) (disch:=first | omega | (simp only [List.length_set]; omega)) only [go_sem,c3,stV_ob (hl _)]
 refine ih0 _ (swapL m i jn,i + 1,(jn : Int) - 1) (by omega) ?_ ⟨hP2,by dsimp only; omega⟩
 simp only [go_sem,swapL]
end
end Go.Mini
