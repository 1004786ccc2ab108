/- A part of the proof: what Dj computes, step by step. -/
import Derived.Test.YtpkndgkaecamlabGreatDoorDjPf
import Derived.Deep.MidRow
import Derived.Shelf.Pu.ParseUintPublic10
import Derived.Shelf.Strings.BuilderF
import Derived.Lib.OthersKept
import Derived.SliceStrings
import Derived.SizedLaws
import Derived.Lib.LaidTab

set_option linter.unusedSimpArgs false
set_option linter.unusedVariables false
set_option maxHeartbeats 8000000
set_option maxRecDepth 100000
set_option linter.unusedSectionVars false
set_option linter.unnecessarySimpa false
namespace Go.Mini
section
variable {T : Nat → Option MFun} {cx : Cx} {k : List Item} {kill : List Nat} {r : List MOp} {sl : Slots} {own ov : Own} {h : HP} {Q : St → Prop}
theorem W_callHF {S : List Nat} {R : AV → HP → Prop} {prot : Bool} {hide : List Nat} {f : Nat} {args : List Opd} {d : Option Nat} {fn : MFun} (hv : own.veil hide = ov) (hu : own.unveil ov hide = own) (hh : has hide 1000000 = false) (hf : T f = some fn) (hp : fn.params = args.length ∧ fn.nfree = 0)
  (hc : Ok T (St.callCx ⟨sl,own,h⟩ cx prot) fn (St.enter (args.map (St.opd ⟨sl,own,h⟩)) (h.push cx.lvl ov)) fun v' h'=>Fr (h.push cx.lvl ov) h' S ∧ R v' h')
  (hR : ∀ v h1,R v (HP.push h1 cx.lvl ov) → R v h1)
  (hq : ∀ v h1,Fr h h1 S → R v h1 → W T cx (.ops r kill :: k) (St.setd ⟨sl,own,h1⟩ d v) Q) :
  W T cx (.ops (⟨d,.call prot hide f args,none⟩ :: r) kill :: k) ⟨sl,own,h⟩ Q:=by
 refine W_callr (R:=fun v h'=>Fr (h.push cx.lvl ov) h' S ∧ R v h') hf hp (by rw [hv,callCx_no _ _ hh]; exact hc) ?_
 rintro v h' ⟨e1,e2⟩
 have hh : h' = HP.push ⟨h.stk,h'.obj,h'.next,h'.arg⟩ cx.lvl ov:=by
  have:=e1.stk
  cases h'
  simp only at this
  subst this
  rfl
 have : St.pop ⟨sl,own,h⟩ cx.lvl hide h' = ⟨sl,own,⟨h.stk,h'.obj,h'.next,h'.arg⟩⟩:=by
  rw [hh]
  simp only [St.pop,HP.pop,HP.push,if_true,hu]
  congr 2
  funext l
  by_cases hl : l = cx.lvl <;> simp [hl]
 rw [this]
 exact hq _ _ ⟨rfl,e1.arg,e1.next,e1.same⟩ (hR _ _ (hh ▸ e2))
theorem W_callHP {prot : Bool} {hide : List Nat} {f : Nat} {args : List Opd} {d : Option Nat} {fn : MFun} {v : AV} (hv : own.veil hide = ov) (hu : own.unveil ov hide = own) (hh : has hide 1000000 = false) (hf : T f = some fn) (hp : fn.params = args.length ∧ fn.nfree = 0)
  (hc : Ok T (St.callCx ⟨sl,own,h⟩ cx prot) fn (St.enter (args.map (St.opd ⟨sl,own,h⟩)) (h.push cx.lvl ov)) fun v' h'=>v' = v ∧ h' = h.push cx.lvl ov)
  (hq : W T cx (.ops r kill :: k) (St.setd ⟨sl,own,h⟩ d v) Q) :
  W T cx (.ops (⟨d,.call prot hide f args,none⟩ :: r) kill :: k) ⟨sl,own,h⟩ Q:=by
 refine W_callr (R:=fun v' h'=>v' = v ∧ h' = h.push cx.lvl ov) hf hp (by rw [hv,callCx_no _ _ hh]; exact hc) ?_
 rintro v' h' ⟨rfl,rfl⟩
 have : St.pop ⟨sl,own,h⟩ cx.lvl hide (h.push cx.lvl ov) = ⟨sl,own,h⟩:=by
  simp only [St.pop,HP.pop,HP.push,if_true,hu]
  congr 1
  cases h
  simp only [HP.mk.injEq,and_true]
  funext l
  by_cases hl : l = cx.lvl <;> simp [hl]
 rw [this]; exact hq
end
theorem Txs_own {l t n : Nat} {own : Own} {h : HP} {ws : List Str} (hb : own.get t = some ⟨.arr n tS,encS ws⟩) (hn : n = ws.length) : Txs (h.push l own) (l + 1) (.sl (.stk l t) 0 n) ws:=by
 subst hn
 refine .inr ⟨.stk l t,0,ws,rfl,below_stk _ _,?_,by omega,by simp⟩
 simp only [HP.look,HP.push,if_true]
 exact hb
theorem LifeAt.eq {h : HP} {p f c f' c' : Nat} {L L' : Lf} (a : LifeAt h p f c L) (b : LifeAt h p f' c' L') : f' = f ∧ c' = c:=by
 have h1 : f = f':=by
  have:=a.li.symm.trans b.li
  simp [encLi] at this
  exact this.1
 subst h1
 have h2:=a.fi.symm.trans b.fi
 simp [encF] at h2
 exact ⟨rfl,h2.1.symm⟩
theorem sayL_le {B : Nat} {ws : List Str} (h : ∀ w ∈ ws,w.size ≤ B) : (sayL ws).length ≤ ws.length * (B + 1) + 1:=by
 have:=sayB h
 simp only [sayL,joinL,List.length_append,List.length_singleton] at this ⊢
 exact Nat.add_le_add_right this 1
def wNo : Str:=⟨#[110,111]⟩
def wOk : Str:=⟨#[111,107]⟩
def wNone : Str:=⟨#[110,111,110,101]⟩
def stepW (L : Lf) (x : SStep) : List Str:=if lifeC L x = 0 then [wOk] else [wNo,bsL (numL (lifeC L x))]
def readW (L : Lf) (l : List Str) : List Str :=
 let c:=readC L.fl.now (numC (txt l 0)) (txt l 1) (numC (txt l 2))
 if ¬c = 0 then [wNo,bsL (numL c)] else if readB L.fl.now (numC (txt l 0)) (txt l 1) (numC (txt l 2)) = false then [wNone] else
 [bsL (showL (readT L.fl.now (numC (txt l 0)) (txt l 1) (numC (txt l 2))).data.toList)]
theorem two_len {a b : Str} {n : Nat} (ha : a.size ≤ 60) (hb : b.size ≤ 60) (hm : n + 4000 ≤ 1048576) : n + (sayL [a,b]).length ≤ 1048576:=by
 have:=sayL_le (B:=60) (ws:=[a,b]) (by simp; exact ⟨ha,hb⟩)
 simp only [List.length_cons,List.length_nil] at this
 omega
theorem one_len {a : Str} {n : Nat} (ha : a.size ≤ 900) (hm : n + 4000 ≤ 1048576) : n + (sayL [a]).length ≤ 1048576:=by
 have:=sayL_le (B:=900) (ws:=[a]) (by simpa using ha)
 simp only [List.length_cons,List.length_nil] at this
 omega
theorem num_size {n : Int} (h : i64 n) : (bsL (numL n)).size ≤ 21:=by rw [bsL_size]; exact numL_len h
theorem stepW_len {L : Lf} {x : SStep} {n : Nat} (hm : n + 4000 ≤ 1048576) : n + (sayL (stepW L x)).length ≤ 1048576:=by
 unfold stepW
 split
 ·exact one_len (by decide) hm
 ·exact two_len (by decide) (Nat.le_trans (num_size (lifeC_code L x)) (by decide)) hm
section
variable {cx : Cx} {h0 h : HP} {d p f0 c0 : Nat} {L : Lf} {bs : List UInt8}
theorem ShowS_ok {s : Str} (hl : ∀ n,cx.prot.lets (.obj n) = true) (hs : s.size ≤ 100000) : Ok tblV cx Fn.text_Show (St.enter [.str s] h) fun v h'=>Fr h h' [] ∧ v = .str (bsL (showL s.data.toList)) :=
 (Show_ok (fun n _=>hl n) hs).mono fun v h' e=>⟨e.2,e.1⟩
theorem LStepD_ok {x : SStep} (hl : ∀ n,cx.prot.lets (.obj n) = true) (hD : DK h0 h d p f0 c0 L bs) (hi : Inv0 L.fl) (hx : x.ok) :
  Ok tblV cx Fn.life_Life_Step (St.enter [.ptr (.obj p) [] tLife,x.enc] h) fun v h'=>v = .int .i64 (lifeC L x) ∧ DK h0 h' d p f0 c0 (lifeF L x) bs:=by
 obtain ⟨st,fr,a,b,f,c,e1,e2,e3,e4,e5⟩:=id hD
 refine (upV (upT (LStep_ok hl e4 hi hx.name hx.to hx.text))).mono fun v h' e=>?_
 obtain ⟨g1,rfl,g2⟩:=e
 exact ⟨rfl,hD.step (fun f' c' h=>e4.eq h) g1 g2⟩
theorem DStep_ok {x : SStep} (hl : ∀ n,cx.prot.lets (.obj n) = true) (hD : DK h0 h d p f0 c0 L bs) (hi : Inv0 L.fl) (hx : x.ok) (hm : bs.length + 4000 ≤ 1048576) :
  Ok tblV cx Fn.desk_Desk_step (St.enter [.ptr (.obj d) [] tDesk,x.enc] h) fun v h'=>v = .tup .unit ∧ DK h0 h' d p f0 c0 (lifeF L x) (bs ++ sayL (stepW L x)):=by
 obtain ⟨st,fr,a,b,f,c,e1,e2,e3,e4,e5⟩:=id hD
 rw [Ok_eq]
 simp (maxSteps:=999999) (disch:=omega) only [go_sem,e1]
 refine W_callD (h0:=h0) (R:=fun v=>v = .int .i64 (lifeC L x)) (L':=lifeF L x) (bs':=bs) (d:=d) (p:=p) (f0:=f0) (c0:=c0) rfl ⟨rfl,rfl⟩ hD.stk (by simp only [go_sem]; exact LStepD_ok (by exact hl) hD.push hi hx) ?_
 rintro _ h1 rfl hD1
 by_cases c1 : lifeC L x = 0
 ·have ew : stepW L x = [wOk]:=by simp [stepW,c1]
  have hm:=stepW_len (L:=L) (x:=x) hm
  rw [ew] at hm ⊢
  simp (maxSteps:=999999) (disch:=omega) only [go_sem,c1]
  refine W_callD (h0:=h0) (R:=fun v=>v = .tup .unit) (L':=lifeF L x) (bs':=bs ++ sayL ([wOk])) (d:=d) (p:=p) (f0:=f0) (c0:=c0) rfl ⟨rfl,rfl⟩ hD1.stk (by simp only [go_sem]; exact Say_ok (ws:=[wOk]) (by exact hl) hD1.push (Txs_own (ws:=[wOk]) rfl rfl) (by simp) hm) ?_
  rintro _ h2 rfl hD2
  simp (maxSteps:=999999) (disch:=omega) only [go_sem]
  exact hD2
 ·have ew : stepW L x = [wNo,bsL (numL (lifeC L x))]:=by simp [stepW,c1]
  have hm:=stepW_len (L:=L) (x:=x) hm
  rw [ew] at hm ⊢
  simp (maxSteps:=999999) (disch:=omega) only [go_sem,c1]
  refine W_callp rfl ⟨rfl,rfl⟩ (by simp only [go_sem]; exact DNum_ok (lifeC_code L x)) ?_
  simp (maxSteps:=999999) (disch:=omega) only [go_sem]
  refine W_callD (h0:=h0) (R:=fun v=>v = .tup .unit) (L':=lifeF L x) (bs':=bs ++ sayL ([wNo,bsL (numL (lifeC L x))])) (d:=d) (p:=p) (f0:=f0) (c0:=c0) rfl ⟨rfl,rfl⟩ hD1.stk (by simp only [go_sem]; exact Say_ok (ws:=[wNo,bsL (numL (lifeC L x))]) (by exact hl) hD1.push (Txs_own (ws:=[wNo,bsL (numL (lifeC L x))]) rfl rfl) (by simp) hm) ?_
  rintro _ h2 rfl hD2
  simp (maxSteps:=999999) (disch:=omega) only [go_sem]
  exact hD2
theorem DRead_ok {v : AV} {l : List Str} (hl : ∀ n,cx.prot.lets (.obj n) = true) (hD : DK h0 h d p f0 c0 L bs) (hi : LTight L) (hv : Txs h cx.lvl v l) (hn : l.length = 3) (hs : ∀ i,(txt l i).size ≤ 10000) (hm : bs.length + 4000 ≤ 1048576) :
  Ok tblV cx Fn.desk_Desk_read (St.enter [.ptr (.obj d) [] tDesk,v] h) fun v h'=>v = .tup .unit ∧ DK h0 h' d p f0 c0 L (bs ++ sayL (readW L l)):=by
 obtain ⟨st,fr,a,b,f,c,e1,e2,e3,e4,e5⟩:=id hD
 have hix:=fun z sl own=>hv.ix (cx:=cx) (kk:=.i64) (z:=z) sl own
 have hlv:=fun z sl own=>hv.lv (cx:=cx) (z:=z) sl own
 have hfg:=fun t=>hv.fg (t:=t)
 have hld:=fun t=>hv.ld (t:=t)
 have hfx:=fun z t=>hv.fgx (t:=t) z
 have hlx:=fun z t=>hv.ldx (t:=t) z
 rw [Ok_eq]
 simp (maxSteps:=999999) (disch:=omega) only [go_sem,e1,e4.li,hix,hlv,hfg,hld,hfx,hlx]
 refine W_callp rfl ⟨rfl,rfl⟩ (by simp only [go_sem]; exact Number_ok (hs:=by have:=hs 0; exact Nat.le_trans this (by decide))) ?_
 simp (maxSteps:=999999) (disch:=omega) only [go_sem,hix,hlv,hfg,hld,hfx,hlx]
 refine W_callp rfl ⟨rfl,rfl⟩ (by simp only [go_sem]; exact Number_ok (hs:=by have:=hs 2; exact Nat.le_trans this (by decide))) ?_
 simp (maxSteps:=999999) (disch:=omega) only [go_sem,hix,hlv,hfg,hld,hfx,hlx]
 refine W_callp rfl ⟨rfl,rfl⟩ (by simp only [go_sem]; exact upV (upT (Read_ok (f:=f) (c:=c) (a:=L.fl.now) (b:=L.fl.disk) (st:=L.fl.stamp) (by simp only [go_sem,e4.fi]) (by simp only [go_sem,e4.ca]) hi.inv.wf (by have:=hs 1; omega)))) ?_
 simp (maxSteps:=999999) (disch:=omega) only [go_sem,hfg,hld,encR]
 by_cases c1 : readC L.fl.now (numC (txt l 0)) (txt l 1) (numC (txt l 2)) = 0
 ·cases c2 : readB L.fl.now (numC (txt l 0)) (txt l 1) (numC (txt l 2)) with
  | false =>
   have ew : readW L l = [wNone]:=by simp [readW,c1,c2]
   rw [ew]
   simp (maxSteps:=999999) (disch:=omega) only [go_sem,c1,c2]
   refine W_callD (h0:=h0) (R:=fun v=>v = .tup .unit) (L':=L) (bs':=bs ++ sayL ([wNone])) (d:=d) (p:=p) (f0:=f0) (c0:=c0) rfl ⟨rfl,rfl⟩ hD.stk (by simp only [go_sem]; exact Say_ok (ws:=[wNone]) (by exact hl) hD.push (Txs_own (ws:=[wNone]) rfl rfl) (by simp) (one_len (by decide) hm)) ?_
   rintro _ h2 rfl hD2
   simp (maxSteps:=999999) (disch:=omega) only [go_sem]
   exact hD2
  | true =>
   have ew : readW L l = [bsL (showL (readT L.fl.now (numC (txt l 0)) (txt l 1) (numC (txt l 2))).data.toList)]:=by simp [readW,c1,c2]
   have hsz : (readT L.fl.now (numC (txt l 0)) (txt l 1) (numC (txt l 2))).size ≤ 8:=by
    unfold readT
    rw [if_pos c2]
    exact (hi.now.dat _).2
   rw [ew]
   generalize readT L.fl.now (numC (txt l 0)) (txt l 1) (numC (txt l 2)) = rt at hsz ⊢
   simp (maxSteps:=999999) (disch:=omega) only [go_sem,c1,c2]
   refine W_callF (S:=[]) (R:=fun v h'=>v = .str (bsL (showL rt.data.toList))) rfl ⟨rfl,rfl⟩ (by simp only [go_sem]; exact ShowS_ok (by exact hl) (by omega)) (fun _ _ e=>e) ?_
   rintro _ h1 hF rfl
   have hD1:=hD.same hF
   simp (maxSteps:=999999) (disch:=omega) only [go_sem]
   refine W_callD (h0:=h0) (R:=fun v=>v = .tup .unit) (L':=L) (bs':=bs ++ sayL ([bsL (showL rt.data.toList)])) (d:=d) (p:=p) (f0:=f0) (c0:=c0) rfl ⟨rfl,rfl⟩ hD1.stk (by simp only [go_sem]; exact Say_ok (ws:=[bsL (showL rt.data.toList)]) (by exact hl) hD1.push (Txs_own (ws:=[bsL (showL rt.data.toList)]) rfl rfl) (by simp) (one_len (by rw [bsL_size]; have:=showL_len rt.data.toList; have h2 : rt.data.toList.length = rt.size:=Array.length_toList; omega) hm)) ?_
   rintro _ h2 rfl hD2
   simp (maxSteps:=999999) (disch:=omega) only [go_sem]
   exact hD2
 ·have ew : readW L l = [wNo,bsL (numL (readC L.fl.now (numC (txt l 0)) (txt l 1) (numC (txt l 2))))]:=by simp [readW,c1]
  have hcc:=readC_code L.fl.now (numC (txt l 0)) (txt l 1) (numC (txt l 2))
  rw [ew]
  simp (maxSteps:=999999) (disch:=omega) only [go_sem,c1]
  refine W_callp rfl ⟨rfl,rfl⟩ (by simp only [go_sem]; exact DNum_ok hcc) ?_
  simp (maxSteps:=999999) (disch:=omega) only [go_sem]
  refine W_callD (h0:=h0) (R:=fun v=>v = .tup .unit) (L':=L) (bs':=bs ++ sayL ([wNo,bsL (numL (readC L.fl.now (numC (txt l 0)) (txt l 1) (numC (txt l 2))))])) (d:=d) (p:=p) (f0:=f0) (c0:=c0) rfl ⟨rfl,rfl⟩ hD.stk (by simp only [go_sem]; exact Say_ok (ws:=[wNo,bsL (numL (readC L.fl.now (numC (txt l 0)) (txt l 1) (numC (txt l 2))))]) (by exact hl) hD.push (Txs_own (ws:=[wNo,bsL (numL (readC L.fl.now (numC (txt l 0)) (txt l 1) (numC (txt l 2))))]) rfl rfl) (by simp) (two_len (by decide) (Nat.le_trans (num_size hcc) (by decide)) hm)) ?_
  rintro _ h2 rfl hD2
  simp (maxSteps:=999999) (disch:=omega) only [go_sem]
  exact hD2
end
def wRead : Str:=⟨#[114,101,97,100]⟩
def wList : Str:=⟨#[108,105,115,116]⟩
def wSame : Str:=⟨#[115,97,109,101]⟩
def wSure : Str:=⟨#[115,117,114,101]⟩
def wDisk : Str:=⟨#[100,105,115,107]⟩
def wDirty : Str:=⟨#[100,105,114,116,121]⟩
def wLost : Str:=⟨#[108,111,115,116]⟩
def wNames : Str:=⟨#[110,97,109,101,115]⟩
def wEnd : Str:=⟨#[101,110,100]⟩
def boolS (b : Bool) : Str:=if b = true then ⟨#[116,114,117,101]⟩ else ⟨#[102,97,108,115,101]⟩
def dirtyT (L : Lf) : Nat → List UInt8
 | 0=>[100,105,114,116,121]
 | k + 1=>if dirty L.fl.now L.fl.disk k = true then dirtyT L k ++ ([32] ++ numL k) else dirtyT L k
def askC (L : Lf) (l : List Str) : Option (List UInt8) :=
 if txt l 0 = wRead ∧ l.length = 4 then some (sayL (readW L (l.drop 1))) else
 if txt l 0 = wList ∧ l.length = 2 then some (sayL (wNames :: listOf L.fl.now (numC (txt l 1)))) else
 if txt l 0 = wSame ∧ l.length = 5 then some (sayL [boolS (sameB L.fl.now (numC (txt l 1)) (txt l 2) (numC (txt l 3)) (txt l 4))]) else
 if txt l 0 = wSure ∧ l.length = 3 then some (sayL [boolS (sureB L.fl.now L.fl.disk (numC (txt l 1)) (txt l 2))]) else
 if txt l 0 = wDisk ∧ l.length = 1 then some (textL L.fl.disk ++ sayL [wEnd]) else
 if txt l 0 = wDirty ∧ l.length = 1 then some (sayL [bsL (dirtyT L 14)]) else
 if txt l 0 = wLost ∧ l.length = 1 then some (sayL [wLost,bsL (numL L.n),bsL (numL L.a),bsL (numL L.b),bsL (numL L.c)]) else none
section
variable {cx : Cx} {h0 h : HP} {d p f0 c0 : Nat} {L : Lf} {bs : List UInt8}
theorem boolS_len (b : Bool) : (boolS b).size ≤ 900:=by cases b <;> decide
theorem FormatS_ok {b : Bool} : Ok tblV cx Fn.strconv_FormatBool (St.enter [.bool b] h) fun v h'=>v = .str (boolS b) ∧ h' = h:=FormatB_ok
def AskOk (cx : Cx) (h0 h : HP) (d p f0 c0 : Nat) (L : Lf) (bs : List UInt8) (v : AV) (l : List Str) : Prop :=
 Ok tblV cx Fn.desk_Desk_ask (St.enter [.ptr (.obj d) [] tDesk,v] h) fun v' h'=>v' = .bool (askC L l).isSome ∧ DK h0 h' d p f0 c0 L (bs ++ (askC L l).getD [])
theorem txt_drop (l : List Str) (n i : Nat) : txt (l.drop n) i = txt l (n + i):=by simp [txt,List.getD_eq_getElem?_getD]
theorem listOf_len (a : Img) (d : Int) : (listOf a d).length ≤ 4:=by
 unfold listOf
 split
 ·simp
 ·rw [(sortS_perm _).length_eq]; exact namesL_len _ _ _
theorem list_len {a : Img} (ha : Tight a) (d : Int) {n : Nat} (hm : n + 4000 ≤ 1048576) : n + (sayL (wNames :: listOf a d)).length ≤ 1048576:=by
 have h6 : ∀ k,∀ w ∈ namesL a d.toNat k,w.size ≤ 60:=by
  intro k
  induction k with
  | zero=>simp [namesL]
  | succ k ih =>
   unfold namesL
   split
   ·exact ih
   ·intro w hw
    rcases List.mem_append.1 hw with hw | hw
    ·exact ih w hw
    ·simp only [List.mem_singleton] at hw
     subst hw
     exact Nat.le_trans (ha.ent _ _).2.2 (by decide)
 have:=sayL_le (B:=60) (ws:=wNames :: listOf a d) (by
  intro w hw
  rcases List.mem_cons.1 hw with rfl | hw
  ·decide
  ·unfold listOf at hw
   split at hw
   ·simp at hw
   ·exact h6 4 w ((sortS_perm _).mem_iff.1 hw))
 have:=listOf_len a d
 simp only [List.length_cons] at *
 have h2 : (1 + (listOf a d).length) * 61 ≤ 305:=by omega
 omega
theorem dirtyT_len (L : Lf) : ∀ k,k ≤ 14 → (dirtyT L k).length ≤ 5 + k * 22
 | 0,_=>by simp [dirtyT]
 | k + 1,hk=>by
  have:=dirtyT_len L k (by omega)
  unfold dirtyT
  split
  ·simp only [List.length_append,List.length_singleton]
   have:=numL_len (n:=(k : Int)) (i64_small (by omega) (by omega))
   omega
  ·omega
theorem W_appStk {T : Nat → Option MFun} {k : List Item} {kill : List Nat} {r : List MOp} {sl : Slots} {own : Own} {Q : St → Prop} {dd u : Nat} {x y : Opd} {s : Str} {m : List Str}
  (hx : St.opd ⟨sl,own,h⟩ x = .sl (.stk cx.lvl u) 0 1) (hb : own.get u = some ⟨.arr 1 tS,encS [s]⟩) (hy : elems (St.look cx ⟨sl,own,h⟩) tS (St.opd ⟨sl,own,h⟩ y) = some (m.map AV.str)) (hm : m.length ≤ 1000)
  (hQ1 : m = [] → W T cx (.ops r kill :: k) ⟨sl.set dd (.sl (.stk cx.lvl u) 0 1),own.set u ⟨.arr 1 tS,encS [s]⟩,h⟩ Q)
  (hQ2 : ¬m = [] → W T cx (.ops r kill :: k) ⟨(Slots.forget sl (.stk cx.lvl dd)).set dd (.sl (.stk cx.lvl dd) 0 (s :: m).length),(own.rid u).set dd ⟨.arr (s :: m).length tS,encS (s :: m)⟩,h⟩ Q) :
  W T cx (.ops (⟨some dd,.append false [] tS x y,none⟩ :: r) kill :: k) ⟨sl,own,h⟩ Q:=by
 have hlk : St.look cx ⟨sl,own,h⟩ (.stk cx.lvl u) = some ⟨.arr 1 tS,encS [s]⟩:=by simp [St.look,Id.own,hb]
 rw [W_op rfl,evOp]
 have hap : ∀ e,([] : List Nat).all (apOk (St.opd ⟨sl,own,h⟩) (St.opd ⟨sl,own,h⟩ x) (St.opd ⟨sl,own,h⟩ y) e) = true:=fun _=>rfl
 have ek : evK (St.opd ⟨sl,own,h⟩) (St.look cx ⟨sl,own,h⟩) (.append false [] tS x y) = evAppend (St.look cx ⟨sl,own,h⟩) tS (.sl (.stk cx.lvl u) 0 1) (m.map AV.str):=by
  simp only [evK,hx,hy]
  cases evAppend (St.look cx ⟨sl,own,h⟩) tS (.sl (.stk cx.lvl u) 0 1) (m.map AV.str) <;> rfl
 rw [ek]
 by_cases hn : m = []
 ·subst hn
  have ea : evAppend (St.look cx ⟨sl,own,h⟩) tS (.sl (.stk cx.lvl u) 0 1) (List.map AV.str []) = some (.wr (.stk cx.lvl u) ⟨.arr 1 tS,encS [s]⟩ (.sl (.stk cx.lvl u) 0 1)):=by
   have hf:=encS_fits [s] (n:=1) rfl
   simp only [encS,List.map_cons,List.map_nil] at hf
   simp only [evAppend,hlk,encS_toList,List.map_nil,List.map_cons,List.length_nil,List.length_cons,if_true]
   rw [if_pos (by omega)]
   change (if (Ty.arr 1 tS).fits (AV.ofList [.str s]) = true then _ else _) = _
   rw [if_pos hf]
   rfl
  rw [ea]
  simp only [onO_some,applyEff,St.write,Id.own,if_true,Option.map_some]
  exact hQ1 rfl
 ·have hpos : 0 < m.length:=List.length_pos_iff.2 hn
  have ea : evAppend (St.look cx ⟨sl,own,h⟩) tS (.sl (.stk cx.lvl u) 0 1) (m.map AV.str) = some (.grow (.stk cx.lvl u) ⟨.arr (s :: m).length tS,encS (s :: m)⟩ (s :: m).length):=by
   have hf:=encS_fits (s :: m) (n:=1 + m.length) (by simp; omega)
   simp only [encS,List.map_cons] at hf
   simp only [evAppend,hlk,encS_toList,List.map_nil,List.map_cons,List.length_nil,List.length_cons,List.length_map,if_true]
   rw [if_neg (by omega),if_pos (by omega)]
   have e2 : List.take 1 (List.drop 0 [AV.str s]) ++ List.map AV.str m = AV.str s :: m.map AV.str:=rfl
   simp only [e2]
   rw [if_pos ⟨hf,by omega⟩]
   simp only [encS,List.map_cons,Nat.add_comm 1 m.length]
  rw [ea]
  simp only [onO_some,applyEff,St.drop,Id.own,if_true,Option.map_some]
  exact hQ2 hn
theorem W_slS_txs {T : Nat → Option MFun} {k : List Item} {kill : List Nat} {r : List MOp} {sl : Slots} {own : Own} {Q : St → Prop} {dd : Nat} {x : Opd} {v : AV} {l : List Str} (hv : Txs h cx.lvl v l) (hn : 1 < l.length)
  (hx : St.opd ⟨sl,own,h⟩ x = v) (hy : True) (hQ : ∀ v',Txs h cx.lvl v' (l.drop 1) → W T cx (.ops r kill :: k) ⟨sl.set dd v',own,h⟩ Q) : W T cx (.ops (⟨some dd,.slice none tS x (some (.c (.int .i64 1))) none none,none⟩ :: r) kill :: k) ⟨sl,own,h⟩ Q:=by
 rcases hv with ⟨_,rfl⟩ | ⟨i,o,w,rfl,hb,hk,hle,ht⟩
 ·simp at hn
 refine W_slS (i:=i) (o:=o) (n:=l.length) (N:=w.length) (w:=encS w) (a:=1) (b:=l.length) hx (by rw [look_below hb]; exact hk) (.inr ⟨_,rfl,rfl⟩) (.inl ⟨rfl,rfl⟩) (by omega) (by omega) (.inl (by omega)) ?_
 refine hQ _ (.inr ⟨i,o + 1,w,by simp,hb,hk,by simp; omega,?_⟩)
 rw [← List.drop_drop,← ht]
 simp [List.drop_take]
theorem Ask_read {v : AV} {l : List Str} (hl : ∀ n,cx.prot.lets (.obj n) = true) (hD : DK h0 h d p f0 c0 L bs) (hi : LTight L) (hv : Txs h cx.lvl v l) (hpos : 0 < l.length) (hs : ∀ i,(txt l i).size ≤ 10000) (hm : bs.length + 4000 ≤ 1048576) (hk : txt l 0 = ⟨#[114,101,97,100]⟩) : AskOk cx h0 h d p f0 c0 L bs v l:=by
 obtain ⟨st,fr,a,b,f,c,e1,e2,e3,e4,e5⟩:=id hD
 have hix:=fun z sl own=>hv.ix (cx:=cx) (kk:=.i64) (z:=z) sl own
 have hlv:=fun z sl own=>hv.lv (cx:=cx) (z:=z) sl own
 have hfg:=fun t=>hv.fg (t:=t)
 have hld:=fun t=>hv.ld (t:=t)
 have hfx:=fun z t=>hv.fgx (t:=t) z
 have hlx:=fun z t=>hv.ldx (t:=t) z
 have hln:=hv.len
 have q0 : decide (txt l 0 = ⟨#[114,101,97,100]⟩) = true:=by rw [hk]; decide
 have q1 : decide (txt l 0 = ⟨#[108,105,115,116]⟩) = false:=by rw [hk]; decide
 have q2 : decide (txt l 0 = ⟨#[115,97,109,101]⟩) = false:=by rw [hk]; decide
 have q3 : decide (txt l 0 = ⟨#[115,117,114,101]⟩) = false:=by rw [hk]; decide
 have q4 : decide (txt l 0 = ⟨#[100,105,115,107]⟩) = false:=by rw [hk]; decide
 have q5 : decide (txt l 0 = ⟨#[100,105,114,116,121]⟩) = false:=by rw [hk]; decide
 have q6 : decide (txt l 0 = ⟨#[108,111,115,116]⟩) = false:=by rw [hk]; decide
 by_cases hL : (l.length : Int) = 4
 ·have hL2 : l.length = 4:=by omega
  have ea : askC L l = some (sayL (readW L (l.drop 1))):=by simp [askC,hk,hL2,wRead,wList,wSame,wSure,wDisk,wDirty,wLost]
  unfold AskOk
  rw [ea,Ok_eq]
  simp only [Option.isSome_some,Option.getD_some]
  simp (maxSteps:=999999) (disch:=omega) only [go_sem,q0,q1,q2,q3,q4,q5,q6,e1,e4.li,e4.fi,e4.ca,hix,hlv,hfg,hld,hfx,hlx,hln,hL]
  refine W_slS_txs hv (by omega) (by simp only [go_sem]) (by simp only [go_sem]) ?_
  intro v' hv'
  simp (maxSteps:=999999) (disch:=omega) only [go_sem]
  refine W_callD (h0:=h0) (R:=fun v=>v = .tup .unit) (L':=L) (bs':=bs ++ sayL (readW L (l.drop 1))) (d:=d) (p:=p) (f0:=f0) (c0:=c0) rfl ⟨rfl,rfl⟩ hD.stk (by simp only [go_sem]; exact DRead_ok (by exact hl) hD.push hi hv'.push (by simp; omega) (fun i=>by rw [txt_drop]; exact hs _) hm) ?_
  rintro _ h2 rfl hD2
  simp (maxSteps:=999999) (disch:=omega) only [go_sem]
  exact hD2
 ·have hL2 : ¬l.length = 4:=by omega
  have ea : askC L l = none:=by simp [askC,hk,hL2,wRead,wList,wSame,wSure,wDisk,wDirty,wLost]
  unfold AskOk
  rw [ea,Ok_eq]
  simp only [Option.isSome_none,Option.getD_none,List.append_nil]
  simp (maxSteps:=999999) (disch:=omega) only [go_sem,q0,q1,q2,q3,q4,q5,q6,e1,hix,hlv,hfg,hld,hfx,hlx,hln,hL]
  exact hD
theorem Ask_list {v : AV} {l : List Str} (hl : ∀ n,cx.prot.lets (.obj n) = true) (hD : DK h0 h d p f0 c0 L bs) (hi : LTight L) (hv : Txs h cx.lvl v l) (hpos : 0 < l.length) (hs : ∀ i,(txt l i).size ≤ 10000) (hm : bs.length + 4000 ≤ 1048576) (hk : txt l 0 = ⟨#[108,105,115,116]⟩) : AskOk cx h0 h d p f0 c0 L bs v l:=by
 obtain ⟨st,fr,a,b,f,c,e1,e2,e3,e4,e5⟩:=id hD
 have hix:=fun z sl own=>hv.ix (cx:=cx) (kk:=.i64) (z:=z) sl own
 have hlv:=fun z sl own=>hv.lv (cx:=cx) (z:=z) sl own
 have hfg:=fun t=>hv.fg (t:=t)
 have hld:=fun t=>hv.ld (t:=t)
 have hfx:=fun z t=>hv.fgx (t:=t) z
 have hlx:=fun z t=>hv.ldx (t:=t) z
 have hln:=hv.len
 have q0 : decide (txt l 0 = ⟨#[114,101,97,100]⟩) = false:=by rw [hk]; decide
 have q1 : decide (txt l 0 = ⟨#[108,105,115,116]⟩) = true:=by rw [hk]; decide
 have q2 : decide (txt l 0 = ⟨#[115,97,109,101]⟩) = false:=by rw [hk]; decide
 have q3 : decide (txt l 0 = ⟨#[115,117,114,101]⟩) = false:=by rw [hk]; decide
 have q4 : decide (txt l 0 = ⟨#[100,105,115,107]⟩) = false:=by rw [hk]; decide
 have q5 : decide (txt l 0 = ⟨#[100,105,114,116,121]⟩) = false:=by rw [hk]; decide
 have q6 : decide (txt l 0 = ⟨#[108,111,115,116]⟩) = false:=by rw [hk]; decide
 by_cases hL : (l.length : Int) = 2
 ·have hL2 : l.length = 2:=by omega
  have ea : askC L l = some (sayL (wNames :: listOf L.fl.now (numC (txt l 1)))):=by simp [askC,hk,hL2,wRead,wList,wSame,wSure,wDisk,wDirty,wLost]
  unfold AskOk
  rw [ea,Ok_eq]
  simp only [Option.isSome_some,Option.getD_some]
  simp (maxSteps:=999999) (disch:=omega) only [go_sem,q0,q1,q2,q3,q4,q5,q6,e1,e4.li,e4.fi,e4.ca,hix,hlv,hfg,hld,hfx,hlx,hln,hL]
  refine W_callHP (v:=.int .i64 (numC (txt l 1))) (ov:=[]) rfl rfl rfl rfl ⟨rfl,rfl⟩ (by simp only [go_sem]; exact Number_ok (hs:=by have:=hs 1; exact Nat.le_trans this (by decide))) ?_
  simp (maxSteps:=999999) (disch:=omega) only [go_sem,e1,e4.li,e4.fi,e4.ca,hix,hlv,hfg,hld,hfx,hlx,hln,hL]
  refine W_callHF (S:=[]) (R:=fun v h'=>SlF h h' v (listOf L.fl.now (numC (txt l 1)))) (ov:=[]) rfl rfl rfl rfl ⟨rfl,rfl⟩ (by simp only [go_sem]; exact upV (upT (List_ok (f:=f) (c:=c) (a:=L.fl.now) (b:=L.fl.disk) (st:=L.fl.stamp) (by exact hl) (by simp only [go_sem,e4.fi]) (by simp only [go_sem,e4.ca])))) (fun v h1 e=>e) ?_
  intro w h1 hF hs1
  have hD1:=hD.same hF
  have hl4:=listOf_len L.fl.now (numC (txt l 1))
  have hsy:=list_len (n:=bs.length) hi.now (numC (txt l 1)) hm
  generalize hm0 : listOf L.fl.now (numC (txt l 1)) = ms at hs1 hl4 hsy ⊢
  refine W_appStk (u:=34) (s:=wNames) (m:=ms) (by simp only [go_sem]) rfl (hs1.txs.elems fun i hb=>look_below hb) (by omega) ?_ ?_
  ·rintro rfl
   simp (maxSteps:=999999) (disch:=omega) only [go_sem]
   refine W_callD (h0:=h0) (R:=fun v=>v = .tup .unit) (L':=L) (bs':=bs ++ sayL ([wNames])) (d:=d) (p:=p) (f0:=f0) (c0:=c0) rfl ⟨rfl,rfl⟩ hD1.stk (by simp only [go_sem]; exact Say_ok (ws:=[wNames]) (by exact hl) hD1.push (Txs_own (ws:=[wNames]) rfl rfl) (by first | (simp; done) | (simp; omega)) hsy) ?_
   rintro _ h2 rfl hD2
   simp (maxSteps:=999999) (disch:=omega) only [go_sem]
   exact hD2
  ·intro _
   simp (maxSteps:=999999) (disch:=omega) only [go_sem]
   refine W_callD (h0:=h0) (R:=fun v=>v = .tup .unit) (L':=L) (bs':=bs ++ sayL (wNames :: ms)) (d:=d) (p:=p) (f0:=f0) (c0:=c0) rfl ⟨rfl,rfl⟩ hD1.stk (by simp only [go_sem]; exact Say_ok (ws:=wNames :: ms) (by exact hl) hD1.push (Txs_own (ws:=wNames :: ms) rfl rfl) (by first | (simp; done) | (simp; omega)) hsy) ?_
   rintro _ h2 rfl hD2
   simp (maxSteps:=999999) (disch:=omega) only [go_sem]
   exact hD2
 ·have hL2 : ¬l.length = 2:=by omega
  have ea : askC L l = none:=by simp [askC,hk,hL2,wRead,wList,wSame,wSure,wDisk,wDirty,wLost]
  unfold AskOk
  rw [ea,Ok_eq]
  simp only [Option.isSome_none,Option.getD_none,List.append_nil]
  simp (maxSteps:=999999) (disch:=omega) only [go_sem,q0,q1,q2,q3,q4,q5,q6,e1,hix,hlv,hfg,hld,hfx,hlx,hln,hL]
  exact hD
theorem Ask_same {v : AV} {l : List Str} (hl : ∀ n,cx.prot.lets (.obj n) = true) (hD : DK h0 h d p f0 c0 L bs) (hi : LTight L) (hv : Txs h cx.lvl v l) (hpos : 0 < l.length) (hs : ∀ i,(txt l i).size ≤ 10000) (hm : bs.length + 4000 ≤ 1048576) (hk : txt l 0 = ⟨#[115,97,109,101]⟩) : AskOk cx h0 h d p f0 c0 L bs v l:=by
 obtain ⟨st,fr,a,b,f,c,e1,e2,e3,e4,e5⟩:=id hD
 have hix:=fun z sl own=>hv.ix (cx:=cx) (kk:=.i64) (z:=z) sl own
 have hlv:=fun z sl own=>hv.lv (cx:=cx) (z:=z) sl own
 have hfg:=fun t=>hv.fg (t:=t)
 have hld:=fun t=>hv.ld (t:=t)
 have hfx:=fun z t=>hv.fgx (t:=t) z
 have hlx:=fun z t=>hv.ldx (t:=t) z
 have hln:=hv.len
 have q0 : decide (txt l 0 = ⟨#[114,101,97,100]⟩) = false:=by rw [hk]; decide
 have q1 : decide (txt l 0 = ⟨#[108,105,115,116]⟩) = false:=by rw [hk]; decide
 have q2 : decide (txt l 0 = ⟨#[115,97,109,101]⟩) = true:=by rw [hk]; decide
 have q3 : decide (txt l 0 = ⟨#[115,117,114,101]⟩) = false:=by rw [hk]; decide
 have q4 : decide (txt l 0 = ⟨#[100,105,115,107]⟩) = false:=by rw [hk]; decide
 have q5 : decide (txt l 0 = ⟨#[100,105,114,116,121]⟩) = false:=by rw [hk]; decide
 have q6 : decide (txt l 0 = ⟨#[108,111,115,116]⟩) = false:=by rw [hk]; decide
 by_cases hL : (l.length : Int) = 5
 ·have hL2 : l.length = 5:=by omega
  have ea : askC L l = some (sayL [boolS (sameB L.fl.now (numC (txt l 1)) (txt l 2) (numC (txt l 3)) (txt l 4))]):=by simp [askC,hk,hL2,wRead,wList,wSame,wSure,wDisk,wDirty,wLost]
  unfold AskOk
  rw [ea,Ok_eq]
  simp only [Option.isSome_some,Option.getD_some]
  simp (maxSteps:=999999) (disch:=omega) only [go_sem,q0,q1,q2,q3,q4,q5,q6,e1,e4.li,e4.fi,e4.ca,hix,hlv,hfg,hld,hfx,hlx,hln,hL]
  refine W_callHP (v:=.int .i64 (numC (txt l 1))) rfl rfl rfl rfl ⟨rfl,rfl⟩ (by simp only [go_sem]; exact Number_ok (hs:=by have:=hs 1; exact Nat.le_trans this (by decide))) ?_
  simp (maxSteps:=999999) (disch:=omega) only [go_sem,e1,e4.li,e4.fi,e4.ca,hix,hlv,hfg,hld,hfx,hlx,hln,hL]
  refine W_callHP (v:=.int .i64 (numC (txt l 3))) rfl rfl rfl rfl ⟨rfl,rfl⟩ (by simp only [go_sem]; exact Number_ok (hs:=by have:=hs 3; exact Nat.le_trans this (by decide))) ?_
  simp (maxSteps:=999999) (disch:=omega) only [go_sem,e1,e4.li,e4.fi,e4.ca,hix,hlv,hfg,hld,hfx,hlx,hln,hL]
  refine W_callHP (v:=.bool (sameB L.fl.now (numC (txt l 1)) (txt l 2) (numC (txt l 3)) (txt l 4))) rfl rfl rfl rfl ⟨rfl,rfl⟩ (by simp only [go_sem]; exact upV (upT (Same_ok (f:=f) (c:=c) (a:=L.fl.now) (b:=L.fl.disk) (st:=L.fl.stamp) (by simp only [go_sem,e4.fi]) (by simp only [go_sem,e4.ca])))) ?_
  generalize sameB L.fl.now (numC (txt l 1)) (txt l 2) (numC (txt l 3)) (txt l 4) = bb
  simp (maxSteps:=999999) (disch:=omega) only [go_sem,e1,e4.li,e4.fi,e4.ca,hix,hlv,hfg,hld,hfx,hlx,hln,hL]
  refine W_callHP (v:=.str (boolS bb)) rfl rfl rfl rfl ⟨rfl,rfl⟩ (by simp only [go_sem]; exact FormatS_ok) ?_
  simp (maxSteps:=999999) (disch:=omega) only [go_sem,e1,e4.li,e4.fi,e4.ca,hix,hlv,hfg,hld,hfx,hlx,hln,hL]
  refine W_callD (h0:=h0) (R:=fun v=>v = .tup .unit) (L':=L) (bs':=bs ++ sayL ([boolS bb])) (d:=d) (p:=p) (f0:=f0) (c0:=c0) rfl ⟨rfl,rfl⟩ hD.stk (by simp only [go_sem]; exact Say_ok (ws:=[boolS bb]) (by exact hl) hD.push (Txs_own (ws:=[boolS bb]) rfl rfl) (by first | (simp; done) | (simp; omega)) (one_len (boolS_len bb) hm)) ?_
  rintro _ h2 rfl hD2
  simp (maxSteps:=999999) (disch:=omega) only [go_sem]
  exact hD2
 ·have hL2 : ¬l.length = 5:=by omega
  have ea : askC L l = none:=by simp [askC,hk,hL2,wRead,wList,wSame,wSure,wDisk,wDirty,wLost]
  unfold AskOk
  rw [ea,Ok_eq]
  simp only [Option.isSome_none,Option.getD_none,List.append_nil]
  simp (maxSteps:=999999) (disch:=omega) only [go_sem,q0,q1,q2,q3,q4,q5,q6,e1,hix,hlv,hfg,hld,hfx,hlx,hln,hL]
  exact hD
theorem Ask_sure {v : AV} {l : List Str} (hl : ∀ n,cx.prot.lets (.obj n) = true) (hD : DK h0 h d p f0 c0 L bs) (hi : LTight L) (hv : Txs h cx.lvl v l) (hpos : 0 < l.length) (hs : ∀ i,(txt l i).size ≤ 10000) (hm : bs.length + 4000 ≤ 1048576) (hk : txt l 0 = ⟨#[115,117,114,101]⟩) : AskOk cx h0 h d p f0 c0 L bs v l:=by
 obtain ⟨st,fr,a,b,f,c,e1,e2,e3,e4,e5⟩:=id hD
 have hix:=fun z sl own=>hv.ix (cx:=cx) (kk:=.i64) (z:=z) sl own
 have hlv:=fun z sl own=>hv.lv (cx:=cx) (z:=z) sl own
 have hfg:=fun t=>hv.fg (t:=t)
 have hld:=fun t=>hv.ld (t:=t)
 have hfx:=fun z t=>hv.fgx (t:=t) z
 have hlx:=fun z t=>hv.ldx (t:=t) z
 have hln:=hv.len
 have q0 : decide (txt l 0 = ⟨#[114,101,97,100]⟩) = false:=by rw [hk]; decide
 have q1 : decide (txt l 0 = ⟨#[108,105,115,116]⟩) = false:=by rw [hk]; decide
 have q2 : decide (txt l 0 = ⟨#[115,97,109,101]⟩) = false:=by rw [hk]; decide
 have q3 : decide (txt l 0 = ⟨#[115,117,114,101]⟩) = true:=by rw [hk]; decide
 have q4 : decide (txt l 0 = ⟨#[100,105,115,107]⟩) = false:=by rw [hk]; decide
 have q5 : decide (txt l 0 = ⟨#[100,105,114,116,121]⟩) = false:=by rw [hk]; decide
 have q6 : decide (txt l 0 = ⟨#[108,111,115,116]⟩) = false:=by rw [hk]; decide
 by_cases hL : (l.length : Int) = 3
 ·have hL2 : l.length = 3:=by omega
  have ea : askC L l = some (sayL [boolS (sureB L.fl.now L.fl.disk (numC (txt l 1)) (txt l 2))]):=by simp [askC,hk,hL2,wRead,wList,wSame,wSure,wDisk,wDirty,wLost]
  unfold AskOk
  rw [ea,Ok_eq]
  simp only [Option.isSome_some,Option.getD_some]
  simp (maxSteps:=999999) (disch:=omega) only [go_sem,q0,q1,q2,q3,q4,q5,q6,e1,e4.li,e4.fi,e4.ca,hix,hlv,hfg,hld,hfx,hlx,hln,hL]
  refine W_callHP (v:=.int .i64 (numC (txt l 1))) rfl rfl rfl rfl ⟨rfl,rfl⟩ (by simp only [go_sem]; exact Number_ok (hs:=by have:=hs 1; exact Nat.le_trans this (by decide))) ?_
  simp (maxSteps:=999999) (disch:=omega) only [go_sem,e1,e4.li,e4.fi,e4.ca,hix,hlv,hfg,hld,hfx,hlx,hln,hL]
  refine W_callHP (v:=.bool (sureB L.fl.now L.fl.disk (numC (txt l 1)) (txt l 2))) rfl rfl rfl rfl ⟨rfl,rfl⟩ (by simp only [go_sem]; exact upV (upT (Sure_ok (f:=f) (c:=c) (a:=L.fl.now) (b:=L.fl.disk) (st:=L.fl.stamp) (by simp only [go_sem,e4.fi]) (by simp only [go_sem,e4.ca])))) ?_
  generalize sureB L.fl.now L.fl.disk (numC (txt l 1)) (txt l 2) = bb
  simp (maxSteps:=999999) (disch:=omega) only [go_sem,e1,e4.li,e4.fi,e4.ca,hix,hlv,hfg,hld,hfx,hlx,hln,hL]
  refine W_callHP (v:=.str (boolS bb)) rfl rfl rfl rfl ⟨rfl,rfl⟩ (by simp only [go_sem]; exact FormatS_ok) ?_
  simp (maxSteps:=999999) (disch:=omega) only [go_sem,e1,e4.li,e4.fi,e4.ca,hix,hlv,hfg,hld,hfx,hlx,hln,hL]
  refine W_callD (h0:=h0) (R:=fun v=>v = .tup .unit) (L':=L) (bs':=bs ++ sayL ([boolS bb])) (d:=d) (p:=p) (f0:=f0) (c0:=c0) rfl ⟨rfl,rfl⟩ hD.stk (by simp only [go_sem]; exact Say_ok (ws:=[boolS bb]) (by exact hl) hD.push (Txs_own (ws:=[boolS bb]) rfl rfl) (by first | (simp; done) | (simp; omega)) (one_len (boolS_len bb) hm)) ?_
  rintro _ h2 rfl hD2
  simp (maxSteps:=999999) (disch:=omega) only [go_sem]
  exact hD2
 ·have hL2 : ¬l.length = 3:=by omega
  have ea : askC L l = none:=by simp [askC,hk,hL2,wRead,wList,wSame,wSure,wDisk,wDirty,wLost]
  unfold AskOk
  rw [ea,Ok_eq]
  simp only [Option.isSome_none,Option.getD_none,List.append_nil]
  simp (maxSteps:=999999) (disch:=omega) only [go_sem,q0,q1,q2,q3,q4,q5,q6,e1,hix,hlv,hfg,hld,hfx,hlx,hln,hL]
  exact hD
theorem Ask_disk {v : AV} {l : List Str} (hl : ∀ n,cx.prot.lets (.obj n) = true) (hD : DK h0 h d p f0 c0 L bs) (hi : LTight L) (hv : Txs h cx.lvl v l) (hpos : 0 < l.length) (hs : ∀ i,(txt l i).size ≤ 10000) (hm : bs.length + 4000 ≤ 1048576) (hk : txt l 0 = ⟨#[100,105,115,107]⟩) : AskOk cx h0 h d p f0 c0 L bs v l:=by
 obtain ⟨st,fr,a,b,f,c,e1,e2,e3,e4,e5⟩:=id hD
 have hix:=fun z sl own=>hv.ix (cx:=cx) (kk:=.i64) (z:=z) sl own
 have hlv:=fun z sl own=>hv.lv (cx:=cx) (z:=z) sl own
 have hfg:=fun t=>hv.fg (t:=t)
 have hld:=fun t=>hv.ld (t:=t)
 have hfx:=fun z t=>hv.fgx (t:=t) z
 have hlx:=fun z t=>hv.ldx (t:=t) z
 have hln:=hv.len
 have q0 : decide (txt l 0 = ⟨#[114,101,97,100]⟩) = false:=by rw [hk]; decide
 have q1 : decide (txt l 0 = ⟨#[108,105,115,116]⟩) = false:=by rw [hk]; decide
 have q2 : decide (txt l 0 = ⟨#[115,97,109,101]⟩) = false:=by rw [hk]; decide
 have q3 : decide (txt l 0 = ⟨#[115,117,114,101]⟩) = false:=by rw [hk]; decide
 have q4 : decide (txt l 0 = ⟨#[100,105,115,107]⟩) = true:=by rw [hk]; decide
 have q5 : decide (txt l 0 = ⟨#[100,105,114,116,121]⟩) = false:=by rw [hk]; decide
 have q6 : decide (txt l 0 = ⟨#[108,111,115,116]⟩) = false:=by rw [hk]; decide
 by_cases hL : (l.length : Int) = 1
 ·have hL2 : l.length = 1:=by omega
  have ea : askC L l = some (textL L.fl.disk ++ sayL [wEnd]):=by simp [askC,hk,hL2,wRead,wList,wSame,wSure,wDisk,wDirty,wLost]
  unfold AskOk
  rw [ea,Ok_eq]
  simp only [Option.isSome_some,Option.getD_some]
  simp (maxSteps:=999999) (disch:=omega) only [go_sem,q0,q1,q2,q3,q4,q5,q6,e1,e4.li,e4.fi,e4.ca,hix,hlv,hfg,hld,hfx,hlx,hln,hL]
  refine W_callp rfl ⟨rfl,rfl⟩ (by simp only [go_sem]; exact upV (upT (eDisk (c:=c) (a:=L.fl.now) (b:=L.fl.disk) (by simp only [go_sem,e4.ca])))) ?_
  simp (maxSteps:=999999) (disch:=omega) only [go_sem]
  refine W_callp rfl ⟨rfl,rfl⟩ (by simp only [go_sem]; exact upV (Print_ok (m:=L.fl.disk) (p:=.stk cx.lvl 5) (q:=[]) (below_stk _ _) (by simp only [HP.push_rd_own,go_sem]) (slim_tight hi.disk))) ?_
  have htl:=textL_len hi.disk
  have hel : (sayL [wEnd]).length = 4:=by decide
  simp (maxSteps:=999999) (disch:=omega) only [go_sem]
  refine W_callD (h0:=h0) (R:=fun v=>True) (L':=L) (bs':=bs ++ textL L.fl.disk) (d:=d) (p:=p) (f0:=f0) (c0:=c0) rfl ⟨rfl,rfl⟩ hD.stk (by simp only [go_sem]; exact DWrite_ok (by exact hl) hD.push (by omega)) ?_
  rintro _ h1 _ hD1
  obtain ⟨bt,hbt⟩ : ∃ bt,bt = bs ++ textL L.fl.disk:=⟨_,rfl⟩
  rw [← hbt] at hD1
  simp (maxSteps:=999999) (disch:=omega) only [go_sem]
  refine W_callD (h0:=h0) (R:=fun v=>v = .tup .unit) (L':=L) (bs':=bt ++ sayL ([wEnd])) (d:=d) (p:=p) (f0:=f0) (c0:=c0) rfl ⟨rfl,rfl⟩ hD1.stk (by simp only [go_sem]; exact Say_ok (ws:=[wEnd]) (by exact hl) hD1.push (Txs_own (ws:=[wEnd]) rfl rfl) (by first | (simp; done) | (simp; omega)) (by rw [hbt,List.length_append]; omega)) ?_
  rintro _ h2 rfl hD2
  simp (maxSteps:=999999) (disch:=omega) only [go_sem]
  rw [← List.append_assoc,← hbt]
  exact hD2
 ·have hL2 : ¬l.length = 1:=by omega
  have ea : askC L l = none:=by simp [askC,hk,hL2,wRead,wList,wSame,wSure,wDisk,wDirty,wLost]
  unfold AskOk
  rw [ea,Ok_eq]
  simp only [Option.isSome_none,Option.getD_none,List.append_nil]
  simp (maxSteps:=999999) (disch:=omega) only [go_sem,q0,q1,q2,q3,q4,q5,q6,e1,hix,hlv,hfg,hld,hfx,hlx,hln,hL]
  exact hD
theorem Ask_dirty {v : AV} {l : List Str} (hl : ∀ n,cx.prot.lets (.obj n) = true) (hD : DK h0 h d p f0 c0 L bs) (hi : LTight L) (hv : Txs h cx.lvl v l) (hpos : 0 < l.length) (hs : ∀ i,(txt l i).size ≤ 10000) (hm : bs.length + 4000 ≤ 1048576) (hk : txt l 0 = ⟨#[100,105,114,116,121]⟩) : AskOk cx h0 h d p f0 c0 L bs v l:=by
 obtain ⟨st,fr,a,b,f,c,e1,e2,e3,e4,e5⟩:=id hD
 have hix:=fun z sl own=>hv.ix (cx:=cx) (kk:=.i64) (z:=z) sl own
 have hlv:=fun z sl own=>hv.lv (cx:=cx) (z:=z) sl own
 have hfg:=fun t=>hv.fg (t:=t)
 have hld:=fun t=>hv.ld (t:=t)
 have hfx:=fun z t=>hv.fgx (t:=t) z
 have hlx:=fun z t=>hv.ldx (t:=t) z
 have hln:=hv.len
 have q0 : decide (txt l 0 = ⟨#[114,101,97,100]⟩) = false:=by rw [hk]; decide
 have q1 : decide (txt l 0 = ⟨#[108,105,115,116]⟩) = false:=by rw [hk]; decide
 have q2 : decide (txt l 0 = ⟨#[115,97,109,101]⟩) = false:=by rw [hk]; decide
 have q3 : decide (txt l 0 = ⟨#[115,117,114,101]⟩) = false:=by rw [hk]; decide
 have q4 : decide (txt l 0 = ⟨#[100,105,115,107]⟩) = false:=by rw [hk]; decide
 have q5 : decide (txt l 0 = ⟨#[100,105,114,116,121]⟩) = true:=by rw [hk]; decide
 have q6 : decide (txt l 0 = ⟨#[108,111,115,116]⟩) = false:=by rw [hk]; decide
 by_cases hL : (l.length : Int) = 1
 ·have hL2 : l.length = 1:=by omega
  have ea : askC L l = some (sayL [bsL (dirtyT L 14)]):=by simp [askC,hk,hL2,wRead,wList,wSame,wSure,wDisk,wDirty,wLost]
  unfold AskOk
  rw [ea,Ok_eq]
  simp only [Option.isSome_some,Option.getD_some]
  simp (maxSteps:=999999) (disch:=omega) only [go_sem,q0,q1,q2,q3,q4,q5,q6,e1,e4.li,e4.fi,e4.ca,hix,hlv,hfg,hld,hfx,hlx,hln,hL]
  refine W_for 14 (fun k=>⟨[(0,.ptr (.obj d) [] tDesk),(6,.str (bsL (dirtyT L k))),(153,.int .i64 k)],[],h⟩) (by simp only [go_sem] <;> rfl) fun k hk ih=>?_
  have hdl:=dirtyT_len L k hk
  by_cases hlt : k < 14
  ·simp (maxSteps:=999999) (disch:=omega) only [go_sem,hlt,e1,e4.li,e4.fi]
   refine W_callp rfl ⟨rfl,rfl⟩ (by simp only [go_sem]; exact upV (upT (upE (CDirty_ok (n:=c) (a:=L.fl.now) (b:=L.fl.disk) (x:=(k : Int)) (rd_of e4.ca).1 (rd_of e4.ca).2)))) ?_
   cases cd : dirty L.fl.now L.fl.disk k with
   | true =>
    simp (maxSteps:=999999) (disch:=omega) only [go_sem,cd]
    refine W_callp rfl ⟨rfl,rfl⟩ (by simp only [go_sem]; exact DNum_ok (i64_small (n:=(k : Int)) (by omega) (by omega))) ?_
    have hnl:=numL_len (i64_small (n:=(k : Int)) (by omega) (by omega))
    have ea1 : evStr .add ⟨#[32]⟩ (bsL (numL k)) = some (.str (bsL ([32] ++ numL k))):=add_bsL (a:=[32]) (by simp; omega)
    have ea2 : evStr .add (bsL (dirtyT L k)) (bsL ([32] ++ numL k)) = some (.str (bsL (dirtyT L k ++ ([32] ++ numL k)))):=add_bsL (by simp; omega)
    simp only [List.cons_append,List.nil_append] at ea1 ea2
    simp (maxSteps:=999999) (disch:=omega) only [go_sem,ea1,ea2]
    refine ih _ hlt ?_
    simp only [go_sem,dirtyT,cd,if_true]
   | false =>
    simp (maxSteps:=999999) (disch:=omega) only [go_sem,cd]
    refine ih _ hlt ?_
    simp only [go_sem,dirtyT,cd,Bool.false_eq_true,if_false]
  ·obtain rfl : k = 14:=by omega
   simp (maxSteps:=999999) (disch:=omega) only [go_sem]
   refine W_callD (h0:=h0) (R:=fun v=>v = .tup .unit) (L':=L) (bs':=bs ++ sayL ([bsL (dirtyT L 14)])) (d:=d) (p:=p) (f0:=f0) (c0:=c0) rfl ⟨rfl,rfl⟩ hD.stk (by simp only [go_sem]; exact Say_ok (ws:=[bsL (dirtyT L 14)]) (by exact hl) hD.push (Txs_own (ws:=[bsL (dirtyT L 14)]) rfl rfl) (by first | (simp; done) | (simp; omega)) (one_len (by rw [bsL_size]; omega) hm)) ?_
   rintro _ h2 rfl hD2
   simp (maxSteps:=999999) (disch:=omega) only [go_sem]
   exact hD2
 ·have hL2 : ¬l.length = 1:=by omega
  have ea : askC L l = none:=by simp [askC,hk,hL2,wRead,wList,wSame,wSure,wDisk,wDirty,wLost]
  unfold AskOk
  rw [ea,Ok_eq]
  simp only [Option.isSome_none,Option.getD_none,List.append_nil]
  simp (maxSteps:=999999) (disch:=omega) only [go_sem,q0,q1,q2,q3,q4,q5,q6,e1,hix,hlv,hfg,hld,hfx,hlx,hln,hL]
  exact hD
theorem Ask_lost {v : AV} {l : List Str} (hl : ∀ n,cx.prot.lets (.obj n) = true) (hD : DK h0 h d p f0 c0 L bs) (hi : LTight L) (hv : Txs h cx.lvl v l) (hpos : 0 < l.length) (hs : ∀ i,(txt l i).size ≤ 10000) (hm : bs.length + 4000 ≤ 1048576) (hk : txt l 0 = ⟨#[108,111,115,116]⟩) : AskOk cx h0 h d p f0 c0 L bs v l:=by
 obtain ⟨st,fr,a,b,f,c,e1,e2,e3,e4,e5⟩:=id hD
 have hix:=fun z sl own=>hv.ix (cx:=cx) (kk:=.i64) (z:=z) sl own
 have hlv:=fun z sl own=>hv.lv (cx:=cx) (z:=z) sl own
 have hfg:=fun t=>hv.fg (t:=t)
 have hld:=fun t=>hv.ld (t:=t)
 have hfx:=fun z t=>hv.fgx (t:=t) z
 have hlx:=fun z t=>hv.ldx (t:=t) z
 have hln:=hv.len
 have q0 : decide (txt l 0 = ⟨#[114,101,97,100]⟩) = false:=by rw [hk]; decide
 have q1 : decide (txt l 0 = ⟨#[108,105,115,116]⟩) = false:=by rw [hk]; decide
 have q2 : decide (txt l 0 = ⟨#[115,97,109,101]⟩) = false:=by rw [hk]; decide
 have q3 : decide (txt l 0 = ⟨#[115,117,114,101]⟩) = false:=by rw [hk]; decide
 have q4 : decide (txt l 0 = ⟨#[100,105,115,107]⟩) = false:=by rw [hk]; decide
 have q5 : decide (txt l 0 = ⟨#[100,105,114,116,121]⟩) = false:=by rw [hk]; decide
 have q6 : decide (txt l 0 = ⟨#[108,111,115,116]⟩) = true:=by rw [hk]; decide
 by_cases hL : (l.length : Int) = 1
 ·have hL2 : l.length = 1:=by omega
  have ea : askC L l = some (sayL [wLost,bsL (numL L.n),bsL (numL L.a),bsL (numL L.b),bsL (numL L.c)]):=by simp [askC,hk,hL2,wRead,wList,wSame,wSure,wDisk,wDirty,wLost]
  unfold AskOk
  rw [ea,Ok_eq]
  simp only [Option.isSome_some,Option.getD_some]
  simp (maxSteps:=999999) (disch:=omega) only [go_sem,q0,q1,q2,q3,q4,q5,q6,e1,e4.li,e4.fi,e4.ca,hix,hlv,hfg,hld,hfx,hlx,hln,hL]
  refine W_callp rfl ⟨rfl,rfl⟩ (by simp only [go_sem]; exact upV (upT (Lost_ok (p:=p) (f:=f) (c:=c) e4.push))) ?_
  simp (maxSteps:=999999) (disch:=omega) only [go_sem,e1,e4.li,e4.fi,e4.ca,hix,hlv,hfg,hld,hfx,hlx,hln,hL]
  refine W_callHP (v:=.int .i64 L.n) rfl rfl rfl rfl ⟨rfl,rfl⟩ (by simp only [go_sem]; exact upV (upT (Crashes_ok (f:=f) (c:=c) e4.push))) ?_
  simp (maxSteps:=999999) (disch:=omega) only [go_sem,e1,e4.li,e4.fi,e4.ca,hix,hlv,hfg,hld,hfx,hlx,hln,hL]
  refine W_callHP (v:=.str (bsL (numL L.n))) rfl rfl rfl rfl ⟨rfl,rfl⟩ (by simp only [go_sem]; exact DNum_ok hi.cnt.2.2.2) ?_
  simp (maxSteps:=999999) (disch:=omega) only [go_sem,e1,e4.li,e4.fi,e4.ca,hix,hlv,hfg,hld,hfx,hlx,hln,hL]
  refine W_callHP (v:=.str (bsL (numL L.a))) rfl rfl rfl rfl ⟨rfl,rfl⟩ (by simp only [go_sem]; exact DNum_ok hi.cnt.1) ?_
  simp (maxSteps:=999999) (disch:=omega) only [go_sem,e1,e4.li,e4.fi,e4.ca,hix,hlv,hfg,hld,hfx,hlx,hln,hL]
  refine W_callHP (v:=.str (bsL (numL L.b))) rfl rfl rfl rfl ⟨rfl,rfl⟩ (by simp only [go_sem]; exact DNum_ok hi.cnt.2.1) ?_
  simp (maxSteps:=999999) (disch:=omega) only [go_sem,e1,e4.li,e4.fi,e4.ca,hix,hlv,hfg,hld,hfx,hlx,hln,hL]
  refine W_callHP (v:=.str (bsL (numL L.c))) rfl rfl rfl rfl ⟨rfl,rfl⟩ (by simp only [go_sem]; exact DNum_ok hi.cnt.2.2.1) ?_
  simp (maxSteps:=999999) (disch:=omega) only [go_sem,e1,e4.li,e4.fi,e4.ca,hix,hlv,hfg,hld,hfx,hlx,hln,hL]
  have hsz : bs.length + (sayL [wLost,bsL (numL L.n),bsL (numL L.a),bsL (numL L.b),bsL (numL L.c)]).length ≤ 1048576:=by
   have:=sayL_le (B:=60) (ws:=[wLost,bsL (numL L.n),bsL (numL L.a),bsL (numL L.b),bsL (numL L.c)]) (by
    have a1:=num_size hi.cnt.1
    have a2:=num_size hi.cnt.2.1
    have a3:=num_size hi.cnt.2.2.1
    have a4:=num_size hi.cnt.2.2.2
    have a0 : wLost.size = 4:=rfl
    intro w hw
    simp only [List.mem_cons,List.not_mem_nil,or_false] at hw
    rcases hw with rfl | rfl | rfl | rfl | rfl <;> omega)
   simp only [List.length_cons,List.length_nil] at this
   omega
  refine W_callD (h0:=h0) (R:=fun v=>v = .tup .unit) (L':=L) (bs':=bs ++ sayL ([wLost,bsL (numL L.n),bsL (numL L.a),bsL (numL L.b),bsL (numL L.c)])) (d:=d) (p:=p) (f0:=f0) (c0:=c0) rfl ⟨rfl,rfl⟩ hD.stk (by simp only [go_sem]; exact Say_ok (ws:=[wLost,bsL (numL L.n),bsL (numL L.a),bsL (numL L.b),bsL (numL L.c)]) (by exact hl) hD.push (Txs_own (ws:=[wLost,bsL (numL L.n),bsL (numL L.a),bsL (numL L.b),bsL (numL L.c)]) rfl rfl) (by first | (simp; done) | (simp; omega)) hsz) ?_
  rintro _ h2 rfl hD2
  simp (maxSteps:=999999) (disch:=omega) only [go_sem]
  exact hD2
 ·have hL2 : ¬l.length = 1:=by omega
  have ea : askC L l = none:=by simp [askC,hk,hL2,wRead,wList,wSame,wSure,wDisk,wDirty,wLost]
  unfold AskOk
  rw [ea,Ok_eq]
  simp only [Option.isSome_none,Option.getD_none,List.append_nil]
  simp (maxSteps:=999999) (disch:=omega) only [go_sem,q0,q1,q2,q3,q4,q5,q6,e1,hix,hlv,hfg,hld,hfx,hlx,hln,hL]
  exact hD
theorem Ask_ok {v : AV} {l : List Str} (hl : ∀ n,cx.prot.lets (.obj n) = true) (hD : DK h0 h d p f0 c0 L bs) (hi : LTight L) (hv : Txs h cx.lvl v l) (hpos : 0 < l.length) (hs : ∀ i,(txt l i).size ≤ 10000) (hm : bs.length + 4000 ≤ 1048576) : AskOk cx h0 h d p f0 c0 L bs v l:=by
 by_cases k0 : txt l 0 = ⟨#[114,101,97,100]⟩
 ·exact Ask_read hl hD hi hv hpos hs hm k0
 by_cases k1 : txt l 0 = ⟨#[108,105,115,116]⟩
 ·exact Ask_list hl hD hi hv hpos hs hm k1
 by_cases k2 : txt l 0 = ⟨#[115,97,109,101]⟩
 ·exact Ask_same hl hD hi hv hpos hs hm k2
 by_cases k3 : txt l 0 = ⟨#[115,117,114,101]⟩
 ·exact Ask_sure hl hD hi hv hpos hs hm k3
 by_cases k4 : txt l 0 = ⟨#[100,105,115,107]⟩
 ·exact Ask_disk hl hD hi hv hpos hs hm k4
 by_cases k5 : txt l 0 = ⟨#[100,105,114,116,121]⟩
 ·exact Ask_dirty hl hD hi hv hpos hs hm k5
 by_cases k6 : txt l 0 = ⟨#[108,111,115,116]⟩
 ·exact Ask_lost hl hD hi hv hpos hs hm k6
 obtain ⟨st,fr,a,b,f,c,e1,e2,e3,e4,e5⟩:=id hD
 have hix:=fun z sl own=>hv.ix (cx:=cx) (kk:=.i64) (z:=z) sl own
 have hlv:=fun z sl own=>hv.lv (cx:=cx) (z:=z) sl own
 have hfg:=fun t=>hv.fg (t:=t)
 have hld:=fun t=>hv.ld (t:=t)
 have hfx:=fun z t=>hv.fgx (t:=t) z
 have hlx:=fun z t=>hv.ldx (t:=t) z
 have hln:=hv.len
 have q0 : decide (txt l 0 = ⟨#[114,101,97,100]⟩) = false:=by simpa using k0
 have q1 : decide (txt l 0 = ⟨#[108,105,115,116]⟩) = false:=by simpa using k1
 have q2 : decide (txt l 0 = ⟨#[115,97,109,101]⟩) = false:=by simpa using k2
 have q3 : decide (txt l 0 = ⟨#[115,117,114,101]⟩) = false:=by simpa using k3
 have q4 : decide (txt l 0 = ⟨#[100,105,115,107]⟩) = false:=by simpa using k4
 have q5 : decide (txt l 0 = ⟨#[100,105,114,116,121]⟩) = false:=by simpa using k5
 have q6 : decide (txt l 0 = ⟨#[108,111,115,116]⟩) = false:=by simpa using k6
 have ea : askC L l = none:=by simp [askC,wRead,wList,wSame,wSure,wDisk,wDirty,wLost,k0,k1,k2,k3,k4,k5,k6]
 unfold AskOk
 rw [ea,Ok_eq]
 simp only [Option.isSome_none,Option.getD_none,List.append_nil]
 simp (maxSteps:=999999) (disch:=omega) only [go_sem,q0,q1,q2,q3,q4,q5,q6,e1,hix,hlv,hfg,hld,hfx,hlx,hln]
 exact hD
end
def wWhat : Str:=⟨#[119,104,97,116]⟩
def lineWs (s : Str) : List Str:=full (cutB s 32)
def tellC (L : Lf) (l : List Str) : List UInt8 × Lf:=if (wordsC l).2 = true then (sayL (stepW L (wordsC l).1),lifeF L (wordsC l).1) else ((askC L l).getD (sayL [wWhat]),L)
def lineC (L : Lf) (s : Str) : List UInt8 × Lf:=if lineWs s = [] then ([],L) else tellC L (lineWs s)
def runC (L : Lf) : List Str → List UInt8 × Lf
 | []=>([],L)
 | s :: r=>((lineC L s).1 ++ (runC (lineC L s).2 r).1,(runC (lineC L s).2 r).2)
theorem runC_append (L : Lf) : ∀ a b : List Str,runC L (a ++ b) = ((runC L a).1 ++ (runC (runC L a).2 b).1,(runC (runC L a).2 b).2)
 | [],b=>by simp [runC]
 | s :: a,b=>by simp [runC,runC_append (lineC L s).2 a b]
theorem runC_snoc (L : Lf) (a : List Str) (s : Str) : runC L (a ++ [s]) = ((runC L a).1 ++ (lineC (runC L a).2 s).1,(lineC (runC L a).2 s).2):=by
 rw [runC_append]; simp [runC]
theorem tight_tell {L : Lf} (h : LTight L) (l : List Str) : LTight (tellC L l).2:=by
 unfold tellC
 split
 ·exact h.lifeF _
 ·exact h
theorem tight_line {L : Lf} (h : LTight L) (s : Str) : LTight (lineC L s).2:=by
 unfold lineC
 split
 ·exact h
 ·exact tight_tell h _
theorem tight_run {L : Lf} (h : LTight L) : ∀ l,LTight (runC L l).2
 | []=>h
 | s :: r=>tight_run (tight_line h s) r
theorem readW_len {L : Lf} (h : LTight L) (l : List Str) {n : Nat} (hm : n + 4000 ≤ 1048576) : n + (sayL (readW L l)).length ≤ 1048576:=by
 unfold readW
 dsimp only
 split
 ·exact two_len (by decide) (Nat.le_trans (num_size (readC_code _ _ _ _)) (by decide)) hm
 split
 ·exact one_len (by decide) hm
 ·refine one_len ?_ hm
  rw [bsL_size]
  have:=showL_len (readT L.fl.now (numC (txt l 0)) (txt l 1) (numC (txt l 2))).data.toList
  have h2 : (readT L.fl.now (numC (txt l 0)) (txt l 1) (numC (txt l 2))).data.toList.length = (readT L.fl.now (numC (txt l 0)) (txt l 1) (numC (txt l 2))).size:=Array.length_toList
  have h3 : (readT L.fl.now (numC (txt l 0)) (txt l 1) (numC (txt l 2))).size ≤ 8:=by
   unfold readT
   split
   ·exact (h.now.dat _).2
   ·decide
  omega
theorem askC_len {L : Lf} (h : LTight L) (l : List Str) {t : List UInt8} (ht : askC L l = some t) {n : Nat} (hm : n + 4000 ≤ 1048576) : n + t.length ≤ 1048576:=by
 unfold askC at ht
 split at ht
 ·injection ht with ht; subst ht; exact readW_len h _ hm
 split at ht
 ·injection ht with ht; subst ht; exact list_len h.now _ hm
 split at ht
 ·injection ht with ht; subst ht; exact one_len (boolS_len _) hm
 split at ht
 ·injection ht with ht; subst ht; exact one_len (boolS_len _) hm
 split at ht
 ·injection ht with ht; subst ht
  have:=textL_len h.disk
  have hel : (sayL [wEnd]).length = 4:=by decide
  rw [List.length_append]
  omega
 split at ht
 ·injection ht with ht; subst ht
  refine one_len ?_ hm
  rw [bsL_size]
  have:=dirtyT_len L 14 (Nat.le_refl _)
  omega
 split at ht
 ·injection ht with ht; subst ht
  have:=sayL_le (B:=60) (ws:=[wLost,bsL (numL L.n),bsL (numL L.a),bsL (numL L.b),bsL (numL L.c)]) (by
   have a1:=num_size h.cnt.1
   have a2:=num_size h.cnt.2.1
   have a3:=num_size h.cnt.2.2.1
   have a4:=num_size h.cnt.2.2.2
   have a0 : wLost.size = 4:=rfl
   intro w hw
   simp only [List.mem_cons,List.not_mem_nil,or_false] at hw
   rcases hw with rfl | rfl | rfl | rfl | rfl <;> omega)
  simp only [List.length_cons,List.length_nil] at this
  omega
 ·exact absurd ht (by simp)
theorem tellC_len {L : Lf} (h : LTight L) (l : List Str) {n : Nat} (hm : n + 4000 ≤ 1048576) : n + (tellC L l).1.length ≤ 1048576:=by
 unfold tellC
 split
 ·exact stepW_len hm
 ·cases e : askC L l with
  | none=>exact one_len (by decide) hm
  | some t=>exact askC_len h l e hm
theorem lineC_len {L : Lf} (h : LTight L) (s : Str) : (lineC L s).1.length ≤ 4000:=by
 unfold lineC
 split
 ·simp
 ·have:=tellC_len h (lineWs s) (n:=1044576) (by decide)
  omega
theorem runC_len {L : Lf} (h : LTight L) : ∀ l,(runC L l).1.length ≤ 4000 * l.length
 | []=>by simp [runC]
 | s :: r=>by
  have h1:=lineC_len h s
  have h2:=runC_len (tight_line h s) r
  simp only [runC,List.length_append,List.length_cons,Nat.mul_add]
  omega
theorem splitB_size (sep : ByteArray) : ∀ (k : Nat) (s w : ByteArray),w ∈ Lib.splitB sep 0 k s → w.size ≤ s.size
 | 0,s,w,h=>by
  simp only [Lib.splitB,List.mem_singleton] at h
  subst h; exact Nat.le_refl _
 | k + 1,s,w,h=>by
  unfold Lib.splitB at h
  split at h
  ·simp only [List.mem_singleton] at h
   subst h; exact Nat.le_refl _
  ·rcases List.mem_cons.1 h with rfl | h
   ·simp only [ByteArray.size_extract]; omega
   ·have:=splitB_size sep k _ w h
    simp only [ByteArray.size_extract] at this
    omega
theorem word_len {s : Str} (w : Str) (hw : w ∈ lineWs s) : w.size ≤ s.size:=splitB_size _ _ _ _ (List.mem_filter.1 hw).1
theorem cut_count (s : Str) : (cutB s 32).length ≤ s.size + 1:=by
 have h1:=Lib.splitB_all ⟨#[32]⟩ (by decide) 0 _ s rfl
 have h2:=Lib.countB_le ⟨#[32]⟩ (by decide) s.size s (Nat.le_refl _)
 unfold cutB
 omega
theorem words_count (s : Str) : (lineWs s).length ≤ s.size + 1:=Nat.le_trans (List.length_filter_le _ _) (cut_count s)
theorem word_txt {s : Str} (hs : s.size ≤ 10000) (i : Nat) : (txt (lineWs s) i).size ≤ 10000:=by
 by_cases h : i < (lineWs s).length
 ·rw [txt_lt h]
  have:=word_len _ (List.getElem_mem h)
  omega
 ·have : txt (lineWs s) i = ⟨#[]⟩:=by
   simp only [txt,List.getD_eq_getElem?_getD,List.getElem?_eq_none (Nat.not_lt.1 h),Option.getD_none]
  rw [this]; decide
theorem meanL_len {l : List UInt8} : ((meanL l).getD []).length ≤ l.length:=by
 cases e : meanL l with
 | none=>simp
 | some o =>
  have : showL o = l:=by
   unfold meanL at e
   split at e
   ·split at e
    ·split at e
     ·injection e with e; subst e; assumption
     ·simp at e
    ·simp at e
   ·simp at e
  have:=showL_ge o
  simp only [Option.getD_some]
  subst_vars
  exact this
theorem wordsC_ok {l : List Str} (hs : ∀ i,(txt l i).size ≤ 10000) : (wordsC l).1.ok:=by
 have ht:=bsL_size ((meanL (txt l 4).data.toList).getD [])
 have hm:=meanL_len (l:=(txt l 4).data.toList)
 have hz : (txt l 4).data.toList.length = (txt l 4).size:=Array.length_toList
 have h2:=hs 2
 have h4:=hs 4
 have he : (⟨#[]⟩ : Str).size = 0:=rfl
 unfold wordsC stepC
 dsimp only
 constructor <;> (repeat' split) <;> (try dsimp only [step0]) <;> omega
abbrev tFault : Ty:=.cons tI (.cons tI .unit)
def encFa (a b : Int) : AV:=.cons (.int .i64 a) (.cons (.int .i64 b) .unit)
@[go_sem] theorem zero_Fa : (Ty.cons tI (.cons tI .unit)).zero = encFa 0 0:=rfl
@[go_sem] theorem fits_Fa (a b : Int) : ((Ty.cons tI (.cons tI .unit)).fits (encFa a b) = true) = True:=eq_true rfl
@[go_sem] theorem fill_Fa (a b : Int) : fill (.cons tI (.cons tI .unit)) (encFa 0 0) [(0,.int .i64 a),(1,.int .i64 b)] = some (encFa a b):=rfl
@[go_sem] theorem fill_Fa0 : fill (.cons tI (.cons tI .unit)) (encFa 0 0) [] = some (encFa 0 0):=rfl
@[go_sem] theorem isAgg_Fa (a b : Int) : (encFa a b).isAgg = true:=rfl
@[go_sem] theorem fg_Fa (a b : Int) (i : Id) : fg (encFa a b) i = encFa a b:=rfl
@[go_sem] theorem leads_Fa (a b : Int) (i : Id) : (encFa a b).leads i = false:=rfl
@[go_sem] theorem safe_Fa (a b : Int) : (encFa a b).safe = true:=rfl
@[go_sem] theorem field_Fa0 : Ty.field (.cons tI (.cons tI .unit)) 0 = some tI:=rfl
@[go_sem] theorem at_Fa0 (a b : Int) : (encFa a b).at [0] = some (.int .i64 a):=rfl
def notObj (v : AV) : Prop:=∀ q o n,v ≠ .sl (.obj q) o n
theorem Txs.fr {h h1 : HP} {l : Nat} {v : AV} {ws : List Str} {S : List Nat} (a : Txs h l v ws) (hF : Fr h h1 S) (hn : notObj v) : Txs h1 l v ws:=by
 rcases a with a | ⟨i,o,w,rfl,hb,hk,hr⟩
 ·exact .inl a
 ·refine .inr ⟨i,o,w,rfl,hb,?_,hr⟩
  cases i with
  | stk x t=>simp only [HP.look] at hk ⊢; rw [hF.stk]; exact hk
  | arg n=>simp only [HP.look] at hk ⊢; rw [hF.arg]; exact hk
  | obj q=>exact absurd rfl (hn q o _)
theorem Txs.frq {h h1 : HP} {l q n : Nat} {ws : List Str} {S : List Nat} (a : Txs h l (.sl (.obj q) 0 n) ws) (hF : Fr h h1 S) (hq : q < h.next) (hS : q ∉ S) : Txs h1 l (.sl (.obj q) 0 n) ws:=by
 rcases a with ⟨e | e,_⟩ | ⟨i,o,w,e,hb,hk,hr⟩
 ·simp at e
 ·simp at e
 ·simp only [AV.sl.injEq] at e
  obtain ⟨rfl,rfl,rfl⟩:=e
  exact .inr ⟨.obj q,0,w,rfl,hb,hF.look hq hS hk,hr⟩
structure DQ (h : HP) (d p f c : Nat) (L : Lf) : Prop where
 dk : ∃ a b,h.look (.obj d) = some ⟨tDesk,encDk a b p⟩
 li : LifeAt h p f c L
 dn : d < h.next
 dp : ¬d = p
 df : ¬d = f
 dc : ¬d = c
theorem DQ.push {h : HP} {d p f c l : Nat} {o : Own} {L : Lf} (a : DQ h d p f c L) : DQ (h.push l o) d p f c L:=⟨a.dk,a.li.push,a.dn,a.dp,a.df,a.dc⟩
theorem DQ.pop {h : HP} {d p f c l : Nat} {o : Own} {L : Lf} (a : DQ (h.push l o) d p f c L) : DQ h d p f c L:=⟨a.dk,a.li.pop,a.dn,a.dp,a.df,a.dc⟩
theorem DQ.fr {h h1 : HP} {d p f c : Nat} {L : Lf} {S : List Nat} (a : DQ h d p f c L) (hF : Fr h h1 S) (hd : d ∉ S) (h2 : p ∉ S) (h3 : f ∉ S) (h4 : c ∉ S) : DQ h1 d p f c L:=by
 obtain ⟨⟨x,y,e⟩,li,dn,dp,df,dc⟩:=a
 exact ⟨⟨x,y,hF.look dn hd e⟩,li.fr hF h2 h3 h4,Nat.lt_of_lt_of_le dn hF.next,dp,df,dc⟩
section
variable {cx : Cx} {h : HP} {d p f c : Nat} {L : Lf}
theorem bad_some {ls : List Str} : (ls.any fun s=>hasB s 10) = true ↔ ∃ i,i < ls.length ∧ hasB (txt ls i) 10 = true:=by
 rw [List.any_eq_true]
 constructor
 ·rintro ⟨s,hs,h⟩
  obtain ⟨i,hi,rfl⟩:=List.getElem_of_mem hs
  exact ⟨i,hi,by rw [txt_lt hi]; exact h⟩
 ·rintro ⟨i,hi,h⟩
  exact ⟨ls[i],List.getElem_mem hi,by rw [← txt_lt hi]; exact h⟩
theorem Bu.pushR {h0 h : HP} {l : Nat} {o : Own} {b : AV} {bs : List UInt8} (a : Bu h0 h b bs) : Bu h0 (h.push l o) b bs:=a
def badL (ls : List Str) : Bool:=ls.any fun s=>hasB s 10
theorem Do_bad {v : AV} {ls : List Str} (hv : Txs h cx.lvl v ls) (hn : ls.length ≤ 150) (hb : badL ls = true) :
  Ok tblV cx Fn.desk_Desk_Do (St.enter [.ptr (.obj d) [] tDesk,v] h) fun v' h'=>∃ i : Int,v' = .tup (.cons (.str ⟨#[]⟩) (.cons (encFa 15 i) .unit)) ∧ h' = h:=by
 have hix:=fun z sl own=>hv.ix (cx:=cx) (kk:=.i64) (z:=z) sl own
 have hlv:=fun z sl own=>hv.lv (cx:=cx) (z:=z) sl own
 have hfg:=fun t=>hv.fg (t:=t)
 have hld:=fun t=>hv.ld (t:=t)
 have hfx:=fun z t=>hv.fgx (t:=t) z
 have hlx:=fun z t=>hv.ldx (t:=t) z
 have hln:=hv.len
 have hL : ¬150 < (ls.length : Int):=by omega
 rw [Ok_eq]
 simp (maxSteps:=999999) (disch:=omega) only [go_sem,hln,hfg,hld,hL]
 refine W_forP ls.length (fun j=>⟨[(0,.ptr (.obj d) [] tDesk),(1,v),(5,.ptr (.stk cx.lvl 5) [] tFault),(17,v),(18,.int .i64 ls.length),(19,.int .i64 j)],[(5,⟨tFault,encFa 0 0⟩)],h⟩) (fun j=>∀ i,i < j → hasB (txt ls i) 10 = false) (by simp only [go_sem] <;> rfl) (fun i hi=>by omega) fun j hj hp ih=>?_
 by_cases hlt : j < ls.length
 ·simp (maxSteps:=999999) (disch:=omega) only [go_sem,hlt,hix,hlv,hfg,hld,hfx,hlx]
  refine W_callp rfl ⟨rfl,rfl⟩ (by simp only [go_sem]; exact SContains_ok) ?_
  cases c : hasB (txt ls j) 10 with
  | true =>
   simp (maxSteps:=999999) (disch:=omega) only [go_sem,c]
   exact ⟨j,rfl⟩
  | false =>
   simp (maxSteps:=999999) (disch:=omega) only [go_sem,c]
   refine ih _ hlt (step_all hp c) ?_
   simp only [go_sem]
 ·exfalso
  obtain rfl : j = ls.length:=by omega
  obtain ⟨i,hi,hx⟩:=bad_some.1 hb
  rw [hp i hi] at hx
  exact absurd hx (by decide)
theorem Do_good {v : AV} {ls : List Str} (hl : ∀ n,cx.prot.lets (.obj n) = true) (hQ : DQ h d p f c L) (hi : LTight L) (hv : Txs h cx.lvl v ls) (hno : notObj v) (hn : ls.length ≤ 150) (hs : ∀ i,(txt ls i).size ≤ 10000) (hb : badL ls = false) :
  Ok tblV cx Fn.desk_Desk_Do (St.enter [.ptr (.obj d) [] tDesk,v] h) fun v' h'=>Fr h h' [d,p,f,c] ∧ v' = .tup (.cons (.str (bsL (runC L ls).1)) (.cons (encFa 0 0) .unit)) ∧
   ∃ f' c',DQ h' d p f' c' (runC L ls).2 ∧ ((f' = f ∧ c' = c) ∨ (h.next ≤ f' ∧ h.next ≤ c')):=by
 have hix:=fun z sl own=>hv.ix (cx:=cx) (kk:=.i64) (z:=z) sl own
 have hlv:=fun z sl own=>hv.lv (cx:=cx) (z:=z) sl own
 have hfg:=fun t=>hv.fg (t:=t)
 have hld:=fun t=>hv.ld (t:=t)
 have hfx:=fun z t=>hv.fgx (t:=t) z
 have hlx:=fun z t=>hv.ldx (t:=t) z
 have hln:=hv.len
 have hL : ¬150 < (ls.length : Int):=by omega
 have hbad : ∀ i,i < ls.length → hasB (txt ls i) 10 = false:=by
  intro i hi
  cases e : hasB (txt ls i) 10 with
  | false=>rfl
  | true =>
   have:=bad_some.2 ⟨i,hi,e⟩
   rw [badL,this] at hb
   exact absurd hb (by decide)
 obtain ⟨⟨a,b,e1⟩,li,dn,dp,df,dc⟩:=id hQ
 rw [Ok_eq]
 simp (maxSteps:=999999) (disch:=omega) only [go_sem,hln,hfg,hld,hL]
 refine W_for ls.length (fun j=>⟨[(0,.ptr (.obj d) [] tDesk),(1,v),(5,.ptr (.stk cx.lvl 5) [] tFault),(17,v),(18,.int .i64 ls.length),(19,.int .i64 j)],[(5,⟨tFault,encFa 0 0⟩)],h⟩) (by simp only [go_sem] <;> rfl) fun j hj ih=>?_
 by_cases hlt : j < ls.length
 ·simp (maxSteps:=999999) (disch:=omega) only [go_sem,hlt,hix,hlv,hfg,hld,hfx,hlx]
  refine W_callp rfl ⟨rfl,rfl⟩ (by simp only [go_sem]; exact SContains_ok) ?_
  simp (maxSteps:=999999) (disch:=omega) only [go_sem,hbad j hlt]
  refine ih _ hlt ?_
  simp only [go_sem]
 simp (maxSteps:=999999) (disch:=omega) only [go_sem,hlt]
 refine W_callh (v:=.tup .unit) (h.ob d tDesk (encDk .nilp .nilsl p)) rfl ⟨rfl,rfl⟩ rfl (by simp only [go_sem]; exact Reset_ok (a:=a) (b:=b) (by exact hl) (by simp only [go_sem,e1])) ?_
 generalize hh1 : h.ob d tDesk (encDk .nilp .nilsl p) = h1
 have hF1 : Fr h h1 [d,p,f,c]:=by rw [← hh1]; exact Fr.ob (by simp)
 have hD1 : DK h1 h1 d p f c L []:=by
  have l1:=li.fr (S:=[d]) (h1:=h1) (by rw [← hh1]; exact Fr.ob (by simp)) (by simp; omega) (by simp; omega) (by simp; omega)
  have hnx:=hF1.next
  exact ⟨⟨by omega,l1.pn,l1.fn,l1.cn,dp,df,dc⟩,Fr.refl _ _,.nilp,.nilsl,f,c,by rw [← hh1]; exact look_ob,.inl rfl,.inl ⟨rfl,rfl⟩,l1,.inl ⟨rfl,rfl⟩⟩
 have hv1 : Txs h1 cx.lvl v ls:=hv.fr hF1 hno
 have h150:=runC_len hi
 simp (maxSteps:=999999) (disch:=omega) only [go_sem,hln,hfg,hld]
 refine W_forE (α:=HP) ls.length (fun j hp=>⟨[(0,.ptr (.obj d) [] tDesk),(5,.ptr (.stk cx.lvl 5) [] tFault),(33,v),(34,.int .i64 ls.length),(35,.int .i64 j)],[(5,⟨tFault,encFa 0 0⟩)],hp⟩)
  (fun j hp=>DK h1 hp d p f c (runC L (ls.take j)).2 (runC L (ls.take j)).1) h1 (by simp only [go_sem] <;> rfl) (by simpa [runC] using hD1) fun j hp hj hDj ih=>?_
 by_cases hlt : j < ls.length
 ·have hvp : Txs hp cx.lvl v ls:=hv1.fr hDj.fr hno
  have hixp:=fun z sl own=>hvp.ix (cx:=cx) (kk:=.i64) (z:=z) sl own
  have hlvp:=fun z sl own=>hvp.lv (cx:=cx) (z:=z) sl own
  have ej : ls.take (j + 1) = ls.take j ++ [txt ls j]:=by rw [txt_lt hlt,List.take_add_one,List.getElem?_eq_getElem hlt]; rfl
  have er:=runC_snoc L (ls.take j) (txt ls j)
  rw [← ej] at er
  have hLj:=tight_run hi (ls.take j)
  have hlen : (runC L (ls.take j)).1.length + 4000 ≤ 1048576:=by
   have:=h150 (ls.take j)
   simp only [List.length_take] at this
   omega
  have hsj:=hs j
  obtain ⟨s,es⟩ : ∃ s,txt ls j = s:=⟨_,rfl⟩
  rw [es] at er hsj
  generalize runC L (ls.take j) = Rj at er hDj hLj hlen
  simp (maxSteps:=999999) (disch:=omega) only [go_sem,hlt,hixp,hlvp,hfg,hld,hfx,hlx,es]
  refine W_callh (v:=.sl (.obj hp.next) 0 (cutB s 32).length) (hp.nw (.arr (cutB s 32).length tS) (encS (cutB s 32))) rfl ⟨rfl,rfl⟩ rfl (by simp only [go_sem]; exact Split_ok (by omega)) ?_
  obtain ⟨q,eq⟩ : ∃ q,hp.next = q:=⟨_,rfl⟩
  have hF2 : Fr hp (hp.nw (.arr (cutB s 32).length tS) (encS (cutB s 32))) []:=Fr.nw
  have hq2 : (hp.nw (.arr (cutB s 32).length tS) (encS (cutB s 32))).look (.obj q) = some ⟨.arr (cutB s 32).length tS,encS (cutB s 32)⟩:=by rw [← eq]; exact look_nw
  have hqn : q < (hp.nw (.arr (cutB s 32).length tS) (encS (cutB s 32))).next:=by rw [← eq]; exact Nat.lt_succ_self _
  have hcc:=cut_count s
  rw [eq]
  generalize hp.nw (.arr (cutB s 32).length tS) (encS (cutB s 32)) = h2 at hF2 hq2 hqn ⊢
  simp (maxSteps:=999999) (disch:=omega) only [go_sem]
  refine W_callF (S:=[q]) (R:=fun v h'=>v = .sl (.obj q) 0 (lineWs s).length ∧ ∃ w : List Str,w.length = (cutB s 32).length ∧ w.take (lineWs s).length = lineWs s ∧ h'.look (.obj q) = some ⟨.arr (cutB s 32).length tS,encS w⟩) rfl ⟨rfl,rfl⟩ (by
   simp only [go_sem]
   exact (Delete_ok (q:=q) (l:=cutB s 32) (by exact hl) (by simp only [go_sem,hq2]) (by omega)).mono fun v h' e=>by
    obtain ⟨e1,w,e2,e3,rfl⟩:=e
    exact ⟨Fr.ob (by simp),e1,w,e2,e3,look_ob⟩) (fun v h1 e=>e) ?_
  rintro _ h3 hF3 ⟨rfl,w,w1,w2,w3⟩
  have hlw : (lineWs s).length ≤ w.length:=by
   rw [w1]; exact List.length_filter_le _ _
  have hT3 : Txs h3 cx.lvl (.sl (.obj q) 0 (lineWs s).length) (lineWs s):=.inr ⟨.obj q,0,w,rfl,below_obj _ _,by rw [w3,w1],by omega,by rw [List.drop_zero]; exact w2⟩
  have hF23 : Fr hp h3 []:=⟨hF3.stk.trans hF2.stk,hF3.arg.trans hF2.arg,Nat.le_trans hF2.next hF3.next,fun n hn _=>(hF3.same n (Nat.lt_of_lt_of_le hn hF2.next) (by simp; omega)).trans (hF2.same n hn (by simp))⟩
  have hD3:=hDj.same hF23
  have hq3 : q < h3.next:=Nat.lt_of_lt_of_le hqn hF3.next
  have hwt:=fun i=>word_txt hsj i
  simp (maxSteps:=999999) (disch:=omega) only [go_sem]
  by_cases hw0 : ((lineWs s).length : Int) = 0
  ·simp (maxSteps:=999999) (disch:=omega) only [go_sem,hw0]
   refine ih _ h3 hlt ?_ ?_
   ·simp only [go_sem]
   ·have : lineC Rj.2 s = ([],Rj.2):=by
     unfold lineC
     rw [if_pos (List.length_eq_zero_iff.1 (by omega))]
    rw [er,this]
    simpa using hD3
  ·have hwn : ¬lineWs s = []:=fun e=>hw0 (by rw [e]; rfl)
   have hlc : lineC Rj.2 s = tellC Rj.2 (lineWs s):=by unfold lineC; rw [if_neg hwn]
   rw [hlc] at er
   have hwc:=words_count s
   simp (maxSteps:=999999) (disch:=omega) only [go_sem,hw0]
   refine W_callF (S:=[]) (R:=fun v h'=>v = .tup (.cons (wordsC (lineWs s)).1.enc (.cons (.bool (wordsC (lineWs s)).2) .unit))) rfl ⟨rfl,rfl⟩ (by simp only [go_sem]; exact Words_ok (by exact hl) hT3.push (by omega) (by omega) hwt) (fun _ _ e=>e) ?_
   rintro _ h4 hF4 rfl
   have hD4:=hD3.same hF4
   have hT4:=hT3.frq hF4 hq3 (by simp)
   have hxo:=wordsC_ok hwt
   simp (maxSteps:=999999) (disch:=omega) only [go_sem]
   cases hw : (wordsC (lineWs s)).2 with
   | true =>
    have ht : tellC Rj.2 (lineWs s) = (sayL (stepW Rj.2 (wordsC (lineWs s)).1),lifeF Rj.2 (wordsC (lineWs s)).1):=by unfold tellC; rw [if_pos hw]
    rw [ht] at er
    simp (maxSteps:=999999) (disch:=omega) only [go_sem,hw]
    refine W_callD (h0:=h1) (R:=fun v=>v = .tup .unit) (L':=lifeF Rj.2 (wordsC (lineWs s)).1) (bs':=Rj.1 ++ sayL (stepW Rj.2 (wordsC (lineWs s)).1)) (d:=d) (p:=p) (f0:=f) (c0:=c) rfl ⟨rfl,rfl⟩ hD4.stk (by simp only [go_sem]; exact DStep_ok (by exact hl) hD4.push hLj.inv hxo hlen) ?_
    rintro _ h5 rfl hD5
    simp (maxSteps:=999999) (disch:=omega) only [go_sem]
    refine ih _ h5 hlt ?_ ?_
    ·simp only [go_sem,hfg]
    ·rw [er]; exact hD5
   | false =>
    simp (maxSteps:=999999) (disch:=omega) only [go_sem,hw]
    refine W_callD (h0:=h1) (R:=fun v=>v = .bool (askC Rj.2 (lineWs s)).isSome) (L':=Rj.2) (bs':=Rj.1 ++ (askC Rj.2 (lineWs s)).getD []) (d:=d) (p:=p) (f0:=f) (c0:=c) rfl ⟨rfl,rfl⟩ hD4.stk (by simp only [go_sem]; exact Ask_ok (by exact hl) hD4.push hLj hT4.push (by omega) hwt hlen) ?_
    rintro _ h5 rfl hD5
    cases ha : askC Rj.2 (lineWs s) with
    | some t =>
     have ht : tellC Rj.2 (lineWs s) = (t,Rj.2):=by unfold tellC; rw [if_neg (by rw [hw]; decide),ha]; rfl
     rw [ht] at er
     rw [ha] at hD5
     simp only [Option.getD_some] at hD5
     simp (maxSteps:=999999) (disch:=omega) only [go_sem,ha,Option.isSome_some]
     refine ih _ h5 hlt ?_ ?_
     ·simp only [go_sem,hfg]
     ·rw [er]; exact hD5
    | none =>
     have ht : tellC Rj.2 (lineWs s) = (sayL [wWhat],Rj.2):=by unfold tellC; rw [if_neg (by rw [hw]; decide),ha]; rfl
     rw [ht] at er
     rw [ha] at hD5
     simp only [Option.getD_none,List.append_nil] at hD5
     simp (maxSteps:=999999) (disch:=omega) only [go_sem,ha,Option.isSome_none]
     refine W_callD (h0:=h1) (R:=fun v=>v = .tup .unit) (L':=Rj.2) (bs':=Rj.1 ++ sayL [wWhat]) (d:=d) (p:=p) (f0:=f) (c0:=c) rfl ⟨rfl,rfl⟩ hD5.stk (by simp only [go_sem]; exact Say_ok (ws:=[wWhat]) (by exact hl) hD5.push (Txs_own (ws:=[wWhat]) rfl rfl) (by simp) (one_len (by decide) hlen)) ?_
     rintro _ h6 rfl hD6
     simp (maxSteps:=999999) (disch:=omega) only [go_sem]
     refine ih _ h6 hlt ?_ ?_
     ·simp only [go_sem,hfg]
     ·rw [er]; exact hD6
 ·obtain rfl : j = ls.length:=by omega
  rw [List.take_length] at hDj
  simp (maxSteps:=999999) (disch:=omega) only [go_sem,hlt]
  obtain ⟨st,fr,a',b',f',c',g1,g2,g3,g4,g5⟩:=id hDj
  have hbn : ∀ n ∈ blkOf b',h1.next ≤ n:=by
   rcases g3 with ⟨rfl,_⟩ | ⟨g,rfl,g6,_⟩ <;> simp [blkOf]
   exact g6
  refine W_callF (S:=blkOf b') (R:=fun v h'=>v = .str (bsL (runC L ls).1)) rfl ⟨rfl,rfl⟩ (by
   simp only [go_sem]
   exact (BString_ok (h0:=h1) (a:=a') (b:=b') (p:=p) (bs:=(runC L ls).1) (by exact hl) (by simp only [go_sem,g1]) g2 g3.pushR (by have:=h150 ls; omega)).mono fun v h' e=>⟨e.2,e.1⟩) (fun _ _ e=>e) ?_
  rintro _ h5 hF5 rfl
  simp (maxSteps:=999999) (disch:=omega) only [go_sem,hfg]
  have hn1:=hF1.next
  have hn2:=fr.next
  refine ⟨⟨hF5.stk.trans (fr.stk.trans hF1.stk),hF5.arg.trans (fr.arg.trans hF1.arg),Nat.le_trans hn1 (Nat.le_trans hn2 hF5.next),fun n hnn hS=>?_⟩,f',c',?_,?_⟩
  ·rw [hF5.same n (by omega) (fun e=>by have:=hbn n e; omega),fr.same n (by omega) hS,hF1.same n hnn hS]
  ·refine ⟨⟨a',b',hF5.look (by omega) (fun e=>by have:=hbn d e; omega) g1⟩,g4.fr hF5 (g3.not g4.li (by simp [tLife])) (g3.not g4.fi (by simp [tFiles])) (g3.not g4.ca (by simp [tCache])),by have:=hF5.next; omega,dp,?_,?_⟩
   ·rcases g5 with ⟨rfl,rfl⟩ | ⟨x1,x2⟩
    ·exact df
    ·omega
   ·rcases g5 with ⟨rfl,rfl⟩ | ⟨x1,x2⟩
    ·exact dc
    ·omega
  ·rcases g5 with ⟨rfl,rfl⟩ | ⟨x1,x2⟩
   ·exact .inl ⟨rfl,rfl⟩
   ·exact .inr ⟨by omega,by omega⟩
end
@[go_sem] theorem fill_Dk (p : Nat) : fill (.cons (.cons tP (.cons tSl .unit)) (.cons tP .unit)) (Ty.zero (.cons (.cons tP (.cons tSl .unit)) (.cons tP .unit))) [(1,.ptr (.obj p) [] tLife)] = some (encDk .nilp .nilsl p):=rfl
@[go_sem] theorem fits_Dk (p : Nat) : (tDesk.fits (encDk .nilp .nilsl p) = true) = True:=eq_true rfl
section
variable {T : Nat → Option MFun} {cx : Cx} {k : List Item} {kill : List Nat} {r : List MOp} {sl : Slots} {own : Own} {h : HP} {Q : St → Prop}
@[go_sem] theorem WBX_desk {p : Nat} {d : Nat} : WBX T cx (.cons (.cons tP (.cons tSl .unit)) (.cons tP .unit)) (encDk .nilp .nilsl p) d r kill k sl own h Q = W T cx (.ops r kill :: k) ⟨sl.set d (.ptr (.obj h.next) [] tDesk),own,h.nw tDesk (encDk .nilp .nilsl p)⟩ Q:=by
 have : (Ty.fits (.cons (.cons tP (.cons tSl .unit)) (.cons tP .unit)) (encDk .nilp .nilsl p) = true) = True:=fits_Dk p
 simp only [WBX,this,true_and]
@[go_sem] theorem W_boxDesk {d : Nat} {x : Opd} : W T cx (.ops (⟨some d,.box true (.cons (.cons tP (.cons tSl .unit)) (.cons tP .unit)) x,none⟩ :: r) kill :: k) ⟨sl,own,h⟩ Q = WBX T cx (.cons (.cons tP (.cons tSl .unit)) (.cons tP .unit)) (St.opd ⟨sl,own,h⟩ x) d r kill k sl own h Q:=W_boxX
end
def doT (L : Lf) (ls : List Str) : List UInt8:=if badL ls = true then [] else (runC L ls).1
def doE (ls : List Str) : Int:=if badL ls = true then 15 else 0
def doL (L : Lf) (ls : List Str) : Lf:=if badL ls = true then L else (runC L ls).2
section
variable {cx : Cx} {h : HP} {d p f c : Nat} {L : Lf}
theorem DeskDo_ok {v : AV} {ls : List Str} (hl : ∀ n,cx.prot.lets (.obj n) = true) (hQ : DQ h d p f c L) (hi : LTight L) (hv : Txs h cx.lvl v ls) (hno : notObj v) (hn : ls.length ≤ 150) (hs : ∀ i,(txt ls i).size ≤ 10000) :
  Ok tblV cx Fn.desk_Desk_Do (St.enter [.ptr (.obj d) [] tDesk,v] h) fun v' h'=>Fr h h' [d,p,f,c] ∧ ∃ (i : Int) (f' c' : Nat),v' = .tup (.cons (.str (bsL (doT L ls))) (.cons (encFa (doE ls) i) .unit)) ∧
   DQ h' d p f' c' (doL L ls) ∧ ((f' = f ∧ c' = c) ∨ (h.next ≤ f' ∧ h.next ≤ c')):=by
 cases hb : badL ls with
 | true =>
  refine (Do_bad (d:=d) hv hn hb).mono fun v' h' e=>?_
  obtain ⟨i,rfl,rfl⟩:=e
  refine ⟨Fr.refl _ _,i,f,c,?_,?_,.inl ⟨rfl,rfl⟩⟩
  ·simp only [doT,doE,hb,if_true]; rfl
  ·simp only [doL,hb,if_true]; exact hQ
 | false =>
  refine (Do_good hl hQ hi hv hno hn hs hb).mono fun v' h' e=>?_
  obtain ⟨hF,rfl,f',c',e1,e2⟩:=e
  refine ⟨hF,0,f',c',?_,?_,e2⟩
  ·simp only [doT,doE,hb,Bool.false_eq_true,if_false]
  ·simp only [doL,hb,Bool.false_eq_true,if_false]; exact e1
theorem tight_do (hi : LTight L) (ls : List Str) : LTight (doL L ls):=by
 unfold doL
 split
 ·exact hi
 ·exact tight_run hi ls
theorem DNew_ok : Ok tblV cx Fn.desk_New (St.enter [] h) fun v h'=>Fr h h' [] ∧ v = .ptr (.obj (h.next + 3)) [] tDesk ∧ DQ h' (h.next + 3) (h.next + 2) (h.next + 1) h.next Lf.new ∧ h'.next = h.next + 4:=by
 rw [Ok_eq]
 simp (maxSteps:=999999) (disch:=omega) only [go_sem]
 refine W_callh (v:=.ptr (.obj (h.next + 2)) [] tLife) (((h.nw tCache (encC .blank .blank)).nw tFiles (encF h.next 0)).nw tLife (encLi (h.next + 1) 0 0 0 0)) rfl ⟨rfl,rfl⟩ rfl (by simp only [go_sem]; exact upV (upT LNew_ok)) ?_
 simp (maxSteps:=999999) (disch:=omega) only [go_sem]
 have hF : Fr h ((((h.nw tCache (encC .blank .blank)).nw tFiles (encF h.next 0)).nw tLife (encLi (h.next + 1) 0 0 0 0)).nw tDesk (encDk .nilp .nilsl (h.next + 2))) []:=((Fr.nw.trans Fr.nw).trans Fr.nw).trans Fr.nw
 refine ⟨hF,⟨.nilp,.nilsl,?_⟩,?_,?_,by omega,by omega,by omega⟩
 ·exact look_nw (h:=((h.nw tCache (encC .blank .blank)).nw tFiles (encF h.next 0)).nw tLife (encLi (h.next + 1) 0 0 0 0))
 ·constructor <;> try dsimp only
  ·rw [look_nw_ne (by show ¬h.next + 2 = h.next + 1 + 1 + 1; omega)]
   exact look_nw (h:=(h.nw tCache (encC .blank .blank)).nw tFiles (encF h.next 0))
  ·rw [look_nw_ne (by show ¬h.next + 1 = h.next + 1 + 1 + 1; omega),look_nw_ne (by show ¬h.next + 1 = h.next + 1 + 1; omega)]; exact look_nn1
  ·rw [look_nw_ne (by show ¬h.next = h.next + 1 + 1 + 1; omega),look_nw_ne (by show ¬h.next = h.next + 1 + 1; omega)]; exact look_nn0
  ·omega
  ·omega
  ·omega
  ·show h.next + 2 < h.next + 1 + 1 + 1 + 1; omega
  ·show h.next + 1 < h.next + 1 + 1 + 1 + 1; omega
  ·show h.next < h.next + 1 + 1 + 1 + 1; omega
 ·show h.next + 3 < h.next + 1 + 1 + 1 + 1; omega
theorem Slow_ok {v : AV} {ls : List Str} (hv : Txs h cx.lvl v ls) (hn : ls.length ≤ 150) (hs : ∀ i,(txt ls i).size ≤ 4611686018427387904) :
  Ok tblV cx Fn.w_slow (St.enter [v] h) fun v' h'=>(∃ b,v' = .bool b ∧ (b = false → ∀ i,(txt ls i).size ≤ 10000)) ∧ h' = h:=by
 have hix:=fun z sl own=>hv.ix (cx:=cx) (kk:=.i64) (z:=z) sl own
 have hlv:=fun z sl own=>hv.lv (cx:=cx) (z:=z) sl own
 have hfg:=fun t=>hv.fg (t:=t)
 have hld:=fun t=>hv.ld (t:=t)
 have hfx:=fun z t=>hv.fgx (t:=t) z
 have hlx:=fun z t=>hv.ldx (t:=t) z
 have hln:=hv.len
 rw [Ok_eq]
 simp (maxSteps:=999999) (disch:=omega) only [go_sem]
 refine W_forE (α:=Nat) ls.length (fun j n=>⟨[(0,v),(3,.int .i64 n),(4,.int .i64 j)],[],h⟩) (fun j n=>n ≤ 9000 ∧ ∀ i,i < j → (txt ls i).size ≤ n) 0 (by simp only [go_sem] <;> rfl) ⟨by omega,fun i hi=>by omega⟩ fun j n hj hp ih=>?_
 obtain ⟨p1,p2⟩:=hp
 by_cases hlt : j < ls.length
 ·have hsj:=hs j
  simp (maxSteps:=999999) (disch:=omega) only [go_sem,hln,hlt,hix,hlv,hfg,hld,hfx,hlx]
  by_cases c9 : 9000 < ((n : Int) + ((txt ls j).size : Nat))
  ·simp (maxSteps:=999999) (disch:=omega) only [go_sem,c9]
   exact ⟨true,rfl,by simp⟩
  ·simp (maxSteps:=999999) (disch:=omega) only [go_sem,c9]
   refine ih _ (n + (txt ls j).size) hlt ?_ ⟨by omega,fun i hi=>?_⟩
   ·simp only [go_sem]
   ·by_cases e : i = j
    ·subst e; omega
    ·have:=p2 i (by omega); omega
 ·obtain rfl : j = ls.length:=by omega
  simp (maxSteps:=999999) (disch:=omega) only [go_sem,hln]
  refine ⟨false,rfl,fun _ i=>?_⟩
  by_cases hi : i < ls.length
  ·have:=p2 i hi; omega
  ·have : txt ls i = ⟨#[]⟩:=by
    simp only [txt,List.getD_eq_getElem?_getD,List.getElem?_eq_none (Nat.not_lt.1 hi),Option.getD_none]
   rw [this]; decide
end
theorem Fr.trans' {h h1 h2 : HP} {S : List Nat} (a : Fr h h1 []) (b : Fr h1 h2 S) (hS : ∀ n ∈ S,h.next ≤ n) : Fr h h2 [] :=
 ⟨b.stk.trans a.stk,b.arg.trans a.arg,Nat.le_trans a.next b.next,fun n hn _=>(b.same n (Nat.lt_of_lt_of_le hn a.next) fun e=>absurd (hS n e) (Nat.not_le.2 hn)).trans (a.same n hn (by simp))⟩
section
variable {T : Nat → Option MFun} {cx : Cx} {k : List Item} {kill : List Nat} {r : List MOp} {sl : Slots} {own : Own} {h : HP} {Q : St → Prop} {d : Nat} {x y : Opd} {v : AV} {ls : List Str} {n : Nat}
theorem W_takeT (hx : St.opd ⟨sl,own,h⟩ x = v) (hy : St.opd ⟨sl,own,h⟩ y = .int .i64 n) (hv : Txs h cx.lvl v ls) (hno : notObj v) (hn : n ≤ ls.length)
  (hQ : ∀ v',Txs h cx.lvl v' (ls.take n) → notObj v' → W T cx (.ops r kill :: k) ⟨sl.set d v',own,h⟩ Q) : W T cx (.ops (⟨some d,.slice none tS x none (some y) none,none⟩ :: r) kill :: k) ⟨sl,own,h⟩ Q:=by
 rcases hv with ⟨e,rfl⟩ | ⟨i,o,w,rfl,hb,hk,hle,ht⟩
 ·obtain rfl : n = 0:=by simpa using hn
  rw [W_op rfl,evOp]
  have et : toIx (St.opd ⟨sl,own,h⟩ y) = some 0:=by rw [hy]; rfl
  rcases e with rfl | rfl
  ·simp only [evK,hx,et,ixOr,rootNil,if_true,onO_some,applyEff]
   exact hQ .nilsl (.inl ⟨.inl rfl,rfl⟩) hno
  ·simp only [evK,hx,et,ixOr,rootNil,if_true,onO_some,applyEff]
   exact hQ .slz (.inl ⟨.inr rfl,rfl⟩) hno
 ·refine W_slS (i:=i) (o:=o) (n:=ls.length) (N:=w.length) (w:=encS w) (a:=0) (b:=n) hx (by rw [look_below hb]; exact hk) (.inl ⟨rfl,rfl⟩) (.inr ⟨_,rfl,by rw [hy]; rfl⟩) (by omega) (by omega) (.inr rfl) ?_
  have el : (ls.take n).length = n:=by rw [List.length_take]; omega
  refine hQ _ (.inr ⟨i,o,w,by rw [el]; rfl,hb,hk,by omega,?_⟩) (fun q o' n' e=>?_)
  ·rw [el,← ht,List.take_take,Nat.min_eq_left hn]
  ·simp only [AV.sl.injEq] at e
   exact hno q o ls.length (by rw [e.1])
theorem W_dropT (hx : St.opd ⟨sl,own,h⟩ x = v) (hy : St.opd ⟨sl,own,h⟩ y = .int .i64 n) (hv : Txs h cx.lvl v ls) (hno : notObj v) (hn : n ≤ ls.length)
  (hQ : ∀ v',Txs h cx.lvl v' (ls.drop n) → notObj v' → W T cx (.ops r kill :: k) ⟨sl.set d v',own,h⟩ Q) : W T cx (.ops (⟨some d,.slice none tS x (some y) none none,none⟩ :: r) kill :: k) ⟨sl,own,h⟩ Q:=by
 rcases hv with ⟨e,rfl⟩ | ⟨i,o,w,rfl,hb,hk,hle,ht⟩
 ·obtain rfl : n = 0:=by simpa using hn
  rw [W_op rfl,evOp]
  have et : toIx (St.opd ⟨sl,own,h⟩ y) = some 0:=by rw [hy]; rfl
  rcases e with rfl | rfl
  ·simp only [evK,hx,et,ixOr,rootNil,if_true,onO_some,applyEff]
   exact hQ .nilsl (.inl ⟨.inl rfl,rfl⟩) hno
  ·simp only [evK,hx,et,ixOr,rootNil,if_true,onO_some,applyEff]
   exact hQ .slz (.inl ⟨.inr rfl,rfl⟩) hno
 ·by_cases hc : o + n < w.length ∨ n = 0
  ·refine W_slS (i:=i) (o:=o) (n:=ls.length) (N:=w.length) (w:=encS w) (a:=n) (b:=ls.length) hx (by rw [look_below hb]; exact hk) (.inr ⟨_,rfl,by rw [hy]; rfl⟩) (.inl ⟨rfl,rfl⟩) hn (by omega) hc ?_
   have el : (ls.drop n).length = ls.length - n:=by rw [List.length_drop]
   refine hQ _ (.inr ⟨i,o + n,w,by rw [el],hb,hk,by omega,?_⟩) (fun q o' n' e=>?_)
   ·rw [el,← List.drop_drop]
    have : ls.drop n = ((w.drop o).take ls.length).drop n:=by rw [ht]
    rw [this,List.drop_take]
   ·simp only [AV.sl.injEq] at e
    exact hno q o ls.length (by rw [e.1])
  ·obtain rfl : n = ls.length:=by omega
   have hw : o + ls.length = w.length:=by omega
   have et : toIx (St.opd ⟨sl,own,h⟩ y) = some (ls.length : Int):=by rw [hy]; rfl
   rw [W_op rfl,evOp]
   have ek : evK (St.opd ⟨sl,own,h⟩) (St.look cx ⟨sl,own,h⟩) (.slice none tS x (some y) none none) = some (.val .slz):=by
    have hk' : St.look cx ⟨sl,own,h⟩ i = some ⟨.arr w.length tS,encS w⟩:=by rw [look_below hb]; exact hk
    simp only [evK,hx,et,ixOr,rooted,if_true,evSlice,hk',Option.map_none,true_and]
    rw [if_pos ⟨by omega,by omega,by omega⟩,if_neg (by omega)]
   rw [ek]
   exact hQ .slz (.inl ⟨.inr rfl,by simp⟩) (fun q o' n' e=>by simp at e)
end
def begL : List Str:=[⟨#[109,97,107,101,32,48,32,97]⟩,⟨#[112,117,116,32,48,32,97,32,49,32,61,120]⟩,⟨#[114,101,97,100,32,48,32,97,32,49]⟩,⟨#[119,114,105,116,101,32,48]⟩,⟨#[100,105,115,107]⟩,⟨#[100,105,114,116,121]⟩,⟨#[115,121,110,99]⟩,⟨#[115,117,114,101,32,48,32,97]⟩,⟨#[108,105,110,107,32,48,32,97,32,50,32,98]⟩,⟨#[115,97,109,101,32,48,32,97,32,50,32,98]⟩,⟨#[99,114,97,115,104]⟩,⟨#[108,105,115,116,32,50]⟩,⟨#[108,111,115,116]⟩,⟨#[120]⟩]
def begT : List UInt8:=[111,107,10,111,107,10,61,120,10,111,107,10,105,110,111,100,101,32,48,32,49,32,49,32,45,49,32,45,49,10,101,110,100,10,100,105,114,116,121,32,48,32,50,32,53,10,111,107,10,116,114,117,101,10,111,107,10,116,114,117,101,10,111,107,10,110,97,109,101,115,10,108,111,115,116,32,49,32,48,32,48,32,48,10,119,104,97,116,10]
theorem begE : doE begL = 0:=by decide +kernel
theorem begD : doT .new begL = begT:=by decide +kernel
theorem begS : ∀ i,(txt begL i).size ≤ 10000:=by
 intro i
 by_cases h : i < 14
 ·have : ∀ i : Fin 14,(txt begL i.val).size ≤ 10000:=by decide +kernel
  exact this ⟨i,h⟩
 ·have : txt begL i = ⟨#[]⟩:=by
   simp only [txt,List.getD_eq_getElem?_getD,List.getElem?_eq_none (show begL.length ≤ i from Nat.not_lt.1 h),Option.getD_none]
  rw [this]; decide
theorem fillS14 : fill (.arr 14 tS) (Ty.arr 14 tS).zero (idxL 0 (begL.map AV.str)) = some (encS begL):=fill_strs begL rfl
section
variable {cx : Cx} {h : HP}
theorem deskBegun_ok (hl : ∀ n,cx.prot.lets (.obj n) = true) : Ok tblV cx Fn.w_deskBegun (St.enter [] h) fun v h'=>Fr h h' [] ∧ v = .bool true:=by
 rw [Ok_eq]
 simp (maxSteps:=999999) (disch:=omega) only [go_sem]
 refine W_callF (S:=[]) (R:=fun v h'=>v = .ptr (.obj (h.next + 3)) [] tDesk ∧ DQ h' (h.next + 3) (h.next + 2) (h.next + 1) h.next Lf.new ∧ h'.next = h.next + 4) rfl ⟨rfl,rfl⟩ (by simp only [go_sem]; exact DNew_ok) (fun v h1 e=>⟨e.1,e.2.1.pop,e.2.2⟩) ?_
 rintro _ h1 hF1 ⟨rfl,hQ1,hn1⟩
 have hfill:=fillS14
 simp only [begL,List.map_cons,List.map_nil,idxL] at hfill
 simp (maxSteps:=999999) (disch:=omega) only [go_sem,hfill]
 refine W_callF (S:=[h.next + 3,h.next + 2,h.next + 1,h.next]) (R:=fun v h'=>∃ i : Int,v = .tup (.cons (.str (bsL begT)) (.cons (encFa 0 i) .unit))) rfl ⟨rfl,rfl⟩ (by
  simp only [go_sem]
  refine (DeskDo_ok (ls:=begL) (by exact hl) hQ1.push LTight.new (Txs_own (ws:=begL) rfl rfl) (fun q o n e=>by simp at e) (by decide) begS).mono fun v h' e=>?_
  obtain ⟨hF,i,_,_,rfl,_,_⟩:=e
  rw [begE,begD]
  exact ⟨hF,i,rfl⟩) (fun _ _ e=>e) ?_
 rintro _ h2 hF2 ⟨i,rfl⟩
 have hF3 : Fr h h2 []:=hF1.trans' hF2 (fun n hn=>by simp at hn; omega)
 have eb : (bsL begT = (⟨#[111,107,10,111,107,10,61,120,10,111,107,10,105,110,111,100,101,32,48,32,49,32,49,32,45,49,32,45,49,10,101,110,100,10,100,105,114,116,121,32,48,32,50,32,53,10,111,107,10,116,114,117,101,10,111,107,10,116,114,117,101,10,111,107,10,110,97,109,101,115,10,108,111,115,116,32,49,32,48,32,48,32,48,10,119,104,97,116,10]⟩ : Str)):=rfl
 simp (maxSteps:=999999) (disch:=omega) only [go_sem,eb]
 exact hF3
theorem wrapU_id {n : Int} (h0 : 0 ≤ n) (h1 : n < 18446744073709551616) : IntKind.u64.wrap n = n:=by
 have e1 : (IntKind.u64).bits = 64:=rfl
 have e2 : (IntKind.u64).signed = false:=rfl
 have p1 : (2 : Int) ^ 64 = 18446744073709551616:=rfl
 simp only [IntKind.wrap,e1,e2,Bool.false_and,Bool.false_eq_true,if_false,p1]
 omega
theorem bad_split (ls : List Str) (k : Nat) : badL ls = (badL (ls.take k) || badL (ls.drop k)):=by
 have : badL ls = badL (ls.take k ++ ls.drop k):=by rw [List.take_append_drop]
 rw [this]
 simp only [badL,List.any_append]
theorem size_take {ls : List Str} (hs : ∀ i,(txt ls i).size ≤ 10000) (k : Nat) : ∀ i,(txt (ls.take k) i).size ≤ 10000:=by
 intro i
 by_cases h : i < k
 ·have : txt (ls.take k) i = txt ls i:=by simp [txt,List.getD_eq_getElem?_getD,List.getElem?_take,h]
  rw [this]; exact hs i
 ·have : txt (ls.take k) i = ⟨#[]⟩:=by simp [txt,List.getD_eq_getElem?_getD,List.getElem?_take,h]
  rw [this]; decide
theorem size_drop {ls : List Str} (hs : ∀ i,(txt ls i).size ≤ 10000) (k : Nat) : ∀ i,(txt (ls.drop k) i).size ≤ 10000:=by
 intro i; rw [txt_drop]; exact hs _
theorem Joins_ok {v : AV} {ls : List Str} {n : Int} (hl : ∀ n,cx.prot.lets (.obj n) = true) (hv : Txs h cx.lvl v ls) (hno : notObj v) (hlen : ls.length ≤ 4611686018427387904) (hs : ∀ i,(txt ls i).size ≤ 4611686018427387904) :
  Ok tblV cx Fn.w_DeskJoins (St.enter [v,.int .i64 n] h) fun v h'=>v = .bool true:=by
 have hfg:=fun t=>hv.fg (t:=t)
 have hld:=fun t=>hv.ld (t:=t)
 have hln:=hv.len
 rw [Ok_eq]
 simp (maxSteps:=999999) (disch:=omega) only [go_sem,hln,hfg,hld]
 refine W_callF (S:=[]) (R:=fun v _=>v = .bool true) rfl ⟨rfl,rfl⟩ (by simp only [go_sem]; exact deskBegun_ok (by exact hl)) (fun _ _ e=>e) ?_
 rintro _ h1 hF1 rfl
 have hv1:=hv.fr hF1 hno
 simp (maxSteps:=999999) (disch:=omega) only [go_sem,hln,hfg,hld]
 by_cases c150 : 150 < (ls.length : Int)
 ·simp (maxSteps:=999999) (disch:=omega) only [go_sem,c150]
 simp (maxSteps:=999999) (disch:=omega) only [go_sem,c150]
 refine W_callhv (P:=fun x=>∃ b,x = .bool b ∧ (b = false → ∀ i,(txt ls i).size ≤ 10000)) h1 rfl ⟨rfl,rfl⟩ rfl (by simp only [go_sem]; exact Slow_ok hv1.push (by omega) hs) ?_
 rintro _ ⟨slow,rfl,hsl⟩
 cases slow with
 | true=>simp (maxSteps:=999999) (disch:=omega) only [go_sem]
 | false =>
 have hsz:=hsl rfl
 have hk:=umod_lt n (c:=(ls.length : Int) + 1) (k:=ls.length + 1) (by omega) (by omega)
 have ew : IntKind.u64.wrap ((ls.length : Int) + 1) = (ls.length : Int) + 1:=wrapU_id (by omega) (by omega)
 simp (maxSteps:=999999) (disch:=omega) only [go_sem,hln,hfg,hld,ew]
 obtain ⟨k,ek⟩ : ∃ k,umod n ((ls.length : Int) + 1) = k:=⟨_,rfl⟩
 rw [ek] at hk ⊢
 have h16:=size_take hsz k
 have h17:=size_drop hsz k
 obtain ⟨n0,en0⟩ : ∃ n0,h1.next = n0:=⟨_,rfl⟩
 refine W_callF (S:=[]) (R:=fun v h'=>v = .ptr (.obj (n0 + 3)) [] tDesk ∧ DQ h' (n0 + 3) (n0 + 2) (n0 + 1) n0 Lf.new ∧ h'.next = n0 + 4) rfl ⟨rfl,rfl⟩ (by simp only [go_sem]; rw [← en0]; exact DNew_ok) (fun v h1 e=>⟨e.1,e.2.1.pop,e.2.2⟩) ?_
 rintro _ h2 hF2 ⟨rfl,hQd,hn2⟩
 simp (maxSteps:=999999) (disch:=omega) only [go_sem,hfg]
 refine W_callF (S:=[]) (R:=fun v h'=>v = .ptr (.obj (n0 + 4 + 3)) [] tDesk ∧ DQ h' (n0 + 4 + 3) (n0 + 4 + 2) (n0 + 4 + 1) (n0 + 4) Lf.new ∧ h'.next = n0 + 4 + 4) rfl ⟨rfl,rfl⟩ (by simp only [go_sem]; rw [← hn2]; exact DNew_ok) (fun v h1 e=>⟨e.1,e.2.1.pop,e.2.2⟩) ?_
 rintro _ h3 hF3 ⟨rfl,hQe,hn3⟩
 have hQd3:=hQd.fr hF3 (by simp) (by simp) (by simp) (by simp)
 have hv3:=(hv1.fr hF2 hno).fr hF3 hno
 simp (maxSteps:=999999) (disch:=omega) only [go_sem,hfg]
 refine W_takeT (v:=v) (ls:=ls) (n:=k) (by simp only [go_sem]) (by simp only [go_sem]) hv3 hno (by omega) ?_
 intro va hva hnoa
 have hfga:=fun t=>hva.fg (t:=t)
 simp (maxSteps:=999999) (disch:=omega) only [go_sem,hfg,hfga]
 refine W_callF (S:=[n0 + 3,n0 + 2,n0 + 1,n0]) (R:=fun v h'=>∃ (i : Int) (f' c' : Nat),v = .tup (.cons (.str (bsL (doT Lf.new (ls.take k)))) (.cons (encFa (doE (ls.take k)) i) .unit)) ∧ DQ h' (n0 + 3) (n0 + 2) f' c' (doL Lf.new (ls.take k)) ∧ ((f' = n0 + 1 ∧ c' = n0) ∨ (h3.next ≤ f' ∧ h3.next ≤ c'))) rfl ⟨rfl,rfl⟩ (by simp only [go_sem]; exact DeskDo_ok (by exact hl) hQd3.push LTight.new hva.push hnoa (by first | (simp; done) | (simp; omega)) h16) (fun v h1 e=>by obtain ⟨i,f',c',a1,a2,a3⟩:=e; exact ⟨i,f',c',a1,a2.pop,a3⟩) ?_
 rintro _ h4 hF4 ⟨i4,f4,c4,rfl,hQd4,hx4⟩
 have hn4:=hF4.next
 have hQe4:=hQe.fr hF4 (by first | (simp; done) | (simp; omega)) (by first | (simp; done) | (simp; omega)) (by first | (simp; done) | (simp; omega)) (by first | (simp; done) | (simp; omega))
 have hv4:=hv3.fr hF4 hno
 simp (maxSteps:=999999) (disch:=omega) only [go_sem,hfg]
 refine W_callF (S:=[n0 + 4 + 3,n0 + 4 + 2,n0 + 4 + 1,n0 + 4]) (R:=fun v h'=>∃ (i : Int) (f' c' : Nat),v = .tup (.cons (.str (bsL (doT Lf.new ls))) (.cons (encFa (doE ls) i) .unit)) ∧ DQ h' (n0 + 4 + 3) (n0 + 4 + 2) f' c' (doL Lf.new ls) ∧ ((f' = n0 + 4 + 1 ∧ c' = n0 + 4) ∨ (h4.next ≤ f' ∧ h4.next ≤ c'))) rfl ⟨rfl,rfl⟩ (by simp only [go_sem]; exact DeskDo_ok (by exact hl) hQe4.push LTight.new hv4.push hno (by omega) hsz) (fun v h1 e=>by obtain ⟨i,f',c',a1,a2,a3⟩:=e; exact ⟨i,f',c',a1,a2.pop,a3⟩) ?_
 rintro _ h5 hF5 ⟨i5,f5,c5,rfl,hQe5,hx5⟩
 have hn5:=hF5.next
 have hQd5:=hQd4.fr hF5 (by first | (simp; done) | (simp; omega)) (by first | (simp; done) | (simp; omega)) (by first | (simp; done) | (simp; omega)) (by first | (simp; done) | (simp; omega))
 have hv5:=hv4.fr hF5 hno
 simp (maxSteps:=999999) (disch:=omega) only [go_sem,hfg]
 refine W_dropT (v:=v) (ls:=ls) (n:=k) (by simp only [go_sem]) (by simp only [go_sem]) hv5 hno (by omega) ?_
 intro vb hvb hnob
 have hfgb:=fun t=>hvb.fg (t:=t)
 simp (maxSteps:=999999) (disch:=omega) only [go_sem,hfg,hfgb]
 refine W_callF (S:=[n0 + 3,n0 + 2,f4,c4]) (R:=fun v h'=>∃ (i : Int) (f' c' : Nat),v = .tup (.cons (.str (bsL (doT (doL Lf.new (ls.take k)) (ls.drop k)))) (.cons (encFa (doE (ls.drop k)) i) .unit)) ∧ DQ h' (n0 + 3) (n0 + 2) f' c' (doL (doL Lf.new (ls.take k)) (ls.drop k)) ∧ ((f' = f4 ∧ c' = c4) ∨ (h5.next ≤ f' ∧ h5.next ≤ c'))) rfl ⟨rfl,rfl⟩ (by simp only [go_sem]; exact DeskDo_ok (by exact hl) hQd5.push (tight_do LTight.new _) hvb.push hnob (by first | (simp; done) | (simp; omega)) h17) (fun v h1 e=>by obtain ⟨i,f',c',a1,a2,a3⟩:=e; exact ⟨i,f',c',a1,a2.pop,a3⟩) ?_
 rintro _ h6 hF6 ⟨i6,f6,c6,rfl,hQd6,hx6⟩
 have hv6:=hv5.fr hF6 hno
 have hbs:=bad_split ls k
 simp (maxSteps:=999999) (disch:=omega) only [go_sem,hfg]
 cases hb : badL ls with
 | true =>
  have e15 : doE ls = 15:=by simp [doE,hb]
  rw [e15]
  rw [hb] at hbs
  cases h2b : badL (ls.take k) with
  | true =>
   have ea : doE (ls.take k) = 15:=by simp [doE,h2b]
   rw [ea]
   simp (maxSteps:=999999) (disch:=omega) only [go_sem]
  | false =>
   have h3b : badL (ls.drop k) = true:=by rw [h2b] at hbs; simpa using hbs.symm
   have ea : doE (ls.take k) = 0:=by simp [doE,h2b]
   have eb : doE (ls.drop k) = 15:=by simp [doE,h3b]
   rw [ea,eb]
   simp (maxSteps:=999999) (disch:=omega) only [go_sem]
 | false =>
  have e0 : doE ls = 0:=by simp [doE,hb]
  rw [hb] at hbs
  have h2b : badL (ls.take k) = false:=by
   cases e : badL (ls.take k) with
   | false=>rfl
   | true=>rw [e] at hbs; simp at hbs
  have h3b : badL (ls.drop k) = false:=by
   cases e : badL (ls.drop k) with
   | false=>rfl
   | true=>rw [e,h2b] at hbs; simp at hbs
  have ea : doE (ls.take k) = 0:=by simp [doE,h2b]
  have eb : doE (ls.drop k) = 0:=by simp [doE,h3b]
  have hjoin : doT Lf.new (ls.take k) ++ doT (doL Lf.new (ls.take k)) (ls.drop k) = doT Lf.new ls:=by
   simp only [doT,doL,hb,h2b,h3b,Bool.false_eq_true,if_false]
   have:=runC_append Lf.new (ls.take k) (ls.drop k)
   rw [List.take_append_drop] at this
   rw [this]
  have hl1 : (doT Lf.new (ls.take k)).length ≤ 600000:=by
   simp only [doT,h2b,Bool.false_eq_true,if_false]
   have:=runC_len LTight.new (ls.take k)
   simp only [List.length_take] at this
   omega
  have hl2 : (doT (doL Lf.new (ls.take k)) (ls.drop k)).length ≤ 600000:=by
   simp only [doT,h3b,Bool.false_eq_true,if_false]
   have:=runC_len (tight_do LTight.new (ls.take k)) (ls.drop k)
   simp only [List.length_drop] at this
   omega
  have hadd : evStr .add (bsL (doT Lf.new (ls.take k))) (bsL (doT (doL Lf.new (ls.take k)) (ls.drop k))) = some (.str (bsL (doT Lf.new ls))):=by
   rw [add_bsL (by omega),hjoin]
  rw [e0,ea,eb]
  generalize doT Lf.new (ls.take k) = ta at hadd ⊢
  generalize doT (doL Lf.new (ls.take k)) (ls.drop k) = tb at hadd ⊢
  simp (maxSteps:=999999) (disch:=omega) only [go_sem]
  obtain ⟨m0,em0⟩ : ∃ m0,h6.next = m0:=⟨_,rfl⟩
  refine W_callF (S:=[]) (R:=fun v h'=>v = .ptr (.obj (m0 + 3)) [] tDesk ∧ DQ h' (m0 + 3) (m0 + 2) (m0 + 1) m0 Lf.new ∧ h'.next = m0 + 4) rfl ⟨rfl,rfl⟩ (by simp only [go_sem]; rw [← em0]; exact DNew_ok) (fun v h1 e=>⟨e.1,e.2.1.pop,e.2.2⟩) ?_
  rintro _ h7 hF7 ⟨rfl,hQ7,hn7⟩
  have hv7:=hv6.fr hF7 hno
  simp (maxSteps:=999999) (disch:=omega) only [go_sem,hfg]
  refine W_callF (S:=[m0 + 3,m0 + 2,m0 + 1,m0]) (R:=fun v h'=>∃ (i : Int) (f' c' : Nat),v = .tup (.cons (.str (bsL (doT Lf.new ls))) (.cons (encFa (doE ls) i) .unit)) ∧ DQ h' (m0 + 3) (m0 + 2) f' c' (doL Lf.new ls) ∧ ((f' = m0 + 1 ∧ c' = m0) ∨ (h7.next ≤ f' ∧ h7.next ≤ c'))) rfl ⟨rfl,rfl⟩ (by simp only [go_sem]; exact DeskDo_ok (by exact hl) hQ7.push LTight.new hv7.push hno (by omega) hsz) (fun v h1 e=>by obtain ⟨i,f',c',a1,a2,a3⟩:=e; exact ⟨i,f',c',a1,a2.pop,a3⟩) ?_
  rintro _ h8 hF8 ⟨i8,f8,c8,rfl,hQ8,hx8⟩
  rw [e0]
  generalize doT Lf.new ls = ts at hadd ⊢
  simp (maxSteps:=999999) (disch:=omega) only [go_sem,hfg,hadd]
end
open Go.RowKit
theorem run_ge {T : Nat → Option MFun} {n : Nat} {cx : Cx} {k : List Item} {s r : St} (h : run T n cx k s = some r) : ∀ m,run T (n + m) cx k s = some r
 | 0=>h
 | m + 1=>run_mono (run_ge h m)
theorem Itoa_run {T : Nat → Option MFun} {m : Nat} {cx : Cx} {a v : AV} {h : HP} {s2 : St} (hr : run T m cx [.code Fn.strconv_Itoa.body] (St.enter [a] h) = some s2) (hv : results cx s2 Fn.strconv_Itoa.res = some v) :
  ∃ n,a = .int .i64 n ∧ i64 n ∧ v = .str ⟨(numL n).toArray⟩ ∧ s2.own = [] ∧ s2.hp = h:=by
 have h1:=run_ge hr 6
 rw [show m + 6 = m + 1 + 1 + 1 + 1 + 1 + 1 from rfl] at h1
 simp only [run,next,St.wanted,opCmd,evOp,evK,Bool.false_and,Bool.false_eq_true,if_false,List.map_cons,List.map_nil,St.opd,Slots.get,St.enter,enterSlots,if_true] at h1
 cases hp : pItoa [a] with
 | none=>simp [hp] at h1
 | some y =>
  have hp':=hp
  unfold pItoa at hp
  split at hp
  ·rename_i n e
   simp only [List.cons.injEq,and_true] at e
   split at hp <;> simp only [Option.some.injEq,reduceCtorEq] at hp
   rename_i hn
   subst hp
   simp only [hp',AV.safe,if_true,applyEff,next,St.setd,Slots.set,St.kill,Option.some.injEq] at h1
   subst h1
   simp only [results,resOf,Slots.get,Slots.without] at hv
   refine ⟨n,e,hn,?_,rfl,rfl⟩
   simpa [AV.safe,Slots.get,Slots.without,List.filter,has] using hv.symm
  ·simp at hp
theorem run_s {T : Nat → Option MFun} {n : Nat} {cx : Cx} {k : List Item} {s : St} : run T (n + 1) cx k s = match next T cx k s with
  | .done s=>some s
  | .fail=>none
  | .go k s=>run T n cx k s
  | .call cx' hide fn e d k s=>match run T n cx' [.code fn.body] e with
   | some s'=>match back cx cx' hide fn d s s' with
    | some s=>run T n cx k s
    | none=>none
   | none=>none:=rfl
theorem next_prim {T : Nat → Option MFun} {cx : Cx} {d : Nat} {f : List AV → Option AV} {xs : List Opd} {kill : List Nat} {r : List MOp} {k : List Item} {s : St} {v : AV} (h : f (xs.map s.opd) = some v) (hs : v.safe = true) :
  next T cx (.ops (⟨some d,.prim f xs,none⟩ :: r) kill :: k) s = .go (.ops r kill :: k) (s.setd (some d) v):=by
 simp only [next,St.wanted,opCmd,evOp,evK,h,hs,if_true,applyEff]
theorem next_prim_none {T : Nat → Option MFun} {cx : Cx} {d : Nat} {f : List AV → Option AV} {xs : List Opd} {kill : List Nat} {r : List MOp} {k : List Item} {s : St} (h : f (xs.map s.opd) = none) :
  next T cx (.ops (⟨some d,.prim f xs,none⟩ :: r) kill :: k) s = .fail:=by
 simp only [next,St.wanted,opCmd,evOp,evK,h]
theorem Pu_run {T : Nat → Option MFun} {m : Nat} {cx : Cx} {a b c v : AV} {h : HP} {s2 : St} (hr : run T m cx [.code Fn.strconv_ParseUint.body] (St.enter [a,b,c] h) = some s2) (hv : results cx s2 Fn.strconv_ParseUint.res = some v) :
  ∃ t : ByteArray,a = .str t ∧ b = .int .i64 16 ∧ c = .int .i64 8 ∧ t.size = 2 ∧ v = .tup (.cons (.int .u64 ((hex2 t).getD 0)) (.cons (.iface (hex2 t).isNone) .unit)) ∧ s2.own = [] ∧ s2.hp = h:=by
 have h1 : run T (m + 5) cx [.ops [⟨some 3,.prim pPu [(.s 0),(.s 1),(.s 2)],none⟩,⟨some 4,.prim pPe [(.s 0),(.s 1),(.s 2)],none⟩] [],.code .ret] (St.enter [a,b,c] h) = some s2:=run_ge hr 7
 rw [run_s] at h1
 cases hp : pPu [a,b,c] with
 | none=>rw [next_prim_none hp] at h1; simp at h1
 | some y =>
  have hp':=hp
  unfold pPu at hp
  split at hp
  ·rename_i t e
   simp only [List.cons.injEq,and_true] at e
   obtain ⟨rfl,rfl,rfl⟩:=e
   split at hp <;> simp only [Option.some.injEq,reduceCtorEq] at hp
   rename_i ht
   subst hp
   rw [next_prim hp' rfl] at h1
   have h2 : run T (m + 4) cx [.ops [⟨some 4,.prim pPe [(.s 0),(.s 1),(.s 2)],none⟩] [],.code .ret] ((St.enter [.str t,.int .i64 16,.int .i64 8] h).setd (some 3) (.int .u64 ((hex2 t).getD 0))) = some s2:=h1
   have hq : pPe [.str t,.int .i64 16,.int .i64 8] = some (.iface (hex2 t).isNone):=by simp only [pPe]; rw [if_pos ht]
   rw [run_s,next_prim hq rfl] at h2
   have h3 : some _ = some s2:=h2
   have h4:=Option.some.inj h3
   subst h4
   exact ⟨t,rfl,rfl,rfl,ht,(Option.some.inj hv).symm,rfl,rfl⟩
  ·simp at hp
theorem next_load {T : Nat → Option MFun} {cx : Cx} {d : Nat} {t : Ty} {x : Opd} {kill : List Nat} {r : List MOp} {k : List Item} {s : St} :
  next T cx (.ops (⟨some d,.load false none t x,none⟩ :: r) kill :: k) s = match evOp cx (some d) (.load false none t x) s with
   | some (v,s')=>.go (.ops r kill :: k) (s'.setd (some d) v)
   | none=>.fail:=rfl
theorem ev_load {cx : Cx} {d : Option Nat} {t : Ty} {x : Opd} {s s' : St} {v : AV} (h : evOp cx d (.load false none t x) s = some (v,s')) : s' = s ∧ ∃ i p,s.opd x = .ptr i p t ∧ ((s.look cx i).bind fun b=>b.val.at p) = some v ∧ t.fits v = true:=by
 unfold evOp at h
 simp only [evK] at h
 split at h
 ·rename_i e he
  split at he
  ·rename_i i p t' hx
   split at he
   ·rename_i hc
    split at he
    ·rename_i u hu
     split at he
     ·rename_i hf
      simp only [Option.some.injEq] at he
      subst he
      simp only [applyEff,Option.some.injEq,Prod.mk.injEq] at h
      obtain ⟨rfl,rfl⟩:=h
      exact ⟨rfl,i,p,by rw [hx,hc.1],hu,hf⟩
     ·simp at he
    ·simp at he
   ·simp at he
  ·simp at he
 ·simp at h
theorem Print_run {T : Nat → Option MFun} {m : Nat} {cx : Cx} {a v : AV} {h : HP} {s2 : St} (hr : run T m cx [.code Fn.text_Print.body] (St.enter [a] h) = some s2) (hv : results cx s2 Fn.text_Print.res = some v) :
  ∃ i p img b,a = .ptr i p tImage ∧ h.look i = some b ∧ b.val.at p = some img.enc ∧ img.slim ∧ v = .str ⟨(textL img).toArray⟩ ∧ s2.own = [] ∧ s2.hp = h:=by
 have h1 : run T (m + 5) cx [.ops [⟨some 1,.load false none tImage (.s 0),none⟩,⟨some 2,.prim pPrint [(.s 1)],none⟩] [],.code .ret] (St.enter [a] h) = some s2:=run_ge hr 7
 rw [run_s,next_load] at h1
 cases he : evOp cx (some 1) (.load false none tImage (.s 0)) (St.enter [a] h) with
 | none=>rw [he] at h1; simp at h1
 | some q =>
  obtain ⟨u,s'⟩:=q
  rw [he] at h1
  obtain ⟨rfl,i,p,hx,hu,hf⟩:=ev_load he
  have h2 : run T (m + 4) cx [.ops [⟨some 2,.prim pPrint [(.s 1)],none⟩] [],.code .ret] ((St.enter [a] h).setd (some 1) u) = some s2:=h1
  rw [run_s] at h2
  cases hp : pPrint [u] with
  | none=>rw [next_prim_none hp] at h2; simp at h2
  | some y =>
   have hp':=hp
   unfold pPrint at hp
   split at hp
   ·rename_i w e
    simp only [List.cons.injEq,and_true] at e
    subst e
    split at hp
    ·rename_i hm
     simp only [Option.some.injEq] at hp
     subst hp
     rw [next_prim hp' rfl] at h2
     have h3 : some _ = some s2:=h2
     have h4:=Option.some.inj h3
     subst h4
     obtain ⟨b,hb1,hb2⟩:=Option.bind_eq_some_iff.1 hu
     refine ⟨i,p,hm.choose,b,hx,?_,hb2.trans (congrArg some hm.choose_spec.1),hm.choose_spec.2,(Option.some.inj hv).symm,rfl,rfl⟩
     unfold St.look at hb1
     split at hb1
     ·simp [St.enter,Own.get] at hb1
     ·exact hb1
    ·simp at hp
   ·rename_i hne; exact (hne u rfl).elim
open Go.RowKit
section
variable {φ : Nat → Option FuncId} {β : Beta} {P : Program} {O : Nat → Prop} {w w' : World} {look : Id → Option Blk}
theorem HR_stays [Tk] (h : HR φ β O look w) (hb : Below w.heap.size w w') : HR φ β O look w' :=
 ⟨fun i b hl=>by
  obtain ⟨pl,cs,T,fr,hB⟩:=h.live i b hl
  exact ⟨pl,cs,T,fr,hB.place,hB.ty,hB.fits,(hb.block pl.r (Array.getElem?_eq_some_iff.1 hB.heap).1).trans hB.heap,hB.room,hB.size,hB.cells,hB.own,hB.kind⟩,h.apart⟩
theorem ext_back [Fix] {cx : Cx} {h : HP} {s2 : St} (hm : HR φ β O h.look w) (hdom : ∀ i pl,β i = some pl → i.under cx.lvl h.next) (htop : ∀ l,cx.lvl ≤ l → h.stk l = []) (hown : s2.own = []) (hhp : s2.hp = h) (hb : Below w.heap.size w w') :
  After φ O β cx.lvl h.next w (s2.look cx) s2.hp.next s2.hp.stk β w':=by
 subst hhp
 refine ⟨HR_mono (HR_stays hm hb) fun i b hl=>?_,⟨hb.os,hb.tape,hb.output,hb.size,fun r hr _=>hb.block r hr⟩,Ext.refl,Nat.le_refl _,fun i pl hp=>?_,htop⟩
 ·unfold St.look at hl
  split at hl
  ·rw [hown] at hl; simp [Own.get] at hl
  ·exact hl
 ·have:=hdom i pl hp
  cases i <;> simp only [Id.under] at this ⊢ <;> omega
theorem ItoaX [Fix] {T : Nat → Option MFun} {F : FuncId} (hf : ∃ f c, P.funcs[F]? = some f ∧ f.body = some c ∧ (f.name == "runtime.NumGoroutine") = false)
  (hraw : ∀ O w,Fix.I O w → ∀ n,i64 n → Calls P F #[.int .i64 n] w fun e w'=>e = .returned (.string ⟨(numL n).toArray⟩) ∧ Below w.heap.size w w') : ExtOk P T φ F Fn.strconv_Itoa:=by
 refine ⟨hf,fun m cx args h s2 v β O rargs w hr hv hlen ha hm hdom htop hfresh hinv=>?_⟩
 match args,hlen with
 | [a],_ =>
  obtain ⟨n,rfl,hn,rfl,ho,hh⟩:=Itoa_run hr hv
  obtain ⟨x,rfl⟩ : ∃ x,rargs = [x]:=by
   have:=ha.1
   match rargs,this with
   | [x],_=>exact ⟨x,rfl⟩
  have hx:=LR_int (ha.2 0 _ _ rfl rfl)
  subst hx
  refine (hraw O w hinv n hn).mono ?_
  rintro e w' ⟨rfl,hb⟩
  exact ⟨_,β,rfl,VR_of_VR1 (by simp [VR1,AV.isAgg,LR,AV.rel]),by simp [AV.resOk,AV.safe],ext_back hm hdom htop ho hh hb⟩
theorem PuX [Fix] {T : Nat → Option MFun} {F : FuncId} (hf : ∃ f c, P.funcs[F]? = some f ∧ f.body = some c ∧ (f.name == "runtime.NumGoroutine") = false)
  (hraw : ∀ O w,Fix.I O w → ∀ t : ByteArray,t.size = 2 → Calls P F #[.string t,.int .i64 16,.int .i64 8] w fun e w' =>
   (match hex2 t with
    | some n=>e = .returned (.tuple #[.int .u64 n,.nilIface])
    | none=>∃ u x,e = .returned (.tuple #[.int .u64 0,.iface u x])) ∧ Below w.heap.size w w') : ExtOk P T φ F Fn.strconv_ParseUint:=by
 refine ⟨hf,fun m cx args h s2 v β O rargs w hr hv hlen ha hm hdom htop hfresh hinv=>?_⟩
 match args,hlen with
 | [a,b,c],_ =>
  obtain ⟨t,rfl,rfl,rfl,ht,rfl,ho,hh⟩:=Pu_run hr hv
  obtain ⟨x,y,z,rfl⟩ : ∃ x y z,rargs = [x,y,z]:=by
   have:=ha.1
   match rargs,this with
   | [x,y,z],_=>exact ⟨x,y,z,rfl⟩
  have hx:=LR_str (ha.2 0 _ _ rfl rfl)
  have hy:=LR_int (ha.2 1 _ _ rfl rfl)
  have hz:=LR_int (ha.2 2 _ _ rfl rfl)
  subst hx hy hz
  refine (hraw O w hinv t ht).mono ?_
  rintro e w' ⟨he,hb⟩
  cases hq : hex2 t with
  | some n =>
   rw [hq] at he
   simp only at he
   subst he
   exact ⟨_,β,rfl,⟨_,rfl,rfl,by simp [VR1,AV.isAgg,LR,AV.rel],rfl,by simp [VR1,AV.isAgg,LR,AV.rel],trivial⟩,.inr ⟨_,rfl⟩,ext_back hm hdom htop ho hh hb⟩
  | none =>
   rw [hq] at he
   obtain ⟨u,x,rfl⟩:=he
   exact ⟨_,β,rfl,⟨_,rfl,rfl,by simp [VR1,AV.isAgg,LR,AV.rel],rfl,by simp [VR1,AV.isAgg,LR,AV.rel],trivial⟩,.inr ⟨_,rfl⟩,ext_back hm hdom htop ho hh hb⟩
def leafV : AV → Value
 | .bool b=>.bool b
 | .int k n=>.int k n
 | .str s=>.string s
 | _=>undef
def AV.plainLeaf : AV → Bool
 | .bool _=>true
 | .int ..=>true
 | .str _=>true
 | _=>false
theorem LR_leafV {c : AV} {x : Value} (hc : c.plainLeaf = true) (h : LR φ β c x) : x = leafV c:=by
 cases c <;> simp [AV.plainLeaf] at hc <;> exact h
def inoCs (i : Ino) : List Value:=[.bool i.live,.int .i64 i.stamp,.int .i64 i.links,.int .i64 (i.prt 0),.int .i64 (i.prt 1)]
def entCs (e : Ent) : List Value:=[.string e.name,.int .i64 e.ino,.int .i64 e.stamp]
def datCs (y : Dat) : List Value:=[.int .i64 y.of,.string y.text]
def inosCs (m : Img) : List Value:=(List.range 8).flatMap fun n=>inoCs (m.ino n)
def rowCs (m : Img) (d : Nat) : List Value:=(List.range 4).flatMap fun s=>entCs (m.ent d s)
def datsCs (m : Img) : List Value:=(List.range 9).flatMap fun x=>datCs (m.dat x)
theorem fin_range {α : Type} {n : Nat} {g : Fin n → List α} {f : Nat → List α} (h : ∀ i : Fin n,g i = f i.val) : (List.finRange n).flatMap g = (List.range n).flatMap f:=by
 have : g = fun i=>f i.val:=funext h
 have e : (List.finRange n).map Fin.val = List.range n:=List.ext_getElem (by simp) fun i h1 h2=>by simp
 rw [this,← e,List.flatMap_map]
theorem img_flat (m : Img) : m.enc.flat.map leafV = inosCs m ++ ((List.range 3).flatMap (rowCs m) ++ datsCs m):=by
 simp only [Img.enc,AV.flat,encV,List.append_nil,List.map_append,List.map_flatMap]
 rw [fin_range (f:=fun n=>inoCs (m.ino n)),fin_range (f:=rowCs m),fin_range (f:=fun x=>datCs (m.dat x))]
 ·rfl
 ·intro x
  show List.map leafV (Dat.enc m.data[x.val]).flat = _
  rw [dat_eq]; rfl
 ·intro d
  exact fin_range fun s=>by
   show List.map leafV (Ent.enc (m.dir[d.val])[s.val]).flat = _
   rw [ent_eq]; rfl
 ·intro n
  show List.map leafV (Ino.enc m.inode[n.val]).flat = _
  rw [ino_eq]; rfl
theorem img_plain (m : Img) : ∀ c ∈ m.enc.flat,c.plainLeaf = true:=by
 simp only [Img.enc,AV.flat,encV,List.append_nil,List.mem_append,List.mem_flatMap]
 rintro c (⟨n,_,hc⟩ | ⟨d,_,s,_,hc⟩ | ⟨x,_,hc⟩)
 ·simp only [Ino.enc,AV.flat,encV,List.append_nil,List.mem_append,List.mem_flatMap,List.mem_singleton] at hc
  rcases hc with rfl | rfl | rfl | ⟨_,_,rfl⟩ <;> rfl
 ·simp only [Ent.enc,AV.flat,List.append_nil,List.mem_append,List.mem_singleton] at hc
  rcases hc with rfl | rfl | rfl <;> rfl
 ·simp only [Dat.enc,AV.flat,List.append_nil,List.mem_append,List.mem_singleton] at hc
  rcases hc with rfl | rfl <;> rfl
theorem range_left {r o : Nat} {a b : List Value} (h : w.rangeAt r o (a ++ b)) : w.rangeAt r o a:=fun j v hv=>h j v (by
 have hj : j < a.length:=by
  rcases Nat.lt_or_ge j a.length with h | h
  ·exact h
  ·rw [List.getElem?_eq_none h] at hv; simp at hv
 rw [List.getElem?_append_left hj]; exact hv)
theorem range_right {r o : Nat} {a b : List Value} (h : w.rangeAt r o (a ++ b)) : w.rangeAt r (o + a.length) b:=fun j v hv=>by
 have:=h (a.length + j) v (by rw [List.getElem?_append_right (by omega),Nat.add_sub_cancel_left]; exact hv)
 rw [← Nat.add_assoc] at this
 exact this
theorem range_rows {r o : Nat} {f : Nat → List Value} {c n : Nat} (hf : ∀ i,(f i).length = c) (h : w.rangeAt r o ((List.range n).flatMap f)) (d : Nat) (hd : d < n) : w.rangeAt r (o + d * c) (f d):=fun j v hv=>by
 have hj : j < c:=by
  rcases Nat.lt_or_ge j c with h | h
  ·exact h
  ·rw [List.getElem?_eq_none (by rw [hf]; exact h)] at hv; simp at hv
 have e:=getElem?_flatMap_const (List.range n) f c (fun x _=>hf x) d (by simpa using hd) j hj
 rw [List.getElem_range] at e
 have:=h (d * c + j) v (by rw [e]; exact hv)
 rw [← Nat.add_assoc] at this
 exact this
theorem PrintX [Fix] {T : Nat → Option MFun} {F : FuncId} (hf : ∃ f c, P.funcs[F]? = some f ∧ f.body = some c ∧ (f.name == "runtime.NumGoroutine") = false)
  (hraw : ∀ O w,Fix.I O w → ∀ (m : Img) (r off : Nat),m.slim → r < w.heap.size → w.rangeAt r off (inosCs m) → (∀ d,d < 3 → w.rangeAt r (off + 40 + d * 12) (rowCs m d)) → w.rangeAt r (off + 76) (datsCs m) →
   Calls P F #[.pointer (some ⟨r,off,none⟩)] w fun e w'=>e = .returned (.string ⟨(textL m).toArray⟩) ∧ Below w.heap.size w w') : ExtOk P T φ F Fn.text_Print:=by
 refine ⟨hf,fun m cx args h s2 v β O rargs w hr hv hlen ha hm hdom htop hfresh hinv=>?_⟩
 match args,hlen with
 | [a],_ =>
  obtain ⟨i,p,img,b,rfl,hl,hat,hs,rfl,ho,hh⟩:=Print_run hr hv
  obtain ⟨x,rfl⟩ : ∃ x,rargs = [x]:=by
   have:=ha.1
   match rargs,this with
   | [x],_=>exact ⟨x,rfl⟩
  have hx:=ha.2 0 _ _ rfl rfl
  simp only [VR,VR1,AV.isAgg,Bool.false_eq_true,if_false,LR,AV.rel] at hx
  obtain ⟨pl,o,hpl,hfd,rfl⟩:=hx
  obtain ⟨pl',cs,TT,fr,hB⟩:=hm.live i b hl
  have e:=hB.place.symm.trans hpl
  simp only [Option.some.injEq] at e
  subst e
  rw [hB.ty] at hfd
  obtain ⟨hfit,hseg⟩:=Ty.fits_at hB.fits hfd hat
  have hbig : w.rangeAt pl'.r (pl'.base + o) (img.enc.flat.map leafV):=by
   intro j v hv
   rw [List.getElem?_map,Option.map_eq_some_iff] at hv
   obtain ⟨c,hc,rfl⟩:=hv
   have hjs : j < tImage.size:=by
    rcases Nat.lt_or_ge j tImage.size with h | h
    ·exact h
    ·rw [List.getElem?_eq_none (by rw [Ty.fits_length hfit]; exact h)] at hc; simp at hc
   obtain ⟨x,hx,hLR⟩:=hB.cells (o + j) c (by rw [hseg j hjs]; exact hc)
   rw [LR_leafV (img_plain img c (List.mem_of_getElem? hc)) hLR] at hx
   simp only [World.cell?,hB.heap]
   rw [Nat.add_assoc]
   simpa using hx
  rw [img_flat] at hbig
  have h1:=range_left hbig
  have h2:=range_right hbig
  rw [show (inosCs img).length = 40 from rfl] at h2
  have h3:=range_rows (f:=rowCs img) (c:=12) (fun _=>rfl) (range_left h2)
  have h4:=range_right h2
  rw [show ((List.range 3).flatMap (rowCs img)).length = 36 from rfl] at h4
  refine (hraw O w hinv img pl'.r (pl'.base + o) hs (Array.getElem?_eq_some_iff.1 hB.heap).1 h1 h3 h4).mono ?_
  rintro e w' ⟨rfl,hb⟩
  exact ⟨_,β,rfl,VR_of_VR1 (by simp [VR1,AV.isAgg,LR,AV.rel]),.inl rfl,ext_back hm hdom htop ho hh hb⟩
end
open Go.RowKit
section
variable {T : Nat → Option MFun} {n m : Nat} {cx : Cx} {d : Option Nat} {mk : MK} {kill : List Nat} {r : List MOp} {k : List Item} {s s2 : St} {h : HP} {a b v : AV}
theorem run_op_inv (hop : ∀ todo,opCmd T cx d mk todo s = match evOp cx d mk s with
   | some (v,s')=>.go todo (s'.setd d v)
   | none=>.fail) (hr : run T (n + 1) cx (.ops (⟨d,mk,none⟩ :: r) kill :: k) s = some s2) :
  ∃ v s',evOp cx d mk s = some (v,s') ∧ run T n cx (.ops r kill :: k) (s'.setd d v) = some s2:=by
 have e : next T cx (.ops (⟨d,mk,none⟩ :: r) kill :: k) s = opCmd T cx d mk (.ops r kill :: k) s:=rfl
 rw [run_s,e,hop] at hr
 cases he : evOp cx d mk s with
 | none=>rw [he] at hr; simp at hr
 | some q =>
  obtain ⟨v,s'⟩:=q
  rw [he] at hr
  exact ⟨v,s',rfl,hr⟩
theorem run_end (hr : run T (n + 2) cx [.ops [] [],.code .ret] s = some s2) : s2 = s.kill []:=(Option.some.inj hr).symm
theorem ev_prim {f : List AV → Option AV} {xs : List Opd} {s' : St} (he : evOp cx d (.prim f xs) s = some (v,s')) : s' = s ∧ f (xs.map s.opd) = some v ∧ v.safe = true:=by
 unfold evOp at he
 simp only [evK] at he
 split at he
 ·rename_i e he'
  split at he'
  ·rename_i y hy
   split at he' <;> simp only [Option.some.injEq,reduceCtorEq] at he'
   subst he'
   simp only [applyEff,Option.some.injEq,Prod.mk.injEq] at he
   obtain ⟨rfl,rfl⟩:=he
   rename_i hs
   exact ⟨rfl,hy,hs⟩
  ·simp at he'
 ·simp at he
theorem ev_primS {f : List AV → ByteArray → Option AV} {t : Ty} {x y : Opd} {s' : St} (he : evOp cx d (.primS f t x y) s = some (v,s')) :
  s' = s ∧ ∃ l c,elems (s.look cx) t (s.opd x) = some l ∧ s.opd y = .str c ∧ f l c = some v ∧ v.safe = true:=by
 unfold evOp at he
 simp only [evK] at he
 split at he
 ·rename_i e he'
  split at he'
  ·rename_i l c hl hc
   split at he'
   ·rename_i y hy
    split at he' <;> simp only [Option.some.injEq,reduceCtorEq] at he'
    subst he'
    simp only [applyEff,Option.some.injEq,Prod.mk.injEq] at he
    obtain ⟨rfl,rfl⟩:=he
    rename_i hs
    exact ⟨rfl,l,c,hl,hc,hy,hs⟩
   ·simp at he'
  ·simp at he'
 ·simp at he
theorem ev_primN {f : List AV → Option (List AV)} {t : Ty} {xs : List Opd} {dd : Nat} {s' : St} (he : evOp cx (some dd) (.primN f t xs) s = some (v,s')) :
  ∃ l,f (xs.map s.opd) = some l ∧ (l.all fun v=>t.fits v) = true ∧ v = .sl (.obj s.hp.next) 0 l.length ∧ s' = { s with hp:=s.hp.nw (.arr l.length t) (.ofList l) }:=by
 unfold evOp at he
 simp only [evK] at he
 split at he
 ·rename_i e he'
  split at he'
  ·rename_i l hl
   split at he' <;> simp only [Option.some.injEq,reduceCtorEq] at he'
   rename_i ha
   subst he'
   have he2 : some (AV.sl (.obj s.hp.next) 0 l.length,{ s with hp:=s.hp.nw (.arr l.length t) (.ofList l) }) = some (v,s'):=he
   simp only [Option.some.injEq,Prod.mk.injEq] at he2
   obtain ⟨rfl,rfl⟩:=he2
   exact ⟨l,hl,ha,rfl,rfl⟩
  ·simp at he'
 ·simp at he
theorem ev_fld {st ft : Ty} {i : Nat} {x : Opd} {s' : St} (he : evOp cx d (.fld st i ft x) s = some (v,s')) : s' = s ∧ ∃ j p,s.opd x = .ptr j p st ∧ v = .ptr j (p ++ [i]) ft:=by
 unfold evOp at he
 simp only [evK] at he
 split at he
 ·rename_i e he'
  split at he'
  ·rename_i j p t hx
   split at he' <;> simp only [Option.some.injEq,reduceCtorEq] at he'
   subst he'
   simp only [applyEff,Option.some.injEq,Prod.mk.injEq] at he
   obtain ⟨rfl,rfl⟩:=he
   rename_i hs
   exact ⟨rfl,j,p,by rw [hx,hs.1],rfl⟩
  ·simp at he'
 ·simp at he
theorem ev_store {t : Ty} {ap : List Nat} {x y : Opd} {s' : St} (he : evOp cx d (.store t ap x y) s = some (v,s')) :
  ∃ i p bb u,s.opd x = .ptr i p t ∧ t.fits (s.opd y) = true ∧ s.look cx i = some bb ∧ bb.val.put p (s.opd y) = some u ∧ v = .bot ∧ s.write cx i ⟨bb.ty,u⟩ = some s':=by
 unfold evOp at he
 simp only [evK] at he
 split at he
 ·rename_i e he'
  split at he'
  ·rename_i i p t' hx
   split at he'
   ·rename_i hc
    split at he'
    ·rename_i bb hb
     split at he' <;> simp only [Option.some.injEq,reduceCtorEq] at he'
     rename_i u hu
     subst he'
     simp only [applyEff,Option.map_eq_some_iff,Prod.mk.injEq] at he
     obtain ⟨s1,h1,rfl,rfl⟩:=he
     exact ⟨i,p,bb,u,by rw [hx,hc.1],hc.2.1,hb,hu,rfl,h1⟩
    ·simp at he'
   ·simp at he'
  ·simp at he'
 ·simp at he
theorem ev_tostr {x : Opd} {s' : St} (he : evOp cx d (.tostr x) s = some (v,s')) : s' = s ∧ ∃ l bs,elems (s.look cx) tU8 (s.opd x) = some l ∧ bytesOf l = some bs ∧ v = .str ⟨bs.toArray⟩:=by
 unfold evOp at he
 simp only [evK] at he
 split at he
 ·rename_i e he'
  split at he'
  ·rename_i l hl
   simp only [Option.map_eq_some_iff] at he'
   obtain ⟨bs,hb,rfl⟩:=he'
   simp only [applyEff,Option.some.injEq,Prod.mk.injEq] at he
   obtain ⟨rfl,rfl⟩:=he
   exact ⟨rfl,l,bs,hl,hb,rfl⟩
  ·simp at he'
 ·simp at he
theorem ev_drop {x : Opd} {s' : St} (he : evOp cx d (.drop x) s = some (v,s')) : (s.opd x = .nilsl ∧ s' = s) ∨ (s.opd x = .slz ∧ s' = s) ∨ ∃ j o l,s.opd x = .sl j o l ∧ s.drop cx j = some s':=by
 unfold evOp at he
 simp only [evK] at he
 split at he
 ·rename_i e he'
  split at he' <;> simp only [Option.some.injEq,reduceCtorEq] at he'
  ·rename_i j o l hx
   subst he'
   simp only [applyEff,Option.map_eq_some_iff,Prod.mk.injEq] at he
   obtain ⟨s1,h1,_,rfl⟩:=he
   exact .inr (.inr ⟨j,o,l,hx,h1⟩)
  ·rename_i hx
   subst he'
   simp only [applyEff,Option.some.injEq,Prod.mk.injEq] at he
   exact .inl ⟨hx,he.2.symm⟩
  ·rename_i hx
   subst he'
   simp only [applyEff,Option.some.injEq,Prod.mk.injEq] at he
   exact .inr (.inl ⟨hx,he.2.symm⟩)
 ·simp at he
theorem strsOf_some {l : List AV} {ws : List Str} (he : strsOf l = some ws) : l = ws.map .str:=by
 induction l generalizing ws with
 | nil=>simp only [strsOf,Option.some.injEq] at he; subst he; rfl
 | cons x r ih =>
  cases x <;> simp only [strsOf,Option.map_eq_some_iff,reduceCtorEq] at he
  obtain ⟨w,hw,rfl⟩:=he
  rw [ih hw]; rfl
theorem Join_run (hr : run T m cx [.code Fn.strings_Join.body] (St.enter [a,b] h) = some s2) (hv : results cx s2 Fn.strings_Join.res = some v) :
  ∃ ws sep,elems ((St.enter [a,b] h).look cx) tS a = some (ws.map .str) ∧ b = .str sep ∧ ws.length ≤ 1000000 ∧ (joinL ws sep).length ≤ 100000000 ∧ v = .str ⟨(joinL ws sep).toArray⟩ ∧ s2.own = [] ∧ s2.hp = h:=by
 have h1 : run T (m + 3 + 1) cx [.ops [⟨some 2,.primS pJoin tS (.s 0) (.s 1),none⟩] [],.code .ret] (St.enter [a,b] h) = some s2:=run_ge hr 6
 obtain ⟨x,s1,he,h2⟩:=run_op_inv (fun _=>rfl) h1
 obtain ⟨rfl,l,c,hl,hc,hf,hs⟩:=ev_primS he
 have h3:=run_end (n:=m + 1) h2
 subst h3
 have hb : b = .str c:=hc
 subst hb
 have hv2 : (if x.safe = true then some x else none) = some v:=hv
 rw [if_pos hs] at hv2
 obtain rfl:=Option.some.inj hv2
 unfold pJoin at hf
 split at hf
 ·rename_i ws hw
  split at hf <;> simp only [Option.some.injEq,reduceCtorEq] at hf
  rename_i hn
  have e:=strsOf_some hw
  subst e
  exact ⟨ws,c,hl,rfl,hn.1,hn.2,hf.symm,rfl,rfl⟩
 ·simp at hf
theorem Contains_run (hr : run T m cx [.code Fn.strings_Contains.body] (St.enter [a,b] h) = some s2) (hv : results cx s2 Fn.strings_Contains.res = some v) :
  ∃ (t sep : ByteArray) (c : UInt8),a = .str t ∧ b = .str sep ∧ sep.data.toList = [c] ∧ v = .bool (hasB t c) ∧ s2.own = [] ∧ s2.hp = h:=by
 have h1 : run T (m + 3 + 1) cx [.ops [⟨some 2,.prim pContains [(.s 0),(.s 1)],none⟩] [],.code .ret] (St.enter [a,b] h) = some s2:=run_ge hr 6
 obtain ⟨x,s1,he,h2⟩:=run_op_inv (fun _=>rfl) h1
 obtain ⟨rfl,hf,hs⟩:=ev_prim he
 have h3:=run_end (n:=m + 1) h2
 subst h3
 have hv2 : (if x.safe = true then some x else none) = some v:=hv
 rw [if_pos hs] at hv2
 obtain rfl:=Option.some.inj hv2
 have hf2 : pContains [a,b] = some x:=hf
 unfold pContains at hf2
 split at hf2
 ·rename_i t sep e
  simp only [List.cons.injEq,and_true] at e
  obtain ⟨rfl,rfl⟩:=e
  split at hf2 <;> simp only [Option.some.injEq,reduceCtorEq] at hf2
  rename_i c hc
  exact ⟨t,sep,c,rfl,rfl,hc,hf2.symm,rfl,rfl⟩
 ·simp at hf2
theorem Atoi_run (hr : run T m cx [.code Fn.strconv_Atoi.body] (St.enter [a] h) = some s2) (hv : results cx s2 Fn.strconv_Atoi.res = some v) :
  ∃ t : ByteArray,a = .str t ∧ t.size ≤ 1000000 ∧ v = .tup (.cons (.int .i64 (atoiV t)) (.cons (.iface (atoiE t)) .unit)) ∧ s2.own = [] ∧ s2.hp = h:=by
 have h1 : run T (m + 4 + 1) cx [.ops [⟨some 1,.prim pAtoi [(.s 0)],none⟩,⟨some 2,.prim pAtoiE [(.s 0)],none⟩] [],.code .ret] (St.enter [a] h) = some s2:=run_ge hr 7
 obtain ⟨x,s1,he,h2⟩:=run_op_inv (fun _=>rfl) h1
 obtain ⟨rfl,hf,hs⟩:=ev_prim he
 obtain ⟨y,s1,he',h2'⟩:=run_op_inv (n:=m + 3) (fun _=>rfl) h2
 obtain ⟨rfl,hf',hs'⟩:=ev_prim he'
 have h3:=run_end (n:=m + 1) h2'
 subst h3
 have hf2 : pAtoi [a] = some x:=hf
 have hf3 : pAtoiE [a] = some y:=hf'
 unfold pAtoi at hf2
 split at hf2
 ·rename_i t e
  simp only [List.cons.injEq,and_true] at e
  obtain rfl:=e
  split at hf2 <;> simp only [Option.some.injEq,reduceCtorEq] at hf2
  rename_i ht
  subst hf2
  simp only [pAtoiE] at hf3
  rw [if_pos ht] at hf3
  obtain rfl:=Option.some.inj hf3
  exact ⟨t,rfl,ht,(Option.some.inj hv).symm,rfl,rfl⟩
 ·simp at hf2
theorem Split_run (hr : run T m cx [.code Fn.strings_Split.body] (St.enter [a,b] h) = some s2) (hv : results cx s2 Fn.strings_Split.res = some v) :
  ∃ (t sep : ByteArray) (c : UInt8),a = .str t ∧ b = .str sep ∧ sep.data.toList = [c] ∧ t.size ≤ 1000000 ∧ v = .sl (.obj h.next) 0 (cutB t c).length ∧ s2.own = [] ∧ s2.hp = h.nw (.arr (cutB t c).length tS) (.ofList ((cutB t c).map .str)):=by
 have h1 : run T (m + 3 + 1) cx [.ops [⟨some 2,.primN pSplit tS [(.s 0),(.s 1)],none⟩] [],.code .ret] (St.enter [a,b] h) = some s2:=run_ge hr 6
 obtain ⟨x,s1,he,h2⟩:=run_op_inv (fun _=>rfl) h1
 obtain ⟨l,hf,ha,rfl,rfl⟩:=ev_primN he
 have h3:=run_end (n:=m + 1) h2
 subst h3
 have hf2 : pSplit [a,b] = some l:=hf
 unfold pSplit at hf2
 split at hf2
 ·rename_i t sep e
  simp only [List.cons.injEq,and_true] at e
  obtain ⟨rfl,rfl⟩:=e
  split at hf2
  ·rename_i c hc
   split at hf2 <;> simp only [Option.some.injEq,reduceCtorEq] at hf2
   rename_i ht
   subst hf2
   have e1 : some (AV.sl (.obj h.next) 0 ((cutB t c).map AV.str).length) = some v:=hv
   rw [List.length_map] at e1
   refine ⟨t,sep,c,rfl,rfl,hc,ht,(Option.some.inj e1).symm,rfl,?_⟩
   show h.nw (.arr ((cutB t c).map AV.str).length tS) _ = _
   rw [List.length_map]
  ·simp at hf2
 ·simp at hf2
theorem CopyCheck_run (hr : run T m cx [.code Fn.strings_Builder_copyCheck.body] (St.enter [a] h) = some s2) (hv : results cx s2 Fn.strings_Builder_copyCheck.res = some v) :
  ∃ j bb x u,a = .ptr (.obj j) [0] tBld ∧ h.look (.obj j) = some bb ∧ tDesk.fits bb.val = true ∧ bb.val.at [0,0] = some x ∧ (x = .nilp ∨ x = .ptr (.obj j) [0] tBld) ∧ bb.val.put [0,0] (.ptr (.obj j) [0] tBld) = some u ∧
   v = .tup .unit ∧ s2.own = [] ∧ s2.hp = h.set (.obj j) ⟨bb.ty,u⟩:=by
 have h1 : run T (m + 8 + 1) cx [.ops [⟨some 1,.fld tBld 0 tP (.s 0),none⟩,⟨some 2,.load false none tP (.s 1),none⟩,⟨some 3,.prim pOwn [(.s 2),(.s 0)],none⟩,⟨some 4,.prim pUp [(.s 0)],none⟩,⟨some 5,.load false none tDesk (.s 4),none⟩,⟨none,.store tP [] (.s 1) (.s 0),none⟩] [],.code .ret] (St.enter [a] h) = some s2:=run_ge hr 11
 obtain ⟨x1,s1,he1,h1⟩:=run_op_inv (fun _=>rfl) h1
 obtain ⟨rfl,i,p,hx1,rfl⟩:=ev_fld he1
 have ha : a = .ptr i p tBld:=hx1
 subst ha
 obtain ⟨x2,s1,he2,h1⟩:=run_op_inv (n:=m + 7) (fun _=>rfl) h1
 obtain ⟨rfl,i2,p2,hx2,hu2,hf2⟩:=ev_load he2
 have hx2' : AV.ptr i (p ++ [0]) tP = .ptr i2 p2 tP:=hx2
 simp only [AV.ptr.injEq,and_true] at hx2'
 obtain ⟨rfl,rfl⟩:=hx2'
 obtain ⟨x3,s1,he3,h1⟩:=run_op_inv (n:=m + 6) (fun _=>rfl) h1
 obtain ⟨rfl,hp3,hs3⟩:=ev_prim he3
 have hp3' : pOwn [x2,.ptr i p tBld] = some x3:=hp3
 obtain ⟨j,rfl,rfl,hx⟩ : ∃ j,i = .obj j ∧ p = [0] ∧ (x2 = .nilp ∨ x2 = .ptr (.obj j) [0] tBld):=by
  unfold pOwn at hp3'
  split at hp3'
  ·rename_i j t e
   simp only [List.cons.injEq,and_true,AV.ptr.injEq] at e
   obtain ⟨rfl,rfl,rfl,rfl⟩:=e
   exact ⟨j,rfl,rfl,.inl rfl⟩
  ·rename_i j1 t1 j t e
   simp only [List.cons.injEq,and_true,AV.ptr.injEq] at e
   obtain ⟨rfl,rfl,rfl,rfl⟩:=e
   split at hp3' <;> simp only [Option.some.injEq,reduceCtorEq] at hp3'
   rename_i hc
   obtain ⟨rfl,rfl,_⟩:=hc
   exact ⟨_,rfl,rfl,.inr rfl⟩
  ·simp at hp3'
 obtain ⟨x4,s1,he4,h1⟩:=run_op_inv (n:=m + 5) (fun _=>rfl) h1
 obtain ⟨rfl,hp4,hs4⟩:=ev_prim he4
 have hp4' : pUp [.ptr (.obj j) [0] tBld] = some x4:=hp4
 simp only [pUp,if_true,Option.some.injEq] at hp4'
 subst hp4'
 obtain ⟨x5,s1,he5,h1⟩:=run_op_inv (n:=m + 4) (fun _=>rfl) h1
 obtain ⟨rfl,i5,p5,hx5,hu5,hf5⟩:=ev_load he5
 have hx5' : AV.ptr (.obj j) [] tDesk = .ptr i5 p5 tDesk:=hx5
 simp only [AV.ptr.injEq,and_true] at hx5'
 obtain ⟨rfl,rfl⟩:=hx5'
 obtain ⟨x6,s1,he6,h1⟩:=run_op_inv (n:=m + 3) (fun _=>rfl) h1
 obtain ⟨i6,p6,bb,u,hx6,hf6,hb6,hu6,rfl,hw⟩:=ev_store he6
 have hx6' : AV.ptr (.obj j) ([0] ++ [0]) tP = .ptr i6 p6 tP:=hx6
 simp only [AV.ptr.injEq,and_true] at hx6'
 obtain ⟨rfl,rfl⟩:=hx6'
 have h3:=run_end (n:=m + 1) h1
 subst h3
 have hb : h.look (.obj j) = some bb:=hb6
 have e5 : ((h.look (.obj j)).bind fun b=>b.val.at []) = some x5:=hu5
 rw [hb] at e5
 have e5' : bb.val.at [] = some x5:=e5
 have e6 : bb.val = x5:=by simpa [AV.at] using e5'
 subst e6
 have e2 : ((h.look (.obj j)).bind fun b=>b.val.at [0,0]) = some x2:=hu2
 rw [hb] at e2
 have hw2 : (if cx.prot.lets (.obj j) then some _ else none) = some s1:=hw
 split at hw2 <;> simp only [Option.some.injEq,reduceCtorEq] at hw2
 subst hw2
 exact ⟨j,bb,x2,u,rfl,hb,hf5,e2,hx,hu6,(Option.some.inj hv).symm,rfl,rfl⟩
theorem String_run (hr : run T m cx [.code Fn.strings_Builder_String.body] (St.enter [a] h) = some s2) (hv : results cx s2 Fn.strings_Builder_String.res = some v) :
  ∃ j bb y,a = .ptr (.obj j) [0] tBld ∧ h.look (.obj j) = some bb ∧ tDesk.fits bb.val = true ∧ bb.val.at [0,1] = some y ∧ s2.own = [] ∧
   ((y = .nilsl ∧ v = .str ⟨#[]⟩ ∧ s2.hp = h) ∨ ∃ g l bs,y = .sl (.obj g) 0 l ∧ l ≤ 1048576 ∧ (∃ c,elems ((St.enter [a] h).look cx) tU8 y = some c ∧ bytesOf c = some bs) ∧ v = .str ⟨bs.toArray⟩ ∧ s2.hp = h.dl g):=by
 have h1 : run T (m + 9 + 1) cx [.ops [⟨some 1,.fld tBld 1 tSl (.s 0),none⟩,⟨some 2,.load false none tSl (.s 1),none⟩,⟨some 5,.prim pUp [(.s 0)],none⟩,⟨some 6,.load false none tDesk (.s 5),none⟩,⟨some 4,.prim pBuf [(.s 2)],none⟩,⟨some 3,.tostr (.s 2),none⟩,⟨none,.drop (.s 2),none⟩] [],.code .ret] (St.enter [a] h) = some s2:=run_ge hr 12
 obtain ⟨x1,s1,he1,h1⟩:=run_op_inv (fun _=>rfl) h1
 obtain ⟨rfl,i,p,hx1,rfl⟩:=ev_fld he1
 have ha : a = .ptr i p tBld:=hx1
 subst ha
 obtain ⟨x2,s1,he2,h1⟩:=run_op_inv (n:=m + 8) (fun _=>rfl) h1
 obtain ⟨rfl,i2,p2,hx2,hu2,hf2⟩:=ev_load he2
 have hx2' : AV.ptr i (p ++ [1]) tSl = .ptr i2 p2 tSl:=hx2
 simp only [AV.ptr.injEq,and_true] at hx2'
 obtain ⟨rfl,rfl⟩:=hx2'
 obtain ⟨x4,s1,he4,h1⟩:=run_op_inv (n:=m + 7) (fun _=>rfl) h1
 obtain ⟨rfl,hp4,hs4⟩:=ev_prim he4
 have hp4' : pUp [.ptr i p tBld] = some x4:=hp4
 obtain ⟨j,rfl,rfl,rfl⟩ : ∃ j,i = .obj j ∧ p = [0] ∧ x4 = .ptr (.obj j) [] tDesk:=by
  unfold pUp at hp4'
  split at hp4'
  ·rename_i j t e
   simp only [List.cons.injEq,and_true,AV.ptr.injEq] at e
   obtain ⟨rfl,rfl,rfl⟩:=e
   simp only [if_true,Option.some.injEq] at hp4'
   exact ⟨j,rfl,rfl,hp4'.symm⟩
  ·simp at hp4'
 obtain ⟨x5,s1,he5,h1⟩:=run_op_inv (n:=m + 6) (fun _=>rfl) h1
 obtain ⟨rfl,i5,p5,hx5,hu5,hf5⟩:=ev_load he5
 have hx5' : AV.ptr (.obj j) [] tDesk = .ptr i5 p5 tDesk:=hx5
 simp only [AV.ptr.injEq,and_true] at hx5'
 obtain ⟨rfl,rfl⟩:=hx5'
 obtain ⟨bb,hb1,hb2⟩:=Option.bind_eq_some_iff.1 (show (h.look (.obj j)).bind (fun b=>b.val.at [0,1]) = some x2 from hu2)
 have e5 : ((h.look (.obj j)).bind fun b=>b.val.at []) = some x5:=hu5
 rw [hb1] at e5
 have e5' : bb.val.at [] = some x5:=e5
 have e6 : bb.val = x5:=by simpa [AV.at] using e5'
 subst e6
 obtain ⟨x3,s1,he3,h1⟩:=run_op_inv (n:=m + 5) (fun _=>rfl) h1
 obtain ⟨rfl,hp3,hs3⟩:=ev_prim he3
 have hp3' : pBuf [x2] = some x3:=hp3
 obtain ⟨x4,s1,he4,h1⟩:=run_op_inv (n:=m + 4) (fun _=>rfl) h1
 obtain ⟨rfl,l,bs,hl,hbs,rfl⟩:=ev_tostr he4
 have hl' : elems ((St.enter [.ptr (.obj j) [0] tBld] h).look cx) tU8 x2 = some l:=hl
 obtain ⟨x7,s1,he7,h1⟩:=run_op_inv (n:=m + 3) (fun _=>rfl) h1
 have hd:=ev_drop he7
 have h3:=run_end (n:=m + 1) h1
 subst h3
 unfold pBuf at hp3'
 split at hp3'
 ·rename_i e
  simp only [List.cons.injEq,and_true] at e
  subst e
  simp only [elems,Option.some.injEq] at hl'
  subst hl'
  simp only [bytesOf,Option.some.injEq] at hbs
  subst hbs
  rcases hd with ⟨_,rfl⟩ | ⟨_,rfl⟩ | ⟨j,o,l,hd,_⟩
  ·exact ⟨j,bb,.nilsl,rfl,hb1,hf5,hb2,rfl,.inl ⟨rfl,(Option.some.inj hv).symm,rfl⟩⟩
  ·exact ⟨j,bb,.nilsl,rfl,hb1,hf5,hb2,rfl,.inl ⟨rfl,(Option.some.inj hv).symm,rfl⟩⟩
  ·exact absurd (show AV.nilsl = .sl j o l from hd) (by simp)
 ·rename_i g n e
  simp only [List.cons.injEq,and_true] at e
  subst e
  split at hp3' <;> simp only [Option.some.injEq,reduceCtorEq] at hp3'
  rename_i hn
  rcases hd with hd | hd | ⟨j',o,l',hd,hdr⟩
  ·exact absurd (show AV.sl (.obj g) 0 n = .nilsl from hd.1) (by simp)
  ·exact absurd (show AV.sl (.obj g) 0 n = .slz from hd.1) (by simp)
  ·have hd' : AV.sl (.obj g) 0 n = .sl j' o l':=hd
   simp only [AV.sl.injEq] at hd'
   obtain ⟨rfl,rfl,rfl⟩:=hd'
   have hw2 : (if cx.prot.lets (.obj g) then some _ else none) = some s1:=hdr
   split at hw2 <;> simp only [Option.some.injEq,reduceCtorEq] at hw2
   subst hw2
   exact ⟨j,bb,_,rfl,hb1,hf5,hb2,rfl,.inr ⟨g,n,bs,rfl,hn,⟨l,hl',hbs⟩,(Option.some.inj hv).symm,rfl⟩⟩
 ·simp at hp3'
end
open Go.RowKit
section
variable {φ : Nat → Option FuncId} {β : Beta} {P : Program} {O : Nat → Prop} {w w' : World} {look look' : Id → Option Blk}
theorem enter_sub {cx : Cx} {args : List AV} {h : HP} {s : St} (ho : s.own = []) (hp : s.hp = h) {i : Id} {b : Blk} (hl : s.look cx i = some b) : h.look i = some b:=by
 subst hp
 unfold St.look at hl
 split at hl
 ·rw [ho] at hl; simp [Own.get] at hl
 ·exact hl
theorem strs_cells [Tk] {y : AV} {vy : Value} {ws : List Str} (hR : HR φ β O look w) (hy : VR φ β y vy) (h : elems look tS y = some (ws.map .str)) :
  ∃ a c,vy = .slice a ws.length c ∧ (ws = [] ∨ ∃ bk o,a = some ⟨bk,o,none⟩ ∧ bk < w.heap.size ∧ ws.length ≤ c ∧ ∀ (j : Nat) x,ws[j]? = some x → w.cell? ⟨bk,o + j,none⟩ = some (.string x)):=by
 unfold elems at h
 split at h
 ·simp at h
  subst h
  have : vy = .slice none 0 0:=by simpa [VR,VR1,AV.isAgg,LR,AV.rel] using hy
  exact ⟨_,_,this,.inl rfl⟩
 ·simp at h
  subst h
  obtain ⟨a,cap,rfl⟩ : ∃ a cap,vy = .slice (some a) 0 cap:=by simpa [VR,VR1,AV.isAgg,LR,AV.rel] using hy
  exact ⟨_,_,rfl,.inl rfl⟩
 ·rename_i j off len
  split at h
  ·rename_i n t' v hlk
   split at h
   ·rename_i l hl
    split at h
    ·rename_i hc
     obtain ⟨rfl,hle⟩:=hc
     simp only [Option.some.injEq] at h
     obtain ⟨pl,m,t',cap,hb,hty,h1,h2,h3,rfl⟩:=LR_sl hy
     obtain ⟨pl',cs,T',fr,hB⟩:=hR.live j _ hlk
     obtain rfl : pl' = pl:=Option.some.inj (hB.place.symm.trans hb)
     rw [hB.ty] at hty
     simp at hty
     obtain ⟨rfl,rfl⟩:=hty
     obtain ⟨hll,hlf,hfl⟩:=arr_list hB.fits hl
     have hlen : len = ws.length:=by
      have:=congrArg List.length h
      simp at this
      omega
     subst hlen
     refine ⟨_,_,rfl,.inr ⟨_,_,rfl,(Array.getElem?_eq_some_iff.1 hB.heap).1,by omega,fun k x hx=>?_⟩⟩
     have hk : k < ws.length:=by
      rcases Nat.lt_or_ge k ws.length with h | h
      ·exact h
      ·rw [List.getElem?_eq_none h] at hx; simp at hx
     have e1 : l[off + k]? = some (.str x):=by
      have : (List.take ws.length (List.drop off l))[k]? = some (.str x):=by rw [h,List.getElem?_map,hx]; rfl
      rw [List.getElem?_take,if_pos hk,List.getElem?_drop] at this
      exact this
     have e2 : v.flat[off + k]? = some (.str x):=by
      have hone : ∀ x ∈ l,(AV.flat x).length = 1:=fun x hx=>Ty.fits_length (hlf x hx)
      have:=flatMap_drop (k:=off + k) hone
      rw [← hfl] at this
      have hd : l.drop (off + k) = .str x :: l.drop (off + k + 1):=by
       have hlt : off + k < l.length:=by
        rcases Nat.lt_or_ge (off + k) l.length with h | h
        ·exact h
        ·rw [List.getElem?_eq_none h] at e1; simp at e1
       rw [List.drop_eq_getElem_cons hlt]
       rw [List.getElem?_eq_getElem hlt] at e1
       rw [Option.some.inj e1]
      rw [hd,List.flatMap_cons,Nat.mul_one] at this
      have h0:=congrArg (fun z : List AV=>z[0]?) this
      simp only [List.getElem?_drop,Nat.add_zero] at h0
      rw [← h0]; rfl
     obtain ⟨y,hy1,hy2⟩:=hB.cells _ _ e2
     have hy3 : y = .string x:=hy2
     subst hy3
     have hs : Ty.size tS = 1:=rfl
     simp only [World.cell?,hB.heap,hs,Nat.mul_one]
     rw [Nat.add_assoc]
     simpa using hy1
    ·simp at h
   ·simp at h
  ·simp at h
 ·simp at h
theorem JoinX [Fix] {T : Nat → Option MFun} {F : FuncId} (hf : ∃ f c, P.funcs[F]? = some f ∧ f.body = some c ∧ (f.name == "runtime.NumGoroutine") = false)
  (hnone : ∀ w a c sep,Calls P F #[.slice a 0 c,.string sep] w fun e w'=>e = .returned (.string ⟨#[]⟩) ∧ w' = w)
  (hraw : ∀ w (bk o c : Nat) (ws : List Str) (sep : ByteArray),(∀ (j : Nat) x,ws[j]? = some x → w.cell? ⟨bk,o + j,none⟩ = some (.string x)) → bk < w.heap.size → ws.length ≤ 1000000 → ws.length ≤ c → (joinL ws sep).length ≤ 100000000 →
   Calls P F #[.slice (some ⟨bk,o,none⟩) ws.length c,.string sep] w fun e w'=>e = .returned (.string ⟨(joinL ws sep).toArray⟩) ∧ Below w.heap.size w w') : ExtOk P T φ F Fn.strings_Join:=by
 refine ⟨hf,fun m cx args h s2 v β O rargs w hr hv hlen ha hm hdom htop hfresh hinv=>?_⟩
 match args,hlen with
 | [a,b],_ =>
  obtain ⟨ws,sep,he,rfl,h1,h2,rfl,ho,hh⟩:=Join_run hr hv
  obtain ⟨x,y,rfl⟩ : ∃ x y,rargs = [x,y]:=by
   have:=ha.1
   match rargs,this with
   | [x,y],_=>exact ⟨x,y,rfl⟩
  have hy:=LR_str (ha.2 1 _ _ rfl rfl)
  subst hy
  have hx:=ha.2 0 _ _ rfl rfl
  obtain ⟨aa,c,rfl,hc⟩:=strs_cells (HR_mono hm fun i b hl=>enter_sub (args:=[a,.str sep]) (cx:=cx) (s:=St.enter [a,.str sep] h) rfl rfl hl) hx he
  have hfin : Calls P F #[.slice aa ws.length c,.string sep] w fun e w'=>e = .returned (.string ⟨(joinL ws sep).toArray⟩) ∧ Below w.heap.size w w':=by
   rcases hc with rfl | ⟨bk,o,rfl,hbk,hcap,hcells⟩
   ·refine (hnone w aa c sep).mono ?_
    rintro e w' ⟨rfl,rfl⟩
    exact ⟨by simp [joinL,Lib.join],Below.refl _ _⟩
   ·exact hraw w bk o c ws sep hcells hbk h1 hcap h2
  refine hfin.mono ?_
  rintro e w' ⟨rfl,hb⟩
  exact ⟨_,β,rfl,VR_of_VR1 (by simp [VR1,AV.isAgg,LR,AV.rel]),.inl rfl,ext_back hm hdom htop ho hh hb⟩
theorem one_sep {sep : ByteArray} {c : UInt8} (h : sep.data.toList = [c]) : sep = ⟨#[c]⟩:=by
 apply ByteArray.ext; apply Array.toList_inj.1; rw [h]
theorem ContainsX [Fix] {T : Nat → Option MFun} {F : FuncId} (hf : ∃ f c, P.funcs[F]? = some f ∧ f.body = some c ∧ (f.name == "runtime.NumGoroutine") = false)
  (hraw : ∀ w (t : ByteArray) (c : UInt8),Calls P F #[.string t,.string ⟨#[c]⟩] w fun e w'=>e = .returned (.bool (hasB t c)) ∧ w' = w) : ExtOk P T φ F Fn.strings_Contains:=by
 refine ⟨hf,fun m cx args h s2 v β O rargs w hr hv hlen ha hm hdom htop hfresh hinv=>?_⟩
 match args,hlen with
 | [a,b],_ =>
  obtain ⟨t,sep,c,rfl,rfl,hc,rfl,ho,hh⟩:=Contains_run hr hv
  obtain ⟨x,y,rfl⟩ : ∃ x y,rargs = [x,y]:=by
   have:=ha.1
   match rargs,this with
   | [x,y],_=>exact ⟨x,y,rfl⟩
  have hx:=LR_str (ha.2 0 _ _ rfl rfl)
  have hy:=LR_str (ha.2 1 _ _ rfl rfl)
  subst hx hy
  obtain rfl:=one_sep hc
  refine (hraw w t c).mono ?_
  rintro e w' ⟨rfl,rfl⟩
  exact ⟨_,β,rfl,VR_of_VR1 (by simp [VR1,AV.isAgg,LR,AV.rel]),.inl rfl,ext_back hm hdom htop ho hh (Below.refl _ _)⟩
theorem AtoiX [Fix] {T : Nat → Option MFun} {F : FuncId} (hf : ∃ f c, P.funcs[F]? = some f ∧ f.body = some c ∧ (f.name == "runtime.NumGoroutine") = false)
  (hraw : ∀ O w,Fix.I O w → ∀ t : ByteArray,t.size ≤ 1000000 → Calls P F #[.string t] w fun e w' =>
   (∃ y,e = .returned (.tuple #[.int .i64 (atoiV t),y]) ∧ ((atoiE t = false ∧ y = .nilIface) ∨ (atoiE t = true ∧ ∃ u x,y = .iface u x))) ∧ Below w.heap.size w w') : ExtOk P T φ F Fn.strconv_Atoi:=by
 refine ⟨hf,fun m cx args h s2 v β O rargs w hr hv hlen ha hm hdom htop hfresh hinv=>?_⟩
 match args,hlen with
 | [a],_ =>
  obtain ⟨t,rfl,ht,rfl,ho,hh⟩:=Atoi_run hr hv
  obtain ⟨x,rfl⟩ : ∃ x,rargs = [x]:=by
   have:=ha.1
   match rargs,this with
   | [x],_=>exact ⟨x,rfl⟩
  have hx:=LR_str (ha.2 0 _ _ rfl rfl)
  subst hx
  refine (hraw O w hinv t ht).mono ?_
  rintro e w' ⟨⟨y,rfl,hy⟩,hb⟩
  exact ⟨_,β,rfl,⟨_,rfl,rfl,by simp [VR1,AV.isAgg,LR,AV.rel],rfl,by
   simp only [VR1,AV.isAgg,LR,AV.rel,Bool.false_eq_true,if_false]; exact hy,trivial⟩,.inr ⟨_,rfl⟩,ext_back hm hdom htop ho hh hb⟩
theorem flat_strs : ∀ l : List Str,(l.map AV.str).flatMap AV.flat = l.map AV.str
 | []=>rfl
 | a :: r=>by rw [List.map_cons,List.flatMap_cons,flat_strs r]; rfl
theorem SplitX [Fix] {T : Nat → Option MFun} {F : FuncId} {TT : TypeId} (hT : Tk.tk tS TT) (hf : ∃ f c, P.funcs[F]? = some f ∧ f.body = some c ∧ (f.name == "runtime.NumGoroutine") = false)
  (hraw : ∀ O w,Fix.I O w → ∀ (t : ByteArray) (c : UInt8),t.size ≤ 1000000 → Calls P F #[.string t,.string ⟨#[c]⟩] w fun e w' =>
   e = .returned (.slice (some ⟨w.heap.size,0,none⟩) (cutB t c).length (cutB t c).length) ∧ w' = w.alloc (.cells ((cutB t c).map Value.string).toArray TT)) : ExtOk P T φ F Fn.strings_Split:=by
 refine ⟨hf,fun m cx args h s2 v β O rargs w hr hv hlen ha hm hdom htop hfresh hinv=>?_⟩
 match args,hlen with
 | [a,b],_ =>
  obtain ⟨t,sep,c,rfl,rfl,hc,ht,rfl,ho,hh⟩:=Split_run hr hv
  obtain ⟨x,y,rfl⟩ : ∃ x y,rargs = [x,y]:=by
   have:=ha.1
   match rargs,this with
   | [x,y],_=>exact ⟨x,y,rfl⟩
  have hx:=LR_str (ha.2 0 _ _ rfl rfl)
  have hy:=LR_str (ha.2 1 _ _ rfl rfl)
  subst hx hy
  obtain rfl:=one_sep hc
  refine (hraw O w hinv t c ht).mono ?_
  rintro e w' ⟨rfl,rfl⟩
  have hfits : (Ty.arr (cutB t c).length tS).fits (.ofList ((cutB t c).map .str)) = true:=encS_fits (cutB t c) (n:=(cutB t c).length) rfl
  have hflat : (AV.ofList ((cutB t c).map AV.str)).flat = (cutB t c).map AV.str:=by
   have hl : (AV.ofList ((cutB t c).map AV.str)).toList = some ((cutB t c).map AV.str):=encS_toList (cutB t c)
   rw [(arr_list hfits hl).2.2,flat_strs]
  have hcs : All2 (LR φ β) (AV.ofList ((cutB t c).map AV.str)).flat ((cutB t c).map Value.string).toArray.toList:=by
   rw [hflat]
   refine ⟨by simp,fun k x y hx hy=>?_⟩
   simp only [List.getElem?_map,Option.map_eq_some_iff] at hx hy
   obtain ⟨z,hz,rfl⟩:=hx
   obtain ⟨z',hz',rfl⟩:=hy
   rw [hz] at hz'
   obtain rfl:=Option.some.inj hz'
   simp [LR,AV.rel]
  have hL:=laid_alloc (w:=w) (b:=⟨.arr (cutB t c).length tS,.ofList ((cutB t c).map .str)⟩) (T:=TT) hfits hcs (.inl ⟨_,_,rfl,.inl hT⟩)
  have hnone : β (.obj h.next) = none:=by
   cases e : β (.obj h.next) with
   | none=>rfl
   | some pl=>exact absurd (hdom _ _ e) (by simp [Id.under])
  have hlk : ∀ i b,s2.look cx i = some b → (h.nw (.arr (cutB t c).length tS) (.ofList ((cutB t c).map .str))).look i = some b:=fun i b hl=>enter_sub (args:=[]) ho hh hl
  have hsize : ((cutB t c).map Value.string).toArray.size = (cutB t c).length:=by simp
  rw [hsize] at hL
  refine ⟨_,upd β (.obj h.next) ⟨w.heap.size,0,.arr (cutB t c).length tS,(cutB t c).length⟩,rfl,?_,.inl rfl,?_⟩
  ·refine VR_of_VR1 ?_
   simp only [VR1,AV.isAgg,Bool.false_eq_true,if_false,LR,AV.rel]
   exact ⟨⟨w.heap.size,0,.arr (cutB t c).length tS,(cutB t c).length⟩,(cutB t c).length,tS,(cutB t c).length,by simp [upd],rfl,by omega,by omega,by simp [Ty.size,tS],by simp⟩
  ·have hM : HR φ (upd β (.obj h.next) ⟨w.heap.size,0,.arr (cutB t c).length tS,(cutB t c).length⟩) O (h.nw (.arr (cutB t c).length tS) (.ofList ((cutB t c).map .str))).look (w.alloc (.cells ((cutB t c).map Value.string).toArray TT)):=by
    refine HR_upd (i:=.obj h.next) (look:=h.look) hm rfl (.inr hnone) hL (hfresh _ (Nat.le_refl _)) (fun j bj pj hj hlj hbj=>?_) look_nw (fun j bj hj hlj=>?_)
    ·have hj' : h.look j = some bj:=by
      cases j with
      | obj n=>
       have hne : n ≠ h.next:=fun e=>hj (by rw [e])
       have : (if n = h.next then some _ else h.obj n) = some bj:=hlj
       rw [if_neg hne] at this; exact this
      | stk l t=>exact hlj
      | arg n=>exact hlj
     have hlt:=HR_lt hm hj' hbj
     exact ⟨fun e=>by rw [e] at hlt; exact Nat.lt_irrefl _ hlt,(alloc_same w _).block _ hlt (fun h=>h)⟩
    ·cases j with
     | obj n =>
      have hne : n ≠ h.next:=fun e=>hj (by rw [e])
      have : (if n = h.next then some _ else h.obj n) = some bj:=hlj
      rw [if_neg hne] at this; exact this
     | stk l t=>exact hlj
     | arg n=>exact hlj
   refine ⟨HR_mono hM hlk,(alloc_same w _).mono (fun _ h=>h.elim),fun i pl hi hb=>?_,?_,fun i pl hi=>?_,?_⟩
   ·unfold upd
    rw [if_neg]
    ·exact hb
    ·rintro rfl
     rw [hnone] at hb; simp at hb
   ·rw [hh]; exact Nat.le_succ _
   ·rw [hh]
    show i.under (cx.lvl + 1) (h.next + 1)
    unfold upd at hi
    split at hi
    ·rename_i e; subst e; exact Nat.lt_succ_self _
    ·have:=hdom i pl hi
     cases i <;> simp only [Id.under] at this ⊢ <;> omega
   ·rw [hh]; exact htop
theorem leafP {v : AV} (h : tP.fits v = true) : v.flat = [v] ∧ v.isAgg = false:=by
 cases v <;> first | exact ⟨rfl,rfl⟩ | (simp [tP,Ty.fits,LK.fits] at h; done)
theorem leafSl {v : AV} (h : tSl.fits v = true) : v.flat = [v] ∧ v.isAgg = false:=by
 cases v <;> first | exact ⟨rfl,rfl⟩ | (simp [tSl,Ty.fits,LK.fits] at h; done)
theorem fits_consE {a b : Ty} {v : AV} (h : (Ty.cons a b).fits v = true) : ∃ x y,v = .cons x y ∧ a.fits x = true ∧ b.fits y = true:=by
 cases v with
 | cons x y =>
  have h' : (a.fits x && b.fits y) = true:=h
  rw [Bool.and_eq_true] at h'
  exact ⟨x,y,rfl,h'⟩
 | _=>exact absurd h (by simp [Ty.fits])
theorem fits_unitE {v : AV} (h : Ty.unit.fits v = true) : v = .unit:=by
 cases v <;> first | rfl | (simp [Ty.fits] at h; done)
theorem desk_shape {v : AV} (h : tDesk.fits v = true) : ∃ x y z,v = .cons (.cons x (.cons y .unit)) (.cons z .unit) ∧ tP.fits x = true ∧ tSl.fits y = true ∧ tP.fits z = true:=by
 obtain ⟨a,b,rfl,h1,h2⟩:=fits_consE h
 obtain ⟨x,c,rfl,hx,h3⟩:=fits_consE h1
 obtain ⟨y,d,rfl,hy,h4⟩:=fits_consE h3
 obtain rfl:=fits_unitE h4
 obtain ⟨z,e,rfl,hz,h5⟩:=fits_consE h2
 obtain rfl:=fits_unitE h5
 exact ⟨x,y,z,rfl,hx,hy,hz⟩
theorem tyLeaf {t : Ty} {v : AV} (hv : v.isLeaf = true) (ht : t.fits v = true) : ∃ k : LK,t = .leaf k ∧ k.fits v = true:=by
 cases t with
 | leaf k=>
  have h' : (k.fits v && v.safe) = true:=ht
  rw [Bool.and_eq_true] at h'
  exact ⟨k,rfl,h'.1⟩
 | arr n t=>cases v <;> first | (simp [AV.isLeaf] at hv; done) | (simp [Ty.fits] at ht; done)
 | unit=>cases v <;> first | (simp [AV.isLeaf] at hv; done) | (simp [Ty.fits] at ht; done)
 | cons a b=>cases v <;> first | (simp [AV.isLeaf] at hv; done) | (simp [Ty.fits] at ht; done)
theorem tyP {t : Ty} {v : AV} (h : tP.fits v = true) (ht : t.fits v = true) : t = tP:=by
 have h' : (LK.ptr.fits v && v.safe) = true:=h
 rw [Bool.and_eq_true] at h'
 have hk:=h'.1
 obtain ⟨k,rfl,hf⟩:=tyLeaf (by cases v <;> first | rfl | (simp [LK.fits] at hk; done)) ht
 cases v <;> first | (simp [LK.fits] at hk; done) | (cases k <;> first | rfl | (simp [LK.fits] at hf; done))
theorem tySl {t : Ty} {v : AV} (h : tSl.fits v = true) (ht : t.fits v = true) : t = tSl:=by
 have h' : (LK.slice.fits v && v.safe) = true:=h
 rw [Bool.and_eq_true] at h'
 have hk:=h'.1
 obtain ⟨k,rfl,hf⟩:=tyLeaf (by cases v <;> first | rfl | (simp [LK.fits] at hk; done)) ht
 cases v <;> first | (simp [LK.fits] at hk; done) | (cases k <;> first | rfl | (simp [LK.fits] at hf; done))
theorem tyUnit {t : Ty} (ht : t.fits .unit = true) : t = .unit:=by
 cases t with
 | leaf k=>cases k <;> exact absurd ht (by simp [Ty.fits,LK.fits])
 | unit=>rfl
 | _=>exact absurd ht (by simp [Ty.fits])
theorem tyCons {t : Ty} {a b : AV} (ht : t.fits (.cons a b) = true) : ∃ u v,t = .cons u v ∧ u.fits a = true ∧ v.fits b = true:=by
 cases t with
 | leaf k=>cases k <;> exact absurd ht (by simp [Ty.fits,LK.fits])
 | cons u v =>
  have h' : (u.fits a && v.fits b) = true:=ht
  rw [Bool.and_eq_true] at h'
  exact ⟨_,_,rfl,h'⟩
 | _=>exact absurd ht (by simp [Ty.fits])
theorem desk_ty {t : Ty} {v : AV} (h : tDesk.fits v = true) (ht : t.fits v = true) : t = tDesk:=by
 obtain ⟨x,y,z,rfl,hx,hy,hz⟩:=desk_shape h
 obtain ⟨u,v,rfl,h1,h2⟩:=tyCons ht
 obtain ⟨u1,u2,rfl,h3,h4⟩:=tyCons h1
 obtain ⟨u3,u4,rfl,h5,h6⟩:=tyCons h4
 obtain ⟨u7,u8,rfl,h7,h8⟩:=tyCons h2
 rw [tyP hx h3,tySl hy h5,tyUnit h6,tyP hz h7,tyUnit h8]
theorem desk_block [Tk] {j : Nat} {bb : Blk} (hR : HR φ β O look w) (hl : look (.obj j) = some bb) (hf : tDesk.fits bb.val = true) :
  ∃ r cs T x y z,β (.obj j) = some ⟨r,0,tDesk,cs.size⟩ ∧ bb.ty = tDesk ∧ bb.val = .cons (.cons x (.cons y .unit)) (.cons z .unit) ∧ tP.fits x = true ∧ tSl.fits y = true ∧ tP.fits z = true ∧ w.heap[r]? = some (.cells cs T (0,0)) ∧ cs.size = 3 ∧ Tk.tk tDesk T ∧ O r ∧
   (∃ a,cs[0]? = some a ∧ LR φ β x a) ∧ (∃ a,cs[1]? = some a ∧ LR φ β y a) ∧ (∃ a,cs[2]? = some a ∧ LR φ β z a):=by
 obtain ⟨pl,cs,T,fr,hB⟩:=hR.live _ _ hl
 have ht:=desk_ty hf hB.fits
 obtain ⟨x,y,z,e,hx,hy,hz⟩:=desk_shape hf
 obtain ⟨rfl,hO⟩:=hB.own rfl
 have hk:=hB.kind rfl
 rw [ht] at hk
 rcases hk with ⟨n,u,e',_⟩ | ⟨h1,h2,h3⟩
 ·simp at e'
 ·have hroom:=hB.room
  have hsize:=hB.size
  rw [ht] at hsize
  have hs3 : tDesk.size = 3:=rfl
  rw [hs3] at hsize h3
  have hfl : bb.val.flat = [x,y,z]:=by
   rw [e]; simp [AV.flat,(leafP hx).1,(leafSl hy).1,(leafP hz).1]
  have hcell : ∀ k c,[x,y,z][k]? = some c → ∃ a,cs[k]? = some a ∧ LR φ β c a:=fun k c hk=>by
   obtain ⟨a,ha,hr⟩:=hB.cells k c (by rw [hfl]; exact hk)
   rw [h2,Nat.zero_add] at ha
   exact ⟨a,ha,hr⟩
  have hpl : pl = ⟨pl.r,0,tDesk,cs.size⟩:=by
   have:=hB.ty
   obtain ⟨r,base,ty,room⟩:=pl
   simp only at h2 hroom hsize this ⊢
   rw [h2,this,ht]
   have : room = cs.size:=by omega
   rw [this]
  exact ⟨pl.r,cs,T,x,y,z,by rw [← hpl]; exact hB.place,ht,e,hx,hy,hz,hB.heap,h3,h1,hO,hcell 0 x rfl,hcell 1 y rfl,hcell 2 z rfl⟩
theorem desk_ptr {j : Nat} {v : Value} {r c : Nat} (hb : β (.obj j) = some ⟨r,0,tDesk,c⟩) (h : LR φ β (.ptr (.obj j) [0] tBld) v) : v = .pointer (some ⟨r,0,none⟩):=by
 simp only [LR,AV.rel] at h
 obtain ⟨pl,o,hpl,hfd,rfl⟩:=h
 rw [hb] at hpl
 obtain rfl:=Option.some.inj hpl
 have : Ty.find tDesk [0] = some (0,tBld):=rfl
 have hfd' : Ty.find tDesk [0] = some (o,tBld):=hfd
 rw [this] at hfd'
 simp only [Option.some.injEq,Prod.mk.injEq,and_true] at hfd'
 subst hfd'
 rfl
theorem CopyCheckX [Fix] {T : Nat → Option MFun} {F : FuncId} (hf : ∃ f c, P.funcs[F]? = some f ∧ f.body = some c ∧ (f.name == "runtime.NumGoroutine") = false)
  (hraw : ∀ w r cs T,w.heap[r]? = some (.cells cs T (0,0)) → cs.size = 3 → Tk.tk tDesk T → (cs[0]? = some (.pointer none) ∨ cs[0]? = some (.pointer (some ⟨r,0,none⟩))) → Calls P F #[.pointer (some ⟨r,0,none⟩)] w fun e w' =>
   e = .returned (.tuple #[]) ∧ (∃ cs',w'.heap[r]? = some (.cells cs' T (0,0)) ∧ cs'.size = cs.size ∧ cs'[0]? = some (.pointer (some ⟨r,0,none⟩)) ∧ ∀ k,0 < k → cs'[k]? = cs[k]?) ∧ SameBut w w' (· = r)) : ExtOk P T φ F Fn.strings_Builder_copyCheck:=by
 refine ⟨hf,fun m cx args h s2 v β O rargs w hr hv hlen ha hm hdom htop hfresh hinv=>?_⟩
 match args,hlen with
 | [a],_ =>
  obtain ⟨j,bb,x,u,rfl,hl,hft,hat,hx,hput,rfl,ho,hh⟩:=CopyCheck_run hr hv
  obtain ⟨x',rfl⟩ : ∃ x,rargs = [x]:=by
   have:=ha.1
   match rargs,this with
   | [x],_=>exact ⟨x,rfl⟩
  obtain ⟨r,cs,TT,x1,y,z,hpl,hty,hval,hx1,hy1,hz1,hheap,h3,htk,hO,⟨a0,ha0,hr0⟩,⟨a1,ha1,hr1⟩,⟨a2,ha2,hr2⟩⟩:=desk_block hm hl hft
  have hself:=ha.2 0 _ _ rfl rfl
  have hself' : LR φ β (.ptr (.obj j) [0] tBld) x':=hself
  obtain rfl:=desk_ptr hpl hself'
  rw [hval] at hat hput
  have hat' : some x1 = some x:=by simpa [AV.at] using hat
  obtain rfl:=Option.some.inj hat'
  have hput' : some (AV.cons (.cons (.ptr (.obj j) [0] tBld) (.cons y .unit)) (.cons z .unit)) = some u:=by simpa [AV.put] using hput
  obtain rfl:=Option.some.inj hput'
  have hc0 : cs[0]? = some (.pointer none) ∨ cs[0]? = some (.pointer (some ⟨r,0,none⟩)):=by
   rcases hx with rfl | rfl
   ·left; rw [ha0]; exact congrArg some hr0
   ·right; rw [ha0]; exact congrArg some (desk_ptr hpl hr0)
  refine (hraw w r cs TT hheap h3 htk hc0).mono ?_
  rintro e w' ⟨rfl,⟨cs',hheap',hs',hc',hk'⟩,hsame⟩
  have hM : HR φ β O (h.set (.obj j) ⟨bb.ty,.cons (.cons (.ptr (.obj j) [0] tBld) (.cons y .unit)) (.cons z .unit)⟩).look w':=by
   refine HR_wr (i:=.obj j) (b:=⟨bb.ty,.cons (.cons (.ptr (.obj j) [0] tBld) (.cons y .unit)) (.cons z .unit)⟩) hm rfl hl hpl ?_ hsame ?_
   ·refine ⟨cs',TT,hheap',by simp [hs'],by rw [hty,h3]; exact Nat.le_refl _,hty.symm,?_,?_,.inr ⟨by rw [hty]; exact htk,rfl,by rw [hs',h3,hty]; rfl⟩⟩
    ·rw [hty]
     simp only [Ty.fits,hy1,hz1,Bool.and_true,Bool.true_and]; rfl
    ·intro k c hk
     have hfl : AV.flat (.cons (.cons (.ptr (.obj j) [0] tBld) (.cons y .unit)) (.cons z .unit)) = [.ptr (.obj j) [0] tBld,y,z]:=by
      simp [AV.flat,(leafSl hy1).1,(leafP hz1).1]
     rw [hfl] at hk
     match k,hk with
     | 0,hk =>
      obtain rfl:=Option.some.inj (show some _ = some c from hk)
      exact ⟨_,by simpa using hc',hself'⟩
     | 1,hk =>
      obtain rfl:=Option.some.inj (show some _ = some c from hk)
      exact ⟨a1,by rw [Nat.zero_add,hk' 1 (by omega)]; exact ha1,hr1⟩
     | 2,hk =>
      obtain rfl:=Option.some.inj (show some _ = some c from hk)
      exact ⟨a2,by rw [Nat.zero_add,hk' 2 (by omega)]; exact ha2,hr2⟩
     | k + 3,hk=>simp at hk
   ·intro i
    cases i with
    | obj n=>
     show (if n = j then _ else h.obj n) = _
     by_cases e : n = j
     ·subst e; simp
     ·have : Id.obj n ≠ .obj j:=fun h=>e (by injection h)
      rw [if_neg e,if_neg this]; rfl
    | stk l t=>rfl
    | arg n=>rfl
  refine ⟨_,β,rfl,⟨[],rfl,trivial⟩,.inr ⟨_,rfl⟩,HR_mono hM (fun i b hl=>enter_sub (args:=[]) ho hh hl),hsame.mono (fun r' e=>e ▸ hO),Ext.refl,?_,fun i pl hi=>?_,?_⟩
  ·rw [hh]; exact Nat.le_refl _
  ·rw [hh]
   have:=hdom i pl hi
   show i.under (cx.lvl + 1) h.next
   cases i <;> simp only [Id.under] at this ⊢ <;> omega
  ·rw [hh]; exact htop
theorem HR_del [Tk] {i : Id} {b : Blk} {pl : Place} (h : HR φ β O look w) (hi : i.isArg = false) (hl : look i = some b) (hb : β i = some pl) (hs : SameBut w w' (· = pl.r))
  (hk : ∀ j bj,look' j = some bj → look j = some bj ∧ j ≠ i) : HR φ β O look' w':=by
 refine ⟨fun j bj hj=>?_,fun j k bj bk pj pk hj hk'=>h.apart j k bj bk pj pk (hk j bj hj).1 (hk k bk hk').1⟩
 obtain ⟨hj',hne⟩:=hk j bj hj
 obtain ⟨pj,cs,T,fr,hB⟩:=h.live j bj hj'
 have hr : pj.r ≠ pl.r:=fun e=>by
  have:=(h.apart j i bj b pj pl hj' hl hB.place hb hne e).2
  rw [hi] at this; simp at this
 have hlt : pj.r < w.heap.size:=(Array.getElem?_eq_some_iff.1 hB.heap).1
 exact ⟨pj,cs,T,fr,hB.place,hB.ty,hB.fits,(hs.block _ hlt hr).trans hB.heap,hB.room,hB.size,hB.cells,hB.own,hB.kind⟩
theorem bytes_ints : ∀ {l : List AV} {bs : List UInt8},bytesOf l = some bs → ∃ ns : List Int,l = ns.map (AV.int .u8) ∧ bs = ns.map fun n=>UInt8.ofNat n.toNat
 | [],bs,h=>by
  simp only [bytesOf,Option.some.injEq] at h
  subst h
  exact ⟨[],rfl,rfl⟩
 | x :: r,bs,h=>by
  unfold bytesOf at h
  split at h
  ·rename_i e; simp at e
  ·rename_i n r' e
   simp only [List.cons.injEq] at e
   obtain ⟨rfl,rfl⟩:=e
   simp only [Option.map_eq_some_iff] at h
   obtain ⟨q,hq,rfl⟩:=h
   obtain ⟨ns,rfl,rfl⟩:=bytes_ints hq
   exact ⟨n :: ns,rfl,rfl⟩
  ·simp at h
theorem flat_ints : ∀ l : List Int,(l.map (AV.int .u8)).flatMap AV.flat = l.map (AV.int .u8)
 | []=>rfl
 | a :: r=>by rw [List.map_cons,List.flatMap_cons,flat_ints r]; rfl
theorem row_block [Tk] {g n : Nat} {x : Value} {l : List AV} {ns : List Int} (hR : HR φ β O look w) (hx : LR φ β (.sl (.obj g) 0 n) x) (he : elems look tU8 (.sl (.obj g) 0 n) = some l) (hl : l = ns.map (AV.int .u8)) :
  ∃ r o cs G cap b,look (.obj g) = some b ∧ (∃ q m,β (.obj g) = some ⟨r,o,q,m⟩) ∧ x = .slice (some ⟨r,o,none⟩) ns.length cap ∧ ns.length = n ∧ n ≤ cap ∧ w.heap[r]? = some (.cells cs G (0,0)) ∧ O r ∧ o + n ≤ cs.size ∧
   (Tk.tk tU8 G ∨ ∃ m,Tk.tk (.arr m tU8) G ∧ o = 0 ∧ cs.size = m ∧ n ≤ m) ∧ ∀ (j : Nat) y,ns[j]? = some y → cs[o + j]? = some (.int .u8 y):=by
 unfold elems at he
 simp only at he
 split at he
 ·rename_i m t' v hlk
  split at he
  ·rename_i l' hl'
   split at he
   ·rename_i hc
    obtain ⟨rfl,hle⟩:=hc
    simp only [Option.some.injEq,List.drop_zero] at he
    obtain ⟨pl,m2,t2,cap,hb,hty,h1,h2,h3,rfl⟩:=LR_sl (VR_of_VR1 (by simpa [VR1,AV.isAgg] using hx))
    obtain ⟨pl',cs,G,fr,hB⟩:=hR.live _ _ hlk
    obtain rfl : pl' = pl:=Option.some.inj (hB.place.symm.trans hb)
    rw [hB.ty] at hty
    simp only [Ty.arr.injEq] at hty
    obtain ⟨rfl,rfl⟩:=hty
    obtain ⟨hll,hlf,hfl⟩:=arr_list hB.fits hl'
    obtain ⟨rfl,hO⟩:=hB.own rfl
    have hs1 : Ty.size tU8 = 1:=rfl
    have hlen : ns.length = n:=by
     have:=congrArg List.length (he.trans hl)
     simp at this
     omega
    have hroom:=hB.room
    have hsize:=hB.size
    have hsz : (Ty.arr m tU8).size = m * 1:=rfl
    simp only [hsz] at hsize
    refine ⟨pl'.r,pl'.base,cs,G,cap,_,hlk,⟨_,_,hb⟩,?_,hlen,by omega,hB.heap,hO,by omega,?_,fun j y hy=>?_⟩
    ·rw [hlen]; simp
    ·rcases hB.kind rfl with ⟨q,u,e,hk⟩ | ⟨k1,k2,k3⟩
     ·simp only [Ty.arr.injEq] at e
      obtain ⟨rfl,rfl⟩:=e
      rcases hk with hk | hk
      ·exact .inl hk
      ·rw [hs1] at hk; simp at hk
     ·exact .inr ⟨m,k1,k2,by rw [k3,hsz,Nat.mul_one],by omega⟩
    ·have hj : j < n:=by
      rcases Nat.lt_or_ge j ns.length with h | h
      ·omega
      ·rw [List.getElem?_eq_none h] at hy; simp at hy
     have e1 : (l'.take n).flatMap AV.flat = ns.map (AV.int .u8):=by rw [he,hl,flat_ints]
     rw [flatMap_take (c:=1) fun x hx=>Ty.fits_length (hlf x hx),Nat.mul_one,← hfl] at e1
     have e2 : v.flat[j]? = some (.int .u8 y):=by
      have:=congrArg (fun z : List AV=>z[j]?) e1
      simp only [List.getElem?_take,if_pos hj,List.getElem?_map,hy,Option.map_some] at this
      exact this
     obtain ⟨a,ha,hr⟩:=hB.cells _ _ e2
     have hr' : a = .int .u8 y:=hr
     rw [ha,hr']
   ·simp at he
  ·simp at he
 ·simp at he
theorem StringX [Fix] {T : Nat → Option MFun} {F : FuncId} (hf : ∃ f c, P.funcs[F]? = some f ∧ f.body = some c ∧ (f.name == "runtime.NumGoroutine") = false)
  (hnil : ∀ w r cs T,w.heap[r]? = some (.cells cs T (0,0)) → cs[1]? = some (.slice none 0 0) → Calls P F #[.pointer (some ⟨r,0,none⟩)] w fun e w'=>e = .returned (.string ⟨#[]⟩) ∧ w' = w.drew)
  (hrow : ∀ (w : World) (r : Nat) (cs : Array Value) (T : TypeId) (g o cap : Nat) (gcs : Array Value) (G : TypeId) (ns : List Int),w.heap[r]? = some (.cells cs T (0,0)) → cs[1]? = some (.slice (some ⟨g,o,none⟩) ns.length cap) → ns.length ≤ cap → w.heap[g]? = some (.cells gcs G (0,0)) → o + ns.length ≤ gcs.size →
   (Tk.tk tU8 G ∨ ∃ m,Tk.tk (.arr m tU8) G ∧ o = 0 ∧ gcs.size = m ∧ ns.length ≤ m) → ns.length ≤ 1048576 → (∀ (j : Nat) x,ns[j]? = some x → gcs[o + j]? = some (.int .u8 x)) →
   Calls P F #[.pointer (some ⟨r,0,none⟩)] w fun e w'=>e = .returned (.string ⟨(ns.map fun n=>UInt8.ofNat n.toNat).toArray⟩) ∧ SameBut w w' (· = g)) : ExtOk P T φ F Fn.strings_Builder_String:=by
 refine ⟨hf,fun m cx args h s2 v β O rargs w hr hv hlen ha hm hdom htop hfresh hinv=>?_⟩
 match args,hlen with
 | [a],_ =>
  obtain ⟨j,bb,y,rfl,hl,hft,hat,ho,hcase⟩:=String_run hr hv
  obtain ⟨x',rfl⟩ : ∃ x,rargs = [x]:=by
   have:=ha.1
   match rargs,this with
   | [x],_=>exact ⟨x,rfl⟩
  obtain ⟨r,cs,TT,x1,y1,z,hpl,hty,hval,hx1,hy1,hz1,hheap,h3,htk,hO,_,⟨a1,ha1,hr1⟩,_⟩:=desk_block hm hl hft
  obtain rfl:=desk_ptr hpl (show LR φ β (.ptr (.obj j) [0] tBld) x' from ha.2 0 _ _ rfl rfl)
  rw [hval] at hat
  have hat' : some y1 = some y:=by simpa [AV.at] using hat
  obtain rfl:=Option.some.inj hat'
  rcases hcase with ⟨rfl,rfl,hh⟩ | ⟨g,l,bs,rfl,hlm,⟨c,hel,hbs⟩,rfl,hh⟩
  ·have ha1' : a1 = .slice none 0 0:=hr1
   subst ha1'
   refine (hnil w r cs TT hheap ha1).mono ?_
   rintro e w' ⟨rfl,rfl⟩
   exact ⟨_,β,rfl,VR_of_VR1 (by simp [VR1,AV.isAgg,LR,AV.rel]),.inl rfl,ext_back hm hdom htop ho hh (Below.drew (Below.refl _ w))⟩
  ·obtain ⟨ns,hc,rfl⟩:=bytes_ints hbs
   have hm' : HR φ β O ((St.enter [.ptr (.obj j) [0] tBld] h).look cx) w:=HR_mono hm fun i b hl=>enter_sub (args:=[]) (s:=St.enter [.ptr (.obj j) [0] tBld] h) rfl rfl hl
   obtain ⟨gr,o,gcs,G,cap,b,hlk,⟨q,mm,hbg⟩,rfl,hnl,hcap,hg,hOg,hle,hk,hcells⟩:=row_block hm' hr1 hel hc
   have hlk' : h.look (.obj g) = some b:=enter_sub (args:=[]) (s:=St.enter [.ptr (.obj j) [0] tBld] h) rfl rfl hlk
   refine (hrow w r cs TT gr o cap gcs G ns hheap ha1 (by omega) hg (by omega) (hnl ▸ hk) (by omega) hcells).mono ?_
   rintro e w' ⟨rfl,hsame⟩
   have hM : HR φ β O (h.dl g).look w':=HR_del hm rfl hlk' hbg hsame fun i bi hi=>by
    cases i with
    | obj n =>
     have hi' : (if n = g then none else h.obj n) = some bi:=hi
     by_cases e : n = g
     ·rw [if_pos e] at hi'; simp at hi'
     ·rw [if_neg e] at hi'
      exact ⟨hi',fun h=>e (by injection h)⟩
    | stk l t=>exact ⟨hi,by simp⟩
    | arg n=>exact ⟨hi,by simp⟩
   refine ⟨_,β,rfl,VR_of_VR1 (by simp [VR1,AV.isAgg,LR,AV.rel]),.inl rfl,HR_mono hM (fun i b hl=>enter_sub (args:=[]) ho hh hl),hsame.mono (fun r' e=>e ▸ hOg),Ext.refl,?_,fun i pl hi=>?_,?_⟩
   ·rw [hh]; exact Nat.le_refl _
   ·rw [hh]
    have:=hdom i pl hi
    show i.under (cx.lvl + 1) h.next
    cases i <;> simp only [Id.under] at this ⊢ <;> omega
   ·rw [hh]; exact htop
end
open Go.Proofs Go.Shelf Go.RowKit
variable {P : Program} {ρ : Ren}
def hexAcc : Nat → List UInt8 → Option Nat
 | a,[]=>some a
 | a,c :: r=>match hexV c with
  | some d=>hexAcc (a * 16 + d) r
  | none=>none
def hexVal (e : Nat) : Option Nat → Value
 | some n=>.tuple #[.int .u64 n,.nilIface]
 | none=>.tuple #[.int .u64 0,.iface e (.int .i64 2)]
theorem hexLow (c : UInt8) : bits .or .u8 (c.toNat : Int) 32 = ((c ||| 32).toNat : Int):=by
 have : ∀ c : Fin 256,bits .or .u8 ((UInt8.ofNat c.val).toNat : Int) 32 = (((UInt8.ofNat c.val) ||| 32).toNat : Int):=by decide +kernel
 have e:=this ⟨c.toNat,c.toNat_lt⟩
 simpa using e
set_option maxHeartbeats 32000000 in
set_option maxRecDepth 100000 in
theorem pu16 (L : LaysPu.n16 P ρ) (t : ByteArray) (h2 : t.size = 2) (w : World) :
  Calls P (ρ.f 16) #[.string t,.int .i64 16,.int .i64 8] w fun e w'=>e = .returned (hexVal (ρ.t 34) (hexAcc 0 t.data.toList)) ∧ w' = Lib.bytesWorld w (ρ.t 5) t:=by
 have mixed:=L.mixed
 have t9:=L.t9; have a9:=L.a9; have z9:=L.z9; have v9:=L.v9
 have t3:=L.t3; have a3:=L.a3; have z3:=L.z3; have v3:=L.v3
 have t22:=L.t22; have a22:=L.a22; have z22:=L.z22; have v22:=L.v22
 have t24:=L.t24; have a24:=L.a24; have z24:=L.z24; have v24:=L.v24
 have t4:=L.t4; have a4:=L.a4; have z4:=L.z4; have v4:=L.v4
 have t34:=L.t34; have a34:=L.a34; have z34:=L.z34; have v34:=L.v34
 have t5:=L.t5; have a5:=L.a5; have z5:=L.z5; have v5:=L.v5
 have t36:=L.t36; have a36:=L.a36; have z36:=L.z36; have v36:=L.v36
 have t37:=L.t37; have a37:=L.a37; have z37:=L.z37; have v37:=L.v37
 have t0:=L.t0; have a0:=L.a0; have z0:=L.z0; have v0:=L.v0
 have e19 : ∀ args w,(callFunc (ρ.f 19) args).run P w = .ok (.enter (ρ.f 19) args) w:=enters_of L.f19 (by kernel_rfl) rfl
 have hemp : t.toList.isEmpty = false:=by
  rw [← decide_eq_emptyBytes]
  exact decide_eq_false (fun h=>by rw [h] at h2; simp at h2)
 have hcv:=Lib.run_convert_string_bytes (P:=P) w (ρ.t 9) (ρ.t 37) (ρ.t 5) t (u:=.string) L.t9 L.t37 L.t5
 have hB : ∀ j,j < 2 → (Lib.bytesWorld w (ρ.t 5) t).cell? ⟨w.heap.size,j,none⟩ = some (.int .u8 (t.data.toList.getD j 0).toNat):=fun j hj=>Lib.bytesWorld_cell w (ρ.t 5) t j (by omega)
 rw [h2] at hcv
 obtain ⟨W1,hW1⟩ : ∃ W1,W1 = Lib.bytesWorld w (ρ.t 5) t:=⟨_,rfl⟩
 rw [← hW1] at hcv hB ⊢
 clear hW1
 obtain ⟨bs,hL⟩ : ∃ bs,bs = t.data.toList:=⟨_,rfl⟩
 have hLn : bs.length = 2:=by rw [hL,← Lib.size_eq,h2]
 rw [← hL] at hB ⊢
 clear hL
 have hmv : IntKind.u64.wrap (IntKind.u64.wrap 256 - 1) = 255:=by
  rw [IntKind.wrap_u64,IntKind.wrap_u64]
  decide
 go_enter L.f16,BodyPu.n16_ntmps ρ
 go_wp2
 go_loop [12,13,101] (fun vu vn vi=>∃ (k acc : Nat) (a : Int),vu = .bool false ∧ vn = .int .u64 a ∧ vi = .int .i64 k ∧ k ≤ 2 ∧ Hid (a = (acc : Int) ∧ acc < 16 ^ k ∧ hexAcc 0 bs = hexAcc acc (bs.drop k)))
  (fun _ _ vi=>2 - (intOf vi).toNat)
 case atStart=>exact ⟨0,0,0,rfl,rfl,rfl,by omega,rfl,by omega,rfl⟩
 case round =>
  obtain ⟨k,acc,a,rfl,rfl,rfl,hk,hh⟩:=hrel
  obtain ⟨ha,hacc,hdec⟩:=hh.out
  clear hh
  by_cases hkn : k < 2
  ·have hc:=hB k hkn
   have hdrop : bs.drop k = bs[k]'(by omega) :: bs.drop (k + 1):=List.drop_eq_getElem_cons (by omega)
   have hget : bs.getD k 0 = bs[k]'(by omega):=by simp [List.getD,List.getElem?_eq_getElem (show k < bs.length by omega)]
   have hacc16 : acc < 16 ∧ 16 ^ (k + 1) ≥ 16 * acc + 16:=by
    obtain rfl | rfl : k = 0 ∨ k = 1:=by omega
    ·simp at hacc; subst hacc; simp
    ·simp at hacc; refine ⟨hacc,?_⟩; show 256 ≥ _; omega
   obtain ⟨hacc2,hpow⟩:=hacc16
   rw [hdrop] at hdec
   rw [hget] at hc
   generalize bs[k]'(by omega) = c at hc hdec
   have hc256 : c.toNat < 256:=c.toNat_lt
   clear hB hdrop hget
   by_cases hdig : 48 ≤ c.toNat ∧ c.toNat ≤ 57
   ·obtain ⟨hd0,hd1⟩:=hdig
    have hF : hexAcc acc (c :: bs.drop (k + 1)) = hexAcc (acc * 16 + (c.toNat - 48)) (bs.drop (k + 1)):=by simp [hexAcc,hexV,hd0,hd1]
    have HN : Hid (a * 16 + ((c.toNat : Int) - 48) = ((acc * 16 + (c.toNat - 48) : Nat) : Int) ∧ acc * 16 + (c.toNat - 48) < 16 ^ (k + 1) ∧ hexAcc 0 bs = hexAcc (acc * 16 + (c.toNat - 48)) (bs.drop (k + 1))):=Lib.hid ⟨by omega,by omega,hdec.trans hF⟩
    have a0 : 0 ≤ a:=by omega
    have a1 : a ≤ 15:=by omega
    have iov : a * 16 + ((c.toNat : Int) - 48) ≤ 255:=by omega
    clear hacc hF hdec ha hpow hacc2
    go_wp2
    refine ⟨⟨k + 1,acc * 16 + (c.toNat - 48),a * 16 + ((c.toNat : Int) - 48),rfl,(by first | rfl | (congr 1; omega)),(by first | rfl | (congr 1; omega)),by omega,HN⟩,by simp [intOf]; omega⟩
   ·obtain ⟨v,hv⟩ : ∃ v,v = (c ||| 32).toNat:=⟨_,rfl⟩
    have hv256 : v < 256:=by rw [hv]; exact UInt8.toNat_lt _
    have hlow : ∀ w,Calls P (ρ.f 19) #[.int .u8 (c.toNat : Int)] w fun e w'=>e = .returned (.int .u8 (v : Int)) ∧ w' = w:=fun w=>by
     have h:=AnyPu.internal_strconv_lower (P:=P) { L with } (c.toNat : Int) w
     rw [hexLow,← hv] at h
     exact h
    have ha0 : 0 ≤ a:=by omega
    have ha1 : a ≤ 15:=by omega
    by_cases hc95 : c.toNat = 95
    ·have hc' : (c.toNat : Int) = 95:=by omega
     have hv127 : v = 127:=by
      have : c = 95:=UInt8.toNat_inj.1 hc95
      rw [hv,this]; rfl
     have hF : hexAcc acc (c :: bs.drop (k + 1)) = none:=by
      have e : hexV c = none:=by unfold hexV; rw [if_neg hdig,← hv,hv127]; rfl
      simp only [hexAcc,e]
     rw [hF] at hdec
     rw [hc',hv127] at hlow
     clear hacc hF ha hpow hacc2 hv
     rw [hc'] at hc
     go_wp2_with (go_at_fn (ρ.f 19); refine (hlow _).mono ?_; rintro e w' ⟨rfl,rfl⟩)
     all_goals go_ret2
     all_goals first | exact ⟨rfl,rfl⟩ | exact ⟨by rw [hdec]; rfl,rfl⟩
    have hc95' : ¬(c.toNat : Int) = 95:=by omega
    by_cases hlet : 97 ≤ v ∧ v ≤ 102
    ·have hF : hexAcc acc (c :: bs.drop (k + 1)) = hexAcc (acc * 16 + (v - 87)) (bs.drop (k + 1)):=by
      have e : hexV c = some (v - 87):=by unfold hexV; rw [if_neg hdig,← hv,if_pos hlet]
      simp only [hexAcc,e]
     obtain ⟨hl0,hl1⟩:=hlet
     have HN : Hid (a * 16 + ((v : Int) - 97 + 10) = ((acc * 16 + (v - 87) : Nat) : Int) ∧ acc * 16 + (v - 87) < 16 ^ (k + 1) ∧ hexAcc 0 bs = hexAcc (acc * 16 + (v - 87)) (bs.drop (k + 1))):=Lib.hid ⟨by omega,by omega,hdec.trans hF⟩
     have iov : a * 16 + ((v : Int) - 97 + 10) ≤ 255:=by omega
     clear hacc hF hdec ha hpow hacc2 hv
     go_wp2_with (go_at_fn (ρ.f 19); refine (hlow _).mono ?_; rintro e w' ⟨rfl,rfl⟩)
     all_goals first
      | exact ⟨⟨k + 1,acc * 16 + (v - 87),a * 16 + ((v : Int) - 97 + 10),rfl,(by first | rfl | (congr 1; omega)),(by first | rfl | (congr 1; omega)),by omega,HN⟩,by simp [intOf]; omega⟩
      | skip
    ·have hF : hexAcc acc (c :: bs.drop (k + 1)) = none:=by
      have e : hexV c = none:=by unfold hexV; rw [if_neg hdig,← hv,if_neg hlet]
      simp only [hexAcc,e]
     rw [hF] at hdec
     clear hacc hF ha hpow hacc2 hv
     go_wp2_with (go_at_fn (ρ.f 19); refine (hlow _).mono ?_; rintro e w' ⟨rfl,rfl⟩)
     all_goals go_ret2
     all_goals first | exact ⟨rfl,rfl⟩ | exact ⟨by rw [hdec]; rfl,rfl⟩
  ·have hkk : k = 2:=by omega
   subst hkk
   have hF : hexAcc acc (bs.drop 2) = some acc:=by rw [List.drop_eq_nil_of_le (by omega)]; rfl
   rw [hF] at hdec
   subst ha
   clear hacc hF
   go_wp2
   go_ret2
   exact ⟨rfl,rfl⟩
theorem hexAcc_two (x y : UInt8) : hexAcc 0 [x,y] = hex2 ⟨#[x,y]⟩:=by
 simp only [hexAcc,hex2]
 cases hexV x with
 | none=>rfl
 | some p=>cases hexV y with
  | none=>rfl
  | some q=>simp only [Nat.zero_mul,Nat.zero_add,Nat.mul_comm p 16]
set_option maxHeartbeats 4000000 in
set_option maxRecDepth 100000 in
theorem puP (L : LaysPu.n14 P ρ) (t : ByteArray) (h2 : t.size = 2) (ev : Value) (w : World) (hv : w.cell? ⟨(ρ.g 0),0,none⟩ = some ev) (hev : ev = .nilIface ∨ ∃ te pe,ev = .iface te pe) :
  Calls P (ρ.f 14) #[.string t,.int .i64 16,.int .i64 8] w fun e w' =>
   (match hexAcc 0 t.data.toList with
    | some n=>e = .returned (.tuple #[.int .u64 n,.nilIface])
    | none=>∃ N,e = .returned (.tuple #[.int .u64 0,.iface (ρ.t 39) (.pointer (some ⟨N,0,none⟩))])) ∧ Below w.heap.size w w':=by
 have mixed:=L.mixed
 have t9:=L.t9; have a9:=L.a9; have z9:=L.z9; have v9:=L.v9
 have t3:=L.t3; have a3:=L.a3; have z3:=L.z3; have v3:=L.v3
 have t22:=L.t22; have a22:=L.a22; have z22:=L.z22; have v22:=L.v22
 have t24:=L.t24; have a24:=L.a24; have z24:=L.z24; have v24:=L.v24
 have t25:=L.t25; have a25:=L.a25; have z25:=L.z25; have v25:=L.v25
 have t4:=L.t4; have a4:=L.a4; have z4:=L.z4; have v4:=L.v4
 have e16 : ∀ args w,(callFunc (ρ.f 16) args).run P w = .ok (.enter (ρ.f 16) args) w:=enters_of L.f16 (by kernel_rfl) rfl
 have e17 : ∀ args w,(callFunc (ρ.f 17) args).run P w = .ok (.enter (ρ.f 17) args) w:=enters_of L.f17 (by kernel_rfl) rfl
 have hG : (ρ.g 0) < w.heap.size:=Lib.lt_of_cell hv
 have hI:=pu16 { L with } t h2 w
 cases h : hexAcc 0 t.data.toList with
 | some n =>
  rw [h] at hI
  have hI : Calls P (ρ.f 16) #[.string t,.int .i64 16,.int .i64 8] w fun e w'=>e = .returned (.tuple #[.int .u64 n,.nilIface]) ∧ w' = Lib.bytesWorld w (ρ.t 5) t:=hI
  clear h
  go_enter L.f14,BodyPu.n14_ntmps ρ
  go_wp2_with (go_at_fn (ρ.f 16); refine hI.mono ?_; rintro e W1 ⟨rfl,rfl⟩)
  go_wp2
  go_ret2
  exact ⟨rfl,Lib.bytesWorld_below _ _ _⟩
 | none =>
  rw [h] at hI
  have hI : Calls P (ρ.f 16) #[.string t,.int .i64 16,.int .i64 8] w fun e w'=>e = .returned (.tuple #[.int .u64 0,.iface (ρ.t 34) (.int .i64 2)]) ∧ w' = Lib.bytesWorld w (ρ.t 5) t:=hI
  clear h
  go_enter L.f14,BodyPu.n14_ntmps ρ
  go_wp2_with (go_at_fn (ρ.f 16); refine hI.mono ?_)
  rintro e W1 ⟨rfl,hW⟩
  have hb1 : Below w.heap.size w W1:=by rw [hW]; exact Lib.bytesWorld_below _ _ _
  have hv1 : W1.cell? ⟨(ρ.g 0),0,none⟩ = some ev:=(hb1.cell (show (⟨(ρ.g 0),0,none⟩ : Addr).block < w.heap.size from hG)).trans hv
  clear hW
  go_wp2_with (go_at_fn (ρ.f 17); refine (AnyPu.strconv_toError_syntax { L with } ⟨#[80,97,114,115,101,85,105,110,116]⟩ t 16 8 ev _ (by omega) ?_ hev).mono ?_)
  ·exact hv1
  rintro e W2 ⟨N,rfl,h1,h2,h3⟩
  go_wp2
  go_ret2
  exact ⟨⟨N,rfl⟩,hb1.trans (h3.mono hb1.size)⟩
open Go.Proofs Go.Shelf Go.RowKit
variable {P : Program} {ρ : Ren}
set_option maxHeartbeats 1000000 in
set_option maxRecDepth 100000 in
theorem copyCheck_T (L : Lays.n240 P ρ) (X : Builder.X72 P ρ) {T : TypeId} (hT : liesAt P P.depth T (2 / P.cellsOf T) 0 (ρ.t 72) 1 = true) (B b : Nat) (bs : List Value) (w : World) (h : Lib.IsBuilder T (ρ.t 5) B b bs w) :
  Calls P (ρ.f 240) #[.pointer (some ⟨b,0,none⟩)] w fun e w'=>e = .returned (.tuple #[]) ∧ (Lib.BuilderAt T (ρ.t 5) B b (.pointer (some ⟨b,0,none⟩)) bs w' ∧ Below B w w' ∧ Lib.OthersKept (ρ.t 5) (some b) w w'):=by
 rcases h with h | h
 ·have hgo : Calls P (ρ.f 240) #[.pointer (some ⟨b,0,none⟩)] w fun e w'=>e = .returned (.tuple #[]) ∧ w' = w.setCell ⟨b,0,none⟩ (.pointer (some ⟨b,0,none⟩)):=by
   have h0:=h.cell0
   have hsh:=h.shape
   have hfz:=h.frozen0
   obtain ⟨j,hj,hjs⟩:=Option.map_eq_some_iff.1 X.sizeBuilder
   have mixed:=L.mixed
   have t72:=L.t72; have a72:=L.a72; have z72:=L.z72; have v72:=L.v72; have u72:=run_underlying L.t72
   have t70:=L.t70; have a70:=L.a70; have z70:=L.z70; have v70:=L.v70; have u70:=run_underlying L.t70
   have t9:=L.t9; have a9:=L.a9; have z9:=L.z9; have v9:=L.v9; have u9:=run_underlying L.t9
   have t4:=L.t4; have a4:=L.a4; have z4:=L.z4; have v4:=L.v4; have u4:=run_underlying L.t4
   have t164:=L.t164; have a164:=L.a164; have z164:=L.z164; have v164:=L.v164; have u164:=run_underlying L.t164
   go_enter L.f240,Body.n240_ntmps ρ
   go_wp2
   rw [Lib.run_to_unsafe w ⟨b,0,none⟩ L.t70 L.t164 hj (by rw [hjs]; decide) hsh (Nat.zero_lt_succ 1)]
   simp only [Result.andThen]
   rw [Oper.upon_value]
   go_wp2
   rw [run_callFunc_extern L.f276 (by kernel_rfl) (by kernel_rfl) (by kernel_rfl) (e:=Extern.AbiNoEscape.same) (by kernel_rfl)]
   rw [Lib.run_noEscape]
   simp only [Result.andThen]
   rw [Oper.upon_value]
   go_wp2
   rw [Lib.run_from_unsafe w ⟨b,0,none⟩ L.t164 L.t70 hj hsh hT]
   simp only [Result.andThen]
   rw [Oper.upon_value]
   go_wp2
   go_end0
   exact ⟨rfl,rfl⟩
  refine hgo.mono ?_
  rintro e w' ⟨rfl,rfl⟩
  exact ⟨rfl,h.used _,(Below.refl B w).setCell (p:=⟨b,0,none⟩) h.1 _,(Lib.OthersKept.refl _ _ w).setCell ⟨b,0,none⟩ rfl _⟩
 ·refine (Any.Builder_copyCheck_used L X b w h.cell0).mono ?_
  rintro e w' ⟨rfl,rfl⟩
  exact ⟨rfl,h,Below.refl B _,Lib.OthersKept.refl _ _ _⟩
set_option maxHeartbeats 2000000 in
set_option maxRecDepth 100000 in
theorem writeString_T (L : Lays.n166 P ρ) (X : Builder.Extra P ρ) {T : TypeId} (hT : liesAt P P.depth T (2 / P.cellsOf T) 0 (ρ.t 72) 1 = true) (hT5 : T ≠ ρ.t 5) (B b : Nat) (bs : List Value) (s : ByteArray) (w : World) (h : Lib.IsBuilder T (ρ.t 5) B b bs w) (hlen : bs.length + s.size ≤ 140737488355328) (hBw : B ≤ w.heap.size) :
  Calls P (ρ.f 166) #[.pointer (some ⟨b,0,none⟩),.string s] w fun e w'=>e = .returned (.tuple #[.int .i64 s.size,.nilIface]) ∧ (Lib.IsBuilder T (ρ.t 5) B b (bs ++ Lib.strCells s) w' ∧ Below B w w' ∧ Lib.OthersKept (ρ.t 5) (some b) w w'):=by
 obtain ⟨i0,hi,hz0,hz1,hz2⟩:=info_parts X.infoByte
 have mixed:=L.mixed
 have t72:=L.t72; have a72:=L.a72; have z72:=L.z72; have v72:=L.v72; have u72:=run_underlying L.t72
 have t70:=L.t70; have a70:=L.a70; have z70:=L.z70; have v70:=L.v70; have u70:=run_underlying L.t70
 have t37:=L.t37; have a37:=L.a37; have z37:=L.z37; have v37:=L.v37; have u37:=run_underlying L.t37
 have t3:=L.t3; have a3:=L.a3; have z3:=L.z3; have v3:=L.v3; have u3:=run_underlying L.t3
 have t9:=L.t9; have a9:=L.a9; have z9:=L.z9; have v9:=L.v9; have u9:=run_underlying L.t9
 have t4:=L.t4; have a4:=L.a4; have z4:=L.z4; have v4:=L.v4; have u4:=run_underlying L.t4
 have t5:=X.t5; have a5:=X.a5; have z5:=X.z5; have v5:=X.v5; have u5:=run_underlying X.t5
 have e240 : ∀ args w,(callFunc (ρ.f 240) args).run P w = .ok (.enter (ρ.f 240) args) w:=enters_of L.f240 (by kernel_rfl) rfl
 go_enter L.f166,Body.n166_ntmps ρ
 go_wp2_with (go_at_fn (ρ.f 240); refine (copyCheck_T { L with } X.toX72 hT B b bs _ h).mono ?_)
 rintro e w1 ⟨rfl,⟨hB,v,hbk,hown,hne⟩,hb1,hk1⟩
 have c0 : w1.cell? ⟨b,0,none⟩ = some (.pointer (some ⟨b,0,none⟩)):=by rw [Lib.cell_of_heap hbk]; rfl
 have c1 : w1.cell? ⟨b,1,none⟩ = some v:=by rw [Lib.cell_of_heap hbk]; rfl
 go_wp2_with (at_builtin; refine Lib.wpList_append_own_string _ rfl _ _ (ρ.t 37) (ρ.t 9) rfl B (ρ.t 5) i0 L.t37 L.t9 hi hz0 hz1 hz2 _ _ _ rfl hown s rfl ?c3 ?c4 ?c5 ?_)
 case c3=>unfold maxLen; omega
 case c4=>omega
 case c5=>have:=hb1.size; omega
 intro v' w2 hown' hgrow _
 have hlt : b < w1.heap.size:=by
  rcases Nat.lt_or_ge b w1.heap.size with h' | h'
  ·exact h'
  ·simp [Array.getElem?_eq_none h'] at hbk
 have hb2 : w2.heap[b]? = some (.cells #[.pointer (some ⟨b,0,none⟩),v] T (0,0)):=by
  rw [hgrow.block b hlt (fun e=>hne e.symm)]
  exact hbk
 have d0 : w2.cell? ⟨b,0,none⟩ = some (.pointer (some ⟨b,0,none⟩)):=by rw [Lib.cell_of_heap hb2]; rfl
 have d1 : w2.cell? ⟨b,1,none⟩ = some v:=by rw [Lib.cell_of_heap hb2]; rfl
 have f1 : w2.frozen? ⟨b,1,none⟩ = false:=Lib.frozen_of_heap hb2 1
 obtain ⟨ao,n',cap,rfl⟩ : ∃ ao n' cap,v' = .slice ao n' cap:=by
  rcases hown'.2 with ⟨hv,_⟩ | ⟨g,cap,cur,hv,_⟩
  ·exact ⟨_,_,_,hv⟩
  ·exact ⟨_,_,_,hv⟩
 go_wp2
 go_ret2
 refine ⟨rfl,.inr ?_,?_,?_⟩
 ·exact Lib.BuilderAt.put (T:=T) (e:=(ρ.t 5)) hB hb2 (bs':=bs ++ Lib.strCells s) (by simpa [Lib.strCells_length] using hown') hT5
 ·exact (hb1.grown hgrow (by have:=hb1.size; omega) (fun k hk=>(hown.lt k hk).1)).setCell (p:=⟨b,1,none⟩) hB _
 ·refine (hk1.grown hgrow fun g hg=>?_).setCell ⟨b,1,none⟩ rfl _
  rcases hown.2 with ⟨rfl,_⟩ | ⟨g',cap,cur,rfl,_,hgg,_⟩
  ·simp [Value.ownBlock] at hg
  ·simp only [Value.ownBlock,Option.some.injEq] at hg
   exact ⟨cur,_,by rw [← hg]; exact hgg⟩
set_option maxHeartbeats 2000000 in
set_option maxRecDepth 100000 in
theorem string_core (L : Lays.n169 P ρ) (X : Builder.Extra P ρ) (b n c : Nat) (ao : Option Addr) (q : Value) (s : ByteArray) (w w1 w2 : World)
  (c1 : w.drew.cell? ⟨b,1,none⟩ = some (.slice ao n c)) (c2 : w1.cell? ⟨b,1,none⟩ = some (.slice ao n c)) (c0 : w.cell? ⟨b,1,none⟩ = some (.slice ao n c))
  (hSD : (Builtin.unsafeSliceData_ #[(ρ.t 37)] (ρ.t 127) #[.slice ao n c]).run P w.drew = .ok q w1)
  (hUS : (Builtin.unsafeString_ #[(ρ.t 127),(ρ.t 3)] (ρ.t 9) #[q,.int .i64 n]).run P w1 = .ok (.string s) w2) :
  Calls P (ρ.f 169) #[.pointer (some ⟨b,0,none⟩)] w fun e w'=>e = .returned (.string s) ∧ w' = w2:=by
 have mixed:=L.mixed
 have t72:=L.t72; have a72:=L.a72; have z72:=L.z72; have v72:=L.v72; have u72:=run_underlying L.t72
 have t70:=L.t70; have a70:=L.a70; have z70:=L.z70; have v70:=L.v70; have u70:=run_underlying L.t70
 have t37:=L.t37; have a37:=L.a37; have z37:=L.z37; have v37:=L.v37; have u37:=run_underlying L.t37
 have t127:=L.t127; have a127:=L.a127; have z127:=L.z127; have v127:=L.v127; have u127:=run_underlying L.t127
 have t3:=L.t3; have a3:=L.a3; have z3:=L.z3; have v3:=L.v3; have u3:=run_underlying L.t3
 have t9:=L.t9; have a9:=L.a9; have z9:=L.z9; have v9:=L.v9; have u9:=run_underlying L.t9
 have t5:=X.t5; have a5:=X.a5; have z5:=X.z5; have v5:=X.v5; have u5:=run_underlying X.t5
 go_enter L.f169,Body.n169_ntmps ρ
 go_wp2
 go_region_o
 all_goals (go_wp2; go_ret; exact ⟨rfl,rfl⟩)
theorem string_T (L : Lays.n169 P ρ) (X : Builder.Extra P ρ) {T : TypeId} (B b : Nat) (l : List UInt8) (w : World) (h : Lib.IsBuilder T (ρ.t 5) B b (Lib.byteCells l) w) (hBw : B ≤ w.heap.size) :
  Calls P (ρ.f 169) #[.pointer (some ⟨b,0,none⟩)] w fun e w'=>e = .returned (.string ⟨l.toArray⟩) ∧ Below B w w':=by
 obtain ⟨p,hB,v,hbk,hown,hne⟩ : ∃ p,Lib.BuilderAt T (ρ.t 5) B b p (Lib.byteCells l) w:=by
  rcases h with h | h
  ·exact ⟨_,h⟩
  ·exact ⟨_,h⟩
 have hlt : b < w.heap.size:=by
  rcases Nat.lt_or_ge b w.heap.size with h' | h'
  ·exact h'
  ·simp [Array.getElem?_eq_none h'] at hbk
 have hcell : ∀ {u : World},u.heap[b]? = some (.cells #[p,v] T (0,0)) → u.cell? ⟨b,1,none⟩ = some v:=fun hu=>by rw [Lib.cell_of_heap hu]; rfl
 have c1 : w.drew.cell? ⟨b,1,none⟩ = some v:=hcell hbk
 have c0 : w.cell? ⟨b,1,none⟩ = some v:=hcell hbk
 rw [Lib.byteCells_length] at hown
 have hnone : ∀ (W : World) (q : Option Addr),(Builtin.unsafeString_ #[(ρ.t 127),(ρ.t 3)] (ρ.t 9) #[.pointer q,.int .i64 0]).run P W = .ok (.string .empty) W:=Any.unsafeString_none L X
 rcases hown.2 with ⟨rfl,h0⟩ | ⟨g,cap,cur,rfl,hbg,hg,hnc,hcm,hcs,htake⟩
 ·have hl : l = []:=by simpa using h0
  subst hl
  refine (string_core L X b 0 0 none (.pointer none) _ w w.drew w.drew c1 c1 c0 rfl (hnone _ _)).mono ?_
  rintro e w' ⟨rfl,rfl⟩
  exact ⟨rfl,Below.drew (Below.refl B w)⟩
 ·have hgd : w.drew.heap[g]? = some (.cells cur (ρ.t 5) (0,0)):=hg
  by_cases hl : l = []
  ·subst hl
   by_cases hc0 : cap = 0
   ·subst hc0
    have hSD : (Builtin.unsafeSliceData_ #[(ρ.t 37)] (ρ.t 127) #[.slice (some ⟨g,0,none⟩) 0 0]).run P w.drew = .ok (.pointer (some ⟨w.drew.heap.size,0,none⟩)) (w.drew.alloc (.view ⟨g,0,none⟩ (ρ.t 5))) :=
     Lib.run_unsafeSliceData_zero w.drew _ _ (ρ.t 5) L.t127 ⟨g,0,none⟩ 0 ((ρ.t 5),cur.size) (by simp [World.shape?,hgd])
    refine (string_core L X b 0 0 _ _ _ w _ _ c1 (hcell ((Lib.alloc_old w.drew _ b hlt).trans hbk)) c0 hSD (hnone _ _)).mono ?_
    rintro e w' ⟨rfl,rfl⟩
    exact ⟨rfl,(Below.drew (Below.refl B w)).alloc hBw _⟩
   ·refine (string_core L X b 0 cap _ _ _ w _ _ c1 c1 c0 (Lib.run_unsafeSliceData_row _ _ _ _ _ _ hc0) (hnone _ _)).mono ?_
    rintro e w' ⟨rfl,rfl⟩
    exact ⟨rfl,Below.drew (Below.refl B w)⟩
  ·have hl0 : l.length ≠ 0:=by simpa using hl
   have hUS : (Builtin.unsafeString_ #[(ρ.t 127),(ρ.t 3)] (ρ.t 9) #[.pointer (some ⟨g,0,none⟩),.int .i64 l.length]).run P w.drew = .ok (.string ⟨l.toArray⟩) (w.drew.freeze ⟨g,0,none⟩ l.length):=by
    refine Lib.run_unsafeString_row w.drew (ρ.t 127) (ρ.t 3) (ρ.t 9) (ρ.t 5) L.t127 X.cellsByte g cur.size (by simp [World.shape?,hgd]) l hl (by omega) (by unfold maxLen at hcm; omega) ?_
    intro j x hx
    have:=hown.cells (g:=g) rfl j (.int .u8 x.toNat) (by simp [Lib.byteCells,hx])
    exact this
   refine (string_core L X b l.length cap _ _ _ w _ _ c1 c1 c0 (Lib.run_unsafeSliceData_row _ _ _ _ _ _ (by omega)) hUS).mono ?_
   rintro e w' ⟨rfl,rfl⟩
   exact ⟨rfl,Lib.below_freeze (Below.drew (Below.refl B w)) (p:=⟨g,0,none⟩) hbg _⟩
open Go.Proofs Go.Shelf Go.RowKit
section
variable {P : Program} (w : World)
theorem run_loadBytesI : ∀ (l : List Int) (a : Addr) (acc : ByteArray),(∀ j x,l[j]? = some x → w.cell? (a.add j) = some (.int .u8 x)) →
  (loadBytes a acc l.length).run P w = .ok ⟨acc.data ++ (l.map fun n=>UInt8.ofNat n.toNat).toArray⟩ w
 | [],a,acc,_=>by simp [loadBytes]
 | x :: l,a,acc,h=>by
  have h0 : w.cell? a = some (.int .u8 x):=by
   have:=h 0 x rfl
   simpa [Addr.add] using this
  have ih:=run_loadBytesI l (a.add 1) (acc.push (x.toNat.toUInt8)) (fun j y hy=>by
   have:=h (j + 1) y (by simpa using hy)
   have e : (a.add 1).add j = a.add (j + 1):=by
    unfold Addr.add
    by_cases hj : j = 0
    ·subst hj; simp
    ·simp [hj]; omega
   rw [e]; exact this)
  simp only [List.length_cons,loadBytes,Sem.run_bind,Go.run_load,h0,Result.andThen]
  rw [ih]
  congr 1
  apply ByteArray.ext
  simp [ByteArray.push]
theorem usStr (pt it ty e T : TypeId) (hp : P.underlying pt = some (.pointer e)) (g o cells : Nat) (hsh : w.shape? g = some (T,cells)) (l : List Int) (h0 : l ≠ [])
  (hlies : liesAt P P.depth T (cells / P.cellsOf T) o e l.length = true) (h63 : l.length ≤ 9223372036854775807)
  (hcell : ∀ j x,l[j]? = some x → w.cell? ((⟨g,o,none⟩ : Addr).add j) = some (.int .u8 x)) :
  (Builtin.unsafeString_ #[pt,it] ty #[.pointer (some ⟨g,o,none⟩),.int .i64 l.length]).run P w = .ok (.string ⟨(l.map fun n=>UInt8.ofNat n.toNat).toArray⟩) (w.freeze ⟨g,o,none⟩ l.length):=by
 have hl : l.length ≠ 0:=by simpa using h0
 have hlb:=run_loadBytesI (P:=P) w l ⟨g,o,none⟩ .empty hcell
 have h63' : ¬ (9223372036854775807 : Int) < (l.length : Int):=by omega
 obtain ⟨x1,x2,x3,hdef⟩ : ∃ x1 x2 x3,Builtin.unsafeString_ #[pt,it] ty #[.pointer (some ⟨g,o,none⟩),.int .i64 l.length] =
   (do
    let n ← asInt (.int .i64 l.length)
    if n < 0 then runtimePanic x1
    if n > IntKind.i64.max then unsupported x2
    if n = 0 then pure (.string .empty)
    else if ← variablesAt ⟨g,o,none⟩ (← elemOf pt) n.toNat then do
     let s ← loadBytes ⟨g,o,none⟩ .empty n.toNat
     freeze ⟨g,o,none⟩ n.toNat
     pure (.string s)
    else unsupported x3):=⟨_,_,_,rfl⟩
 rw [hdef]
 have hmax : IntKind.i64.max = 9223372036854775807:=rfl
 have hneg : ¬ (l.length : Int) < 0:=by omega
 simp [asInt,asIntOf,hmax,h63',hneg,hl,variablesAt,hsh,elemOf,run_underlying hp,hlies,hlb]
theorem lay_u8 {u e : TypeId} (hu : P.underlying u = some (.int .u8)) (he : P.underlying e = some (.int .u8)) : sameLayout P P.depth u e = true:=by
 have hd : P.depth = (2 * (P.types.size + Made.depth) + 1) + 1:=rfl
 rw [hd]
 simp [sameLayout,hu,he]
theorem lies_row {T e : TypeId} {cells o n : Nat} (hT : P.underlying T = some (.int .u8)) (hc : P.cellsOf T = 1) (he : P.underlying e = some (.int .u8)) (hn : o + n ≤ cells) : liesAt P P.depth T (cells / P.cellsOf T) o e n = true:=by
 have h:=lay_u8 (P:=P) hT he
 have hd : P.depth = (2 * (P.types.size + Made.depth) + 1) + 1:=rfl
 have hr : rowAt P (sameLayout P P.depth · e) P.depth T (cells / P.cellsOf T) o n = true:=by
  conv=>lhs; arg 3; rw [hd]
  simp [rowAt,hc,h,hn,Nat.mod_one]
 conv=>lhs; arg 2; rw [hd]
 simp only [liesAt,hr,Bool.true_or]
theorem lies_arr {T u e : TypeId} {m n : Nat} (hT : P.underlying T = some (.array m u)) (hcT : P.cellsOf T = m) (hu : P.underlying u = some (.int .u8)) (hc : P.cellsOf u = 1) (he : P.underlying e = some (.int .u8)) (hn : n ≤ m) (h0 : 0 < n) : liesAt P P.depth T (m / P.cellsOf T) 0 e n = true:=by
 have h:=lay_u8 (P:=P) hu he
 have hd : P.depth = ((2 * (P.types.size + Made.depth)) + 1) + 1:=rfl
 have hm : m ≠ 0:=by omega
 have hr1 : rowAt P (sameLayout P P.depth · e) (2 * (P.types.size + Made.depth) + 1) u m 0 n = true:=by
  simp [rowAt,hc,h,hn]
 have hr : rowAt P (sameLayout P P.depth · e) P.depth T (m / P.cellsOf T) 0 n = true:=by
  conv=>lhs; arg 3; rw [hd]
  rw [rowAt]
  simp [hcT,hm,hT,hr1,Nat.div_self (Nat.pos_of_ne_zero hm)]
 conv=>lhs; arg 2; rw [hd]
 simp only [liesAt,hr,Bool.true_or]
end
section
variable {P : Program} {ρ : Ren}
theorem SameBut.freeze' {w : World} {a : Addr} {n : Nat} : ((w.freeze a n).os = w.os ∧ (w.freeze a n).tape = w.tape ∧ (w.freeze a n).output = w.output ∧ w.heap.size ≤ (w.freeze a n).heap.size ∧ ∀ r,r < w.heap.size → ¬ r = a.block → (w.freeze a n).heap[r]? = w.heap[r]?):=by
 unfold World.freeze
 split
 ·exact ⟨rfl,rfl,rfl,Nat.le_refl _,fun _ _ _=>rfl⟩
 ·exact ⟨rfl,rfl,rfl,by simp,fun r _ hr=>by
   simp only [Array.getElem?_modify]
   rw [if_neg (fun e=>hr e.symm)]⟩
set_option maxHeartbeats 1000000 in
set_option maxRecDepth 100000 in
theorem copyCheck_N (L : Lays.n240 P ρ) (X : Builder.X72 P ρ) {T : TypeId} {n : Nat} (hn : 0 < n) (hT : liesAt P P.depth T (n / P.cellsOf T) 0 (ρ.t 72) 1 = true) (b : Nat) (w : World) (hsh : w.shape? b = some (T,n)) (h0 : w.cell? ⟨b,0,none⟩ = some (.pointer none)) (hfz : w.frozen? ⟨b,0,none⟩ = false) :
  Calls P (ρ.f 240) #[.pointer (some ⟨b,0,none⟩)] w fun e w'=>e = .returned (.tuple #[]) ∧ w' = w.setCell ⟨b,0,none⟩ (.pointer (some ⟨b,0,none⟩)):=by
 obtain ⟨j,hj,hjs⟩:=Option.map_eq_some_iff.1 X.sizeBuilder
 have mixed:=L.mixed
 have t72:=L.t72; have a72:=L.a72; have z72:=L.z72; have v72:=L.v72; have u72:=run_underlying L.t72
 have t70:=L.t70; have a70:=L.a70; have z70:=L.z70; have v70:=L.v70; have u70:=run_underlying L.t70
 have t9:=L.t9; have a9:=L.a9; have z9:=L.z9; have v9:=L.v9; have u9:=run_underlying L.t9
 have t4:=L.t4; have a4:=L.a4; have z4:=L.z4; have v4:=L.v4; have u4:=run_underlying L.t4
 have t164:=L.t164; have a164:=L.a164; have z164:=L.z164; have v164:=L.v164; have u164:=run_underlying L.t164
 go_enter L.f240,Body.n240_ntmps ρ
 go_wp2
 rw [Lib.run_to_unsafe w ⟨b,0,none⟩ L.t70 L.t164 hj (by rw [hjs]; decide) hsh hn]
 simp only [Result.andThen]
 rw [Oper.upon_value]
 go_wp2
 rw [run_callFunc_extern L.f276 (by kernel_rfl) (by kernel_rfl) (by kernel_rfl) (e:=Extern.AbiNoEscape.same) (by kernel_rfl)]
 rw [Lib.run_noEscape]
 simp only [Result.andThen]
 rw [Oper.upon_value]
 go_wp2
 rw [Lib.run_from_unsafe w ⟨b,0,none⟩ L.t164 L.t70 hj hsh hT]
 simp only [Result.andThen]
 rw [Oper.upon_value]
 go_wp2
 go_end0
 exact ⟨rfl,rfl⟩
theorem copyCheck_C (L : Lays.n240 P ρ) (X : Builder.X72 P ρ) {T : TypeId} {cs : Array Value} (hn : 0 < cs.size) (hT : liesAt P P.depth T (cs.size / P.cellsOf T) 0 (ρ.t 72) 1 = true) (r : Nat) (w : World) (hw : w.heap[r]? = some (.cells cs T (0,0)))
  (h0 : cs[0]? = some (.pointer none) ∨ cs[0]? = some (.pointer (some ⟨r,0,none⟩))) :
  Calls P (ρ.f 240) #[.pointer (some ⟨r,0,none⟩)] w fun e w'=>e = .returned (.tuple #[]) ∧ (∃ cs',w'.heap[r]? = some (.cells cs' T (0,0)) ∧ cs'.size = cs.size ∧ cs'[0]? = some (.pointer (some ⟨r,0,none⟩)) ∧ ∀ k,0 < k → cs'[k]? = cs[k]?) ∧
   (w'.os = w.os ∧ w'.tape = w.tape ∧ w'.output = w.output ∧ w.heap.size ≤ w'.heap.size ∧ ∀ k,k < w.heap.size → ¬ k = r → w'.heap[k]? = w.heap[k]?):=by
 have hc : w.cell? ⟨r,0,none⟩ = cs[0]?:=by simp [World.cell?,hw]
 rcases h0 with h0 | h0
 ·refine (copyCheck_N L X hn hT r w (by simp [World.shape?,hw]) (hc.trans h0) (by simp [World.frozen?,hw])).mono ?_
  rintro e w' ⟨rfl,rfl⟩
  refine ⟨rfl,⟨cs.setIfInBounds 0 (.pointer (some ⟨r,0,none⟩)),?_,by simp,by simp [hn],fun k hk=>?_⟩,rfl,rfl,rfl,by simp [World.setCell],fun k _ hk=>?_⟩
  ·simp [World.setCell,Array.getElem?_modify,hw]
  ·rw [Array.getElem?_setIfInBounds,if_neg (by omega)]
  ·simp only [World.setCell,Array.getElem?_modify]
   rw [if_neg (fun e=>hk e.symm)]
 ·refine (Any.Builder_copyCheck_used L X r w (hc.trans h0)).mono ?_
  rintro e w' ⟨rfl,rfl⟩
  exact ⟨rfl,⟨cs,hw,rfl,h0,fun _ _=>rfl⟩,rfl,rfl,rfl,Nat.le_refl _,fun _ _ _=>rfl⟩
theorem string_nil (L : Lays.n169 P ρ) (X : Builder.Extra P ρ) {T : TypeId} {cs : Array Value} {r : Nat} {w : World} (hw : w.heap[r]? = some (.cells cs T (0,0))) (h1 : cs[1]? = some (.slice none 0 0)) :
  Calls P (ρ.f 169) #[.pointer (some ⟨r,0,none⟩)] w fun e w'=>e = .returned (.string ⟨#[]⟩) ∧ w' = w.drew:=by
 have c0 : w.cell? ⟨r,1,none⟩ = some (.slice none 0 0):=by simp [World.cell?,hw,h1]
 exact (string_core L X r 0 0 none (.pointer none) _ w w.drew w.drew c0 c0 c0 rfl (Any.unsafeString_none L X _ _)).mono fun e w' ⟨h,k⟩=>⟨h,k⟩
theorem string_row (L : Lays.n169 P ρ) (X : Builder.Extra P ρ) {T G : TypeId} {cs gcs : Array Value} {r g o cap : Nat} {ns : List Int} {w : World} (hw : w.heap[r]? = some (.cells cs T (0,0))) (h1 : cs[1]? = some (.slice (some ⟨g,o,none⟩) ns.length cap)) (hcap : ns.length ≤ cap)
  (hg : w.heap[g]? = some (.cells gcs G (0,0))) (hlies : ns ≠ [] → liesAt P P.depth G (gcs.size / P.cellsOf G) o (ρ.t 5) ns.length = true) (hm : ns.length ≤ 1048576) (hc : ∀ (j : Nat) x,ns[j]? = some x → gcs[o + j]? = some (.int .u8 x)) :
  Calls P (ρ.f 169) #[.pointer (some ⟨r,0,none⟩)] w fun e w'=>e = .returned (.string ⟨(ns.map fun n=>UInt8.ofNat n.toNat).toArray⟩) ∧
   (w'.os = w.os ∧ w'.tape = w.tape ∧ w'.output = w.output ∧ w.heap.size ≤ w'.heap.size ∧ ∀ k,k < w.heap.size → ¬ k = g → w'.heap[k]? = w.heap[k]?):=by
 have c0 : w.cell? ⟨r,1,none⟩ = some (.slice (some ⟨g,o,none⟩) ns.length cap):=by simp [World.cell?,hw,h1]
 have c1 : w.drew.cell? ⟨r,1,none⟩ = some (.slice (some ⟨g,o,none⟩) ns.length cap):=c0
 have hlt : r < w.heap.size:=(Array.getElem?_eq_some_iff.1 hw).1
 by_cases hl : ns = []
 ·subst hl
  by_cases hc0 : cap = 0
  ·subst hc0
   have hSD : (Builtin.unsafeSliceData_ #[(ρ.t 37)] (ρ.t 127) #[.slice (some ⟨g,o,none⟩) 0 0]).run P w.drew = .ok (.pointer (some ⟨w.drew.heap.size,0,none⟩)) (w.drew.alloc (.view ⟨g,o,none⟩ (ρ.t 5))) :=
    Lib.run_unsafeSliceData_zero w.drew _ _ (ρ.t 5) L.t127 ⟨g,o,none⟩ 0 (G,gcs.size) (by
     have : w.drew.heap[g]? = some (.cells gcs G (0,0)):=hg
     simp [World.shape?,this])
   have c2 : (w.drew.alloc (.view ⟨g,o,none⟩ (ρ.t 5))).cell? ⟨r,1,none⟩ = some (.slice (some ⟨g,o,none⟩) 0 0):=by
    have : (w.drew.alloc (.view ⟨g,o,none⟩ (ρ.t 5))).heap[r]? = some (.cells cs T (0,0)):=(Lib.alloc_old w.drew _ r hlt).trans hw
    simp only [World.cell?,this]
    simpa using h1
   refine (string_core L X r 0 0 _ _ _ w _ _ c1 c2 c0 hSD (Any.unsafeString_none L X _ _)).mono ?_
   rintro e w' ⟨rfl,rfl⟩
   exact ⟨rfl,rfl,rfl,rfl,(by show w.heap.size ≤ (w.heap.push _).size; rw [Array.size_push]; exact Nat.le_succ _),fun k hk _=>Lib.alloc_old w.drew _ k hk⟩
  ·refine (string_core L X r 0 cap _ _ _ w w.drew w.drew c1 c1 c0 (Lib.run_unsafeSliceData_row _ _ _ _ _ _ hc0) (Any.unsafeString_none L X _ _)).mono ?_
   rintro e w' ⟨rfl,rfl⟩
   exact ⟨rfl,rfl,rfl,rfl,Nat.le_refl _,fun k _ _=>rfl⟩
 ·have hl0 : ns.length ≠ 0:=by simpa using hl
  have hgd : w.drew.heap[g]? = some (.cells gcs G (0,0)):=hg
  have hUS:=usStr (P:=P) w.drew (ρ.t 127) (ρ.t 3) (ρ.t 9) (ρ.t 5) G L.t127 g o gcs.size (by simp [World.shape?,hgd]) ns hl (hlies hl) (by omega) (fun j x hx=>by
   have ea : (⟨g,o,none⟩ : Addr).add j = ⟨g,o + j,none⟩:=by
    unfold Addr.add
    by_cases hj : j = 0
    ·subst hj; simp
    ·simp [hj]
   rw [ea]
   simp only [World.cell?,hgd]
   simpa using hc j x hx)
  refine (string_core L X r ns.length cap _ _ _ w w.drew _ c1 c1 c0 (Lib.run_unsafeSliceData_row _ _ _ _ _ _ (by omega)) hUS).mono ?_
  rintro e w' ⟨rfl,rfl⟩
  obtain ⟨f1,f2,f3,f4,f5⟩:=SameBut.freeze' (w:=w.drew) (a:=⟨g,o,none⟩) (n:=ns.length)
  exact ⟨rfl,f1,f2,f3,f4,fun k hk hne=>(f5 k hk hne)⟩
end
open Go.RowKit Go.Proofs Go.Shelf
section
variable {P : Program}
theorem tyOk_cells {t : Ty} {T : TypeId} (h : tyOk P t (.inl T) = true) : P.cellsOf T = t.size:=by
 obtain ⟨i,hi,hs⟩:=tyOk_size h
 simp [Program.cellsOf,hi,hs]
theorem tyOk_u8 {T : TypeId} (h : tyOk P tU8 (.inl T) = true) : P.underlying T = some (.int .u8):=by
 have h : tyOk P (.leaf (.int .u8)) (.inl T) = true:=h
 simp only [tyOk,Bool.and_eq_true] at h
 have h4:=h.1
 cases hq : P.underlying T with
 | none=>simp [hq] at h4
 | some q=>cases q <;> simp [hq,LK.desc] at h4 <;> simp [h4]
theorem tyOk_arr {t : Ty} {n : Nat} {T : TypeId} (h : tyOk P (.arr n t) (.inl T) = true) : ∃ u,P.underlying T = some (.array n u) ∧ tyOk P t (.inl u) = true:=by
 simp only [tyOk,Bool.and_eq_true] at h
 have h4:=h.1
 cases hq : P.underlying T with
 | none=>simp [hq] at h4
 | some q =>
  cases q <;> simp [hq] at h4
  obtain ⟨rfl,h5⟩:=h4
  exact ⟨_,rfl,h5⟩
variable {ρ : Ren} {φ : Nat → Option FuncId} {W : World} {T : Nat → Option MFun} {F : FuncId}
theorem CopyCheckP (L : Lays.n240 P ρ) (X : Builder.X72 P ρ) (hT : ∀ U,tyOk P tDesk (.inl U) = true → liesAt P P.depth U (3 / P.cellsOf U) 0 (ρ.t 72) 1 = true) (hF : ρ.f 240 = F)
  (hf : ∃ f c, P.funcs[F]? = some f ∧ f.body = some c ∧ (f.name == "runtime.NumGoroutine") = false) : @ExtOk (fixAt P W) P T φ F Fn.strings_Builder_copyCheck := by
 letI : Fix:=fixAt P W
 subst hF
 refine CopyCheckX hf fun w r cs U hw h3 hk h0=>?_
 refine (copyCheck_C L X (by omega) (by rw [h3]; exact hT U hk) r w hw h0).mono ?_
 rintro e w' ⟨he,hc,h1,h2,h3,h4,h5⟩
 exact ⟨he,hc,h1,h2,h3,h4,h5⟩
theorem StringP (L : Lays.n169 P ρ) (X : Builder.Extra P ρ) (h5 : P.underlying (ρ.t 5) = some (.int .u8)) (hF : ρ.f 169 = F)
  (hf : ∃ f c, P.funcs[F]? = some f ∧ f.body = some c ∧ (f.name == "runtime.NumGoroutine") = false) : @ExtOk (fixAt P W) P T φ F Fn.strings_Builder_String := by
 letI : Fix:=fixAt P W
 subst hF
 refine StringX hf (fun w r cs U hw h1=>string_nil L X hw h1) fun w r cs U g o cap gcs G ns hw h1 hcap hg hle hk hm hc=>?_
 refine (string_row L X hw h1 hcap hg (fun hne=>?_) hm hc).mono ?_
 ·rcases hk with hk | ⟨m,hk,rfl,rfl,hn⟩
  ·exact lies_row (tyOk_u8 hk) (tyOk_cells hk) h5 hle
  ·obtain ⟨u,hu,hku⟩:=tyOk_arr hk
   have hs : (Ty.arr gcs.size tU8).size = gcs.size * 1:=rfl
   have hpos : 0 < ns.length:=List.length_pos_iff.2 hne
   exact lies_arr hu ((tyOk_cells hk).trans (by rw [hs,Nat.mul_one])) (tyOk_u8 hku) (tyOk_cells hku) h5 hn hpos
 ·rintro e w' ⟨he,h1,h2,h3,h4,h5⟩
  exact ⟨he,h1,h2,h3,h4,h5⟩
end
open Go.RowKit Go.ChangeShapes Go.WideShapes
theorem dec_strE {v : AV} (h : tS.fits v = true) : ∃ s : Str,v = .str s:=dec_str h
theorem weights_all {H : Type} {P : Program} {e : TypeId} : ∀ {ss : List (DataW H)} {d : DataW H},d ∈ ss → ∀ n ∈ d.weights P e,n ∈ DataW.weightsAll P e ss
 | [],_,h,_,_=>by simp at h
 | d0 :: r,d,h,n,hn=>by
  simp only [DataW.weightsAll,List.mem_append]
  rcases List.mem_cons.1 h with rfl | h
  ·exact .inl hn
  ·exact .inr (weights_all h n hn)
section
variable [Tk] {H : Type} {enc : TypeId × Value → H} {P : Program} {w : World} {φ : Nat → Option FuncId}
theorem given_strs {U e : TypeId} {r : Reach} {b : Nat} {x : Value} {d : DataW H} {ps : List MemPlace} (hu : P.underlying U = some (.slice e)) (hk : elemOk P tS.kinds e = true) (hs : P.cellsOf e = tS.size) (he : P.underlying e = some .string) (hby : 16 ≤ P.bytesOf e)
  (hok : Value.okWide P w r b U x) (h : DataW.Trod enc P w 0 (fun _=>true) true U x d ps) (hwt : ∀ n ∈ d.weights P U,n ≤ reachBytes) (n : Nat) :
  ∃ (L : List Str) (v : AV) (bf : Option Blk) (pl : Option Place),L.length ≤ 4611686018427387904 ∧ (∀ k,(txt L k).size ≤ 4611686018427387904) ∧ (∀ g : Nat → Option Place,g n = pl → VR φ (betaA g) v x) ∧
   (∀ (g : Nat → Option Place) (O : Nat → Prop) (b : Blk),g n = pl → bf = some b → ∃ pl' cs T fr,BR φ (betaA g) O (.arg n) b w pl' cs T fr) ∧ notObj v ∧ (∀ (h : HP) l,h.arg n = bf → Txs h l v L):=by
 obtain ⟨l,hl,hc⟩:=given_slice (φ:=φ) (t:=tS) hu hk hs (by decide) hok h
 obtain ⟨L,rfl⟩:=dec_list (fun _=>dec_strE) l fun v hv=>(hl v hv).1
 have h0k : ∀ k,(txt ([] : List Str) k).size ≤ 4611686018427387904:=fun k=>by
  have : txt ([] : List Str) k = ⟨#[]⟩:=by simp [txt]
  rw [this]; decide
 rcases hc with ⟨h0,hx⟩ | ⟨pl,hp⟩
 ·have hL : L = []:=by simpa using h0
  subst hL
  rcases hx with rfl | ⟨a,cap,rfl⟩
  ·exact ⟨[],.nilsl,none,none,by simp,h0k,fun g _=>by simp [VR,VR1,AV.isAgg,LR,AV.rel],fun _ _ b _ hb=>by simp at hb,fun _ _ _ h=>by simp at h,fun h l _=>.inl ⟨.inl rfl,rfl⟩⟩
  ·exact ⟨[],.slz,none,none,by simp,h0k,fun g _=>by simp [VR,VR1,AV.isAgg,LR,AV.rel],fun _ _ b _ hb=>by simp at hb,fun _ _ _ h=>by simp at h,fun h l _=>.inl ⟨.inr rfl,rfl⟩⟩
 ·have hlen : (L.map AV.str).length = L.length:=List.length_map ..
  -- the block
  let g0 : Nat → Option Place:=fun _=>some pl
  obtain ⟨cs,T,fr,hB⟩:=hp.blk g0 (fun _=>True) n rfl
  have hv:=hp.val g0 n rfl
  obtain ⟨pl',m,t',cap,hb,hty,h1,h2,h3,hxe⟩:=LR_sl hv
  have hpl : pl = pl':=Option.some.inj hb
  subst hpl
  rw [hp.ty] at hty
  simp only [Ty.arr.injEq] at hty
  obtain ⟨rfl,rfl⟩:=hty
  obtain ⟨fuel,hf⟩:=h
  have hs1 : tS.size = 1:=rfl
  have hr62 : reachBytes ≤ 4611686018427387904:=by decide
  have hfl : (AV.ofList (L.map AV.str)).flat = L.map AV.str:=by
   have hl' : (AV.ofList (L.map AV.str)).toList = some (L.map AV.str):=encS_toList L
   rw [(arr_list hB.fits hl').2.2,flat_strs]
  have hcell : ∀ (k : Nat) (y : Str),L[k]? = some y → w.cell? ⟨pl.r,pl.base + k,none⟩ = some (.string y):=fun k y hy=>by
   obtain ⟨z,hz,hr⟩:=hB.cells k (.str y) (by rw [hfl,List.getElem?_map,hy]; rfl)
   have hr' : z = .string y:=hr
   subst hr'
   simp only [World.cell?,hB.heap]
   simpa using hz
  have hone : P.cellsOf e = 1:=hs.trans hs1
  have hall : L.length ≤ 4611686018427387904 ∧ ∀ (k : Nat) (y : Str),L[k]? = some y → y.size ≤ 4611686018427387904:=by
   rcases open_strings hu he hone hf with ⟨hcs,hx⟩ | ⟨a0,len',cap',ss,hcs,_,hll,hm,hz,hx,hcell',hsz⟩
   ·rw [hxe] at hcs; simp [Value.cells] at hcs
   ·rw [hxe] at hcs
    simp only [Value.cells,List.cons.injEq,and_true,Value.slice.injEq,Option.some.injEq] at hcs
    obtain ⟨rfl,hll2,rfl⟩:=hcs
    simp only [Prod.mk.injEq] at hx
    obtain ⟨rfl,_⟩:=hx
    rw [hlen] at hll2
    subst hll2
    have hw0 : ∀ q ∈ ((strs (ss.take L.length) : List (DataW H)).length + (strs (ss.drop L.length) : List (DataW H)).length) * P.bytesOf e :: (DataW.weightsAll P e (strs (ss.take L.length) : List (DataW H)) ++ DataW.weightsAll P e (strs (ss.drop L.length) : List (DataW H))),q ≤ reachBytes:=fun q hq=>hwt q (by
     simp only [DataW.weights,hu]; exact hq)
    have hssl : L.length ≤ ss.length:=by rw [hz]; split <;> omega
    refine ⟨?_,fun k y hy=>?_⟩
    ·have:=hw0 _ List.mem_cons_self
     have e1 : (strs (ss.take L.length) : List (DataW H)).length = L.length:=by simp [strs]; omega
     rw [e1] at this
     have h16 : L.length * 16 ≤ (L.length + (strs (ss.drop L.length) : List (DataW H)).length) * P.bytesOf e:=Nat.mul_le_mul (by omega) hby
     omega
    ·have hk : k < L.length:=by
      rcases Nat.lt_or_ge k L.length with h | h
      ·exact h
      ·rw [List.getElem?_eq_none h] at hy; simp at hy
     have h4:=hcell' k (by omega)
     have h5:=hcell k y hy
     have ea : (Addr.mk pl.r (pl.base + 0 * tS.size) none).add k = ⟨pl.r,pl.base + k,none⟩:=by
      rw [add_addr]; simp
     rw [ea,h5] at h4
     simp only [Option.some.injEq,Value.string.injEq] at h4
     have hmem : (DataW.lit (.string y.data.toList) : DataW H) ∈ (strs (ss.take L.length) : List (DataW H)):=by
      rw [h4]
      refine List.mem_map.2 ⟨_,?_,rfl⟩
      have hlt : k < ss.length:=by omega
      rw [List.getD_eq_getElem?_getD,List.getElem?_eq_getElem hlt]
      simp only [Option.getD_some]
      have : (ss.take L.length)[k]'(by simp; omega) = ss[k]:=List.getElem_take ..
      rw [← this]
      exact List.getElem_mem _
     have:=hw0 y.data.toList.length (List.mem_cons_of_mem _ (List.mem_append_left _ (weights_all hmem _ (by simp [DataW.weights]))))
     have e2 : y.data.toList.length = y.size:=Array.length_toList
     omega
  refine ⟨L,.sl (.arg n) 0 L.length,some ⟨.arr L.length tS,encS L⟩,some pl,hall.1,fun k=>?_,fun g hg=>?_,fun g O b hg hb=>?_,fun _ _ _ h=>by simp at h,fun h l hh=>.inr ⟨.arg n,0,L,rfl,trivial,?_,by simp,by simp⟩⟩
  ·by_cases hk : k < L.length
   ·rw [txt_lt hk]
    exact hall.2 k _ (List.getElem?_eq_getElem hk)
   ·have : txt L k = ⟨#[]⟩:=by simp only [txt]; rw [List.getD_eq_getElem?_getD,List.getElem?_eq_none (by omega)]; rfl
    rw [this]; decide
  ·have:=hp.val g n hg
   rwa [hlen] at this
  ·simp only [Option.some.injEq] at hb
   subst hb
   obtain ⟨cs,T,fr,hB⟩:=hp.blk g O n hg
   rw [hlen] at hB
   exact ⟨pl,cs,T,fr,hB⟩
  ·simp only [HP.look]; exact hh
end
section
variable {H : Type} {enc : TypeId × Value → H}
theorem lift_shaped {C : Checked} {os : Os} {f : FuncId} {fn : Func} {s : ChangeSpec} {laid : List (String × DataW Unit)} (hX : ∀ w w' : World,w.heap = w'.heap → laidMetH C.prog laid w → laidMetH C.prog laid w') (own : ownKnob C.prog.godebug = none) (started : os.Started) (noInit : C.prog.inits.idxOf? f = none) (hfn : C.prog.funcs[f]? = some fn)
  (witness : ∃ (w : World) (tape : Tape) (i : Input),w.os = os ∧ (w.forCall tape i).Shaped C.prog ∧ i.vars = [] ∧ Input.okWide C.prog (w.forCall tape i) .any w.heap.size f i ∧
   ((s.pre enc C.prog fn [] false (w.forCall tape i).memory i.args ∧ laidMetH C.prog laid (w.forCall tape i).memory) ∧ sizedMet enc C.prog fn (OpenSpec.ofChange s) false (w.forCall tape i).memory i.args) ∧ Assume.holds {} C.prog (lone (Frame.enter C.prog f i.args .normal) [] (w.forCall tape i)))
  (contract : ∀ (W : World) (base : Nat) (args : Array Value) (ds gs : List (DataW H)) (before : List MemPlace),
   (∀ (j : Nat) t v,fn.params[j]? = some t → args[j]? = some v → Value.okWide C.prog W .any base t v) → DataW.Whole enc C.prog fn.params.toList s.vars false W args.toList ds gs before →
   (DataW.weightsEach C.prog (fn.params.toList ++ s.plain.varTypes C.prog) (ds ++ gs)).all (· ≤ reachBytes) = true → laidMetH C.prog laid W → W.ShapedOpen C.prog →
   Calls C.prog f args W fun e W'=>∃ v,e = .returned v ∧ s.post enc C.prog fn false true false false W args v W') :
  ReturnsInHanded {} C os f .any (fun w args=>(s.pre enc C.prog fn [] false w args ∧ laidMetH C.prog laid w) ∧ sizedMet enc C.prog fn (OpenSpec.ofChange s) false w args) (s.post enc C.prog fn false true false false):=by
 refine returnsInHanded_of_calls own started noInit witness ?_
 intro w tape i _ hsh _ hok hpre _
 obtain ⟨_,_,_,fn',hfn',_,_,_,_,hval⟩:=hok
 obtain rfl : fn' = fn:=Option.some.inj (hfn'.symm.trans hfn)
 obtain ⟨⟨⟨ds,gs,before,hw,_⟩,hx⟩,hz⟩:=hpre
 have hw':=DataW.Whole.of_heap (w':=w.forCall tape i) (by rfl) hw
 refine (contract (w.forCall tape i) w.heap.size i.args ds gs before hval hw' (hz.weights hw) (hX _ _ (by rfl) hx) hsh).mono fun e W' h=>?_
 obtain ⟨v,rfl,hp⟩:=h
 exact ChangeSpec.post_blind hp
end
open Go.Proofs Go.Shelf Go.RowKit
variable {P : Program}
theorem grown_of_below {w w' : World} (h : Below w.heap.size w w') : w.grownBy w' none:=⟨h.os,h.tape,h.output,h.size,fun k hk _=>h.block k hk⟩
theorem isBuilder_below {T e : TypeId} {B b : Nat} {bs : List Value} {w w' : World} (h : Lib.IsBuilder T e B b bs w) (hb : Below w.heap.size w w') : Lib.IsBuilder T e B b bs w':=by
 have key : ∀ p,Lib.BuilderAt T e B b p bs w → Lib.BuilderAt T e B b p bs w':=fun p h=>by
  have hlt:=h.lt
  obtain ⟨hB,v,hh,hown,hne⟩:=h
  exact ⟨hB,v,(hb.block b hlt).trans hh,hown.kept (grown_of_below hb) (by cases hv : v.ownBlock <;> simp),hne⟩
 exact h.imp (key _) (key _)
theorem tab_below {w w' : World} {name : String} {k : IntKind} {zs : List Int} (h : Lib.TabIs P w name k zs) (hb : Below w.heap.size w w') : Lib.TabIs P w' name k zs:=by
 unfold Lib.TabIs World.var? at *
 cases hg : P.globalNamed name with
 | none=>simp [hg] at h
 | some g =>
  simp only [hg,Option.bind_some] at h ⊢
  have hlt : g < w.heap.size:=by
   rcases Nat.lt_or_ge g w.heap.size with h' | h'
   ·exact h'
   ·rw [Array.getElem?_eq_none h'] at h; simp at h
  rw [hb.block g hlt]
  exact h
theorem isBuilder_lt {T e : TypeId} {B b : Nat} {bs : List Value} {w : World} (h : Lib.IsBuilder T e B b bs w) : b < w.heap.size:=h.elim (fun h=>h.lt) (fun h=>h.lt)
end Go.Mini
