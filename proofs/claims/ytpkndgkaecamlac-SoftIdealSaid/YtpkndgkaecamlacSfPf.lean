/- A part of the proof: what Sf computes, step by step. -/
import Derived.Test.YtpkndgkaecamlacSfPe
import Derived.ChangeSame
import Derived.Carry
import Derived.OpenShut
import Derived.ProofKit
import Derived.WalkKit
import Derived.Deep.Slices
import Derived.Deep.Fields1

set_option linter.unusedSimpArgs false
set_option linter.unusedVariables false
set_option maxHeartbeats 4000000
set_option maxRecDepth 100000
namespace Go.Mini
def freeIno (a b : Img) : Int:=findN 8 fun k=>!(a.ino k).live && decide (refs b k = 0)
def freeDat (a b : Img) : Int:=findN 9 fun x=>!held a x && !held b x
def room (a b : Img) (d : Int) (s : Str) : Int:=if 0 ≤ slotOf b d s then -1 else freeSlot a b d
def addName (a : Img) (d s : Nat) (name : Str) (n : Nat) : Img :=
 (a.setEnt d s ⟨name,n,(a.ino n).stamp⟩).setIno n { a.ino n with links:=IntKind.i64.wrap ((a.ino n).links + 1) }
def dropName (a : Img) (d s : Nat) : Img :=
 let n:=(a.ent d s).ino.toNat
 let i : Ino:={ a.ino n with links:=IntKind.i64.wrap ((a.ino n).links - 1) }
 if i.links = 0 then (a.setEnt d s .zero).setIno n .none else (a.setEnt d s .zero).setIno n i
def enterC (a b : Img) (d : Int) (name : Str) : Int:=if 0 ≤ slotOf a d name then 4 else if room a b d name < 0 then 6 else 0
def enterA (a b : Img) (d : Int) (name : Str) (n : Nat) : Img:=if enterC a b d name = 0 then addName a d.toNat (room a b d name).toNat name n else a
def newIno (st : Int) : Ino:=⟨true,st,0,Ino.none.part⟩
structure Fl where
 now : Img
 disk : Img
 stamp : Int
def makeC (F : Fl) (d : Int) (name : Str) : Int:=if 0 ≤ slotOf F.now d name then 4 else if freeIno F.now F.disk < 0 ∨ room F.now F.disk d name < 0 then 6 else 0
def makeF (F : Fl) (d : Int) (name : Str) : Fl:=if makeC F d name = 0 then
  ⟨addName (F.now.setIno (freeIno F.now F.disk).toNat (newIno (IntKind.i64.wrap (F.stamp + 1)))) d.toNat (room F.now F.disk d name).toNat name (freeIno F.now F.disk).toNat,F.disk,IntKind.i64.wrap (F.stamp + 1)⟩ else F
def putC (a b : Img) (n p : Nat) : Int:=if (a.ino n).prt p < 0 ∧ freeDat a b < 0 then 6 else 0
def putA (a b : Img) (n p : Nat) (t : Str) : Img:=if (a.ino n).prt p < 0 then
  (if freeDat a b < 0 then a else (a.setIno n ((a.ino n).setPrt p (freeDat a b))).setDat (freeDat a b).toNat ⟨(a.ino n).stamp,t⟩)
 else a.setDat ((a.ino n).prt p).toNat ⟨(a.ino n).stamp,t⟩
def doC (F : Fl) (x : SStep) : Int :=
 if stepFault x ≠ 0 then stepFault x else
 if x.kind = 1 then makeC F x.dir x.name else
 if slotOf F.now x.dir x.name < 0 then 5 else
 if x.kind = 2 ∨ x.kind = 4 then enterC F.now F.disk x.toDir x.to else
 if x.kind = 5 then putC F.now F.disk (F.now.ent x.dir.toNat (slotOf F.now x.dir x.name).toNat).ino.toNat x.p.toNat else 0
def doF (F : Fl) (x : SStep) : Fl :=
 if doC F x ≠ 0 then F else
 if x.kind = 1 then makeF F x.dir x.name else
 let s:=(slotOf F.now x.dir x.name).toNat
 let n:=(F.now.ent x.dir.toNat s).ino.toNat
 if x.kind = 2 then { F with now:=enterA F.now F.disk x.toDir x.to n } else
 if x.kind = 4 then { F with now:=dropName (enterA F.now F.disk x.toDir x.to n) x.dir.toNat s } else
 if x.kind = 3 then { F with now:=dropName F.now x.dir.toNat s } else
 if x.kind = 5 then { F with now:=putA F.now F.disk n x.p.toNat x.text } else
 { F with now:=F.now.setIno n ((F.now.ino n).setPrt x.p.toNat (-1)) }
def WF (a : Img) : Prop:=(∀ d s,0 ≤ (a.ent d s).ino ∧ (a.ent d s).ino < 8) ∧ ∀ n p,-1 ≤ (a.ino n).prt p ∧ (a.ino n).prt p < 9
theorem stepFault_zero {x : SStep} (h : stepFault x = 0) : (1 ≤ x.kind ∧ x.kind ≤ 6) ∧ (0 ≤ x.dir ∧ x.dir < 3) ∧ isName x.name = true ∧ (x.kind = 2 ∨ x.kind = 4 → (0 ≤ x.toDir ∧ x.toDir < 3) ∧ isName x.to = true) ∧ (x.kind = 5 ∨ x.kind = 6 → 0 ≤ x.p ∧ x.p < 2) ∧ (x.kind = 5 → x.text.size ≤ 8):=by
 unfold stepFault at h
 split at h
 ·omega
 split at h
 ·exact absurd h (by assumption)
 rename_i h1 h2
 have h2 : dirFaultN x.dir x.name = 0:=by simpa using h2
 have key : ∀ d s,dirFaultN d s = 0 → (0 ≤ d ∧ d < 3) ∧ isName s = true:=by
  intro d s hd
  unfold dirFaultN at hd
  split at hd
  ·omega
  ·split at hd
   ·rename_i h3 h4; exact ⟨by omega,h4⟩
   ·omega
 obtain ⟨k1,k2⟩:=key _ _ h2
 refine ⟨by omega,k1,k2,fun hk=>?_,fun hk=>?_,fun hk=>?_⟩
 ·rw [if_pos hk] at h; exact key _ _ h
 ·rw [if_neg (by omega)] at h
  split at h
  ·omega
  ·rename_i h3; omega
 ·rw [if_neg (by omega)] at h
  split at h
  ·omega
  ·split at h
   ·omega
   ·rename_i h3 h4; omega
theorem slotOf_cases (a : Img) (d : Int) (s : Str) : slotOf a d s = -1 ∨ ∃ k : Nat,k < 4 ∧ slotOf a d s = k ∧ 0 ≤ d ∧ d < 3 ∧ (a.ent d.toNat k).name = s ∧ ¬s = ⟨#[]⟩:=by
 unfold slotOf
 split
 ·exact .inl rfl
 ·rename_i hn
  rcases findN_lt (f:=fun k=>decide ((a.ent d.toNat k).name = s)) (n:=4) with e | ⟨j,h1,e,h2,_⟩
  ·exact .inl e
  ·exact .inr ⟨j,h1,e,by omega,by omega,by simpa using h2,fun e'=>hn (by simp [e'])⟩
theorem freeSlot_cases (a b : Img) (d : Int) : freeSlot a b d = -1 ∨ ∃ k : Nat,k < 4 ∧ freeSlot a b d = k ∧ 0 ≤ d ∧ d < 3 ∧ (a.ent d.toNat k).name = ⟨#[]⟩ ∧ (b.ent d.toNat k).name = ⟨#[]⟩:=by
 unfold freeSlot
 split
 ·exact .inl rfl
 ·rename_i hn
  rcases findN_lt (f:=fun s=>decide ((a.ent d.toNat s).name = ⟨#[]⟩) && decide ((b.ent d.toNat s).name = ⟨#[]⟩)) (n:=4) with e | ⟨j,h1,e,h2,_⟩
  ·exact .inl e
  ·simp at h2
   exact .inr ⟨j,h1,e,by omega,by omega,h2.1,h2.2⟩
theorem room_cases (a b : Img) (d : Int) (s : Str) : room a b d s = -1 ∨ ∃ k : Nat,k < 4 ∧ room a b d s = k ∧ 0 ≤ d ∧ d < 3 ∧ (a.ent d.toNat k).name = ⟨#[]⟩ ∧ (b.ent d.toNat k).name = ⟨#[]⟩ ∧ slotOf b d s < 0:=by
 unfold room
 split
 ·exact .inl rfl
 ·rename_i hn
  rcases freeSlot_cases a b d with e | ⟨k,h1,e,h2,h3,h4,h5⟩
  ·exact .inl e
  ·exact .inr ⟨k,h1,e,h2,h3,h4,h5,by omega⟩
theorem freeIno_cases (a b : Img) : freeIno a b = -1 ∨ ∃ k : Nat,k < 8 ∧ freeIno a b = k ∧ (a.ino k).live = false ∧ refs b k = 0:=by
 rcases findN_lt (f:=fun k=>!(a.ino k).live && decide (refs b k = 0)) (n:=8) with e | ⟨j,h1,e,h2,_⟩
 ·exact .inl e
 ·simp at h2; exact .inr ⟨j,h1,e,h2.1,h2.2⟩
theorem freeDat_cases (a b : Img) : freeDat a b = -1 ∨ ∃ k : Nat,k < 9 ∧ freeDat a b = k ∧ held a k = false ∧ held b k = false:=by
 rcases findN_lt (f:=fun x=>!held a x && !held b x) (n:=9) with e | ⟨j,h1,e,h2,_⟩
 ·exact .inl e
 ·simp at h2; exact .inr ⟨j,h1,e,h2.1,h2.2⟩
def encF (c : Nat) (st : Int) : AV:=.cons (.ptr (.obj c) [] tCache) (.cons (.int .i64 st) .unit)
@[go_sem] theorem at_F0 (c : Nat) (st : Int) : (encF c st).at [0] = some (.ptr (.obj c) [] tCache):=rfl
@[go_sem] theorem at_F1 (c : Nat) (st : Int) : (encF c st).at [1] = some (.int .i64 st):=rfl
@[go_sem] theorem put_F1 (c : Nat) (st n : Int) : (encF c st).put [1] (.int .i64 n) = some (encF c n):=rfl
@[go_sem] theorem field_F0 : tFiles.field 0 = some tP:=rfl
@[go_sem] theorem field_F1 : tFiles.field 1 = some tI:=rfl
@[go_sem] theorem fits_F (c : Nat) (st : Int) : (tFiles.fits (encF c st) = true) = True:=eq_true rfl
@[go_sem] theorem fitO_ptr (n : Nat) (p : List Nat) (t : Ty) : fitO tP (some (.ptr (.obj n) p t)) = some (.ptr (.obj n) p t):=rfl
@[go_sem] theorem fill_F (c : Nat) : fill tFiles tFiles.zero [(0,.ptr (.obj c) [] tCache)] = some (encF c 0):=rfl
@[go_sem] theorem fits_boxF (c : Nat) (st : Int) (i : Id) : fg (encF c st) i = encF c st:=rfl
@[go_sem] theorem fits_tP (n : Nat) (p : List Nat) (t : Ty) : (tP.fits (.ptr (.obj n) p t) = true) = True:=eq_true rfl
@[go_sem] theorem put_C0 (a b : Img) (p : List Nat) (x : AV) : (encC a b).put (0 :: p) x = (a.enc.put p x).map fun y=>.cons y (.cons b.enc .unit):=rfl
@[go_sem] theorem put_C1 (a b : Img) (p : List Nat) (x : AV) : (encC a b).put (1 :: p) x = (b.enc.put p x).map fun y=>.cons a.enc (.cons y .unit):=by
 show ((b.enc.put p x).map fun y=>AV.cons y .unit).map (fun y=>AV.cons a.enc y) = _
 cases b.enc.put p x <;> rfl
@[go_sem] theorem Cmk (a b : Img) : AV.cons a.enc (.cons b.enc .unit) = encC a b:=rfl
@[go_sem] theorem results_nil {cx : Cx} {s : St} : results cx s [] = some (.tup .unit):=rfl
theorem ob_self {h : HP} {n : Nat} {t : Ty} {v : AV} (e : h.look (.obj n) = some ⟨t,v⟩) : h.ob n t v = h:=by
 cases h
 simp only [HP.look] at e
 simp only [HP.ob,HP.set,HP.mk.injEq,and_true,true_and]
 funext k
 by_cases hk : k = n <;> simp [hk,e]
section
variable {cx : Cx} {h : HP} {c : Nat} {a b : Img}
theorem eDisk (hC : h.look (.obj c) = some ⟨tCache,encC a b⟩) : Ok tblE cx Fn.cache_Cache_Disk (St.enter [.ptr (.obj c) [] tCache] h) fun v h'=>v = b.enc ∧ h' = h:=upE (CDisk_ok (rd_of hC).1 (rd_of hC).2)
theorem eInode (hC : h.look (.obj c) = some ⟨tCache,encC a b⟩) : Ok tblE cx Fn.cache_Cache_Inode (St.enter [.ptr (.obj c) [] tCache] h) fun v h'=>v = .int .i64 (freeIno a b) ∧ h' = h:=upE (CInode_ok (rd_of hC).1 (rd_of hC).2)
theorem eData (hC : h.look (.obj c) = some ⟨tCache,encC a b⟩) : Ok tblE cx Fn.cache_Cache_Data (St.enter [.ptr (.obj c) [] tCache] h) fun v h'=>v = .int .i64 (freeDat a b) ∧ h' = h:=upE (CData_ok (rd_of hC).1 (rd_of hC).2)
theorem eSlot {d : Int} (hC : h.look (.obj c) = some ⟨tCache,encC a b⟩) : Ok tblE cx Fn.cache_Cache_Slot (St.enter [.ptr (.obj c) [] tCache,.int .i64 d] h) fun v h'=>v = .int .i64 (freeSlot a b d) ∧ h' = h:=upE (CSlot_ok (rd_of hC).1 (rd_of hC).2)
theorem eFind0 {d : Int} {s : Str} (hC : h.look (.obj c) = some ⟨tCache,encC a b⟩) : Ok tblE cx Fn.image_Find (St.enter [.ptr (.obj c) [0] tImage,.int .i64 d,.str s] h) fun v h'=>v = .int .i64 (slotOf a d s) ∧ h' = h:=upE (up (Find_ok (below_obj _ _) (rd_of hC).1))
theorem free_ok {f : Nat} {st d : Int} {s : Str} (hF : h.look (.obj f) = some ⟨tFiles,encF c st⟩) (hC : h.look (.obj c) = some ⟨tCache,encC a b⟩) :
  Ok tblE cx Fn.soft_Files_free (St.enter [.ptr (.obj f) [] tFiles,.int .i64 d,.str s] h) fun v h'=>v = .int .i64 (room a b d s) ∧ h' = h:=by
 rw [Ok_eq]
 simp (maxSteps:=999999) (disch:=omega) only [go_sem,hF,hC]
 refine W_callp rfl ⟨rfl,rfl⟩ (by simp only [go_sem]; exact eDisk (a:=a) (b:=b) (by simp only [go_sem,hC])) ?_
 simp (maxSteps:=999999) (disch:=omega) only [go_sem,hF,hC]
 refine W_callp rfl ⟨rfl,rfl⟩ (by simp only [go_sem]; exact upE (up (Find_ok (m:=b) (below_stk _ _) (by simp only [go_sem,HP.push_rd_own])))) ?_
 simp (maxSteps:=999999) (disch:=omega) only [go_sem,hF,hC]
 by_cases c1 : 0 ≤ slotOf b d s
 ·simp (maxSteps:=999999) (disch:=omega) only [go_sem,c1]; simp [room,c1]
 ·simp (maxSteps:=999999) (disch:=omega) only [go_sem,c1,hF,hC]
  refine W_callp rfl ⟨rfl,rfl⟩ (by simp only [go_sem]; exact eSlot (a:=a) (b:=b) (by simp only [go_sem,hC])) ?_
  simp (maxSteps:=999999) (disch:=omega) only [go_sem]; simp [room,c1]
theorem enter_ok {f n : Nat} {st d : Int} {s : Str} (hl : ∀ n,cx.prot.lets (.obj n) = true) (hF : h.look (.obj f) = some ⟨tFiles,encF c st⟩) (hC : h.look (.obj c) = some ⟨tCache,encC a b⟩) (hne : ¬f = c) (hn : n < 8) :
  Ok tblE cx Fn.soft_Files_enter (St.enter [.ptr (.obj f) [] tFiles,.int .i64 d,.str s,.int .i64 n] h) fun v h'=>v = .int .i64 (enterC a b d s) ∧ h' = h.ob c tCache (encC (enterA a b d s n) b):=by
 rw [Ok_eq]
 simp (maxSteps:=999999) (disch:=omega) only [go_sem,hF,hC]
 refine W_callp rfl ⟨rfl,rfl⟩ (by simp only [go_sem]; exact eFind0 (a:=a) (b:=b) (by simp only [go_sem,hC])) ?_
 simp (maxSteps:=999999) (disch:=omega) only [go_sem]
 by_cases c1 : 0 ≤ slotOf a d s
 ·simp (maxSteps:=999999) (disch:=omega) only [go_sem,c1]
  simp [enterC,enterA,c1,ob_self hC]
 simp (maxSteps:=999999) (disch:=omega) only [go_sem,c1]
 refine W_callp rfl ⟨rfl,rfl⟩ (by simp only [go_sem]; exact free_ok (a:=a) (b:=b) (c:=c) (st:=st) (by simp only [go_sem,hF]) (by simp only [go_sem,hC])) ?_
 simp (maxSteps:=999999) (disch:=omega) only [go_sem]
 rcases room_cases a b d s with e | ⟨k,hk,e,d0,d3,_⟩
 ·simp (maxSteps:=999999) (disch:=omega) only [go_sem,e]
  simp [enterC,enterA,c1,e,ob_self hC]
 ·have k0 : ¬(k : Int) < 0:=by omega
  simp (maxSteps:=999999) (disch:=omega) only [go_sem,e,k0,hF,hC,stV_ob (hl _),look_ob_ne hne]
  simp [enterC,enterA,c1,e,k0,addName]
end
theorem setIno_setIno (m : Img) (n : Nat) (x y : Ino) : (m.setIno n x).setIno n y = m.setIno n y:=by
 refine Img.ext_of (fun k hk=>?_) (fun d s _ _=>rfl) (fun x _=>rfl)
 simp only [ino_setIno]
 split <;> rfl
theorem enterC_setIno (a b : Img) (n : Nat) (y : Ino) (d : Int) (s : Str) : enterC (a.setIno n y) b d s = enterC a b d s:=rfl
theorem room_setIno (a b : Img) (n : Nat) (y : Ino) (d : Int) (s : Str) : room (a.setIno n y) b d s = room a b d s:=rfl
theorem WF_setIno {a : Img} (hw : WF a) {n : Nat} {y : Ino} (hy : ∀ p,-1 ≤ y.prt p ∧ y.prt p < 9) : WF (a.setIno n y):=by
 refine ⟨hw.1,fun k p=>?_⟩
 rw [ino_setIno]
 split
 ·exact hy p
 ·exact hw.2 k p
theorem WF_setEnt {a : Img} (hw : WF a) {d s : Nat} {y : Ent} (hy : 0 ≤ y.ino ∧ y.ino < 8) : WF (a.setEnt d s y):=by
 refine ⟨fun d' s'=>?_,fun k p=>?_⟩
 ·rw [ent_setEnt]
  split
  ·exact hy
  ·exact hw.1 d' s'
 ·rw [ino_setEnt]; exact hw.2 k p
theorem WF_setDat {a : Img} (hw : WF a) {n : Nat} {y : Dat} : WF (a.setDat n y):=hw
theorem prt_none (p : Nat) : -1 ≤ Ino.none.prt p ∧ Ino.none.prt p < 9:=by
 by_cases hp : p < 2
 ·simp [Ino.prt,Ino.none,hp]
 ·simp [Ino.prt,hp]
theorem prt_with (i : Ino) (l : Int) (p : Nat) : Ino.prt ⟨i.live,i.stamp,l,i.part⟩ p = i.prt p:=rfl
theorem prt_new (st : Int) (p : Nat) : (newIno st).prt p = Ino.none.prt p:=rfl
theorem WF_addName {a : Img} (hw : WF a) {d s n : Nat} {name : Str} (n8 : n < 8) : WF (addName a d s name n) :=
 WF_setIno (WF_setEnt hw ⟨by show 0 ≤ (n : Int); omega,by show (n : Int) < 8; omega⟩) fun p=>by rw [prt_with]; exact hw.2 n p
theorem WF_dropName {a : Img} (hw : WF a) {d s : Nat} : WF (dropName a d s):=by
 have h0 : WF (a.setEnt d s .zero):=WF_setEnt hw ⟨by decide,by decide⟩
 unfold dropName
 dsimp only
 split
 ·exact WF_setIno h0 prt_none
 ·exact WF_setIno h0 fun p=>by rw [prt_with]; exact hw.2 _ p
theorem WF_enterA {a b : Img} (hw : WF a) {d : Int} {s : Str} {n : Nat} (n8 : n < 8) : WF (enterA a b d s n):=by
 unfold enterA
 split
 ·exact WF_addName hw n8
 ·exact hw
theorem WF_makeF {F : Fl} (hw : WF F.now) {d : Int} {s : Str} : WF (makeF F d s).now:=by
 unfold makeF
 split
 ·rename_i hm
  rcases freeIno_cases F.now F.disk with e | ⟨n,n8,e,_⟩
  ·unfold makeC at hm
   split at hm
   ·omega
   ·rw [if_pos (.inl (by omega))] at hm; omega
  ·rw [e]
   exact WF_addName (WF_setIno hw fun p=>by rw [prt_new]; exact prt_none p) (by simpa using n8)
 ·exact hw
theorem WF_putA {a b : Img} (hw : WF a) {n p : Nat} {t : Str} : WF (putA a b n p t):=by
 unfold putA
 split
 ·split
  ·exact hw
  ·rcases freeDat_cases a b with e | ⟨k,k9,e,_⟩
   ·omega
   ·refine WF_setDat (WF_setIno hw fun q=>?_)
    rw [prt_setPrt,e]
    split
    ·omega
    ·exact hw.2 n q
 ·exact WF_setDat hw
theorem WF_doF {F : Fl} (hw : WF F.now) (x : SStep) : WF (doF F x).now:=by
 have n8 : ∀ d s,(F.now.ent d s).ino.toNat < 8:=fun d s=>by have:=hw.1 d s; omega
 unfold doF
 split
 ·exact hw
 split
 ·exact WF_makeF hw
 dsimp only
 split
 ·exact WF_enterA hw (n8 _ _)
 split
 ·exact WF_dropName (WF_enterA hw (n8 _ _))
 split
 ·exact WF_dropName hw
 split
 ·exact WF_putA hw
 ·refine WF_setIno hw fun q=>?_
  rw [prt_setPrt]
  split
  ·omega
  ·exact hw.2 _ q
section
variable {cx : Cx} {h : HP} {f c : Nat} {a b : Img} {st : Int}
theorem leave_ok {d s : Int} (hl : ∀ n,cx.prot.lets (.obj n) = true) (hF : h.look (.obj f) = some ⟨tFiles,encF c st⟩) (hC : h.look (.obj c) = some ⟨tCache,encC a b⟩) (hne : ¬f = c)
  (d0 : 0 ≤ d) (d3 : d < 3) (s0 : 0 ≤ s) (s4 : s < 4) (i0 : 0 ≤ (a.ent d.toNat s.toNat).ino) (i8 : (a.ent d.toNat s.toNat).ino < 8) :
  Ok tblE cx Fn.soft_Files_leave (St.enter [.ptr (.obj f) [] tFiles,.int .i64 d,.int .i64 s] h) fun v h'=>v = .tup .unit ∧ h' = h.ob c tCache (encC (dropName a d.toNat s.toNat) b):=by
 have n8 : (a.ent d.toNat s.toNat).ino.toNat < 8:=by omega
 rw [Ok_eq]
 simp (maxSteps:=999999) (disch:=omega) only [go_sem,hF,hC,stV_ob (hl _),look_ob_ne hne,n8]
 by_cases c1 : IntKind.i64.wrap ((a.ino (a.ent d.toNat s.toNat).ino.toNat).links - 1) = 0
 ·simp (maxSteps:=999999) (disch:=omega) only [go_sem,hF,hC,stV_ob (hl _),look_ob_ne hne,n8,c1]
  refine W_callp rfl ⟨rfl,rfl⟩ (by simp only [go_sem]; exact upE (up (Free_ok))) ?_
  simp (maxSteps:=999999) (disch:=omega) only [go_sem,hF,hC,stV_ob (hl _),look_ob_ne hne,n8,c1]
  simp [dropName,c1,setIno_setIno]
 ·simp (maxSteps:=999999) (disch:=omega) only [go_sem,hF,hC,stV_ob (hl _),look_ob_ne hne,n8,c1]
  simp [dropName,c1]
theorem make_ok {F : Fl} {d : Int} {s : Str} (hl : ∀ n,cx.prot.lets (.obj n) = true) (hF : h.look (.obj f) = some ⟨tFiles,encF c F.stamp⟩) (hC : h.look (.obj c) = some ⟨tCache,encC F.now F.disk⟩) (hne : ¬f = c) :
  Ok tblE cx Fn.soft_Files_make (St.enter [.ptr (.obj f) [] tFiles,.int .i64 d,.str s] h) fun v h'=>v = .int .i64 (makeC F d s) ∧ h' = (h.ob f tFiles (encF c (makeF F d s).stamp)).ob c tCache (encC (makeF F d s).now F.disk):=by
 rw [Ok_eq]
 have same : (h.ob f tFiles (encF c F.stamp)).ob c tCache (encC F.now F.disk) = h:=by rw [ob_self hF,ob_self hC]
 have hne' : ¬c = f:=fun e=>hne e.symm
 simp (maxSteps:=999999) (disch:=omega) only [go_sem,hF,hC]
 refine W_callp rfl ⟨rfl,rfl⟩ (by simp only [go_sem]; exact eFind0 (a:=F.now) (b:=F.disk) (by simp only [go_sem,hC])) ?_
 simp (maxSteps:=999999) (disch:=omega) only [go_sem]
 by_cases c1 : 0 ≤ slotOf F.now d s
 ·simp (maxSteps:=999999) (disch:=omega) only [go_sem,c1]
  simp [makeC,makeF,c1,same]
 simp (maxSteps:=999999) (disch:=omega) only [go_sem,c1,hF,hC]
 refine W_callp rfl ⟨rfl,rfl⟩ (by simp only [go_sem]; exact eInode (a:=F.now) (b:=F.disk) (by simp only [go_sem,hC])) ?_
 simp (maxSteps:=999999) (disch:=omega) only [go_sem]
 rcases freeIno_cases F.now F.disk with e | ⟨n,n8,e,_⟩
 ·simp (maxSteps:=999999) (disch:=omega) only [go_sem,e]
  simp [makeC,makeF,c1,e,same]
 have n0 : ¬(n : Int) < 0:=by omega
 simp (maxSteps:=999999) (disch:=omega) only [go_sem,e,n0]
 refine W_callp rfl ⟨rfl,rfl⟩ (by simp only [go_sem]; exact free_ok (a:=F.now) (b:=F.disk) (c:=c) (st:=F.stamp) (by simp only [go_sem,hF]) (by simp only [go_sem,hC])) ?_
 simp (maxSteps:=999999) (disch:=omega) only [go_sem]
 rcases room_cases F.now F.disk d s with e2 | ⟨k,k4,e2,d0,d3,_⟩
 ·simp (maxSteps:=999999) (disch:=omega) only [go_sem,e2]
  simp [makeC,makeF,c1,e,e2,same]
 have k0 : ¬(k : Int) < 0:=by omega
 simp (maxSteps:=999999) (disch:=omega) only [go_sem,e2,k0,hF,hC,stV_ob (hl _),look_ob_ne hne,look_ob_ne hne']
 refine W_callp rfl ⟨rfl,rfl⟩ (by simp only [go_sem]; exact upE (up (Free_ok))) ?_
 simp (maxSteps:=999999) (disch:=omega) only [go_sem,hF,hC,stV_ob (hl _),look_ob_ne hne,look_ob_ne hne',n8]
 rw [setIno_setIno,setIno_setIno]
 have eC : enterC F.now F.disk d s = 0:=by simp [enterC,c1,e2,k0]
 have mC : makeC F d s = 0:=by simp [makeC,c1,e,e2,n0,k0]
 have mF : makeF F d s = ⟨addName (F.now.setIno n (newIno (IntKind.i64.wrap (F.stamp + 1)))) d.toNat k s n,F.disk,IntKind.i64.wrap (F.stamp + 1)⟩:=by
  simp [makeF,mC,e,e2]
 have eA : enterA (F.now.setIno n (newIno (IntKind.i64.wrap (F.stamp + 1)))) F.disk d s n = (makeF F d s).now:=by
  rw [mF,enterA,if_pos (by rw [enterC_setIno]; exact eC),room_setIno,e2]; rfl
 have key:=fun (cy : Cx) (hy : ∀ n,cy.prot.lets (.obj n) = true)=>enter_ok (cx:=cy) (f:=f) (c:=c) (h:=((h.ob f tFiles (encF c (IntKind.i64.wrap (F.stamp + 1)))).ob c tCache (encC (F.now.setIno n (newIno (IntKind.i64.wrap (F.stamp + 1)))) F.disk)).push cx.lvl []) (a:=F.now.setIno n (newIno (IntKind.i64.wrap (F.stamp + 1)))) (b:=F.disk) (st:=IntKind.i64.wrap (F.stamp + 1)) (d:=d) (s:=s) (n:=n) hy (by simp only [go_sem,look_ob_ne hne]) (by simp only [go_sem,]) hne n8
 simp only [eA,enterC_setIno,eC,go_sem] at key
 have mS : (makeF F d s).stamp = IntKind.i64.wrap (F.stamp + 1):=by rw [mF]
 rw [mC,mS]
 refine W_callh (v:=.int .i64 0) ((h.ob f tFiles (encF c (IntKind.i64.wrap (F.stamp + 1)))).ob c tCache (encC (makeF F d s).now F.disk)) rfl ⟨rfl,rfl⟩ rfl (by simp only [go_sem]; exact key _ hl) ?_
 simp (maxSteps:=999999) (disch:=omega) only [go_sem]
end
section
variable {cx : Cx} {h : HP} {f c : Nat} {a b : Img} {st : Int}
theorem put_ok {n : Nat} {p : Int} {t : Str} (hl : ∀ n,cx.prot.lets (.obj n) = true) (hF : h.look (.obj f) = some ⟨tFiles,encF c st⟩) (hC : h.look (.obj c) = some ⟨tCache,encC a b⟩) (hne : ¬f = c)
  (hw : WF a) (n8 : n < 8) (p0 : 0 ≤ p) (p2 : p < 2) :
  Ok tblE cx Fn.soft_Files_put (St.enter [.ptr (.obj f) [] tFiles,.int .i64 n,.int .i64 p,.str t] h) fun v h'=>v = .int .i64 (putC a b n p.toNat) ∧ h' = h.ob c tCache (encC (putA a b n p.toNat t) b):=by
 have p2' : p.toNat < 2:=by omega
 have q9:=(hw.2 n p.toNat).2
 rw [Ok_eq]
 simp (maxSteps:=999999) (disch:=omega) only [go_sem,hF,hC,stV_ob (hl _),look_ob_ne hne]
 by_cases c1 : (a.ino n).prt p.toNat < 0
 ·simp (maxSteps:=999999) (disch:=omega) only [go_sem,hF,hC,stV_ob (hl _),look_ob_ne hne,c1]
  refine W_callp rfl ⟨rfl,rfl⟩ (by simp only [go_sem]; exact eData (a:=a) (b:=b) (by simp only [go_sem,hC])) ?_
  simp (maxSteps:=999999) (disch:=omega) only [go_sem]
  rcases freeDat_cases a b with e | ⟨k,k9,e,_⟩
  ·simp (maxSteps:=999999) (disch:=omega) only [go_sem,e]
   simp [putC,putA,c1,e,ob_self hC]
  ·have k0 : ¬(k : Int) < 0:=by omega
   simp (maxSteps:=999999) (disch:=omega) only [go_sem,e,k0,hF,hC,stV_ob (hl _),look_ob_ne hne,n8,p2']
   simp [putC,putA,c1,e,k0]
 ·simp (maxSteps:=999999) (disch:=omega) only [go_sem,hF,hC,stV_ob (hl _),look_ob_ne hne,c1]
  simp [putC,putA,c1]
theorem Do_ok {F : Fl} {x : SStep} (hl : ∀ n,cx.prot.lets (.obj n) = true) (hF : h.look (.obj f) = some ⟨tFiles,encF c F.stamp⟩) (hC : h.look (.obj c) = some ⟨tCache,encC F.now F.disk⟩) (hne : ¬f = c)
  (hw : WF F.now) (h1 : x.name.size ≤ 9223372036854775807) (h2 : x.to.size ≤ 9223372036854775807) (h3 : x.text.size ≤ 9223372036854775807) :
  Ok tblE cx Fn.soft_Files_Do (St.enter [.ptr (.obj f) [] tFiles,x.enc] h) fun v h'=>v = .int .i64 (doC F x) ∧ h' = (h.ob f tFiles (encF c (doF F x).stamp)).ob c tCache (encC (doF F x).now F.disk):=by
 rw [Ok_eq]
 have same : (h.ob f tFiles (encF c F.stamp)).ob c tCache (encC F.now F.disk) = h:=by rw [ob_self hF,ob_self hC]
 have sameF : ∀ v,(h.ob f tFiles (encF c F.stamp)).ob c tCache v = h.ob c tCache v:=fun v=>by rw [ob_self hF]
 have hne' : ¬c = f:=fun e=>hne e.symm
 simp (maxSteps:=999999) (disch:=omega) only [go_sem]
 refine W_callp rfl ⟨rfl,rfl⟩ (by simp only [go_sem]; exact ICheck_ok h1 h2 h3) ?_
 simp (maxSteps:=999999) (disch:=omega) only [go_sem]
 by_cases c0 : stepFault x = 0
 rotate_left
 ·simp (maxSteps:=999999) (disch:=omega) only [go_sem,c0]
  simp [doC,doF,c0,same]
 obtain ⟨⟨k1,k6⟩,⟨d0,d3⟩,hn,hto,hp,htx⟩:=stepFault_zero c0
 simp (maxSteps:=999999) (disch:=omega) only [go_sem,c0]
 by_cases c1 : x.kind = 1
 ·simp (maxSteps:=999999) (disch:=omega) only [go_sem,c1]
  refine W_callh (v:=.int .i64 (makeC F x.dir x.name)) ((h.ob f tFiles (encF c (makeF F x.dir x.name).stamp)).ob c tCache (encC (makeF F x.dir x.name).now F.disk)) rfl ⟨rfl,rfl⟩ rfl (by simp only [go_sem]; exact make_ok hl hF hC hne) ?_
  simp (maxSteps:=999999) (disch:=omega) only [go_sem]
  by_cases e : makeC F x.dir x.name = 0 <;> simp [doC,doF,c0,c1,e,makeF]
 simp (maxSteps:=999999) (disch:=omega) only [go_sem,c1,hF,hC]
 refine W_callp rfl ⟨rfl,rfl⟩ (by simp only [go_sem]; exact eFind0 (a:=F.now) (b:=F.disk) (by simp only [go_sem,hC])) ?_
 simp (maxSteps:=999999) (disch:=omega) only [go_sem]
 rcases slotOf_cases F.now x.dir x.name with e | ⟨s,s4,e,_⟩
 ·simp (maxSteps:=999999) (disch:=omega) only [go_sem,e]
  simp [doC,doF,c0,c1,e,same]
 have s0 : ¬(s : Int) < 0:=by omega
 have i0:=(hw.1 x.dir.toNat s).1
 have i8:=(hw.1 x.dir.toNat s).2
 have n8 : (F.now.ent x.dir.toNat s).ino.toNat < 8:=by omega
 have ni : (((F.now.ent x.dir.toNat s).ino.toNat : Nat) : Int) = (F.now.ent x.dir.toNat s).ino:=by omega
 simp (maxSteps:=999999) (disch:=omega) only [go_sem,e,s0,hF,hC]
 have enter:=fun (cy : Cx) (hy : ∀ n,cy.prot.lets (.obj n) = true) (o : Own)=>enter_ok (cx:=cy) (h:=h.push cx.lvl o) (f:=f) (c:=c) (a:=F.now) (b:=F.disk) (st:=F.stamp) (d:=x.toDir) (s:=x.to) (n:=(F.now.ent x.dir.toNat s).ino.toNat) hy (by simp only [go_sem,hF]) (by simp only [go_sem,hC]) hne n8
 simp only [ni,go_sem] at enter
 by_cases c2 : x.kind = 2
 ·simp (maxSteps:=999999) (disch:=omega) only [go_sem,c2]
  refine W_callh (v:=.int .i64 (enterC F.now F.disk x.toDir x.to)) (h.ob c tCache (encC (enterA F.now F.disk x.toDir x.to (F.now.ent x.dir.toNat s).ino.toNat) F.disk)) rfl ⟨rfl,rfl⟩ rfl (by simp only [go_sem]; exact enter _ (by exact hl) _) ?_
  simp (maxSteps:=999999) (disch:=omega) only [go_sem]
  by_cases e2 : enterC F.now F.disk x.toDir x.to = 0 <;> simp [doC,doF,c0,c1,c2,e,s0,e2,enterA,sameF]
 by_cases c4 : x.kind = 4
 ·simp (maxSteps:=999999) (disch:=omega) only [go_sem,c2,c4]
  refine W_callh (v:=.int .i64 (enterC F.now F.disk x.toDir x.to)) (h.ob c tCache (encC (enterA F.now F.disk x.toDir x.to (F.now.ent x.dir.toNat s).ino.toNat) F.disk)) rfl ⟨rfl,rfl⟩ rfl (by simp only [go_sem]; exact enter _ (by exact hl) _) ?_
  simp (maxSteps:=999999) (disch:=omega) only [go_sem]
  by_cases e2 : enterC F.now F.disk x.toDir x.to = 0
  ·simp (maxSteps:=999999) (disch:=omega) only [go_sem,e2]
   have hw2:=WF_enterA (b:=F.disk) hw (d:=x.toDir) (s:=x.to) n8
   have leave:=fun (cy : Cx) (hy : ∀ n,cy.prot.lets (.obj n) = true) (o : Own)=>leave_ok (cx:=cy) (h:=(h.ob c tCache (encC (enterA F.now F.disk x.toDir x.to (F.now.ent x.dir.toNat s).ino.toNat) F.disk)).push cx.lvl o) (f:=f) (c:=c) (a:=enterA F.now F.disk x.toDir x.to (F.now.ent x.dir.toNat s).ino.toNat) (b:=F.disk) (st:=F.stamp) (d:=x.dir) (s:=s) hy (by simp only [go_sem,hF,look_ob_ne hne]) (by simp only [go_sem,]) hne d0 d3 (Int.natCast_nonneg s) (by omega) (hw2.1 _ _).1 (hw2.1 _ _).2
   simp only [go_sem] at leave
   refine W_callh (v:=.tup .unit) (h.ob c tCache (encC (dropName (enterA F.now F.disk x.toDir x.to (F.now.ent x.dir.toNat s).ino.toNat) x.dir.toNat s) F.disk)) rfl ⟨rfl,rfl⟩ rfl (by simp only [go_sem]; exact leave _ (by exact hl) _) ?_
   simp (maxSteps:=999999) (disch:=omega) only [go_sem]
   simp [doC,doF,c0,c1,c2,c4,e,s0,e2,sameF]
  ·simp (maxSteps:=999999) (disch:=omega) only [go_sem,e2]
   simp [doC,doF,c0,c1,c2,c4,e,s0,e2,enterA,same,ob_self hC]
 by_cases c3 : x.kind = 3
 ·simp (maxSteps:=999999) (disch:=omega) only [go_sem,c2,c4,c3]
  refine W_callh (v:=.tup .unit) (h.ob c tCache (encC (dropName F.now x.dir.toNat s) F.disk)) rfl ⟨rfl,rfl⟩ rfl (by simp only [go_sem]; exact leave_ok (a:=F.now) (b:=F.disk) (st:=F.stamp) hl (by simp only [go_sem,hF]) (by simp only [go_sem,hC]) hne d0 d3 (Int.natCast_nonneg s) (by omega) (by simpa using i0) (by simpa using i8)) ?_
  simp (maxSteps:=999999) (disch:=omega) only [go_sem]
  simp [doC,doF,c0,c1,c2,c3,c4,e,s0,sameF]
 by_cases c5 : x.kind = 5
 ·simp (maxSteps:=999999) (disch:=omega) only [go_sem,c2,c4,c3,c5]
  have put:=fun (cy : Cx) (hy : ∀ n,cy.prot.lets (.obj n) = true) (o : Own)=>put_ok (cx:=cy) (h:=h.push cx.lvl o) (f:=f) (c:=c) (a:=F.now) (b:=F.disk) (st:=F.stamp) (p:=x.p) (t:=x.text) (n:=(F.now.ent x.dir.toNat s).ino.toNat) hy (by simp only [go_sem,hF]) (by simp only [go_sem,hC]) hne hw n8 (hp (.inl c5)).1 (hp (.inl c5)).2
  simp only [ni,go_sem] at put
  refine W_callh (v:=.int .i64 (putC F.now F.disk (F.now.ent x.dir.toNat s).ino.toNat x.p.toNat)) (h.ob c tCache (encC (putA F.now F.disk (F.now.ent x.dir.toNat s).ino.toNat x.p.toNat x.text) F.disk)) rfl ⟨rfl,rfl⟩ rfl (by simp only [go_sem]; exact put _ (by exact hl) _) ?_
  simp (maxSteps:=999999) (disch:=omega) only [go_sem]
  by_cases e2 : putC F.now F.disk (F.now.ent x.dir.toNat s).ino.toNat x.p.toNat = 0
  ·simp [doC,doF,c0,c1,c2,c3,c4,c5,e,s0,e2,sameF]
  ·have : putA F.now F.disk (F.now.ent x.dir.toNat s).ino.toNat x.p.toNat x.text = F.now:=by
    have e3 : (F.now.ino (F.now.ent x.dir.toNat s).ino.toNat).prt x.p.toNat < 0 ∧ freeDat F.now F.disk < 0:=by
     simp only [putC] at e2; split at e2
     ·assumption
     ·exact absurd rfl e2
    simp [putA,e3.1,e3.2]
   simp [doC,doF,c0,c1,c2,c3,c4,c5,e,s0,e2,this,same,ob_self hC]
 have c6 : x.kind = 6:=by omega
 have hp0:=(hp (.inr c6)).1
 have hp2:=(hp (.inr c6)).2
 simp (maxSteps:=999999) (disch:=omega) only [go_sem,c2,c4,c3,c5,c6,hF,hC,stV_ob (hl _),look_ob_ne hne]
 simp [doC,doF,c0,c1,c2,c3,c4,c5,e,s0,sameF]
def readC (a : Img) (d : Int) (s : Str) (p : Int) : Int :=
 if stepFault ⟨6,d,0,p,s,⟨#[]⟩,⟨#[]⟩⟩ ≠ 0 then stepFault ⟨6,d,0,p,s,⟨#[]⟩,⟨#[]⟩⟩ else if slotOf a d s < 0 then 5 else 0
def readX (a : Img) (d : Int) (s : Str) (p : Int) : Int:=(a.ino (a.ent d.toNat (slotOf a d s).toNat).ino.toNat).prt p.toNat
def readB (a : Img) (d : Int) (s : Str) (p : Int) : Bool:=decide (readC a d s p = 0) && !decide (readX a d s p < 0)
def readT (a : Img) (d : Int) (s : Str) (p : Int) : Str:=if readB a d s p = true then (a.dat (readX a d s p).toNat).text else ⟨#[]⟩
def sameB (a : Img) (d : Int) (s : Str) (e : Int) (t : Str) : Bool:=decide (0 ≤ slotOf a d s) && decide (0 ≤ slotOf a e t) &&
 decide ((a.ent d.toNat (slotOf a d s).toNat).ino = (a.ent e.toNat (slotOf a e t).toNat).ino)
def sureB (a b : Img) (d : Int) (s : Str) : Bool:=decide (0 ≤ slotOf a d s) && decide (b.ent d.toNat (slotOf a d s).toNat = a.ent d.toNat (slotOf a d s).toNat)
def encR (t : Str) (b : Bool) (c : Int) : AV:=.tup (.cons (.str t) (.cons (.bool b) (.cons (.int .i64 c) .unit)))
@[go_sem] theorem fill_step1 (k d p : Int) (s : Str) : fill tStep tStep.zero [(0,.int .i64 k),(1,.int .i64 d),(4,.str s),(3,.int .i64 p)] = some (SStep.enc ⟨k,d,0,p,s,⟨#[]⟩,⟨#[]⟩⟩):=rfl
@[go_sem] theorem encR_mk (t : Str) (b : Bool) (c : Int) : some (AV.tup (.cons (.str t) (.cons (.bool b) (.cons (.int .i64 c) .unit)))) = some (encR t b c):=rfl
theorem Read_ok {d p : Int} {s : Str} (hF : h.look (.obj f) = some ⟨tFiles,encF c st⟩) (hC : h.look (.obj c) = some ⟨tCache,encC a b⟩) (hw : WF a) (hs : s.size ≤ 9223372036854775807) :
  Ok tblE cx Fn.soft_Files_Read (St.enter [.ptr (.obj f) [] tFiles,.int .i64 d,.str s,.int .i64 p] h) fun v h'=>v = encR (readT a d s p) (readB a d s p) (readC a d s p) ∧ h' = h:=by
 rw [Ok_eq]
 simp (maxSteps:=999999) (disch:=omega) only [go_sem]
 refine W_callp rfl ⟨rfl,rfl⟩ (by simp only [go_sem]; exact ICheck_ok (x:=⟨6,d,0,p,s,⟨#[]⟩,⟨#[]⟩⟩) hs (Nat.zero_le _) (Nat.zero_le _)) ?_
 simp (maxSteps:=999999) (disch:=omega) only [go_sem]
 by_cases c0 : stepFault ⟨6,d,0,p,s,⟨#[]⟩,⟨#[]⟩⟩ = 0
 rotate_left
 ·simp (maxSteps:=999999) (disch:=omega) only [go_sem,c0]
  simp [readC,readB,readT,c0,encR]
 obtain ⟨_,⟨d0,d3⟩,_,_,hp,_⟩:=stepFault_zero c0
 obtain ⟨p0,p2⟩:=hp (.inr rfl)
 simp only at d0 d3 p0 p2
 simp (maxSteps:=999999) (disch:=omega) only [go_sem,c0,hF,hC]
 refine W_callp rfl ⟨rfl,rfl⟩ (by simp only [go_sem]; exact eFind0 (a:=a) (b:=b) (by simp only [go_sem,hC])) ?_
 simp (maxSteps:=999999) (disch:=omega) only [go_sem]
 rcases slotOf_cases a d s with e | ⟨k,k4,e,_⟩
 ·simp (maxSteps:=999999) (disch:=omega) only [go_sem,e]
  simp [readC,readB,readT,c0,e,encR]
 have k0 : ¬(k : Int) < 0:=by omega
 have i0:=(hw.1 d.toNat k).1
 have i8:=(hw.1 d.toNat k).2
 have q9:=(hw.2 (a.ent d.toNat k).ino.toNat p.toNat).2
 simp (maxSteps:=999999) (disch:=omega) only [go_sem,e,k0,hF,hC]
 by_cases c1 : (a.ino (a.ent d.toNat k).ino.toNat).prt p.toNat < 0
 ·simp (maxSteps:=999999) (disch:=omega) only [go_sem,c1]
  simp [readC,readB,readT,readX,c0,e,k0,c1,encR]
 ·simp (maxSteps:=999999) (disch:=omega) only [go_sem,c1,hF,hC]
  simp [readC,readB,readT,readX,c0,e,k0,c1,encR]
theorem Same_ok {d e : Int} {s t : Str} (hF : h.look (.obj f) = some ⟨tFiles,encF c st⟩) (hC : h.look (.obj c) = some ⟨tCache,encC a b⟩) :
  Ok tblE cx Fn.soft_Files_Same (St.enter [.ptr (.obj f) [] tFiles,.int .i64 d,.str s,.int .i64 e,.str t] h) fun v h'=>v = .bool (sameB a d s e t) ∧ h' = h:=by
 rw [Ok_eq]
 simp (maxSteps:=999999) (disch:=omega) only [go_sem,hF,hC]
 refine W_callp rfl ⟨rfl,rfl⟩ (by simp only [go_sem]; exact eFind0 (a:=a) (b:=b) (by simp only [go_sem,hC])) ?_
 simp (maxSteps:=999999) (disch:=omega) only [go_sem,hF,hC]
 refine W_callp rfl ⟨rfl,rfl⟩ (by simp only [go_sem]; exact eFind0 (a:=a) (b:=b) (by simp only [go_sem,hC])) ?_
 simp (maxSteps:=999999) (disch:=omega) only [go_sem,hF,hC]
 rcases slotOf_cases a d s with e1 | ⟨k,k4,e1,d0,d3,_⟩
 ·simp (maxSteps:=999999) (disch:=omega) only [go_sem,e1]
  simp [sameB,e1]
 rcases slotOf_cases a e t with e2 | ⟨j,j4,e2,e0,e3,_⟩
 ·simp (maxSteps:=999999) (disch:=omega) only [go_sem,e1,e2]
  simp [sameB,e1,e2]
 simp (maxSteps:=999999) (disch:=omega) only [go_sem,e1,e2,hF,hC]
 simp [sameB,e1,e2]
theorem Sure_ok {d : Int} {s : Str} (hF : h.look (.obj f) = some ⟨tFiles,encF c st⟩) (hC : h.look (.obj c) = some ⟨tCache,encC a b⟩) :
  Ok tblE cx Fn.soft_Files_Sure (St.enter [.ptr (.obj f) [] tFiles,.int .i64 d,.str s] h) fun v h'=>v = .bool (sureB a b d s) ∧ h' = h:=by
 rw [Ok_eq]
 simp (maxSteps:=999999) (disch:=omega) only [go_sem,hF,hC]
 refine W_callp rfl ⟨rfl,rfl⟩ (by simp only [go_sem]; exact eFind0 (a:=a) (b:=b) (by simp only [go_sem,hC])) ?_
 simp (maxSteps:=999999) (disch:=omega) only [go_sem,hF,hC]
 refine W_callp rfl ⟨rfl,rfl⟩ (by simp only [go_sem]; exact eDisk (a:=a) (b:=b) (by simp only [go_sem,hC])) ?_
 simp (maxSteps:=999999) (disch:=omega) only [go_sem,hF,hC]
 rcases slotOf_cases a d s with e1 | ⟨k,k4,e1,d0,d3,_⟩
 ·simp (maxSteps:=999999) (disch:=omega) only [go_sem,e1]
  simp [sureB,e1]
 simp (maxSteps:=999999) (disch:=omega) only [go_sem,e1,hF,hC]
 simp [sureB,e1]
end
structure Bd where
 now : Img
 disk : Img
 stamp : Int
 crashes : Int
 files : Int
 counts : Int
 datas : Int
def tailB (s c f n d : Int) : AV:=.cons (.int .i64 s) (.cons (.int .i64 c) (.cons (.int .i64 f) (.cons (.int .i64 n) (.cons (.int .i64 d) .unit))))
def Bd.enc (B : Bd) : AV:=.cons B.now.enc (.cons B.disk.enc (tailB B.stamp B.crashes B.files B.counts B.datas))
@[go_sem] theorem at_B0 (B : Bd) (p : List Nat) : B.enc.at (0 :: p) = B.now.enc.at p:=rfl
@[go_sem] theorem at_B1 (B : Bd) (p : List Nat) : B.enc.at (1 :: p) = B.disk.enc.at p:=rfl
@[go_sem] theorem at_B2 (B : Bd) : B.enc.at [2] = some (.int .i64 B.stamp):=rfl
@[go_sem] theorem at_B3 (B : Bd) : B.enc.at [3] = some (.int .i64 B.crashes):=rfl
@[go_sem] theorem at_B4 (B : Bd) : B.enc.at [4] = some (.int .i64 B.files):=rfl
@[go_sem] theorem at_B5 (B : Bd) : B.enc.at [5] = some (.int .i64 B.counts):=rfl
@[go_sem] theorem at_B6 (B : Bd) : B.enc.at [6] = some (.int .i64 B.datas):=rfl
@[go_sem] theorem put_B0 (B : Bd) (p : List Nat) (x : AV) : B.enc.put (0 :: p) x = (B.now.enc.put p x).map fun y=>.cons y (.cons B.disk.enc (tailB B.stamp B.crashes B.files B.counts B.datas)):=rfl
@[go_sem] theorem put_B1 (B : Bd) (p : List Nat) (x : AV) : B.enc.put (1 :: p) x = (B.disk.enc.put p x).map fun y=>.cons B.now.enc (.cons y (tailB B.stamp B.crashes B.files B.counts B.datas)):=by
 show ((B.disk.enc.put p x).map fun y=>AV.cons y (tailB B.stamp B.crashes B.files B.counts B.datas)).map (fun y=>AV.cons B.now.enc y) = _
 cases B.disk.enc.put p x <;> rfl
@[go_sem] theorem put_B2 (B : Bd) (x : Int) : B.enc.put [2] (.int .i64 x) = some (Bd.enc { B with stamp:=x }):=rfl
@[go_sem] theorem put_B3 (B : Bd) (x : Int) : B.enc.put [3] (.int .i64 x) = some (Bd.enc { B with crashes:=x }):=rfl
@[go_sem] theorem put_B4 (B : Bd) (x : Int) : B.enc.put [4] (.int .i64 x) = some (Bd.enc { B with files:=x }):=rfl
@[go_sem] theorem put_B5 (B : Bd) (x : Int) : B.enc.put [5] (.int .i64 x) = some (Bd.enc { B with counts:=x }):=rfl
@[go_sem] theorem put_B6 (B : Bd) (x : Int) : B.enc.put [6] (.int .i64 x) = some (Bd.enc { B with datas:=x }):=rfl
@[go_sem] theorem Bmk (a b : Img) (s c f n d : Int) : AV.cons a.enc (.cons b.enc (tailB s c f n d)) = Bd.enc ⟨a,b,s,c,f,n,d⟩:=rfl
@[go_sem] theorem field_B0 : tBed.field 0 = some tImage:=rfl
@[go_sem] theorem field_B1 : tBed.field 1 = some tImage:=rfl
@[go_sem] theorem field_B2 : tBed.field 2 = some tI:=rfl
@[go_sem] theorem field_B3 : tBed.field 3 = some tI:=rfl
@[go_sem] theorem field_B4 : tBed.field 4 = some tI:=rfl
@[go_sem] theorem field_B5 : tBed.field 5 = some tI:=rfl
@[go_sem] theorem field_B6 : tBed.field 6 = some tI:=rfl
theorem fits_B' (B : Bd) : tBed.fits B.enc = true:=by
 show (Ty.cons tImage (.cons tImage _)).fits (AV.cons _ (.cons _ _)) = true
 simp only [fits_cons,fits_img',true_and]
 rfl
@[go_sem] theorem fits_B (B : Bd) : (tBed.fits B.enc = true) = True:=eq_true (fits_B' B)
@[go_sem] theorem fg_B (B : Bd) (i : Id) : fg B.enc i = B.enc:=rfl
@[go_sem] theorem leads_B (B : Bd) (i : Id) : B.enc.leads i = false:=rfl
theorem zero_bed : tBed.zero = Bd.enc ⟨.zero,.zero,0,0,0,0,0⟩:=by
 show AV.cons tImage.zero (.cons tImage.zero _) = _
 rw [zero_img]; rfl
@[go_sem] theorem fill_B (a b : Img) : fill tBed tBed.zero [(0,a.enc),(1,b.enc)] = some (Bd.enc ⟨a,b,0,0,0,0,0⟩):=by
 rw [zero_bed]
 simp only [fill]
 show (if tImage.fits a.enc = true then _ else _) = _
 rw [if_pos (fits_img' a),put_B0,put_nil,Option.map_some,Bmk]
 show (if tImage.fits b.enc = true then _ else _) = _
 rw [if_pos (fits_img' b),put_B1,put_nil,Option.map_some,Bmk]
def Bd.fl (B : Bd) : Fl:=⟨B.now,B.disk,B.stamp⟩
section
variable {T : Nat → Option MFun} {cx : Cx} {k : List Item} {kill : List Nat} {r : List MOp} {sl : Slots} {own : Own} {h : HP} {Q : St → Prop}
def WBX (T : Nat → Option MFun) (cx : Cx) (t : Ty) (v : AV) (d : Nat) (r : List MOp) (kill : List Nat) (k : List Item) (sl : Slots) (own : Own) (h : HP) (Q : St → Prop) : Prop :=
 t.fits v = true ∧ W T cx (.ops r kill :: k) ⟨sl.set d (.ptr (.obj h.next) [] t),own,h.nw t v⟩ Q
@[go_sem] theorem WBX_bed {B : Bd} {d : Nat} : WBX T cx tBed B.enc d r kill k sl own h Q = W T cx (.ops r kill :: k) ⟨sl.set d (.ptr (.obj h.next) [] tBed),own,h.nw tBed B.enc⟩ Q:=by
 simp only [WBX,fits_B,true_and]
@[go_sem] theorem WBX_files {c : Nat} {n : Int} {d : Nat} : WBX T cx tFiles (encF c n) d r kill k sl own h Q = W T cx (.ops r kill :: k) ⟨sl.set d (.ptr (.obj h.next) [] tFiles),own,h.nw tFiles (encF c n)⟩ Q:=by
 simp only [WBX,fits_F,true_and]
theorem W_boxX {d : Nat} {t : Ty} {x : Opd} : W T cx (.ops (⟨some d,.box true t x,none⟩ :: r) kill :: k) ⟨sl,own,h⟩ Q = WBX T cx t (St.opd ⟨sl,own,h⟩ x) d r kill k sl own h Q:=by
 rw [W_op rfl,evOp]
 simp only [evK,WBX]
 by_cases h1 : t.fits (St.opd ⟨sl,own,h⟩ x) = true
 ·simp only [h1,true_and,if_true]; rfl
 ·simp only [h1,false_and,Bool.false_eq_true,if_false]; rfl
@[go_sem] theorem W_boxBed {d : Nat} {x : Opd} : W T cx (.ops (⟨some d,.box true tBed x,none⟩ :: r) kill :: k) ⟨sl,own,h⟩ Q = WBX T cx tBed (St.opd ⟨sl,own,h⟩ x) d r kill k sl own h Q:=W_boxX
@[go_sem] theorem W_boxFiles {d : Nat} {x : Opd} : W T cx (.ops (⟨some d,.box true tFiles x,none⟩ :: r) kill :: k) ⟨sl,own,h⟩ Q = WBX T cx tFiles (St.opd ⟨sl,own,h⟩ x) d r kill k sl own h Q:=W_boxX
@[go_sem] theorem mk1_nw (a b : Img) : h.mk1 a b = h.nw tCache (encC a b):=rfl
end
theorem ent_addName (a : Img) (d s : Nat) (name : Str) (n : Nat) (d' s' : Nat) : (addName a d s name n).ent d' s' = if (d = d' ∧ s = s') ∧ d' < 3 ∧ s' < 4 then ⟨name,n,(a.ino n).stamp⟩ else a.ent d' s':=by
 rw [addName,ent_setIno,ent_setEnt]
structure Fr (h h' : HP) (S : List Nat) : Prop where
 stk : h'.stk = h.stk
 arg : h'.arg = h.arg
 next : h.next ≤ h'.next
 same : ∀ n,n < h.next → n ∉ S → h'.obj n = h.obj n
theorem Fr.refl (h : HP) (S : List Nat) : Fr h h S:=⟨rfl,rfl,Nat.le_refl _,fun _ _ _=>rfl⟩
theorem Fr.trans {h h1 h2 : HP} {S : List Nat} (a : Fr h h1 S) (b : Fr h1 h2 S) : Fr h h2 S :=
 ⟨b.stk.trans a.stk,b.arg.trans a.arg,Nat.le_trans a.next b.next,fun n hn hs=>(b.same n (by have:=a.next; omega) hs).trans (a.same n hn hs)⟩
theorem Fr.ob {h : HP} {n : Nat} {t : Ty} {v : AV} {S : List Nat} (hn : n ∈ S) : Fr h (h.ob n t v) S :=
 ⟨rfl,rfl,Nat.le_refl _,fun k _ hs=>obj_ob_ne fun e=>hs (e ▸ hn)⟩
theorem Fr.nw {h : HP} {t : Ty} {v : AV} {S : List Nat} : Fr h (h.nw t v) S :=
 ⟨rfl,rfl,Nat.le_succ _,fun k hk _=>by simp [HP.nw,HP.ob,HP.set]; omega⟩
theorem Fr.mono {h h' : HP} {S S' : List Nat} (a : Fr h h' S) (hs : ∀ n ∈ S,n < h.next → n ∈ S') : Fr h h' S' :=
 ⟨a.stk,a.arg,a.next,fun n hn hn'=>a.same n hn fun e=>hn' (hs n e hn)⟩
theorem Fr.look {h h' : HP} {S : List Nat} (a : Fr h h' S) {n : Nat} {b : Option Blk} (hn : n < h.next) (hs : n ∉ S) (e : h.look (.obj n) = b) : h'.look (.obj n) = b:=by
 rw [← e]; exact a.same n hn hs
theorem look_nn1 {h : HP} {t u : Ty} {v w : AV} : ((h.nw t v).nw u w).look (.obj (h.next + 1)) = some ⟨u,w⟩:=look_nw (h:=h.nw t v)
theorem look_nn0 {h : HP} {t u : Ty} {v w : AV} : ((h.nw t v).nw u w).look (.obj h.next) = some ⟨t,v⟩:=by
 rw [look_nw_ne (by show ¬h.next = h.next + 1; omega),look_nw]
section
variable {T : Nat → Option MFun} {cx : Cx} {k : List Item} {kill : List Nat} {r : List MOp} {sl : Slots} {own : Own} {h : HP} {Q : St → Prop}
theorem W_callF {S : List Nat} {R : AV → HP → Prop} {prot : Bool} {f : Nat} {args : List Opd} {d : Option Nat} {fn : MFun} (hf : T f = some fn) (hp : fn.params = args.length ∧ fn.nfree = 0)
  (hc : Ok T (St.callCx ⟨sl,own,h⟩ cx prot) fn (St.enter (args.map (St.opd ⟨sl,own,h⟩)) (h.push cx.lvl own)) fun v' h'=>Fr (h.push cx.lvl own) h' S ∧ R v' h')
  (hR : ∀ v h1,R v (HP.push h1 cx.lvl own) → R v h1)
  (hq : ∀ v h1,Fr h h1 S → R v h1 → W T cx (.ops r kill :: k) (St.setd ⟨sl,own,h1⟩ d v) Q) :
  W T cx (.ops (⟨d,.call prot [] f args,none⟩ :: r) kill :: k) ⟨sl,own,h⟩ Q:=by
 refine W_callR (R:=fun v h1=>Fr h h1 S ∧ R v h1) hf hp (hc.mono fun v h' e=>?_) fun v h1 e=>hq v h1 e.1 e.2
 obtain ⟨e1,e2⟩:=e
 have hh : h' = HP.push ⟨h.stk,h'.obj,h'.next,h'.arg⟩ cx.lvl own:=by
  have:=e1.stk
  cases h'
  simp only at this
  subst this
  rfl
 refine ⟨⟨h.stk,h'.obj,h'.next,h'.arg⟩,hh,rfl,⟨rfl,e1.arg,e1.next,e1.same⟩,hR _ _ (hh ▸ e2)⟩
end
def maxSt (m : Img) : Nat → Int
 | 0=>0
 | k + 1=>if maxSt m k < (m.ino k).stamp then (m.ino k).stamp else maxSt m k
@[go_sem] theorem maxV_int (k : IntKind) (a b : Int) : maxV (.int k a) (.int k b) = some (.int k (if a < b then b else a)):=by simp [maxV]
@[go_sem] theorem fits_tInodes (v : Vector Ino 8) : (tInodes.fits (encV Ino.enc v) = true) = True:=fits_inodes v
section
variable {cx : Cx} {h : HP} {m : Img}
theorem SNew_ok : Ok tblE cx Fn.soft_New (St.enter [] h) fun v h'=>v = .ptr (.obj (h.next + 1)) [] tFiles ∧ h' = (h.nw tCache (encC .blank .blank)).nw tFiles (encF h.next 0):=by
 rw [Ok_eq]
 simp (maxSteps:=999999) (disch:=omega) only [go_sem]
 refine W_callh (v:=.ptr (.obj h.next) [] tCache) (h.nw tCache (encC .blank .blank)) rfl ⟨rfl,rfl⟩ rfl (by simp only [go_sem]; exact upE CNew_ok) ?_
 simp (maxSteps:=999999) (disch:=omega) only [go_sem]
theorem SOf_no (hs : m.small) (hc : ¬check m = 0) : Ok tblE cx Fn.soft_Of (St.enter [m.enc] h) fun v h'=>v = .nilp ∧ h' = h:=by
 rw [Ok_eq]
 simp (maxSteps:=999999) (disch:=omega) only [go_sem]
 refine W_callp rfl ⟨rfl,rfl⟩ (by simp only [go_sem]; exact upE (COf_no hs hc)) ?_
 simp (maxSteps:=999999) (disch:=omega) only [go_sem]
end
def syncK (a b : Img) : Nat:=if findN 8 (fun k=>decide (a = syncD a b k)) < 0 then 8 else (findN 8 (fun k=>decide (a = syncD a b k))).toNat
def syncTo (a b : Img) : Img:=syncD a b (syncK a b)
theorem syncK_eq {a b : Img} {k : Nat} (h8 : k ≤ 8) (h : k = 8 ∨ a = syncD a b k) (hn : ∀ i,i < k → ¬a = syncD a b i) : k = syncK a b:=by
 unfold syncK
 rcases h with rfl | h
 ·rw [findN_none fun i hi=>by simp [hn i hi]]; rfl
 ·by_cases e : k = 8
  ·subst e; rw [findN_none fun i hi=>by simp [hn i hi]]; rfl
  ·rw [findN_at (j:=k) (fun i hi=>by simp [hn i hi]) (by simpa using h) (by omega),if_neg (by omega)]; simp
structure Lf where
 fl : Fl
 a : Int
 b : Int
 c : Int
 n : Int
def Lf.new : Lf:=⟨⟨.blank,.blank,0⟩,0,0,0,0⟩
def lifeC (L : Lf) (x : SStep) : Int :=
 if x.kind = 7 then (if (writeAs L.fl.now L.fl.disk x.p).2 = true then 0 else 1) else
 if x.kind = 8 then 0 else if x.kind = 9 then check L.fl.disk else doC L.fl x
def crashF (L : Lf) : Lf:=if check L.fl.disk = 0 then
  ⟨⟨mended L.fl.disk,mended L.fl.disk,maxSt (mended L.fl.disk) 8⟩,lostF L.fl.disk 8,lostC L.fl.disk 8,lostD (mendI L.fl.disk 8) 9,IntKind.i64.wrap (L.n + 1)⟩ else L
def lifeF (L : Lf) (x : SStep) : Lf :=
 if x.kind = 7 then { L with fl:={ L.fl with disk:=(writeAs L.fl.now L.fl.disk x.p).1 } } else
 if x.kind = 8 then { L with fl:={ L.fl with disk:=syncTo L.fl.now L.fl.disk } } else
 if x.kind = 9 then crashF L else { L with fl:=doF L.fl x }
theorem small_setEnt {m : Img} (h : m.small) {d s : Nat} {y : Ent} (hy : y.name.size ≤ 100000) : (m.setEnt d s y).small:=fun d' s'=>by
 rw [ent_setEnt]; split
 ·exact hy
 ·exact h d' s'
theorem small_setIno {m : Img} (h : m.small) {n : Nat} {y : Ino} : (m.setIno n y).small:=h
theorem small_setDat {m : Img} (h : m.small) {n : Nat} {y : Dat} : (m.setDat n y).small:=h
theorem isName_size {s : Str} (h : isName s = true) : s.size ≤ 100000:=by
 simp [isName] at h; omega
theorem small_addName {a : Img} (h : a.small) {d s n : Nat} {name : Str} (hn : name.size ≤ 100000) : (addName a d s name n).small:=small_setIno (small_setEnt h hn)
theorem small_dropName {a : Img} (h : a.small) {d s : Nat} : (dropName a d s).small:=by
 unfold dropName
 dsimp only
 split <;> exact small_setIno (small_setEnt h (by decide))
theorem small_enterA {a b : Img} (h : a.small) {d : Int} {s : Str} {n : Nat} (hn : s.size ≤ 100000) : (enterA a b d s n).small:=by
 unfold enterA
 split
 ·exact small_addName h hn
 ·exact h
theorem small_doF {F : Fl} (h : F.now.small) {x : SStep} : (doF F x).now.small:=by
 unfold doF
 split
 ·exact h
 rename_i hc
 have c0 : stepFault x = 0:=by
  by_cases e : stepFault x = 0
  ·exact e
  ·exfalso; apply hc; simp only [doC]; rw [if_pos e]; exact e
 obtain ⟨⟨k1,k6⟩,_,hn,hto,_⟩:=stepFault_zero c0
 split
 ·unfold makeF
  split
  ·exact small_addName (small_setIno h) (isName_size hn)
  ·exact h
 dsimp only
 split
 ·rename_i k2; exact small_enterA h (isName_size (hto (.inl k2)).2)
 split
 ·rename_i k4; exact small_dropName (small_enterA h (isName_size (hto (.inr k4)).2))
 split
 ·exact small_dropName h
 split
 ·unfold putA
  split
  ·split
   ·exact h
   ·exact small_setDat (small_setIno h)
  ·exact small_setDat h
 ·exact small_setIno h
theorem small_wrDir {a b : Img} (ha : a.small) (hb : b.small) (d : Nat) : ∀ k,(wrDir a b d k).small
 | 0=>hb
 | k + 1=>by
  have ih:=small_wrDir ha hb d k
  refine small_setEnt ih ?_
  rcases entryAs_cases a (wrDir a b d k) d k with e | ⟨_,e,_⟩ | ⟨_,e,_⟩ <;> rw [e]
  ·exact ih d k
  ·exact ha d k
  ·decide
theorem small_writeAs {a b : Img} (ha : a.small) (hb : b.small) (x : Int) : (writeAs a b x).1.small:=by
 obtain ⟨n,hn,e⟩ | ⟨n,hn,e⟩ | ⟨n,hn,e⟩ | e:=blockOf_cases x
 ·rw [writeAs_i e]; intro d s; show ((wrInodes a b n 4).ent d s).name.size ≤ _; rw [wrInodes_ent]; exact hb d s
 ·rw [writeAs_d e]; exact small_wrDir ha hb n 4
 ·rw [writeAs_a e]; exact hb
 ·rw [writeAs_n e]; exact hb
theorem small_wrDown {a b : Img} (ha : a.small) (hb : b.small) : ∀ k,(wrDown a b k).small
 | 0=>hb
 | k + 1=>small_writeAs ha (small_wrDown ha hb k) _
theorem small_syncD {a b : Img} (ha : a.small) (hb : b.small) : ∀ k,(syncD a b k).small
 | 0=>hb
 | k + 1=>small_wrDown ha (small_syncD ha hb k) 14
theorem WF_check {m : Img} (hc : check m = 0) : WF m:=by
 refine ⟨fun d s=>?_,fun n p=>?_⟩
 ·by_cases h : d < 3 ∧ s < 4
  ·rcases entry_parts ((check_parts hc).1 d h.1 s h.2) with e | ⟨_,_,_,a4,a5,_⟩
   ·rw [e]; exact ⟨by decide,by decide⟩
   ·exact ⟨a4,a5⟩
  ·have : m.ent d s = Ent.zero:=by simp only [Img.ent]; rw [dif_neg h]
   rw [this]; exact ⟨by decide,by decide⟩
 ·by_cases hn : n < 8
  ·by_cases hp : p < 2
   ·cases hl : (m.ino n).live with
    | true =>
     have:=part_dat ((ino_parts hc hn hl).2.2 p hp)
     omega
    | false=>rw [dead_none hc hn hl]; exact prt_none p
   ·simp [Ino.prt,hp]
  ·have : m.ino n = Ino.zero:=by simp only [Img.ino]; rw [dif_neg hn]
   rw [this]
   by_cases hp : p < 2
   ·simp [Ino.prt,Ino.zero,hp]
   ·simp [Ino.prt,hp]
structure Inv0 (F : Fl) : Prop where
 wf : WF F.now
 sn : F.now.small
 sd : F.disk.small
theorem doF_disk (F : Fl) (x : SStep) : (doF F x).disk = F.disk:=by
 unfold doF makeF
 split
 ·rfl
 split
 ·split <;> rfl
 dsimp only
 split
 ·rfl
 split
 ·rfl
 split
 ·rfl
 split <;> rfl
theorem Inv0.doF {F : Fl} (h : Inv0 F) (x : SStep) : Inv0 (doF F x):=⟨WF_doF h.wf x,small_doF h.sn,by rw [doF_disk]; exact h.sd⟩
theorem Inv0.lifeF {L : Lf} (h : Inv0 L.fl) (x : SStep) : Inv0 (lifeF L x).fl:=by
 unfold Go.Mini.lifeF
 split
 ·exact ⟨h.wf,h.sn,small_writeAs h.sn h.sd _⟩
 split
 ·exact ⟨h.wf,h.sn,small_syncD h.sn h.sd _⟩
 split
 ·unfold crashF
  split
  ·rename_i hc
   exact ⟨WF_check (mended_check hc),mended_small h.sd,mended_small h.sd⟩
  ·exact h
 ·exact h.doF x
def encLi (f : Nat) (a b c n : Int) : AV:=.cons (.ptr (.obj f) [] tFiles) (.cons (encLost a b c) (.cons (.int .i64 n) .unit))
@[go_sem] theorem at_Li0 (f : Nat) (a b c n : Int) : (encLi f a b c n).at [0] = some (.ptr (.obj f) [] tFiles):=rfl
@[go_sem] theorem at_Li1 (f : Nat) (a b c n : Int) : (encLi f a b c n).at [1] = some (encLost a b c):=rfl
@[go_sem] theorem at_Li2 (f : Nat) (a b c n : Int) : (encLi f a b c n).at [2] = some (.int .i64 n):=rfl
@[go_sem] theorem put_Li0 (f g : Nat) (a b c n : Int) : (encLi f a b c n).put [0] (.ptr (.obj g) [] tFiles) = some (encLi g a b c n):=rfl
@[go_sem] theorem put_Li1 (f : Nat) (a b c n a' b' c' : Int) : (encLi f a b c n).put [1] (encLost a' b' c') = some (encLi f a' b' c' n):=rfl
@[go_sem] theorem put_Li2 (f : Nat) (a b c n n' : Int) : (encLi f a b c n).put [2] (.int .i64 n') = some (encLi f a b c n'):=rfl
@[go_sem] theorem field_Li0 : tLife.field 0 = some tP:=rfl
@[go_sem] theorem field_Li1 : tLife.field 1 = some tLost:=rfl
@[go_sem] theorem field_Li2 : tLife.field 2 = some tI:=rfl
@[go_sem] theorem fill_Li (f : Nat) : fill tLife tLife.zero [(0,.ptr (.obj f) [] tFiles)] = some (encLi f 0 0 0 0):=rfl
@[go_sem] theorem fits_Li (f : Nat) (a b c n : Int) : (tLife.fits (encLi f a b c n) = true) = True:=eq_true rfl
section
variable {T : Nat → Option MFun} {cx : Cx} {k : List Item} {kill : List Nat} {r : List MOp} {sl : Slots} {own : Own} {h : HP} {Q : St → Prop}
@[go_sem] theorem WBX_life {f : Nat} {a b c n : Int} {d : Nat} : WBX T cx tLife (encLi f a b c n) d r kill k sl own h Q = W T cx (.ops r kill :: k) ⟨sl.set d (.ptr (.obj h.next) [] tLife),own,h.nw tLife (encLi f a b c n)⟩ Q:=by
 simp only [WBX,fits_Li,true_and]
@[go_sem] theorem W_boxLife {d : Nat} {x : Opd} : W T cx (.ops (⟨some d,.box true tLife x,none⟩ :: r) kill :: k) ⟨sl,own,h⟩ Q = WBX T cx tLife (St.opd ⟨sl,own,h⟩ x) d r kill k sl own h Q:=W_boxX
end
structure LifeAt (h : HP) (p f c : Nat) (L : Lf) : Prop where
 li : h.look (.obj p) = some ⟨tLife,encLi f L.a L.b L.c L.n⟩
 fi : h.look (.obj f) = some ⟨tFiles,encF c L.fl.stamp⟩
 ca : h.look (.obj c) = some ⟨tCache,encC L.fl.now L.fl.disk⟩
 pf : ¬p = f
 fc : ¬f = c
 pc : ¬p = c
 pn : p < h.next
 fn : f < h.next
 cn : c < h.next
section
variable {cx : Cx} {h : HP} {p f c : Nat} {L : Lf} {a b : Img}
theorem eSync (hl : ∀ n,cx.prot.lets (.obj n) = true) (hC : h.look (.obj c) = some ⟨tCache,encC a b⟩) : Ok tblE cx Fn.cache_Cache_Sync (St.enter [.ptr (.obj c) [] tCache] h) fun v h'=>v = .int .i64 (syncK a b) ∧ h' = h.ob c tCache (encC a (syncTo a b)):=by
 have:=upE (CSync_ok (h:=h) (n:=c) (a:=a) (b:=b) (hl c))
 rw [cs_ob,ob_self hC] at this
 refine this.mono fun v h' e=>?_
 obtain ⟨k,h8,rfl,rfl,hk,hn⟩:=e
 obtain rfl:=syncK_eq h8 hk hn
 exact ⟨rfl,rfl⟩
theorem eWrite {x : Int} (hl : ∀ n,cx.prot.lets (.obj n) = true) (hC : h.look (.obj c) = some ⟨tCache,encC a b⟩) : Ok tblE cx Fn.cache_Cache_Write (St.enter [.ptr (.obj c) [] tCache,.int .i64 x] h) fun v h'=>v = .bool (writeAs a b x).2 ∧ h' = h.ob c tCache (encC a (writeAs a b x).1) :=
 upE (CWrite_ok hC (hl c))
end
def LifeTo (h h' : HP) (p f c : Nat) (L : Lf) : Prop:=∃ f' c',LifeAt h' p f' c' L ∧ ((f' = f ∧ c' = c) ∨ (h.next ≤ f' ∧ h.next ≤ c'))
theorem LifeAt.pop {h : HP} {p f c l : Nat} {o : Own} {L : Lf} (a : LifeAt (h.push l o) p f c L) : LifeAt h p f c L:=⟨a.li,a.fi,a.ca,a.pf,a.fc,a.pc,a.pn,a.fn,a.cn⟩
theorem LifeAt.push {h : HP} {p f c l : Nat} {o : Own} {L : Lf} (a : LifeAt h p f c L) : LifeAt (h.push l o) p f c L:=⟨a.li,a.fi,a.ca,a.pf,a.fc,a.pc,a.pn,a.fn,a.cn⟩
theorem LifeTo.pop {h h1 : HP} {p f c l l' : Nat} {o o' : Own} {L : Lf} (a : LifeTo (h.push l' o') (h1.push l o) p f c L) : LifeTo h h1 p f c L:=by
 obtain ⟨f',c',a,b⟩:=a
 exact ⟨f',c',a.pop,b⟩
theorem LifeTo.push {h h1 : HP} {p f c l : Nat} {o : Own} {L : Lf} (a : LifeTo h h1 p f c L) : LifeTo (h.push l o) h1 p f c L:=a
def sLt (a b : Str) : Bool:=Op.bytesLess a.toList b.toList
theorem bLt_irrefl : ∀ l : List UInt8,Op.bytesLess l l = false
 | []=>rfl
 | a :: l=>by simp [Op.bytesLess,bLt_irrefl l]
theorem bLt_asymm : ∀ l m : List UInt8,Op.bytesLess l m = true → Op.bytesLess m l = false
 | _,[],h=>by simp [Op.bytesLess] at h
 | [],b :: m,_=>rfl
 | a :: l,b :: m,h=>by
  simp only [Op.bytesLess,Bool.or_eq_true,Bool.and_eq_true,decide_eq_true_eq,beq_iff_eq] at h
  simp only [Op.bytesLess,Bool.or_eq_false_iff,decide_eq_false_iff_not]
  rcases h with h | ⟨rfl,h⟩
  ·refine ⟨fun e=>absurd (UInt8.lt_trans h e) (UInt8.lt_irrefl _),?_⟩
   have : ¬b = a:=fun e=>by subst e; exact absurd h (UInt8.lt_irrefl _)
   simp [this]
  ·exact ⟨UInt8.lt_irrefl _,by simp [bLt_asymm l m h]⟩
theorem bLt_total : ∀ l m : List UInt8,Op.bytesLess l m = false → Op.bytesLess m l = false → l = m
 | [],[],_,_=>rfl
 | [],_ :: _,h,_=>by simp [Op.bytesLess] at h
 | _ :: _,[],_,h=>by simp [Op.bytesLess] at h
 | a :: l,b :: m,h,k=>by
  simp only [Op.bytesLess,Bool.or_eq_false_iff,decide_eq_false_iff_not] at h k
  have e : a = b:=by
   have h1:=h.1; have k1:=k.1
   rw [UInt8.lt_iff_toNat_lt] at h1 k1
   exact UInt8.toNat_inj.1 (by omega)
  subst e
  simp at h k
  rw [bLt_total l m h k]
theorem bLt_trans : ∀ l m n : List UInt8,Op.bytesLess l m = true → Op.bytesLess m n = true → Op.bytesLess l n = true
 | _,[],_,h,_=>by simp [Op.bytesLess] at h
 | _,_ :: _,[],_,h=>by simp [Op.bytesLess] at h
 | [],_ :: _,_ :: _,_,_=>rfl
 | a :: l,b :: m,c :: n,h,k=>by
  simp only [Op.bytesLess,Bool.or_eq_true,Bool.and_eq_true,decide_eq_true_eq,beq_iff_eq] at h k ⊢
  rcases h with h | ⟨rfl,h⟩
  ·rcases k with k | ⟨rfl,k⟩
   ·exact .inl (UInt8.lt_trans h k)
   ·exact .inl h
  ·rcases k with k | ⟨rfl,k⟩
   ·exact .inl k
   ·exact .inr ⟨rfl,bLt_trans l m n h k⟩
theorem str_toList {a b : Str} : a.toList = b.toList ↔ a = b:=by
 constructor
 ·intro h
  rw [bytes_list,bytes_list] at h
  cases a; cases b
  simp only [ByteArray.mk.injEq]
  exact Array.toList_inj.1 h
 ·rintro rfl; rfl
theorem sLt_irrefl (a : Str) : sLt a a = false:=bLt_irrefl _
theorem sLt_asymm {a b : Str} (h : sLt a b = true) : sLt b a = false:=bLt_asymm _ _ h
theorem sLt_trans {a b c : Str} (h : sLt a b = true) (k : sLt b c = true) : sLt a c = true:=bLt_trans _ _ _ h k
theorem sLt_total {a b : Str} (h : sLt a b = false) (k : sLt b a = false) : a = b:=str_toList.1 (bLt_total _ _ h k)
def sLe (a b : Str) : Bool:=!sLt b a
theorem sLe_trans {a b c : Str} (h : sLe a b = true) (k : sLe b c = true) : sLe a c = true:=by
 simp only [sLe,Bool.not_eq_true'] at h k ⊢
 cases e : sLt c a with
 | false=>rfl
 | true =>
  cases e2 : sLt b c with
  | true=>rw [sLt_trans e2 e] at h; exact h
  | false =>
   have : b = c:=sLt_total e2 k
   subst this
   rw [e] at h; exact h
theorem sLe_antisymm {a b : Str} (h : sLe a b = true) (k : sLe b a = true) : a = b:=by
 simp only [sLe,Bool.not_eq_true'] at h k
 exact sLt_total k h
def Sorted (l : List Str) : Prop:=l.Pairwise fun a b=>sLe a b = true
theorem sorted_unique : ∀ {l m : List Str},Sorted l → Sorted m → l.Perm m → l = m
 | [],m,_,_,p=>(List.Perm.nil_eq p)
 | a :: l,[],_,_,p=>absurd p.length_eq (by simp)
 | a :: l,b :: m,hl,hm,p=>by
  have e : a = b:=by
   have ha : a ∈ b :: m:=p.subset List.mem_cons_self
   have hb : b ∈ a :: l:=p.symm.subset List.mem_cons_self
   rcases List.mem_cons.1 ha with e | ha
   ·exact e
   ·rcases List.mem_cons.1 hb with e | hb
    ·exact e.symm
    ·exact sLe_antisymm ((List.pairwise_cons.1 hl).1 b hb) ((List.pairwise_cons.1 hm).1 a ha)
  subst e
  rw [sorted_unique (List.pairwise_cons.1 hl).2 (List.pairwise_cons.1 hm).2 (List.Perm.cons_inv p)]
def encS (l : List Str) : AV:=.ofList (l.map AV.str)
theorem encS_toList (l : List Str) : (encS l).toList = some (l.map AV.str):=by
 simp only [encS,AV.ofList,AV.toList]
 congr 1
 exact List.ext_getElem (by simp) (by simp)
theorem encS_fits (l : List Str) {n : Nat} (h : n = l.length) : (Ty.arr n tS).fits (encS l) = true:=by
 subst h
 simp [encS,AV.ofList,Ty.fits,tS,LK.fits,AV.safe]
def txt (l : List Str) (i : Nat) : Str:=l.getD i ⟨#[]⟩
@[go_sem] theorem encS_at (l : List Str) {i : Nat} (h : i < l.length) : (encS l).at [i] = some (.str (txt l i)):=by
 simp [encS,AV.ofList,AV.at,h,txt]
theorem txt_set (l : List Str) (i : Nat) (s : Str) (j : Nat) : txt (l.set i s) j = if j = i ∧ i < l.length then s else txt l j:=by
 simp only [txt,List.getD_eq_getElem?_getD,List.getElem?_set]
 by_cases e : i = j
 ·subst e
  by_cases h : i < l.length
  ·simp [h]
  ·simp [h]
 ·have : ¬j = i:=fun h=>e h.symm
  simp [e,this]
theorem txt_get {l : List Str} {i : Nat} (h : i < l.length) : txt l i = l[i]:=by simp [txt,h]
theorem arr_ofList {n : Nat} {f : Fin n → AV} {l : List AV} (hl : l.length = n) (h : ∀ i (hi : i < n),f ⟨i,hi⟩ = l[i]'(by omega)) : AV.arr n f = AV.ofList l:=by
 subst hl
 simp only [AV.ofList]
 congr 1
 funext i
 exact h i.val i.isLt
@[go_sem] theorem encS_put (l : List Str) {i : Nat} (h : i < l.length) (s : Str) : (encS l).put [i] (.str s) = some (encS (l.set i s)):=by
 simp only [encS,AV.ofList,AV.put,List.length_map,h,dite_true,Option.map_some]
 congr 1
 refine arr_ofList (by simp) fun j hj=>?_
 simp only [List.get_eq_getElem,List.getElem_map,List.getElem_set]
 by_cases e : j = i
 ·subst e; simp
 ·have : ¬i = j:=fun h=>e h.symm
  simp [e,this]
def cmpS (a b : Str) : Int:=if sLt a b = true then -1 else if a = b then 0 else 1
theorem cmpS_lt (a b : Str) : (cmpS a b < 0) ↔ sLt a b = true:=by
 unfold cmpS
 split
 ·simp [*]
 ·rename_i h1
  have h2 : sLt a b = false:=by simpa using h1
  split <;> simp [h2]
@[go_sem] theorem evStr_lss (a b : Str) : evStr .lss a b = some (.bool (sLt a b)):=rfl
@[go_sem] theorem evStr_gtr (a b : Str) : evStr .gtr a b = some (.bool (!(sLt a b || decide (a = b)))):=by
 show some (AV.bool (!(Op.bytesLess a.toList b.toList || a.toList == b.toList))) = _
 rw [bytes_eq]; rfl
section
variable {T : Nat → Option MFun} {cx : Cx} {k : List Item} {kill : List Nat} {r : List MOp} {sl : Slots} {own : Own} {h : HP} {Q : St → Prop}
@[go_sem] theorem sidxV_int {t : Ty} {j : Id} {off len : Nat} {z : Int} {kk : IntKind} {L : Id → Option Blk} (h0 : 0 ≤ z) (hm : z < len) : sidxV t (.sl j off len) (.int kk z) L = sidxB t j (off + z.toNat) (L j):=by
 simp only [sidxV,toIx]; rw [if_pos ⟨by omega,by omega⟩]
@[go_sem] theorem toNat_succ (p : Nat) : ((p : Int) + 1).toNat = p + 1:=by omega
theorem W_callvp {prot : Bool} {f : Nat} {x : Opd} {args : List Opd} {d : Option Nat} {fn : MFun} {v : AV} (hx : St.opd ⟨sl,own,h⟩ x = .func f .unit) (hf : T f = some fn) (hp : fn.params = args.length ∧ fn.nfree = 0)
  (hc : Ok T (St.callCx ⟨sl,own,h⟩ cx prot) fn (St.enter (args.map (St.opd ⟨sl,own,h⟩)) (h.push cx.lvl own)) fun v' h'=>v' = v ∧ h' = h.push cx.lvl own)
  (hq : W T cx (.ops r kill :: k) (St.setd ⟨sl,own,h⟩ d v) Q) :
  W T cx (.ops (⟨d,.callv prot [] x args,none⟩ :: r) kill :: k) ⟨sl,own,h⟩ Q:=by
 refine W_call (R:=fun v' h'=>v' = v ∧ h' = h.push cx.lvl own) (cx':=St.callCx ⟨sl,own,h⟩ cx prot) (hide:=[]) (e:=St.enter (args.map (St.opd ⟨sl,own,h⟩)) (h.push cx.lvl own)) (fn:=fn) (d:=d) (k1:=.ops r kill :: k) (s1:=⟨sl,own,h⟩) ?_ hc ?_
 ·simp only [next,St.wanted,opCmd,hx,enterCmd,hf,capList,List.length_map,List.length_nil,List.append_nil,veil_nil]
  rw [if_pos hp]
 ·rintro v' h' ⟨rfl,rfl⟩
  rw [pop_push]; exact hq
@[go_sem] theorem fg_func (f : Nat) (i : Id) : fg (.func f .unit) i = .func f .unit:=by simp [fg,AV.leads,AV.isAgg,AV.names]
@[go_sem] theorem leads_func (f : Nat) (i : Id) : (AV.func f .unit).leads i = false:=by simp [AV.leads,AV.isAgg,AV.names]
end
structure PermIn (l m : List Str) (a b : Nat) : Prop where
 perm : m.Perm l
 out : ∀ i,(i < a ∨ b ≤ i) → txt m i = txt l i
theorem PermIn.refl (l : List Str) (a b : Nat) : PermIn l l a b:=⟨List.Perm.refl _,fun _ _=>rfl⟩
theorem PermIn.len {l m : List Str} {a b : Nat} (h : PermIn l m a b) : m.length = l.length:=h.perm.length_eq
theorem PermIn.trans {l m n : List Str} {a b : Nat} (h : PermIn l m a b) (k : PermIn m n a b) : PermIn l n a b:=⟨k.perm.trans h.perm,fun i hi=>(k.out i hi).trans (h.out i hi)⟩
def swapL (l : List Str) (i j : Nat) : List Str:=(l.set i (txt l j)).set j (txt l i)
theorem txt_swap {l : List Str} {i j : Nat} (hi : i < l.length) (hj : j < l.length) (x : Nat) : txt (swapL l i j) x = if x = j then txt l i else if x = i then txt l j else txt l x:=by
 simp only [swapL,txt_set,List.length_set,hi,hj,and_true]
theorem swap_perm {l : List Str} {i j : Nat} (hi : i < l.length) (hj : j < l.length) : (swapL l i j).Perm l:=by
 rw [swapL,txt_get hi,txt_get hj]
 exact List.set_set_perm hi hj
theorem PermIn.swap {l : List Str} {a b i j : Nat} (hi : i < l.length) (hj : j < l.length) (h1 : a ≤ i ∧ i < b) (h2 : a ≤ j ∧ j < b) : PermIn l (swapL l i j) a b :=
 ⟨swap_perm hi hj,fun x hx=>by
  rw [txt_swap hi hj,if_neg (by omega),if_neg (by omega)]⟩
def SortedIn (l : List Str) (a b : Nat) : Prop:=∀ x y,a ≤ x → x < y → y < b → sLe (txt l x) (txt l y) = true
def SinkIn (l : List Str) (a i j : Nat) : Prop:=(∀ x y,a ≤ x → x < y → y ≤ i → ¬x = j → ¬y = j → sLe (txt l x) (txt l y) = true) ∧ ∀ y,j < y → y ≤ i → sLe (txt l j) (txt l y) = true
theorem sLe_of_lt {a b : Str} (h : sLt a b = true) : sLe a b = true:=by simp [sLe,sLt_asymm h]
theorem SinkIn.start {l : List Str} {a i : Nat} (h : SortedIn l a i) : SinkIn l a i i:=⟨fun x y hx hy hi hxi hyi=>h x y hx hy (by omega),fun y h1 h2=>by omega⟩
theorem SinkIn.step {l : List Str} {a i j : Nat} (h : SinkIn l a i (j + 1)) (hj : a ≤ j) (hi : j + 1 ≤ i) (hl : i < l.length) (hlt : sLt (txt l (j + 1)) (txt l j) = true) : SinkIn (swapL l (j + 1) j) a i j:=by
 have ts:=txt_swap (l:=l) (i:=j + 1) (j:=j) (by omega) (by omega)
 refine ⟨fun x y hx hxy hyi hxj hyj=>?_,fun y hy hyi=>?_⟩
 ·rw [ts x,ts y,if_neg hxj,if_neg hyj]
  by_cases e1 : x = j + 1
  ·rw [if_pos e1,if_neg (by omega)]
   exact h.1 j y hj (by omega) hyi (by omega) (by omega)
  ·rw [if_neg e1]
   by_cases e2 : y = j + 1
   ·rw [if_pos e2]
    exact h.1 x j hx (by omega) (by omega) (by omega) (by omega)
   ·rw [if_neg e2]
    exact h.1 x y hx hxy hyi (by omega) (by omega)
 ·rw [ts j,ts y,if_pos rfl,if_neg (by omega)]
  by_cases e2 : y = j + 1
  ·rw [if_pos e2]; exact sLe_of_lt hlt
  ·rw [if_neg e2]; exact h.2 y (by omega) hyi
theorem SinkIn.low {l : List Str} {a i : Nat} (h : SinkIn l a i a) : SortedIn l a (i + 1):=fun x y hx hxy hy=>by
 by_cases e : x = a
 ·subst e; exact h.2 y hxy (by omega)
 ·exact h.1 x y hx hxy (by omega) e (by omega)
theorem SinkIn.rest {l : List Str} {a i j : Nat} (h : SinkIn l a i (j + 1)) (hj : a ≤ j) (hge : sLt (txt l (j + 1)) (txt l j) = false) : SortedIn l a (i + 1):=fun x y hx hxy hy=>by
 have hle : sLe (txt l j) (txt l (j + 1)) = true:=by simp [sLe,hge]
 by_cases e : x = j + 1
 ·subst e; exact h.2 y hxy (by omega)
 ·by_cases e2 : y = j + 1
  ·subst e2
   by_cases e3 : x = j
   ·subst e3; exact hle
   ·by_cases e4 : j ≤ i
    ·exact sLe_trans (h.1 x j hx (by omega) e4 e (by omega)) hle
    ·omega
  ·exact h.1 x y hx hxy (by omega) e e2
section
variable {cx : Cx} {h : HP}
theorem isNaN_ok {a : Str} : Ok tblE cx Fn.cmp_isNaN (St.enter [.str a] h) fun v h'=>v = .bool false ∧ h' = h:=by
 rw [Ok_eq]
 simp (maxSteps:=999999) (disch:=omega) only [go_sem]
theorem Compare_ok {a b : Str} : Ok tblE cx Fn.cmp_Compare (St.enter [.str a,.str b] h) fun v h'=>v = .int .i64 (cmpS a b) ∧ h' = h:=by
 rw [Ok_eq]
 simp (maxSteps:=999999) (disch:=omega) only [go_sem]
 refine W_callp rfl ⟨rfl,rfl⟩ (by simp only [go_sem]; exact isNaN_ok) ?_
 simp (maxSteps:=999999) (disch:=omega) only [go_sem]
 refine W_callp rfl ⟨rfl,rfl⟩ (by simp only [go_sem]; exact isNaN_ok) ?_
 simp (maxSteps:=999999) (disch:=omega) only [go_sem]
 cases c1 : sLt a b with
 | true=>simp (maxSteps:=999999) (disch:=omega) only [go_sem,c1]; simp [cmpS,c1]
 | false =>
  simp (maxSteps:=999999) (disch:=omega) only [go_sem,c1]
  by_cases c2 : a = b
  ·simp (maxSteps:=999999) (disch:=omega) only [go_sem,c2]
   simp [cmpS,sLt_irrefl]
  ·simp (maxSteps:=999999) (disch:=omega) only [go_sem,c2]
   simp [cmpS,c1,c2]
theorem List1_ok {a b : Str} : Ok tblE cx Fn.soft_Files_List_1 (St.enter [.str a,.str b] h) fun v h'=>v = .int .i64 (cmpS a b) ∧ h' = h:=by
 rw [Ok_eq]
 simp (maxSteps:=999999) (disch:=omega) only [go_sem]
 refine W_callp rfl ⟨rfl,rfl⟩ (by simp only [go_sem]; exact Compare_ok) ?_
 simp (maxSteps:=999999) (disch:=omega) only [go_sem]
def IsCmp (F : Nat) : Prop:=∃ fn : MFun,tblE F = some fn ∧ (fn.params = 2 ∧ fn.nfree = 0) ∧ ∀ (cx : Cx) (h : HP) (a b : Str),Ok tblE cx fn (St.enter [.str a,.str b] h) fun v h'=>v = .int .i64 (cmpS a b) ∧ h' = h
theorem isCmp289 : IsCmp 289:=⟨_,rfl,⟨rfl,rfl⟩,fun _ _ _ _=>List1_ok⟩
theorem insSort_ok {F q n a b : Nat} {l : List Str} (hl : ∀ n,cx.prot.lets (.obj n) = true) (hF : IsCmp F) (hn : l.length = n) (hb : b ≤ n) (hn2 : n ≤ 1000000) (hab : a ≤ b) (hq : h.look (.obj q) = some ⟨.arr n tS,encS l⟩) :
  Ok tblE cx Fn.slices_insertionSortCmpFunc (St.enter [.sl (.obj q) 0 n,.int .i64 a,.int .i64 b,.func F .unit] h) fun v h'=>v = .tup .unit ∧ ∃ m,h' = h.ob q (.arr n tS) (encS m) ∧ PermIn l m a b ∧ SortedIn m a b:=by
 obtain ⟨fn,hf1,hf2,hf3⟩:=hF
 rw [Ok_eq]
 simp (maxSteps:=999999) (disch:=omega) only [go_sem]
 have h0 : h.ob q (.arr n tS) (encS l) = h:=ob_self hq
 refine W_forE (α:=List Str) (b - a) (fun k m=>⟨[(0,.sl (.obj q) 0 n),(1,.int .i64 a),(2,.int .i64 b),(3,.func F .unit),(8,.int .i64 (a + 1 + k : Nat))],[],h.ob q (.arr n tS) (encS m)⟩) (fun k m=>PermIn l m a b ∧ SortedIn m a (a + 1 + k)) l (by simp only [go_sem,h0] <;> rfl) ⟨PermIn.refl _ _ _,fun x y h1 h2 h3=>by omega⟩ fun k m hk hp ih=>?_
 obtain ⟨hp,hs⟩:=hp
 have hm:=hp.len
 by_cases hlt : a + 1 + k < b
 ·simp (maxSteps:=999999) (disch:=omega) only [go_sem,hlt]
  refine W_forE (α:=List Str) (k + 1) (fun j m=>⟨[(0,.sl (.obj q) 0 n),(1,.int .i64 a),(2,.int .i64 b),(3,.func F .unit),(8,.int .i64 (a + 1 + k : Nat)),(9,.int .i64 ((a + 1 + k - j : Nat) : Int))],[],h.ob q (.arr n tS) (encS m)⟩) (fun j m=>PermIn l m a b ∧ SinkIn m a (a + 1 + k) (a + 1 + k - j)) m (by simp only [go_sem] <;> rfl) ⟨hp,SinkIn.start hs⟩ fun j m hj hp ih2=>?_
  obtain ⟨hp,hs⟩:=hp
  have hm:=hp.len
  by_cases hj2 : j < k + 1
  ·obtain ⟨p,hpd⟩ : ∃ p,a + k - j = p:=⟨_,rfl⟩
   have e1 : a + 1 + k - j = p + 1:=by omega
   rw [e1] at hs ⊢
   have e2 : ((p : Int) + 1 - 1) = (p : Int):=by omega
   simp (maxSteps:=999999) (disch:=first | omega | (simp only [List.length_set]; omega)) only [go_sem,e2]
   refine W_callvp (v:=.int .i64 (cmpS (txt m (p + 1)) (txt m p))) (by simp only [go_sem] <;> rfl) hf1 hf2 (by simp only [go_sem]; exact hf3 _ _ _ _) ?_
   simp (maxSteps:=999999) (disch:=first | omega | (simp only [List.length_set]; omega)) only [go_sem]
   cases c : sLt (txt m (p + 1)) (txt m p) with
   | true =>
    have c' : cmpS (txt m (p + 1)) (txt m p) < 0:=(cmpS_lt _ _).2 c
    simp (maxSteps:=999999) (disch:=first | omega | (simp only [List.length_set]; omega)) only [go_sem,c',e2,stV_ob (hl _)]
    refine ih2 _ (swapL m (p + 1) p) hj2 ?_ ⟨hp.trans (PermIn.swap (by omega) (by omega) (by omega) (by omega)),?_⟩
    ·have e3 : a + 1 + k - (j + 1) = p:=by omega
     simp only [go_sem,e3,swapL]
    ·have e3 : a + 1 + k - (j + 1) = p:=by omega
     rw [e3]
     exact hs.step (by omega) (by omega) (by omega) c
   | false =>
    have c' : ¬cmpS (txt m (p + 1)) (txt m p) < 0:=fun e=>by rw [cmpS_lt,c] at e; simp at e
    simp (maxSteps:=999999) (disch:=first | omega | (simp only [List.length_set]; omega)) only [go_sem,c']
    refine ih _ m (by omega) ?_ ⟨hp,?_⟩
    ·simp only [go_sem,Int.add_assoc]
    ·exact hs.rest (by omega) c
  ·obtain rfl : j = k + 1:=by omega
   have e1 : a + 1 + k - (k + 1) = a:=by omega
   rw [e1] at hs ⊢
   simp (maxSteps:=999999) (disch:=first | omega | (simp only [List.length_set]; omega)) only [go_sem]
   refine ih _ m (by omega) ?_ ⟨hp,?_⟩
   ·simp only [go_sem,Int.add_assoc]
   ·exact hs.low
 ·simp (maxSteps:=999999) (disch:=first | omega | (simp only [List.length_set]; omega)) only [go_sem,hlt]
  refine ⟨m,rfl,hp,fun x y h1 h2 h3=>hs x y h1 h2 (by omega)⟩
def lenTab : Str:=⟨#[0,1,2,2,3,3,3,3,4,4,4,4,4,4,4,4,5,5,5,5,5,5,5,5,5,5,5,5,5,5,5,5,6,6,6,6,6,6,6,6,6,6,6,6,6,6,6,6,6,6,6,6,6,6,6,6,6,6,6,6,6,6,6,6,7,7,7,7,7,7,7,7,7,7,7,7,7,7,7,7,7,7,7,7,7,7,7,7,7,7,7,7,7,7,7,7,7,7,7,7,7,7,7,7,7,7,7,7,7,7,7,7,7,7,7,7,7,7,7,7,7,7,7,7,7,7,7,7,8,8,8,8,8,8,8,8,8,8,8,8,8,8,8,8,8,8,8,8,8,8,8,8,8,8,8,8,8,8,8,8,8,8,8,8,8,8,8,8,8,8,8,8,8,8,8,8,8,8,8,8,8,8,8,8,8,8,8,8,8,8,8,8,8,8,8,8,8,8,8,8,8,8,8,8,8,8,8,8,8,8,8,8,8,8,8,8,8,8,8,8,8,8,8,8,8,8,8,8,8,8,8,8,8,8,8,8,8,8,8,8,8,8,8,8,8,8,8,8,8,8,8,8,8,8,8,8]⟩
theorem lenTab_get {x : Nat} (hx : x < 256) : ∃ c : UInt8,lenTab[x]? = some c ∧ c.toNat ≤ 8:=by
 have h : ∀ x : Fin 256,∃ c : UInt8,lenTab[x.val]? = some c ∧ c.toNat ≤ 8:=by
  have : ∀ x : Fin 256,(match lenTab[x.val]? with | some c=>decide (c.toNat ≤ 8) | none=>false) = true:=by decide +kernel
  intro x
  have:=this x
  cases e : lenTab[x.val]? with
  | none=>rw [e] at this; simp at this
  | some c=>rw [e] at this; exact ⟨c,rfl,by simpa using this⟩
 exact h ⟨x,hx⟩
theorem Len64_ok {x : Nat} (hx : x < 256) : Ok tblE cx Fn.math_bits_Len64 (St.enter [.int .u64 x] h) fun v h'=>(∃ z : Int,0 ≤ z ∧ z ≤ 8 ∧ v = .int .i64 z) ∧ h' = h:=by
 obtain ⟨c,hc,hc8⟩:=lenTab_get hx
 have e1 : IntKind.u8.wrap (x : Int) = x:=by
  have e1 : (IntKind.u8).bits = 8:=rfl
  have e2 : (IntKind.u8).signed = false:=rfl
  have p1 : (2 : Int) ^ 8 = 256:=rfl
  simp only [IntKind.wrap,e1,e2,Bool.false_and,Bool.false_eq_true,if_false,p1]
  omega
 have e2 : stridxV (.str lenTab) (.int .u8 (x : Int)) = some (.int .u8 c.toNat):=by
  simp only [stridxV,toIx,Int.toNat_natCast,hc,Option.map_some]
  rw [if_pos (by omega)]
 have e3 : IntKind.i64.wrap (c.toNat : Int) = c.toNat:=wrap64 (by omega) (by omega)
 rw [Ok_eq]
 rw [lenTab] at e2
 simp (maxSteps:=999999) (disch:=omega) only [go_sem,e1,e2,e3]
 exact ⟨_,by omega,by omega,rfl⟩
theorem Len_ok {x : Nat} (hx : x < 256) : Ok tblE cx Fn.math_bits_Len (St.enter [.int .u64 x] h) fun v h'=>(∃ z : Int,0 ≤ z ∧ z ≤ 8 ∧ v = .int .i64 z) ∧ h' = h:=by
 rw [Ok_eq]
 simp (maxSteps:=999999) (disch:=omega) only [go_sem]
 refine W_callhv (P:=fun v=>∃ z : Int,0 ≤ z ∧ z ≤ 8 ∧ v = .int .i64 z) h rfl ⟨rfl,rfl⟩ rfl (by simp only [go_sem]; exact Len64_ok hx) ?_
 rintro v ⟨z,z0,z8,rfl⟩
 simp (maxSteps:=999999) (disch:=omega) only [go_sem]
 exact ⟨_,z0,z8,rfl⟩
def sortS (l : List Str) : List Str:=l.mergeSort sLe
theorem sortS_sorted (l : List Str) : Sorted (sortS l):=List.pairwise_mergeSort (le:=sLe) (fun a b c=>sLe_trans) (fun a b=>by
 cases e : sLt b a with
 | false=>simp [sLe,e]
 | true=>simp [sLe,sLt_asymm e]) l
theorem sortS_perm (l : List Str) : (sortS l).Perm l:=List.mergeSort_perm l sLe
theorem sorted_of {m : List Str} (h : SortedIn m 0 m.length) : Sorted m:=by
 rw [Sorted,List.pairwise_iff_getElem]
 intro i j hi hj hij
 have:=h i j (Nat.zero_le _) hij hj
 rwa [txt_get hi,txt_get hj] at this
theorem sortS_eq {l m : List Str} (hp : m.Perm l) (hs : Sorted m) : m = sortS l:=sorted_unique hs (sortS_sorted l) (hp.trans (sortS_perm l).symm)
theorem pdq_small {F q : Nat} {l : List Str} (hl : ∀ n,cx.prot.lets (.obj n) = true) (hF : IsCmp F) (hn : l.length ≤ 12) (hq : h.look (.obj q) = some ⟨.arr l.length tS,encS l⟩) (z : Int) :
  Ok tblE cx Fn.slices_pdqsortCmpFunc (St.enter [.sl (.obj q) 0 l.length,.int .i64 0,.int .i64 l.length,.int .i64 z,.func F .unit] h) fun v h'=>v = .tup .unit ∧ h' = h.ob q (.arr l.length tS) (encS (sortS l)):=by
 rw [Ok_eq]
 simp (maxSteps:=999999) (disch:=omega) only [go_sem,W_round]
 refine W_callR (R:=fun v h1=>v = .tup .unit ∧ h1 = h.ob q (.arr l.length tS) (encS (sortS l))) rfl ⟨rfl,rfl⟩ (by
  simp only [go_sem]
  refine Ok.mono (insSort_ok (q:=q) (n:=l.length) (a:=0) (b:=l.length) (l:=l) (by exact hl) hF rfl (Nat.le_refl _) (by omega) (Nat.zero_le _) (by simp only [go_sem,hq])) ?_
  rintro v h' ⟨rfl,m,rfl,hp,hs⟩
  have em:=sortS_eq hp.perm (sorted_of (by rw [hp.len]; exact hs))
  subst em
  exact ⟨_,push_ob,rfl,rfl,rfl⟩) ?_
 rintro v h1 ⟨rfl,rfl⟩
 simp (maxSteps:=999999) (disch:=omega) only [go_sem]
theorem Sort_ok {F q : Nat} {l : List Str} (hl : ∀ n,cx.prot.lets (.obj n) = true) (hF : IsCmp F) (hn : l.length ≤ 12) (hq : h.look (.obj q) = some ⟨.arr l.length tS,encS l⟩) :
  Ok tblE cx Fn.slices_SortFunc (St.enter [.sl (.obj q) 0 l.length,.func F .unit] h) fun v h'=>v = .tup .unit ∧ h' = h.ob q (.arr l.length tS) (encS (sortS l)):=by
 have e1 : IntKind.u64.wrap (l.length : Int) = l.length:=by
  have e1 : (IntKind.u64).bits = 64:=rfl
  have e2 : (IntKind.u64).signed = false:=rfl
  have p1 : (2 : Int) ^ 64 = 18446744073709551616:=rfl
  simp only [IntKind.wrap,e1,e2,Bool.false_and,Bool.false_eq_true,if_false,p1]
  omega
 rw [Ok_eq]
 simp (maxSteps:=999999) (disch:=omega) only [go_sem,e1]
 refine W_callhv (P:=fun v=>∃ z : Int,0 ≤ z ∧ z ≤ 8 ∧ v = .int .i64 z) h rfl ⟨rfl,rfl⟩ rfl (by simp only [go_sem]; exact Len_ok (x:=l.length) (by omega)) ?_
 rintro v ⟨z,z0,z8,rfl⟩
 simp (maxSteps:=999999) (disch:=omega) only [go_sem]
 refine W_callh (v:=.tup .unit) (h.ob q (.arr l.length tS) (encS (sortS l))) rfl ⟨rfl,rfl⟩ rfl (by simp only [go_sem]; exact pdq_small (by exact hl) hF hn (by simp only [go_sem,hq]) z) ?_
 simp (maxSteps:=999999) (disch:=omega) only [go_sem]
theorem insNil_ok {F : Nat} : Ok tblE cx Fn.slices_insertionSortCmpFunc (St.enter [.nilsl,.int .i64 0,.int .i64 0,.func F .unit] h) fun v h'=>v = .tup .unit ∧ h' = h:=by
 rw [Ok_eq]
 simp (maxSteps:=999999) (disch:=omega) only [go_sem,W_round]
theorem pdqNil_ok {F : Nat} {z : Int} : Ok tblE cx Fn.slices_pdqsortCmpFunc (St.enter [.nilsl,.int .i64 0,.int .i64 0,.int .i64 z,.func F .unit] h) fun v h'=>v = .tup .unit ∧ h' = h:=by
 rw [Ok_eq]
 simp (maxSteps:=999999) (disch:=omega) only [go_sem,W_round]
 refine W_callp rfl ⟨rfl,rfl⟩ (by simp only [go_sem]; exact insNil_ok) ?_
 simp (maxSteps:=999999) (disch:=omega) only [go_sem]
theorem SortNil_ok {F : Nat} : Ok tblE cx Fn.slices_SortFunc (St.enter [.nilsl,.func F .unit] h) fun v h'=>v = .tup .unit ∧ h' = h:=by
 have e1 : IntKind.u64.wrap 0 = ((0 : Nat) : Int):=by decide +kernel
 rw [Ok_eq]
 simp (maxSteps:=999999) (disch:=omega) only [go_sem,e1]
 refine W_callhv (P:=fun v=>∃ z : Int,0 ≤ z ∧ z ≤ 8 ∧ v = .int .i64 z) h rfl ⟨rfl,rfl⟩ rfl (by simp only [go_sem]; exact Len_ok (x:=0) (by omega)) ?_
 rintro v ⟨z,z0,z8,rfl⟩
 simp (maxSteps:=999999) (disch:=omega) only [go_sem]
 refine W_callp rfl ⟨rfl,rfl⟩ (by simp only [go_sem]; exact pdqNil_ok) ?_
 simp (maxSteps:=999999) (disch:=omega) only [go_sem]
end
def namesL (a : Img) (d : Nat) : Nat → List Str
 | 0=>[]
 | k + 1=>if (a.ent d k).name = ⟨#[]⟩ then namesL a d k else namesL a d k ++ [(a.ent d k).name]
theorem namesL_len (a : Img) (d : Nat) : ∀ k,(namesL a d k).length ≤ k
 | 0=>Nat.le_refl _
 | k + 1=>by
  have:=namesL_len a d k
  unfold namesL
  split
  ·omega
  ·simp; omega
def listOf (a : Img) (d : Int) : List Str:=if d < 0 ∨ 3 ≤ d then [] else sortS (namesL a d.toNat 4)
def HP.dl (h : HP) (q : Nat) : HP:={ h with obj:=fun k=>if k = q then none else h.obj k }
theorem Fr.dl {h h1 : HP} {q : Nat} {S : List Nat} (a : Fr h h1 S) (hq : h.next ≤ q) : Fr h (h1.dl q) S :=
 ⟨a.stk,a.arg,a.next,fun n hn hs=>by
  show (if n = q then none else h1.obj n) = _
  rw [if_neg (by omega)]; exact a.same n hn hs⟩
def SlF (h h1 : HP) (v : AV) (l : List Str) : Prop:=(v = .nilsl ∧ l = []) ∨ ∃ q,v = .sl (.obj q) 0 l.length ∧ h.next ≤ q ∧ q < h1.next ∧ h1.look (.obj q) = some ⟨.arr l.length tS,encS l⟩
section
variable {T : Nat → Option MFun} {cx : Cx} {k : List Item} {kill : List Nat} {r : List MOp} {sl : Slots} {own : Own} {h : HP} {Q : St → Prop}
def WBs (T : Nat → Option MFun) (cx : Cx) (v : AV) (d : Nat) (r : List MOp) (kill : List Nat) (k : List Item) (sl : Slots) (own : Own) (h : HP) (Q : St → Prop) : Prop :=
 onO (fill (.arr 1 tS) (Ty.arr 1 tS).zero [(0,v)]) fun w=>W T cx (.ops r kill :: k) ⟨(Slots.forget sl (.stk cx.lvl d)).set d (.sl (.stk cx.lvl d) 0 1),own.set d ⟨.arr 1 tS,w⟩,h⟩ Q
theorem fill1s (s : Str) : fill (.arr 1 tS) (Ty.arr 1 tS).zero [(0,.str s)] = some (encS [s]):=by
 simp only [fill,Ty.part,Nat.lt_one_iff,if_true,fits_tS,Ty.zero,AV.put,Nat.zero_lt_one,dite_true,put_nil,Option.map_some,encS,AV.ofList]
 congr 2
 funext j
 match j with
 | ⟨0,_⟩=>rfl
@[go_sem] theorem WBs_str {s : Str} {d : Nat} : WBs T cx (.str s) d r kill k sl own h Q = W T cx (.ops r kill :: k) ⟨(Slots.forget sl (.stk cx.lvl d)).set d (.sl (.stk cx.lvl d) 0 1),own.set d ⟨.arr 1 tS,encS [s]⟩,h⟩ Q:=by
 simp only [WBs,fill1s,onO]
@[go_sem] theorem W_bslice1s {d : Nat} {x : Opd} : W T cx (.ops (⟨some d,.bslice false tS 1 [(0,x)],none⟩ :: r) kill :: k) ⟨sl,own,h⟩ Q = WBs T cx (St.opd ⟨sl,own,h⟩ x) d r kill k sl own h Q:=by
 rw [W_op rfl,evOp]
 simp only [evK,WBs,List.map_cons,List.map_nil]
 cases fill (.arr 1 tS) (Ty.arr 1 tS).zero [(0,St.opd ⟨sl,own,h⟩ x)] <;> rfl
def WAs (T : Nat → Option MFun) (cx : Cx) (x : AV) (add : Option (List AV)) (d : Nat) (r : List MOp) (kill : List Nat) (k : List Item) (sl : Slots) (own : Own) (h : HP) (Q : St → Prop) : Prop :=
 onO add fun add=>onO (evAppend (St.look cx ⟨sl,own,h⟩) tS x add) fun e=>onO (applyEff cx (some d) true ⟨sl,own,h⟩ e) fun p=>W T cx (.ops r kill :: k) (p.2.setd (some d) p.1) Q
def elemsS (b : Option Blk) (len : Nat) : Option (List AV):=match b with
 | some ⟨.arr _ t',v⟩=>match v.toList with
   | some l=>if tS = t' ∧ len ≤ l.length then some (l.take len) else none
   | none=>none
 | _=>none
@[go_sem] theorem elems_slS (L : Id → Option Blk) (j : Id) (len : Nat) : elems L tS (.sl j 0 len) = elemsS (L j) len:=by
 simp only [elems,elemsS,Nat.zero_add,List.drop_zero]
 cases L j with
 | none=>rfl
 | some b=>obtain ⟨bt,bv⟩:=b; cases bt <;> rfl
@[go_sem] theorem elemsS_all (l : List Str) (n : Nat) : elemsS (some ⟨.arr n tS,encS l⟩) l.length = some (l.map AV.str):=by
 have : List.take l.length (List.map AV.str l) = List.map AV.str l:=List.take_of_length_le (by simp)
 simp [elemsS,encS_toList,this]
@[go_sem] theorem elemsS_one (s : Str) : elemsS (some ⟨.arr 1 tS,encS [s]⟩) 1 = some [.str s]:=by
 simp [elemsS,encS_toList]
@[go_sem] theorem W_appendS {d : Nat} {x y : Opd} : W T cx (.ops (⟨some d,.append true [] tS x y,none⟩ :: r) kill :: k) ⟨sl,own,h⟩ Q = WAs T cx (St.opd ⟨sl,own,h⟩ x) (elems (St.look cx ⟨sl,own,h⟩) tS (St.opd ⟨sl,own,h⟩ y)) d r kill k sl own h Q:=by
 rw [W_op rfl,evOp]
 simp only [evK,WAs]
 cases elems (St.look cx ⟨sl,own,h⟩) tS (St.opd ⟨sl,own,h⟩ y) with
 | none=>rfl
 | some add =>
  simp only [onO_some]
  cases evAppend (St.look cx ⟨sl,own,h⟩) tS (St.opd ⟨sl,own,h⟩ x) add <;> rfl
@[go_sem] theorem WAs_nil {s : Str} {d : Nat} : WAs T cx .nilsl (some [.str s]) d r kill k sl own h Q =
  W T cx (.ops r kill :: k) ⟨sl.set d (.sl (.obj h.next) 0 1),own,h.nw (.arr 1 tS) (encS [s])⟩ Q:=by
 have hf:=encS_fits [s] (n:=1) rfl
 simp only [WAs,onO_some,evAppend,List.length_cons,List.length_nil,Nat.zero_add]
 rw [if_neg (by omega),if_pos ⟨hf,by omega⟩]
 rfl
theorem WAs_grow {d q : Nat} {s : Str} {l : List Str} (hl : cx.prot.lets (.obj q) = true) (hq : h.look (.obj q) = some ⟨.arr l.length tS,encS l⟩) (hm : l.length + 1 ≤ 1048576) : WAs T cx (.sl (.obj q) 0 l.length) (some [.str s]) d r kill k sl own h Q =
  W T cx (.ops r kill :: k) ⟨sl.set d (.sl (.obj h.next) 0 (l ++ [s]).length),own,(h.dl q).nw (.arr (l ++ [s]).length tS) (encS (l ++ [s]))⟩ Q:=by
 have hf:=encS_fits (l ++ [s]) (n:=l.length + 1) (by simp)
 have e : List.map AV.str (l ++ [s]) = (List.map AV.str l).take l.length ++ [.str s]:=by
  rw [List.map_append,List.take_of_length_le (by simp)]; rfl
 have el : (l ++ [s]).length = l.length + 1:=by simp
 simp only [encS,e] at hf ⊢
 simp only [WAs,onO_some,evAppend,look_obj,hq,encS_toList,List.length_map,List.length_cons,List.length_nil,Nat.zero_add,List.drop_zero,if_true]
 rw [if_neg (by omega),if_pos (by omega),if_pos ⟨hf,hm⟩]
 simp only [onO_some,applyEff,St.drop,Id.own,hl,if_true,Option.map_some,el]
 rfl
end
section
variable {cx : Cx} {h : HP} {f c : Nat} {a b : Img} {st : Int}
theorem List_ok {d : Int} (hl : ∀ n,cx.prot.lets (.obj n) = true) (hF : h.look (.obj f) = some ⟨tFiles,encF c st⟩) (hC : h.look (.obj c) = some ⟨tCache,encC a b⟩) :
  Ok tblE cx Fn.soft_Files_List (St.enter [.ptr (.obj f) [] tFiles,.int .i64 d] h) fun v h'=>Fr h h' [] ∧ SlF h h' v (listOf a d):=by
 rw [Ok_eq]
 simp (maxSteps:=999999) (disch:=omega) only [go_sem]
 by_cases c0 : d < 0
 ·simp (maxSteps:=999999) (disch:=omega) only [go_sem,c0]
  exact ⟨Fr.refl _ _,.inl ⟨rfl,by simp [listOf,c0]⟩⟩
 by_cases c3 : 3 ≤ d
 ·simp (maxSteps:=999999) (disch:=omega) only [go_sem,c0,c3]
  exact ⟨Fr.refl _ _,.inl ⟨rfl,by simp [listOf,c3]⟩⟩
 have d3 : d.toNat < 3:=by omega
 have eL : listOf a d = sortS (namesL a d.toNat 4):=by simp only [listOf]; rw [if_neg (by omega)]
 simp (maxSteps:=999999) (disch:=omega) only [go_sem,c0,c3,hF,hC]
 refine W_forE (α:=AV × HP) 4 (fun k p=>⟨[(5,p.1),(23,encV Ent.enc a.dir[d.toNat]),(24,.int .i64 k)],[],p.2⟩) (fun k p=>Fr h p.2 [] ∧ SlF h p.2 p.1 (namesL a d.toNat k)) (.nilsl,h) (by simp only [go_sem] <;> rfl) ⟨Fr.refl _ _,.inl ⟨rfl,rfl⟩⟩ fun k p hk hp ih=>?_
 obtain ⟨v,h1⟩:=p
 obtain ⟨hr,hs⟩:=hp
 simp only at hr hs ⊢
 have hlen:=namesL_len a d.toNat k
 by_cases hlt : k < 4
 ·by_cases ce : (a.ent d.toNat k).name = ⟨#[]⟩
  ·have en : namesL a d.toNat (k + 1) = namesL a d.toNat k:=by simp [namesL,ce]
   rcases hs with ⟨rfl,hl0⟩ | ⟨q,rfl,hq1,hq2,hq3⟩
   ·simp (maxSteps:=999999) (disch:=omega) only [go_sem,hlt,ce]
    refine ih _ (.nilsl,h1) hlt ?_ ⟨hr,by rw [en]; exact .inl ⟨rfl,hl0⟩⟩
    simp only [go_sem]
   ·simp (maxSteps:=999999) (disch:=omega) only [go_sem,hlt,ce]
    refine ih _ (.sl (.obj q) 0 (namesL a d.toNat k).length,h1) hlt ?_ ⟨hr,by rw [en]; exact .inr ⟨q,rfl,hq1,hq2,hq3⟩⟩
    simp only [go_sem]
  ·have en : namesL a d.toNat (k + 1) = namesL a d.toNat k ++ [(a.ent d.toNat k).name]:=by simp [namesL,ce]
   rcases hs with ⟨rfl,hl0⟩ | ⟨q,rfl,hq1,hq2,hq3⟩
   ·simp (maxSteps:=999999) (disch:=omega) only [go_sem,hlt,ce]
    refine ih _ (.sl (.obj h1.next) 0 1,h1.nw (.arr 1 tS) (encS [(a.ent d.toNat k).name])) hlt ?_ ⟨hr.trans Fr.nw,?_⟩
    ·simp only [go_sem]
    ·rw [en,hl0]
     exact .inr ⟨h1.next,rfl,hr.next,Nat.lt_succ_self _,look_nw⟩
   ·simp (maxSteps:=999999) (disch:=omega) only [go_sem,hlt,ce]
    rw [WAs_grow (hl q) hq3 (by omega)]
    simp (maxSteps:=999999) (disch:=omega) only [go_sem]
    refine ih _ (.sl (.obj h1.next) 0 (namesL a d.toNat k ++ [(a.ent d.toNat k).name]).length,(h1.dl q).nw (.arr (namesL a d.toNat k ++ [(a.ent d.toNat k).name]).length tS) (encS (namesL a d.toNat k ++ [(a.ent d.toNat k).name]))) hlt ?_ ⟨(hr.dl hq1).trans Fr.nw,?_⟩
    ·simp only [go_sem]
    ·rw [en]
     exact .inr ⟨h1.next,rfl,hr.next,Nat.lt_succ_self _,look_nw (h:=h1.dl q)⟩
 ·obtain rfl : k = 4:=by omega
  rcases hs with ⟨rfl,hl0⟩ | ⟨q,rfl,hq1,hq2,hq3⟩
  ·simp (maxSteps:=999999) (disch:=omega) only [go_sem]
   refine W_callp rfl ⟨rfl,rfl⟩ (by simp only [go_sem]; exact SortNil_ok) ?_
   simp (maxSteps:=999999) (disch:=omega) only [go_sem]
   refine ⟨hr,.inl ⟨rfl,?_⟩⟩
   rw [eL,hl0]; simp [sortS]
  ·have ls : (sortS (namesL a d.toNat 4)).length = (namesL a d.toNat 4).length:=(sortS_perm _).length_eq
   simp (maxSteps:=999999) (disch:=omega) only [go_sem]
   refine W_callh (v:=.tup .unit) (h1.ob q (.arr (namesL a d.toNat 4).length tS) (encS (sortS (namesL a d.toNat 4)))) rfl ⟨rfl,rfl⟩ rfl (by simp only [go_sem]; exact Sort_ok (by exact hl) isCmp289 (by omega) (by simp only [go_sem,hq3])) ?_
   simp (maxSteps:=999999) (disch:=omega) only [go_sem]
   refine ⟨⟨hr.stk,hr.arg,hr.next,fun n hn hs=>by rw [obj_ob_ne (by omega)]; exact hr.same n hn hs⟩,.inr ⟨q,?_,hq1,hq2,?_⟩⟩
   ·rw [eL,ls]
   ·rw [eL,ls]; exact look_ob
end
def encSteps (l : List SStep) : AV:=.ofList (l.map SStep.enc)
def stp (l : List SStep) (k : Nat) : SStep:=l.getD k ⟨0,0,0,0,⟨#[]⟩,⟨#[]⟩,⟨#[]⟩⟩
@[go_sem] theorem encSteps_at (l : List SStep) {k : Nat} (h : k < l.length) (p : List Nat) : (encSteps l).at (k :: p) = (stp l k).enc.at p:=by
 simp [encSteps,AV.ofList,AV.at,h,stp]
structure StepsV (h : HP) (v : AV) (l : List SStep) : Prop where
 len : lenV false v = some (.int .i64 l.length)
 fg : ∀ a b,Go.Mini.fg v (.stk a b) = v
 ld : ∀ a b,v.leads (.stk a b) = false
 ix : ∀ k,k < l.length → ∃ n,v = .sl (.arg n) 0 l.length ∧ h.look (.arg n) = some ⟨.arr l.length tStep,encSteps l⟩
theorem StepsV.to {h h' : HP} {v : AV} {l : List SStep} (a : StepsV h v l) (e : h'.arg = h.arg) : StepsV h' v l :=
 ⟨a.len,a.fg,a.ld,fun k hk=>by
  obtain ⟨n,h1,h2⟩:=a.ix k hk
  exact ⟨n,h1,by simp only [HP.look,e] at h2 ⊢; exact h2⟩⟩
theorem StepsV.push {h : HP} {v : AV} {l : List SStep} {a : Nat} {o : Own} (s : StepsV h v l) : StepsV (h.push a o) v l:=s.to rfl
structure SStep.ok (x : SStep) : Prop where
 name : x.name.size ≤ 9223372036854775807
 to : x.to.size ≤ 9223372036854775807
 text : x.text.size ≤ 9223372036854775807
section
variable {T : Nat → Option MFun} {cx : Cx} {k : List Item} {kill : List Nat} {r : List MOp} {sl : Slots} {own : Own} {h : HP} {Q : St → Prop}
def roV (v : AV) (o : Option AV) : Option AV:=match v with
 | .sl j _ _=>if j.isArg = true then o else none
 | .ptr j _ _=>if j.isArg = true then o else none
 | _=>none
@[go_sem] theorem roV_sl (n a b : Nat) (o : Option AV) : roV (.sl (.arg n) a b) o = o:=rfl
@[go_sem] theorem roV_ptr (n : Nat) (p : List Nat) (t : Ty) (o : Option AV) : roV (.ptr (.arg n) p t) o = o:=rfl
@[go_sem] theorem W_sidxT {d : Option Nat} {t : Ty} {x i : Opd} {s : St} : W T cx (.ops (⟨d,.sidx true t x i,none⟩ :: r) kill :: k) s Q = W1 T cx (roV (s.opd x) (sidxV t (s.opd x) (s.opd i) (s.look cx))) d r kill k s Q :=
 W_val rfl (by
  simp only [evK,sidxV,roV]
  cases s.opd x <;> try (simp; done)
  rename_i j off len
  cases toIx (s.opd i) with
  | none=>simp only []; split <;> rfl
  | some z =>
   simp only [true_implies]
   by_cases hj : j.isArg = true
   ·rw [if_pos hj]
    by_cases hz : 0 ≤ z ∧ z < (len : Int)
    ·rw [if_pos ⟨hz.1,hz.2,hj⟩,if_pos hz]
     cases s.look cx j with
     | none=>rfl
     | some b =>
      obtain ⟨bt,bv⟩:=b
      cases bt <;> try rfl
      simp only [sidxB]
      split <;> rfl
    ·rw [if_neg (fun h=>hz ⟨h.1,h.2.1⟩),if_neg hz]; rfl
   ·rw [if_neg (fun h=>hj h.2.2),if_neg hj]; rfl)
@[go_sem] theorem W_loadT {d : Option Nat} {t : Ty} {x : Opd} {s : St} : W T cx (.ops (⟨d,.load true none t x,none⟩ :: r) kill :: k) s Q = W1 T cx (roV (s.opd x) (ldV t (s.opd x) (s.rd cx))) d r kill k s Q :=
 W_val rfl (by
  simp only [evK,roV]
  cases s.opd x <;> simp only [ldV,rooted,true_implies,true_and,and_true,Option.map_none] <;> try rfl
  ·rename_i i p t'
   by_cases hj : i.isArg = true
   ·rw [if_pos hj]
    by_cases ht : t = t'
    ·simp only [ht,hj,and_self,if_true,St.rd]
     cases (s.look cx i).bind fun b=>b.val.at p with
     | none=>rfl
     | some v=>by_cases hf : t'.fits v = true <;> simp [hf]
    ·rw [if_neg (fun h=>ht h.1),if_neg ht]; rfl
   ·rw [if_neg (fun h=>hj h.2),if_neg hj]; rfl
  ·split <;> rfl)
end
def SlX (h : HP) (l : Nat) (v : AV) (m : List Str) : Prop:=(v = .nilsl ∧ m = []) ∨ ∃ i,v = .sl i 0 m.length ∧ i.below l ∧ h.look i = some ⟨.arr m.length tS,encS m⟩
theorem SlF.x {h h1 : HP} {v : AV} {m : List Str} {l : Nat} (a : SlF h h1 v m) : SlX h1 l v m:=by
 rcases a with a | ⟨q,h1,_,_,h2⟩
 ·exact .inl a
 ·exact .inr ⟨.obj q,h1,below_obj _ _,h2⟩
theorem SlX.len {h : HP} {l : Nat} {v : AV} {m : List Str} (a : SlX h l v m) : lenV false v = some (.int .i64 m.length):=by
 rcases a with ⟨rfl,rfl⟩ | ⟨i,rfl,_⟩ <;> rfl
section
variable {cx : Cx} {h : HP}
theorem SameTexts_ok {v w : AV} {l m : List Str} (hv : SlX h cx.lvl v l) (hw : SlX h cx.lvl w m) (hl : l.length ≤ 1000000) :
  Ok tblE cx Fn.r_SameTexts (St.enter [v,w] h) fun x h'=>x = .bool (decide (l = m)) ∧ h' = h:=by
 have h1:=hv.len
 have h2:=hw.len
 rw [Ok_eq]
 simp (maxSteps:=999999) (disch:=omega) only [go_sem,h1,h2]
 by_cases e : l.length = m.length
 rotate_left
 ·have : ¬l = m:=fun h=>e (by rw [h])
  simp (maxSteps:=999999) (disch:=omega) only [go_sem,this]
 simp (maxSteps:=999999) (disch:=omega) only [go_sem,h1,h2]
 refine W_forP l.length (fun k=>⟨[(0,v),(1,w),(5,.int .i64 k)],[],h⟩) (fun k=>∀ i,i < k → txt l i = txt m i) (by simp only [go_sem] <;> rfl) (fun i hi=>by omega) fun k hk hp ih=>?_
 by_cases hlt : k < l.length
 ·have hlt2 : k < m.length:=by omega
  rcases hv with ⟨rfl,rfl⟩ | ⟨i,rfl,hi1,hi2⟩
  ·simp at hlt
  rcases hw with ⟨rfl,rfl⟩ | ⟨j,rfl,hj1,hj2⟩
  ·simp at hlt2
  simp (maxSteps:=999999) (disch:=omega) only [go_sem,hlt,rd_ext hi1,rd_ext hj1,HP.rd,look_ext hi1,look_ext hj1,hi2,hj2]
  by_cases c : txt l k = txt m k
  ·simp (maxSteps:=999999) (disch:=omega) only [go_sem,c]
   refine ih _ hlt (step_all hp c) ?_
   simp only [go_sem]
  ·simp (maxSteps:=999999) (disch:=omega) only [go_sem,c]
   have : ¬l = m:=fun h=>c (by rw [h])
   simp (maxSteps:=999999) (disch:=omega) only [go_sem,this]
 ·obtain rfl : k = l.length:=by omega
  simp (maxSteps:=999999) (disch:=omega) only [go_sem,h1]
  have : l = m:=List.ext_getElem e fun i h1 h2=>by rw [← txt_get h1,← txt_get h2]; exact hp i h1
  simp (maxSteps:=999999) (disch:=omega) only [go_sem,this]
theorem greatStep_ok {x : SStep} : Ok tblE cx Fn.w_greatStep (St.enter [x.enc] h) fun v h'=>(∃ b,v = .bool b) ∧ h' = h:=by
 rw [Ok_eq]
 simp (maxSteps:=999999) (disch:=omega) only [go_sem]
 exact ⟨_,rfl⟩
theorem greatSteps_ok {v : AV} {l : List SStep} (hv : StepsV h v l) : Ok tblE cx Fn.w_greatSteps (St.enter [v] h) fun x h'=>(∃ b,x = .bool b ∧ (b = false → l.length ≤ 200)) ∧ h' = h:=by
 have h1:=hv.len
 rw [Ok_eq]
 simp (maxSteps:=999999) (disch:=omega) only [go_sem]
 refine W_forP l.length (fun k=>⟨[(0,v),(3,.int .i64 k)],[],h⟩) (fun k=>k ≤ 300) (by simp only [go_sem] <;> rfl) (by omega) fun k hk hp ih=>?_
 have fin : ∀ SL : Slots,True:=fun _=>trivial
 by_cases hlt : k < l.length
 ·by_cases h3 : k < 300
  ·obtain ⟨n,rfl,hn⟩:=hv.ix k hlt
   simp (maxSteps:=999999) (disch:=omega) only [go_sem,h1,hlt,h3,hn]
   refine W_callhv (P:=fun v=>∃ b,v = .bool b) h rfl ⟨rfl,rfl⟩ rfl (by simp only [go_sem]; exact greatStep_ok) ?_
   rintro _ ⟨b,rfl⟩
   cases b with
   | true=>simp (maxSteps:=999999) (disch:=omega) only [go_sem]; exact ⟨true,rfl,by simp⟩
   | false =>
    simp (maxSteps:=999999) (disch:=omega) only [go_sem]
    refine ih _ hlt (by omega) ?_
    simp only [go_sem]
  ·simp (maxSteps:=999999) (disch:=omega) only [go_sem,h1,hlt,h3]
   exact ⟨true,rfl,by simp⟩
 ·obtain rfl : k = l.length:=by omega
  simp (maxSteps:=999999) (disch:=omega) only [go_sem,h1]
  exact ⟨_,rfl,by simp; omega⟩
end
def LifeN (h0 h : HP) (p : Nat) (L : Lf) : Prop:=∃ f c,LifeAt h p f c L ∧ (h0.next ≤ p ∧ h0.next ≤ f ∧ h0.next ≤ c) ∧ Fr h0 h []
theorem Fr.since {h h1 h2 : HP} {S : List Nat} (a : Fr h h1 []) (b : Fr h1 h2 S) (hs : ∀ n ∈ S,h.next ≤ n) : Fr h h2 [] :=
 ⟨b.stk.trans a.stk,b.arg.trans a.arg,Nat.le_trans a.next b.next,fun n hn _=>(b.same n (Nat.lt_of_lt_of_le hn a.next) fun e=>absurd hn (Nat.not_lt.2 (hs n e))).trans (a.same n hn (by simp))⟩
theorem LifeN.same {h0 h1 h2 : HP} {p : Nat} {L : Lf} (a : LifeN h0 h1 p L) (b : Fr h1 h2 []) : LifeN h0 h2 p L:=by
 obtain ⟨f,c,hA,hb,hF⟩:=a
 exact ⟨f,c,⟨b.look hA.pn (by simp) hA.li,b.look hA.fn (by simp) hA.fi,b.look hA.cn (by simp) hA.ca,hA.pf,hA.fc,hA.pc,Nat.lt_of_lt_of_le hA.pn b.next,Nat.lt_of_lt_of_le hA.fn b.next,Nat.lt_of_lt_of_le hA.cn b.next⟩,hb,hF.trans b⟩
theorem LifeN.pop {h0 h1 : HP} {p l : Nat} {o : Own} {L : Lf} (a : LifeN (h0.push l o) (h1.push l o) p L) (hs : h1.stk = h0.stk) : LifeN h0 h1 p L:=by
 obtain ⟨f,c,hA,hb,hF⟩:=a
 exact ⟨f,c,hA.pop,hb,⟨hs,hF.arg,hF.next,hF.same⟩⟩
theorem LifeN.push {h0 h1 : HP} {p l : Nat} {o : Own} {L : Lf} (a : LifeN h0 h1 p L) : LifeN (h0.push l o) (h1.push l o) p L:=by
 obtain ⟨f,c,hA,hb,hF⟩:=a
 exact ⟨f,c,hA.push,hb,⟨by simp only [HP.push,hF.stk],hF.arg,hF.next,hF.same⟩⟩
theorem LifeN.stk {h0 h1 : HP} {p : Nat} {L : Lf} (a : LifeN h0 h1 p L) : h1.stk = h0.stk:=by
 obtain ⟨f,c,_,_,hF⟩:=a; exact hF.stk
theorem LifeN.arg {h0 h1 : HP} {p : Nat} {L : Lf} (a : LifeN h0 h1 p L) : h1.arg = h0.arg:=by
 obtain ⟨f,c,_,_,hF⟩:=a; exact hF.arg
@[go_sem] theorem fill_stepA (k : Int) : fill tStep tStep.zero [(0,.int .i64 k)] = some (SStep.enc ⟨k,0,0,0,⟨#[]⟩,⟨#[]⟩,⟨#[]⟩⟩):=rfl
@[go_sem] theorem fill_stepB (k : Int) (s : Str) : fill tStep tStep.zero [(0,.int .i64 k),(4,.str s)] = some (SStep.enc ⟨k,0,0,0,s,⟨#[]⟩,⟨#[]⟩⟩):=rfl
@[go_sem] theorem fill_stepC (k p : Int) : fill tStep tStep.zero [(0,.int .i64 k),(3,.int .i64 p)] = some (SStep.enc ⟨k,0,0,p,⟨#[]⟩,⟨#[]⟩,⟨#[]⟩⟩):=rfl
@[go_sem] theorem fill_lost1 (a : Int) : fill tLost (encLost 0 0 0) [(0,.int .i64 a)] = some (encLost a 0 0):=rfl
theorem SlF.push {h h1 : HP} {v : AV} {m : List Str} {l l' : Nat} {o o' : Own} (a : SlF (h.push l o) (h1.push l' o') v m) : SlF h h1 v m:=a
theorem SlF.xp {h h1 : HP} {v : AV} {m : List Str} {l : Nat} {o : Own} (a : SlF h h1 v m) : SlX (h1.push l o) (l + 1) v m:=by
 rcases a with a | ⟨q,h1,_,_,h2⟩
 ·exact .inl a
 ·exact .inr ⟨.obj q,h1,below_obj _ _,h2⟩
theorem stepOk_short {k d t p : Int} {n : Str} (h : n.size ≤ 100) : SStep.ok ⟨k,d,t,p,n,⟨#[]⟩,⟨#[]⟩⟩:=⟨by show n.size ≤ _; omega,Nat.zero_le _,Nat.zero_le _⟩
def sA : SStep:=⟨1,0,0,0,⟨#[97]⟩,⟨#[]⟩,⟨#[]⟩⟩
structure Ck (m : Img) : Prop where
 en : ∀ d s,d < 3 → s < 4 → m.ent d s = Ent.zero ∨ (¬(m.ent d s).name = ⟨#[]⟩ ∧ isName (m.ent d s).name = true ∧ 0 ≤ (m.ent d s).ino ∧ (m.ent d s).ino < 8 ∧ (m.ino (m.ent d s).ino.toNat).live = true ∧ (m.ino (m.ent d s).ino.toNat).stamp = (m.ent d s).stamp)
 un : ∀ d s t,d < 3 → s < 4 → t < 4 → ¬t = s → ¬(m.ent d s).name = ⟨#[]⟩ → ¬(m.ent d t).name = (m.ent d s).name
 li : ∀ n,n < 8 → (m.ino n).live = true → 1 ≤ (m.ino n).stamp ∧ (refs m n : Int) ≤ (m.ino n).links ∧ ∀ p,p < 2 → (m.ino n).prt p = -1 ∨ (0 ≤ (m.ino n).prt p ∧ (m.ino n).prt p < 9 ∧ (m.dat ((m.ino n).prt p).toNat).of = (m.ino n).stamp)
 de : ∀ n,n < 8 → (m.ino n).live = false → m.ino n = Ino.none
 st : ∀ n k,n < 8 → k < 8 → ¬n = k → (m.ino n).live = true → (m.ino k).live = true → ¬(m.ino n).stamp = (m.ino k).stamp
 pt : ∀ n k p q,n < 8 → k < 8 → p < 2 → q < 2 → (m.ino n).live = true → (m.ino k).live = true → 0 ≤ (m.ino n).prt p → (m.ino n).prt p = (m.ino k).prt q → n = k ∧ p = q
theorem Ck.of {m : Img} (hc : check m = 0) : Ck m:=by
 obtain ⟨h1,h2,h3⟩:=check_parts hc
 have h3' : ∀ n k,n < 8 → k < 8 → pairBad m n k = false:=by
  intro n k hn hk
  cases e : pairBad m n k with
  | false=>rfl
  | true=>rw [twice_at hn hk e] at h3; exact absurd h3 (by simp)
 refine ⟨fun d s hd hs=>?_,fun d s t hd hs ht hne hnm heq=>?_,fun n hn hl=>?_,fun n hn hl=>dead_none hc hn hl,fun n k hn hk hne hl hl' heq=>?_,fun n k p q hn hk hp hq hl hl' h0 heq=>?_⟩
 ·rcases entry_parts (h1 d hd s hs) with e | ⟨a1,a2,_,a4⟩
  ·exact .inl e
  ·exact .inr ⟨a1,a2,a4⟩
 ·rcases Nat.lt_or_ge t s with h | h
  ·rcases entry_parts (h1 d hd s hs) with e | ⟨_,_,a3,_⟩
   ·rw [e] at hnm; exact hnm rfl
   ·have:=anyN_false.1 a3 t h; simp [heq] at this
  ·rcases entry_parts (h1 d hd t ht) with e | ⟨_,_,a3,_⟩
   ·rw [← heq,e] at hnm; exact hnm rfl
   ·have:=anyN_false.1 a3 s (by omega); simp [heq] at this
 ·obtain ⟨a1,a2,a3⟩:=ino_parts hc hn hl
  exact ⟨a1,a2,fun p hp=>part_dat (a3 p hp)⟩
 ·have:=h3' n k hn hk
  simp [pairBad,hl,hl',hne,heq] at this
 ·have:=h3' n k hn hk
  simp only [pairBad,hl,hl',Bool.true_and,Bool.or_eq_false_iff] at this
  have:=anyN_false.1 (anyN_false.1 this.2 p hp) q hq
  simp only [partBad,h0,heq,decide_true,Bool.and_true] at this
  have h0' : 0 ≤ (m.ino k).prt q:=by rw [← heq]; exact h0
  simp [h0'] at this
  exact this
theorem Ck.check {m : Img} (h : Ck m) : check m = 0:=by
 refine check_of (fun d hd s hs=>?_) (fun n hn=>?_) ?_
 ·rcases h.en d s hd hs with e | ⟨a1,a2,a4,a5,a6,a7⟩
  ·simp [entryFault,e,show Ent.zero.name = ⟨#[]⟩ from rfl]
  ·exact entry_of a1 a2 (anyN_false.2 fun k hk=>by simpa using h.un d s k hd hs (by omega) (by omega) a1) a4 a5 a6 a7
 ·cases hl : (m.ino n).live with
  | true =>
   obtain ⟨a1,a2,a3⟩:=h.li n hn hl
   exact inoFault_of hl a1 a2 fun p hp=>partFault_of (a3 p hp)
  | false=>exact inoFault_dead (h.de n hn hl)
 ·rw [← twiceR_eq]
  refine anyN_false.2 fun n hn=>anyN_false.2 fun k hk=>?_
  cases hl : (m.ino n).live with
  | false=>simp [pairBad,hl]
  | true =>
   cases hl' : (m.ino k).live with
   | false=>simp [pairBad,hl']
   | true =>
    simp only [pairBad,hl,hl',Bool.true_and,Bool.or_eq_false_iff]
    refine ⟨?_,anyN_false.2 fun p hp=>anyN_false.2 fun q hq=>?_⟩
    ·by_cases e : n = k
     ·simp [e]
     ·simp [h.st n k hn hk e hl hl']
    ·by_cases h0 : 0 ≤ (m.ino n).prt p
     ·by_cases he : (m.ino n).prt p = (m.ino k).prt q
      ·obtain ⟨rfl,rfl⟩:=h.pt n k p q hn hk hp hq hl hl' h0 he
       simp [partBad]
      ·simp [partBad,he]
     ·simp [partBad,h0]
structure Ex1 (m : Img) (o : Nat) : Prop where
 ck : Ck m
 ln : ∀ n,n < 8 → (m.ino n).live = true → (m.ino n).links = refs m n
 rf : ∀ n,n < 8 → ¬n = o → (m.ino n).live = true → ¬refs m n = 0
theorem Ex1.of {m : Img} (h : exact m = true) (o : Nat) : Ex1 m o:=by
 obtain ⟨hc,hx⟩:=exact_parts h
 exact ⟨.of hc,fun n hn hl=>(hx n hn hl).2,fun n hn _ hl=>(hx n hn hl).1⟩
theorem exact_of {m : Img} (hc : Ck m) (h : ∀ n,n < 8 → (m.ino n).live = true → ¬refs m n = 0 ∧ (m.ino n).links = refs m n) : exact m = true:=by
 simp only [exact,hc.check,decide_true,Bool.and_true,Bool.not_eq_true']
 refine anyN_false.2 fun n hn=>?_
 cases hl : (m.ino n).live with
 | false=>simp
 | true=>obtain ⟨a,b⟩:=h n hn hl; simp [a,b]
theorem refs_other {m : Img} {d s : Nat} {y : Ent} (hd : d < 3) (hs : s < 4) (hn : (m.ent d s).name = ⟨#[]⟩) (i : Int) : refs (m.setEnt d s y) i = refs m i + b2n (leadsE y i):=by
 have:=refs_set (m:=m) (y:=y) hd hs i
 have e : leads m d s i = false:=by simp [leads,hn]
 rw [e] at this
 simpa [b2n] using this.symm
theorem refs_setIno (m : Img) (n : Nat) (y : Ino) (i : Int) : refs (m.setIno n y) i = refs m i:=rfl
theorem slot_none {m : Img} {d : Int} {s : Str} (d0 : 0 ≤ d) (d3 : d < 3) (hs : ¬s = ⟨#[]⟩) (h : slotOf m d s < 0) : ∀ t,t < 4 → ¬(m.ent d.toNat t).name = s:=by
 rcases slotOf_cases m d s with e | ⟨k,_,e,_⟩
 ·unfold slotOf at e
  rw [if_neg (by simp only [not_or]; exact ⟨by omega,by omega,hs⟩)] at e
  intro t ht
  have:=findN_neg e t ht
  simpa using this
 ·omega
theorem isName_ne {s : Str} (h : isName s = true) : ¬s = ⟨#[]⟩:=by
 simp [isName] at h; exact h.1.1
theorem exact_add {m : Img} {d k n : Nat} {name : Str} (h : Ex1 m n) (hd : d < 3) (hk : k < 4) (hn : n < 8) (hl : (m.ino n).live = true) (he : (m.ent d k).name = ⟨#[]⟩) (hname : isName name = true)
  (hu : ∀ t,t < 4 → ¬(m.ent d t).name = name) : exact (addName m d k name n) = true:=by
 have hne:=isName_ne hname
 have l12:=refs_le m n
 have hw : IntKind.i64.wrap ((m.ino n).links + 1) = (m.ino n).links + 1:=by rw [h.ln n hn hl]; exact wrap64 (by omega) (by omega)
 have hent:=ent_addName m d k name n
 have hino : ∀ j,j < 8 → (addName m d k name n).ino j = if n = j then { m.ino n with links:=(m.ino n).links + 1 } else m.ino j:=fun j hj=>by
  simp only [addName,ino_setIno,ino_setEnt,hw,hj,and_true]
 have hdat : ∀ x,(addName m d k name n).dat x = m.dat x:=fun x=>by simp only [addName,dat_setIno,dat_setEnt]
 have hlv : ∀ j,j < 8 → ((addName m d k name n).ino j).live = (m.ino j).live ∧ ((addName m d k name n).ino j).stamp = (m.ino j).stamp ∧ ∀ p,((addName m d k name n).ino j).prt p = (m.ino j).prt p:=fun j hj=>by
  rw [hino j hj]
  split
  ·rename_i e; subst e; exact ⟨rfl,rfl,fun p=>rfl⟩
  ·exact ⟨rfl,rfl,fun _=>rfl⟩
 have hrf : ∀ i : Int,refs (addName m d k name n) i = refs m i + b2n (decide ((n : Int) = i)):=fun i=>by
  rw [addName,refs_setIno,refs_other hd hk he]
  simp [leadsE,hne]
 generalize addName m d k name n = X at *
 refine exact_of ⟨fun d' s' hd' hs'=>?_,fun d' s' t' hd' hs' ht' hne' hnm=>?_,fun j hj hlj=>?_,fun j hj hlj=>?_,fun i j hi hj hne' h1 h2=>?_,fun i j p q hi hj hp hq h1 h2 h0 heq=>?_⟩ fun j hj hlj=>?_
 ·rw [hent]
  split
  ·right
   dsimp only
   refine ⟨hne,hname,by omega,by omega,?_,?_⟩
   ·rw [Int.toNat_natCast,(hlv n hn).1]; exact hl
   ·rw [Int.toNat_natCast]; exact (hlv n hn).2.1
  ·rcases h.ck.en d' s' hd' hs' with e | ⟨a1,a2,a4,a5,a6,a7⟩
   ·exact .inl e
   ·have hb : (m.ent d' s').ino.toNat < 8:=by omega
    exact .inr ⟨a1,a2,a4,a5,by rw [(hlv _ hb).1]; exact a6,by rw [(hlv _ hb).2.1]; exact a7⟩
 ·rw [hent,hent] at *
  by_cases c1 : (d = d' ∧ k = t') ∧ d' < 3 ∧ t' < 4
  ·rw [if_pos c1]
   by_cases c2 : (d = d' ∧ k = s') ∧ d' < 3 ∧ s' < 4
   ·exact absurd (c1.1.2.symm.trans c2.1.2) hne'
   ·rw [if_neg c2]
    have:=hu s' hs'
    rw [c1.1.1] at this
    exact fun e=>this e.symm
  ·rw [if_neg c1]
   by_cases c2 : (d = d' ∧ k = s') ∧ d' < 3 ∧ s' < 4
   ·rw [if_pos c2]
    have:=hu t' ht'
    rw [c2.1.1] at this
    exact this
   ·rw [if_neg c2] at hnm ⊢
    exact h.ck.un d' s' t' hd' hs' ht' hne' hnm
 ·obtain ⟨e1,e2,e3⟩:=hlv j hj
  rw [e1] at hlj
  obtain ⟨a1,a2,a3⟩:=h.ck.li j hj hlj
  refine ⟨by rw [e2]; exact a1,?_,fun p hp=>?_⟩
  ·rw [hrf,hino j hj]
   by_cases c : n = j
   ·subst c; simp [b2n]; omega
   ·have : ¬((n : Int) = (j : Int)):=by omega
    simp [b2n,c,this]; omega
  ·rw [e3,e2,hdat]; exact a3 p hp
 ·obtain ⟨e1,_⟩:=hlv j hj
  rw [e1] at hlj
  rw [hino j hj,if_neg (by rintro rfl; rw [hl] at hlj; simp at hlj)]
  exact h.ck.de j hj hlj
 ·obtain ⟨e1,e2,_⟩:=hlv i hi
  obtain ⟨f1,f2,_⟩:=hlv j hj
  rw [e1] at h1; rw [f1] at h2; rw [e2,f2]
  exact h.ck.st i j hi hj hne' h1 h2
 ·obtain ⟨e1,_,e3⟩:=hlv i hi
  obtain ⟨f1,_,f3⟩:=hlv j hj
  rw [e1] at h1; rw [f1] at h2; rw [e3] at h0; rw [e3,f3] at heq
  exact h.ck.pt i j p q hi hj hp hq h1 h2 h0 heq
 ·obtain ⟨e1,_⟩:=hlv j hj
  rw [e1] at hlj
  have hlk:=h.ln j hj hlj
  rw [hrf,hino j hj]
  by_cases c : n = j
  ·subst c; simp [b2n]; omega
  ·have h1 : ¬((n : Int) = (j : Int)):=by omega
   have:=h.rf j hj (fun e=>c e.symm) hlj
   simp [b2n,c,h1]; omega
theorem exact_leave {m : Img} {d s : Nat} (h : exact m = true) (hd : d < 3) (hs : s < 4) (hnm : ¬(m.ent d s).name = ⟨#[]⟩) : exact (dropName m d s) = true:=by
 obtain ⟨hc0,hx⟩:=exact_parts h
 have hc:=Ck.of hc0
 rcases hc.en d s hd hs with e | ⟨_,_,i0,i8,hl,hst⟩
 ·rw [e] at hnm; exact absurd rfl hnm
 obtain ⟨n,hn⟩ : ∃ n : Nat,(m.ent d s).ino = n:=⟨(m.ent d s).ino.toNat,by omega⟩
 have n8 : n < 8:=by omega
 have en : (m.ent d s).ino.toNat = n:=by omega
 rw [en] at hl hst
 have hrf : ∀ i : Int,refs (m.setEnt d s .zero) i + b2n (leads m d s i) = refs m i:=fun i=>(refs_drop hd hs i).symm
 have hdr : ∀ i : Int,leads m d s i = decide ((n : Int) = i):=fun i=>by simp [leads,hnm,hn]
 have r12:=refs_le m n
 obtain ⟨hr0,hlk⟩:=hx n n8 hl
 have hw : IntKind.i64.wrap ((m.ino n).links - 1) = (m.ino n).links - 1:=by rw [hlk]; exact wrap64 (by omega) (by omega)
 have hself:=hrf n
 rw [hdr n] at hself
 simp [b2n] at hself

 have key : ∃ X : Img,dropName m d s = X ∧ (∀ d' s',X.ent d' s' = if d = d' ∧ s = s' then Ent.zero else m.ent d' s') ∧ (∀ x,X.dat x = m.dat x) ∧ (∀ i : Int,refs X i + b2n (decide ((n : Int) = i)) = refs m i) ∧
   (∀ j,j < 8 → ¬n = j → X.ino j = m.ino j) ∧ ((refs X n = 0 ∧ X.ino n = Ino.none) ∨ (¬refs X n = 0 ∧ X.ino n = { m.ino n with links:=(m.ino n).links - 1 })):=by
  refine ⟨_,rfl,?_⟩
  unfold dropName
  simp only [en,hw]
  by_cases c : (m.ino n).links - 1 = 0
  ·rw [if_pos c]
   refine ⟨fun d' s'=>by rw [ent_setIno,ent_drop hd hs],fun x=>by simp only [dat_setIno,dat_setEnt],fun i=>by rw [refs_setIno,← hdr]; exact hrf i,fun j hj hne=>by rw [ino_setIno,if_neg (fun h=>hne h.1),ino_setEnt],.inl ⟨?_,?_⟩⟩
   ·rw [refs_setIno]; omega
   ·rw [ino_setIno,if_pos ⟨rfl,n8⟩]
  ·rw [if_neg c]
   refine ⟨fun d' s'=>by rw [ent_setIno,ent_drop hd hs],fun x=>by simp only [dat_setIno,dat_setEnt],fun i=>by rw [refs_setIno,← hdr]; exact hrf i,fun j hj hne=>by rw [ino_setIno,if_neg (fun h=>hne h.1),ino_setEnt],.inr ⟨?_,?_⟩⟩
   ·rw [refs_setIno]; omega
   ·rw [ino_setIno,if_pos ⟨rfl,n8⟩]
 obtain ⟨X,hX,hent,hdat,href,hoth,hthis⟩:=key
 rw [hX]

 have hlv : ∀ j,j < 8 → (X.ino j).live = true → (m.ino j).live = true ∧ (X.ino j).stamp = (m.ino j).stamp ∧ (∀ p,(X.ino j).prt p = (m.ino j).prt p) ∧ (X.ino j).links = refs X j ∧ ¬refs X j = 0:=fun j hj hl'=>by
  by_cases c : n = j
  ·subst c
   rcases hthis with ⟨_,e⟩ | ⟨e0,e⟩
   ·rw [e] at hl'; exact absurd hl' (by decide)
   ·refine ⟨hl,by rw [e],fun p=>by rw [e]; exact prt_with _ _ _,?_,e0⟩
    rw [e]
    have:=href n
    simp [b2n] at this
    show (m.ino n).links - 1 = _
    omega
  ·rw [hoth j hj c] at hl' ⊢
   obtain ⟨a1,a2⟩:=hx j hj hl'
   have:=href j
   have h1 : ¬((n : Int) = (j : Int)):=by omega
   simp [b2n,h1] at this
   exact ⟨hl',rfl,fun _=>rfl,by omega,by omega⟩
 refine exact_of ⟨fun d' s' hd' hs'=>?_,fun d' s' t' hd' hs' ht' hne' hnm'=>?_,fun j hj hlj=>?_,fun j hj hlj=>?_,fun i j hi hj hne' h1 h2=>?_,fun i j p q hi hj hp hq h1 h2 h0 heq=>?_⟩ fun j hj hlj=>⟨(hlv j hj hlj).2.2.2.2,(hlv j hj hlj).2.2.2.1⟩
 ·rw [hent]
  split
  ·exact .inl rfl
  ·rename_i hne
   rcases hc.en d' s' hd' hs' with e | ⟨a1,a2,a4,a5,a6,a7⟩
   ·exact .inl e
   ·right
    have hb : (m.ent d' s').ino.toNat < 8:=by omega
    by_cases c : n = (m.ent d' s').ino.toNat
    ·rcases hthis with ⟨e0,_⟩ | ⟨_,e⟩
     ·exfalso
      have hl1 : leads X d' s' n = true:=by
       simp only [leads]
       rw [hent,if_neg hne]
       have : (m.ent d' s').ino = (n : Int):=by omega
       simp [a1,this]
      have:=refs_pos hd' hs' hl1
      omega
     ·exact ⟨a1,a2,a4,a5,by rw [← c,e]; exact hl,by rw [← c,e]; show (m.ino n).stamp = _; rw [c]; exact a7⟩
    ·exact ⟨a1,a2,a4,a5,by rw [hoth _ hb c]; exact a6,by rw [hoth _ hb c]; exact a7⟩
 ·rw [hent,hent] at *
  by_cases c1 : d = d' ∧ s = t'
  ·rw [if_pos c1]
   by_cases c2 : d = d' ∧ s = s'
   ·rw [if_pos c2] at hnm'; exact absurd rfl hnm'
   ·rw [if_neg c2] at hnm' ⊢
    exact fun e=>hnm' (by rw [← e]; rfl)
  ·rw [if_neg c1]
   by_cases c2 : d = d' ∧ s = s'
   ·rw [if_pos c2] at hnm'; exact absurd rfl hnm'
   ·rw [if_neg c2] at hnm' ⊢
    exact hc.un d' s' t' hd' hs' ht' hne' hnm'
 ·obtain ⟨e1,e2,e3,e4,e5⟩:=hlv j hj hlj
  obtain ⟨a1,a2,a3⟩:=hc.li j hj e1
  exact ⟨by rw [e2]; exact a1,by rw [e4]; exact Int.le_refl _,fun p hp=>by rw [e3,e2,hdat]; exact a3 p hp⟩
 ·by_cases c : n = j
  ·subst c
   rcases hthis with ⟨_,e⟩ | ⟨_,e⟩
   ·exact e
   ·rw [e] at hlj; rw [show ({ m.ino n with links:=(m.ino n).links - 1 } : Ino).live = (m.ino n).live from rfl,hl] at hlj; exact absurd hlj (by simp)
  ·rw [hoth j hj c] at hlj ⊢; exact hc.de j hj hlj
 ·obtain ⟨e1,e2,_⟩:=hlv i hi h1
  obtain ⟨f1,f2,_⟩:=hlv j hj h2
  rw [e2,f2]
  exact hc.st i j hi hj hne' e1 f1
 ·obtain ⟨e1,_,e3,_⟩:=hlv i hi h1
  obtain ⟨f1,_,f3,_⟩:=hlv j hj h2
  rw [e3] at h0; rw [e3,f3] at heq
  exact hc.pt i j p q hi hj hp hq e1 f1 h0 heq
theorem ex1_new {m : Img} {n : Nat} {st : Int} (h : exact m = true) (n8 : n < 8) (hd : (m.ino n).live = false) (hs : 1 ≤ st) (hmax : ∀ j,j < 8 → (m.ino j).live = true → (m.ino j).stamp < st) : Ex1 (m.setIno n (newIno st)) n:=by
 obtain ⟨hc0,hx⟩:=exact_parts h
 have hc:=Ck.of hc0
 have r0:=dead_refs hc0 n8 hd
 have hino : ∀ j,j < 8 → (m.setIno n (newIno st)).ino j = if n = j then newIno st else m.ino j:=fun j hj=>by rw [ino_setIno]; simp [hj]
 have hp1 : ∀ p,p < 2 → (newIno st).prt p = -1:=fun p hp=>by rw [prt_new]; simp [Ino.prt,Ino.none,hp]
 refine ⟨⟨fun d' s' hd' hs'=>?_,hc.un,fun j hj hlj=>?_,fun j hj hlj=>?_,fun i j hi hj hne' h1 h2=>?_,fun i j p q hi hj hp hq h1 h2 h0 heq=>?_⟩,fun j hj hlj=>?_,fun j hj hne hlj=>?_⟩
 ·rw [ent_setIno]
  rcases hc.en d' s' hd' hs' with e | ⟨a1,a2,a4,a5,a6,a7⟩
  ·exact .inl e
  ·have hb : (m.ent d' s').ino.toNat < 8:=by omega
   have hne : ¬n = (m.ent d' s').ino.toNat:=by rintro e; rw [← e,hd] at a6; exact absurd a6 (by simp)
   exact .inr ⟨a1,a2,a4,a5,by rw [hino _ hb,if_neg hne]; exact a6,by rw [hino _ hb,if_neg hne]; exact a7⟩
 ·rw [refs_setIno]
  rw [hino j hj] at hlj ⊢
  split at hlj
  ·rename_i e
   subst e
   rw [if_pos rfl,r0]
   exact ⟨hs,Int.le_refl _,fun p hp=>.inl (hp1 p hp)⟩
  ·rename_i e; rw [if_neg e]; exact hc.li j hj hlj
 ·rw [hino j hj] at hlj ⊢
  split at hlj
  ·exact absurd hlj (by simp [newIno])
  ·rename_i e; rw [if_neg e]; exact hc.de j hj hlj
 ·rw [hino i hi] at h1 ⊢; rw [hino j hj] at h2 ⊢
  split at h1 <;> split at h2
  ·omega
  ·rename_i e1 e2; rw [if_pos e1,if_neg e2]; have:=hmax j hj h2; show ¬st = _; omega
  ·rename_i e1 e2; rw [if_neg e1,if_pos e2]; have:=hmax i hi h1; show ¬_ = st; omega
  ·rename_i e1 e2; rw [if_neg e1,if_neg e2]; exact hc.st i j hi hj hne' h1 h2
 ·rw [hino i hi] at h1 h0 heq; rw [hino j hj] at h2 heq
  by_cases e1 : n = i
  ·rw [if_pos e1,hp1 p hp] at h0; omega
  ·rw [if_neg e1] at h1 h0 heq
   by_cases e2 : n = j
   ·rw [if_pos e2,hp1 q hq] at heq; omega
   ·rw [if_neg e2] at h2 heq
    exact hc.pt i j p q hi hj hp hq h1 h2 h0 heq
 ·rw [refs_setIno]
  rw [hino j hj] at hlj ⊢
  split at hlj
  ·rename_i e; subst e; rw [if_pos rfl,r0]; rfl
  ·rename_i e; rw [if_neg e]; exact (hx j hj hlj).2
 ·rw [refs_setIno]
  rw [hino j hj] at hlj
  rw [if_neg (fun e=>hne e.symm)] at hlj
  exact (hx j hj hlj).1
theorem exact_part {m : Img} {n p : Nat} {x : Int} {y : Dat} (h : exact m = true) (n8 : n < 8) (p2 : p < 2) (hl : (m.ino n).live = true) (hx : x = -1 ∨ (0 ≤ x ∧ x < 9 ∧ y.of = (m.ino n).stamp ∧ ∀ k q,k < 8 → q < 2 → (m.ino k).live = true → (m.ino k).prt q = x → k = n ∧ q = p)) :
  exact (if x = -1 then m.setIno n ((m.ino n).setPrt p x) else (m.setIno n ((m.ino n).setPrt p x)).setDat x.toNat y) = true:=by
 obtain ⟨hc0,hxx⟩:=exact_parts h
 have hc:=Ck.of hc0
 obtain ⟨X,hX,hent,hino,hdat⟩ : ∃ X : Img,(if x = -1 then m.setIno n ((m.ino n).setPrt p x) else (m.setIno n ((m.ino n).setPrt p x)).setDat x.toNat y) = X ∧ (∀ d s,X.ent d s = m.ent d s) ∧ (∀ j,j < 8 → X.ino j = if n = j then (m.ino n).setPrt p x else m.ino j) ∧
   (∀ z : Nat,z < 9 → X.dat z = if x = z then y else m.dat z):=by
  refine ⟨_,rfl,?_⟩
  by_cases e : x = -1
  ·rw [if_pos e]
   exact ⟨fun _ _=>rfl,fun j hj=>by rw [ino_setIno]; simp [hj],fun z hz=>by rw [dat_setIno,if_neg (by omega)]⟩
  ·rw [if_neg e]
   refine ⟨fun _ _=>rfl,fun j hj=>by rw [ino_setDat,ino_setIno]; simp [hj],fun z hz=>?_⟩
   rw [dat_setDat,dat_setIno]
   have : (x.toNat = z ∧ z < 9) = (x = z):=by apply propext; constructor <;> intro h <;> omega
   simp only [this]
 rw [hX]
 have hrf : ∀ i : Int,refs X i = refs m i:=fun i=>refs_congr hent i
 have hlv : ∀ j,j < 8 → (X.ino j).live = (m.ino j).live ∧ (X.ino j).stamp = (m.ino j).stamp ∧ (X.ino j).links = (m.ino j).links:=fun j hj=>by
  rw [hino j hj]; split
  ·rename_i e; subst e; exact ⟨rfl,rfl,rfl⟩
  ·exact ⟨rfl,rfl,rfl⟩
 have hprt : ∀ j q,j < 8 → q < 2 → (X.ino j).prt q = if n = j ∧ p = q then x else (m.ino j).prt q:=fun j q hj hq=>by
  rw [hino j hj]
  by_cases e : n = j
  ·subst e; rw [if_pos rfl,prt_setPrt]; simp [hq]
  ·rw [if_neg e,if_neg (fun h=>e h.1)]
 refine exact_of ⟨fun d' s' hd' hs'=>?_,fun d' s' t' hd' hs' ht' hne' hnm'=>?_,fun j hj hlj=>?_,fun j hj hlj=>?_,fun i j hi hj hne' h1 h2=>?_,fun i j p' q' hi hj hp hq h1 h2 h0 heq=>?_⟩ fun j hj hlj=>?_
 ·rw [hent]
  rcases hc.en d' s' hd' hs' with e | ⟨a1,a2,a4,a5,a6,a7⟩
  ·exact .inl e
  ·have hb : (m.ent d' s').ino.toNat < 8:=by omega
   exact .inr ⟨a1,a2,a4,a5,by rw [(hlv _ hb).1]; exact a6,by rw [(hlv _ hb).2.1]; exact a7⟩
 ·rw [hent,hent] at *; exact hc.un d' s' t' hd' hs' ht' hne' hnm'
 ·obtain ⟨e1,e2,e3⟩:=hlv j hj
  rw [e1] at hlj
  obtain ⟨a1,a2,a3⟩:=hc.li j hj hlj
  refine ⟨by rw [e2]; exact a1,by rw [e3,hrf]; exact a2,fun q hq=>?_⟩
  rw [hprt j q hj hq,e2]
  split
  ·rename_i e
   obtain ⟨rfl,rfl⟩:=e
   rcases hx with hx | ⟨x0,x9,hof,_⟩
   ·exact .inl hx
   ·right
    refine ⟨x0,x9,?_⟩
    rw [hdat _ (by omega),if_pos (by omega)]
    exact hof
  ·rename_i e
   rcases a3 q hq with a | ⟨a,b,c⟩
   ·exact .inl a
   ·right
    refine ⟨a,b,?_⟩
    rw [hdat _ (by omega)]
    split
    ·rename_i e'
     rcases hx with hx | ⟨x0,x9,hof,hun⟩
     ·omega
     ·obtain ⟨rfl,rfl⟩:=hun j q hj hq hlj (by omega)
      exact absurd ⟨rfl,rfl⟩ e
    ·exact c
 ·obtain ⟨e1,_⟩:=hlv j hj
  rw [e1] at hlj
  rw [hino j hj,if_neg (by rintro rfl; rw [hl] at hlj; exact absurd hlj (by simp))]
  exact hc.de j hj hlj
 ·obtain ⟨e1,e2,_⟩:=hlv i hi
  obtain ⟨f1,f2,_⟩:=hlv j hj
  rw [e1] at h1; rw [f1] at h2; rw [e2,f2]
  exact hc.st i j hi hj hne' h1 h2
 ·obtain ⟨e1,_⟩:=hlv i hi
  obtain ⟨f1,_⟩:=hlv j hj
  rw [e1] at h1; rw [f1] at h2
  rw [hprt i p' hi hp] at h0 heq
  rw [hprt j q' hj hq] at heq
  by_cases c1 : n = i ∧ p = p'
  ·obtain ⟨rfl,rfl⟩:=c1
   rw [if_pos ⟨rfl,rfl⟩] at h0 heq
   by_cases c2 : n = j ∧ p = q'
   ·exact ⟨c2.1,c2.2⟩
   ·rw [if_neg c2] at heq
    rcases hx with hx | ⟨_,_,_,hun⟩
    ·omega
    ·obtain ⟨rfl,rfl⟩:=hun j q' hj hq h2 heq.symm
     exact absurd ⟨rfl,rfl⟩ c2
  ·rw [if_neg c1] at h0 heq
   by_cases c2 : n = j ∧ p = q'
   ·obtain ⟨rfl,rfl⟩:=c2
    rw [if_pos ⟨rfl,rfl⟩] at heq
    rcases hx with hx | ⟨_,_,_,hun⟩
    ·omega
    ·obtain ⟨rfl,rfl⟩:=hun i p' hi hp h1 heq
     exact absurd ⟨rfl,rfl⟩ c1
   ·rw [if_neg c2] at heq
    exact hc.pt i j p' q' hi hj hp hq h1 h2 h0 heq
 ·obtain ⟨e1,_,e3⟩:=hlv j hj
  rw [e1] at hlj
  rw [hrf,e3]
  exact hxx j hj hlj
theorem held_iff {m : Img} {x : Int} : held m x = true ↔ ∃ n p,n < 8 ∧ p < 2 ∧ (m.ino n).live = true ∧ (m.ino n).prt p = x:=by
 rw [held,anyN_iff]
 constructor
 ·rintro ⟨n,hn,h⟩
  simp only [Bool.and_eq_true,Bool.or_eq_true,decide_eq_true_eq] at h
  rcases h.2 with e | e
  ·exact ⟨n,0,hn,by omega,h.1,e⟩
  ·exact ⟨n,1,hn,by omega,h.1,e⟩
 ·rintro ⟨n,p,hn,hp,hl,e⟩
  refine ⟨n,hn,?_⟩
  simp only [Bool.and_eq_true,Bool.or_eq_true,decide_eq_true_eq]
  rcases (by omega : p = 0 ∨ p = 1) with rfl | rfl
  ·exact ⟨hl,.inl e⟩
  ·exact ⟨hl,.inr e⟩
structure Ft (a b : Img) : Prop where
 fa : ∀ n,n < 8 → (a.ino n).live = true → (b.ino n).live = true → ¬(a.ino n).stamp = (b.ino n).stamp → refs b n = 0
 fb : ∀ n k,n < 8 → k < 8 → ¬k = n → (a.ino n).live = true → (b.ino k).live = true → ¬(b.ino k).stamp = (a.ino n).stamp
 fc : ∀ n p k q,n < 8 → p < 2 → k < 8 → q < 2 → (a.ino n).live = true → 0 ≤ (a.ino n).prt p → (b.ino k).live = true → (b.ino k).prt q = (a.ino n).prt p → k = n ∧ q = p ∧ (b.ino k).stamp = (a.ino n).stamp
 fd : ∀ x : Nat,x < 9 → held b x = true → (a.dat x).of = (b.dat x).of
 fe : ∀ d s,d < 3 → s < 4 → ¬(a.ent d s).name = ⟨#[]⟩ → ¬(b.ent d s).name = ⟨#[]⟩ → a.ent d s = b.ent d s
 fg : ∀ d s t,d < 3 → s < 4 → t < 4 → ¬t = s → ¬(a.ent d s).name = ⟨#[]⟩ → ¬(b.ent d t).name = (a.ent d s).name
theorem Ft.fits {a b : Img} (h : Ft a b) : Fits a b :=
 ⟨fun n hn=>⟨h.fa n hn,fun k hk=>h.fb n k hn hk,fun p hp hl h0 k hk q hq=>h.fc n p k q hn hp hk hq hl h0⟩,fun x hx=>h.fd x hx,fun d hd s hs=>⟨h.fe d s hd hs,fun t ht=>h.fg d s t hd hs ht⟩⟩
theorem Ft.self {m : Img} (hc : Ck m) : Ft m m :=
 ⟨fun n _ _ _ h=>absurd rfl h,fun n k hn hk hne hl hl' e=>hc.st n k hn hk (fun h=>hne h.symm) hl hl' e.symm,
 fun n p k q hn hp hk hq hl h0 hl' e=>by
  obtain ⟨rfl,rfl⟩:=hc.pt n k p q hn hk hp hq hl hl' h0 e.symm
  exact ⟨rfl,rfl,rfl⟩,
 fun _ _ _=>rfl,fun _ _ _ _ _ _=>rfl,fun d s t hd hs ht hne hn=>hc.un d s t hd hs ht hne hn⟩
theorem Ft.data {a b : Img} (h : Ft a b) (x : Nat) : Ft a (b.setDat x (a.dat x)) :=
 ⟨h.fa,h.fb,h.fc,fun y hy hh=>by
  rw [dat_setDat]
  split
  ·rename_i e; rw [e.1]
  ·exact h.fd y hy hh,h.fe,h.fg⟩
theorem Ft.inodes {a b : Img} (h : Ft a b) (ha : Ck a) (hb : Ck b) {n0 : Nat} (hn0 : n0 ≤ 4) : Ft a (wrInodes a b n0 4):=by
 have hE : ∀ d s,(wrInodes a b n0 4).ent d s = b.ent d s:=fun d s=>wrInodes_ent a b n0 d s 4
 have hI:=wrInodes_ino' a b n0 hn0
 have hD:=fun x=>wrInodes_dat a b n0 x 4
 have hR : ∀ i,refs (wrInodes a b n0 4) i = refs b i:=fun i=>refs_congr hE i
 generalize wrInodes a b n0 4 = X at *

 have hL : ∀ n,n < 8 → (X.ino n).live = true → ((a.ino n).live = true ∧ (X.ino n).stamp = (a.ino n).stamp ∧ ∀ p,p < 2 → (X.ino n).prt p = part a b n p) ∨
   ((b.ino n).live = true ∧ (X.ino n).stamp = (b.ino n).stamp ∧ ∀ p,(X.ino n).prt p = (b.ino n).prt p):=by
  intro n hn hl
  rw [hI] at hl ⊢
  split at hl
  ·rename_i hr
   rw [if_pos hr]
   rcases inodeAs_live_cases hl with ⟨a1,a2,a3⟩ | ⟨_,a2,_,a4,a5⟩
   ·exact .inl ⟨a1,a2,a3⟩
   ·exact .inr ⟨a2,a4,a5⟩
  ·rename_i hr
   rw [if_neg hr]
   exact .inr ⟨hl,rfl,fun _=>rfl⟩
 refine ⟨fun n hn hl hl' hne=>?_,fun n k hn hk hne hl hl'=>?_,fun n p k q hn hp hk hq hl h0 hl' heq=>?_,fun x hx hh=>?_,fun d s hd hs h1 h2=>?_,fun d s t hd hs ht hne h1=>?_⟩
 ·rw [hR]
  rcases hL n hn hl' with ⟨_,e,_⟩ | ⟨e1,e2,_⟩
  ·exact absurd e.symm hne
  ·exact h.fa n hn hl e1 (by rw [← e2]; exact hne)
 ·rcases hL k hk hl' with ⟨e1,e,_⟩ | ⟨e1,e2,_⟩
  ·rw [e]; exact ha.st k n hk hn hne e1 hl
  ·rw [e2]; exact h.fb n k hn hk hne hl e1
 ·rcases hL k hk hl' with ⟨e1,e2,e3⟩ | ⟨e1,e2,e3⟩
  ·rw [e3 q hq] at heq
   rcases part_cases a b k q with c | ⟨c,_⟩ | ⟨c,c1,c2⟩
   ·omega
   ·rw [c] at heq
    obtain ⟨rfl,rfl⟩:=ha.pt n k p q hn hk hp hq hl e1 h0 heq.symm
    exact ⟨rfl,rfl,e2⟩
   ·rw [c] at heq
    obtain ⟨rfl,rfl,_⟩:=h.fc n p k q hn hp hk hq hl h0 c1 heq
    exact ⟨rfl,rfl,e2⟩
  ·rw [e3] at heq
   obtain ⟨rfl,rfl,e⟩:=h.fc n p k q hn hp hk hq hl h0 e1 heq
   exact ⟨rfl,rfl,by rw [e2]; exact e⟩
 ·rw [hD]
  obtain ⟨k,q,hk,hq,hl',heq⟩:=held_iff.1 hh
  rcases hL k hk hl' with ⟨e1,e2,e3⟩ | ⟨e1,e2,e3⟩
  ·rw [e3 q hq] at heq
   rcases part_cases a b k q with c | ⟨c,c0,c9,c3⟩ | ⟨c,c1,c2⟩
   ·omega
   ·rw [c] at heq
    rcases (ha.li k hk e1).2.2 q hq with g | ⟨_,_,g⟩
    ·omega
    ·have : ((a.ino k).prt q).toNat = x:=by omega
     rw [this] at c3 g
     rw [c3,g]
   ·rw [c] at heq
    exact h.fd x hx (held_iff.2 ⟨k,q,hk,hq,c1,heq⟩)
  ·rw [e3] at heq
   exact h.fd x hx (held_iff.2 ⟨k,q,hk,hq,e1,heq⟩)
 ·rw [hE] at h2 ⊢; exact h.fe d s hd hs h1 h2
 ·rw [hE]; exact h.fg d s t hd hs ht hne h1
theorem Ft.dir {a b : Img} (h : Ft a b) (ha : Ck a) (hb : Ck b) {d0 : Nat} (hd0 : d0 < 3) : Ft a (wrDir a b d0 4):=by
 obtain ⟨i1,i2,i3,i4,_,_⟩:=wrDir_ok a b hd0 4 (Nat.le_refl _)
 generalize wrDir a b d0 4 = X at *
 have slot : ∀ d t,d < 3 → t < 4 → X.ent d t = b.ent d t ∨ X.ent d t = Ent.zero ∨ (X.ent d t = a.ent d t ∧ 0 ≤ (a.ent d t).ino ∧ (a.ent d t).ino < 8 ∧ (b.ino (a.ent d t).ino.toNat).live = true ∧ (b.ino (a.ent d t).ino.toNat).stamp = (a.ent d t).stamp):=by
  intro d t hd ht
  by_cases e : d = d0
  ·subst e; exact i4 t ht
  ·exact .inl (i3 d t hd ht (.inl e))
 refine ⟨fun n hn hl hl' hne=>?_,fun n k hn hk hne hl hl'=>?_,fun n p k q hn hp hk hq hl h0 hl' heq=>?_,fun x hx hh=>?_,fun d s hd hs h1 h2=>?_,fun d s t hd hs ht hne h1=>?_⟩
 ·rw [i1] at hl' hne
  have hz:=h.fa n hn hl hl' hne
  refine sumN_zeros fun d hd=>sumN_zeros fun s hs=>?_
  have hbz : leads b d s n = false:=by
   cases e : leads b d s n with
   | false=>rfl
   | true=>have:=refs_pos hd hs e; omega
  rcases slot d s hd hs with e | e | ⟨e,e0,e8,el,es⟩
  ·rw [leads_congr e,hbz]; rfl
  ·rw [leads_zero e]; rfl
  ·cases hx : leads X d s n with
   | false=>rfl
   | true =>
    exfalso
    rw [leads_congr e] at hx
    simp only [leads,Bool.and_eq_true,Bool.not_eq_true',decide_eq_false_iff_not,decide_eq_true_eq] at hx
    have en : (a.ent d s).ino.toNat = n:=by omega
    rw [en] at el es
    rcases ha.en d s hd hs with g | ⟨_,_,_,_,_,g⟩
    ·rw [g] at hx; exact hx.1 rfl
    ·rw [en] at g; exact hne (by rw [g,es])
 ·rw [i1] at hl' ⊢; exact h.fb n k hn hk hne hl hl'
 ·rw [i1] at hl' heq ⊢; exact h.fc n p k q hn hp hk hq hl h0 hl' heq
 ·rw [i2]; exact h.fd x hx (by rw [← held_congr i1]; exact hh)
 ·rcases slot d s hd hs with e | e | ⟨e,_⟩
  ·rw [e] at h2 ⊢; exact h.fe d s hd hs h1 h2
  ·rw [e] at h2; exact absurd rfl h2
  ·exact e.symm
 ·rcases slot d t hd ht with e | e | ⟨e,_⟩
  ·rw [e]; exact h.fg d s t hd hs ht hne h1
  ·rw [e]; exact fun e'=>h1 e'.symm
  ·rw [e]; exact ha.un d s t hd hs ht hne h1
theorem Ft.write {a b : Img} (h : Ft a b) (ha : Ck a) (hb : Ck b) (x : Int) : Ft a (writeAs a b x).1:=by
 obtain ⟨n,hn,e⟩ | ⟨n,hn,e⟩ | ⟨n,hn,e⟩ | e:=blockOf_cases x
 ·rw [writeAs_i e]; exact h.inodes ha hb hn
 ·rw [writeAs_d e]; exact h.dir ha hb hn
 ·rw [writeAs_a e]; exact h.data n
 ·rw [writeAs_n e]; exact h
theorem Ft.add {a b : Img} (h : Ft a b) {d k n : Nat} {name : Str} (hd : d < 3) (hk : k < 4) (n8 : n < 8) (hbn : (b.ent d k).name = ⟨#[]⟩) (hu : ∀ t,t < 4 → ¬(b.ent d t).name = name) : Ft (addName a d k name n) b:=by
 have hent:=ent_addName a d k name n
 have hlv : ∀ j,j < 8 → ((addName a d k name n).ino j).live = (a.ino j).live ∧ ((addName a d k name n).ino j).stamp = (a.ino j).stamp ∧ ∀ p,((addName a d k name n).ino j).prt p = (a.ino j).prt p:=fun j hj=>by
  simp only [addName,ino_setIno,ino_setEnt]
  split
  ·rename_i e; rw [← e.1]; exact ⟨rfl,rfl,fun p=>prt_with _ _ _⟩
  ·exact ⟨rfl,rfl,fun _=>rfl⟩
 have hdat : ∀ x,(addName a d k name n).dat x = a.dat x:=fun x=>by simp only [addName,dat_setIno,dat_setEnt]
 generalize addName a d k name n = X at *
 refine ⟨fun i hi hl hl' hne=>?_,fun i j hi hj hne hl hl'=>?_,fun i p j q hi hp hj hq hl h0 hl' heq=>?_,fun x hx hh=>?_,fun d' s hd' hs h1 h2=>?_,fun d' s t hd' hs ht hne h1=>?_⟩
 ·obtain ⟨e1,e2,_⟩:=hlv i hi
  rw [e1] at hl; rw [e2] at hne
  exact h.fa i hi hl hl' hne
 ·obtain ⟨e1,e2,_⟩:=hlv i hi
  rw [e1] at hl; rw [e2]
  exact h.fb i j hi hj hne hl hl'
 ·obtain ⟨e1,e2,e3⟩:=hlv i hi
  rw [e1] at hl; rw [e3] at h0 heq; rw [e2]
  exact h.fc i p j q hi hp hj hq hl h0 hl' heq
 ·rw [hdat]; exact h.fd x hx hh
 ·rw [hent] at h1 ⊢
  split at h1
  ·rename_i e; rw [← e.1.1,← e.1.2,hbn] at h2; exact absurd rfl h2
  ·rename_i e; rw [if_neg e]; exact h.fe d' s hd' hs h1 h2
 ·rw [hent] at h1 ⊢
  split at h1
  ·rename_i e; rw [if_pos e]; rw [← e.1.1]; exact hu t ht
  ·rename_i e; rw [if_neg e]; exact h.fg d' s t hd' hs ht hne h1
theorem Ft.less {a a' b : Img} (h : Ft a b) (hi : ∀ j,j < 8 → (a'.ino j).live = true → (a.ino j).live = true ∧ (a'.ino j).stamp = (a.ino j).stamp ∧ ∀ p,p < 2 → (a'.ino j).prt p = (a.ino j).prt p ∨ (a'.ino j).prt p = -1)
  (he : ∀ d s,d < 3 → s < 4 → a'.ent d s = a.ent d s ∨ a'.ent d s = Ent.zero) (hd : ∀ x,a'.dat x = a.dat x) : Ft a' b:=by
 refine ⟨fun i hi' hl hl' hne=>?_,fun i j hi' hj hne hl hl'=>?_,fun i p j q hi' hp hj hq hl h0 hl' heq=>?_,fun x hx hh=>by rw [hd]; exact h.fd x hx hh,fun d s hd' hs h1 h2=>?_,fun d s t hd' hs ht hne h1=>?_⟩
 ·obtain ⟨e1,e2,_⟩:=hi i hi' hl
  rw [e2] at hne; exact h.fa i hi' e1 hl' hne
 ·obtain ⟨e1,e2,_⟩:=hi i hi' hl
  rw [e2]; exact h.fb i j hi' hj hne e1 hl'
 ·obtain ⟨e1,e2,e3⟩:=hi i hi' hl
  rcases e3 p hp with e | e
  ·rw [e] at h0 heq; rw [e2]; exact h.fc i p j q hi' hp hj hq e1 h0 hl' heq
  ·omega
 ·rcases he d s hd' hs with e | e
  ·rw [e] at h1 ⊢; exact h.fe d s hd' hs h1 h2
  ·rw [e] at h1; exact absurd rfl h1
 ·rcases he d s hd' hs with e | e
  ·rw [e] at h1 ⊢; exact h.fg d s t hd' hs ht hne h1
  ·rw [e] at h1; exact absurd rfl h1
theorem Ft.leave {a b : Img} (h : Ft a b) {d s : Nat} (hd : d < 3) (hs : s < 4) : Ft (dropName a d s) b:=by
 refine h.less (fun j hj hl=>?_) (fun d' s' _ _=>?_) (fun x=>?_)
 ·unfold dropName at hl ⊢
  dsimp only at hl ⊢
  split at hl
  ·rename_i c
   rw [if_pos c]
   rw [ino_setIno,ino_setEnt] at hl ⊢
   split at hl
   ·exact absurd hl (by decide)
   ·rename_i e; rw [if_neg e]; exact ⟨hl,rfl,fun _ _=>.inl rfl⟩
  ·rename_i c
   rw [if_neg c]
   rw [ino_setIno,ino_setEnt] at hl ⊢
   split at hl
   ·rename_i e; rw [if_pos e]; rw [e.1] at hl ⊢; exact ⟨hl,rfl,fun p _=>.inl (prt_with _ _ _)⟩
   ·rename_i e; rw [if_neg e]; exact ⟨hl,rfl,fun _ _=>.inl rfl⟩
 ·unfold dropName
  dsimp only
  split <;> rw [ent_setIno,ent_drop hd hs] <;> split <;> first | exact .inr rfl | exact .inl rfl
 ·unfold dropName
  dsimp only
  split <;> rw [dat_setIno,dat_setEnt]
theorem Ft.new {a b : Img} (h : Ft a b) {n : Nat} {st : Int} (n8 : n < 8) (hr : refs b n = 0) (hmax : ∀ j,j < 8 → (b.ino j).live = true → (b.ino j).stamp < st) : Ft (a.setIno n (newIno st)) b:=by
 have hino : ∀ j,j < 8 → (a.setIno n (newIno st)).ino j = if n = j then newIno st else a.ino j:=fun j hj=>by rw [ino_setIno]; simp [hj]
 refine ⟨fun i hi' hl hl' hne=>?_,fun i j hi' hj hne hl hl'=>?_,fun i p j q hi' hp hj hq hl h0 hl' heq=>?_,h.fd,h.fe,h.fg⟩
 ·rw [hino i hi'] at hl hne
  by_cases e : n = i
  ·rw [← e]; exact hr
  ·rw [if_neg e] at hl hne; exact h.fa i hi' hl hl' hne
 ·rw [hino i hi'] at hl ⊢
  by_cases e : n = i
  ·rw [if_pos e]; have:=hmax j hj hl'; show ¬_ = st; omega
  ·rw [if_neg e] at hl ⊢; exact h.fb i j hi' hj hne hl hl'
 ·rw [hino i hi'] at hl h0 heq ⊢
  by_cases e : n = i
  ·rw [if_pos e,prt_new] at h0
   have : Ino.none.prt p = -1:=by simp [Ino.prt,Ino.none,hp]
   omega
  ·rw [if_neg e] at hl h0 heq ⊢; exact h.fc i p j q hi' hp hj hq hl h0 hl' heq
theorem Ft.put {a b : Img} (h : Ft a b) {n p x : Nat} {y : Dat} (n8 : n < 8) (hl : (a.ino n).live = true) (hx : held b x = false) : Ft ((a.setIno n ((a.ino n).setPrt p x)).setDat x y) b:=by
 have hino : ∀ j,j < 8 → ((a.setIno n ((a.ino n).setPrt p x)).setDat x y).ino j = if n = j then (a.ino n).setPrt p x else a.ino j:=fun j hj=>by rw [ino_setDat,ino_setIno]; simp [hj]
 have hlv : ∀ j,j < 8 → (((a.setIno n ((a.ino n).setPrt p x)).setDat x y).ino j).live = (a.ino j).live ∧ (((a.setIno n ((a.ino n).setPrt p x)).setDat x y).ino j).stamp = (a.ino j).stamp:=fun j hj=>by
  rw [hino j hj]; split
  ·rename_i e; subst e; exact ⟨rfl,rfl⟩
  ·exact ⟨rfl,rfl⟩
 refine ⟨fun i hi' hl hl' hne=>?_,fun i j hi' hj hne hl hl'=>?_,fun i p' j q hi' hp hj hq hl h0 hl' heq=>?_,fun z hz hh=>?_,h.fe,h.fg⟩
 ·obtain ⟨e1,e2⟩:=hlv i hi'
  rw [e1] at hl; rw [e2] at hne; exact h.fa i hi' hl hl' hne
 ·obtain ⟨e1,e2⟩:=hlv i hi'
  rw [e1] at hl; rw [e2]; exact h.fb i j hi' hj hne hl hl'
 ·obtain ⟨e1,e2⟩:=hlv i hi'
  rw [e1] at hl; rw [e2]
  have hpr : (((a.setIno n ((a.ino n).setPrt p x)).setDat x y).ino i).prt p' = if n = i ∧ p = p' then (x : Int) else (a.ino i).prt p':=by
   rw [hino i hi']
   by_cases e : n = i
   ·subst e; rw [if_pos rfl,prt_setPrt]; simp [hp]
   ·rw [if_neg e,if_neg (fun h=>e h.1)]
  rw [hpr] at h0 heq
  split at heq
  ·have : held b x = true:=held_iff.2 ⟨j,q,hj,hq,hl',heq⟩
   rw [hx] at this; exact absurd this (by simp)
  ·rename_i e; rw [if_neg e] at h0; exact h.fc i p' j q hi' hp hj hq hl h0 hl' heq
 ·rw [dat_setDat,dat_setIno]
  split
  ·rename_i e; rw [← e.1] at hh; rw [hx] at hh; exact absurd hh (by simp)
  ·exact h.fd z hz hh
theorem Ft.text {a b : Img} (h : Ft a b) {x : Nat} {t : Str} : Ft (a.setDat x ⟨(a.dat x).of,t⟩) b :=
 ⟨h.fa,h.fb,h.fc,fun z hz hh=>by
  rw [dat_setDat]
  split
  ·rename_i e; rw [← e.1] at hh ⊢; exact h.fd x (by rw [e.1]; exact hz) hh
  ·exact h.fd z hz hh,h.fe,h.fg⟩
theorem Ft.cut {a b : Img} (h : Ft a b) {n p : Nat} : Ft (a.setIno n ((a.ino n).setPrt p (-1))) b:=by
 refine h.less (fun j hj hl=>?_) (fun _ _ _ _=>.inl rfl) (fun _=>rfl)
 rw [ino_setIno] at hl ⊢
 split at hl
 ·rename_i e; rw [if_pos e]; rw [e.1] at hl ⊢
  refine ⟨hl,rfl,fun q hq=>?_⟩
  rw [prt_setPrt]
  split
  ·exact .inr rfl
  ·exact .inl rfl
 ·rename_i e; rw [if_neg e]; exact ⟨hl,rfl,fun _ _=>.inl rfl⟩
structure Inv (F : Fl) : Prop where
 i0 : Inv0 F
 ex : exact F.now = true
 ck : check F.disk = 0
 ft : Ft F.now F.disk
 s0 : 0 ≤ F.stamp
 sn : ∀ j,j < 8 → (F.now.ino j).live = true → (F.now.ino j).stamp ≤ F.stamp
 sd : ∀ j,j < 8 → (F.disk.ino j).live = true → (F.disk.ino j).stamp ≤ F.stamp
theorem Inv.cn {F : Fl} (h : Inv F) : check F.now = 0:=(exact_parts h.ex).1
theorem doC_zero {F : Fl} {x : SStep} (h : doC F x = 0) : stepFault x = 0:=by
 by_cases e : stepFault x = 0
 ·exact e
 ·exfalso; apply e; rw [← h,doC,if_pos e]
theorem setPrt_self {i : Ino} {p : Nat} {x : Int} (h : i.prt p = x) (hp : p < 2) : i.setPrt p x = i:=by
 refine Ino.ext_of rfl rfl rfl fun q hq=>?_
 rw [prt_setPrt]
 split
 ·rename_i e; rw [← e.1]; exact h.symm
 ·rfl
theorem setIno_same {m : Img} {n : Nat} {y : Ino} (h : m.ino n = y) : m.setIno n y = m:=setIno_self m h.symm
theorem ent_room {a : Img} {d' k d s n : Nat} {name : Str} (h : ¬((d' = d ∧ k = s) ∧ d < 3 ∧ s < 4)) : (addName a d' k name n).ent d s = a.ent d s:=by rw [ent_addName,if_neg h]
theorem doF_now {F : Fl} (h : Inv F) (hs : F.stamp < 4611686018427387904) (x : SStep) : exact (doF F x).now = true ∧ Ft (doF F x).now F.disk ∧ F.stamp ≤ (doF F x).stamp ∧ (doF F x).stamp ≤ F.stamp + 1 ∧
  (∀ j,j < 8 → ((doF F x).now.ino j).live = true → ((doF F x).now.ino j).stamp ≤ (doF F x).stamp):=by
 have hcn:=Ck.of h.cn
 have hx:=(exact_parts h.ex).2
 by_cases c : doC F x = 0
 rotate_left
 ·have e : doF F x = F:=by simp [doF,c]
  rw [e]; exact ⟨h.ex,h.ft,Int.le_refl _,by omega,h.sn⟩
 have c0:=doC_zero c
 obtain ⟨⟨k1,k6⟩,⟨d0,d3⟩,hn,hto,hp,_⟩:=stepFault_zero c0
 have dn : x.dir.toNat < 3:=by omega
 simp only [doF,c]
 rw [if_neg (by simp)]
 by_cases c1 : x.kind = 1
 ·
  rw [if_pos c1]
  have hm : makeC F x.dir x.name = 0:=by simpa [doC,c0,c1] using c
  unfold makeC at hm
  split at hm
  ·omega
  rename_i q1
  split at hm
  ·omega
  rename_i q2
  have hm' : makeC F x.dir x.name = 0:=by simp only [makeC]; rw [if_neg q1,if_neg q2]
  rcases freeIno_cases F.now F.disk with e | ⟨n,n8,e,ed,er⟩
  ·exact absurd (.inl (by omega)) q2
  rcases room_cases F.now F.disk x.dir x.name with e2 | ⟨k,k4,e2,_,_,ke,kb,sb⟩
  ·exact absurd (.inr (by omega)) q2
  have hst : IntKind.i64.wrap (F.stamp + 1) = F.stamp + 1:=wrap64 (by have:=h.s0; omega) (by omega)
  have em : makeF F x.dir x.name = ⟨addName (F.now.setIno n (newIno (F.stamp + 1))) x.dir.toNat k x.name n,F.disk,F.stamp + 1⟩:=by
   simp only [makeF]; rw [if_pos hm',e,e2,hst]; rfl
  rw [em]
  dsimp only
  have hE1:=ex1_new (st:=F.stamp + 1) h.ex n8 ed (by have:=h.s0; omega) (fun j hj hl=>by have:=h.sn j hj hl; omega)
  have hE2:=exact_add (d:=x.dir.toNat) (k:=k) (name:=x.name) hE1 dn k4 n8 (by rw [ino_setIno,if_pos ⟨rfl,n8⟩]; rfl) ke hn (slot_none d0 d3 (isName_ne hn) (by
   have : slotOf (F.now.setIno n (newIno (F.stamp + 1))) x.dir x.name = slotOf F.now x.dir x.name:=rfl
   omega))
  refine ⟨hE2,?_,by omega,by omega,fun j hj hl=>?_⟩
  ·exact (h.ft.new n8 er (fun j hj hl=>by have:=h.sd j hj hl; omega)).add dn k4 n8 kb (slot_none d0 d3 (isName_ne hn) sb)
  ·simp only [addName,ino_setIno,ino_setEnt] at hl ⊢
   split
   ·have e9 : (if n = n ∧ n < 8 then newIno (F.stamp + 1) else F.now.ino n).stamp = F.stamp + 1:=by rw [if_pos ⟨rfl,n8⟩]; rfl
    simp only [n8,and_self,if_true]
    exact Int.le_refl _
   ·rename_i c3
    rw [if_neg c3] at hl
    try rw [if_neg c3] at hl
    try rw [if_neg c3]
    have:=h.sn j hj hl; omega
 rw [if_neg c1]
 rcases slotOf_cases F.now x.dir x.name with e | ⟨s,s4,e,_,_,hnm,hne⟩
 ·exfalso
  have : doC F x = 5:=by simp [doC,c0,c1,e]
  omega
 have s0 : ¬(s : Int) < 0:=by omega
 have es : (slotOf F.now x.dir x.name).toNat = s:=by omega
 simp only [es]
 have hnamed : ¬(F.now.ent x.dir.toNat s).name = ⟨#[]⟩:=by rw [hnm]; exact hne
 rcases hcn.en x.dir.toNat s dn s4 with e0 | ⟨_,_,i0,i8,hl,hst⟩
 ·rw [e0] at hnamed; exact absurd rfl hnamed
 obtain ⟨n,en⟩ : ∃ n,(F.now.ent x.dir.toNat s).ino.toNat = n:=⟨_,rfl⟩
 have n8 : n < 8:=by omega
 rw [en] at hl hst ⊢

 have more : (x.kind = 2 ∨ x.kind = 4) → exact (enterA F.now F.disk x.toDir x.to n) = true ∧ Ft (enterA F.now F.disk x.toDir x.to n) F.disk ∧ (enterA F.now F.disk x.toDir x.to n).ent x.dir.toNat s = F.now.ent x.dir.toNat s ∧
   ∀ j,j < 8 → ((enterA F.now F.disk x.toDir x.to n).ino j).live = (F.now.ino j).live ∧ ((enterA F.now F.disk x.toDir x.to n).ino j).stamp = (F.now.ino j).stamp:=by
  intro hk
  obtain ⟨⟨t0,t3⟩,htn⟩:=hto hk
  have hc : enterC F.now F.disk x.toDir x.to = 0:=by
   simp only [doC] at c
   rw [if_neg (by simpa using c0),if_neg c1,if_neg (by rw [e]; exact s0),if_pos hk] at c
   exact c
  have hc':=hc
  unfold enterC at hc'
  split at hc'
  ·omega
  rename_i q1
  split at hc'
  ·omega
  rename_i q2
  rcases room_cases F.now F.disk x.toDir x.to with e2 | ⟨k,k4,e2,_,_,ke,kb,sb⟩
  ·omega
  have ek : (room F.now F.disk x.toDir x.to).toNat = k:=by omega
  have eA : enterA F.now F.disk x.toDir x.to n = addName F.now x.toDir.toNat k x.to n:=by simp only [enterA]; rw [if_pos hc,ek]
  rw [eA]
  refine ⟨exact_add (Ex1.of h.ex n) (by omega) k4 n8 hl ke htn (slot_none t0 t3 (isName_ne htn) (by omega)),h.ft.add (by omega) k4 n8 kb (slot_none t0 t3 (isName_ne htn) sb),?_,fun j hj=>?_⟩
  ·refine ent_room fun hh=>hnamed ?_
   rw [← hh.1.1,← hh.1.2]; exact ke
  ·simp only [addName,ino_setIno,ino_setEnt]
   split
   ·rename_i e'; rw [← e'.1]; exact ⟨rfl,rfl⟩
   ·exact ⟨rfl,rfl⟩
 have less : ∀ (A : Img),(∀ j,j < 8 → (A.ino j).live = (F.now.ino j).live ∧ (A.ino j).stamp = (F.now.ino j).stamp) → ∀ j,j < 8 → ((dropName A x.dir.toNat s).ino j).live = true → ((dropName A x.dir.toNat s).ino j).stamp ≤ F.stamp:=by
  intro A hA j hj hlj
  unfold dropName at hlj ⊢
  dsimp only at hlj ⊢
  split at hlj
  ·rename_i q; rw [if_pos q]
   rw [ino_setIno,ino_setEnt] at hlj ⊢
   split at hlj
   ·exact absurd hlj (by decide)
   ·rename_i q'; rw [if_neg q',(hA j hj).2]; exact h.sn j hj (by rw [← (hA j hj).1]; exact hlj)
  ·rename_i q; rw [if_neg q]
   rw [ino_setIno,ino_setEnt] at hlj ⊢
   split at hlj
   ·rename_i q'; rw [if_pos q']; rw [q'.1] at hlj ⊢
    show (A.ino j).stamp ≤ _
    rw [(hA j hj).2]; exact h.sn j hj (by rw [← (hA j hj).1]; exact hlj)
   ·rename_i q'; rw [if_neg q',(hA j hj).2]; exact h.sn j hj (by rw [← (hA j hj).1]; exact hlj)
 by_cases c2 : x.kind = 2
 ·rw [if_pos c2]
  dsimp only
  obtain ⟨m1,m2,_,m4⟩:=more (.inl c2)
  exact ⟨m1,m2,Int.le_refl _,by omega,fun j hj hlj=>by rw [(m4 j hj).2]; exact h.sn j hj (by rw [← (m4 j hj).1]; exact hlj)⟩
 rw [if_neg c2]
 by_cases c4 : x.kind = 4
 ·rw [if_pos c4]
  dsimp only
  obtain ⟨m1,m2,m3,m4⟩:=more (.inr c4)
  exact ⟨exact_leave m1 dn s4 (by rw [m3]; exact hnamed),m2.leave dn s4,Int.le_refl _,by omega,less _ m4⟩
 rw [if_neg c4]
 by_cases c3 : x.kind = 3
 ·rw [if_pos c3]
  dsimp only
  exact ⟨exact_leave h.ex dn s4 hnamed,h.ft.leave dn s4,Int.le_refl _,by omega,less _ fun _ _=>⟨rfl,rfl⟩⟩
 rw [if_neg c3]
 by_cases c5 : x.kind = 5
 ·rw [if_pos c5]
  dsimp only
  obtain ⟨p0,p2⟩:=hp (.inl c5)
  have pn : x.p.toNat < 2:=by omega
  have hcp : putC F.now F.disk n x.p.toNat = 0:=by
   simp only [doC] at c
   rw [if_neg (by simpa using c0),if_neg c1,if_neg (by rw [e]; exact s0),if_neg (by omega),if_pos c5,es,en] at c
   exact c
  unfold putA
  by_cases cp : (F.now.ino n).prt x.p.toNat < 0
  ·rw [if_pos cp]
   rcases freeDat_cases F.now F.disk with e2 | ⟨k,k9,e2,ha,hb⟩
   ·exfalso
    have : putC F.now F.disk n x.p.toNat = 6:=by simp [putC,cp,e2]
    omega
   rw [if_neg (by omega),e2]
   have hk : ((k : Int)).toNat = k:=Int.toNat_natCast k
   rw [hk]
   have h1:=exact_part (p:=x.p.toNat) (x:=k) (y:=⟨(F.now.ino n).stamp,x.text⟩) h.ex n8 pn hl (.inr ⟨by omega,by omega,rfl,fun i q hi hq hli heq=>by
    have : held F.now k = true:=held_iff.2 ⟨i,q,hi,hq,hli,heq⟩
    rw [ha] at this; exact absurd this (by simp)⟩)
   rw [if_neg (by omega),hk] at h1
   refine ⟨h1,h.ft.put n8 hl hb,Int.le_refl _,by omega,fun j hj hlj=>?_⟩
   rw [ino_setDat,ino_setIno] at hlj ⊢
   split at hlj
   ·rename_i q; rw [if_pos q]; rw [← q.1] at hj
    exact h.sn n hj hl
   ·rename_i q; rw [if_neg q]; exact h.sn j hj hlj
  ·rw [if_neg cp]
   rcases (hcn.li n n8 hl).2.2 x.p.toNat pn with g | ⟨g0,g9,gof⟩
   ·omega
   obtain ⟨z,ez⟩ : ∃ z : Nat,(F.now.ino n).prt x.p.toNat = z:=⟨((F.now.ino n).prt x.p.toNat).toNat,by omega⟩
   rw [ez] at gof ⊢
   rw [Int.toNat_natCast] at gof ⊢
   have h1:=exact_part (p:=x.p.toNat) (x:=z) (y:=⟨(F.now.ino n).stamp,x.text⟩) h.ex n8 pn hl (.inr ⟨by omega,by omega,rfl,fun i q hi hq hli heq=>by
    obtain ⟨rfl,rfl⟩:=hcn.pt n i x.p.toNat q n8 hi pn hq hl hli (by omega) (by rw [ez]; exact heq.symm)
    exact ⟨rfl,rfl⟩⟩)
   rw [if_neg (by omega),Int.toNat_natCast,setPrt_self ez pn,setIno_same rfl] at h1
   refine ⟨h1,?_,Int.le_refl _,by omega,h.sn⟩
   have:=h.ft.text (x:=z) (t:=x.text)
   rw [gof] at this
   exact this
 rw [if_neg c5]
 have c6 : x.kind = 6:=by omega
 obtain ⟨p0,p2⟩:=hp (.inr c6)
 dsimp only
 have h1:=exact_part (p:=x.p.toNat) (x:=-1) (y:=⟨0,⟨#[]⟩⟩) h.ex n8 (by omega) hl (.inl rfl)
 rw [if_pos rfl] at h1
 refine ⟨h1,h.ft.cut,Int.le_refl _,by omega,fun j hj hlj=>?_⟩
 rw [ino_setIno] at hlj ⊢
 split at hlj
 ·rename_i q; rw [if_pos q]; rw [← q.1] at hj
  exact h.sn n hj hl
 ·rename_i q; rw [if_neg q]; exact h.sn j hj hlj
theorem Inv.doF {F : Fl} (h : Inv F) (hs : F.stamp < 4611686018427387904) (x : SStep) : Inv (Go.Mini.doF F x):=by
 obtain ⟨h1,h2,h3,h4,h5⟩:=doF_now h hs x
 have e:=doF_disk F x
 have:=h.s0
 exact ⟨h.i0.doF x,h1,by rw [e]; exact h.ck,by rw [e]; exact h2,by omega,h5,fun j hj hl=>by
  rw [e] at hl ⊢; have:=h.sd j hj hl; omega⟩
theorem stamp_write {a b : Img} {N : Int} (ha : ∀ j,j < 8 → (a.ino j).live = true → (a.ino j).stamp ≤ N) (hb : ∀ j,j < 8 → (b.ino j).live = true → (b.ino j).stamp ≤ N) (x : Int) : ∀ j,j < 8 → ((writeAs a b x).1.ino j).live = true → ((writeAs a b x).1.ino j).stamp ≤ N:=by
 obtain ⟨n,hn,e⟩ | ⟨n,hn,e⟩ | ⟨n,hn,e⟩ | e:=blockOf_cases x
 ·rw [writeAs_i e]
  intro j hj hl
  dsimp only at hl ⊢
  rw [wrInodes_ino' a b n hn] at hl ⊢
  split at hl
  ·rename_i q; rw [if_pos q]
   rcases inodeAs_live_cases hl with ⟨a1,a2,_⟩ | ⟨_,a2,_,a4,_⟩
   ·rw [a2]; exact ha j hj a1
   ·rw [a4]; exact hb j hj a2
  ·rename_i q; rw [if_neg q]; exact hb j hj hl
 ·rw [writeAs_d e]
  intro j hj hl
  dsimp only at hl ⊢
  obtain ⟨i1,_⟩:=wrDir_ok a b hn 4 (Nat.le_refl _)
  rw [i1] at hl ⊢; exact hb j hj hl
 ·rw [writeAs_a e]; exact hb
 ·rw [writeAs_n e]; exact hb
theorem Inv.write {F : Fl} (h : Inv F) (x : Int) : Inv { F with disk:=(writeAs F.now F.disk x).1 } :=
 ⟨⟨h.i0.wf,h.i0.sn,small_writeAs h.i0.sn h.i0.sd x⟩,h.ex,write_mends h.ck h.ex h.ft.fits x,h.ft.write (.of h.cn) (.of h.ck) x,h.s0,h.sn,stamp_write h.sn h.sd x⟩
theorem Inv.wrDown {F : Fl} (h : Inv F) : ∀ k,Inv { F with disk:=Go.Mini.wrDown F.now F.disk k }
 | 0=>h
 | k + 1=>(h.wrDown k).write _
theorem Inv.syncD {F : Fl} (h : Inv F) : ∀ k,Inv { F with disk:=Go.Mini.syncD F.now F.disk k }
 | 0=>h
 | k + 1=>(h.syncD k).wrDown 14
theorem Inv.sync {F : Fl} (h : Inv F) : Inv { F with disk:=syncTo F.now F.disk }:=h.syncD _
theorem maxSt_ge (m : Img) {n j : Nat} (h : j < n) : (m.ino j).stamp ≤ maxSt m n:=by
 induction n with
 | zero=>omega
 | succ n ih =>
  unfold maxSt
  by_cases e : j = n
  ·subst e; split <;> omega
  ·have:=ih (by omega)
   split <;> omega
theorem maxSt_pos (m : Img) : ∀ n,0 ≤ maxSt m n
 | 0=>Int.le_refl _
 | n + 1=>by have:=maxSt_pos m n; unfold maxSt; split <;> omega
theorem maxSt_le {m : Img} {N : Int} (h0 : 0 ≤ N) (h : ∀ j,j < 8 → (m.ino j).stamp ≤ N) : ∀ n,n ≤ 8 → maxSt m n ≤ N
 | 0,_=>h0
 | n + 1,hn=>by
  have:=maxSt_le h0 h n (by omega)
  have:=h n (by omega)
  unfold maxSt; split <;> omega
theorem Inv.of {m : Img} (he : exact m = true) (hs : m.small) : Inv ⟨m,m,maxSt m 8⟩:=by
 have hc:=(exact_parts he).1
 exact ⟨⟨WF_check hc,hs,hs⟩,he,hc,Ft.self (.of hc),maxSt_pos m 8,fun j hj _=>maxSt_ge m hj,fun j hj _=>maxSt_ge m hj⟩
theorem mended_stamp {m : Img} (hc : check m = 0) {j : Nat} (hj : j < 8) : ((mended m).ino j).stamp = 0 ∨ ((m.ino j).live = true ∧ ((mended m).ino j).stamp = (m.ino j).stamp):=by
 rw [mended_ino m hj]
 cases e : (mendIno m j).live with
 | true=>right; rw [mendIno_of e]; exact ⟨(mendIno_live.1 e).1,rfl⟩
 | false=>left; rw [mendIno_dead hc hj e]; rfl
theorem Inv.lifeF {L : Lf} (h : Inv L.fl) (hs : L.fl.stamp < 4611686018427387904) (x : SStep) : Inv (Go.Mini.lifeF L x).fl ∧ (Go.Mini.lifeF L x).fl.stamp ≤ L.fl.stamp + 1:=by
 unfold Go.Mini.lifeF
 split
 ·exact ⟨h.write _,by dsimp only; omega⟩
 split
 ·exact ⟨h.sync,by dsimp only; omega⟩
 split
 ·unfold crashF
  rw [if_pos h.ck]
  dsimp only
  refine ⟨Inv.of (mended_exact h.ck) (mended_small h.i0.sd),?_⟩
  have:=maxSt_le (m:=mended L.fl.disk) h.s0 (fun j hj=>by
   rcases mended_stamp h.ck hj with e | ⟨e1,e2⟩
   ·rw [e]; exact h.s0
   ·rw [e2]; exact h.sd j hj e1) 8 (Nat.le_refl _)
  omega
 ·exact ⟨h.doF hs x,(doF_now h hs x).2.2.2.1⟩
theorem Inv.new : Inv Lf.new.fl:=by
 have:=Inv.of (m:=.blank) (by decide +kernel) (small_of (by decide +kernel))
 have e : maxSt .blank 8 = 0:=by decide +kernel
 rw [e] at this
 exact this
def lifeRun (L : Lf) (l : List SStep) : Nat → Lf
 | 0=>L
 | k + 1=>lifeF (lifeRun L l k) (stp l k)
theorem inv_run {L : Lf} (l : List SStep) (h : Inv L.fl) (hs : L.fl.stamp ≤ 1000000000) : ∀ k,k ≤ 1000000000 → Inv (lifeRun L l k).fl ∧ (lifeRun L l k).fl.stamp ≤ 1000000000 + k
 | 0,_=>⟨h,by show L.fl.stamp ≤ _; omega⟩
 | k + 1,hk=>by
  obtain ⟨a,b⟩:=inv_run l h hs k (by omega)
  obtain ⟨c,d⟩:=a.lifeF (by omega) (stp l k)
  exact ⟨c,by show (lifeF (lifeRun L l k) (stp l k)).fl.stamp ≤ _; omega⟩
theorem new_stamp : Lf.new.fl.stamp ≤ 1000000000:=by decide
@[go_sem] theorem fill_lost0 : fill tLost (encLost 0 0 0) [] = some (encLost 0 0 0):=rfl
def SlJ (h0 h : HP) (v : AV) (l : List Int) : Prop:=(v = .nilsl ∧ l = []) ∨ ∃ q,v = .sl (.obj q) 0 l.length ∧ h0.next ≤ q ∧ q < h.next ∧ h.look (.obj q) = some ⟨.arr l.length tI,encL l⟩
theorem SlJ.same {h0 h h' : HP} {v : AV} {l : List Int} (a : SlJ h0 h v l) (b : Fr h h' []) : SlJ h0 h' v l:=by
 rcases a with a | ⟨q,h1,h2,h3,h4⟩
 ·exact .inl a
 ·exact .inr ⟨q,h1,h2,Nat.lt_of_lt_of_le h3 b.next,b.look h3 (by simp) h4⟩
theorem SlJ.push {h0 h : HP} {v : AV} {l : List Int} {n : Nat} {o : Own} (a : SlJ h0 h v l) : SlJ h0 (h.push n o) v l:=a
theorem SlJ.from {h0 h1 h : HP} {v : AV} {l : List Int} (a : SlJ h1 h v l) (e : h0.next ≤ h1.next) : SlJ h0 h v l:=by
 rcases a with a | ⟨q,h1,h2,h3,h4⟩
 ·exact .inl a
 ·exact .inr ⟨q,h1,by omega,h3,h4⟩
theorem SlJ.len {h0 h : HP} {v : AV} {l : List Int} (a : SlJ h0 h v l) : lenV false v = some (.int .i64 l.length):=by
 rcases a with ⟨rfl,rfl⟩ | ⟨i,rfl,_⟩ <;> rfl
theorem SlJ.fg {h0 h : HP} {v : AV} {l : List Int} (a : SlJ h0 h v l) (x y : Nat) : Go.Mini.fg v (.stk x y) = v:=by
 rcases a with ⟨rfl,rfl⟩ | ⟨i,rfl,_⟩ <;> simp only [go_sem]
theorem SlJ.ld {h0 h : HP} {v : AV} {l : List Int} (a : SlJ h0 h v l) (x y : Nat) : v.leads (.stk x y) = false:=by
 rcases a with ⟨rfl,rfl⟩ | ⟨i,rfl,_⟩ <;> simp only [go_sem]
section
variable {T : Nat → Option MFun} {cx : Cx} {k : List Item} {kill : List Nat} {r : List MOp} {sl : Slots} {own : Own} {h : HP} {Q : St → Prop}
def WAi (T : Nat → Option MFun) (cx : Cx) (x : AV) (add : Option (List AV)) (d : Nat) (r : List MOp) (kill : List Nat) (k : List Item) (sl : Slots) (own : Own) (h : HP) (Q : St → Prop) : Prop :=
 onO add fun add=>onO (evAppend (St.look cx ⟨sl,own,h⟩) tI x add) fun e=>onO (applyEff cx (some d) true ⟨sl,own,h⟩ e) fun p=>W T cx (.ops r kill :: k) (p.2.setd (some d) p.1) Q
@[go_sem] theorem W_appendI {d : Nat} {x y : Opd} : W T cx (.ops (⟨some d,.append true [] tI x y,none⟩ :: r) kill :: k) ⟨sl,own,h⟩ Q = WAi T cx (St.opd ⟨sl,own,h⟩ x) (elems (St.look cx ⟨sl,own,h⟩) tI (St.opd ⟨sl,own,h⟩ y)) d r kill k sl own h Q:=by
 rw [W_op rfl,evOp]
 simp only [evK,WAi]
 cases elems (St.look cx ⟨sl,own,h⟩) tI (St.opd ⟨sl,own,h⟩ y) with
 | none=>rfl
 | some add =>
  simp only [onO_some]
  cases evAppend (St.look cx ⟨sl,own,h⟩) tI (St.opd ⟨sl,own,h⟩ x) add <;> rfl
@[go_sem] theorem WAi_nil {n : Int} {d : Nat} : WAi T cx .nilsl (some [.int .i64 n]) d r kill k sl own h Q =
  W T cx (.ops r kill :: k) ⟨sl.set d (.sl (.obj h.next) 0 1),own,h.nw (.arr 1 tI) (encL [n])⟩ Q:=by
 have hf:=encL_fits [n] (n:=1) rfl
 simp only [WAi,onO_some,evAppend,List.length_cons,List.length_nil,Nat.zero_add]
 rw [if_neg (by omega),if_pos ⟨hf,by omega⟩]
 rfl
end
structure IntsV (h : HP) (v : AV) (l : List Int) : Prop where
 len : lenV false v = some (.int .i64 l.length)
 fg : ∀ a b,Go.Mini.fg v (.stk a b) = v
 ld : ∀ a b,v.leads (.stk a b) = false
 ix : ∀ k,k < l.length → ∃ n,v = .sl (.arg n) 0 l.length ∧ h.look (.arg n) = some ⟨.arr l.length tI,encL l⟩
theorem IntsV.to {h h' : HP} {v : AV} {l : List Int} (a : IntsV h v l) (e : h'.arg = h.arg) : IntsV h' v l :=
 ⟨a.len,a.fg,a.ld,fun k hk=>by
  obtain ⟨n,h1,h2⟩:=a.ix k hk
  exact ⟨n,h1,by simp only [HP.look,e] at h2 ⊢; exact h2⟩⟩
open Go.RowKit Go.ChangeShapes
section
variable {H : Type} {enc : TypeId × Value → H} {P : Program}
theorem trodAll_stays (hl : laidOutB P = true) {W W' : World} {sp : Nat → Bool} (hB : Below W.heap.size W W') : ∀ {ts : List TypeId} {vs : List Value} {ds : List (DataW H)} {ps : List MemPlace},
  (∀ t ∈ ts,P.readableRec t = true ∧ t < P.types.size) → DataW.TrodAll enc P W 0 (fun _=>true) true ts vs ds ps → (∀ p ∈ ps,p.block < W.heap.size) → (∀ p ∈ ps,sp p.block = true) →
  DataW.TrodAll enc P W' 0 sp true ts vs ds ps
 | [],vs,ds,ps,_,h,_,_=>by
  obtain ⟨rfl,rfl,rfl⟩:=trodAll_nil h
  exact trodAll_mk0
 | t :: ts,vs,ds,ps,ht,h,h1,h2=>by
  obtain ⟨v,vs',d,ds',p,q,rfl,rfl,rfl,h3,h4⟩:=trodAll_cons h
  exact ⟨p,q,WideElems.Trod_stays hl (ht t List.mem_cons_self).1 (ht t List.mem_cons_self).2 h3 (fun x hx=>hB.same (h1 x (List.mem_append_left _ hx))) (fun x hx=>h2 x (List.mem_append_left _ hx)),
   trodAll_stays hl hB (fun t' ht'=>ht t' (List.mem_cons_of_mem _ ht')) h4 (fun x hx=>h1 x (List.mem_append_right _ hx)) (fun x hx=>h2 x (List.mem_append_right _ hx)),rfl⟩
theorem law_post {f : Func} {s : ChangeSpec} {tb : TypeId} {W W' : World} {args : Array Value} {ds gs : List (DataW H)} {before : List MemPlace} (hl : laidOutB P = true) (hts : ∀ t ∈ f.params.toList,P.readableRec t = true ∧ t < P.types.size)
  (hv : s.vars = []) (hr : f.resultTypes = #[tb]) (hb : P.underlying tb = some .bool)
  (hW : DataW.Whole enc P f.params.toList s.vars false W args.toList ds gs before) (hs : s.fn H ds = { results:=[.lit (.bool true)],args:=ds }) (hB : Below W.heap.size W W') :
  s.post enc P f false true false false W args (.bool true) W':=by
 have hlt:=hW.lt
 obtain ⟨p,q,hA,hV,rfl,hfz,hnd⟩:=id hW
 rw [hv] at hV
 obtain ⟨rfl,rfl⟩:=trodVars_none hV
 refine ⟨ds,[],p ++ [],[],p,[],hW,?_,?_,?_,hB.frame _,fun h=>by cases h⟩
 ·rw [hr,List.append_nil,hs]
  exact trodAll_cons_mk (shut_bool hb _) trodAll_mk0
 ·rw [List.append_nil,hs]
  exact trodAll_stays hl hB hts hA (fun x hx=>hlt x (by simpa using hx)) (fun x hx=>by simpa using hlt x (by simpa using hx))
 ·rw [hv,List.append_nil,hs]
  rfl
end
theorem dec_encV {α : Type} {f : α → AV} {t : Ty} {n : Nat} (h : ∀ v,t.fits v = true → ∃ a,v = f a) {v : AV} (hv : (Ty.arr n t).fits v = true) : ∃ w : Vector α n,v = encV f w:=by
 cases v with
 | arr k g =>
  simp only [Ty.fits,Bool.and_eq_true,beq_iff_eq,List.all_eq_true] at hv
  obtain ⟨rfl,hg⟩:=hv
  have hc : ∀ i,∃ a,g i = f a:=fun i=>h _ (hg i (List.mem_finRange _))
  refine ⟨Vector.ofFn fun i=>(hc i).choose,?_⟩
  simp only [encV]
  congr 1
  funext i
  simp only [Fin.getElem_fin,Vector.getElem_ofFn]
  exact (hc i).choose_spec
 | _=>simp [Ty.fits] at hv
theorem dec_int {v : AV} (h : tI.fits v = true) : ∃ n,v = .int .i64 n:=by
 cases v <;> simp [tI,Ty.fits,LK.fits,AV.safe] at h
 subst h; exact ⟨_,rfl⟩
theorem dec_bool {v : AV} (h : tB.fits v = true) : ∃ n,v = .bool n:=by
 cases v <;> simp [tB,Ty.fits,LK.fits,AV.safe] at h
 exact ⟨_,rfl⟩
theorem dec_str {v : AV} (h : tS.fits v = true) : ∃ n,v = .str n:=by
 cases v <;> simp [tS,Ty.fits,LK.fits,AV.safe] at h
 exact ⟨_,rfl⟩
theorem dec_cons {a b : Ty} {v : AV} (h : (Ty.cons a b).fits v = true) : ∃ x y,v = .cons x y ∧ a.fits x = true ∧ b.fits y = true:=by
 cases v <;> simp [Ty.fits] at h
 exact ⟨_,_,rfl,h⟩
theorem dec_unit {v : AV} (h : Ty.unit.fits v = true) : v = .unit:=by
 cases v <;> simp [Ty.fits] at h
 rfl
theorem dec_ent {v : AV} (h : tEntry.fits v = true) : ∃ e : Ent,v = e.enc:=by
 obtain ⟨a,v,rfl,ha,h⟩:=dec_cons h
 obtain ⟨b,v,rfl,hb,h⟩:=dec_cons h
 obtain ⟨c,v,rfl,hc,h⟩:=dec_cons h
 obtain rfl:=dec_unit h
 obtain ⟨a,rfl⟩:=dec_str ha
 obtain ⟨b,rfl⟩:=dec_int hb
 obtain ⟨c,rfl⟩:=dec_int hc
 exact ⟨⟨a,b,c⟩,rfl⟩
theorem dec_dat {v : AV} (h : tData.fits v = true) : ∃ e : Dat,v = e.enc:=by
 obtain ⟨a,v,rfl,ha,h⟩:=dec_cons h
 obtain ⟨b,v,rfl,hb,h⟩:=dec_cons h
 obtain rfl:=dec_unit h
 obtain ⟨a,rfl⟩:=dec_int ha
 obtain ⟨b,rfl⟩:=dec_str hb
 exact ⟨⟨a,b⟩,rfl⟩
theorem dec_ino {v : AV} (h : tInode.fits v = true) : ∃ e : Ino,v = e.enc:=by
 obtain ⟨a,v,rfl,ha,h⟩:=dec_cons h
 obtain ⟨b,v,rfl,hb,h⟩:=dec_cons h
 obtain ⟨c,v,rfl,hc,h⟩:=dec_cons h
 obtain ⟨d,v,rfl,hd,h⟩:=dec_cons h
 obtain rfl:=dec_unit h
 obtain ⟨a,rfl⟩:=dec_bool ha
 obtain ⟨b,rfl⟩:=dec_int hb
 obtain ⟨c,rfl⟩:=dec_int hc
 obtain ⟨d,rfl⟩:=dec_encV (f:=AV.int .i64) (fun _=>dec_int) hd
 exact ⟨⟨a,b,c,d⟩,rfl⟩
theorem dec_img {v : AV} (h : tImage.fits v = true) : ∃ e : Img,v = e.enc:=by
 obtain ⟨a,v,rfl,ha,h⟩:=dec_cons h
 obtain ⟨b,v,rfl,hb,h⟩:=dec_cons h
 obtain ⟨c,v,rfl,hc,h⟩:=dec_cons h
 obtain rfl:=dec_unit h
 obtain ⟨a,rfl⟩:=dec_encV (f:=Ino.enc) (fun _=>dec_ino) ha
 obtain ⟨b,rfl⟩:=dec_encV (f:=encV Ent.enc) (fun _=>dec_encV (f:=Ent.enc) fun _=>dec_ent) hb
 obtain ⟨c,rfl⟩:=dec_encV (f:=Dat.enc) (fun _=>dec_dat) hc
 exact ⟨⟨a,b,c⟩,rfl⟩
open Go.RowKit Go.ChangeShapes
def HP.args (f : Nat → Option Blk) : HP:=⟨fun _=>[],fun _=>none,0,f⟩
def betaA (g : Nat → Option Place) : Beta
 | .arg n=>g n
 | _=>none
def elemOk (P : Program) (ks : List LK) (e : TypeId) : Bool :=
 match P.underlying e with
 | some (.struct fs)=>Go.Deep.oneCellFields P fs && (P.cellsOf e == fs.size) && (fs.toList.map (fun f=>kindOf (P.underlying f.type)) == ks.map some)
 | d=>(P.cellsOf e == 1) && (match kindOf d with | some k=>ks == [k] | none=>false)
section
variable {H : Type} {enc : TypeId × Value → H} {P : Program} {w : World} {base : Nat} {spare : Nat → Bool} {held : Bool} {φ : Nat → Option FuncId} {β : Beta}
theorem wf_has {k : IntKind} {n : Int} (h : (Lit.int k n).wf = true) : k.has n:=by
 simp only [Lit.wf,Bool.and_eq_true,decide_eq_true_eq] at h
 exact h
theorem maxLen_le {n : Nat} (h : n ≤ maxLen) : (n : Int) ≤ IntKind.i64.max:=by
 have : IntKind.i64.max = 2 ^ 63 - 1:=by decide
 rw [this]
 unfold maxLen at h
 omega
theorem leaf_trod {u : TypeId} {k : LK} {n : Nat} {cs : List Value} {y : DataW H × List MemPlace} (hk : kindOf (P.underlying u) = some k) (h : DataW.trod enc P w base spare held n u cs = some y) : ∃ x,cs = [x] ∧ okCell k x:=by
 unfold kindOf at hk
 split at hk <;> simp at hk <;> subst hk <;> rename_i hu
 ·cases n with
  | zero=>simp [DataW.trod] at h
  | succ n =>
   unfold DataW.trod at h
   rw [hu] at h
   match cs,h with
   | [.bool b],_=>exact ⟨_,rfl,b,rfl⟩
 ·obtain ⟨s,rfl,_,hs⟩:=DataW.trod_string hu h
  exact ⟨_,rfl,s,rfl,maxLen_le hs⟩
 ·obtain ⟨m,rfl,_,hs⟩:=DataW.trod_int hu h
  exact ⟨_,rfl,m,rfl,wf_has hs⟩
theorem elem_trod {e : TypeId} {ks : List LK} {n : Nat} {cs : List Value} {y : DataW H × List MemPlace} (hk : elemOk P ks e = true) (h : DataW.trod enc P w base spare held n e cs = some y) : All2 okCell ks cs:=by
 unfold elemOk at hk
 split at hk
 ·rename_i fs hu
  simp only [Bool.and_eq_true,beq_iff_eq] at hk
  obtain ⟨⟨h1,h2⟩,h3⟩:=hk
  obtain ⟨xs,m,rfl,rfl,hl,hxl,hf⟩:=DataW.trod_struct hu h
  have hone:=Go.Deep.hone_of h1
  have hkl : ks.length = fs.size:=by simpa using (congrArg List.length h3).symm
  refine ⟨by omega,fun i k x hi hx=>?_⟩
  have hi' : i < fs.size:=by
   rcases Nat.lt_or_ge i ks.length with h | h
   ·omega
   ·rw [List.getElem?_eq_none h] at hi; simp at hi
  have hfi : fs[i]? = some fs[i]:=Array.getElem?_eq_getElem hi'
  obtain ⟨ho,hc1⟩:=hone i _ hfi
  have g:=hf i _ hfi
  rw [ho,hc1,Go.Deep.take1_drop cs i undef (by omega),List.getElem?_eq_getElem (by omega)] at g
  have hki : kindOf (P.underlying fs[i].type) = some k:=by
   have:=congrArg (fun l=>l[i]?) h3
   simp only [List.getElem?_map,hi,Array.getElem?_toList,hfi,Option.map_some] at this
   simpa using this
  obtain ⟨x',e1,e2⟩:=leaf_trod hki g
  have : cs.getD i undef = x:=by simp [List.getD,hx]
  rw [this] at e1
  simp at e1
  subst e1; exact e2
 ·simp only [Bool.and_eq_true,beq_iff_eq] at hk
  obtain ⟨_,hk⟩:=hk
  cases hq : kindOf (P.underlying e) with
  | none=>rw [hq] at hk; simp at hk
  | some k =>
   rw [hq] at hk
   simp at hk
   subst hk
   obtain ⟨x,rfl,hx⟩:=leaf_trod hq h
   exact All2.cons hx All2.nil
structure SliceAt (φ : Nat → Option FuncId) (W : World) (t : Ty) (l : List AV) (x : Value) (pl : Place) : Prop where
 ty : pl.ty = .arr l.length t
 val : ∀ (g : Nat → Option Place) n,g n = some pl → VR φ (betaA g) (.sl (.arg n) 0 l.length) x
 blk : ∀ (g : Nat → Option Place) (O : Nat → Prop) n,g n = some pl → ∃ cs T fr,BR φ (betaA g) O (.arg n) ⟨.arr l.length t,.ofList l⟩ W pl cs T fr
theorem fits_ofList {t : Ty} {l : List AV} (h : ∀ v ∈ l,t.fits v = true) : (Ty.arr l.length t).fits (.ofList l) = true:=by
 simp only [AV.ofList,Ty.fits,beq_self_eq_true,Bool.true_and,List.all_eq_true]
 exact fun i _=>h _ (List.get_mem ..)
theorem given_slice {t : Ty} {U e : TypeId} {r : Reach} {b : Nat} {x : Value} {d : DataW H} {ps : List MemPlace} (hu : P.underlying U = some (.slice e)) (hk : elemOk P t.kinds e = true) (hs : P.cellsOf e = t.size) (hp : 0 < t.size)
  (hok : Value.okWide P w r b U x) (h : DataW.Trod enc P w 0 (fun _=>true) true U x d ps) :
  ∃ l : List AV,(∀ v ∈ l,t.fits v = true ∧ v.ranged) ∧ ((l = [] ∧ (x = .slice none 0 0 ∨ ∃ a cap,x = .slice (some a) 0 cap)) ∨ ∃ pl,SliceAt φ w t l x pl):=by
 obtain ⟨fuel,h⟩:=h
 have hx : Cell.okWide P w r b U x:=by unfold Value.okWide at hok; rw [hu] at hok; exact hok
 have hx' : Cell.ok P w r b U x:=by
  unfold Cell.okWide at hx
  rw [hu] at hx
  cases x <;> exact hx
 have hx'' : x = .slice none 0 0 ∨ ∃ a len cap,x = .slice (some a) len cap ∧ len ≤ cap ∧ a.spot = none:=by
  unfold Cell.ok at hx'
  rw [hu] at hx'
  cases x with
  | slice a len cap =>
   cases a with
   | none =>
    cases len <;> cases cap <;> simp at hx'
    exact .inl rfl
   | some a=>exact .inr ⟨a,len,cap,rfl,hx'.1,hx'.2.2.2.1⟩
  | _=>simp at hx'
 rcases hx'' with rfl | ⟨a,len,cap,rfl,hlc,hspot⟩
 ·exact ⟨[],by simp,.inl ⟨rfl,.inl rfl⟩⟩
 by_cases h0 : len = 0
 ·subst h0
  exact ⟨[],by simp,.inl ⟨rfl,.inr ⟨a,cap,rfl⟩⟩⟩
 rcases Go.Deep.open_slice hu h with ⟨h1,_⟩ | ⟨a',len',cap',m,n,D,Pl,h1,_,_,hcm,hm,_,hel⟩
 ·simp [Value.cells] at h1
 simp [Value.cells] at h1
 obtain ⟨rfl,rfl,rfl⟩:=h1
 simp only [if_true] at hm
 subst hm
 rw [hs] at hel
 obtain ⟨br,off,spot⟩:=a
 simp only at hspot
 subst hspot

 obtain ⟨cs0,hc0,_⟩:=hel 0 (by omega)
 obtain ⟨_,hl0,hcell0⟩:=World.cells?_some hc0
 have hb0:=hcell0 0 hp
 rw [List.getElem?_eq_getElem (by omega)] at hb0
 obtain ⟨cs,T,fr,hheap⟩ : ∃ cs T fr,w.heap[br]? = some (.cells cs T fr):=by
  have hblk : ((Addr.mk br off none).add (0 * t.size)).add 0 = ⟨br,off,none⟩:=by simp [Addr.add]
  rw [hblk] at hb0
  unfold World.cell? at hb0
  split at hb0
  ·exact ⟨_,_,_,by assumption⟩
  ·simp at hb0
 have hcell : ∀ i,i < m → ∀ k,k < t.size → ∀ ci,w.cells? 0 ((Addr.mk br off none).add (i * t.size)) t.size = some ci → cs[off + i * t.size + k]? = ci[k]?:=by
  intro i hi k hkt ci hci
  obtain ⟨_,hl,hcell⟩:=World.cells?_some hci
  rw [← hcell k hkt]
  have : ((Addr.mk br off none).add (i * t.size)).add k = ⟨br,off + i * t.size + k,none⟩:=by
   unfold Addr.add
   by_cases e1 : i * t.size = 0 <;> by_cases e2 : k = 0 <;> simp [e1,e2]
  rw [this]
  simp [World.cell?,hheap]
 obtain ⟨V,hV⟩:=Go.Deep.choose_lt (α:=AV) (n:=len) (p:=fun i v=>t.fits v = true ∧ v.ranged ∧ ∀ (β : Beta) k c,v.flat[k]? = some c → ∃ x,cs[off + i * t.size + k]? = some x ∧ LR φ β c x) (fun i hi=>by
  obtain ⟨ci,hci,hti⟩:=hel i (by omega)
  obtain ⟨_,hlci,_⟩:=World.cells?_some hci
  obtain ⟨v,hf,hl,hr⟩:=build (φ:=φ) (β:=fun _=>none) t ci (elem_trod hk hti)
  refine ⟨v,hf,hr,fun β k c hc=>?_⟩
  have hkt : k < t.size:=by
   rcases Nat.lt_or_ge k v.flat.length with h | h
   ·rw [Ty.fits_length hf] at h; exact h
   ·rw [List.getElem?_eq_none h] at hc; simp at hc
  refine ⟨ci[k]'(by omega),?_,?_⟩
  ·rw [hcell i (by omega) k hkt ci hci,List.getElem?_eq_getElem (by omega)]
  ·have:=hl.2 k c _ hc (List.getElem?_eq_getElem (by omega))
   exact LR_congr (fun i pl _ h=>by simp at h) this)
 refine ⟨(List.range len).map V,fun v hv=>?_,.inr ⟨⟨br,off,.arr len t,m * t.size⟩,by simp,fun g n hg=>?_,fun g O n hg=>⟨cs,T,fr,?_⟩⟩⟩
 ·obtain ⟨i,hi,rfl⟩:=List.mem_map.1 hv
  obtain ⟨h1,h2,_⟩:=hV i (List.mem_range.1 hi)
  exact ⟨h1,h2⟩
 ·refine VR_of_VR1 ?_
  simp only [VR1,AV.isAgg,Bool.false_eq_true,if_false,LR,AV.rel,List.length_map,List.length_range]
  exact ⟨_,len,t,m,hg,rfl,by omega,by omega,by simp,by simp⟩
 ·have hfits : (Ty.arr ((List.range len).map V).length t).fits (.ofList ((List.range len).map V)) = true:=fits_ofList fun v hv=>by
   obtain ⟨i,hi,rfl⟩:=List.mem_map.1 hv
   exact (hV i (List.mem_range.1 hi)).1
  refine ⟨hg,by simp,hfits,hheap,?_,?_,?_,fun h=>by simp [Id.isArg] at h⟩
  ·
   obtain ⟨ci,hci,_⟩:=hel (m - 1) (by omega)
   obtain ⟨_,hlci,_⟩:=World.cells?_some hci
   have:=hcell (m - 1) (by omega) (t.size - 1) (by omega) ci hci
   rw [List.getElem?_eq_getElem (by omega)] at this
   obtain ⟨hlt,_⟩:=Array.getElem?_eq_some_iff.1 this
   show off + m * t.size ≤ cs.size
   have e : m * t.size = (m - 1) * t.size + t.size:=by
    have : m = (m - 1) + 1:=by omega
    calc m * t.size = ((m - 1) + 1) * t.size:=by rw [← this]
     _ = _:=by rw [Nat.add_mul,Nat.one_mul]
   omega
  ·simp only [Ty.size,List.length_map,List.length_range]
   exact Nat.mul_le_mul_right _ hlc
  ·intro k c hc
   have hflat : (AV.ofList ((List.range len).map V)).flat = (List.range len).flatMap fun i=>(V i).flat:=by
    rw [arr_flat,List.flatMap_map]
   rw [hflat] at hc
   have hlen : ∀ i ∈ List.range len,((V i).flat).length = t.size:=fun i hi=>Ty.fits_length (hV i (List.mem_range.1 hi)).1
   have hk : k / t.size < len:=by
    have hkl : k < ((List.range len).flatMap fun i=>(V i).flat).length:=by
     rcases Nat.lt_or_ge k ((List.range len).flatMap fun i=>(V i).flat).length with h | h
     ·exact h
     ·rw [List.getElem?_eq_none h] at hc; simp at hc
    have hll : ((List.range len).flatMap fun i=>(V i).flat).length = len * t.size:=by
     rw [List.length_flatMap,List.map_congr_left hlen,List.map_const',List.sum_replicate_nat,List.length_range]
    rw [hll] at hkl
    exact (Nat.div_lt_iff_lt_mul hp).2 hkl
   have e:=getElem?_flatMap_const (List.range len) (fun i=>(V i).flat) t.size hlen (k / t.size) (by simpa using hk) (k % t.size) (Nat.mod_lt _ hp)
   have ek : k / t.size * t.size + k % t.size = k:=by rw [Nat.mul_comm]; exact Nat.div_add_mod k t.size
   rw [ek] at e
   rw [e] at hc
   simp only [List.getElem_range] at hc
   obtain ⟨y,hy,hyl⟩:=(hV (k / t.size) hk).2.2 (betaA g) (k % t.size) c hc
   refine ⟨y,?_,hyl⟩
   show cs[off + k]? = some y
   rw [← hy]
   congr 1
   omega
end
section
variable {P : Program} {T : Nat → Option MFun}
theorem law_runA {φ : Nat → Option FuncId} {fuel F f : Nat} {fn : MFun} {args : List AV} {rargs : List Value} {v : AV} {hp : HP} {bf : Nat → Option Blk} {g : Nat → Option Place} (hT : TblOk P T φ drawOk) (hmo : P.follows .mixedOrders = true) (hf : T f = some fn) (hF : φ f = some F) (hfree : fn.nfree = 0)
  (hrun : runFn T fuel f args (HP.args bf) = some (v,hp)) (hlen : args.length = fn.params) (ha : All2 (VR φ (betaA g)) args rargs) (W : World)
  (hB : ∀ n b,bf n = some b → ∃ pl cs T fr,BR φ (betaA g) (fun r=>W.heap.size ≤ r) (.arg n) b W pl cs T fr) :
  Calls P F rargs.toArray W fun e W'=>(∃ x β',e = .returned x ∧ VR φ β' v x) ∧ Below W.heap.size W W':=by
 unfold runFn at hrun
 rw [hf] at hrun
 simp only at hrun
 cases hr : run T fuel ⟨0,⟨0,0⟩⟩ [.code fn.body] (St.enter args (HP.args bf)) with
 | none=>simp [hr] at hrun
 | some s2 =>
  simp only [hr,Option.map_eq_some_iff] at hrun
  obtain ⟨v',hv,he⟩:=hrun
  simp at he
  obtain ⟨rfl,_⟩:=he
  have hst : ∀ i b,(HP.args bf).look i = some b → ∃ n,i = .arg n ∧ bf n = some b:=by
   intro i b hb
   cases i with
   | stk l t=>simp [HP.args,HP.look,Own.get] at hb
   | obj n=>simp [HP.args,HP.look] at hb
   | arg n=>exact ⟨n,rfl,hb⟩
  have:=callSim hT (drawSound hT hmo) fuel ⟨0,⟨0,0⟩⟩ fn F args (HP.args bf) s2 v' (betaA g) (fun r=>W.heap.size ≤ r) rargs W (hT f fn F hf hF) hr hv (by simp [hlen,hfree]) ha
   ⟨fun i b hb=>by obtain ⟨n,rfl,h⟩:=hst i b hb; exact hB n b h,fun i j bi bj pi pj hi hj _ _ _ _=>by
    obtain ⟨n,rfl,_⟩:=hst i bi hi
    obtain ⟨m,rfl,_⟩:=hst j bj hj
    exact ⟨rfl,rfl⟩⟩ (fun i pl h=>by cases i <;> simp [betaA] at h <;> trivial) (fun _ _=>rfl) (fun r h=>h)
  refine this.mono fun e W' h=>?_
  obtain ⟨x,β',rfl,hvx,_,hA⟩:=h
  exact ⟨⟨x,β',rfl,hvx⟩,hA.same.os,hA.same.tape,hA.same.output,hA.same.size,fun k hk=>hA.same.block k hk (by omega)⟩
theorem law_callsS {φ : Nat → Option FuncId} {F f : Nat} {fn : MFun} {bf : Nat → Option Blk} {g : Nat → Option Place} (hT : TblOk P T φ drawOk) (hmo : P.follows .mixedOrders = true) (hf : T f = some fn) (hF : φ f = some F) (hfree : fn.nfree = 0)
  {args : Array Value} {avs : List AV} (W : World) (ha : All2 (VR φ (betaA g)) avs args.toList) (hlen : avs.length = fn.params) (hB : ∀ n b,bf n = some b → ∃ pl cs T fr,BR φ (betaA g) (fun r=>W.heap.size ≤ r) (.arg n) b W pl cs T fr)
  (h : Ok T ⟨0,⟨0,0⟩⟩ fn (St.enter avs (HP.args bf)) fun v _=>v = .bool true) :
  Calls P F args W fun e W'=>e = .returned (.bool true) ∧ Below W.heap.size W W':=by
 obtain ⟨n,s',v,hr,hv,rfl⟩:=h
 have hr' : runFn T n f avs (HP.args bf) = some (.bool true,s'.hp):=by simp only [runFn,hf,hr,hv]; rfl
 have:=law_runA hT hmo hf hF hfree hr' hlen ha W hB
 rw [Array.toArray_toList] at this
 refine this.mono fun e W' h=>⟨?_,h.2⟩
 obtain ⟨⟨x,β',rfl,hv⟩,_⟩:=h
 simp [VR,VR1,AV.isAgg,LR,AV.rel] at hv
 rw [hv]
end
open Go.RowKit Go.ChangeShapes
theorem dec_step {v : AV} (h : tStep.fits v = true) : ∃ x : SStep,v = x.enc:=by
 obtain ⟨a,v,rfl,ha,h⟩:=dec_cons h
 obtain ⟨b,v,rfl,hb,h⟩:=dec_cons h
 obtain ⟨c,v,rfl,hc,h⟩:=dec_cons h
 obtain ⟨d,v,rfl,hd,h⟩:=dec_cons h
 obtain ⟨e,v,rfl,he,h⟩:=dec_cons h
 obtain ⟨f,v,rfl,hf,h⟩:=dec_cons h
 obtain ⟨g,v,rfl,hg,h⟩:=dec_cons h
 obtain rfl:=dec_unit h
 obtain ⟨a,rfl⟩:=dec_int ha
 obtain ⟨b,rfl⟩:=dec_int hb
 obtain ⟨c,rfl⟩:=dec_int hc
 obtain ⟨d,rfl⟩:=dec_int hd
 obtain ⟨e,rfl⟩:=dec_str he
 obtain ⟨f,rfl⟩:=dec_str hf
 obtain ⟨g,rfl⟩:=dec_str hg
 exact ⟨⟨a,b,c,d,e,f,g⟩,rfl⟩
theorem dec_list {α : Type} {t : Ty} {f : α → AV} (hd : ∀ v,t.fits v = true → ∃ a,v = f a) : ∀ l : List AV,(∀ v ∈ l,t.fits v = true) → ∃ L : List α,l = L.map f
 | [],_=>⟨[],rfl⟩
 | v :: l,h=>by
  obtain ⟨a,rfl⟩:=hd v (h v List.mem_cons_self)
  obtain ⟨L,rfl⟩:=dec_list hd l fun w hw=>h w (List.mem_cons_of_mem _ hw)
  exact ⟨a :: L,rfl⟩
theorem i64max : IntKind.i64.max = 9223372036854775807:=by decide
theorem step_ranged {x : SStep} (h : x.enc.ranged) : x.ok:=by
 obtain ⟨_,_,_,_,h5,h6,h7,_⟩:=h
 have e:=i64max
 refine ⟨?_,?_,?_⟩
 ·have : ((ByteArray.size x.name : Nat) : Int) ≤ IntKind.i64.max:=h5
  omega
 ·have : ((ByteArray.size x.to : Nat) : Int) ≤ IntKind.i64.max:=h6
  omega
 ·have : ((ByteArray.size x.text : Nat) : Int) ≤ IntKind.i64.max:=h7
  omega
section
variable {H : Type} {enc : TypeId × Value → H} {P : Program} {w : World} {φ : Nat → Option FuncId}
theorem given_steps {U e : TypeId} {r : Reach} {b : Nat} {x : Value} {d : DataW H} {ps : List MemPlace} (hu : P.underlying U = some (.slice e)) (hk : elemOk P tStep.kinds e = true) (hs : P.cellsOf e = tStep.size)
  (hok : Value.okWide P w r b U x) (h : DataW.Trod enc P w 0 (fun _=>true) true U x d ps) (n : Nat) :
  ∃ (L : List SStep) (v : AV) (bf : Option Blk) (pl : Option Place),(∀ k,(stp L k).ok) ∧ (∀ g : Nat → Option Place,g n = pl → VR φ (betaA g) v x) ∧
   (∀ (g : Nat → Option Place) (O : Nat → Prop) (b : Blk),g n = pl → bf = some b → ∃ pl' cs T fr,BR φ (betaA g) O (.arg n) b w pl' cs T fr) ∧ (∀ h : HP,h.arg n = bf → StepsV h v L):=by
 obtain ⟨l,hl,hc⟩:=given_slice (φ:=φ) (t:=tStep) hu hk hs (by decide) hok h
 obtain ⟨L,rfl⟩:=dec_list (fun _=>dec_step) l fun v hv=>(hl v hv).1
 have hokL : ∀ k,(stp L k).ok:=by
  intro k
  by_cases hk : k < L.length
  ·have : stp L k = L[k]:=by simp [stp,hk]
   rw [this]
   exact step_ranged (hl _ (List.mem_map.2 ⟨_,List.getElem_mem hk,rfl⟩)).2
  ·have : stp L k = ⟨0,0,0,0,⟨#[]⟩,⟨#[]⟩,⟨#[]⟩⟩:=by simp only [stp]; rw [List.getD_eq_getElem?_getD,List.getElem?_eq_none (by omega)]; rfl
   rw [this]
   exact ⟨Nat.zero_le _,Nat.zero_le _,Nat.zero_le _⟩
 rcases hc with ⟨h0,hx⟩ | ⟨pl,hp⟩
 ·have hL : L = []:=by simpa using h0
  subst hL
  rcases hx with rfl | ⟨a,cap,rfl⟩
  ·exact ⟨[],.nilsl,none,none,hokL,fun g _=>by simp [VR,VR1,AV.isAgg,LR,AV.rel],fun _ _ b _ hb=>by simp at hb,fun h _=>⟨rfl,fun _ _=>rfl,fun _ _=>rfl,fun k hk=>by simp at hk⟩⟩
  ·exact ⟨[],.slz,none,none,hokL,fun g _=>by simp [VR,VR1,AV.isAgg,LR,AV.rel],fun _ _ b _ hb=>by simp at hb,fun h _=>⟨rfl,fun _ _=>rfl,fun _ _=>rfl,fun k hk=>by simp at hk⟩⟩
 ·have hlen : (L.map SStep.enc).length = L.length:=List.length_map ..
  refine ⟨L,.sl (.arg n) 0 L.length,some ⟨.arr L.length tStep,encSteps L⟩,some pl,hokL,fun g hg=>?_,fun g O b hg hb=>?_,fun h hh=>⟨rfl,fun a b=>fg_args n a b _ _,fun a b=>leads_args n a b _ _,fun k hk=>⟨n,rfl,?_⟩⟩⟩
  ·have:=hp.val g n hg
   rwa [hlen] at this
  ·simp only [Option.some.injEq] at hb
   subst hb
   obtain ⟨cs,T,fr,hB⟩:=hp.blk g O n hg
   rw [hlen] at hB
   exact ⟨pl,cs,T,fr,hB⟩
  ·simp only [HP.look]; exact hh
end
section
variable {P : Program} {φ : Nat → Option FuncId} {β : Beta} {W : World} {r : Reach} {b : Nat} {x : Value} {U : TypeId}
theorem given_intB (hk : kindOf (P.underlying U) = some (.int .i64)) (h : Value.okWide P W r b U x) : ∃ n,VR φ β (.int .i64 n) x:=by
 obtain ⟨v,h1,_,h3⟩:=given_leaf (φ:=φ) (β:=β) hk h
 obtain ⟨n,rfl⟩:=dec_int h1
 exact ⟨n,h3⟩
theorem given_strB (hk : kindOf (P.underlying U) = some .str) (h : Value.okWide P W r b U x) : ∃ n : Str,n.size ≤ 9223372036854775807 ∧ VR φ β (.str n) x:=by
 obtain ⟨v,h1,h2,h3⟩:=given_leaf (φ:=φ) (β:=β) hk h
 obtain ⟨n,rfl⟩:=dec_str h1
 have e:=i64max
 have : ((ByteArray.size n : Nat) : Int) ≤ IntKind.i64.max:=h2
 exact ⟨n,by omega,h3⟩
theorem given_imgB {ts : List TypeId} (hts : P.cellTypes P.depth U = some ts) (hk : (ts.map fun u=>kindOf (P.underlying u)) = tImage.kinds.map some) (hu : ∃ fs,P.underlying U = some (.struct fs)) (hc : P.cellsOf U = tImage.kinds.length)
  (h : Value.okWide P W r b U x) : ∃ m : Img,VR φ β m.enc x:=by
 obtain ⟨v,h1,_,h3⟩:=given_agg (φ:=φ) (β:=β) hts hk rfl (.inl hu) hc h
 obtain ⟨n,rfl⟩:=dec_img h1
 exact ⟨n,h3⟩
theorem given_stepB {ts : List TypeId} (hts : P.cellTypes P.depth U = some ts) (hk : (ts.map fun u=>kindOf (P.underlying u)) = tStep.kinds.map some) (hu : ∃ fs,P.underlying U = some (.struct fs)) (hc : P.cellsOf U = tStep.kinds.length)
  (h : Value.okWide P W r b U x) : ∃ m : SStep,m.ok ∧ VR φ β m.enc x:=by
 obtain ⟨v,h1,h2,h3⟩:=given_agg (φ:=φ) (β:=β) hts hk rfl (.inl hu) hc h
 obtain ⟨n,rfl⟩:=dec_step h1
 exact ⟨n,step_ranged h2,h3⟩
end
theorem lets_top' : ∀ n,(⟨0,⟨0,0⟩⟩ : Cx).prot.lets (.obj n) = true:=fun n=>decide_eq_true (Nat.zero_le n)
def one1 {α : Type} (a : Option α) : Nat → Option α:=fun n=>if n = 0 then a else none
def two2 {α : Type} (a b : Option α) : Nat → Option α:=fun n=>if n = 0 then a else if n = 1 then b else none
@[go_sem] theorem fill_stepD (k : Int) (s t : Str) : fill tStep tStep.zero [(0,.int .i64 k),(4,.str s),(6,.str t)] = some (SStep.enc ⟨k,0,0,0,s,⟨#[]⟩,t⟩):=rfl
@[go_sem] theorem fill_stepE (k d : Int) (s t : Str) : fill tStep tStep.zero [(0,.int .i64 k),(4,.str s),(2,.int .i64 d),(5,.str t)] = some (SStep.enc ⟨k,0,d,0,s,t,⟨#[]⟩⟩):=rfl
def HF (h : HP) (F : Fl) : HP:=(h.nw tCache (encC F.now F.disk)).nw tFiles (encF h.next F.stamp)
section
variable {cx : Cx} {h : HP} {F : Fl}
theorem HF_F : (HF h F).look (.obj (h.next + 1)) = some ⟨tFiles,encF h.next F.stamp⟩:=look_nn1
theorem HF_C : (HF h F).look (.obj h.next) = some ⟨tCache,encC F.now F.disk⟩:=look_nn0
theorem HF_set {a b : Img} {s : Int} : ((HF h F).ob (h.next + 1) tFiles (encF h.next s)).ob h.next tCache (encC a b) = HF h ⟨a,b,s⟩:=by
 simp only [HF,HP.nw,HP.ob,HP.set,HP.mk.injEq,true_and,and_true]
 funext k
 by_cases h1 : k = h.next
 ·subst h1; simp
 ·by_cases h2 : k = h.next + 1 <;> simp [h1,h2]
theorem HF_fr : Fr h (HF h F) []:=Fr.nw.trans Fr.nw
theorem Do_HF {x : SStep} (hl : ∀ n,cx.prot.lets (.obj n) = true) (hw : WF F.now) (hx : x.ok) :
  Ok tblE cx Fn.soft_Files_Do (St.enter [.ptr (.obj (h.next + 1)) [] tFiles,x.enc] (HF h F)) fun v h'=>v = .int .i64 (doC F x) ∧ h' = HF h (doF F x):=by
 refine (Do_ok hl HF_F HF_C (by omega) hw hx.name hx.to hx.text).mono fun v h' e=>?_
 refine ⟨e.1,?_⟩
 rw [e.2,HF_set]
 have:=doF_disk F x
 generalize doF F x = G at this ⊢
 cases G
 simp only at this
 subst this
 rfl
end
def fb0 : Fl:=⟨.blank,.blank,0⟩
def sFx : SStep:=⟨5,0,0,0,⟨#[97]⟩,⟨#[]⟩,⟨#[120]⟩⟩
def sFl : SStep:=⟨2,0,2,0,⟨#[97]⟩,⟨#[98]⟩,⟨#[]⟩⟩
def fb1 : Fl:=doF fb0 sA
def fb2 : Fl:=doF fb1 sFx
def fb3 : Fl:=doF fb2 sFl
theorem fbA : doC fb0 sA = 0:=by decide +kernel
theorem fbB : doC fb1 sFx = 0:=by decide +kernel
theorem fbC : doC fb2 sFl = 0:=by decide +kernel
theorem fbW0 : WF fb0.now:=WF_check (by decide +kernel)
theorem fbW1 : WF fb1.now:=WF_check (by decide +kernel)
theorem fbW2 : WF fb2.now:=WF_check (by decide +kernel)
theorem fbW3 : WF fb3.now:=WF_check (by decide +kernel)
theorem fbR : readT fb3.now 2 ⟨#[98]⟩ 0 = ⟨#[120]⟩ ∧ readB fb3.now 2 ⟨#[98]⟩ 0 = true ∧ readC fb3.now 2 ⟨#[98]⟩ 0 = 0:=by decide +kernel
theorem fbS : sameB fb3.now 0 ⟨#[97]⟩ 2 ⟨#[98]⟩ = true:=by decide +kernel
theorem fbU : sureB fb3.now fb3.disk 0 ⟨#[97]⟩ = false:=by decide +kernel
theorem fbK : (fb3.now.ino 0).links = 2:=by decide +kernel
theorem fbL : listOf fb3.now 2 = [⟨#[98]⟩]:=by
 have : namesL fb3.now 2 4 = [⟨#[98]⟩]:=by decide +kernel
 show (if (2 : Int) < 0 ∨ (3 : Int) ≤ 2 then [] else sortS (namesL fb3.now (2 : Int).toNat 4)) = _
 rw [if_neg (by omega)]
 show sortS (namesL fb3.now 2 4) = _
 rw [this]
 simp [sortS]
section
variable {cx : Cx} {h : HP}
theorem softBegun_ok (hl : ∀ n,cx.prot.lets (.obj n) = true) : Ok tblE cx Fn.w_softBegun (St.enter [] h) fun v h'=>Fr h h' [] ∧ v = .bool true:=by
 rw [Ok_eq]
 simp (maxSteps:=999999) (disch:=omega) only [go_sem]
 refine W_callh (v:=.ptr (.obj (h.next + 1)) [] tFiles) (HF h fb0) rfl ⟨rfl,rfl⟩ rfl (by simp only [go_sem]; exact SNew_ok) ?_
 simp (maxSteps:=999999) (disch:=omega) only [go_sem]
 refine W_callp rfl ⟨rfl,rfl⟩ (by simp only [go_sem]; exact SOf_no (m:=Img.zero) zero_small (by rw [cb11]; decide)) ?_
 simp (maxSteps:=999999) (disch:=omega) only [go_sem]
 refine W_callh (v:=.int .i64 (doC fb0 sA)) (HF h fb1) rfl ⟨rfl,rfl⟩ rfl (by simp only [go_sem]; exact Do_HF (h:=h.push cx.lvl []) (F:=fb0) (x:=sA) (by exact hl) fbW0 (stepOk_short (by decide))) ?_
 rw [fbA]
 simp (maxSteps:=999999) (disch:=omega) only [go_sem]
 refine W_callh (v:=.int .i64 (doC fb1 sFx)) (HF h fb2) rfl ⟨rfl,rfl⟩ rfl (by simp only [go_sem]; exact Do_HF (h:=h.push cx.lvl []) (F:=fb1) (x:=sFx) (by exact hl) fbW1 ⟨by decide,by decide,by decide⟩) ?_
 rw [fbB]
 simp (maxSteps:=999999) (disch:=omega) only [go_sem]
 refine W_callh (v:=.int .i64 (doC fb2 sFl)) (HF h fb3) rfl ⟨rfl,rfl⟩ rfl (by simp only [go_sem]; exact Do_HF (h:=h.push cx.lvl []) (F:=fb2) (x:=sFl) (by exact hl) fbW2 ⟨by decide,by decide,by decide⟩) ?_
 rw [fbC]
 simp (maxSteps:=999999) (disch:=omega) only [go_sem]
 refine W_callp rfl ⟨rfl,rfl⟩ (by simp only [go_sem]; exact Read_ok (h:=(HF h fb3).push cx.lvl []) (f:=h.next + 1) (c:=h.next) (a:=fb3.now) (b:=fb3.disk) (st:=fb3.stamp) HF_F HF_C fbW3 (by decide)) ?_
 rw [fbR.1,fbR.2.1,fbR.2.2]
 simp (maxSteps:=999999) (disch:=omega) only [go_sem,encR]
 refine W_callp rfl ⟨rfl,rfl⟩ (by simp only [go_sem]; exact Same_ok (h:=(HF h fb3).push cx.lvl []) (f:=h.next + 1) (c:=h.next) (a:=fb3.now) (b:=fb3.disk) (st:=fb3.stamp) HF_F HF_C) ?_
 rw [fbS]
 simp (maxSteps:=999999) (disch:=omega) only [go_sem]
 refine W_callp rfl ⟨rfl,rfl⟩ (by simp only [go_sem]; exact Sure_ok (h:=(HF h fb3).push cx.lvl []) (f:=h.next + 1) (c:=h.next) (a:=fb3.now) (b:=fb3.disk) (st:=fb3.stamp) HF_F HF_C) ?_
 rw [fbU]
 simp (maxSteps:=999999) (disch:=omega) only [go_sem]
 refine W_callF (S:=[]) (R:=fun v h'=>SlF (HF h fb3) h' v (listOf fb3.now 2)) rfl ⟨rfl,rfl⟩ (by simp only [go_sem]; exact List_ok (h:=(HF h fb3).push cx.lvl []) (f:=h.next + 1) (c:=h.next) (a:=fb3.now) (b:=fb3.disk) (st:=fb3.stamp) (by exact hl) HF_F HF_C) (fun v h1 e=>e) ?_
 rintro v h7 hF7 hs
 rw [fbL] at hs
 have hlv : fg v (.stk cx.lvl 64) = v:=by
  rcases hs with ⟨rfl,_⟩ | ⟨q,rfl,_⟩ <;> simp only [go_sem]
 simp (maxSteps:=999999) (disch:=omega) only [go_sem,hlv]
 refine W_callp rfl ⟨rfl,rfl⟩ (by simp only [go_sem]; exact SameTexts_ok (m:=[⟨#[98]⟩]) hs.xp (.inr ⟨_,rfl,below_stk _ _,by simp only [HP.push_look_own,go_sem]; rfl⟩) (by decide)) ?_
 have f7 : h7.look (.obj (h.next + 1)) = some ⟨tFiles,encF h.next fb3.stamp⟩:=hF7.look (by show h.next + 1 < h.next + 1 + 1; omega) (by simp) HF_F
 have c7 : h7.look (.obj h.next) = some ⟨tCache,encC fb3.now fb3.disk⟩:=hF7.look (by show h.next < h.next + 1 + 1; omega) (by simp) HF_C
 simp (maxSteps:=999999) (disch:=omega) only [go_sem,f7,c7,fbK]
 exact HF_fr.trans hF7
end
structure FilAt (h : HP) (f c : Nat) (F : Fl) : Prop where
 fi : h.look (.obj f) = some ⟨tFiles,encF c F.stamp⟩
 ca : h.look (.obj c) = some ⟨tCache,encC F.now F.disk⟩
 fc : ¬f = c
 fn : f < h.next
 cn : c < h.next
theorem FilAt.push {h : HP} {f c l : Nat} {o : Own} {F : Fl} (a : FilAt h f c F) : FilAt (h.push l o) f c F:=⟨a.fi,a.ca,a.fc,a.fn,a.cn⟩
theorem FilAt.pop {h : HP} {f c l : Nat} {o : Own} {F : Fl} (a : FilAt (h.push l o) f c F) : FilAt h f c F:=⟨a.fi,a.ca,a.fc,a.fn,a.cn⟩
theorem FilAt.same {h h' : HP} {f c : Nat} {F : Fl} {S : List Nat} (a : FilAt h f c F) (b : Fr h h' S) (hf : f ∉ S) (hc : c ∉ S) : FilAt h' f c F :=
 ⟨b.look a.fn hf a.fi,b.look a.cn hc a.ca,a.fc,Nat.lt_of_lt_of_le a.fn b.next,Nat.lt_of_lt_of_le a.cn b.next⟩
def softF (F : Fl) (x : SStep) : Fl :=
 if x.kind = 7 then { F with disk:=(writeAs F.now F.disk x.p).1 } else
 if x.kind = 8 then { F with disk:=syncTo F.now F.disk } else
 if x.kind = 9 then F else doF F x
def FilN (h0 h : HP) (f : Nat) (F : Fl) : Prop:=∃ c,FilAt h f c F ∧ (h0.next ≤ f ∧ h0.next ≤ c) ∧ Fr h0 h []
theorem FilN.same {h0 h1 h2 : HP} {f : Nat} {F : Fl} (a : FilN h0 h1 f F) (b : Fr h1 h2 []) : FilN h0 h2 f F:=by
 obtain ⟨c,hA,hb,hF⟩:=a
 exact ⟨c,hA.same b (by simp) (by simp),hb,hF.trans b⟩
theorem FilN.stk {h0 h1 : HP} {f : Nat} {F : Fl} (a : FilN h0 h1 f F) : h1.stk = h0.stk:=by obtain ⟨_,_,_,hF⟩:=a; exact hF.stk
theorem FilN.arg {h0 h1 : HP} {f : Nat} {F : Fl} (a : FilN h0 h1 f F) : h1.arg = h0.arg:=by obtain ⟨_,_,_,hF⟩:=a; exact hF.arg
theorem FilN.new {h : HP} : FilN h (HF h fb0) (h.next + 1) fb0 :=
 ⟨h.next,⟨HF_F,HF_C,by omega,by show h.next + 1 < h.next + 1 + 1; omega,by show h.next < h.next + 1 + 1; omega⟩,⟨by omega,by omega⟩,HF_fr⟩
def softRun (F : Fl) (l : List SStep) : Nat → Fl
 | 0=>F
 | k + 1=>softF (softRun F l k) (stp l k)
theorem softF_life (F : Fl) (x : SStep) (h : ¬x.kind = 9) : softF F x = (lifeF ⟨F,0,0,0,0⟩ x).fl:=by
 unfold softF lifeF
 by_cases c7 : x.kind = 7
 ·rw [if_pos c7,if_pos c7]
 ·rw [if_neg c7,if_neg c7]
  by_cases c8 : x.kind = 8
  ·rw [if_pos c8,if_pos c8]
  ·rw [if_neg c8,if_neg c8,if_neg h,if_neg h]
theorem Inv.softF {F : Fl} (h : Inv F) (hs : F.stamp < 4611686018427387904) (x : SStep) : Inv (softF F x) ∧ (Go.Mini.softF F x).stamp ≤ F.stamp + 1:=by
 by_cases c9 : x.kind = 9
 ·have : Go.Mini.softF F x = F:=by simp [Go.Mini.softF,c9]
  rw [this]; exact ⟨h,by omega⟩
 ·rw [softF_life F x c9]
  exact Inv.lifeF (L:=⟨F,0,0,0,0⟩) h hs x
theorem inv_soft {F : Fl} (l : List SStep) (h : Inv F) (hs : F.stamp ≤ 1000000000) : ∀ k,k ≤ 1000000000 → Inv (softRun F l k) ∧ (softRun F l k).stamp ≤ 1000000000 + k
 | 0,_=>⟨h,by show F.stamp ≤ _; omega⟩
 | k + 1,hk=>by
  obtain ⟨a,b⟩:=inv_soft l h hs k (by omega)
  obtain ⟨c,d⟩:=a.softF (by omega) (stp l k)
  exact ⟨c,by show (Go.Mini.softF (softRun F l k) (stp l k)).stamp ≤ _; omega⟩
theorem FilAt.obs {h : HP} {f c : Nat} {F G : Fl} (a : FilAt h f c F) (e : G.disk = F.disk) : FilAt ((h.ob f tFiles (encF c G.stamp)).ob c tCache (encC G.now F.disk)) f c G :=
 ⟨by rw [look_ob_ne a.fc,look_ob],by rw [look_ob,e],a.fc,a.fn,a.cn⟩
theorem FilN.sync {h0 h : HP} {f c : Nat} {F : Fl} {b : Img} (hA : FilAt h f c F) (hb : h0.next ≤ f ∧ h0.next ≤ c) (hF : Fr h0 h []) : FilN h0 (h.ob c tCache (encC F.now b)) f { F with disk:=b } :=
 ⟨c,⟨by rw [look_ob_ne hA.fc]; exact hA.fi,look_ob,hA.fc,hA.fn,hA.cn⟩,hb,hF.since (S:=[c]) (Fr.ob (by simp)) (by simpa using hb.2)⟩
def Two (f g : Nat) (F G : Fl) (h : HP) : Prop:=(∃ c,FilAt h f c F) ∧ ∃ c,FilAt h g c G
theorem Two.same {f g : Nat} {F G : Fl} {h h1 : HP} (a : Two f g F G h) (b : Fr h h1 []) : Two f g F G h1:=by
 obtain ⟨⟨c,a1⟩,⟨e,a2⟩⟩:=a
 exact ⟨⟨c,a1.same b (by simp) (by simp)⟩,⟨e,a2.same b (by simp) (by simp)⟩⟩
def sMk (d : Int) (s : Str) : SStep:=⟨1,d,0,0,s,⟨#[]⟩,⟨#[]⟩⟩
@[go_sem] theorem fill_stepF (d : Int) (s : Str) : fill tStep tStep.zero [(0,.int .i64 1),(1,.int .i64 d),(4,.str s)] = some (sMk d s).enc:=rfl
structure NewFile (F : Fl) (d : Int) (s : Str) (A : Img) (k n : Nat) : Prop where
 now : (doF F (sMk d s)).now = A
 d0 : 0 ≤ d
 d3 : d < 3
 k4 : k < 4
 n8 : n < 8
 slot : slotOf A d s = k
 ent : A.ent d.toNat k = ⟨s,n,F.stamp + 1⟩
 disk : refs F.disk n = 0
 one : refs A n = 1
 dead : (F.now.ino n).live = false
 old : ∀ j,j < 8 → (F.now.ino j).live = true → (F.now.ino j).stamp < F.stamp + 1 ∧ A.ino j = F.now.ino j
 rd : ∀ p : Int,0 ≤ p → p < 2 → readC A d s p = 0 ∧ readB A d s p = false
theorem newFile {F : Fl} (h : Inv F) (hs : F.stamp < 4611686018427387904) {d : Int} {s : Str} (c : doC F (sMk d s) = 0) : ∃ A k n,NewFile F d s A k n:=by
 have c0:=doC_zero c
 obtain ⟨_,⟨d0,d3⟩,hn,_,_,_⟩:=stepFault_zero c0
 change 0 ≤ d at d0
 change d < 3 at d3
 change isName s = true at hn
 have hne:=isName_ne hn
 have hm : makeC F d s = 0:=by
  unfold doC at c
  rw [if_neg (by simpa using c0),if_pos (show (sMk d s).kind = 1 from rfl)] at c
  exact c
 have hm':=hm
 unfold makeC at hm
 split at hm
 ·omega
 rename_i q1
 split at hm
 ·omega
 rename_i q2
 rcases freeIno_cases F.now F.disk with e | ⟨n,n8,e,ed,er⟩
 ·exact absurd (.inl (by omega)) q2
 rcases room_cases F.now F.disk d s with e2 | ⟨k,k4,e2,_,_,ke,kb,sb⟩
 ·exact absurd (.inr (by omega)) q2
 have s0:=h.s0
 have hst : IntKind.i64.wrap (F.stamp + 1) = F.stamp + 1:=wrap64 (by omega) (by omega)
 have dn : d.toNat < 3:=by omega
 have hno:=slot_none d0 d3 hne (by omega : slotOf F.now d s < 0)
 have hr0:=dead_refs h.cn n8 ed
 have hA : (doF F (sMk d s)).now = addName (F.now.setIno n (newIno (F.stamp + 1))) d.toNat k s n:=by
  unfold doF
  rw [if_neg (by simpa using c),if_pos (show (sMk d s).kind = 1 from rfl)]
  show (makeF F d s).now = _
  unfold makeF
  rw [if_pos hm',e,e2,hst]
  rfl
 have hent:=ent_addName (F.now.setIno n (newIno (F.stamp + 1))) d.toNat k s n
 have hns : ((F.now.setIno n (newIno (F.stamp + 1))).ino n) = newIno (F.stamp + 1):=by rw [ino_setIno,if_pos ⟨rfl,n8⟩]
 have hino : ∀ j,j < 8 → (addName (F.now.setIno n (newIno (F.stamp + 1))) d.toNat k s n).ino j = if n = j then { newIno (F.stamp + 1) with links:=IntKind.i64.wrap (0 + 1) } else F.now.ino j:=fun j hj=>by
  simp only [addName,ino_setIno,ino_setEnt,hj,n8,and_true]
  by_cases e : n = j
  ·subst e
   simp only [if_true]
   rfl
  ·rw [if_neg e,if_neg e,if_neg e]
 have hrf : refs (addName (F.now.setIno n (newIno (F.stamp + 1))) d.toNat k s n) n = 1:=by
  rw [addName,refs_setIno,refs_other (m:=F.now.setIno n (newIno (F.stamp + 1))) dn k4 ke,refs_setIno,hr0]
  simp [leadsE,hne,b2n]
 generalize hX : addName (F.now.setIno n (newIno (F.stamp + 1))) d.toNat k s n = A at *
 have he : A.ent d.toNat k = ⟨s,n,F.stamp + 1⟩:=by
  rw [hent,if_pos ⟨⟨rfl,rfl⟩,dn,k4⟩,hns]; rfl
 have hsl : slotOf A d s = k:=by
  unfold slotOf
  rw [if_neg (by simp only [not_or]; exact ⟨by omega,by omega,hne⟩)]
  refine findN_at (j:=k) (fun i hi=>?_) (by simp [he]) k4
  have : ¬(A.ent d.toNat i).name = s:=by
   rw [hent,if_neg (by omega)]
   exact hno i (by omega)
  simpa using this
 refine ⟨A,k,n,hA,d0,d3,k4,n8,hsl,he,er,hrf,ed,fun j hj hl=>⟨by have:=h.sn j hj hl; omega,?_⟩,fun p p0 p2=>?_⟩
 ·rw [hino j hj,if_neg (by rintro rfl; rw [ed] at hl; simp at hl)]
 ·have hf : stepFault ⟨6,d,0,p,s,⟨#[]⟩,⟨#[]⟩⟩ = 0:=by
   have : dirFaultN d s = 0:=by unfold dirFaultN; rw [if_neg (by omega),if_pos hn]
   unfold stepFault
   rw [if_neg (by simp),if_neg (by simpa using this),if_neg (by simp),if_neg (by dsimp only; omega),if_neg (by simp)]
  have r0 : readC A d s p = 0:=by
   unfold readC
   rw [if_neg (by simpa using hf),if_neg (by omega)]
  refine ⟨r0,?_⟩
  have : readX A d s p = -1:=by
   unfold readX
   rw [hsl,Int.toNat_natCast,he]
   dsimp only
   rw [Int.toNat_natCast,hino n n8,if_pos rfl]
   obtain ⟨p,rfl⟩ : ∃ q : Nat,p = q:=⟨p.toNat,by omega⟩
   rw [Int.toNat_natCast]
   obtain rfl | rfl : p = 0 ∨ p = 1:=by omega
   ·rfl
   ·rfl
  simp [readB,this]
def SlG (t : Ty) (h0 h : HP) (v : AV) (l : List AV) : Prop:=(v = .nilsl ∧ l = []) ∨ ∃ q,v = .sl (.obj q) 0 l.length ∧ h0.next ≤ q ∧ q < h.next ∧ h.look (.obj q) = some ⟨.arr l.length t,.ofList l⟩ ∧ l ≠ []
theorem SlG.len {t : Ty} {h0 h : HP} {v : AV} {l : List AV} (a : SlG t h0 h v l) : lenV false v = some (.int .i64 l.length):=by
 rcases a with ⟨rfl,rfl⟩ | ⟨q,rfl,_⟩ <;> rfl
theorem SlG.fg {t : Ty} {h0 h : HP} {v : AV} {l : List AV} (a : SlG t h0 h v l) (x y : Nat) : fg v (.stk x y) = v:=by
 rcases a with ⟨rfl,_⟩ | ⟨q,rfl,_⟩ <;> simp only [go_sem]
theorem SlG.ld {t : Ty} {h0 h : HP} {v : AV} {l : List AV} (a : SlG t h0 h v l) (x y : Nat) : v.leads (.stk x y) = false:=by
 rcases a with ⟨rfl,_⟩ | ⟨q,rfl,_⟩ <;> simp only [go_sem]
structure Off (h h' : HP) (v : AV) : Prop where
 stk : h'.stk = h.stk
 arg : h'.arg = h.arg
 next : h.next ≤ h'.next
 same : ∀ n,n < h.next → v.into (.obj n) = false → h'.obj n = h.obj n
theorem Off.refl (h : HP) (v : AV) : Off h h v:=⟨rfl,rfl,Nat.le_refl _,fun _ _ _=>rfl⟩
theorem Off.look {h h' : HP} {v : AV} (a : Off h h' v) {n : Nat} {b : Option Blk} (hn : n < h.next) (hv : v.into (.obj n) = false) (e : h.look (.obj n) = b) : h'.look (.obj n) = b:=by
 rw [← e]; exact a.same n hn hv
theorem Off.fr {h0 h h' : HP} {v : AV} (f : Fr h0 h []) (a : Off h h' v) (hv : ∀ n,n < h0.next → v.into (.obj n) = false) : Fr h0 h' [] :=
 ⟨a.stk.trans f.stk,a.arg.trans f.arg,Nat.le_trans f.next a.next,fun n hn hs=>(a.same n (Nat.lt_of_lt_of_le hn f.next) (hv n hn)).trans (f.same n hn hs)⟩
theorem SlG.into {t : Ty} {h0 h : HP} {v : AV} {l : List AV} (a : SlG t h0 h v l) (n : Nat) (hn : n < h0.next) : v.into (.obj n) = false:=by
 rcases a with ⟨rfl,_⟩ | ⟨q,rfl,hq,_⟩
 ·rfl
 ·simp [AV.into]; omega
theorem SlG.same {t : Ty} {h0 h h' : HP} {v w : AV} {l : List AV} (a : SlG t h0 h v l) (b : Off h h' w) (hw : ∀ n,v.into (.obj n) = true → w.into (.obj n) = false) : SlG t h0 h' v l:=by
 rcases a with a | ⟨q,rfl,hq,hq2,hq3⟩
 ·exact .inl a
 ·exact .inr ⟨q,rfl,hq,Nat.lt_of_lt_of_le hq2 b.next,b.look hq2 (hw q (by simp [AV.into])) hq3.1,hq3.2⟩
theorem SlG.mono {t : Ty} {h0 h1 h : HP} {v : AV} {l : List AV} (a : SlG t h1 h v l) (e : h0.next ≤ h1.next) : SlG t h0 h v l:=by
 rcases a with a | ⟨q,rfl,hq,r⟩
 ·exact .inl a
 ·exact .inr ⟨q,rfl,Nat.le_trans e hq,r⟩
theorem toList_ofList (l : List AV) : (AV.ofList l).toList = some l:=by
 simp only [AV.ofList,AV.toList]
 congr 1
 exact List.ext_getElem (by simp) (by simp)
theorem fits_ofListG {t : Ty} {l : List AV} {n : Nat} (hn : n = l.length) (h : ∀ a ∈ l,t.fits a = true) : (Ty.arr n t).fits (.ofList l) = true:=by
 subst hn
 simp only [AV.ofList,Ty.fits,beq_self_eq_true,Bool.true_and,List.all_eq_true]
 exact fun i _=>h _ (List.get_mem ..)
section
variable {T : Nat → Option MFun} {cx : Cx} {k : List Item} {kill : List Nat} {r : List MOp} {sl : Slots} {own : Own} {h h0 : HP} {Q : St → Prop} {t : Ty}
theorem W_app {ap : List Nat} {d : Nat} {x y : Opd} {v : AV} {l add : List AV} (hx : St.opd ⟨sl,own,h⟩ x = v) (hl : ∀ n,cx.prot.lets (.obj n) = true) (h0n : h0.next ≤ h.next) (hS : SlG t h0 h v l)
  (hy : elems (St.look cx ⟨sl,own,h⟩) t (St.opd ⟨sl,own,h⟩ y) = some add) (hfl : ∀ a ∈ l,t.fits a = true) (hfa : ∀ a ∈ add,t.fits a = true) (hn : l.length + add.length ≤ 1048576)
  (hap : ∀ e,ap.all (apOk (St.opd ⟨sl,own,h⟩) v (St.opd ⟨sl,own,h⟩ y) e) = true)
  (hq : ∀ v' h',SlG t h0 h' v' (l ++ add) → Off h h' v → W T cx (.ops r kill :: k) ⟨sl.set d v',own,h'⟩ Q) :
  W T cx (.ops (⟨some d,.append true ap t x y,none⟩ :: r) kill :: k) ⟨sl,own,h⟩ Q:=by
 rw [W_op rfl,evOp]
 have hev : ∀ e,evAppend (St.look cx ⟨sl,own,h⟩) t v add = some e → evK (St.opd ⟨sl,own,h⟩) (St.look cx ⟨sl,own,h⟩) (.append true ap t x y) = some e:=by
  intro e he
  simp only [evK,hy,hx,he,hap e,if_true]
 rcases hS with ⟨rfl,rfl⟩ | ⟨q,rfl,hq1,hq2,hq3,hne⟩
 ·by_cases ha : add.length = 0
  ·have ha' : add = []:=List.eq_nil_of_length_eq_zero ha
   subst ha'
   rw [hev (.val .nilsl) (by simp [evAppend])]
   exact hq _ h (.inl ⟨rfl,rfl⟩) (Off.refl _ _)
  ·rw [hev (.new (some add.length) ⟨.arr add.length t,.ofList add⟩) (by
    simp only [evAppend]
    rw [if_neg ha,if_pos ⟨fits_ofListG rfl hfa,by simp at hn; omega⟩])]
   refine hq (.sl (.obj h.next) 0 add.length) (h.nw (.arr add.length t) (.ofList add)) (.inr ⟨h.next,by simp,h0n,Nat.lt_succ_self _,by simpa using look_nw,by simp; exact fun e=>ha (by rw [e]; rfl)⟩) ⟨rfl,rfl,Nat.le_succ _,fun n hn _=>?_⟩
   simp [HP.nw,HP.ob,HP.set]; omega
 ·have hlk : St.look cx ⟨sl,own,h⟩ (.obj q) = some ⟨.arr l.length t,.ofList l⟩:=hq3
  by_cases ha : add.length = 0
  ·have ha' : add = []:=List.eq_nil_of_length_eq_zero ha
   subst ha'
   have e0 : l.take l.length ++ [] ++ l.drop (l.length + 0) = l:=by simp
   rw [hev (.wr (.obj q) ⟨.arr l.length t,.ofList l⟩ (.sl (.obj q) 0 (l.length + 0))) (by
    simp only [evAppend,hlk,toList_ofList,if_true,List.length_nil,Nat.zero_add]
    rw [if_pos (by omega),e0,if_pos (fits_ofListG rfl hfl)])]
   simp only [applyEff,St.write,Id.own,hl q,if_true,Option.map_some,onO_some]
   refine hq (.sl (.obj q) 0 (l.length + 0)) (h.ob q (.arr l.length t) (.ofList l)) ?_ ⟨rfl,rfl,Nat.le_refl _,fun n hn hv=>obj_ob_ne fun e=>?_⟩
   ·exact .inr ⟨q,by simp,hq1,hq2,by simpa using look_ob,by simpa using hne⟩
   ·subst e; simp [AV.into] at hv
  ·rw [hev (.grow (.obj q) ⟨.arr (l.length + add.length) t,.ofList (l ++ add)⟩ (l.length + add.length)) (by
    simp only [evAppend,hlk,toList_ofList,if_true,Nat.zero_add,List.drop_zero]
    rw [if_neg (by omega),if_pos (by omega),List.take_of_length_le (Nat.le_refl _),if_pos ⟨fits_ofListG (by simp) (fun a ha=>by
     rcases List.mem_append.1 ha with h | h
     ·exact hfl a h
     ·exact hfa a h),hn⟩])]
   simp only [applyEff,St.drop,Id.own,hl q,if_true,Option.map_some,onO_some]
   refine hq (.sl (.obj h.next) 0 (l.length + add.length)) ((h.dl q).nw (.arr (l.length + add.length) t) (.ofList (l ++ add))) (.inr ⟨h.next,by simp,h0n,Nat.lt_succ_self _,?_,by simp [hne]⟩) ⟨rfl,rfl,Nat.le_succ _,fun n hn hv=>?_⟩
   ·have:=look_nw (h:=h.dl q) (t:=.arr (l.length + add.length) t) (v:=.ofList (l ++ add))
    rw [List.length_append]
    exact this
   ·have hnq : ¬n = q:=fun e=>by subst e; simp [AV.into] at hv
    simp [HP.nw,HP.ob,HP.set,HP.dl,hnq]; omega
theorem W_slc {rt : Option Nat} {d : Nat} {x : Opd} {lo hi : Option Opd} {v : AV} {l : List AV} {a b : Nat} (hx : St.opd ⟨sl,own,h⟩ x = v) (hS : SlG t h0 h v l)
  (hlo : (lo = none ∧ a = 0) ∨ ∃ y kk,lo = some y ∧ St.opd ⟨sl,own,h⟩ y = .int kk a) (hhi : (hi = none ∧ b = l.length) ∨ ∃ y kk,hi = some y ∧ St.opd ⟨sl,own,h⟩ y = .int kk b) (hab : a ≤ b) (hbl : b ≤ l.length)
  (hrt : rt = none ∨ ∃ u,rt = some u ∧ u < 1000000 ∧ Slots.get sl u = v)
  (hq : ∀ v',(∀ q,v'.into q = true → v.into q = true) → (∀ x y,Go.Mini.fg v' (.stk x y) = v') → (∀ sl' : Slots,elems (St.look cx ⟨sl',own,h⟩) t v' = some ((l.drop a).take (b - a))) → W T cx (.ops r kill :: k) ⟨sl.set d v',own,h⟩ Q) :
  W T cx (.ops (⟨some d,.slice rt t x lo hi none,none⟩ :: r) kill :: k) ⟨sl,own,h⟩ Q:=by
 rw [W_op rfl,evOp]
 have e1 : ixOr (St.opd ⟨sl,own,h⟩) lo 0 = some (a : Int):=by
  rcases hlo with ⟨rfl,rfl⟩ | ⟨y,kk,rfl,hy⟩
  ·rfl
  ·simp [ixOr,hy,toIx]
 rcases hS with ⟨rfl,rfl⟩ | ⟨q,rfl,hq1,hq2,hq3,_⟩
 ·obtain rfl : b = 0:=by simpa using hbl
  obtain rfl : a = 0:=by omega
  have e2 : ixOr (St.opd ⟨sl,own,h⟩) hi 0 = some (0 : Int):=by
   rcases hhi with ⟨rfl,_⟩ | ⟨y,kk,rfl,hy⟩
   ·rfl
   ·simp [ixOr,hy,toIx]
  have e3 : rootNil (St.opd ⟨sl,own,h⟩) rt = true:=by
   rcases hrt with rfl | ⟨u,rfl,_,hu⟩
   ·rfl
   ·simp [rootNil,St.opd,hu]
  have e1' : ixOr (St.opd ⟨sl,own,h⟩) lo 0 = some (0 : Int):=e1
  simp only [evK,hx,e1',e2,e3,if_true,applyEff]
  exact hq .nilsl (fun _ h=>h) (fun _ _=>rfl) fun _=>rfl
 ·have e2 : ixOr (St.opd ⟨sl,own,h⟩) hi (l.length : Int) = some (b : Int):=by
   rcases hhi with ⟨rfl,rfl⟩ | ⟨y,kk,rfl,hy⟩
   ·rfl
   ·simp [ixOr,hy,toIx]
  have e3 : rooted (St.opd ⟨sl,own,h⟩) (.obj q) rt = true:=by
   rcases hrt with rfl | ⟨u,rfl,hu,hs⟩
   ·rfl
   ·simp only [rooted]
    rw [if_neg (by omega),if_neg (by omega)]
    simp [St.opd,hs,AV.into]
  have hlk : ∀ sl' : Slots,St.look cx ⟨sl',own,h⟩ (.obj q) = some ⟨.arr l.length t,.ofList l⟩:=fun _=>hq3
  simp only [evK,hx,e1,e2,e3,if_true,evSlice,hlk,Option.map_none,true_and]
  rw [if_pos ⟨by omega,by omega,by omega⟩]
  by_cases hoff : 0 + (a : Int).toNat < l.length ∨ (a : Int) = 0
  ·rw [if_pos hoff]
   simp only [applyEff]
   refine hq (.sl (.obj q) (0 + (a : Int).toNat) ((b : Int) - a).toNat) (fun p hp=>by simpa [AV.into] using hp) (fun x y=>by simp only [go_sem]) fun sl'=>?_
   have h1 : ((b : Int) - a).toNat = b - a:=by omega
   simp only [elems,hlk,toList_ofList,h1]
   rw [if_pos ⟨trivial,by simp; omega⟩]
   simp
  ·rw [if_neg hoff]
   simp only [applyEff]
   refine hq .slz (fun p hp=>by simp [AV.into] at hp) (fun x y=>rfl) fun sl'=>?_
   have : b - a = 0:=by omega
   simp [elems,this]
end
abbrev tTag : Ty:=.cons tI (.cons tS (.cons tI .unit))
abbrev tRFile : Ty:=.cons (.arr 2 tB) (.cons (.arr 2 tS) .unit)
abbrev tRIdeal : Ty:=.cons tSl (.cons tSl .unit)
structure Tag where
 dir : Int
 name : Str
 file : Nat
 deriving DecidableEq
def Tag.enc (x : Tag) : AV:=.cons (.int .i64 x.dir) (.cons (.str x.name) (.cons (.int .i64 x.file) .unit))
@[go_sem] theorem at_tag0 (x : Tag) : x.enc.at [0] = some (.int .i64 x.dir):=rfl
@[go_sem] theorem at_tag1 (x : Tag) : x.enc.at [1] = some (.str x.name):=rfl
@[go_sem] theorem at_tag2 (x : Tag) : x.enc.at [2] = some (.int .i64 x.file):=rfl
@[go_sem] theorem fits_tag (x : Tag) : (tTag.fits x.enc = true) = True:=eq_true rfl
theorem fits_tags (l : List Tag) : ∀ a ∈ l.map Tag.enc,tTag.fits a = true:=fun a ha=>by
 obtain ⟨x,_,rfl⟩:=List.mem_map.1 ha; rfl
def tagN (l : List Tag) (k : Nat) : Tag:=l.getD k ⟨0,⟨#[]⟩,0⟩
theorem tagN_get {l : List Tag} {k : Nat} (h : k < l.length) : tagN l k = l[k]:=by simp [tagN,h]
@[go_sem] theorem tags_at (l : List Tag) {k : Nat} (h : k < l.length) (p : List Nat) : (AV.ofList (l.map Tag.enc)).at (k :: p) = (tagN l k).enc.at p:=by
 simp [AV.ofList,AV.at,h,tagN]
structure RFile where
 h0 : Bool
 h1 : Bool
 t0 : Str
 t1 : Str
def RFile.has (f : RFile) (p : Nat) : Bool:=if p = 0 then f.h0 else f.h1
def RFile.text (f : RFile) (p : Nat) : Str:=if p = 0 then f.t0 else f.t1
def RFile.enc (f : RFile) : AV:=.cons (.arr 2 fun i=>.bool (f.has i.val)) (.cons (.arr 2 fun i=>.str (f.text i.val)) .unit)
def RFile.zero : RFile:=⟨false,false,⟨#[]⟩,⟨#[]⟩⟩
theorem RFile.fits (f : RFile) : tRFile.fits f.enc = true:=by
 simp [RFile.enc,Ty.fits,tB,tS,LK.fits,AV.safe]
@[go_sem] theorem fits_rfile (f : RFile) : (tRFile.fits f.enc = true) = True:=eq_true f.fits
theorem fits_rfiles (l : List RFile) : ∀ a ∈ l.map RFile.enc,tRFile.fits a = true:=fun a ha=>by
 obtain ⟨x,_,rfl⟩:=List.mem_map.1 ha; exact x.fits
@[go_sem] theorem rfile_at0 (f : RFile) {p : Nat} (hp : p < 2) : f.enc.at [0,p] = some (.bool (f.has p)):=by
 simp [RFile.enc,AV.at,hp]
@[go_sem] theorem rfile_at1 (f : RFile) {p : Nat} (hp : p < 2) : f.enc.at [1,p] = some (.str (f.text p)):=by
 simp [RFile.enc,AV.at,hp]
@[go_sem] theorem fg_rfile (f : RFile) (i : Id) : fg f.enc i = f.enc:=rfl
@[go_sem] theorem leads_rfile (f : RFile) (i : Id) : f.enc.leads i = false:=rfl
@[go_sem] theorem fg_tag (f : Tag) (i : Id) : fg f.enc i = f.enc:=rfl
@[go_sem] theorem leads_tag (f : Tag) (i : Id) : f.enc.leads i = false:=rfl
@[go_sem] theorem rfile_nil (f : RFile) : f.enc.at [] = some f.enc:=rfl
def filN (l : List RFile) (k : Nat) : RFile:=l.getD k RFile.zero
@[go_sem] theorem files_at (l : List RFile) {k : Nat} (h : k < l.length) (p : List Nat) : (AV.ofList (l.map RFile.enc)).at (k :: p) = (filN l k).enc.at p:=by
 simp [AV.ofList,AV.at,h,filN]
def SlR (t : Ty) (h : HP) (v : AV) (l : List AV) : Prop:=(v = .nilsl ∧ l = []) ∨ ∃ q,v = .sl (.obj q) 0 l.length ∧ h.look (.obj q) = some ⟨.arr l.length t,.ofList l⟩
theorem SlG.r {t : Ty} {h0 h : HP} {v : AV} {l : List AV} (a : SlG t h0 h v l) : SlR t h v l:=by
 rcases a with a | ⟨q,h1,_,_,h2,_⟩
 ·exact .inl a
 ·exact .inr ⟨q,h1,h2⟩
theorem SlR.len {t : Ty} {h : HP} {v : AV} {l : List AV} (a : SlR t h v l) : lenV false v = some (.int .i64 l.length):=by
 rcases a with ⟨rfl,rfl⟩ | ⟨q,rfl,_⟩ <;> rfl
theorem SlR.fits {t : Ty} {h : HP} {v : AV} {l : List AV} (a : SlR t h v l) : (tSl.fits v = true) = True:=by
 rcases a with ⟨rfl,rfl⟩ | ⟨q,rfl,_⟩ <;> exact eq_true rfl
theorem SlR.push {t : Ty} {h : HP} {v : AV} {l : List AV} {x : Nat} {o : Own} (a : SlR t h v l) : SlR t (h.push x o) v l:=a
@[go_sem] theorem field_ri0 : tRIdeal.field 0 = some tSl:=rfl
@[go_sem] theorem field_ri1 : tRIdeal.field 1 = some tSl:=rfl
@[go_sem] theorem field_tag0 : tTag.field 0 = some tI:=rfl
@[go_sem] theorem field_tag1 : tTag.field 1 = some tS:=rfl
@[go_sem] theorem field_tag2 : tTag.field 2 = some tI:=rfl
@[go_sem] theorem field_rf0 : tRFile.field 0 = some (.arr 2 tB):=rfl
@[go_sem] theorem field_rf1 : tRFile.field 1 = some (.arr 2 tS):=rfl
def atT (l : List Tag) (d : Int) (s : Str) : Int:=findN l.length fun i=>decide ((tagN l i).dir = d) && decide ((tagN l i).name = s)
section
variable {cx : Cx} {h : HP} {p : Id} {v1 v2 : AV} {l : List Tag} {fs : List RFile}
theorem at_ok {d : Int} {s : Str} (hb : p.below cx.lvl) (hm : h.rd p [0] = some v1) (hS : SlR tTag h v1 (l.map Tag.enc)) (hn : l.length ≤ 1000000) :
  Ok tblE cx Fn.r_Ideal_at (St.enter [.ptr p [] tRIdeal,.int .i64 d,.str s] h) fun v h'=>v = .int .i64 (atT l d s) ∧ h' = h:=by
 have hlen:=hS.len
 have hfit:=hS.fits
 rw [List.length_map] at hlen
 rw [Ok_eq]
 simp (maxSteps:=999999) (disch:=omega) only [go_sem]
 refine W_forP l.length (fun i=>⟨[(0,.ptr p [] tRIdeal),(1,.int .i64 d),(2,.str s),(7,.int .i64 i)],[],h⟩) (fun i=>∀ j,j < i → (decide ((tagN l j).dir = d) && decide ((tagN l j).name = s)) = false) (by simp only [go_sem] <;> rfl) (fun j hj=>by omega) fun i hi hp ih=>?_
 by_cases hlt : i < l.length
 ·rcases hS with ⟨_,e⟩ | ⟨q,rfl,hq⟩
  ·have : l = []:=by simpa using e
   rw [this] at hlt; simp at hlt
  rw [List.length_map] at hq hlen hfit
  rw [List.length_map] at hm
  simp (maxSteps:=999999) (disch:=omega) only [go_sem,hlt,hlen,hfit,rd_ext hb,hm,fg_ptr hb,leads_ptr hb,apart_ptr hb,hq]
  by_cases c1 : (tagN l i).dir = d
  ·by_cases c2 : (tagN l i).name = s
   ·simp (maxSteps:=999999) (disch:=omega) only [go_sem,c1,c2,hlt,hlen,hfit,rd_ext hb,hm,fg_ptr hb,leads_ptr hb,apart_ptr hb,hq]
    rw [atT,findN_at hp (by simp [c1,c2]) hlt]
   ·simp (maxSteps:=999999) (disch:=omega) only [go_sem,c1,c2,hlt,hlen,hfit,rd_ext hb,hm,fg_ptr hb,leads_ptr hb,apart_ptr hb,hq]
    refine ih _ hlt (step_all hp (by simp [c2])) ?_
    simp only [go_sem]
  ·simp (maxSteps:=999999) (disch:=omega) only [go_sem,c1,hlt,hlen,hfit,rd_ext hb,hm,fg_ptr hb,leads_ptr hb,apart_ptr hb,hq]
   refine ih _ hlt (step_all hp (by simp [c1])) ?_
   simp only [go_sem]
 ·obtain rfl : i = l.length:=by omega
  simp (maxSteps:=999999) (disch:=omega) only [go_sem,hlen,hfit,rd_ext hb,hm,fg_ptr hb,leads_ptr hb,apart_ptr hb]
  rw [atT,findN_none hp]
theorem atT_cases (l : List Tag) (d : Int) (s : Str) : atT l d s = -1 ∨ ∃ k : Nat,k < l.length ∧ atT l d s = k ∧ (tagN l k).dir = d ∧ (tagN l k).name = s:=by
 rcases findN_lt (f:=fun i=>decide ((tagN l i).dir = d) && decide ((tagN l i).name = s)) (n:=l.length) with e | ⟨j,h1,e,h2,_⟩
 ·exact .inl e
 ·simp at h2; exact .inr ⟨j,h1,e,h2.1,h2.2⟩
def rReadC (l : List Tag) (d : Int) (s : Str) (p : Int) : Int :=
 if stepFault ⟨6,d,0,p,s,⟨#[]⟩,⟨#[]⟩⟩ ≠ 0 then stepFault ⟨6,d,0,p,s,⟨#[]⟩,⟨#[]⟩⟩ else if atT l d s < 0 then 5 else 0
def rReadF (l : List Tag) (fs : List RFile) (d : Int) (s : Str) : RFile:=filN fs (tagN l (atT l d s).toNat).file
def rReadB (l : List Tag) (fs : List RFile) (d : Int) (s : Str) (p : Int) : Bool:=if rReadC l d s p = 0 then (rReadF l fs d s).has p.toNat else false
def rReadT (l : List Tag) (fs : List RFile) (d : Int) (s : Str) (p : Int) : Str:=if rReadC l d s p = 0 then (rReadF l fs d s).text p.toNat else ⟨#[]⟩
def rSameB (l : List Tag) (d : Int) (s : Str) (e : Int) (t : Str) : Bool:=decide (0 ≤ atT l d s) && decide (0 ≤ atT l e t) && decide ((tagN l (atT l d s).toNat).file = (tagN l (atT l e t).toNat).file)
def FilesOk (l : List Tag) (fs : List RFile) : Prop:=∀ k,k < l.length → (tagN l k).file < fs.length
theorem RRead_ok {d p' : Int} {s : Str} (hb : p.below cx.lvl) (hm : h.rd p [0] = some v1) (hm2 : h.rd p [1] = some v2) (hS : SlR tTag h v1 (l.map Tag.enc)) (hF : SlR tRFile h v2 (fs.map RFile.enc)) (hn : l.length ≤ 1000000) (hfo : FilesOk l fs) (hs : s.size ≤ 9223372036854775807) :
  Ok tblE cx Fn.r_Ideal_Read (St.enter [.ptr p [] tRIdeal,.int .i64 d,.str s,.int .i64 p'] h) fun v h'=>v = encR (rReadT l fs d s p') (rReadB l fs d s p') (rReadC l d s p') ∧ h' = h:=by
 have hlen:=hS.len
 have hfit:=hS.fits
 have hlen2:=hF.len
 have hfit2:=hF.fits
 rw [List.length_map] at hlen hlen2
 rw [Ok_eq]
 simp (maxSteps:=999999) (disch:=omega) only [go_sem,rd_ext hb,hm,fg_ptr hb,leads_ptr hb,apart_ptr hb]
 refine W_callp rfl ⟨rfl,rfl⟩ (by simp only [go_sem]; exact StepFault_ok (x:=⟨6,d,0,p',s,⟨#[]⟩,⟨#[]⟩⟩) hs (Nat.zero_le _) (Nat.zero_le _)) ?_
 simp (maxSteps:=999999) (disch:=omega) only [go_sem,rd_ext hb,hm,fg_ptr hb,leads_ptr hb,apart_ptr hb]
 by_cases c0 : stepFault ⟨6,d,0,p',s,⟨#[]⟩,⟨#[]⟩⟩ = 0
 rotate_left
 ·simp (maxSteps:=999999) (disch:=omega) only [go_sem,c0]
  simp [rReadC,rReadB,rReadT,c0,encR]
 obtain ⟨_,⟨d0,d3⟩,_,_,hp,_⟩:=stepFault_zero c0
 obtain ⟨p0,p2⟩:=hp (.inr rfl)
 simp only at d0 d3 p0 p2
 simp (maxSteps:=999999) (disch:=omega) only [go_sem,c0,rd_ext hb,hm,fg_ptr hb,leads_ptr hb,apart_ptr hb]
 refine W_callp rfl ⟨rfl,rfl⟩ (by simp only [go_sem]; exact at_ok (l:=l) hb.succ (by simp only [HP.push_rd_ext hb,hm]) hS.push hn) ?_
 simp (maxSteps:=999999) (disch:=omega) only [go_sem,rd_ext hb,hm,fg_ptr hb,leads_ptr hb,apart_ptr hb]
 rcases atT_cases l d s with e | ⟨k,hk,e,_⟩
 ·simp (maxSteps:=999999) (disch:=omega) only [go_sem,e]
  simp [rReadC,rReadB,rReadT,c0,e,encR]
 have k0 : ¬(k : Int) < 0:=by omega
 have hfk:=hfo k hk
 rcases hS with ⟨_,e'⟩ | ⟨q,rfl,hq⟩
 ·have : l = []:=by simpa using e'
  rw [this] at hk; simp at hk
 rcases hF with ⟨_,e'⟩ | ⟨q2,rfl,hq2⟩
 ·have : fs = []:=by simpa using e'
  rw [this] at hfk; simp at hfk
 rw [List.length_map] at hq hlen hfit hm hq2 hlen2 hfit2 hm2
 simp (maxSteps:=999999) (disch:=omega) only [go_sem,e,k0,rd_ext hb,hm,fg_ptr hb,leads_ptr hb,apart_ptr hb,hm2,hfit,hfit2,hq,hq2,hk,hfk,encR]
 have hc : rReadC l d s p' = 0:=by simp [rReadC,c0,e,k0]
 simp [rReadB,rReadT,rReadF,hc,e]
theorem RSame_ok {d e : Int} {s t : Str} (hb : p.below cx.lvl) (hm : h.rd p [0] = some v1) (hS : SlR tTag h v1 (l.map Tag.enc)) (hn : l.length ≤ 1000000) :
  Ok tblE cx Fn.r_Ideal_Same (St.enter [.ptr p [] tRIdeal,.int .i64 d,.str s,.int .i64 e,.str t] h) fun v h'=>v = .bool (rSameB l d s e t) ∧ h' = h:=by
 have hlen:=hS.len
 have hfit:=hS.fits
 rw [List.length_map] at hlen
 rw [Ok_eq]
 simp (maxSteps:=999999) (disch:=omega) only [go_sem,rd_ext hb,hm,fg_ptr hb,leads_ptr hb,apart_ptr hb]
 refine W_callp rfl ⟨rfl,rfl⟩ (by simp only [go_sem]; exact at_ok (l:=l) hb.succ (by simp only [HP.push_rd_ext hb,hm]) hS.push hn) ?_
 simp (maxSteps:=999999) (disch:=omega) only [go_sem,rd_ext hb,hm,fg_ptr hb,leads_ptr hb,apart_ptr hb]
 refine W_callp rfl ⟨rfl,rfl⟩ (by simp only [go_sem]; exact at_ok (l:=l) hb.succ (by simp only [HP.push_rd_ext hb,hm]) hS.push hn) ?_
 simp (maxSteps:=999999) (disch:=omega) only [go_sem,rd_ext hb,hm,fg_ptr hb,leads_ptr hb,apart_ptr hb]
 rcases atT_cases l d s with e1 | ⟨k,hk,e1,_⟩
 ·simp (maxSteps:=999999) (disch:=omega) only [go_sem,e1]
  simp [rSameB,e1]
 rcases atT_cases l e t with e2 | ⟨j,hj,e2,_⟩
 ·simp (maxSteps:=999999) (disch:=omega) only [go_sem,e1,e2]
  simp [rSameB,e1,e2]
 have k0 : ¬(k : Int) < 0:=by omega
 have j0 : ¬(j : Int) < 0:=by omega
 rcases hS with ⟨_,e'⟩ | ⟨q,rfl,hq⟩
 ·have : l = []:=by simpa using e'
  rw [this] at hk; simp at hk
 rw [List.length_map] at hq hlen hfit hm
 simp (maxSteps:=999999) (disch:=omega) only [go_sem,e1,e2,k0,j0,rd_ext hb,hm,fg_ptr hb,leads_ptr hb,apart_ptr hb,hfit,hq,hk,hj]
 simp [rSameB,e1,e2]
 omega
end
end Go.Mini
