/- A part of the proof: the statement SoftIdeal, over the model of its code. -/
import Derived.Test.YtpkndgkaecamlacSfS

set_option linter.unusedSimpArgs false
set_option linter.unusedVariables false
set_option maxHeartbeats 4000000
set_option maxRecDepth 100000
namespace Go.Mini
theorem SlX_ofq {h h1 h2 : HP} {v : AV} {l : List Str} {k k' : Nat} {o : Own} (a : SlF h h1 v l) (b : Fr h1 h2 []) : SlX (h2.push k' o) k v l:=by
 rcases a with a | ⟨q,rfl,h1,h2,h3⟩
 ·exact .inl a
 ·exact .inr ⟨.obj q,rfl,below_obj _ _,b.look h2 (by simp) h3⟩
theorem bed_life {h : HP} {p f c e : Nat} {L : Lf} {B : Bd} (hA : LifeAt h p f c L) (hB : h.look (.obj e) = some ⟨tBed,B.enc⟩) : ¬e = p ∧ ¬e = f ∧ ¬e = c:=by
 refine ⟨?_,?_,?_⟩
 ·rintro rfl
  have:=hA.li
  rw [hB] at this
  simp at this
  exact absurd this.1 (by decide)
 ·rintro rfl
  have:=hA.fi
  rw [hB] at this
  simp at this
  exact absurd this.1 (by decide)
 ·rintro rfl
  have:=hA.ca
  rw [hB] at this
  simp at this
  exact absurd this.1 (by decide)
theorem LifeN.ob {h0 h : HP} {p e : Nat} {L : Lf} {t : Ty} {v : AV} {B : Bd} (a : LifeN h0 h p L) (hB : h.look (.obj e) = some ⟨tBed,B.enc⟩) (he : h0.next ≤ e) : LifeN h0 (h.ob e t v) p L:=by
 obtain ⟨f,c,hA,hb,hF⟩:=a
 obtain ⟨n1,n2,n3⟩:=bed_life hA hB
 have q1 : ¬p = e:=fun h=>n1 h.symm
 have q2 : ¬f = e:=fun h=>n2 h.symm
 have q3 : ¬c = e:=fun h=>n3 h.symm
 exact ⟨f,c,⟨by rw [look_ob_ne q1]; exact hA.li,by rw [look_ob_ne q2]; exact hA.fi,by rw [look_ob_ne q3]; exact hA.ca,hA.pf,hA.fc,hA.pc,hA.pn,hA.fn,hA.cn⟩,hb,hF.since (S:=[e]) (Fr.ob (by simp)) (by simpa using he)⟩
def Own1 (P : List (Int × Str)) (st : Int) (d : Dat) : Prop:=d.of = 0 ∨ ((d.of,d.text) ∈ P ∧ d.of ≤ st)
theorem Own1.mono {P Q : List (Int × Str)} {s t : Int} {d : Dat} (a : Own1 P s d) (h : ∀ p ∈ P,p.1 ≤ s → p ∈ Q) (hs : s ≤ t) : Own1 Q t d:=by
 rcases a with a | ⟨a,b⟩
 ·exact .inl a
 ·exact .inr ⟨h _ a b,by omega⟩
theorem dat_addName (a : Img) (d s : Nat) (nm : Str) (n k : Nat) : (addName a d s nm n).dat k = a.dat k:=by rw [addName,dat_setIno,dat_setEnt]
theorem dat_dropName (a : Img) (d s k : Nat) : (dropName a d s).dat k = a.dat k:=by
 unfold dropName
 dsimp only
 split <;> rw [dat_setIno,dat_setEnt]
def RFile.setH (f : RFile) (p : Nat) (b : Bool) : RFile:=if p = 0 then { f with h0:=b } else { f with h1:=b }
def RFile.setT (f : RFile) (p : Nat) (t : Str) : RFile:=if p = 0 then { f with t0:=t } else { f with t1:=t }
def RFile.setP (f : RFile) (p : Nat) (b : Bool) (t : Str) : RFile:=(f.setH p b).setT p t
theorem rfile_put0 (f : RFile) {p : Nat} (hp : p < 2) (b : Bool) : f.enc.put [0,p] (.bool b) = some (f.setH p b).enc:=by
 match p,hp with
 | 0,_ =>
  simp only [RFile.enc,AV.put,dite_true,show 0 < 2 by omega,Option.map_some]
  congr 2
  ·congr 1; funext j; match j with
   | ⟨0,_⟩=>rfl
   | ⟨1,_⟩=>rfl
 | 1,_ =>
  simp only [RFile.enc,AV.put,dite_true,show 1 < 2 by omega,Option.map_some]
  congr 2
  ·congr 1; funext j; match j with
   | ⟨0,_⟩=>rfl
   | ⟨1,_⟩=>rfl
theorem rfile_put1 (f : RFile) {p : Nat} (hp : p < 2) (b : Str) : f.enc.put [1,p] (.str b) = some (f.setT p b).enc:=by
 match p,hp with
 | 0,_ =>
  simp only [RFile.enc,AV.put,dite_true,show 0 < 2 by omega,Option.map_some]
  congr 3
  ·congr 1; funext j; match j with
   | ⟨0,_⟩=>rfl
   | ⟨1,_⟩=>rfl
 | 1,_ =>
  simp only [RFile.enc,AV.put,dite_true,show 1 < 2 by omega,Option.map_some]
  congr 3
  ·congr 1; funext j; match j with
   | ⟨0,_⟩=>rfl
   | ⟨1,_⟩=>rfl
theorem files_put {F : List RFile} {n : Nat} (h : n < F.length) {p : List Nat} {v : AV} {f : RFile} (hf : (filN F n).enc.put p v = some f.enc) : (AV.ofList (F.map RFile.enc)).put (n :: p) v = some (AV.ofList ((F.set n f).map RFile.enc)):=by
 have e0 : F[n].enc.put p v = some f.enc:=by rw [← hf,filN]; simp [h]
 rw [show AV.ofList (F.map RFile.enc) = .arr (F.map RFile.enc).length fun i=>(F.map RFile.enc).get i from rfl]
 simp only [AV.put,List.length_map,h,dite_true,List.get_eq_getElem,List.getElem_map,e0,Option.map_some]
 congr 1
 refine arr_ofList (by simp) fun j hj=>?_
 by_cases e : j = n
 ·subst e; simp
 ·have : ¬n = j:=fun h=>e h.symm
  simp [e,this,List.getElem_set]
theorem filN_set {F : List RFile} {n : Nat} (h : n < F.length) (f : RFile) : filN (F.set n f) n = f:=by simp [filN,h]
def rdoC (T : List Tag) (x : SStep) : Int :=
 if stepFault x ≠ 0 then stepFault x else if x.kind = 1 then (if 0 ≤ atT T x.dir x.name then 4 else 0) else if atT T x.dir x.name < 0 then 5
 else if (x.kind = 2 ∨ x.kind = 4) ∧ 0 ≤ atT T x.toDir x.to then 4 else 0
def rdoN (T : List Tag) (x : SStep) : Nat:=(tagN T (atT T x.dir x.name).toNat).file
def rdoT (T : List Tag) (F : List RFile) (x : SStep) : List Tag :=
 if rdoC T x ≠ 0 then T else if x.kind = 1 then T ++ [(⟨x.dir,x.name,F.length⟩ : Tag)]
 else if x.kind = 2 then T ++ [(⟨x.toDir,x.to,rdoN T x⟩ : Tag)]
 else if x.kind = 3 then T.take (atT T x.dir x.name).toNat ++ T.drop ((atT T x.dir x.name).toNat + 1)
 else if x.kind = 4 then (T ++ [(⟨x.toDir,x.to,rdoN T x⟩ : Tag)]).take (atT T x.dir x.name).toNat ++ (T ++ [(⟨x.toDir,x.to,rdoN T x⟩ : Tag)]).drop ((atT T x.dir x.name).toNat + 1)
 else T
def rdoF (T : List Tag) (F : List RFile) (x : SStep) : List RFile :=
 if rdoC T x ≠ 0 then F else if x.kind = 1 then F ++ [RFile.zero]
 else if x.kind = 5 then F.set (rdoN T x) ((filN F (rdoN T x)).setP x.p.toNat true x.text)
 else if x.kind = 6 then F.set (rdoN T x) ((filN F (rdoN T x)).setP x.p.toNat false ⟨#[]⟩)
 else F
def RIAt (h0 h : HP) (l u : Nat) (T : List Tag) (F : List RFile) : Prop :=
 ∃ v1 v2,h.look (.stk l u) = some ⟨tRIdeal,encRI v1 v2⟩ ∧ SlG tTag h0 h v1 (T.map Tag.enc) ∧ SlG tRFile h0 h v2 (F.map RFile.enc)
structure FrI (h0 h h' : HP) (l u : Nat) : Prop where
 arg : h'.arg = h.arg
 next : h.next ≤ h'.next
 same : ∀ n,n < h0.next → h'.obj n = h.obj n
 stk : h'.stk = h.stk ∨ ∃ B,h'.stk = (h.set (.stk l u) B).stk
theorem FrI.refl (h0 h : HP) (l u : Nat) : FrI h0 h h l u:=⟨rfl,Nat.le_refl _,fun _ _=>rfl,.inl rfl⟩
theorem Own.set_setI (o : Own) (u : Nat) (a b : Blk) : (o.set u a).set u b = o.set u b:=by
 induction o with
 | nil=>simp [Own.set]
 | cons p s ih =>
  obtain ⟨t,v⟩:=p
  simp only [Own.set]
  split
  ·simp [Own.set]
  ·split
   ·simp [Own.set]
   ·rename_i h1 h2
    simp only [Own.set,h1,h2,if_false,ih]
theorem Own.get_setI (o : Own) (u : Nat) (a : Blk) : (o.set u a).get u = some a:=by
 induction o with
 | nil=>simp [Own.set,Own.get]
 | cons p s ih =>
  obtain ⟨t,v⟩:=p
  simp only [Own.set]
  split
  ·simp [Own.get]
  ·split
   ·simp [Own.get]
   ·rename_i h1 h2
    simp only [Own.get,h1,if_false,ih]
theorem stk_set_set (h : HP) (l u : Nat) (a b : Blk) : ((h.set (.stk l u) a).set (.stk l u) b) = h.set (.stk l u) b:=by
 simp only [HP.set]
 congr 1
 funext l'
 by_cases e : l' = l
 ·simp [e,Own.set_setI]
 ·simp [e]
theorem stk_look_set (h : HP) (l u : Nat) (a : Blk) : (h.set (.stk l u) a).look (.stk l u) = some a:=by
 simp [HP.set,HP.look,Own.get_setI]
theorem FrI.off {h0 h h1 h2 : HP} {l u : Nat} {v : AV} (a : FrI h0 h h1 l u) (b : Off h1 h2 v) (h0n : h0.next ≤ h1.next) (hv : ∀ n,n < h0.next → v.into (.obj n) = false) : FrI h0 h h2 l u :=
 ⟨b.arg.trans a.arg,Nat.le_trans a.next b.next,fun n hn=>(b.same n (Nat.lt_of_lt_of_le hn h0n) (hv n hn)).trans (a.same n hn),by
  rcases a.stk with e | ⟨B,e⟩
  ·exact .inl (b.stk.trans e)
  ·exact .inr ⟨B,b.stk.trans e⟩⟩
theorem FrI.set {h0 h h1 : HP} {l u : Nat} (a : FrI h0 h h1 l u) (B : Blk) : FrI h0 h (h1.set (.stk l u) B) l u :=
 ⟨a.arg,a.next,a.same,.inr ⟨B,by
  rcases a.stk with e | ⟨C,e⟩
  ·show (fun l'=>if l' = l then (h1.stk l).set u B else h1.stk l') = fun l'=>if l' = l then (h.stk l).set u B else h.stk l'
   rw [e]
  ·have e2 : (h1.set (.stk l u) B).stk = ((h.set (.stk l u) C).set (.stk l u) B).stk:=by
    show (fun l'=>if l' = l then (h1.stk l).set u B else h1.stk l') = fun l'=>if l' = l then ((h.set (.stk l u) C).stk l).set u B else (h.set (.stk l u) C).stk l'
    rw [e]
   rw [e2,stk_set_set]⟩⟩
theorem FrI.ob {h0 h h1 : HP} {l u q : Nat} {t : Ty} {v : AV} (a : FrI h0 h h1 l u) (hq : h0.next ≤ q) : FrI h0 h (h1.ob q t v) l u :=
 ⟨a.arg,a.next,fun n hn=>(obj_ob_ne (by omega)).trans (a.same n hn),a.stk⟩
theorem stV_RI0 {cx : Cx} {sl : Slots} {own : Own} {h : HP} {l u : Nat} {a b v : AV} (hb : l < cx.lvl) (hls : cx.prot.lets (.stk l u) = true) (hm : h.look (.stk l u) = some ⟨tRIdeal,encRI a b⟩) (hf : tSl.fits v = true) :
  stV cx tSl (.ptr (.stk l u) [0] tSl) v ⟨sl,own,h⟩ = some ⟨sl,own,h.set (.stk l u) ⟨tRIdeal,encRI v b⟩⟩:=by
 have e : (Id.stk l u).own cx.lvl = none:=by simp [Id.own]; omega
 have e2 : St.look cx ⟨sl,own,h⟩ (.stk l u) = some ⟨tRIdeal,encRI a b⟩:=by simp only [St.look,e]; exact hm
 simp only [stV,hf,and_self,if_true,e2,put_RI0,St.write,e,hls]
theorem stV_RI1 {cx : Cx} {sl : Slots} {own : Own} {h : HP} {l u : Nat} {a b v : AV} (hb : l < cx.lvl) (hls : cx.prot.lets (.stk l u) = true) (hm : h.look (.stk l u) = some ⟨tRIdeal,encRI a b⟩) (hf : tSl.fits v = true) :
  stV cx tSl (.ptr (.stk l u) [1] tSl) v ⟨sl,own,h⟩ = some ⟨sl,own,h.set (.stk l u) ⟨tRIdeal,encRI a v⟩⟩:=by
 have e : (Id.stk l u).own cx.lvl = none:=by simp [Id.own]; omega
 have e2 : St.look cx ⟨sl,own,h⟩ (.stk l u) = some ⟨tRIdeal,encRI a b⟩:=by simp only [St.look,e]; exact hm
 simp only [stV,hf,and_self,if_true,e2,put_RI1,St.write,e,hls]
theorem rd_RI0 (h : HP) (l u : Nat) (a b : AV) : (h.set (.stk l u) ⟨tRIdeal,encRI a b⟩).rd (.stk l u) [0] = some a:=by
 simp only [HP.rd,stk_look_set,Option.bind_some,at_RI0]
theorem rd_RI1 (h : HP) (l u : Nat) (a b : AV) : (h.set (.stk l u) ⟨tRIdeal,encRI a b⟩).rd (.stk l u) [1] = some b:=by
 simp only [HP.rd,stk_look_set,Option.bind_some,at_RI1]
theorem zero_rf : tRFile.zero = RFile.zero.enc:=by
 have e1 : (fun i : Fin 2=>AV.bool (RFile.zero.has i.val)) = fun _=>AV.bool false:=by funext i; simp [RFile.has,RFile.zero]
 have e2 : (fun i : Fin 2=>AV.str (RFile.zero.text i.val)) = fun _=>AV.str ⟨#[]⟩:=by funext i; simp [RFile.text,RFile.zero]
 unfold RFile.enc
 rw [e1,e2]; rfl
theorem SlG.apart {h0 h1 h : HP} {v w : AV} {l m : List AV} (a : SlG tTag h0 h v l) (b : SlG tRFile h1 h w m) (n : Nat) (hn : v.into (.obj n) = true) : w.into (.obj n) = false:=by
 rcases a with ⟨rfl,_⟩ | ⟨q,rfl,_,_,hq,_⟩
 ·simp [AV.into] at hn
 rcases b with ⟨rfl,_⟩ | ⟨q',rfl,_,_,hq',_⟩
 ·rfl
 have : q = n:=by simpa [AV.into] using hn
 subst this
 by_cases e : q' = q
 ·subst e
  rw [hq] at hq'
  simp [tTag,tRFile,tI,tB] at hq'
 ·simp [AV.into,e]
theorem SlG.apart' {h0 h1 h : HP} {v w : AV} {l m : List AV} (a : SlG tTag h0 h v l) (b : SlG tRFile h1 h w m) (n : Nat) (hn : w.into (.obj n) = true) : v.into (.obj n) = false:=by
 cases e : v.into (.obj n) with
 | false=>rfl
 | true=>exact absurd hn (by rw [a.apart b n e]; simp)
section
variable {cx : Cx} {h h0 : HP} {l u : Nat} {T : List Tag} {F : List RFile}
theorem RIDo_ok {x : SStep} (hl : ∀ n,cx.prot.lets (.obj n) = true) (hls : cx.prot.lets (.stk l u) = true) (hlu : l < cx.lvl) (h0n : h0.next ≤ h.next) (hR : RIAt h0 h l u T F) (hT : T.length ≤ 1000000) (hFl : F.length ≤ 1000000) (hfo : FilesOk T F) (hx : x.ok) :
  Ok tblE cx Fn.r_Ideal_Do (St.enter [.ptr (.stk l u) [] tRIdeal,x.enc] h) fun v h'=>v = .int .i64 (rdoC T x) ∧ FrI h0 h h' l u ∧ RIAt h0 h' l u (rdoT T F x) (rdoF T F x):=by
 have hR0:=hR
 obtain ⟨v1,v2,hm0,hS,hG⟩:=hR
 have hb : (Id.stk l u).below cx.lvl:=hlu
 have hm : h.rd (.stk l u) [0] = some v1:=by simp [HP.rd,hm0,at_RI0]
 have hm2 : h.rd (.stk l u) [1] = some v2:=by simp [HP.rd,hm0,at_RI1]
 have hlen:=hS.len
 have hfit:=hS.r.fits
 have hlen2:=hG.len
 have hfit2:=hG.r.fits
 have hfg1:=hS.fg
 have hfg2:=hG.fg
 have hld1:=hS.ld
 have hld2:=hG.ld
 rw [List.length_map] at hlen hlen2
 rw [Ok_eq]
 simp (maxSteps:=999999) (disch:=omega) only [go_sem,rd_ext hb,hm,fg_ptr hb,leads_ptr hb,apart_ptr hb]
 refine W_callp rfl ⟨rfl,rfl⟩ (by simp only [go_sem]; exact StepFault_ok (x:=x) hx.name hx.to hx.text) ?_
 simp (maxSteps:=999999) (disch:=omega) only [go_sem,rd_ext hb,hm,fg_ptr hb,leads_ptr hb,apart_ptr hb]
 by_cases c0 : stepFault x = 0
 rotate_left
 ·simp (maxSteps:=999999) (disch:=omega) only [go_sem,c0]
  have hc : rdoC T x = stepFault x:=by simp [rdoC,c0]
  have hc' : ¬rdoC T x = 0:=by rw [hc]; exact c0
  refine ⟨by rw [hc],FrI.refl ..,?_⟩
  simp only [rdoT,rdoF,hc',ne_eq,not_false_eq_true,if_true]
  exact hR0
 simp (maxSteps:=999999) (disch:=omega) only [go_sem,c0,rd_ext hb,hm,fg_ptr hb,leads_ptr hb,apart_ptr hb]
 refine W_callp rfl ⟨rfl,rfl⟩ (by simp only [go_sem]; exact at_ok (l:=T) hb.succ (by simp only [HP.push_rd_ext hb,hm]) hS.r.push hT) ?_
 simp (maxSteps:=999999) (disch:=omega) only [go_sem,rd_ext hb,hm,fg_ptr hb,leads_ptr hb,apart_ptr hb]
 by_cases k1 : x.kind = 1
 ·by_cases ca : 0 ≤ atT T x.dir x.name
  ·simp (maxSteps:=999999) (disch:=omega) only [go_sem,k1,ca]
   have hc : rdoC T x = 4:=by simp [rdoC,c0,k1,ca]
   refine ⟨by rw [hc],FrI.refl ..,?_⟩
   simp only [rdoT,rdoF,hc]
   exact hR0
  have hc : rdoC T x = 0:=by simp [rdoC,c0,k1,ca]
  simp (maxSteps:=999999) (disch:=omega) only [go_sem,k1,ca,rd_ext hb,hm,fg_ptr hb,leads_ptr hb,apart_ptr hb,hm2,hfit,hfit2,hlen2,hfg1,hfg2,hld1,hld2]
  refine W_bsliceG (t:=tTag) (v:=Tag.enc ⟨x.dir,x.name,F.length⟩) (by simp only [go_sem]) rfl ?_
  simp (maxSteps:=999999) (disch:=omega) only [go_sem,hfg1,hfg2,leads_ptr hb,fg_ptr hb]
  refine W_app (h0:=h0) (v:=v1) (l:=T.map Tag.enc) (add:=[Tag.enc ⟨x.dir,x.name,F.length⟩]) (by simp only [go_sem]) (fun n=>hl n) h0n hS (elems_one (by simp only [go_sem])) (fits_tags _) (fun a h=>by simp at h; subst h; rfl) (by simp; omega) (fun e=>by rfl) fun v1' h1 hS1 hof1=>?_
  have hm1 : h1.look (.stk l u) = some ⟨tRIdeal,encRI v1 v2⟩:=by rw [← hm0]; simp only [HP.look,hof1.stk]
  have hf1' : tSl.fits v1' = true:=by have:=hS1.r.fits; simpa using this
  simp (maxSteps:=999999) (disch:=omega) only [go_sem,stV_RI0 hlu hls hm1 hf1',rd_ext hb,rd_RI0,rd_RI1,fg_ptr hb,leads_ptr hb,apart_ptr hb,hfit2,hfg2,hld2]
  refine W_bsliceG (t:=tRFile) (v:=RFile.zero.enc) (by simp only [go_sem,zero_rf]) RFile.zero.fits ?_
  simp (maxSteps:=999999) (disch:=omega) only [go_sem,hfg1,hfg2,leads_ptr hb,fg_ptr hb]
  have hG1 : SlG tRFile h0 h1 v2 (F.map RFile.enc):=hG.same hof1 (hS.apart' hG)
  refine W_app (h0:=h0) (v:=v2) (l:=F.map RFile.enc) (add:=[RFile.zero.enc]) (by simp only [go_sem]) (fun n=>hl n) (Nat.le_trans h0n hof1.next) hG1 (elems_one (by simp only [go_sem])) (fits_rfiles _) (fun a h=>by simp at h; subst h; exact RFile.zero.fits) (by simp; omega) (fun e=>by rfl) fun v2' h2 hG2 hof2=>?_
  have hm3 : h2.look (.stk l u) = some ⟨tRIdeal,encRI v1' v2⟩:=by
   have:=stk_look_set h1 l u ⟨tRIdeal,encRI v1' v2⟩
   rw [← this]; simp only [HP.look,hof2.stk]
  have hf2' : tSl.fits v2' = true:=by have:=hG2.r.fits; simpa using this
  have hS2 : SlG tTag h0 h2 v1' (T.map Tag.enc ++ [Tag.enc ⟨x.dir,x.name,F.length⟩]):=SlG.same (h:=h1.set (.stk l u) ⟨tRIdeal,encRI v1' v2⟩) hS1 hof2 (fun n hn=>hS1.apart hG1 n hn)
  simp (maxSteps:=999999) (disch:=omega) only [go_sem,stV_RI1 hlu hls hm3 hf2',fg_ptr hb,leads_ptr hb,apart_ptr hb]
  have fr:=(((FrI.refl h0 h l u).off hof1 h0n (fun n hn=>hS.into n hn)).set ⟨tRIdeal,encRI v1' v2⟩).off hof2 (Nat.le_trans h0n hof1.next) (fun n hn=>hG.into n hn)
  refine ⟨by rw [hc],fr.set _,v1',v2',stk_look_set ..,?_,?_⟩
  ·show SlG tTag h0 h2 v1' _
   have e : (rdoT T F x).map Tag.enc = T.map Tag.enc ++ [Tag.enc ⟨x.dir,x.name,F.length⟩]:=by simp [rdoT,hc,k1]
   rw [e]; exact hS2
  ·show SlG tRFile h0 h2 v2' _
   have e : (rdoF T F x).map RFile.enc = F.map RFile.enc ++ [RFile.zero.enc]:=by simp [rdoF,hc,k1]
   rw [e]; exact hG2
 rcases atT_cases T x.dir x.name with e | ⟨i,hi,e,hid,hin⟩
 ·simp (maxSteps:=999999) (disch:=omega) only [go_sem,k1,e]
  have hc : rdoC T x = 5:=by simp [rdoC,c0,k1,e]
  refine ⟨by rw [hc],FrI.refl ..,?_⟩
  simp only [rdoT,rdoF,hc]
  exact hR0
 obtain ⟨⟨kd1,kd6⟩,⟨d0,d3⟩,_,hto,hpp,_⟩:=stepFault_zero c0
 have i0 : ¬(i : Int) < 0:=by omega
 have en : rdoN T x = (tagN T i).file:=by unfold rdoN; rw [e]; rfl
 have hnF:=hfo i hi
 rw [← en] at hnF
 have hSv : ∃ q,v1 = .sl (.obj q) 0 T.length ∧ h.look (.obj q) = some ⟨.arr T.length tTag,.ofList (T.map Tag.enc)⟩:=by
  rcases hS with ⟨_,e'⟩ | ⟨q,rfl,_,_,hq,_⟩
  ·have : T = []:=by simpa using e'
   rw [this] at hi; simp at hi
  ·rw [List.length_map] at hq ⊢; exact ⟨q,rfl,hq⟩
 obtain ⟨q1,ev1,hq1⟩:=hSv
 subst ev1
 simp (maxSteps:=999999) (disch:=omega) only [go_sem,k1,e,i0,rd_ext hb,hm,fg_ptr hb,leads_ptr hb,apart_ptr hb,hfit,hq1,hi,hfg1,hld1]
 rw [← en]
 by_cases k2 : x.kind = 2
 ·have k3 : ¬x.kind = 3:=by omega
  simp (maxSteps:=999999) (disch:=omega) only [go_sem,k1,k2,rd_ext hb,hm,fg_ptr hb,leads_ptr hb,apart_ptr hb]
  refine W_callp rfl ⟨rfl,rfl⟩ (by simp only [go_sem]; exact at_ok (l:=T) hb.succ (by simp only [HP.push_rd_ext hb,hm]) hS.r.push hT) ?_
  simp (maxSteps:=999999) (disch:=omega) only [go_sem,rd_ext hb,hm,fg_ptr hb,leads_ptr hb,apart_ptr hb]
  by_cases ca : 0 ≤ atT T x.toDir x.to
  ·simp (maxSteps:=999999) (disch:=omega) only [go_sem,ca]
   have hc : rdoC T x = 4:=by simp [rdoC,c0,k1,e,k2,ca]
   refine ⟨by rw [hc],FrI.refl ..,?_⟩
   simp only [rdoT,rdoF,hc]
   exact hR0
  have hc : rdoC T x = 0:=by simp [rdoC,c0,k1,e,k2,ca]
  simp (maxSteps:=999999) (disch:=omega) only [go_sem,ca,rd_ext hb,hm,fg_ptr hb,leads_ptr hb,apart_ptr hb,hfit,hfg1,hld1]
  refine W_bsliceG (t:=tTag) (v:=Tag.enc ⟨x.toDir,x.to,rdoN T x⟩) (by simp only [go_sem]) rfl ?_
  simp (maxSteps:=999999) (disch:=omega) only [go_sem,hfg1,fg_ptr hb,leads_ptr hb,apart_ptr hb]
  refine W_app (h0:=h0) (v:=.sl (.obj q1) 0 T.length) (l:=T.map Tag.enc) (add:=[Tag.enc ⟨x.toDir,x.to,rdoN T x⟩]) (by simp only [go_sem]) (fun n=>hl n) h0n hS (elems_one (by simp only [go_sem])) (fits_tags _) (fun a h=>by simp at h; subst h; rfl) (by simp; omega) (fun e=>by rfl) fun v1' h1 hS1 hof1=>?_
  have hm1 : h1.look (.stk l u) = some ⟨tRIdeal,encRI (.sl (.obj q1) 0 T.length) v2⟩:=by rw [← hm0]; simp only [HP.look,hof1.stk]
  have hf1' : tSl.fits v1' = true:=by have:=hS1.r.fits; simpa using this
  have hG1 : SlG tRFile h0 h1 v2 (F.map RFile.enc):=hG.same hof1 (hS.apart' hG)
  have fr : FrI h0 h (h1.set (.stk l u) ⟨tRIdeal,encRI v1' v2⟩) l u:=((FrI.refl h0 h l u).off hof1 h0n (fun n hn=>hS.into n hn)).set _
  have hSL : SlG tTag h0 (h1.set (.stk l u) ⟨tRIdeal,encRI v1' v2⟩) v1' ((T ++ [(⟨x.toDir,x.to,rdoN T x⟩ : Tag)]).map Tag.enc):=by
   rw [List.map_append]; exact hS1
  have hfgv:=hSL.fg
  have hldv:=hSL.ld
  simp (maxSteps:=999999) (disch:=omega) only [go_sem,k2,stV_RI0 hlu hls hm1 hf1',rd_ext hb,rd_RI0,rd_RI1,fg_ptr hb,leads_ptr hb,apart_ptr hb,hfit2,hfg2,hld2,hf1',hfgv,hldv]
  refine ⟨by rw [hc],fr,v1',v2,stk_look_set ..,?_,?_⟩
  ·have et : rdoT T F x = T ++ [(⟨x.toDir,x.to,rdoN T x⟩ : Tag)]:=by simp [rdoT,hc,k1,k2]
   rw [et]; exact hSL
  ·have et : rdoF T F x = F:=by simp [rdoF,hc,k1,k2]
   rw [et]; exact hG1
 by_cases k4 : x.kind = 4
 ·have k3 : ¬x.kind = 3:=by omega
  simp (maxSteps:=999999) (disch:=omega) only [go_sem,k1,k4,rd_ext hb,hm,fg_ptr hb,leads_ptr hb,apart_ptr hb]
  refine W_callp rfl ⟨rfl,rfl⟩ (by simp only [go_sem]; exact at_ok (l:=T) hb.succ (by simp only [HP.push_rd_ext hb,hm]) hS.r.push hT) ?_
  simp (maxSteps:=999999) (disch:=omega) only [go_sem,rd_ext hb,hm,fg_ptr hb,leads_ptr hb,apart_ptr hb]
  by_cases ca : 0 ≤ atT T x.toDir x.to
  ·simp (maxSteps:=999999) (disch:=omega) only [go_sem,ca]
   have hc : rdoC T x = 4:=by simp [rdoC,c0,k1,e,k4,ca]
   refine ⟨by rw [hc],FrI.refl ..,?_⟩
   simp only [rdoT,rdoF,hc]
   exact hR0
  have hc : rdoC T x = 0:=by simp [rdoC,c0,k1,e,k4,ca]
  simp (maxSteps:=999999) (disch:=omega) only [go_sem,ca,rd_ext hb,hm,fg_ptr hb,leads_ptr hb,apart_ptr hb,hfit,hfg1,hld1]
  refine W_bsliceG (t:=tTag) (v:=Tag.enc ⟨x.toDir,x.to,rdoN T x⟩) (by simp only [go_sem]) rfl ?_
  simp (maxSteps:=999999) (disch:=omega) only [go_sem,hfg1,fg_ptr hb,leads_ptr hb,apart_ptr hb]
  refine W_app (h0:=h0) (v:=.sl (.obj q1) 0 T.length) (l:=T.map Tag.enc) (add:=[Tag.enc ⟨x.toDir,x.to,rdoN T x⟩]) (by simp only [go_sem]) (fun n=>hl n) h0n hS (elems_one (by simp only [go_sem])) (fits_tags _) (fun a h=>by simp at h; subst h; rfl) (by simp; omega) (fun e=>by rfl) fun v1' h1 hS1 hof1=>?_
  have hm1 : h1.look (.stk l u) = some ⟨tRIdeal,encRI (.sl (.obj q1) 0 T.length) v2⟩:=by rw [← hm0]; simp only [HP.look,hof1.stk]
  have hf1' : tSl.fits v1' = true:=by have:=hS1.r.fits; simpa using this
  have hG1 : SlG tRFile h0 h1 v2 (F.map RFile.enc):=hG.same hof1 (hS.apart' hG)
  have fr : FrI h0 h (h1.set (.stk l u) ⟨tRIdeal,encRI v1' v2⟩) l u:=((FrI.refl h0 h l u).off hof1 h0n (fun n hn=>hS.into n hn)).set _
  have hSL : SlG tTag h0 (h1.set (.stk l u) ⟨tRIdeal,encRI v1' v2⟩) v1' ((T ++ [(⟨x.toDir,x.to,rdoN T x⟩ : Tag)]).map Tag.enc):=by
   rw [List.map_append]; exact hS1
  have hfgv:=hSL.fg
  have hldv:=hSL.ld
  simp (maxSteps:=999999) (disch:=omega) only [go_sem,k4,stV_RI0 hlu hls hm1 hf1',rd_ext hb,rd_RI0,rd_RI1,fg_ptr hb,leads_ptr hb,apart_ptr hb,hfit2,hfg2,hld2,hf1',hfgv,hldv]
  have h0m : h0.next ≤ h1.next:=Nat.le_trans h0n hof1.next
  have hGs : SlG tRFile h0 (h1.set (.stk l u) ⟨tRIdeal,encRI v1' v2⟩) v2 (F.map RFile.enc):=hG1
  have hVr:=hSL.r.fits
  have hVf:=hSL.fg
  have hVl:=hSL.ld
  have hiL : i + 1 ≤ (T ++ [(⟨x.toDir,x.to,rdoN T x⟩ : Tag)]).length:=by first | omega | (simp; omega)
  refine W_slc (h0:=h0) (v:=v1') (l:=(T ++ [(⟨x.toDir,x.to,rdoN T x⟩ : Tag)]).map Tag.enc) (a:=0) (b:=i) (by simp only [go_sem]) hSL (.inl ⟨rfl,rfl⟩) (.inr ⟨_,.i64,rfl,by simp only [go_sem]⟩) (by omega) (by simp; omega) (.inl rfl) fun v108 _ hfg108 hel108=>?_
  refine W_app (h0:=(h1.set (.stk l u) ⟨tRIdeal,encRI v1' v2⟩)) (v:=.nilsl) (l:=[]) (by simp only [go_sem]) (fun n=>hl n) (Nat.le_refl _) (.inl ⟨rfl,rfl⟩) (add:=((T ++ [(⟨x.toDir,x.to,rdoN T x⟩ : Tag)]).take i).map Tag.enc) (by simp only [go_sem]; rw [hel108,List.map_take]; simp) (fun _ h=>by simp at h) (fits_tags _) (by simp; omega) (fun e=>by simp [apOk,AV.isNilsl]) fun v109 H1 hS1 hof1=>?_
  have hf109:=hS1.fg
  have hSa : SlG tTag h0 H1 (v1') ((T ++ [(⟨x.toDir,x.to,rdoN T x⟩ : Tag)]).map Tag.enc):=SlG.same hSL hof1 (fun _ _=>rfl)
  have hGa : SlG tRFile h0 H1 v2 (F.map RFile.enc):=SlG.same hGs hof1 (fun _ _=>rfl)
  have hMa : H1.look (.stk l u) = some ⟨tRIdeal,encRI (v1') v2⟩:=by
   have:=stk_look_set h1 l u ⟨tRIdeal,encRI v1' v2⟩
   rw [← this]; simp only [HP.look,hof1.stk]
  have hmA : H1.rd (.stk l u) [0] = some (v1'):=by simp [HP.rd,hMa,at_RI0]
  simp (maxSteps:=999999) (disch:=omega) only [go_sem,rd_ext hb,hmA,fg_ptr hb,leads_ptr hb,apart_ptr hb,hVr,hVf,hVl,hfg108,hf109]
  refine W_slc (h0:=h0) (v:=v1') (l:=(T ++ [(⟨x.toDir,x.to,rdoN T x⟩ : Tag)]).map Tag.enc) (a:=i + 1) (b:=(T ++ [(⟨x.toDir,x.to,rdoN T x⟩ : Tag)]).length) (by simp only [go_sem]) hSa (.inr ⟨_,.i64,rfl,by first | (simp only [go_sem]; done) | (simp only [go_sem]; rfl)⟩) (.inl ⟨rfl,by simp⟩) hiL (by simp) (.inl rfl) fun v116 _ hfg116 hel116=>?_
  refine W_app (h0:=(h1.set (.stk l u) ⟨tRIdeal,encRI v1' v2⟩)) (v:=v109) (l:=[] ++ ((T ++ [(⟨x.toDir,x.to,rdoN T x⟩ : Tag)]).take i).map Tag.enc) (by simp only [go_sem]) (fun n=>hl n) hof1.next hS1 (add:=((T ++ [(⟨x.toDir,x.to,rdoN T x⟩ : Tag)]).drop (i + 1)).map Tag.enc) (by simp only [go_sem]; rw [hel116,List.map_drop]; simp [List.take_of_length_le]) (fun a h=>by rw [List.nil_append] at h; exact fits_tags _ a h) (fits_tags _) (by simp; omega) (fun e=>by rfl) fun v117 H2 hS2 hof2=>?_
  have hf117:=hS2.fg
  have hl117:=hS2.ld
  have hfit117 : tSl.fits v117 = true:=by have:=hS2.r.fits; simpa using this
  have hMb : H2.look (.stk l u) = some ⟨tRIdeal,encRI (v1') v2⟩:=by rw [← hMa]; simp only [HP.look,hof2.stk]
  have hGb : SlG tRFile h0 H2 v2 (F.map RFile.enc):=hGa.same hof2 (hS1.apart' hGa)
  simp (maxSteps:=999999) (disch:=omega) only [go_sem,hf117,hl117,hfit117,stV_RI0 hlu hls hMb hfit117,k4]
  refine ⟨by rw [hc],(((fr).off hof1 h0m (fun _ _=>rfl)).off hof2 (Nat.le_trans h0m hof1.next) (fun n hn=>hS1.into n (Nat.lt_of_lt_of_le hn h0m))).set _,v117,v2,stk_look_set ..,?_,?_⟩
  ·show SlG tTag h0 H2 v117 _
   have et : (rdoT T F x).map Tag.enc = ([] ++ ((T ++ [(⟨x.toDir,x.to,rdoN T x⟩ : Tag)]).take i).map Tag.enc) ++ ((T ++ [(⟨x.toDir,x.to,rdoN T x⟩ : Tag)]).drop (i + 1)).map Tag.enc:=by
    simp [rdoT,hc,e,k1,k4]
   rw [et]; exact hS2.mono h0m
  ·show SlG tRFile h0 H2 v2 _
   have et : rdoF T F x = F:=by simp [rdoF,hc,k1,k4]
   rw [et]; exact hGb
 by_cases k3 : x.kind = 3
 ·have hc : rdoC T x = 0:=by simp [rdoC,c0,e,k3]
  simp (maxSteps:=999999) (disch:=omega) only [go_sem,k1,k3,rd_ext hb,hm,fg_ptr hb,leads_ptr hb,apart_ptr hb,hfit,hfg1,hld1]
  have hVr:=hS.r.fits
  have hVf:=hS.fg
  have hVl:=hS.ld
  have hiL : i + 1 ≤ (T).length:=by first | omega | (simp; omega)
  refine W_slc (h0:=h0) (v:=.sl (.obj q1) 0 T.length) (l:=(T).map Tag.enc) (a:=0) (b:=i) (by simp only [go_sem]) hS (.inl ⟨rfl,rfl⟩) (.inr ⟨_,.i64,rfl,by simp only [go_sem]⟩) (by omega) (by simp; omega) (.inl rfl) fun v108 _ hfg108 hel108=>?_
  refine W_app (h0:=h) (v:=.nilsl) (l:=[]) (by simp only [go_sem]) (fun n=>hl n) (Nat.le_refl _) (.inl ⟨rfl,rfl⟩) (add:=((T).take i).map Tag.enc) (by simp only [go_sem]; rw [hel108,List.map_take]; simp) (fun _ h=>by simp at h) (fits_tags _) (by simp; omega) (fun e=>by simp [apOk,AV.isNilsl]) fun v109 H1 hS1 hof1=>?_
  have hf109:=hS1.fg
  have hSa : SlG tTag h0 H1 (.sl (.obj q1) 0 T.length) ((T).map Tag.enc):=SlG.same hS hof1 (fun _ _=>rfl)
  have hGa : SlG tRFile h0 H1 v2 (F.map RFile.enc):=SlG.same hG hof1 (fun _ _=>rfl)
  have hMa : H1.look (.stk l u) = some ⟨tRIdeal,encRI (.sl (.obj q1) 0 T.length) v2⟩:=by
   have:=hm0
   rw [← this]; simp only [HP.look,hof1.stk]
  have hmA : H1.rd (.stk l u) [0] = some (.sl (.obj q1) 0 T.length):=by simp [HP.rd,hMa,at_RI0]
  simp (maxSteps:=999999) (disch:=omega) only [go_sem,rd_ext hb,hmA,fg_ptr hb,leads_ptr hb,apart_ptr hb,hVr,hVf,hVl,hfg108,hf109]
  refine W_slc (h0:=h0) (v:=.sl (.obj q1) 0 T.length) (l:=(T).map Tag.enc) (a:=i + 1) (b:=(T).length) (by simp only [go_sem]) hSa (.inr ⟨_,.i64,rfl,by first | (simp only [go_sem]; done) | (simp only [go_sem]; rfl)⟩) (.inl ⟨rfl,by simp⟩) hiL (by simp) (.inl rfl) fun v116 _ hfg116 hel116=>?_
  refine W_app (h0:=h) (v:=v109) (l:=[] ++ ((T).take i).map Tag.enc) (by simp only [go_sem]) (fun n=>hl n) hof1.next hS1 (add:=((T).drop (i + 1)).map Tag.enc) (by simp only [go_sem]; rw [hel116,List.map_drop]; simp [List.take_of_length_le]) (fun a h=>by rw [List.nil_append] at h; exact fits_tags _ a h) (fits_tags _) (by simp; omega) (fun e=>by rfl) fun v117 H2 hS2 hof2=>?_
  have hf117:=hS2.fg
  have hl117:=hS2.ld
  have hfit117 : tSl.fits v117 = true:=by have:=hS2.r.fits; simpa using this
  have hMb : H2.look (.stk l u) = some ⟨tRIdeal,encRI (.sl (.obj q1) 0 T.length) v2⟩:=by rw [← hMa]; simp only [HP.look,hof2.stk]
  have hGb : SlG tRFile h0 H2 v2 (F.map RFile.enc):=hGa.same hof2 (hS1.apart' hGa)
  simp (maxSteps:=999999) (disch:=omega) only [go_sem,hf117,hl117,hfit117,stV_RI0 hlu hls hMb hfit117,k3]
  refine ⟨by rw [hc],((((FrI.refl h0 h l u)).off hof1 h0n (fun _ _=>rfl)).off hof2 (Nat.le_trans h0n hof1.next) (fun n hn=>hS1.into n (Nat.lt_of_lt_of_le hn h0n))).set _,v117,v2,stk_look_set ..,?_,?_⟩
  ·show SlG tTag h0 H2 v117 _
   have et : (rdoT T F x).map Tag.enc = ([] ++ ((T).take i).map Tag.enc) ++ ((T).drop (i + 1)).map Tag.enc:=by
    simp [rdoT,hc,e,k3]
   rw [et]; exact hS2.mono h0n
  ·show SlG tRFile h0 H2 v2 _
   have et : rdoF T F x = F:=by simp [rdoF,hc,k3]
   rw [et]; exact hGb
 have hGv : ∃ q,v2 = .sl (.obj q) 0 F.length ∧ h0.next ≤ q ∧ q < h.next ∧ h.look (.obj q) = some ⟨.arr F.length tRFile,.ofList (F.map RFile.enc)⟩:=by
  rcases hG with ⟨_,e'⟩ | ⟨q,rfl,h1,h2,hq,_⟩
  ·have : F = []:=by simpa using e'
   rw [this] at hnF; simp at hnF
  ·rw [List.length_map] at hq ⊢; exact ⟨q,rfl,h1,h2,hq⟩
 obtain ⟨q2,ev2,hq0,hqn,hq2⟩:=hGv
 subst ev2
 by_cases k5 : x.kind = 5
 ·obtain ⟨p0,p2⟩:=hpp (.inl k5)
  obtain ⟨pp,hp'⟩ : ∃ pp : Nat,x.p = pp:=⟨x.p.toNat,(Int.toNat_of_nonneg p0).symm⟩
  have pp2 : pp < 2:=by omega
  have put1:=files_put hnF (rfile_put0 (filN F (rdoN T x)) pp2 true)
  have put2:=files_put (F:=F.set (rdoN T x) ((filN F (rdoN T x)).setH pp true)) (by rw [List.length_set]; exact hnF) (by rw [filN_set hnF]; exact rfile_put1 ((filN F (rdoN T x)).setH pp true) pp2 x.text)
  rw [List.set_set] at put2
  have hc : rdoC T x = 0:=by simp [rdoC,c0,e,k5]
  simp (maxSteps:=999999) (disch:=omega) only [go_sem,k5,rd_ext hb,hm,fg_ptr hb,leads_ptr hb,apart_ptr hb,hm2,hfit,hfit2,hfg1,hfg2,hld1,hld2,hq2,hp',pp2,hnF,stV_ob (hl _),put1,put2,look_ob,Option.bind_some,Option.map_some]
  have ob2 : Off h (h.ob q2 (.arr F.length tRFile) (AV.ofList ((F.set (rdoN T x) ((filN F (rdoN T x)).setP pp true x.text)).map RFile.enc))) (.sl (.obj q2) 0 F.length) :=
   ⟨rfl,rfl,Nat.le_refl _,fun n _ hv=>by
    have hne : ¬n = q2:=fun e=>by subst e; simp [AV.into] at hv
    exact obj_ob_ne hne⟩
  refine ⟨by rw [hc],(FrI.refl h0 h l u).ob hq0,_,_,hm0,?_,?_⟩
  ·have et : rdoT T F x = T:=by simp [rdoT,k5]
   rw [et]
   exact hS.same ob2 (hS.apart hG)
  ·have et : rdoF T F x = F.set (rdoN T x) ((filN F (rdoN T x)).setP pp true x.text):=by simp [rdoF,hc,k5,hp']
   rw [et]
   refine .inr ⟨q2,by simp,hq0,hqn,?_,?_⟩
   ·rw [List.length_map,List.length_set]; exact look_ob
   ·have : F ≠ []:=fun e=>by rw [e] at hnF; simp at hnF
    simpa using this
 have k6 : x.kind = 6:=by omega
 obtain ⟨p0,p2⟩:=hpp (.inr k6)
 obtain ⟨pp,hp'⟩ : ∃ pp : Nat,x.p = pp:=⟨x.p.toNat,(Int.toNat_of_nonneg p0).symm⟩
 have pp2 : pp < 2:=by omega
 have put1:=files_put hnF (rfile_put0 (filN F (rdoN T x)) pp2 false)
 have put2:=files_put (F:=F.set (rdoN T x) ((filN F (rdoN T x)).setH pp false)) (by rw [List.length_set]; exact hnF) (by rw [filN_set hnF]; exact rfile_put1 ((filN F (rdoN T x)).setH pp false) pp2 ⟨#[]⟩)
 rw [List.set_set] at put2
 have hc : rdoC T x = 0:=by simp [rdoC,c0,e,k6]
 simp (maxSteps:=999999) (disch:=omega) only [go_sem,k6,rd_ext hb,hm,fg_ptr hb,leads_ptr hb,apart_ptr hb,hm2,hfit,hfit2,hfg1,hfg2,hld1,hld2,hq2,hp',pp2,hnF,stV_ob (hl _),put1,put2,look_ob,Option.bind_some,Option.map_some]
 have ob2 : Off h (h.ob q2 (.arr F.length tRFile) (AV.ofList ((F.set (rdoN T x) ((filN F (rdoN T x)).setP pp false ⟨#[]⟩)).map RFile.enc))) (.sl (.obj q2) 0 F.length) :=
  ⟨rfl,rfl,Nat.le_refl _,fun n _ hv=>by
   have hne : ¬n = q2:=fun e=>by subst e; simp [AV.into] at hv
   exact obj_ob_ne hne⟩
 refine ⟨by rw [hc],(FrI.refl h0 h l u).ob hq0,_,_,hm0,?_,?_⟩
 ·have et : rdoT T F x = T:=by simp [rdoT,k6]
  rw [et]
  exact hS.same ob2 (hS.apart hG)
 ·have et : rdoF T F x = F.set (rdoN T x) ((filN F (rdoN T x)).setP pp false ⟨#[]⟩):=by simp [rdoF,hc,k6,hp']
  rw [et]
  refine .inr ⟨q2,by simp,hq0,hqn,?_,?_⟩
  ·rw [List.length_map,List.length_set]; exact look_ob
  ·have : F ≠ []:=fun e=>by rw [e] at hnF; simp at hnF
   simpa using this
end
def cHas (a : Img) (n p : Nat) : Bool:=decide (0 ≤ (a.ino n).prt p)
def cText (a : Img) (n p : Nat) : Str:=if 0 ≤ (a.ino n).prt p then (a.dat ((a.ino n).prt p).toNat).text else ⟨#[]⟩
structure SRel (a : Img) (T : List Tag) (G : List RFile) (φ : Nat → Nat) : Prop where
 nd : T.Pairwise fun x y=>¬(x.dir = y.dir ∧ x.name = y.name)
 va : ∀ t ∈ T,(0 ≤ t.dir ∧ t.dir < 3) ∧ ¬t.name = ⟨#[]⟩ ∧ t.file < G.length
 to : ∀ t ∈ T,∃ k,k < 4 ∧ (a.ent t.dir.toNat k).name = t.name ∧ (a.ent t.dir.toNat k).ino = φ t.file
 fr : ∀ d k,d < 3 → k < 4 → ¬(a.ent d k).name = ⟨#[]⟩ → ∃ t ∈ T,t.dir = d ∧ t.name = (a.ent d k).name
 ij : ∀ t ∈ T,∀ u ∈ T,φ t.file = φ u.file → t.file = u.file
 ct : ∀ t ∈ T,∀ p,p < 2 → (filN G t.file).has p = cHas a (φ t.file) p ∧ (filN G t.file).text p = cText a (φ t.file) p
theorem cont_eq {a b : Img} {n p : Nat} (hp : (b.ino n).prt p = (a.ino n).prt p) (hd : 0 ≤ (a.ino n).prt p → (b.dat ((a.ino n).prt p).toNat).text = (a.dat ((a.ino n).prt p).toNat).text) : cHas b n p = cHas a n p ∧ cText b n p = cText a n p:=by
 unfold cHas cText
 rw [hp]
 refine ⟨rfl,?_⟩
 split
 ·rename_i h; exact hd h
 ·rfl
section
variable {a : Img} {T : List Tag} {G : List RFile} {φ : Nat → Nat}
theorem SRel.live (h : SRel a T G φ) (hc : Ck a) {t : Tag} (ht : t ∈ T) : φ t.file < 8 ∧ (a.ino (φ t.file)).live = true:=by
 obtain ⟨⟨d0,d3⟩,hn,_⟩:=h.va t ht
 obtain ⟨k,k4,e1,e2⟩:=h.to t ht
 rcases hc.en t.dir.toNat k (by omega) k4 with e | ⟨_,_,i0,i8,hl,_⟩
 ·rw [e] at e1; exact absurd e1.symm hn
 ·rw [e2] at i0 i8 hl
  exact ⟨by omega,by simpa using hl⟩
theorem Tag.ext' {x y : Tag} (h1 : x.dir = y.dir) (h2 : x.name = y.name) (h3 : x.file = y.file) : x = y:=by
 cases x; cases y; simp only at h1 h2 h3; subst h1; subst h2; subst h3; rfl
theorem at_pos {d : Int} {s : Str} (h : 0 ≤ atT T d s) : tagN T (atT T d s).toNat ∈ T ∧ (tagN T (atT T d s).toNat).dir = d ∧ (tagN T (atT T d s).toNat).name = s:=by
 rcases atT_cases T d s with e | ⟨k,hk,e,h1,h2⟩
 ·omega
 ·rw [e,Int.toNat_natCast,h1,h2]
  exact ⟨by rw [tagN_get hk]; exact List.getElem_mem hk,rfl,rfl⟩
theorem at_of {t : Tag} (ht : t ∈ T) : 0 ≤ atT T t.dir t.name:=by
 obtain ⟨k,hk,e⟩:=List.getElem_of_mem ht
 unfold atT
 rcases findN_lt (f:=fun i=>decide ((tagN T i).dir = t.dir) && decide ((tagN T i).name = t.name)) (n:=T.length) with e1 | ⟨j,_,e1,_⟩
 ·exfalso
  have:=findN_neg e1 k hk
  rw [tagN_get hk,e] at this
  simp at this
 ·rw [e1]; omega
theorem at_unique (h : T.Pairwise fun x y=>¬(x.dir = y.dir ∧ x.name = y.name)) {x y : Tag} (hx : x ∈ T) (hy : y ∈ T) (hd : x.dir = y.dir) (hn : x.name = y.name) : x = y:=by
 induction T with
 | nil=>simp at hx
 | cons z T ih =>
  rw [List.pairwise_cons] at h
  rcases List.mem_cons.1 hx with rfl | hx'
  ·rcases List.mem_cons.1 hy with rfl | hy'
   ·rfl
   ·exact absurd ⟨hd,hn⟩ (h.1 y hy')
  ·rcases List.mem_cons.1 hy with rfl | hy'
   ·exact absurd ⟨hd.symm,hn.symm⟩ (h.1 x hx')
   ·exact ih h.2 hx' hy'
theorem slot_of {d k : Nat} {s : Str} (hd : d < 3) (hk : k < 4) (hs : ¬s = ⟨#[]⟩) (e : (a.ent d k).name = s) : 0 ≤ slotOf a d s:=by
 have e0 : slotOf a (d : Int) s = findN 4 fun j=>decide ((a.ent d j).name = s):=by
  unfold slotOf
  rw [if_neg (by simp only [not_or]; exact ⟨by omega,by omega,hs⟩),Int.toNat_natCast]
 rw [e0]
 rcases findN_lt (f:=fun j=>decide ((a.ent d j).name = s)) (n:=4) with e1 | ⟨j,_,e1,_⟩
 ·exfalso
  have:=findN_neg e1 k hk
  simp [e] at this
 ·rw [e1]; omega
theorem SRel.at_slot (h : SRel a T G φ) (hc : Ck a) {d : Int} {s : Str} (hd : 0 ≤ d ∧ d < 3) (hs : ¬s = ⟨#[]⟩) : (0 ≤ atT T d s ↔ 0 ≤ slotOf a d s) ∧
  (0 ≤ atT T d s → ∃ k : Nat,k < 4 ∧ slotOf a d s = k ∧ (a.ent d.toNat k).name = s ∧ (a.ent d.toNat k).ino = φ (tagN T (atT T d s).toNat).file):=by
 obtain ⟨dn,rfl⟩ : ∃ n : Nat,d = n:=⟨d.toNat,(Int.toNat_of_nonneg hd.1).symm⟩
 have dn3 : dn < 3:=by omega
 have fwd : 0 ≤ atT T dn s → ∃ k : Nat,k < 4 ∧ slotOf a dn s = k ∧ (a.ent dn k).name = s ∧ (a.ent dn k).ino = φ (tagN T (atT T dn s).toNat).file:=by
  intro hp
  obtain ⟨m,e1,e2⟩:=at_pos hp
  obtain ⟨k,k4,e3,e4⟩:=h.to _ m
  rw [e1,e2,Int.toNat_natCast] at e3
  rw [e1,Int.toNat_natCast] at e4
  have hp2:=slot_of (a:=a) dn3 k4 hs e3
  rcases slotOf_cases a dn s with e | ⟨j,j4,e,_,_,e5,_⟩
  ·omega
  ·rw [Int.toNat_natCast] at e5
   have ejk : j = k:=by
    by_cases q : j = k
    ·exact q
    ·exact absurd (e5.trans e3.symm) (hc.un dn k j dn3 k4 j4 q (by rw [e3]; exact hs))
   subst ejk
   exact ⟨j,j4,e,e3,e4⟩
 refine ⟨⟨fun hp=>?_,fun hp=>?_⟩,by rw [Int.toNat_natCast]; exact fwd⟩
 ·obtain ⟨k,_,e,_⟩:=fwd hp; omega
 ·rcases slotOf_cases a dn s with e | ⟨j,j4,e,_,_,e5,_⟩
  ·omega
  ·rw [Int.toNat_natCast] at e5
   obtain ⟨t,ht,e6,e7⟩:=h.fr dn j dn3 j4 (by rw [e5]; exact hs)
   have:=at_of ht
   rw [e6,e7,e5] at this
   exact this
theorem prt_addName (a : Img) (d s : Nat) (nm : Str) (n j p : Nat) : ((addName a d s nm n).ino j).prt p = (a.ino j).prt p:=by
 unfold addName
 rw [ino_setIno]
 split
 ·rename_i q; rw [← q.1]; rfl
 ·rw [ino_setEnt]
theorem SRel.link (h : SRel a T G φ) {d0 k0 n : Nat} {nm : Str} {t1 : Tag} (hd : d0 < 3) (hk : k0 < 4) (hnm : ¬nm = ⟨#[]⟩) (hfree : (a.ent d0 k0).name = ⟨#[]⟩) (hnew : ∀ t ∈ T,¬(t.dir = d0 ∧ t.name = nm)) (ht1 : t1 ∈ T) (hn : φ t1.file = n) :
  SRel (addName a d0 k0 nm n) (T ++ [(⟨d0,nm,t1.file⟩ : Tag)]) G φ:=by
 have key : ∀ t ∈ T ++ [(⟨d0,nm,t1.file⟩ : Tag)],∃ u ∈ T,u.file = t.file:=fun t ht=>by
  rcases List.mem_append.1 ht with ht | ht
  ·exact ⟨t,ht,rfl⟩
  ·simp at ht; subst ht; exact ⟨t1,ht1,rfl⟩
 have other : ∀ t ∈ T,∀ k,(a.ent t.dir.toNat k).name = t.name → ¬((d0 = t.dir.toNat ∧ k0 = k) ∧ t.dir.toNat < 3 ∧ k < 4):=fun t ht k e1 q=>by
  rw [← q.1.1,← q.1.2,hfree] at e1; exact (h.va t ht).2.1 e1.symm
 constructor
 ·refine List.pairwise_append.2 ⟨h.nd,List.pairwise_singleton ..,fun t ht u hu=>?_⟩
  simp at hu; subst hu; exact hnew t ht
 ·intro t ht
  rcases List.mem_append.1 ht with ht | ht
  ·exact h.va t ht
  ·simp at ht; subst ht; exact ⟨⟨by show (0 : Int) ≤ (d0 : Int); omega,by show (d0 : Int) < 3; omega⟩,hnm,(h.va t1 ht1).2.2⟩
 ·intro t ht
  rcases List.mem_append.1 ht with ht | ht
  ·obtain ⟨k,k4,e1,e2⟩:=h.to t ht
   exact ⟨k,k4,by rw [ent_addName,if_neg (other t ht k e1)]; exact e1,by rw [ent_addName,if_neg (other t ht k e1)]; exact e2⟩
  ·simp at ht; subst ht
   refine ⟨k0,hk,?_,?_⟩
   ·rw [ent_addName,if_pos ⟨⟨by simp,rfl⟩,by simpa using hd,hk⟩]
   ·rw [ent_addName,if_pos ⟨⟨by simp,rfl⟩,by simpa using hd,hk⟩]
    show (n : Int) = _
    rw [hn]
 ·intro d k hd' hk' hne
  rw [ent_addName] at hne ⊢
  by_cases q : (d0 = d ∧ k0 = k) ∧ d < 3 ∧ k < 4
  ·rw [if_pos q]
   exact ⟨_,List.mem_append_right _ (List.mem_singleton.2 rfl),by rw [q.1.1],rfl⟩
  ·rw [if_neg q] at hne ⊢
   obtain ⟨t,ht,e⟩:=h.fr d k hd' hk' hne
   exact ⟨t,List.mem_append_left _ ht,e⟩
 ·intro t ht u hu e
  obtain ⟨t',m1,e1⟩:=key t ht
  obtain ⟨u',m2,e2⟩:=key u hu
  rw [← e1,← e2] at e ⊢
  exact h.ij t' m1 u' m2 e
 ·intro t ht p hp
  obtain ⟨t',m1,e1⟩:=key t ht
  rw [← e1]
  obtain ⟨c1,c2⟩:=cont_eq (a:=a) (b:=addName a d0 k0 nm n) (n:=φ t'.file) (p:=p) (prt_addName ..) (fun _=>by rw [dat_addName])
  rw [c1,c2]
  exact h.ct t' m1 p hp
theorem SRel.make (h : SRel a T G φ) (hc : Ck a) {d0 k0 n : Nat} {nm : Str} {st : Int} (hd : d0 < 3) (hk : k0 < 4) (hnm : ¬nm = ⟨#[]⟩) (hfree : (a.ent d0 k0).name = ⟨#[]⟩) (hnew : ∀ t ∈ T,¬(t.dir = d0 ∧ t.name = nm)) (n8 : n < 8) (hl : (a.ino n).live = false) :
  SRel (addName (a.setIno n (newIno st)) d0 k0 nm n) (T ++ [(⟨d0,nm,G.length⟩ : Tag)]) (G ++ [RFile.zero]) (fun f=>if f = G.length then n else φ f):=by
 have other : ∀ t ∈ T,∀ k,(a.ent t.dir.toNat k).name = t.name → ¬((d0 = t.dir.toNat ∧ k0 = k) ∧ t.dir.toNat < 3 ∧ k < 4):=fun t ht k e1 q=>by
  rw [← q.1.1,← q.1.2,hfree] at e1; exact (h.va t ht).2.1 e1.symm
 have old : ∀ t ∈ T,¬t.file = G.length:=fun t ht=>by have:=(h.va t ht).2.2; omega
 have oldn : ∀ t ∈ T,¬φ t.file = n:=fun t ht e=>by
  have:=(h.live hc ht).2
  rw [e,hl] at this; exact absurd this (by simp)
 constructor
 ·refine List.pairwise_append.2 ⟨h.nd,List.pairwise_singleton ..,fun t ht u hu=>?_⟩
  simp at hu; subst hu; exact hnew t ht
 ·intro t ht
  rw [List.length_append]
  rcases List.mem_append.1 ht with ht | ht
  ·have:=h.va t ht
   exact ⟨this.1,this.2.1,by have:=this.2.2; simp; omega⟩
  ·simp at ht; subst ht; exact ⟨⟨by show (0 : Int) ≤ (d0 : Int); omega,by show (d0 : Int) < 3; omega⟩,hnm,by simp⟩
 ·intro t ht
  rcases List.mem_append.1 ht with ht | ht
  ·obtain ⟨k,k4,e1,e2⟩:=h.to t ht
   rw [if_neg (old t ht)]
   exact ⟨k,k4,by rw [ent_addName,if_neg (other t ht k e1),ent_setIno]; exact e1,by rw [ent_addName,if_neg (other t ht k e1),ent_setIno]; exact e2⟩
  ·simp at ht; subst ht
   refine ⟨k0,hk,?_,?_⟩
   ·rw [ent_addName,if_pos ⟨⟨by simp,rfl⟩,by simpa using hd,hk⟩]
   ·rw [ent_addName,if_pos ⟨⟨by simp,rfl⟩,by simpa using hd,hk⟩]
    simp
 ·intro d k hd' hk' hne
  rw [ent_addName] at hne ⊢
  by_cases q : (d0 = d ∧ k0 = k) ∧ d < 3 ∧ k < 4
  ·rw [if_pos q]
   exact ⟨_,List.mem_append_right _ (List.mem_singleton.2 rfl),by rw [q.1.1],rfl⟩
  ·rw [if_neg q,ent_setIno] at hne ⊢
   obtain ⟨t,ht,e⟩:=h.fr d k hd' hk' hne
   exact ⟨t,List.mem_append_left _ ht,e⟩
 ·intro t ht u hu e
  rcases List.mem_append.1 ht with ht | ht
  ·rw [if_neg (old t ht)] at e
   rcases List.mem_append.1 hu with hu | hu
   ·rw [if_neg (old u hu)] at e
    exact h.ij t ht u hu e
   ·simp at hu; subst hu
    rw [if_pos rfl] at e
    exact absurd e (oldn t ht)
  ·simp at ht; subst ht
   rw [if_pos rfl] at e
   rcases List.mem_append.1 hu with hu | hu
   ·rw [if_neg (old u hu)] at e
    exact absurd e.symm (oldn u hu)
   ·simp at hu; subst hu; rfl
 ·intro t ht p hp
  rcases List.mem_append.1 ht with ht | ht
  ·rw [if_neg (old t ht)]
   have eg : filN (G ++ [RFile.zero]) t.file = filN G t.file:=by
    have:=(h.va t ht).2.2
    simp [filN,List.getElem?_append,this]
   obtain ⟨c1,c2⟩:=cont_eq (a:=a) (b:=addName (a.setIno n (newIno st)) d0 k0 nm n) (n:=φ t.file) (p:=p) (by rw [prt_addName,ino_setIno,if_neg (fun q=>oldn t ht q.1.symm)]) (fun _=>by rw [dat_addName,dat_setIno])
   rw [c1,c2,eg]
   exact h.ct t ht p hp
  ·simp at ht; subst ht
   dsimp only
   rw [if_pos rfl]
   have eg : filN (G ++ [RFile.zero]) G.length = RFile.zero:=by simp [filN]
   have ep : ((addName (a.setIno n (newIno st)) d0 k0 nm n).ino n).prt p = -1:=by
    rw [prt_addName,ino_setIno,if_pos ⟨rfl,n8⟩]
    match p,hp with
    | 0,_=>rfl
    | 1,_=>rfl
   rw [eg]
   unfold cHas cText
   rw [ep]
   constructor
   ·simp [RFile.has,RFile.zero]
   ·simp [RFile.text,RFile.zero]
theorem SRel.drop {A B : List Tag} {t0 : Tag} (h : SRel a (A ++ t0 :: B) G φ) (hx : exact a = true) {s : Nat} (hs : s < 4) (e0 : (a.ent t0.dir.toNat s).name = t0.name) : SRel (dropName a t0.dir.toNat s) (A ++ B) G φ:=by
 have hc:=Ck.of (exact_parts hx).1
 have sub : ∀ t ∈ A ++ B,t ∈ A ++ t0 :: B:=fun t ht=>by
  rcases List.mem_append.1 ht with q | q
  ·exact List.mem_append_left _ q
  ·exact List.mem_append_right _ (List.mem_cons_of_mem _ q)
 have m0 : t0 ∈ A ++ t0 :: B:=List.mem_append_right _ (List.mem_cons_self ..)
 have nd:=h.nd
 rw [List.pairwise_append] at nd
 obtain ⟨nA,nB,nAB⟩:=nd
 rw [List.pairwise_cons] at nB
 have ne0 : ∀ t ∈ A ++ B,¬(t.dir = t0.dir ∧ t.name = t0.name):=fun t ht q=>by
  rcases List.mem_append.1 ht with m | m
  ·exact nAB t m t0 (List.mem_cons_self ..) q
  ·exact nB.1 t m ⟨q.1.symm,q.2.symm⟩
 obtain ⟨⟨d0,d3⟩,hn0,_⟩:=h.va t0 m0
 have dn3 : t0.dir.toNat < 3:=by omega

 have hino : (a.ent t0.dir.toNat s).ino = φ t0.file:=by
  obtain ⟨k,k4,e1,e2⟩:=h.to t0 m0
  have : k = s:=by
   by_cases q : k = s
   ·exact q
   ·exact absurd (e1.trans e0.symm) (hc.un t0.dir.toNat s k dn3 hs k4 q (by rw [e0]; exact hn0))
  rw [← this]; exact e2
 obtain ⟨n8,hl⟩:=h.live hc m0
 have hN : (a.ent t0.dir.toNat s).ino.toNat = φ t0.file:=by rw [hino,Int.toNat_natCast]
 have hent : ∀ d k,(dropName a t0.dir.toNat s).ent d k = if (t0.dir.toNat = d ∧ s = k) ∧ d < 3 ∧ k < 4 then Ent.zero else a.ent d k:=fun d k=>by
  unfold dropName
  dsimp only
  split <;> rw [ent_setIno,ent_setEnt]
 have other : ∀ t ∈ A ++ B,∀ k,(a.ent t.dir.toNat k).name = t.name → ¬((t0.dir.toNat = t.dir.toNat ∧ s = k) ∧ t.dir.toNat < 3 ∧ k < 4):=fun t ht k e1 q=>by
  have d1 : t.dir = t0.dir:=by have:=(h.va t (sub t ht)).1; omega
  refine ne0 t ht ⟨d1,?_⟩
  rw [← e1,← q.1.1,← q.1.2]; exact e0
 have hprt : ∀ t ∈ A ++ B,∀ p,((dropName a t0.dir.toNat s).ino (φ t.file)).prt p = (a.ino (φ t.file)).prt p:=fun t ht p=>by
  by_cases q : φ t.file = φ t0.file
  ·
   obtain ⟨k,k4,e1,e2⟩:=h.to t (sub t ht)
   obtain ⟨⟨t0',t3⟩,tn,_⟩:=h.va t (sub t ht)
   have hld : leads (a.setEnt t0.dir.toNat s Ent.zero) t.dir.toNat k (φ t0.file) = true:=by
    unfold leads
    rw [ent_setEnt,if_neg (other t ht k e1),e1,e2,q]
    simp [tn]
   have h1:=refs_pos (m:=a.setEnt t0.dir.toNat s Ent.zero) (by omega) k4 hld
   have h2:=refs_drop (m:=a) dn3 hs (φ t0.file : Int)
   have h3 : leads a t0.dir.toNat s (φ t0.file) = true:=by
    unfold leads
    rw [e0,hino]
    simp [hn0]
   rw [h3] at h2
   have h4:=((exact_parts hx).2 (φ t0.file) n8 hl).2
   have h5 : b2n true = 1:=rfl
   have h6:=refs_le a (φ t0.file)
   have hw : IntKind.i64.wrap ((a.ino (φ t0.file)).links - 1) = (a.ino (φ t0.file)).links - 1:=wrap64 (by omega) (by omega)
   unfold dropName
   dsimp only
   rw [hN,hw,if_neg (by omega),ino_setIno,ino_setEnt]
   split
   ·rename_i q2; rw [← q2.1]; rfl
   ·rfl
  ·unfold dropName
   dsimp only
   rw [hN]
   split
   ·rw [ino_setIno,if_neg (fun q2=>q q2.1.symm),ino_setEnt]
   ·rw [ino_setIno,if_neg (fun q2=>q q2.1.symm),ino_setEnt]
 constructor
 ·exact List.pairwise_append.2 ⟨nA,nB.2,fun x hx y hy=>nAB x hx y (List.mem_cons_of_mem _ hy)⟩
 ·exact fun t ht=>h.va t (sub t ht)
 ·intro t ht
  obtain ⟨k,k4,e1,e2⟩:=h.to t (sub t ht)
  exact ⟨k,k4,by rw [hent,if_neg (other t ht k e1)]; exact e1,by rw [hent,if_neg (other t ht k e1)]; exact e2⟩
 ·intro d k hd hk hne
  rw [hent] at hne ⊢
  by_cases q : (t0.dir.toNat = d ∧ s = k) ∧ d < 3 ∧ k < 4
  ·rw [if_pos q] at hne; exact absurd rfl hne
  ·rw [if_neg q] at hne ⊢
   obtain ⟨t,ht,e1,e2⟩:=h.fr d k hd hk hne
   refine ⟨t,?_,e1,e2⟩
   rcases List.mem_append.1 ht with m | m
   ·exact List.mem_append_left _ m
   ·rcases List.mem_cons.1 m with rfl | m
    ·exfalso
     have ed : t.dir.toNat = d:=by rw [e1,Int.toNat_natCast]
     rw [ed] at e0 q
     refine hc.un d k s hd hk hs (fun e=>q ⟨⟨rfl,e⟩,hd,hk⟩) hne ?_
     rw [e0]; exact e2
    ·exact List.mem_append_right _ m
 ·exact fun t ht u hu=>h.ij t (sub t ht) u (sub u hu)
 ·intro t ht p hp
  obtain ⟨c1,c2⟩:=cont_eq (a:=a) (b:=dropName a t0.dir.toNat s) (n:=φ t.file) (p:=p) (hprt t ht p) (fun _=>by rw [dat_dropName])
  rw [c1,c2]
  exact h.ct t (sub t ht) p hp
theorem has_setP (f : RFile) {p q : Nat} (hp : p < 2) (hq : q < 2) (b : Bool) (t : Str) : (f.setP p b t).has q = (if p = q then b else f.has q) ∧ (f.setP p b t).text q = if p = q then t else f.text q:=by
 match p,q,hp,hq with
 | 0,0,_,_=>exact ⟨rfl,rfl⟩
 | 0,1,_,_=>exact ⟨rfl,rfl⟩
 | 1,0,_,_=>exact ⟨rfl,rfl⟩
 | 1,1,_,_=>exact ⟨rfl,rfl⟩
theorem filN_set_ne {G : List RFile} {n m : Nat} (h : ¬n = m) (f : RFile) : filN (G.set n f) m = filN G m:=by simp [filN,List.getElem?_set,h]
theorem SRel.part {b : Img} (h : SRel a T G φ) {t0 : Tag} (m0 : t0 ∈ T) {p : Nat} (hp : p < 2) {v : Bool} {tx : Str}
  (hent : ∀ d k,b.ent d k = a.ent d k) (hme : cHas b (φ t0.file) p = v ∧ cText b (φ t0.file) p = tx)
  (hoth : ∀ t ∈ T,∀ q,q < 2 → ¬(φ t.file = φ t0.file ∧ q = p) → cHas b (φ t.file) q = cHas a (φ t.file) q ∧ cText b (φ t.file) q = cText a (φ t.file) q) :
  SRel b T (G.set t0.file ((filN G t0.file).setP p v tx)) φ:=by
 constructor
 ·exact h.nd
 ·intro t ht; rw [List.length_set]; exact h.va t ht
 ·intro t ht
  obtain ⟨k,k4,e1,e2⟩:=h.to t ht
  exact ⟨k,k4,by rw [hent]; exact e1,by rw [hent]; exact e2⟩
 ·intro d k hd hk hne
  rw [hent] at hne ⊢
  exact h.fr d k hd hk hne
 ·exact h.ij
 ·intro t ht q hq
  by_cases e : t0.file = t.file
  ·rw [← e,filN_set (h.va t0 m0).2.2]
   obtain ⟨c1,c2⟩:=has_setP (filN G t0.file) hp hq v tx
   rw [c1,c2]
   by_cases eq : p = q
   ·subst eq
    rw [if_pos rfl,if_pos rfl,hme.1,hme.2]
    exact ⟨rfl,rfl⟩
   ·rw [if_neg eq,if_neg eq]
    obtain ⟨c3,c4⟩:=hoth t ht q hq (fun x=>eq x.2.symm)
    rw [← e] at c3 c4
    rw [c3,c4]
    have:=h.ct t ht q hq
    rw [← e] at this
    exact this
  ·rw [filN_set_ne e]
   obtain ⟨c3,c4⟩:=hoth t ht q hq (fun x=>e (h.ij t ht t0 m0 x.1).symm)
   rw [c3,c4]
   exact h.ct t ht q hq
theorem SRel.put (h : SRel a T G φ) (hc : Ck a) {b : Img} {t0 : Tag} (m0 : t0 ∈ T) {p : Nat} (hp : p < 2) {tx : Str} (hpc : putC a b (φ t0.file) p = 0) :
  SRel (putA a b (φ t0.file) p tx) T (G.set t0.file ((filN G t0.file).setP p true tx)) φ:=by
 obtain ⟨n8,hl⟩:=h.live hc m0
 have hme0:=(hc.li _ n8 hl).2.2 p hp
 generalize hn : φ t0.file = n at *
 by_cases c1 : (a.ino n).prt p < 0
 ·have c2 : ¬freeDat a b < 0:=fun q=>by simp [putC,c1,q] at hpc
  rcases freeDat_cases a b with e | ⟨k,k9,e,ha,hb⟩
  ·omega
  have ep : putA a b n p tx = (a.setIno n ((a.ino n).setPrt p k)).setDat k ⟨(a.ino n).stamp,tx⟩:=by
   unfold putA
   rw [if_pos c1,if_neg c2,e,Int.toNat_natCast]
  rw [ep]
  rw [← hn]
  have hh : ∀ m q,m < 8 → q < 2 → (a.ino m).live = true → ¬(a.ino m).prt q = k:=fun m q m8 q2 hlm e1=>by
   have:=held_iff.2 ⟨m,q,m8,q2,hlm,e1⟩
   rw [ha] at this; exact absurd this (by simp)
  refine h.part m0 hp (fun d k=>by rw [ent_setDat,ent_setIno]) ?_ fun t ht q hq hne=>?_
  ·unfold cHas cText
   rw [hn]
   rw [ino_setDat,ino_setIno,if_pos ⟨rfl,n8⟩,prt_setPrt,if_pos ⟨rfl,hp⟩,Int.toNat_natCast,dat_setDat]
   simp [k9]
  ·obtain ⟨m8,hlm⟩:=h.live hc ht
   refine cont_eq ?_ fun h0=>?_
   ·rw [ino_setDat,ino_setIno]
    split
    ·rename_i x
     rw [← x.1,prt_setPrt,if_neg (fun y=>hne ⟨x.1.symm,y.1.symm⟩)]
    ·rfl
   ·rw [dat_setDat,if_neg (fun x=>hh _ q m8 hq hlm (by omega)),dat_setIno]
 ·have ep : putA a b n p tx = a.setDat ((a.ino n).prt p).toNat ⟨(a.ino n).stamp,tx⟩:=by unfold putA; rw [if_neg c1]
  rcases hme0 with g | ⟨g0,g9,_⟩
  ·omega
  rw [ep]
  rw [← hn]
  refine h.part m0 hp (fun d k=>by rw [ent_setDat]) ?_ fun t ht q hq hne=>?_
  ·unfold cHas cText
   rw [hn,ino_setDat,dat_setDat]
   simp [g0,g9]
  ·obtain ⟨m8,hlm⟩:=h.live hc ht
   refine cont_eq (by rw [ino_setDat]) fun h0=>?_
   rw [dat_setDat,if_neg]
   rintro ⟨x,_⟩
   obtain ⟨y1,y2⟩:=hc.pt (φ t.file) n q p m8 n8 hq hp hlm hl h0 (by rw [hn] at x; omega)
   exact hne ⟨y1.trans hn.symm,y2⟩
theorem SRel.cut (h : SRel a T G φ) (hc : Ck a) {t0 : Tag} (m0 : t0 ∈ T) {p : Nat} (hp : p < 2) :
  SRel (a.setIno (φ t0.file) ((a.ino (φ t0.file)).setPrt p (-1))) T (G.set t0.file ((filN G t0.file).setP p false ⟨#[]⟩)) φ:=by
 obtain ⟨n8,hl⟩:=h.live hc m0
 refine h.part m0 hp (fun d k=>by rw [ent_setIno]) ?_ fun t ht q hq hne=>?_
 ·unfold cHas cText
  rw [ino_setIno,if_pos ⟨rfl,n8⟩,prt_setPrt,if_pos ⟨rfl,hp⟩]
  simp
 ·refine cont_eq ?_ fun h0=>by rw [dat_setIno]
  rw [ino_setIno]
  split
  ·rename_i x
   rw [← x.1,prt_setPrt,if_neg (fun y=>hne ⟨x.1.symm,y.1.symm⟩)]
  ·rfl
end
theorem at_neg {T : List Tag} {d : Int} {s : Str} (h : ¬0 ≤ atT T d s) : ∀ t ∈ T,¬(t.dir = d ∧ t.name = s):=fun t ht e=>by
 have:=at_of ht
 rw [e.1,e.2] at this
 exact h this
theorem at_split {T : List Tag} {i : Nat} (hi : i < T.length) : T = T.take i ++ tagN T i :: T.drop (i + 1):=by
 rw [tagN_get hi,← List.drop_eq_getElem_cons hi,List.take_append_drop]
theorem srel_step {F : Fl} {T : List Tag} {G : List RFile} {φ : Nat → Nat} (h : Inv F) (r : SRel F.now T G φ) (x : SStep) (h6 : ¬doC F x = 6) :
  doC F x = rdoC T x ∧ ∃ φ',SRel (doF F x).now (rdoT T G x) (rdoF T G x) φ':=by
 have hc:=Ck.of h.cn
 have hx:=exact_parts h.ex
 by_cases c0 : stepFault x = 0
 rotate_left
 ·have e1 : doC F x = stepFault x:=by simp [doC,c0]
  have e2 : rdoC T x = stepFault x:=by simp [rdoC,c0]
  refine ⟨e1.trans e2.symm,φ,?_⟩
  have e3 : doF F x = F:=by simp [doF,e1,c0]
  have e4 : rdoT T G x = T:=by simp [rdoT,e2,c0]
  have e5 : rdoF T G x = G:=by simp [rdoF,e2,c0]
  rw [e3,e4,e5]; exact r
 obtain ⟨⟨k1,k6⟩,⟨d0,d3⟩,hn,hto,hp,_⟩:=stepFault_zero c0
 have dn : x.dir.toNat < 3:=by omega
 have hd : ((x.dir.toNat : Nat) : Int) = x.dir:=Int.toNat_of_nonneg d0
 obtain ⟨as1,as2⟩:=r.at_slot hc ⟨d0,d3⟩ (isName_ne hn)

 have code : ∀ c,¬c = 0 → doC F x = c → rdoC T x = c → doC F x = rdoC T x ∧ ∃ φ',SRel (doF F x).now (rdoT T G x) (rdoF T G x) φ':=fun c hc0 e1 e2=>by
  refine ⟨e1.trans e2.symm,φ,?_⟩
  have e3 : doF F x = F:=by simp [doF,e1,hc0]
  have e4 : rdoT T G x = T:=by simp [rdoT,e2,hc0]
  have e5 : rdoF T G x = G:=by simp [rdoF,e2,hc0]
  rw [e3,e4,e5]; exact r
 by_cases c1 : x.kind = 1
 ·by_cases q1 : 0 ≤ slotOf F.now x.dir x.name
  ·have e1 : doC F x = 4:=by simp [doC,c0,c1,makeC,q1]
   have e2 : rdoC T x = 4:=by simp [rdoC,c0,c1,as1.2 q1]
   exact code 4 (by omega) e1 e2
  have qa : ¬0 ≤ atT T x.dir x.name:=fun q=>q1 (as1.1 q)
  by_cases q2 : freeIno F.now F.disk < 0 ∨ room F.now F.disk x.dir x.name < 0
  ·exact absurd (by simp [doC,c0,c1,makeC,q1,q2]) h6
  have e1 : doC F x = 0:=by simp [doC,c0,c1,makeC,q1,q2]
  have e2 : rdoC T x = 0:=by simp [rdoC,c0,c1,qa]
  refine ⟨e1.trans e2.symm,?_⟩
  rcases freeIno_cases F.now F.disk with e | ⟨n,n8,e,ed,er⟩
  ·exact absurd (.inl (by omega)) q2
  rcases room_cases F.now F.disk x.dir x.name with e' | ⟨k,k4,e',_,_,ke,kb,sb⟩
  ·exact absurd (.inr (by omega)) q2
  have em : (doF F x).now = addName (F.now.setIno n (newIno (IntKind.i64.wrap (F.stamp + 1)))) x.dir.toNat k x.name n:=by
   have hm' : makeC F x.dir x.name = 0:=by simp only [makeC]; rw [if_neg q1,if_neg q2]
   simp only [doF,e1]
   rw [if_neg (by simp),if_pos c1,makeF,if_pos hm',e,e']; rfl
  have e4 : rdoT T G x = T ++ [(⟨(x.dir.toNat : Nat),x.name,G.length⟩ : Tag)]:=by simp [rdoT,e2,c1,hd]
  have e5 : rdoF T G x = G ++ [RFile.zero]:=by simp [rdoF,e2,c1]
  rw [em,e4,e5]
  exact ⟨_,r.make hc dn k4 (isName_ne hn) ke (fun t ht q=>at_neg qa t ht ⟨by rw [q.1,hd],q.2⟩) n8 ed⟩
 by_cases q1 : slotOf F.now x.dir x.name < 0
 ·have qa : atT T x.dir x.name < 0:=by
   by_cases q : 0 ≤ atT T x.dir x.name
   ·have:=as1.1 q; omega
   ·omega
  exact code 5 (by omega) (by simp [doC,c0,c1,q1]) (by simp [rdoC,c0,c1,qa])
 have qa : 0 ≤ atT T x.dir x.name:=as1.2 (by omega)
 obtain ⟨s,s4,es,ename,eino⟩:=as2 qa
 obtain ⟨m0,ed0,en0⟩:=at_pos qa
 obtain ⟨i,ei⟩ : ∃ i : Nat,atT T x.dir x.name = i:=⟨(atT T x.dir x.name).toNat,(Int.toNat_of_nonneg qa).symm⟩
 have hi : i < T.length:=by
  rcases atT_cases T x.dir x.name with q | ⟨k,hk,q,_⟩ <;> omega
 rw [ei,Int.toNat_natCast] at m0 ed0 en0 eino
 have es' : (slotOf F.now x.dir x.name).toNat = s:=by rw [es]; rfl
 have hN : (F.now.ent x.dir.toNat s).ino.toNat = φ (tagN T i).file:=by rw [eino]; rfl
 have hRN : rdoN T x = (tagN T i).file:=by unfold rdoN; rw [ei]; rfl
 obtain ⟨n8,hl⟩:=r.live hc m0
 have qa' : ¬atT T x.dir x.name < 0:=by omega

 have more : (x.kind = 2 ∨ x.kind = 4) → ¬0 ≤ slotOf F.now x.toDir x.to → ¬room F.now F.disk x.toDir x.to < 0 →
   exact (enterA F.now F.disk x.toDir x.to (φ (tagN T i).file)) = true ∧ SRel (enterA F.now F.disk x.toDir x.to (φ (tagN T i).file)) (T ++ [(⟨x.toDir,x.to,(tagN T i).file⟩ : Tag)]) G φ ∧
   (enterA F.now F.disk x.toDir x.to (φ (tagN T i).file)).ent x.dir.toNat s = F.now.ent x.dir.toNat s:=by
  intro hk p1 p2
  obtain ⟨⟨t0,t3⟩,htn⟩:=hto hk
  have ht : ((x.toDir.toNat : Nat) : Int) = x.toDir:=Int.toNat_of_nonneg t0
  rcases room_cases F.now F.disk x.toDir x.to with e2 | ⟨k,k4,e2,_,_,ke,kb,sb⟩
  ·omega
  have hcE : enterC F.now F.disk x.toDir x.to = 0:=by simp [enterC,p1,p2]
  have ek : (room F.now F.disk x.toDir x.to).toNat = k:=by omega
  have eA : enterA F.now F.disk x.toDir x.to (φ (tagN T i).file) = addName F.now x.toDir.toNat k x.to (φ (tagN T i).file):=by simp only [enterA]; rw [if_pos hcE,ek]
  rw [eA]
  have pa : ¬0 ≤ atT T x.toDir x.to:=fun q=>p1 (((r.at_slot hc ⟨t0,t3⟩ (isName_ne htn)).1).1 q)
  refine ⟨exact_add (Ex1.of h.ex _) (by omega) k4 n8 hl ke htn (slot_none t0 t3 (isName_ne htn) (by omega)),?_,?_⟩
  ·have:=r.link (d0:=x.toDir.toNat) (k0:=k) (nm:=x.to) (by omega) k4 (isName_ne htn) ke (fun t ht' q=>at_neg pa t ht' ⟨by rw [q.1,ht],q.2⟩) m0 rfl
   rw [ht] at this
   exact this
  ·refine ent_room fun hh=>?_
   rw [← hh.1.1,← hh.1.2,ke] at ename
   exact isName_ne hn ename.symm

 have less : ∀ (A : Img) (T1 : List Tag),SRel A T1 G φ → exact A = true → A.ent x.dir.toNat s = F.now.ent x.dir.toNat s → i < T1.length → tagN T1 i = tagN T i → SRel (dropName A x.dir.toNat s) (T1.take i ++ T1.drop (i + 1)) G φ:=fun A T1 rA hA eA hi1 e1=>by
  have:=at_split hi1
  rw [this] at rA
  have hd' : (tagN T1 i).dir.toNat = x.dir.toNat:=by rw [e1,ed0]
  have:=rA.drop hA s4 (by rw [hd',eA,ename,e1,en0])
  rw [hd'] at this
  exact this
 by_cases c24 : x.kind = 2 ∨ x.kind = 4
 ·obtain ⟨⟨t0,t3⟩,htn⟩:=hto c24
  have at2:=(r.at_slot hc ⟨t0,t3⟩ (isName_ne htn)).1
  by_cases p1 : 0 ≤ slotOf F.now x.toDir x.to
  ·exact code 4 (by omega) (by simp [doC,c0,c1,q1,c24,enterC,p1]) (by simp [rdoC,c0,c1,qa',c24,at2.2 p1])
  have pa : ¬0 ≤ atT T x.toDir x.to:=fun q=>p1 (at2.1 q)
  by_cases p2 : room F.now F.disk x.toDir x.to < 0
  ·exact absurd (by simp [doC,c0,c1,q1,c24,enterC,p1,p2]) h6
  obtain ⟨mx,mr,me⟩:=more c24 p1 p2
  have e1 : doC F x = 0:=by simp [doC,c0,c1,q1,c24,enterC,p1,p2]
  have e2 : rdoC T x = 0:=by simp [rdoC,c0,c1,qa',pa]
  refine ⟨e1.trans e2.symm,φ,?_⟩
  rcases c24 with c2 | c4
  ·have e3 : (doF F x).now = enterA F.now F.disk x.toDir x.to (φ (tagN T i).file):=by simp [doF,e1,c2,es',hN]
   have e4 : rdoT T G x = T ++ [(⟨x.toDir,x.to,(tagN T i).file⟩ : Tag)]:=by simp [rdoT,e2,c2,hRN]
   have e5 : rdoF T G x = G:=by simp [rdoF,e2,c2]
   rw [e3,e4,e5]; exact mr
  ·have e3 : (doF F x).now = dropName (enterA F.now F.disk x.toDir x.to (φ (tagN T i).file)) x.dir.toNat s:=by simp [doF,e1,c4,es',hN]
   have e4 : rdoT T G x = (T ++ [(⟨x.toDir,x.to,(tagN T i).file⟩ : Tag)]).take i ++ (T ++ [(⟨x.toDir,x.to,(tagN T i).file⟩ : Tag)]).drop (i + 1):=by simp only [rdoT,e2,c4,hRN,ei]; simp
   have e5 : rdoF T G x = G:=by simp [rdoF,e2,c4]
   rw [e3,e4,e5]
   exact less _ _ mr mx me (by simp; omega) (by simp [tagN,List.getElem?_append,hi])
 by_cases c3 : x.kind = 3
 ·have e1 : doC F x = 0:=by simp [doC,c0,c3,q1]
  have e2 : rdoC T x = 0:=by simp [rdoC,c0,c3,qa']
  refine ⟨e1.trans e2.symm,φ,?_⟩
  have e3 : (doF F x).now = dropName F.now x.dir.toNat s:=by simp [doF,e1,c3,es']
  have e4 : rdoT T G x = T.take i ++ T.drop (i + 1):=by simp only [rdoT,e2,c3,ei]; simp
  have e5 : rdoF T G x = G:=by simp [rdoF,e2,c3]
  rw [e3,e4,e5]
  exact less _ _ r h.ex rfl hi rfl
 obtain ⟨p0,p2⟩:=hp (by omega)
 have pp2 : x.p.toNat < 2:=by omega
 by_cases c5 : x.kind = 5
 ·by_cases pc : putC F.now F.disk (φ (tagN T i).file) x.p.toNat = 0
  ·have e1 : doC F x = 0:=by simp [doC,c0,c5,q1,es',hN,pc]
   have e2 : rdoC T x = 0:=by simp [rdoC,c0,c5,qa']
   refine ⟨e1.trans e2.symm,φ,?_⟩
   have e3 : (doF F x).now = putA F.now F.disk (φ (tagN T i).file) x.p.toNat x.text:=by simp [doF,e1,c5,es',hN]
   have e4 : rdoT T G x = T:=by simp [rdoT,c5]
   have e5 : rdoF T G x = G.set (tagN T i).file ((filN G (tagN T i).file).setP x.p.toNat true x.text):=by simp [rdoF,e2,c5,hRN]
   rw [e3,e4,e5]
   exact r.put hc m0 pp2 pc
  ·have e1 : doC F x = 6:=by
    have : putC F.now F.disk (φ (tagN T i).file) x.p.toNat = 6:=by
     unfold putC at pc ⊢
     split
     ·rfl
     ·rename_i q; rw [if_neg q] at pc; exact absurd rfl pc
    simp [doC,c0,c5,q1,es',hN,this]
   exact absurd e1 h6
 ·have c6 : x.kind = 6:=by omega
  have e1 : doC F x = 0:=by simp [doC,c0,c6,q1]
  have e2 : rdoC T x = 0:=by simp [rdoC,c0,c6,qa']
  refine ⟨e1.trans e2.symm,φ,?_⟩
  have e3 : (doF F x).now = F.now.setIno (φ (tagN T i).file) ((F.now.ino (φ (tagN T i).file)).setPrt x.p.toNat (-1)):=by simp [doF,e1,c6,es',hN]
  have e4 : rdoT T G x = T:=by simp [rdoT,c6]
  have e5 : rdoF T G x = G.set (tagN T i).file ((filN G (tagN T i).file).setP x.p.toNat false ⟨#[]⟩):=by simp [rdoF,e2,c6,hRN]
  rw [e3,e4,e5]
  exact r.cut hc m0 pp2
theorem SRel.new : SRel Img.blank [] [] id:=by
 constructor
 ·exact List.Pairwise.nil
 ·simp
 ·simp
 ·intro d k hd hk hne
  exact absurd (by
   have : ∀ d,d < 3 → ∀ k,k < 4 → (Img.blank.ent d k).name = ⟨#[]⟩:=by decide +kernel
   exact this d hd k hk) hne
 ·simp
 ·simp
theorem mem_namesL_iff {a : Img} {d : Nat} {s : Str} : ∀ k,s ∈ namesL a d k ↔ ∃ j,j < k ∧ (a.ent d j).name = s ∧ ¬s = ⟨#[]⟩
 | 0=>by simp [namesL]
 | k + 1=>by
  have ih:=mem_namesL_iff (a:=a) (d:=d) (s:=s) k
  unfold namesL
  split
  ·rename_i h
   rw [ih]
   constructor
   ·rintro ⟨j,h1,h2⟩; exact ⟨j,by omega,h2⟩
   ·rintro ⟨j,h1,h2,h3⟩
    by_cases e : j = k
    ·subst e; rw [h] at h2; exact absurd h2.symm h3
    ·exact ⟨j,by omega,h2,h3⟩
  ·rename_i h
   rw [List.mem_append,ih,List.mem_singleton]
   constructor
   ·rintro (⟨j,h1,h2⟩ | rfl)
    ·exact ⟨j,by omega,h2⟩
    ·exact ⟨k,by omega,rfl,h⟩
   ·rintro ⟨j,h1,h2,h3⟩
    by_cases e : j = k
    ·subst e; exact .inr h2.symm
    ·exact .inl ⟨j,by omega,h2,h3⟩
theorem mem_namesT_iff {T : List Tag} {d : Int} {s : Str} : ∀ k,s ∈ namesT T d k ↔ ∃ j,j < k ∧ (tagN T j).dir = d ∧ (tagN T j).name = s
 | 0=>by simp [namesT]
 | k + 1=>by
  have ih:=mem_namesT_iff (T:=T) (d:=d) (s:=s) k
  unfold namesT
  split
  ·rename_i h
   rw [List.mem_append,ih,List.mem_singleton]
   constructor
   ·rintro (⟨j,h1,h2⟩ | rfl)
    ·exact ⟨j,by omega,h2⟩
    ·exact ⟨k,by omega,h,rfl⟩
   ·rintro ⟨j,h1,h2,h3⟩
    by_cases e : j = k
    ·subst e; exact .inr h3.symm
    ·exact .inl ⟨j,by omega,h2,h3⟩
  ·rename_i h
   rw [ih]
   constructor
   ·rintro ⟨j,h1,h2⟩; exact ⟨j,by omega,h2⟩
   ·rintro ⟨j,h1,h2,h3⟩
    by_cases e : j = k
    ·subst e; exact absurd h2 h
    ·exact ⟨j,by omega,h2,h3⟩
theorem nodup_namesL {a : Img} (hc : Ck a) {d : Nat} (hd : d < 3) : ∀ k,k ≤ 4 → (namesL a d k).Nodup
 | 0,_=>List.Pairwise.nil
 | k + 1,hk=>by
  have ih:=nodup_namesL hc hd k (by omega)
  unfold namesL
  split
  ·exact ih
  ·rename_i h
   refine List.nodup_append.2 ⟨ih,by simp,fun x hx y hy e=>?_⟩
   simp at hy; subst hy; subst e
   obtain ⟨j,h1,h2,_⟩:=(mem_namesL_iff k).1 hx
   exact hc.un d k j hd (by omega) (by omega) (by omega) h h2
theorem nodup_namesT {T : List Tag} (nd : T.Pairwise fun x y=>¬(x.dir = y.dir ∧ x.name = y.name)) (d : Int) : ∀ k,k ≤ T.length → (namesT T d k).Nodup
 | 0,_=>List.Pairwise.nil
 | k + 1,hk=>by
  have ih:=nodup_namesT nd d k (by omega)
  unfold namesT
  split
  ·rename_i h
   refine List.nodup_append.2 ⟨ih,by simp,fun x hx y hy e=>?_⟩
   simp at hy; subst hy; subst e
   obtain ⟨j,h1,h2,h3⟩:=(mem_namesT_iff k).1 hx
   have:=List.pairwise_iff_getElem.1 nd j k (by omega) (by omega) h1
   rw [tagN_get (by omega)] at h2 h3
   rw [tagN_get (by omega)] at h h3
   exact this ⟨h2.trans h.symm,h3⟩
  ·exact ih
section
variable {a : Img} {T : List Tag} {G : List RFile} {φ : Nat → Nat}
theorem SRel.files (h : SRel a T G φ) : FilesOk T G:=fun k hk=>by
 rw [tagN_get hk]; exact (h.va _ (List.getElem_mem hk)).2.2
theorem srel_list (h : SRel a T G φ) (hc : Ck a) {d : Nat} (hd : d < 3) : sortS (namesT T d T.length) = listOf a d:=by
 unfold listOf
 rw [if_neg (by omega),Int.toNat_natCast]
 have p : (namesT T d T.length).Perm (namesL a d 4):=by
  rw [List.perm_ext_iff_of_nodup (nodup_namesT h.nd _ _ (Nat.le_refl _)) (nodup_namesL hc hd 4 (Nat.le_refl _))]
  intro s
  rw [mem_namesT_iff,mem_namesL_iff]
  constructor
  ·rintro ⟨j,hj,e1,e2⟩
   rw [tagN_get hj] at e1 e2
   obtain ⟨k,k4,e3,_⟩:=h.to _ (List.getElem_mem hj)
   rw [e1,e2,Int.toNat_natCast] at e3
   have:=(h.va _ (List.getElem_mem hj)).2.1
   rw [e2] at this
   exact ⟨k,k4,e3,this⟩
  ·rintro ⟨k,k4,e1,e2⟩
   obtain ⟨t,ht,e3,e4⟩:=h.fr d k hd k4 (by rw [e1]; exact e2)
   obtain ⟨j,hj,e5⟩:=List.getElem_of_mem ht
   refine ⟨j,hj,?_,?_⟩
   ·rw [tagN_get hj,e5]; exact e3
   ·rw [tagN_get hj,e5,e4]; exact e1
 exact sortS_eq ((sortS_perm _).trans p) (sortS_sorted _)
theorem srel_at (h : SRel a T G φ) (hc : Ck a) (d : Int) (s : Str) : (0 ≤ atT T d s ↔ 0 ≤ slotOf a d s) ∧
  (0 ≤ atT T d s → ∃ k : Nat,k < 4 ∧ slotOf a d s = k ∧ (a.ent d.toNat k).ino = φ (tagN T (atT T d s).toNat).file):=by
 by_cases v : (0 ≤ d ∧ d < 3) ∧ ¬s = ⟨#[]⟩
 ·obtain ⟨h1,h2⟩:=h.at_slot hc v.1 v.2
  refine ⟨h1,fun q=>?_⟩
  obtain ⟨k,k4,e1,_,e2⟩:=h2 q
  exact ⟨k,k4,e1,e2⟩
 ·have n1 : ¬0 ≤ atT T d s:=fun q=>by
   obtain ⟨m,e1,e2⟩:=at_pos q
   have:=h.va _ m
   rw [e1,e2] at this
   exact v ⟨this.1,this.2.1⟩
  have n2 : ¬0 ≤ slotOf a d s:=fun q=>by
   rcases slotOf_cases a d s with e | ⟨k,_,_,e1,e2,_,e3⟩
   ·omega
   ·exact v ⟨⟨e1,e2⟩,e3⟩
  exact ⟨⟨fun q=>absurd q n1,fun q=>absurd q n2⟩,fun q=>absurd q n1⟩
theorem srel_read (h : SRel a T G φ) (hc : Ck a) (d : Int) (s : Str) (p : Int) : rReadC T d s p = readC a d s p ∧ rReadB T G d s p = readB a d s p ∧ rReadT T G d s p = readT a d s p:=by
 obtain ⟨h1,h2⟩:=srel_at h hc d s
 have ec : rReadC T d s p = readC a d s p:=by
  unfold rReadC readC
  split
  ·rfl
  ·by_cases q : 0 ≤ atT T d s
   ·have:=h1.1 q; rw [if_neg (by omega),if_neg (by omega)]
   ·have : ¬0 ≤ slotOf a d s:=fun x=>q (h1.2 x)
    rw [if_pos (by omega),if_pos (by omega)]
 refine ⟨ec,?_⟩
 unfold rReadB rReadT readT readB
 rw [ec]
 by_cases c0 : readC a d s p = 0
 rotate_left
 ·simp [c0]
 have q : 0 ≤ atT T d s:=by
  unfold readC at c0
  split at c0
  ·rename_i h3; exact absurd c0 h3
  ·split at c0
   ·omega
   ·exact h1.2 (by omega)
 obtain ⟨k,k4,e1,e2⟩:=h2 q
 have c1 : stepFault ⟨6,d,0,p,s,⟨#[]⟩,⟨#[]⟩⟩ = 0:=by
  unfold readC at c0
  split at c0
  ·exact c0
  ·rename_i h3; simpa using h3
 obtain ⟨_,_,_,_,hp,_⟩:=stepFault_zero c1
 obtain ⟨p0,p2⟩:=hp (.inr rfl)
 obtain ⟨m,_,_⟩:=at_pos q
 obtain ⟨g1,g2⟩:=h.ct _ m p.toNat (by simp only at p0 p2; omega)
 have ex : readX a d s p = (a.ino (φ (tagN T (atT T d s).toNat).file)).prt p.toNat:=by
  unfold readX
  rw [e1,Int.toNat_natCast,e2,Int.toNat_natCast]
 rw [ex,if_pos c0,if_pos c0]
 unfold rReadF
 rw [g1,g2]
 unfold cHas cText
 have e9 : (decide (readC a d s p = 0) && !decide ((a.ino (φ (tagN T (atT T d s).toNat).file)).prt p.toNat < 0)) = decide (0 ≤ (a.ino (φ (tagN T (atT T d s).toNat).file)).prt p.toNat):=by
  generalize (a.ino (φ (tagN T (atT T d s).toNat).file)).prt p.toNat = w
  by_cases z : 0 ≤ w
  ·have : ¬w < 0:=by omega
   simp [c0,z,this]
  ·have : w < 0:=by omega
   simp [c0,z,this]
 rw [e9]
 refine ⟨rfl,?_⟩
 simp only [decide_eq_true_eq]
theorem srel_same (h : SRel a T G φ) (hc : Ck a) (d e : Int) (s t : Str) : rSameB T d s e t = sameB a d s e t:=by
 obtain ⟨h1,h2⟩:=srel_at h hc d s
 obtain ⟨h3,h4⟩:=srel_at h hc e t
 unfold rSameB sameB
 by_cases q1 : 0 ≤ atT T d s
 rotate_left
 ·have : ¬0 ≤ slotOf a d s:=fun x=>q1 (h1.2 x)
  simp [q1,this]
 by_cases q2 : 0 ≤ atT T e t
 rotate_left
 ·have : ¬0 ≤ slotOf a e t:=fun x=>q2 (h3.2 x)
  simp [q2,this]
 obtain ⟨k,_,e1,e2⟩:=h2 q1
 obtain ⟨j,_,e3,e4⟩:=h4 q2
 obtain ⟨m1,_,_⟩:=at_pos q1
 obtain ⟨m2,_,_⟩:=at_pos q2
 have k1:=h1.1 q1
 have k2:=h3.1 q2
 simp only [q1,q2,k1,k2,decide_true,Bool.true_and]
 rw [e1,e3,Int.toNat_natCast,Int.toNat_natCast,e2,e4]
 by_cases c : (tagN T (atT T d s).toNat).file = (tagN T (atT T e t).toNat).file
 ·rw [c]; simp
 ·have : ¬φ (tagN T (atT T d s).toNat).file = φ (tagN T (atT T e t).toNat).file:=fun x=>c (h.ij _ m1 _ m2 x)
  have this' : ¬(φ (tagN T (atT T d s).toNat).file : Int) = φ (tagN T (atT T e t).toNat).file:=by omega
  simp [c,this']
end
theorem rdoT_len (T : List Tag) (G : List RFile) (x : SStep) : (rdoT T G x).length ≤ T.length + 1:=by
 unfold rdoT
 split
 ·omega
 split
 ·simp
 split
 ·simp
 split
 ·simp; omega
 split
 ·simp; omega
 ·omega
theorem rdoF_len (T : List Tag) (G : List RFile) (x : SStep) : (rdoF T G x).length ≤ G.length + 1:=by
 unfold rdoF
 split
 ·omega
 split
 ·simp
 split
 ·simp
 split
 ·simp
 ·omega
theorem W_callI {cx : Cx} {k : List Item} {kill : List Nat} {r : List MOp} {sl : Slots} {own : Own} {h h0 : HP} {Q : St → Prop} {u f : Nat} {args : List Opd} {d : Option Nat} {fn : MFun} {R : AV → Prop} {T' : List Tag} {G' : List RFile}
  (hf : tblE f = some fn) (hp : fn.params = args.length ∧ fn.nfree = 0)
  (hc : Ok tblE (St.callCx ⟨sl,own,h⟩ cx false) fn (St.enter (args.map (St.opd ⟨sl,own,h⟩)) (h.push cx.lvl own)) fun v' h'=>R v' ∧ FrI h0 (h.push cx.lvl own) h' cx.lvl u ∧ RIAt h0 h' cx.lvl u T' G')
  (hq : ∀ v h1 v1 v2 own',R v → (own' = own ∧ own.get u = some ⟨tRIdeal,encRI v1 v2⟩ ∨ own' = own.set u ⟨tRIdeal,encRI v1 v2⟩) → h1.stk = h.stk → h1.arg = h.arg → h.next ≤ h1.next → (∀ n,n < h0.next → h1.obj n = h.obj n) →
   SlG tTag h0 h1 v1 (T'.map Tag.enc) → SlG tRFile h0 h1 v2 (G'.map RFile.enc) → W tblE cx (.ops r kill :: k) (St.setd ⟨sl,own',h1⟩ d v) Q) :
  W tblE cx (.ops (⟨d,.call false [] f args,none⟩ :: r) kill :: k) ⟨sl,own,h⟩ Q:=by
 refine W_callr hf hp hc ?_
 rintro v h' ⟨hR,hF,v1,v2,hm,hS,hG⟩
 have e0 : St.pop ⟨sl,own,h⟩ cx.lvl [] h' = ⟨sl,h'.stk cx.lvl,⟨h.stk,h'.obj,h'.next,h'.arg⟩⟩:=by
  simp only [St.pop,HP.pop,Own.unveil]
  congr 1
  simp only [HP.mk.injEq,and_true]
  funext l
  by_cases hl : l = cx.lvl
  ·simp [hl]
  ·rcases hF.stk with e | ⟨B,e⟩
   ·simp [hl,e,HP.push]
   ·simp [hl,e,HP.push,HP.set]
 rw [e0]
 have own1 : (h.push cx.lvl own).stk cx.lvl = own:=by simp [HP.push]
 refine hq v ⟨h.stk,h'.obj,h'.next,h'.arg⟩ v1 v2 (h'.stk cx.lvl) hR ?_ rfl hF.arg hF.next hF.same hS hG
 rcases hF.stk with e | ⟨B,e⟩
 ·refine .inl ⟨by rw [e,own1],?_⟩
  have : (h'.stk cx.lvl).get u = some ⟨tRIdeal,encRI v1 v2⟩:=hm
  rw [e,own1] at this
  exact this
 ·refine .inr ?_
  have e2 : h'.stk cx.lvl = own.set u B:=by rw [e]; simp [HP.set,own1]
  have : (h'.stk cx.lvl).get u = some ⟨tRIdeal,encRI v1 v2⟩:=hm
  rw [e2,Own.get_setI] at this
  rw [e2]
  injection this with this
  rw [this]
theorem SlG.ob {t t' : Ty} {hs h : HP} {v w : AV} {l : List AV} {n : Nat} (a : SlG t hs h v l) (hn : n < hs.next) : SlG t hs (h.ob n t' w) v l:=by
 rcases a with a | ⟨q,e,h1,h2,h3,h4⟩
 ·exact .inl a
 ·exact .inr ⟨q,e,h1,h2,by rw [look_ob_ne (by omega)]; exact h3,h4⟩
theorem SlG.fr {t : Ty} {hs h h' : HP} {v : AV} {l : List AV} (a : SlG t hs h v l) (b : Fr h h' []) : SlG t hs h' v l:=by
 rcases a with a | ⟨q,e,h1,h2,h3,h4⟩
 ·exact .inl a
 ·exact .inr ⟨q,e,h1,Nat.lt_of_lt_of_le h2 b.next,b.look h2 (by simp) h3,h4⟩
theorem SlG.lt {t : Ty} {hs h : HP} {v : AV} {l : List AV} (a : SlG t hs h v l) (q : Nat) (hq : v.into (.obj q) = true) : q < h.next:=by
 rcases a with ⟨rfl,_⟩ | ⟨q',rfl,_,h2,_⟩
 ·simp [AV.into] at hq
 ·simp [AV.into] at hq; omega
theorem SlF.lenv {h h1 : HP} {v : AV} {l : List Str} (a : SlF h h1 v l) : lenV false v = some (.int .i64 l.length):=by
 rcases a with ⟨rfl,rfl⟩ | ⟨q,rfl,_⟩ <;> rfl
theorem SlF.lt' {h h1 : HP} {v : AV} {l : List Str} (a : SlF h h1 v l) {h2 : HP} (b : Fr h1 h2 []) (q : Nat) {n : Nat} (e : v = .sl (.obj q) 0 n) : q < h2.next:=by
 rcases a with ⟨rfl,_⟩ | ⟨q',rfl,_,h2,_⟩
 ·exact absurd e (by simp)
 ·have : q' = q:=by simpa using congrArg (fun v=>match v with | .sl (.obj n) _ _=>n | _=>0) e
  subst this
  exact Nat.lt_of_lt_of_le h2 b.next
theorem SlF.vn {h h1 : HP} {v : AV} {l : List Str} (a : SlF h h1 v l) : ∀ x y,fg v (.stk x y) = v:=fun x y=>by
 rcases a with ⟨rfl,_⟩ | ⟨q,rfl,_⟩ <;> simp only [go_sem]
theorem SlF.ixs {h h1 : HP} {v : AV} {l : List Str} (a : SlF h h1 v l) {h2 : HP} (b : Fr h1 h2 []) (i : Nat) (hi : i < l.length) : ∃ q,v = .sl (.obj q) 0 l.length ∧ h2.look (.obj q) = some ⟨.arr l.length tS,encS l⟩:=by
 rcases a with ⟨_,rfl⟩ | ⟨q,rfl,h1,h2,h3⟩
 ·simp at hi
 ·exact ⟨q,rfl,b.look h2 (by simp) h3⟩
theorem extR0 (t : Str) (b : Bool) (c : Int) : extV (encR t b c) 0 = some (.str t):=rfl
theorem extR1 (t : Str) (b : Bool) (c : Int) : extV (encR t b c) 1 = some (.bool b):=rfl
theorem extR2 (t : Str) (b : Bool) (c : Int) : extV (encR t b c) 2 = some (.int .i64 c):=rfl
structure Both (h1 hs h : HP) (f c : Nat) (F : Fl) (v1 v2 : AV) (T : List Tag) (G : List RFile) : Prop where
 fil : FilAt h f c F
 fs : f < hs.next
 cs : c < hs.next
 stk : h.stk = h1.stk
 arg : h.arg = h1.arg
 nx : hs.next ≤ h.next
 tags : SlG tTag hs h v1 (T.map Tag.enc)
 files : SlG tRFile hs h v2 (G.map RFile.enc)
theorem Both.fr {h1 hs h h' : HP} {f c : Nat} {F : Fl} {v1 v2 : AV} {T : List Tag} {G : List RFile} (a : Both h1 hs h f c F v1 v2 T G) (b : Fr h h' []) : Both h1 hs h' f c F v1 v2 T G :=
 ⟨a.fil.same b (by simp) (by simp),a.fs,a.cs,b.stk.trans a.stk,b.arg.trans a.arg,Nat.le_trans a.nx b.next,a.tags.fr b,a.files.fr b⟩
theorem Both.obs {h1 hs h : HP} {f c : Nat} {F H : Fl} {v1 v2 : AV} {T : List Tag} {G : List RFile} (a : Both h1 hs h f c F v1 v2 T G) (e : H.disk = F.disk) :
  Both h1 hs ((h.ob f tFiles (encF c H.stamp)).ob c tCache (encC H.now F.disk)) f c H v1 v2 T G :=
 ⟨a.fil.obs e,a.fs,a.cs,a.stk,a.arg,a.nx,(a.tags.ob a.fs).ob a.cs,(a.files.ob a.fs).ob a.cs⟩
theorem Both.dsk {h1 hs h : HP} {f c : Nat} {F : Fl} {v1 v2 : AV} {T : List Tag} {G : List RFile} {b : Img} (a : Both h1 hs h f c F v1 v2 T G) :
  Both h1 hs (h.ob c tCache (encC F.now b)) f c { F with disk:=b } v1 v2 T G :=
 ⟨⟨by rw [look_ob_ne a.fil.fc]; exact a.fil.fi,look_ob,a.fil.fc,a.fil.fn,a.fil.cn⟩,a.fs,a.cs,a.stk,a.arg,a.nx,a.tags.ob a.cs,a.files.ob a.cs⟩
section
variable {cx : Cx} {h : HP} {v : AV} {l : List SStep}
theorem SoftIdeal_walk (hl : ∀ n,cx.prot.lets (.obj n) = true) (hls : ∀ u,cx.prot.lets (.stk cx.lvl u) = true) (hv : StepsV h v l) (hsz : ∀ k,(stp l k).ok) : Ok tblE cx Fn.w_SoftIdeal (St.enter [v] h) fun v h'=>v = .bool true:=by
 rw [Ok_eq]
 have hvlen:=hv.len
 have hvfg:=hv.fg
 have hvld:=hv.ld
 simp (maxSteps:=999999) (disch:=omega) only [go_sem]
 refine W_callF (S:=[]) (R:=fun v _=>v = .bool true) rfl ⟨rfl,rfl⟩ (by simp only [go_sem]; exact softBegun_ok (by exact hl)) (fun _ _ e=>e) ?_
 rintro _ h1 hF1 rfl
 simp (maxSteps:=999999) (disch:=omega) only [go_sem,hvlen,hvfg,hvld]
 refine W_callhv (P:=fun x=>∃ b,x = .bool b ∧ (b = false → l.length ≤ 200)) h1 rfl ⟨rfl,rfl⟩ rfl (by simp only [go_sem]; exact greatSteps_ok ((hv.to hF1.arg).push)) ?_
 rintro _ ⟨great,rfl,hgr⟩
 cases great with
 | true=>simp (maxSteps:=999999) (disch:=omega) only [go_sem]
 | false =>
 have h200:=hgr rfl
 simp (maxSteps:=999999) (disch:=omega) only [go_sem,hvlen,hvfg,hvld]
 refine W_callh (v:=.ptr (.obj (h1.next + 1)) [] tFiles) (HF h1 fb0) rfl ⟨rfl,rfl⟩ rfl (by simp only [go_sem]; exact SNew_ok) ?_
 have n0 : Both h1 (HF h1 fb0) (HF h1 fb0) (h1.next + 1) h1.next fb0 .nilsl .nilsl [] [] :=
  ⟨⟨HF_F,HF_C,by omega,by show h1.next + 1 < h1.next + 1 + 1; omega,by show h1.next < h1.next + 1 + 1; omega⟩,by show h1.next + 1 < h1.next + 1 + 1; omega,by show h1.next < h1.next + 1 + 1; omega,rfl,rfl,Nat.le_refl _,.inl ⟨rfl,rfl⟩,.inl ⟨rfl,rfl⟩⟩
 generalize h1.next + 1 = f at n0 ⊢
 generalize HF h1 fb0 = hs at n0 ⊢
 simp (maxSteps:=999999) (disch:=omega) only [go_sem]
 refine W_forE (α:=AV × AV × HP) l.length (fun k q=>⟨[(0,v),(3,.ptr (.obj f) [] tFiles),(4,.ptr (.stk cx.lvl 27) [] tRIdeal),(5,.int .i64 k)],[(27,⟨tRIdeal,encRI q.1 q.2.1⟩)],q.2.2⟩)
  (fun k q=>∃ T G φ,Both h1 hs q.2.2 f h1.next (softRun fb0 l k) q.1 q.2.1 T G ∧ SRel (softRun fb0 l k).now T G φ ∧ T.length ≤ k ∧ G.length ≤ k) (.nilsl,.nilsl,hs) (by simp only [go_sem,hvfg] <;> rfl) ⟨[],[],id,n0,SRel.new,by simp,by simp⟩ fun k q hk hq ih=>?_
 obtain ⟨v1,v2,h3⟩:=q
 obtain ⟨T,G,φ,hB,hr,hT,hG⟩:=hq
 dsimp only at hB ih ⊢
 obtain ⟨inv,hst⟩:=inv_soft l (F:=fb0) Inv.new (by show (0 : Int) ≤ _; omega) k (by omega)
 by_cases hlt : k < l.length
 ·obtain ⟨n,rfl,hn⟩:=(hv.to (hB.arg.trans hF1.arg)).ix k hlt
  obtain ⟨fi,ca,fc,fn,cn⟩:=id hB.fil
  have hx:=hsz k
  have hrun : softRun fb0 l (k + 1) = softF (softRun fb0 l k) (stp l k):=rfl
  by_cases c7 : (stp l k).kind = 7
  ·simp (maxSteps:=999999) (disch:=omega) only [go_sem,hlt,hn,c7,fi,ca]
   refine W_callh (v:=.bool (writeAs (softRun fb0 l k).now (softRun fb0 l k).disk (stp l k).p).2) (h3.ob h1.next tCache (encC (softRun fb0 l k).now (writeAs (softRun fb0 l k).now (softRun fb0 l k).disk (stp l k).p).1)) rfl ⟨rfl,rfl⟩ rfl (by simp only [go_sem]; exact eWrite (by exact hl) (by simp only [go_sem,ca])) ?_
   have hF' : softRun fb0 l (k + 1) = { softRun fb0 l k with disk:=(writeAs (softRun fb0 l k).now (softRun fb0 l k).disk (stp l k).p).1 }:=by rw [hrun]; simp [softF,c7]
   have hB4 : Both h1 hs (h3.ob h1.next tCache (encC (softRun fb0 l k).now (writeAs (softRun fb0 l k).now (softRun fb0 l k).disk (stp l k).p).1)) f h1.next (softRun fb0 l (k + 1)) v1 v2 T G:=by rw [hF']; exact hB.dsk
   generalize h3.ob h1.next tCache (encC (softRun fb0 l k).now (writeAs (softRun fb0 l k).now (softRun fb0 l k).disk (stp l k).p).1) = h4 at hB4 ⊢
   simp (maxSteps:=999999) (disch:=omega) only [go_sem]
   refine ih _ (v1,v2,h4) hlt ?_ ⟨T,G,φ,hB4,by rw [hF']; exact hr,by omega,by omega⟩
   simp only [go_sem]
  by_cases c8 : (stp l k).kind = 8
  ·simp (maxSteps:=999999) (disch:=omega) only [go_sem,hlt,hn,c7,c8,fi,ca]
   refine W_callh (v:=.int .i64 (syncK (softRun fb0 l k).now (softRun fb0 l k).disk)) (h3.ob h1.next tCache (encC (softRun fb0 l k).now (syncTo (softRun fb0 l k).now (softRun fb0 l k).disk))) rfl ⟨rfl,rfl⟩ rfl (by simp only [go_sem]; exact eSync (by exact hl) (by simp only [go_sem,ca])) ?_
   have hF' : softRun fb0 l (k + 1) = { softRun fb0 l k with disk:=syncTo (softRun fb0 l k).now (softRun fb0 l k).disk }:=by rw [hrun]; simp [softF,c8]
   have hB4 : Both h1 hs (h3.ob h1.next tCache (encC (softRun fb0 l k).now (syncTo (softRun fb0 l k).now (softRun fb0 l k).disk))) f h1.next (softRun fb0 l (k + 1)) v1 v2 T G:=by rw [hF']; exact hB.dsk
   generalize h3.ob h1.next tCache (encC (softRun fb0 l k).now (syncTo (softRun fb0 l k).now (softRun fb0 l k).disk)) = h4 at hB4 ⊢
   simp (maxSteps:=999999) (disch:=omega) only [go_sem]
   refine ih _ (v1,v2,h4) hlt ?_ ⟨T,G,φ,hB4,by rw [hF']; exact hr,by omega,by omega⟩
   simp only [go_sem]
  by_cases c9 : (stp l k).kind = 9
  ·simp (maxSteps:=999999) (disch:=omega) only [go_sem,hlt,hn,c7,c8,c9]
   have hF' : softRun fb0 l (k + 1) = softRun fb0 l k:=by rw [hrun]; simp [softF,c9]
   refine ih _ (v1,v2,_) hlt ?_ ⟨T,G,φ,by rw [hF']; exact hB,by rw [hF']; exact hr,by omega,by omega⟩
   simp only [go_sem]
  have hF' : softRun fb0 l (k + 1) = doF (softRun fb0 l k) (stp l k):=by rw [hrun]; simp [softF,c7,c8,c9]
  simp (maxSteps:=999999) (disch:=omega) only [go_sem,hlt,hn,c7,c8,c9]
  refine W_callh (v:=.int .i64 (doC (softRun fb0 l k) (stp l k))) ((h3.ob f tFiles (encF h1.next (doF (softRun fb0 l k) (stp l k)).stamp)).ob h1.next tCache (encC (doF (softRun fb0 l k) (stp l k)).now (softRun fb0 l k).disk)) rfl ⟨rfl,rfl⟩ rfl (by simp only [go_sem]; exact (Do_ok (F:=softRun fb0 l k) (f:=f) (c:=h1.next) (by exact hl) (by simp only [go_sem,fi]) (by simp only [go_sem,ca]) fc inv.i0.wf hx.name hx.to hx.text).mono fun v h' e=>⟨e.1,by rw [e.2]; rfl⟩) ?_
  have hB4 : Both h1 hs ((h3.ob f tFiles (encF h1.next (doF (softRun fb0 l k) (stp l k)).stamp)).ob h1.next tCache (encC (doF (softRun fb0 l k) (stp l k)).now (softRun fb0 l k).disk)) f h1.next (softRun fb0 l (k + 1)) v1 v2 T G:=by
   rw [hF']; exact hB.obs (doF_disk _ _)
  generalize (h3.ob f tFiles (encF h1.next (doF (softRun fb0 l k) (stp l k)).stamp)).ob h1.next tCache (encC (doF (softRun fb0 l k) (stp l k)).now (softRun fb0 l k).disk) = h4 at hB4 ⊢
  simp (maxSteps:=999999) (disch:=omega) only [go_sem]
  by_cases c6 : doC (softRun fb0 l k) (stp l k) = 6
  ·simp (maxSteps:=999999) (disch:=omega) only [go_sem,c6]
   have e6 : doF (softRun fb0 l k) (stp l k) = softRun fb0 l k:=by simp [doF,c6]
   refine ih _ (v1,v2,h4) hlt ?_ ⟨T,G,φ,hB4,by rw [hF',e6]; exact hr,by omega,by omega⟩
   simp only [go_sem]
  obtain ⟨ec,φ',hr'⟩:=srel_step inv hr (stp l k) c6
  rw [← hF'] at hr'
  simp (maxSteps:=999999) (disch:=omega) only [go_sem,c6]
  refine W_callI (h0:=hs) (u:=27) (R:=fun v=>v = .int .i64 (rdoC T (stp l k))) (T':=rdoT T G (stp l k)) (G':=rdoF T G (stp l k)) rfl ⟨rfl,rfl⟩ (by
   simp only [go_sem,List.map]
   exact RIDo_ok (h0:=hs) (by exact hl) (hls 27) (Nat.lt_succ_self _) hB4.nx ⟨v1,v2,by simp [HP.look,HP.push,Own.get],hB4.tags,hB4.files⟩ (by omega) (by omega) hr.files hx) ?_
  rintro _ h5 v1' v2' own' rfl ho hst5 harg5 hnx5 hsame5 hS5 hG5
  have ho' : own' = [(6,⟨tStep,(stp l k).enc⟩),(27,⟨tRIdeal,encRI v1' v2'⟩)]:=by
   rcases ho with ⟨rfl,e⟩ | rfl
   ·simp [Own.get] at e; rw [e]
   ·simp [Own.set]
  subst ho'
  rw [ec]
  simp (maxSteps:=999999) (disch:=omega) only [go_sem]
  refine ih _ (v1',v2',h5) hlt ?_ ⟨rdoT T G (stp l k),rdoF T G (stp l k),φ',⟨⟨?_,?_,fc,Nat.lt_of_lt_of_le hB4.fil.fn hnx5,Nat.lt_of_lt_of_le hB4.fil.cn hnx5⟩,hB4.fs,hB4.cs,hst5.trans hB4.stk,harg5.trans hB4.arg,Nat.le_trans hB4.nx hnx5,hS5,hG5⟩,hr',by have:=rdoT_len T G (stp l k); omega,by have:=rdoF_len T G (stp l k); omega⟩
  ·simp only [go_sem]
  ·show h5.obj f = _
   rw [hsame5 f hB4.fs]; exact hB4.fil.fi
  ·show h5.obj h1.next = _
   rw [hsame5 _ hB4.cs]; exact hB4.fil.ca
 ·obtain rfl : k = l.length:=by omega
  simp (maxSteps:=999999) (disch:=omega) only [go_sem,hvlen,hvfg,hvld]
  clear ih
  generalize softRun fb0 l l.length = F at hB inv hr hst
  have hck:=Ck.of inv.cn
  have hsize : ∀ d : Nat,d < 3 → ∀ i,i < (listOf F.now d).length → (txt (listOf F.now d) i).size ≤ 100000:=fun d hd i hi=>by
   have m : txt (listOf F.now d) i ∈ listOf F.now d:=by rw [txt_get hi]; exact List.getElem_mem hi
   generalize txt (listOf F.now d) i = s at m
   unfold listOf at m
   rw [if_neg (by omega),Int.toNat_natCast] at m
   obtain ⟨j,j4,e1,e2⟩:=(mem_namesL_iff 4).1 ((sortS_perm _).mem_iff.1 m)
   rcases hck.en d j hd j4 with e | ⟨_,e3,_⟩
   ·rw [e] at e1; exact absurd e1.symm e2
   ·rw [← e1]; exact isName_size e3
  have l4 : ∀ d : Nat,(listOf F.now d).length ≤ 4:=fun d=>by
   unfold listOf
   split
   ·simp
   ·rw [(sortS_perm _).length_eq]; exact namesL_len _ _ _
  refine W_forE (α:=HP) 3 (fun d H=>⟨[(3,.ptr (.obj f) [] tFiles),(4,.ptr (.stk cx.lvl 27) [] tRIdeal),(8,.int .i64 d)],[(27,⟨tRIdeal,encRI v1 v2⟩)],H⟩) (fun _ H=>Fr h3 H []) h3 (by simp only [go_sem] <;> rfl) (Fr.refl _ _) fun d h5 hd hF5 ih=>?_
  by_cases hlt : d < 3
  ·have B5:=hB.fr hF5
   simp (maxSteps:=999999) (disch:=omega) only [go_sem,hlt]
   refine W_callF (S:=[]) (R:=fun v h'=>SlF h5 h' v (sortS (namesT T d T.length))) rfl ⟨rfl,rfl⟩ (by
    simp only [go_sem]
    exact IList_ok (v1:=v1) (l:=T) (by exact hl) (below_stk _ _) (by simp only [go_sem,HP.push_rd_own]) (fun n h=>by simp at h) B5.tags.r.push (fun q hq=>SlG.lt B5.tags q hq) (by omega)) (fun v h1 e=>e) ?_
   rintro vn h6 hF6 hs6
   rw [srel_list hr hck hlt] at hs6
   have B6:=B5.fr hF6
   simp (maxSteps:=999999) (disch:=omega) only [go_sem]
   refine W_callF (S:=[]) (R:=fun v h'=>SlF h6 h' v (listOf F.now d)) rfl ⟨rfl,rfl⟩ (by simp only [go_sem]; exact List_ok (h:=h6.push cx.lvl [(27,⟨tRIdeal,encRI v1 v2⟩)]) (f:=f) (c:=h1.next) (a:=F.now) (b:=F.disk) (st:=F.stamp) (by exact hl) B6.fil.fi B6.fil.ca) (fun v h1 e=>e) ?_
   rintro v7 h7 hF7 hs7
   have hl4:=l4 d
   simp (maxSteps:=999999) (disch:=omega) only [go_sem]
   refine W_callp rfl ⟨rfl,rfl⟩ (by simp only [go_sem]; exact SameTexts_ok (l:=listOf F.now d) (m:=listOf F.now d) (SlX_ofq hs7 (Fr.refl _ [])) (SlX_ofq hs6 hF7) (by omega)) ?_
   simp (maxSteps:=999999) (disch:=omega) only [go_sem]
   have hvn:=hs6.vn
   have hN : ∀ h2,Fr h6 h2 [] → ∀ i,i < (listOf F.now d).length → ∃ q,vn = .sl (.obj q) 0 (listOf F.now d).length ∧ h2.look (.obj q) = some ⟨.arr (listOf F.now d).length tS,encS (listOf F.now d)⟩:=fun h2 b=>hs6.ixs b
   generalize hL : listOf F.now d = L at hl4 hN hvn hs6
   have hlenv:=hs6.lenv
   have hszL : ∀ i,i < L.length → (txt L i).size ≤ 100000:=fun i hi=>by rw [← hL] at hi ⊢; exact hsize d hlt i hi
   refine W_forE (α:=HP) L.length (fun i H=>⟨[(3,.ptr (.obj f) [] tFiles),(4,.ptr (.stk cx.lvl 27) [] tRIdeal),(8,.int .i64 d),(9,vn),(10,.int .i64 i)],[(27,⟨tRIdeal,encRI v1 v2⟩)],H⟩) (fun _ H=>Fr h7 H []) h7 (by simp only [go_sem] <;> rfl) (Fr.refl _ _) fun i h8 hi hF8 ih2=>?_
   have B8:=(B6.fr hF7).fr hF8
   by_cases hiL : i < L.length
   ·obtain ⟨q,eq,hq⟩:=hN _ (hF7.trans hF8) i hiL
    have hsz1:=hszL i hiL
    subst eq
    simp (maxSteps:=999999) (disch:=omega) only [go_sem,hiL,hlenv]
    refine W_for 2 (fun p=>⟨[(3,.ptr (.obj f) [] tFiles),(4,.ptr (.stk cx.lvl 27) [] tRIdeal),(8,.int .i64 d),(9,.sl (.obj q) 0 L.length),(10,.int .i64 i),(11,.int .i64 p)],[(27,⟨tRIdeal,encRI v1 v2⟩)],h8⟩) (by simp only [go_sem] <;> rfl) fun p hp ih3=>?_
    by_cases hp2 : p < 2
    ·simp (maxSteps:=999999) (disch:=omega) only [go_sem,hiL,hlenv,hp2,hq]
     refine W_callp rfl ⟨rfl,rfl⟩ (by simp only [go_sem]; exact Read_ok (a:=F.now) (b:=F.disk) B8.fil.push.fi B8.fil.push.ca inv.i0.wf (by omega)) ?_
     simp (maxSteps:=999999) (disch:=omega) only [go_sem,hiL,hlenv,hp2,hq,extR0,extR1,extR2]
     refine W_callp rfl ⟨rfl,rfl⟩ (by simp only [go_sem]; exact RRead_ok (v1:=v1) (v2:=v2) (l:=T) (fs:=G) (below_stk _ _) (by simp only [go_sem,HP.push_rd_own]) (by simp only [go_sem,HP.push_rd_own]) B8.tags.r.push B8.files.r.push (by omega) hr.files (by omega)) ?_
     obtain ⟨r1,r2,r3⟩:=srel_read hr hck d (txt L i) p
     rw [r1,r2,r3]
     simp (maxSteps:=999999) (disch:=omega) only [go_sem,extR0,extR1,extR2]
     refine ih3 _ hp2 ?_
     simp only [go_sem]
    ·obtain rfl : p = 2:=by omega
     simp (maxSteps:=999999) (disch:=omega) only [go_sem]
     refine W_forE (α:=HP) 3 (fun e H=>⟨[(3,.ptr (.obj f) [] tFiles),(4,.ptr (.stk cx.lvl 27) [] tRIdeal),(8,.int .i64 d),(9,.sl (.obj q) 0 L.length),(10,.int .i64 i),(18,.int .i64 e)],[(27,⟨tRIdeal,encRI v1 v2⟩)],H⟩) (fun _ H=>Fr h8 H []) h8 (by simp only [go_sem] <;> rfl) (Fr.refl _ _) fun e h9 he hF9 ih4=>?_
     have B9:=B8.fr hF9
     by_cases he3 : e < 3
     ·simp (maxSteps:=999999) (disch:=omega) only [go_sem,he3]
      refine W_callF (S:=[]) (R:=fun v h'=>SlF h9 h' v (sortS (namesT T e T.length))) rfl ⟨rfl,rfl⟩ (by
       simp only [go_sem]
       exact IList_ok (v1:=v1) (l:=T) (by exact hl) (below_stk _ _) (by simp only [go_sem,HP.push_rd_own]) (fun n h=>by simp at h) B9.tags.r.push (fun q hq=>SlG.lt B9.tags q hq) (by omega)) (fun v h1 e=>e) ?_
      rintro wn h10 hF10 hs10
      rw [srel_list hr hck he3] at hs10
      have B10:=B9.fr hF10
      have hwn:=hs10.vn
      have hM : ∀ h2,Fr h10 h2 [] → ∀ i,i < (listOf F.now e).length → ∃ q,wn = .sl (.obj q) 0 (listOf F.now e).length ∧ h2.look (.obj q) = some ⟨.arr (listOf F.now e).length tS,encS (listOf F.now e)⟩:=fun h2 b=>hs10.ixs b
      have hm4:=l4 e
      generalize hLM : listOf F.now e = M at hm4 hM hs10
      have hlenw:=hs10.lenv
      simp (maxSteps:=999999) (disch:=omega) only [go_sem,hwn]
      refine W_for M.length (fun j=>⟨[(3,.ptr (.obj f) [] tFiles),(4,.ptr (.stk cx.lvl 27) [] tRIdeal),(8,.int .i64 d),(9,.sl (.obj q) 0 L.length),(10,.int .i64 i),(18,.int .i64 e),(19,wn),(20,.int .i64 j)],[(27,⟨tRIdeal,encRI v1 v2⟩)],h10⟩) (by simp only [go_sem] <;> rfl) fun j hj ih5=>?_
      by_cases hjM : j < M.length
      ·obtain ⟨q',eq',hq'⟩:=hM _ (Fr.refl _ _) j hjM
       have hq1 : h10.look (.obj q) = some ⟨.arr L.length tS,encS L⟩:=(hF9.trans hF10).look (hs6.lt' ((hF7.trans hF8)) q rfl) (by simp) hq
       subst eq'
       simp (maxSteps:=999999) (disch:=omega) only [go_sem,hiL,hjM,hq1,hq',hlenw]
       refine W_callp rfl ⟨rfl,rfl⟩ (by simp only [go_sem]; exact Same_ok (a:=F.now) (b:=F.disk) B10.fil.push.fi B10.fil.push.ca) ?_
       simp (maxSteps:=999999) (disch:=omega) only [go_sem,hiL,hjM,hq1,hq',hlenw]
       refine W_callp rfl ⟨rfl,rfl⟩ (by simp only [go_sem]; exact RSame_ok (v1:=v1) (l:=T) (below_stk _ _) (by simp only [go_sem,HP.push_rd_own]) B10.tags.r.push (by omega)) ?_
       rw [srel_same hr hck]
       simp (maxSteps:=999999) (disch:=omega) only [go_sem]
       refine ih5 _ hjM ?_
       simp only [go_sem]
      ·obtain rfl : j = M.length:=by omega
       simp (maxSteps:=999999) (disch:=omega) only [go_sem,hlenw]
       refine ih4 _ h10 he3 ?_ (hF9.trans hF10)
       simp only [go_sem]
     ·obtain rfl : e = 3:=by omega
      simp (maxSteps:=999999) (disch:=omega) only [go_sem]
      refine ih2 _ h9 hiL ?_ (hF8.trans hF9)
      simp only [go_sem]
   ·obtain rfl : i = L.length:=by omega
    simp (maxSteps:=999999) (disch:=omega) only [go_sem,hlenv]
    refine ih _ h8 hlt ?_ (((hF5.trans hF6).trans hF7).trans hF8)
    simp only [go_sem]
  ·obtain rfl : d = 3:=by omega
   simp (maxSteps:=999999) (disch:=omega) only [go_sem]
end
theorem SoftIdeal_ok {h : HP} {v : AV} {l : List SStep} (hl : ∀ n,(⟨0,⟨0,0⟩⟩ : Cx).prot.lets (.obj n) = true) (hv : StepsV h v l) (hsz : ∀ k,(stp l k).ok) : Ok tblE ⟨0,⟨0,0⟩⟩ Fn.w_SoftIdeal (St.enter [v] h) fun v h'=>v = .bool true :=
 SoftIdeal_walk hl (fun u=>decide_eq_true (Nat.zero_le 0)) hv hsz
end Go.Mini
