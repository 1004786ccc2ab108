/- A part of the proof: what Id computes, step by step. -/
import Derived.Test.YtpkndgkaecamlabIdPf

set_option linter.unusedSimpArgs false
set_option linter.unusedVariables false
set_option maxHeartbeats 4000000
set_option maxRecDepth 100000
namespace Go.Mini
section
variable {T : Nat → Option MFun} {cx : Cx} {kill : List Nat} {k : List Item} {r : List MOp} {sl : Slots} {own : Own} {h : HP} {Q : St → Prop} {O : Nat → Prop}
theorem NSl.into {v : AV} {l : List AV} (a : NSl O h v l) (n : Nat) (hn : ¬O n) : v.into (.obj n) = false:=by
 rcases a with ⟨rfl,_⟩ | ⟨q,rest,rfl,hq,_⟩
 ·rfl
 ·have : ¬q = n:=fun e=>hn (e ▸ hq)
  simp [AV.into,this]
theorem NSl.ne {v : AV} {l : List AV} (a : NSl O h v l) {n : Nat} {t : Ty} {w : AV} (e : h.look (.obj n) = some ⟨t,w⟩) (ht : ∀ N,¬t = .arr N tName) : v.into (.obj n) = false:=by
 rcases a with ⟨rfl,_⟩ | ⟨q,rest,rfl,_,_,hq,_⟩
 ·rfl
 ·have : ¬q = n:=fun e'=>by
   subst e'
   rw [hq] at e
   injection e with e
   injection e with e1 e2
   exact ht _ e1.symm
  simp [AV.into,this]
theorem W_appN {d : Nat} {x y : Opd} {v a : AV} {l : List AV} (hx : St.opd ⟨sl,own,h⟩ x = v) (hl : ∀ n,cx.prot.lets (.obj n) = true) (hO : OUp O h.next) (hS : NSl O h v l)
  (hy : elems (St.look cx ⟨sl,own,h⟩) tName (St.opd ⟨sl,own,h⟩ y) = some [a]) (hfl : ∀ a ∈ l,tName.fits a = true) (hfa : tName.fits a = true) (hn : l.length + 1 ≤ 1000000)
  (hq : ∀ v' h',NSl O h' v' (l ++ [a]) → Off h h' v → W T cx (.ops r kill :: k) ⟨sl.set d v',own,h'⟩ Q) :
  W T cx (.ops (⟨some d,.append true [] tName x y,none⟩ :: r) kill :: k) ⟨sl,own,h⟩ Q:=by
 have hfa1 : ∀ b ∈ [a],tName.fits b = true:=fun b hb=>by rw [List.mem_singleton.1 hb]; exact hfa
 rcases hS with ⟨rfl,rfl⟩ | ⟨q,rest,rfl,ho,hq1,hq2,hfr⟩
 ·rw [W_op rfl,evOp]
  simp only [evK,hy,hx,evAppend]
  rw [if_neg (by simp),if_pos ⟨fits_ofListG rfl hfa1,by simp⟩]
  simp only [List.all_nil,if_true,applyEff]
  refine hq (.sl (.obj h.next) 0 1) (h.nw (.arr 1 tName) (.ofList [a])) (.inr ⟨h.next,[],rfl,hO _ (Nat.le_refl _),Nat.lt_succ_self _,?_,fun b hb=>by simp at hb⟩) ⟨rfl,rfl,Nat.le_succ _,fun n hn _=>?_⟩
  ·exact look_nw
  ·simp [HP.nw,HP.ob,HP.set]; omega
 ·have hlk : St.look cx ⟨sl,own,h⟩ (.obj q) = some ⟨.arr (l.length + rest.length) tName,.ofList (l ++ rest)⟩:=hq2
  cases rest with
  | nil =>
   rw [W_op rfl,evOp]
   simp only [evK,hy,hx,evAppend,hlk,toList_ofList,if_true]
   have e0 : List.take l.length (List.drop 0 (l ++ [])) ++ [a] = l ++ [a]:=by simp
   rw [if_neg (by simp),if_pos (by simp),e0,if_pos ⟨fits_ofListG (by simp) (fun b hb=>by
    rcases List.mem_append.1 hb with h1 | h1
    ·exact hfl b (by simpa using h1)
    ·exact hfa1 b h1),by simp; omega⟩]
   simp only [List.all_nil,if_true,applyEff,St.drop,Id.own,hl q,Option.map_some]
   refine hq (.sl (.obj h.next) 0 (l.length + 1)) ((h.dl q).nw (.arr (l.length + 1) tName) (.ofList (l ++ [a]))) (.inr ⟨h.next,[],?_,hO _ (Nat.le_refl _),Nat.lt_succ_self _,?_,fun b hb=>by simp at hb⟩) ⟨rfl,rfl,Nat.le_succ _,fun n hn hv=>?_⟩
   ·simp
   ·have:=look_nw (h:=h.dl q) (t:=.arr (l.length + 1) tName) (v:=.ofList (l ++ [a]))
    rw [List.length_append,List.append_nil]
    exact this
   ·have hnq : ¬n = q:=fun e=>by subst e; simp [AV.into] at hv
    simp [HP.nw,HP.ob,HP.set,HP.dl,hnq]; omega
  | cons b rest =>
   refine W_appIn (q:=q) (n:=l.length) (l:=l ++ b :: rest) (add:=[a]) hx hl hy hq2 (by simp) (by simp) (fun c hc=>?_) hfa1 ?_
   ·rcases List.mem_append.1 hc with h1 | h1
    ·exact hfl c h1
    ·exact hfr c h1
   ·refine hq _ _ (.inr ⟨q,rest,by simp,ho,hq1,?_,fun c hc=>hfr c (List.mem_cons_of_mem _ hc)⟩) ⟨rfl,rfl,Nat.le_refl _,fun n hn hv=>?_⟩
    ·rw [look_ob]
     congr 2
     ·simp; omega
     ·congr 1
      rw [List.take_left' rfl,List.drop_append,List.drop_eq_nil_of_le (by simp)]
      simp
    ·have hnq : ¬n = q:=fun e=>by subst e; simp [AV.into] at hv
     exact obj_ob_ne hnq
end
section
variable {cx : Cx} {h : HP} {O : Nat → Prop} {w : Nat} {sv : AV} {ad : Nat → Nat} {T : List Tag} {F : List RFile}
theorem WIn.sl' {h1 : HP} {sv' : AV} {T' : List Tag} (a : WIn O h w sv ad T F) (hof : Off h h1 sv) (hS : NSl O h1 sv' (T'.map (encN ad))) (hok : FilesOk T' F) : WIn O (h1.ob w tWorld (encW sv')) w sv' ad T' F:=by
 have hne : ∀ n t v,h.look (.obj n) = some ⟨t,v⟩ → (∀ N,¬t = .arr N tName) → n < h.next → h1.look (.obj n) = some ⟨t,v⟩:=fun n t v e ht hn=>by
  rw [← e]; exact hof.same n hn (a.sl.ne e ht)
 have hww : ∀ n t v,h.look (.obj n) = some ⟨t,v⟩ → (∀ N,¬t = .arr N tName) → ¬t = tWorld → n < h.next → (h1.ob w tWorld (encW sv')).look (.obj n) = some ⟨t,v⟩:=fun n t v e ht ht2 hn=>by
  have : ¬n = w:=fun e'=>by
   subst e'
   rw [a.wl] at e
   injection e with e; injection e with e1 e2
   exact ht2 e1.symm
  rw [look_ob_ne this]; exact hne n t v e ht hn
 have hpart : ∀ b t c,PartAt O h b t c → PartAt O (h1.ob w tWorld (encW sv')) b t c:=fun b t c hp=>by
  rcases hp with hp | ⟨e,bb,x,rfl,ho,hb,hl,ht⟩
  ·exact .inl hp
  ·exact .inr ⟨e,bb,x,rfl,ho,Nat.lt_of_lt_of_le hb hof.next,hww _ _ _ hl (fun N=>by simp [tStep,tI]) (by simp [tStep,tI,tSl]) hb,ht⟩
 refine ⟨a.ow,Nat.lt_of_lt_of_le a.wn hof.next,look_ob,?_,fun k hk=>?_,a.inj,hok⟩
 ·rcases hS with hS | ⟨q,rest,rfl,ho,hq,hl,hf⟩
  ·exact .inl hS
  ·refine .inr ⟨q,rest,rfl,ho,hq,?_,hf⟩
   have hqw : ¬q = w:=fun e=>by
    have:=hne w _ _ a.wl (fun N=>by simp) a.wn
    subst e
    rw [this] at hl
    injection hl with hl; injection hl with e1 e2
    simp at e1
   rw [look_ob_ne hqw]; exact hl
 ·obtain ⟨o,hn,c0,c1,hl,h0,h1'⟩:=a.fil k hk
  exact ⟨o,Nat.lt_of_lt_of_le hn hof.next,c0,c1,hww _ _ _ hl (fun N=>by simp) (by simp [tI,tSl,tPFile,tWorld]) hn,hpart _ _ _ h0,hpart _ _ _ h1'⟩
theorem FilesOk.mem {T : List Tag} {F : List RFile} (h : FilesOk T F) {t : Tag} (ht : t ∈ T) : t.file < F.length:=by
 obtain ⟨k,hk,rfl⟩:=List.getElem_of_mem ht
 have:=h k hk
 rwa [tagN_get hk] at this
theorem FilesOk.of {T : List Tag} {F : List RFile} (h : ∀ t ∈ T,t.file < F.length) : FilesOk T F:=fun k hk=>by
 rw [tagN_get hk]; exact h _ (List.getElem_mem _)
theorem WIn.more (a : WIn O h w sv ad T F) (hO : O h.next) : WIn O (h.nw tPFile (encPF .nilp .nilp)) w sv (fun n=>if n = F.length then h.next else ad n) T (F ++ [RFile.zero]):=by
 have hsame : ∀ n,n < h.next → (h.nw tPFile (encPF .nilp .nilp)).obj n = h.obj n:=fun n hn=>by simp [HP.nw,HP.ob,HP.set]; omega
 have hk : WIn O (h.nw tPFile (encPF .nilp .nilp)) w sv ad T F:=a.keep (fun n h1 _=>h1) (Nat.le_succ _) (fun n hn _=>hsame n hn)
 have emap : T.map (encN fun n=>if n = F.length then h.next else ad n) = T.map (encN ad):=List.map_congr_left fun t ht=>by
  have:=a.ok.mem ht
  simp only [encN]
  rw [if_neg (by omega)]
 have efil : ∀ k,k < F.length → filN (F ++ [RFile.zero]) k = filN F k:=fun k hk=>by
  simp [filN,List.getElem?_append_left hk]
 refine ⟨hk.ow,hk.wn,hk.wl,by rw [emap]; exact hk.sl,fun k hkF=>?_,fun i j hi hj e=>?_,FilesOk.of fun t ht=>by have:=a.ok.mem ht; simp; omega⟩
 ·by_cases e : k = F.length
  ·subst e
   simp only [if_true]
   have ez : filN (F ++ [RFile.zero]) F.length = RFile.zero:=by simp [filN]
   rw [ez]
   exact ⟨hO,Nat.lt_succ_self _,.nilp,.nilp,look_nw,.inl ⟨rfl,rfl,rfl⟩,.inl ⟨rfl,rfl,rfl⟩⟩
  ·have hkF' : k < F.length:=by simp at hkF; omega
   simp only [e,if_false]
   rw [efil k hkF']
   exact hk.fil k hkF'
 ·simp only [List.length_append,List.length_singleton] at hi hj
  by_cases ei : i = F.length
  ·by_cases ej : j = F.length
   ·rw [ei,ej]
   ·have:=(a.fil j (by omega)).nn
    rw [if_pos ei,if_neg ej] at e; omega
  ·have hi':=(a.fil i (by omega)).nn
   by_cases ej : j = F.length
   ·rw [if_neg ei,if_pos ej] at e; omega
   ·rw [if_neg ei,if_neg ej] at e
    exact a.inj i j (by omega) (by omega) e
theorem WIn.part (a : WIn O h w sv ad T F) {n p : Nat} (hn : n < F.length) (hp : p < 2) {c c0 c1 : AV} {b : Bool} {t : Str} (hl : h.look (.obj (ad n)) = some ⟨tPFile,encPF c0 c1⟩) (hc : PartAt O h b t c) :
  WIn O (h.ob (ad n) tPFile (encPF (if p = 0 then c else c0) (if p = 0 then c1 else c))) w sv ad T (F.set n ((filN F n).setP p b t)):=by
 have hoth : ∀ m t' v,h.look (.obj m) = some ⟨t',v⟩ → ¬t' = tPFile → (h.ob (ad n) tPFile (encPF (if p = 0 then c else c0) (if p = 0 then c1 else c))).look (.obj m) = some ⟨t',v⟩:=fun m t' v e ht=>by
  have : ¬m = ad n:=fun e'=>by
   subst e'
   rw [hl] at e
   injection e with e; injection e with e1 e2
   exact ht e1.symm
  rw [look_ob_ne this]; exact e
 have hpart : ∀ b t c',PartAt O h b t c' → PartAt O (h.ob (ad n) tPFile (encPF (if p = 0 then c else c0) (if p = 0 then c1 else c))) b t c':=fun b t c' hp=>by
  rcases hp with hp | ⟨e,bb,x,rfl,ho,hb,hl',ht⟩
  ·exact .inl hp
  ·exact .inr ⟨e,bb,x,rfl,ho,hb,hoth _ _ _ hl' (by simp [tStep,tI,tPFile]),ht⟩
 refine ⟨a.ow,a.wn,hoth _ _ _ a.wl (by simp [tSl]),?_,fun k hk=>?_,fun i j hi hj=>a.inj i j (by simpa using hi) (by simpa using hj),FilesOk.of fun t ht=>by have:=a.ok.mem ht; simpa using this⟩
 ·rcases a.sl with hS | ⟨q,rest,rfl,ho,hq,hl',hf⟩
  ·exact .inl hS
  ·exact .inr ⟨q,rest,rfl,ho,hq,hoth _ _ _ hl' (by simp),hf⟩
 ·have hk' : k < F.length:=by simpa using hk
  by_cases e : k = n
  ·subst e
   obtain ⟨o,nn,d0,d1,hl2,h0,h1⟩:=a.fil k hn
   rw [hl] at hl2
   injection hl2 with hl2; injection hl2 with _ e2
   have e3 : d0 = c0 ∧ d1 = c1:=by
    have f0:=congrArg (fun v=>AV.at v [0,0]) e2
    have f1:=congrArg (fun v=>AV.at v [0,1]) e2
    simp only [at_PF _ _ (show 0 < 2 by omega),at_PF _ _ (show 1 < 2 by omega)] at f0 f1
    simp at f0 f1
    exact ⟨f0.symm,f1.symm⟩
   obtain ⟨rfl,rfl⟩:=e3
   rw [filN_set hn]
   refine ⟨o,nn,_,_,look_ob,?_,?_⟩
   ·match p,hp with
    | 0,_=>simp only [if_true]; exact hpart _ _ _ hc
    | 1,_=>exact hpart _ _ _ h0
   ·match p,hp with
    | 0,_=>simp only [if_true]; exact hpart _ _ _ h1
    | 1,_=>exact hpart _ _ _ hc
  ·have ek : filN (F.set n ((filN F n).setP p b t)) k = filN F k:=by
    simp only [filN,List.getD_eq_getElem?_getD,List.getElem?_set]
    rw [if_neg (fun e'=>e e'.symm)]
   rw [ek]
   obtain ⟨o,nn,d0,d1,hl2,h0,h1⟩:=a.fil k hk'
   have hne : ¬ad k = ad n:=fun e'=>e (a.inj k n hk' hn e')
   exact ⟨o,nn,d0,d1,by rw [look_ob_ne hne]; exact hl2,hpart _ _ _ h0,hpart _ _ _ h1⟩
theorem stV_W {sl : Slots} {own : Own} {sv v : AV} (hl : ∀ n,cx.prot.lets (.obj n) = true) (hw : h.look (.obj w) = some ⟨tWorld,encW sv⟩) (hf : (tSl.fits v = true) = True) : stV cx tSl (.ptr (.obj w) [0] tSl) v ⟨sl,own,h⟩ = some ⟨sl,own,h.ob w tWorld (encW v)⟩:=by
 rw [stV_ob (hl w),if_pos (of_eq_true hf),hw]
 simp only [Option.bind_some,put_W0,Option.map_some]
theorem W_del {kill : List Nat} {k : List Item} {r : List MOp} {sl : Slots} {own : Own} {Q : St → Prop} {d : Option Nat} {x y z : Opd} {v : AV} {l : List AV} {i : Nat} (hx : St.opd ⟨sl,own,h⟩ x = v) (hy : St.opd ⟨sl,own,h⟩ y = .int .i64 i) (hz : St.opd ⟨sl,own,h⟩ z = .int .i64 ((i : Int) + 1)) (hl : ∀ n,cx.prot.lets (.obj n) = true) (hS : NSl O h v l) (hi : i < l.length) (hn : l.length ≤ 1000000) (hfl : ∀ a ∈ l,tName.fits a = true)
  (hq : ∀ v' h',NSl O h' v' (l.take i ++ l.drop (i + 1)) → Off h h' v → W tblE cx (.ops r kill :: k) (St.setd ⟨sl,own,h'⟩ d v') Q) :
  W tblE cx (.ops (⟨d,.call false [] 328 [x,y,z],none⟩ :: r) kill :: k) ⟨sl,own,h⟩ Q:=by
 rcases hS with ⟨rfl,rfl⟩ | ⟨q,rest,rfl,ho,hq1,hq2,hfr⟩
 ·simp at hi
 refine W_callh (v:=.sl (.obj q) 0 (l.length - 1)) (h.ob q (.arr (l.length + rest.length) tName) (.ofList (l.take i ++ l.drop (i + 1) ++ (tName.zero :: rest)))) rfl ⟨rfl,rfl⟩ rfl (by
  simp only [List.map_cons,List.map_nil,hx,hy,hz]
  exact del_ok (by exact hl) rfl rfl hi hn hfl hfr hq2) ?_
 refine hq _ _ (.inr ⟨q,tName.zero :: rest,?_,ho,hq1,?_,fun b hb=>?_⟩) ⟨rfl,rfl,Nat.le_refl _,fun n hn hv=>?_⟩
 ·congr 1; simp; omega
 ·rw [look_ob]
  congr 2
  simp; omega
 ·rcases List.mem_cons.1 hb with rfl | hb
  ·rfl
  ·exact hfr b hb
 ·have hnq : ¬n = q:=fun e=>by subst e; simp [AV.into] at hv
  exact obj_ob_ne hnq
theorem IDo_ok {x : SStep} (hl : ∀ n,cx.prot.lets (.obj n) = true) (hO : OUp O h.next) (hW : WIn O h w sv ad T F) (hT : T.length ≤ 100000) (hFl : F.length ≤ 100000) (hx : x.ok) :
  Ok tblE cx Fn.ideal_World_Do (St.enter [.ptr (.obj w) [] tWorld,x.enc] h) fun v h'=>v = .int .i64 (rdoC T x) ∧ FrW O h h' ∧ ∃ sv' ad',WIn O h' w sv' ad' (rdoT T F x) (rdoF T F x):=by
 have hb : (Id.obj w).below cx.lvl:=below_obj w cx.lvl
 rw [Ok_eq]
 simp (maxSteps:=999999) (disch:=omega) only [go_sem]
 have hF1 : FrW O h (h.nw tStep x.enc):=FrW.nw hO
 have hO1 : OUp O (h.nw tStep x.enc).next:=hO.le (Nat.le_succ _)
 have hW1 : WIn O (h.nw tStep x.enc) w sv ad T F:=hW.keep (fun n h1 _=>h1) (Nat.le_succ _) (fun n hn _=>by simp [HP.nw,HP.ob,HP.set]; omega)
 have hxl : (h.nw tStep x.enc).look (.obj h.next) = some ⟨tStep,x.enc⟩:=look_nw
 have hxn : h.next < (h.nw tStep x.enc).next:=Nat.lt_succ_self _
 have hxo : O h.next:=hO _ (Nat.le_refl _)
 generalize h.nw tStep x.enc = g at hF1 hO1 hW1 hxl hxn ⊢
 generalize h.next = u at hxl hxn hxo ⊢
 have hsl:=hW1.sl
 have hlen:=hsl.len
 have hfit:=hsl.fits
 have hfg:=hsl.fg
 have hld:=hsl.ld
 rw [List.length_map] at hlen
 have hm : g.rd (.obj w) [0] = some sv:=by simp [HP.rd,hW1.wl,at_W0]
 refine W_callp rfl ⟨rfl,rfl⟩ (by simp only [go_sem]; exact ICheck_ok hx.name hx.to hx.text) ?_
 simp (maxSteps:=999999) (disch:=omega) only [go_sem]
 by_cases c0 : stepFault x = 0
 rotate_left
 ·simp (maxSteps:=999999) (disch:=omega) only [go_sem,c0]
  have hc : rdoC T x = stepFault x:=by simp [rdoC,c0]
  have hc' : ¬rdoC T x = 0:=by rw [hc]; exact c0
  refine ⟨by rw [hc],hF1,sv,ad,?_⟩
  simp only [rdoT,rdoF,hc',ne_eq,not_false_eq_true,if_true]
  exact hW1
 simp (maxSteps:=999999) (disch:=omega) only [go_sem,c0,hxl]
 refine W_callp rfl ⟨rfl,rfl⟩ (by simp only [go_sem]; exact find_ok (O:=O) (ad:=ad) (l:=T) hb.succ (by simp only [HP.push_rd_ext hb,hm]) hsl (by omega)) ?_
 simp (maxSteps:=999999) (disch:=omega) only [go_sem,hxl]
 by_cases k1 : x.kind = 1
 ·by_cases ca : 0 ≤ atT T x.dir x.name
  ·simp (maxSteps:=999999) (disch:=omega) only [go_sem,k1,ca]
   have hc : rdoC T x = 4:=by simp [rdoC,c0,k1,ca]
   refine ⟨by rw [hc],hF1,sv,ad,?_⟩
   simp only [rdoT,rdoF,hc]
   exact hW1
  have hc : rdoC T x = 0:=by simp [rdoC,c0,k1,ca]
  simp (maxSteps:=999999) (disch:=omega) only [go_sem,k1,ca,hW1.wl,hxl,hfit,hfg,hld]
  have hM:=hW1.more (hO1 _ (Nat.le_refl _))
  have hF2 : FrW O h (g.nw tPFile (encPF .nilp .nilp)):=hF1.trans (FrW.nw hO1)
  have hO2 : OUp O (g.nw tPFile (encPF .nilp .nilp)).next:=hO1.le (Nat.le_succ _)
  have ef : fill tName tName.zero [(0,.int .i64 x.dir),(1,.str x.name),(2,.ptr (.obj g.next) [] tPFile)] = some (encN (fun n=>if n = F.length then g.next else ad n) ⟨x.dir,x.name,F.length⟩):=by
   rw [← fill_name]; simp only [if_true]
  simp (maxSteps:=999999) (disch:=omega) only [go_sem,ef]
  generalize (fun n=>if n = F.length then g.next else ad n) = ad' at hM ef ⊢
  generalize g.nw tPFile (encPF .nilp .nilp) = g1 at hM hF2 hO2 ⊢
  refine W_bsliceG (t:=tName) (v:=encN ad' ⟨x.dir,x.name,F.length⟩) (by simp only [go_sem]) rfl ?_
  simp (maxSteps:=999999) (disch:=omega) only [go_sem,hfg]
  refine W_appN (O:=O) (v:=sv) (a:=encN ad' ⟨x.dir,x.name,F.length⟩) (l:=T.map (encN ad')) (by simp only [go_sem]) (fun n=>hl n) hO2 hM.sl (elems_one (by simp only [go_sem])) (fits_names _ _) rfl (by simp; omega) fun v' h' hS' hof=>?_
  have hok : FilesOk (T ++ [(⟨x.dir,x.name,F.length⟩ : Tag)]) (F ++ [RFile.zero]):=FilesOk.of fun t ht=>by
   rcases List.mem_append.1 ht with h1 | h1
   ·exact hM.ok.mem h1
   ·have : t = ⟨x.dir,x.name,F.length⟩:=by simpa using h1
    rw [this]; simp
  have hww : h'.look (.obj w) = some ⟨tWorld,encW sv⟩:=by rw [← hM.wl]; exact hof.same w hM.wn (hM.sl.ne hM.wl (fun N=>by simp))
  have hfv:=hS'.fits
  have hR:=hM.sl' hof (T':=T ++ [(⟨x.dir,x.name,F.length⟩ : Tag)]) (by rw [List.map_append]; exact hS') hok
  have hF3 : FrW O h (h'.ob w tWorld (encW v')):=(hF2.trans (FrW.off hof hO2 (fun n hn=>hM.sl.into n hn))).trans (FrW.ob hM.ow)
  have hfg':=hS'.fg
  have hld':=hS'.ld
  simp (maxSteps:=999999) (disch:=omega) only [go_sem,stV_W hl hww hfv,hfg',hld']
  refine ⟨by rw [hc],hF3,v',ad',?_⟩
  have e1 : rdoT T F x = T ++ [(⟨x.dir,x.name,F.length⟩ : Tag)]:=by simp [rdoT,hc,k1]
  have e2 : rdoF T F x = F ++ [RFile.zero]:=by simp [rdoF,hc,k1]
  rw [e1,e2]; exact hR
 rcases atT_cases T x.dir x.name with e | ⟨i,hi,e,hid,hin⟩
 ·simp (maxSteps:=999999) (disch:=omega) only [go_sem,k1,e]
  have hc : rdoC T x = 5:=by simp [rdoC,c0,k1,e]
  refine ⟨by rw [hc],hF1,sv,ad,?_⟩
  simp only [rdoT,rdoF,hc]
  exact hW1
 obtain ⟨⟨kd1,kd6⟩,⟨d0,d3⟩,_,hto,hpp,_⟩:=stepFault_zero c0
 have i0 : ¬(i : Int) < 0:=by omega
 have en : rdoN T x = (tagN T i).file:=by unfold rdoN; rw [e]; rfl
 have hnF:=hW1.ok i hi
 rw [← en] at hnF
 have hSv : ∃ q N rest,sv = .sl (.obj q) 0 T.length ∧ g.look (.obj q) = some ⟨.arr N tName,.ofList (T.map (encN ad) ++ rest)⟩:=by
  rcases hsl with ⟨_,e'⟩ | ⟨q,rest,rfl,_,_,hq,_⟩
  ·have : T = []:=by simpa using e'
   rw [this] at hi; simp at hi
  ·rw [List.length_map] at hq ⊢; exact ⟨q,_,rest,rfl,hq⟩
 obtain ⟨q1,N1,rest1,ev1,hq1⟩:=hSv
 have hqx : ∀ sl : Slots,True:=fun _=>trivial
 simp (maxSteps:=999999) (disch:=omega) only [go_sem,k1,e,i0,hW1.wl,hfit,hfg,hld]
 rw [ev1]
 simp (maxSteps:=999999) (disch:=omega) only [go_sem,hq1,hi]
 rw [← en]
 simp (maxSteps:=999999) (disch:=omega) only [go_sem,hxl]
 by_cases k2 : x.kind = 2
 ·simp (maxSteps:=999999) (disch:=omega) only [go_sem,k2,hxl]
  refine W_callp rfl ⟨rfl,rfl⟩ (by simp only [go_sem]; exact find_ok (O:=O) (ad:=ad) (l:=T) hb.succ (by simp only [HP.push_rd_ext hb,hm]) hsl (by omega)) ?_
  simp (maxSteps:=999999) (disch:=omega) only [go_sem,hxl]
  by_cases ca : 0 ≤ atT T x.toDir x.to
  ·simp (maxSteps:=999999) (disch:=omega) only [go_sem,ca]
   have hc : rdoC T x = 4:=by simp [rdoC,c0,k1,e,k2,ca]
   refine ⟨by rw [hc],hF1,sv,ad,?_⟩
   simp only [rdoT,rdoF,hc]
   exact hW1
  have hc : rdoC T x = 0:=by simp [rdoC,c0,k1,e,k2,ca]
  simp (maxSteps:=999999) (disch:=omega) only [go_sem,ca,hxl,hW1.wl,hfit,hfg,hld]
  refine W_bsliceG (t:=tName) (v:=encN ad ⟨x.toDir,x.to,rdoN T x⟩) (by simp only [go_sem]) rfl ?_
  simp (maxSteps:=999999) (disch:=omega) only [go_sem,hfg]
  refine W_appN (O:=O) (v:=sv) (a:=encN ad ⟨x.toDir,x.to,rdoN T x⟩) (l:=T.map (encN ad)) (by simp only [go_sem]) (fun n=>hl n) hO1 hW1.sl (elems_one (by simp only [go_sem])) (fits_names _ _) rfl (by simp; omega) fun v' h' hS' hof=>?_
  have hok : FilesOk (T ++ [(⟨x.toDir,x.to,rdoN T x⟩ : Tag)]) F:=FilesOk.of fun t ht=>by
   rcases List.mem_append.1 ht with h1 | h1
   ·exact hW1.ok.mem h1
   ·have : t = ⟨x.toDir,x.to,rdoN T x⟩:=by simpa using h1
    rw [this]; exact hnF
  have hww : h'.look (.obj w) = some ⟨tWorld,encW sv⟩:=by rw [← hW1.wl]; exact hof.same w hW1.wn (hW1.sl.ne hW1.wl (fun N=>by simp))
  have hfv:=hS'.fits
  have hxl' : h'.look (.obj u) = some ⟨tStep,x.enc⟩:=by rw [← hxl]; exact hof.same u hxn (hW1.sl.ne hxl (fun N=>by simp [tStep,tI]))
  have huw : ¬u = w:=fun e'=>by
   have e2:=hW1.wl
   rw [← e',hxl] at e2
   injection e2 with e2; injection e2 with e3 e4
   simp [tStep,tI,tSl] at e3
  have hR:=hW1.sl' hof (T':=T ++ [(⟨x.toDir,x.to,rdoN T x⟩ : Tag)]) (by rw [List.map_append]; exact hS') hok
  have hF3 : FrW O h (h'.ob w tWorld (encW v')):=(hF1.trans (FrW.off hof hO1 (fun n hn=>hW1.sl.into n hn))).trans (FrW.ob hW1.ow)
  have hfg':=hS'.fg
  have hld':=hS'.ld
  have hxl2 : (h'.ob w tWorld (encW v')).look (.obj u) = some ⟨tStep,x.enc⟩:=by rw [look_ob_ne huw]; exact hxl'
  simp (maxSteps:=999999) (disch:=omega) only [go_sem,stV_W hl hww hfv,hfg',hld',hxl2,k2]
  refine ⟨by rw [hc],hF3,v',ad,?_⟩
  have e1 : rdoT T F x = T ++ [(⟨x.toDir,x.to,rdoN T x⟩ : Tag)]:=by simp [rdoT,hc,k1,k2]
  have e2 : rdoF T F x = F:=by simp [rdoF,hc,k1,k2]
  rw [e1,e2]; exact hR
 by_cases k4 : x.kind = 4
 ·simp (maxSteps:=999999) (disch:=omega) only [go_sem,k4,hxl]
  refine W_callp rfl ⟨rfl,rfl⟩ (by simp only [go_sem]; exact find_ok (O:=O) (ad:=ad) (l:=T) hb.succ (by simp only [HP.push_rd_ext hb,hm]) hsl (by omega)) ?_
  simp (maxSteps:=999999) (disch:=omega) only [go_sem,hxl]
  by_cases ca : 0 ≤ atT T x.toDir x.to
  ·simp (maxSteps:=999999) (disch:=omega) only [go_sem,ca]
   have hc : rdoC T x = 4:=by simp [rdoC,c0,k1,e,k4,ca]
   refine ⟨by rw [hc],hF1,sv,ad,?_⟩
   simp only [rdoT,rdoF,hc]
   exact hW1
  have hc : rdoC T x = 0:=by simp [rdoC,c0,k1,e,k4,ca]
  simp (maxSteps:=999999) (disch:=omega) only [go_sem,ca,hxl,hW1.wl,hfit,hfg,hld]
  refine W_bsliceG (t:=tName) (v:=encN ad ⟨x.toDir,x.to,rdoN T x⟩) (by simp only [go_sem]) rfl ?_
  simp (maxSteps:=999999) (disch:=omega) only [go_sem,hfg]
  refine W_appN (O:=O) (v:=sv) (a:=encN ad ⟨x.toDir,x.to,rdoN T x⟩) (l:=T.map (encN ad)) (by simp only [go_sem]) (fun n=>hl n) hO1 hW1.sl (elems_one (by simp only [go_sem])) (fits_names _ _) rfl (by simp; omega) fun v' h' hS' hof=>?_
  have hok : FilesOk (T ++ [(⟨x.toDir,x.to,rdoN T x⟩ : Tag)]) F:=FilesOk.of fun t ht=>by
   rcases List.mem_append.1 ht with h1 | h1
   ·exact hW1.ok.mem h1
   ·have : t = ⟨x.toDir,x.to,rdoN T x⟩:=by simpa using h1
    rw [this]; exact hnF
  have hww : h'.look (.obj w) = some ⟨tWorld,encW sv⟩:=by rw [← hW1.wl]; exact hof.same w hW1.wn (hW1.sl.ne hW1.wl (fun N=>by simp))
  have hfv:=hS'.fits
  have hxl' : h'.look (.obj u) = some ⟨tStep,x.enc⟩:=by rw [← hxl]; exact hof.same u hxn (hW1.sl.ne hxl (fun N=>by simp [tStep,tI]))
  have huw : ¬u = w:=fun e'=>by
   have e2:=hW1.wl
   rw [← e',hxl] at e2
   injection e2 with e2; injection e2 with e3 e4
   simp [tStep,tI,tSl] at e3
  have hR:=hW1.sl' hof (T':=T ++ [(⟨x.toDir,x.to,rdoN T x⟩ : Tag)]) (by rw [List.map_append]; exact hS') hok
  have hF3 : FrW O h (h'.ob w tWorld (encW v')):=(hF1.trans (FrW.off hof hO1 (fun n hn=>hW1.sl.into n hn))).trans (FrW.ob hW1.ow)
  have hfg':=hS'.fg
  have hld':=hS'.ld
  have hxl2 : (h'.ob w tWorld (encW v')).look (.obj u) = some ⟨tStep,x.enc⟩:=by rw [look_ob_ne huw]; exact hxl'
  simp (maxSteps:=999999) (disch:=omega) only [go_sem,stV_W hl hww hfv,hfg',hld',hxl2,k4]
  have hlw : (h'.ob w tWorld (encW v')).look (.obj w) = some ⟨tWorld,encW v'⟩:=look_ob
  have hO3 : OUp O (h'.ob w tWorld (encW v')).next:=hO1.le hof.next
  generalize h'.ob w tWorld (encW v') = g3 at hR hF3 hxl2 hlw hO3 ⊢
  generalize hTT : T ++ [(⟨x.toDir,x.to,rdoN T x⟩ : Tag)] = T2 at hR
  have hi2 : i < T2.length:=by rw [← hTT]; simp; omega
  have hn2 : T2.length ≤ 1000000:=by rw [← hTT]; simp; omega
  have hsl2:=hR.sl
  have hfit2:=hsl2.fits
  have hfg2:=hsl2.fg
  have hld2:=hsl2.ld
  simp (maxSteps:=999999) (disch:=omega) only [go_sem,hlw,hfit2,hfg2,hld2]
  refine W_del (l:=T2.map (encN ad)) (i:=i) (v:=v') (O:=O) (by simp only [go_sem]) (by simp only [go_sem]) (by simp only [go_sem]) hl hsl2 (by simpa using hi2) (by simpa using hn2) (fits_names _ _) fun v4 h4 hS4 hof4=>?_
  have hfv4:=hS4.fits
  have hww4 : h4.look (.obj w) = some ⟨tWorld,encW v'⟩:=by rw [← hR.wl]; exact hof4.same w hR.wn (hR.sl.ne hR.wl (fun N=>by simp))
  have hok4 : FilesOk (T2.take i ++ T2.drop (i + 1)) F:=FilesOk.of fun t ht=>by
   rcases List.mem_append.1 ht with h1 | h1
   ·exact hR.ok.mem (List.mem_of_mem_take h1)
   ·exact hR.ok.mem (List.mem_of_mem_drop h1)
  have hR4:=hR.sl' hof4 (T':=T2.take i ++ T2.drop (i + 1)) (by rw [List.map_append,List.map_take,List.map_drop]; exact hS4) hok4
  have hF4 : FrW O h (h4.ob w tWorld (encW v4)):=(hF3.trans (FrW.off hof4 hO3 (fun n hn=>hR.sl.into n hn))).trans (FrW.ob hR.ow)
  have hfg4:=hS4.fg
  have hld4:=hS4.ld
  simp (maxSteps:=999999) (disch:=omega) only [go_sem,stV_W hl hww4 hfv4,hfg4,hld4]
  refine ⟨by rw [hc],hF4,v4,ad,?_⟩
  have e1 : rdoT T F x = T2.take i ++ T2.drop (i + 1):=by
   rw [← hTT]; simp [rdoT,hc,k1,k4,e]
  have e2 : rdoF T F x = F:=by simp [rdoF,hc,k1,k4]
  rw [e1,e2]; exact hR4
 by_cases k3 : x.kind = 3
 ·have hc : rdoC T x = 0:=by simp [rdoC,c0,e,k3]
  simp (maxSteps:=999999) (disch:=omega) only [go_sem,k3,hxl,hW1.wl,hfit,hfg,hld]
  refine W_del (l:=T.map (encN ad)) (i:=i) (v:=sv) (O:=O) (by simp only [go_sem]) (by simp only [go_sem]) (by simp only [go_sem]) hl hsl (by simpa using hi) (by simp; omega) (fits_names _ _) fun v4 h4 hS4 hof4=>?_
  have hfv4:=hS4.fits
  have hww4 : h4.look (.obj w) = some ⟨tWorld,encW sv⟩:=by rw [← hW1.wl]; exact hof4.same w hW1.wn (hW1.sl.ne hW1.wl (fun N=>by simp))
  have hok4 : FilesOk (T.take i ++ T.drop (i + 1)) F:=FilesOk.of fun t ht=>by
   rcases List.mem_append.1 ht with h1 | h1
   ·exact hW1.ok.mem (List.mem_of_mem_take h1)
   ·exact hW1.ok.mem (List.mem_of_mem_drop h1)
  have hR4:=hW1.sl' hof4 (T':=T.take i ++ T.drop (i + 1)) (by rw [List.map_append,List.map_take,List.map_drop]; exact hS4) hok4
  have hF4 : FrW O h (h4.ob w tWorld (encW v4)):=(hF1.trans (FrW.off hof4 hO1 (fun n hn=>hW1.sl.into n hn))).trans (FrW.ob hW1.ow)
  have hfg4:=hS4.fg
  have hld4:=hS4.ld
  simp (maxSteps:=999999) (disch:=omega) only [go_sem,stV_W hl hww4 hfv4,hfg4,hld4]
  refine ⟨by rw [hc],hF4,v4,ad,?_⟩
  have e1 : rdoT T F x = T.take i ++ T.drop (i + 1):=by simp [rdoT,hc,k3,e]
  have e2 : rdoF T F x = F:=by simp [rdoF,hc,k3]
  rw [e1,e2]; exact hR4
 obtain ⟨fo,fn,c0',c1',fl,_,_⟩:=hW1.fil (rdoN T x) hnF
 have hp56 : x.kind = 5 ∨ x.kind = 6:=by omega
 obtain ⟨p0,p2⟩:=hpp hp56
 obtain ⟨pp,hp'⟩ : ∃ pp : Nat,x.p = pp:=⟨x.p.toNat,(Int.toNat_of_nonneg p0).symm⟩
 have pp2 : pp < 2:=by omega
 by_cases k5 : x.kind = 5
 ·have hc : rdoC T x = 0:=by simp [rdoC,c0,e,k5]
  have hfp : tP.fits (.ptr (.obj u) [6] tS) = true:=rfl
  simp (maxSteps:=999999) (disch:=omega) only [go_sem,k5,hxl,fl,hp',pp2,stV_ob (hl _),hfp,put_PF,Option.bind_some,Option.map_some]
  refine ⟨by rw [hc],hF1.trans (FrW.ob fo),sv,ad,?_⟩
  have e1 : rdoT T F x = T:=by simp [rdoT,k5]
  have e2 : rdoF T F x = F.set (rdoN T x) ((filN F (rdoN T x)).setP pp true x.text):=by simp [rdoF,hc,k5,hp']
  rw [e1,e2]
  exact hW1.part hnF pp2 fl (.inr ⟨rfl,u,x,rfl,hxo,hxn,hxl,rfl⟩)
 have k6 : x.kind = 6:=by omega
 have hc : rdoC T x = 0:=by simp [rdoC,c0,e,k6]
 have hfp : tP.fits .nilp = true:=rfl
 simp (maxSteps:=999999) (disch:=omega) only [go_sem,k6,hxl,fl,hp',pp2,stV_ob (hl _),hfp,put_PF,Option.bind_some,Option.map_some]
 refine ⟨by rw [hc],hF1.trans (FrW.ob fo),sv,ad,?_⟩
 have e1 : rdoT T F x = T:=by simp [rdoT,k6]
 have e2 : rdoF T F x = F.set (rdoN T x) ((filN F (rdoN T x)).setP pp false ⟨#[]⟩):=by simp [rdoF,hc,k6,hp']
 rw [e1,e2]
 exact hW1.part hnF pp2 fl (.inl ⟨rfl,rfl,rfl⟩)
end
section
variable {cx : Cx} {h : HP} {O : Nat → Prop} {w : Nat} {sv : AV} {ad : Nat → Nat} {T : List Tag} {F : List RFile}
theorem WIn.svq (a : WIn O h w sv ad T F) {i : Nat} (hi : i < T.length) : ∃ q N rest,sv = .sl (.obj q) 0 T.length ∧ q < h.next ∧ h.look (.obj q) = some ⟨.arr N tName,.ofList (T.map (encN ad) ++ rest)⟩:=by
 rcases a.sl with ⟨_,e'⟩ | ⟨q,rest,rfl,_,hn,hq,_⟩
 ·have : T = []:=by simpa using e'
  rw [this] at hi; simp at hi
 ·rw [List.length_map] at hq ⊢; exact ⟨q,_,rest,rfl,hn,hq⟩
theorem eqPtr_ob {L : Id → Option Blk} {i j : Nat} {t : Ty} (h1 : (L (.obj i)).isSome = true) (h2 : (L (.obj j)).isSome = true) : eqPtr L (.ptr (.obj i) [] t) (.ptr (.obj j) [] t) = some (decide (i = j)):=by
 simp only [eqPtr,and_true]
 by_cases c : i = j
 ·subst c; simp
 ·have c' : ¬(Id.obj i = Id.obj j):=by simp [c]
  rw [if_neg c',if_pos ⟨c',h1,h2,rfl,rfl⟩]
  simp [c]
theorem IRead_ok {d p' : Int} {s : Str} (hW : WIn O h w sv ad T F) (hn : T.length ≤ 1000000) (hs : s.size ≤ 9223372036854775807) :
  Ok tblE cx Fn.ideal_World_Read (St.enter [.ptr (.obj w) [] tWorld,.int .i64 d,.str s,.int .i64 p'] h) fun v h'=>v = encR (rReadT T F d s p') (rReadB T F d s p') (rReadC T d s p') ∧ h' = h:=by
 have hb : (Id.obj w).below cx.lvl:=below_obj w cx.lvl
 have hsl:=hW.sl
 have hlen:=hsl.len
 have hfit:=hsl.fits
 have hfg:=hsl.fg
 have hld:=hsl.ld
 rw [List.length_map] at hlen
 have hm : h.rd (.obj w) [0] = some sv:=by simp [HP.rd,hW.wl,at_W0]
 rw [Ok_eq]
 simp (maxSteps:=999999) (disch:=omega) only [go_sem]
 refine W_callp rfl ⟨rfl,rfl⟩ (by simp only [go_sem]; exact icheck_ok hs) ?_
 simp (maxSteps:=999999) (disch:=omega) only [go_sem]
 by_cases c0 : dirFaultN d s = 0
 rotate_left
 ·simp (maxSteps:=999999) (disch:=omega) only [go_sem,c0]
  have e : stepFault ⟨6,d,0,p',s,⟨#[]⟩,⟨#[]⟩⟩ = dirFaultN d s:=by simp [stepFault,c0]
  simp [rReadC,rReadB,rReadT,e,c0,encR]
 simp (maxSteps:=999999) (disch:=omega) only [go_sem,c0]
 by_cases cp : p' < 0
 ·simp (maxSteps:=999999) (disch:=omega) only [go_sem,cp]
  have e : stepFault ⟨6,d,0,p',s,⟨#[]⟩,⟨#[]⟩⟩ = 1:=by simp [stepFault,c0,cp]
  simp [rReadC,rReadB,rReadT,e,encR]
 by_cases cp2 : 2 ≤ p'
 ·simp (maxSteps:=999999) (disch:=omega) only [go_sem,cp,cp2]
  have e : stepFault ⟨6,d,0,p',s,⟨#[]⟩,⟨#[]⟩⟩ = 1:=by simp [stepFault,c0,cp2]
  simp [rReadC,rReadB,rReadT,e,encR]
 obtain ⟨p,rfl⟩ : ∃ p : Nat,p' = p:=⟨p'.toNat,by omega⟩
 have p2 : p < 2:=by omega
 have ef : stepFault ⟨6,d,0,(p : Int),s,⟨#[]⟩,⟨#[]⟩⟩ = 0:=by simp [stepFault,c0,cp,cp2] <;> omega
 simp (maxSteps:=999999) (disch:=omega) only [go_sem,cp,cp2]
 refine W_callp rfl ⟨rfl,rfl⟩ (by simp only [go_sem]; exact find_ok (O:=O) (ad:=ad) (l:=T) hb.succ (by simp only [HP.push_rd_ext hb,hm]) hsl hn) ?_
 simp (maxSteps:=999999) (disch:=omega) only [go_sem]
 rcases atT_cases T d s with e | ⟨k,hk,e,_⟩
 ·simp (maxSteps:=999999) (disch:=omega) only [go_sem,e]
  simp [rReadC,rReadB,rReadT,ef,e,encR]
 have k0 : ¬(k : Int) < 0:=by omega
 have hfk:=hW.ok k hk
 obtain ⟨q,N,rest,ev,_,hq⟩:=hW.svq hk
 obtain ⟨fo,fn,d0,d1,fl,f0,f1⟩:=hW.fil _ hfk
 have hc : rReadC T d s (p : Int) = 0:=by simp [rReadC,ef,e,k0]
 have hrf : rReadF T F d s = filN F (tagN T k).file:=by simp [rReadF,e]
 have hT : rReadT T F d s (p : Int) = (filN F (tagN T k).file).text p:=by simp [rReadT,hc,hrf]
 have hB : rReadB T F d s (p : Int) = (filN F (tagN T k).file).has p:=by simp [rReadB,hc,hrf]
 have hpa : PartAt O h ((filN F (tagN T k).file).has p) ((filN F (tagN T k).file).text p) (if p = 0 then d0 else d1):=by
  match p,p2 with
  | 0,_=>exact f0
  | 1,_=>exact f1
 have hat : (encPF d0 d1).at [0,p] = some (if p = 0 then d0 else d1):=at_PF d0 d1 p2
 rw [hT,hB,hc]
 generalize (filN F (tagN T k).file).has p = hasv at hpa
 generalize (filN F (tagN T k).file).text p = txtv at hpa
 generalize (if p = 0 then d0 else d1) = cv at hpa hat
 subst ev
 have key : cv.safe = true ∧ tP.fits cv = true:=by
  rcases hpa with ⟨_,_,rfl⟩ | ⟨_,b,x,rfl,_⟩
  ·exact ⟨rfl,rfl⟩
  ·exact ⟨rfl,rfl⟩
 rcases hpa with ⟨rfl,rfl,rfl⟩ | ⟨rfl,b,x,rfl,_,_,hxl,rfl⟩
 ·simp (maxSteps:=999999) (disch:=omega) only [go_sem,e,k0,hW.wl,hfit,hfg,hld,hq,hk,fl,p2,hat,Option.bind_some,key.2]
  refine W_eqp (b:=true) (by simp only [go_sem]; rfl) ?_
  simp (maxSteps:=999999) (disch:=omega) only [go_sem]
  try simp [encR]
 ·simp (maxSteps:=999999) (disch:=omega) only [go_sem,e,k0,hW.wl,hfit,hfg,hld,hq,hk,fl,p2,hat,Option.bind_some,key.2]
  refine W_eqp (b:=false) (by simp only [go_sem]; rfl) ?_
  simp (maxSteps:=999999) (disch:=omega) only [go_sem,hxl]
  try simp [encR]
theorem ISame_ok {d e : Int} {s t : Str} (hW : WIn O h w sv ad T F) (hn : T.length ≤ 1000000) :
  Ok tblE cx Fn.ideal_World_Same (St.enter [.ptr (.obj w) [] tWorld,.int .i64 d,.str s,.int .i64 e,.str t] h) fun v h'=>v = .bool (rSameB T d s e t) ∧ h' = h:=by
 have hb : (Id.obj w).below cx.lvl:=below_obj w cx.lvl
 have hsl:=hW.sl
 have hfit:=hsl.fits
 have hfg:=hsl.fg
 have hld:=hsl.ld
 have hm : h.rd (.obj w) [0] = some sv:=by simp [HP.rd,hW.wl,at_W0]
 rw [Ok_eq]
 simp (maxSteps:=999999) (disch:=omega) only [go_sem]
 refine W_callp rfl ⟨rfl,rfl⟩ (by simp only [go_sem]; exact find_ok (O:=O) (ad:=ad) (l:=T) hb.succ (by simp only [HP.push_rd_ext hb,hm]) hsl hn) ?_
 simp (maxSteps:=999999) (disch:=omega) only [go_sem]
 refine W_callp rfl ⟨rfl,rfl⟩ (by simp only [go_sem]; exact find_ok (O:=O) (ad:=ad) (l:=T) hb.succ (by simp only [HP.push_rd_ext hb,hm]) hsl hn) ?_
 simp (maxSteps:=999999) (disch:=omega) only [go_sem]
 rcases atT_cases T d s with e1 | ⟨k,hk,e1,_⟩
 ·simp (maxSteps:=999999) (disch:=omega) only [go_sem,e1]
  simp [rSameB,e1]
 rcases atT_cases T e t with e2 | ⟨j,hj,e2,_⟩
 ·simp (maxSteps:=999999) (disch:=omega) only [go_sem,e1,e2]
  simp [rSameB,e1,e2]
 have k0 : (0 : Int) ≤ (k : Int):=by omega
 have j0 : (0 : Int) ≤ (j : Int):=by omega
 obtain ⟨q,N,rest,ev,_,hq⟩:=hW.svq hk
 have a1:=hW.fil _ (hW.ok k hk)
 have a2:=hW.fil _ (hW.ok j hj)
 obtain ⟨_,_,x0,x1,l1,_⟩:=a1
 obtain ⟨_,_,y0,y1,l2,_⟩:=a2
 subst ev
 simp (maxSteps:=999999) (disch:=omega) only [go_sem,e1,e2,k0,j0,hW.wl,hfit,hfg,hld,hq,hk,hj]
 refine W_eqp (b:=decide (ad (tagN T k).file = ad (tagN T j).file)) ?_ ?_
 ·exact eqPtr_ob (t:=tPFile) (by rw [look_obj,l1]; rfl) (by rw [look_obj,l2]; rfl)
 ·simp (maxSteps:=999999) (disch:=omega) only [go_sem]
  have hiff : (ad (tagN T k).file = ad (tagN T j).file) ↔ (tagN T k).file = (tagN T j).file:=⟨fun e'=>hW.inj _ _ (hW.ok k hk) (hW.ok j hj) e',fun e'=>by rw [e']⟩
  simp [rSameB,e1,e2,hiff]
theorem List1W_ok {a b : Str} : Ok tblE cx Fn.ideal_World_List_1 (St.enter [.str a,.str b] h) fun v h'=>v = .int .i64 (cmpS a b) ∧ h' = h:=by
 rw [Ok_eq]
 simp (maxSteps:=999999) (disch:=omega) only [go_sem]
 refine W_callp rfl ⟨rfl,rfl⟩ (by simp only [go_sem]; exact Compare_ok) ?_
 simp (maxSteps:=999999) (disch:=omega) only [go_sem]
theorem isCmp327 : IsCmp 327:=⟨_,rfl,⟨rfl,rfl⟩,fun _ _ _ _=>List1W_ok⟩
theorem pdqX_ok {F q : Nat} {l : List Str} {z : Int} (hl : ∀ n,cx.prot.lets (.obj n) = true) (hls : ∀ x u,cx.lvl ≤ x → cx.prot.lets (.stk x u) = true) (hF : IsCmp F) (hn : l.length ≤ 255) (hz : 0 ≤ z ∧ z ≤ 1000) (hq : h.look (.obj q) = some ⟨.arr l.length tS,encS l⟩) :
  Ok tblE cx Fn.slices_pdqsortCmpFunc (St.enter [.sl (.obj q) 0 l.length,.int .i64 0,.int .i64 l.length,.int .i64 z,.func F .unit] h) fun v h'=>v = .tup .unit ∧ h' = h.ob q (.arr l.length tS) (encS (sortS l)):=by
 refine (pdq_ok (n:=l.length) (q:=q) hl hls hF hn l.length (a:=0) (b:=l.length) (l:=l) hl hls rfl (by omega) (Nat.zero_le _) (Nat.le_refl _) hz (fun h0=>absurd h0 (by omega)) hq).mono fun v h' hh=>?_
 obtain ⟨rfl,m,rfl,hp,hs⟩:=hh
 have em:=sortS_eq hp.perm (sorted_of (by rw [hp.len]; exact hs))
 subst em
 exact ⟨rfl,rfl⟩
theorem SortX_ok {F q : Nat} {l : List Str} (hl : ∀ n,cx.prot.lets (.obj n) = true) (hls : ∀ x u,cx.lvl ≤ x → cx.prot.lets (.stk x u) = true) (hF : IsCmp F) (hn : l.length ≤ 255) (hq : h.look (.obj q) = some ⟨.arr l.length tS,encS l⟩) :
  Ok tblE cx Fn.slices_SortFunc (St.enter [.sl (.obj q) 0 l.length,.func F .unit] h) fun v h'=>v = .tup .unit ∧ h' = h.ob q (.arr l.length tS) (encS (sortS l)):=by
 rw [Ok_eq]
 simp (maxSteps:=999999) (disch:=omega) only [go_sem,wrapU (x:=l.length) (by omega)]
 refine W_callhv (P:=fun v=>∃ z : Int,0 ≤ z ∧ z ≤ 8 ∧ v = .int .i64 z) h rfl ⟨rfl,rfl⟩ rfl (by simp only [go_sem]; exact Len_ok (x:=l.length) (by omega)) ?_
 rintro v ⟨z,z0,z8,rfl⟩
 simp (maxSteps:=999999) (disch:=omega) only [go_sem]
 refine W_callh (v:=.tup .unit) (h.ob q (.arr l.length tS) (encS (sortS l))) rfl ⟨rfl,rfl⟩ rfl (by simp only [go_sem]; exact pdqX_ok (by exact hl) (by exact fun x u hx=>hls x u (Nat.le_trans (Nat.le_succ _) hx)) hF hn ⟨z0,by omega⟩ (by simp only [go_sem,hq])) ?_
 simp (maxSteps:=999999) (disch:=omega) only [go_sem]
end
theorem SlF.lenW {h h1 : HP} {v : AV} {l : List Str} (a : SlF h h1 v l) : lenV false v = some (.int .i64 l.length):=by
 rcases a with ⟨rfl,rfl⟩ | ⟨q,rfl,_⟩ <;> rfl
theorem SlF.vnW {h h1 : HP} {v : AV} {l : List Str} (a : SlF h h1 v l) : ∀ x y,fg v (.stk x y) = v:=fun x y=>by
 rcases a with ⟨rfl,_⟩ | ⟨q,rfl,_⟩ <;> simp only [go_sem]
section
variable {cx : Cx} {h : HP} {O : Nat → Prop} {w : Nat} {sv : AV} {ad : Nat → Nat} {T : List Tag} {F : List RFile}
theorem IListW_ok {d : Int} (hl : ∀ n,cx.prot.lets (.obj n) = true) (hls : ∀ x u,cx.lvl ≤ x → cx.prot.lets (.stk x u) = true) (hW : WIn O h w sv ad T F) (hn : T.length ≤ 255) :
  Ok tblE cx Fn.ideal_World_List (St.enter [.ptr (.obj w) [] tWorld,.int .i64 d] h) fun v h'=>Fr h h' [] ∧ SlF h h' v (sortS (namesT T d T.length)):=by
 have hb : (Id.obj w).below cx.lvl:=below_obj w cx.lvl
 have hsl:=hW.sl
 have hlen:=hsl.len
 have hfit:=hsl.fits
 have hfg:=hsl.fg
 have hld:=hsl.ld
 rw [List.length_map] at hlen
 rw [Ok_eq]
 simp (maxSteps:=999999) (disch:=omega) only [go_sem,hW.wl,hfit,hlen,hfg,hld]
 refine W_forE (α:=AV × HP) T.length (fun i q=>⟨[(1,.int .i64 d),(5,q.1),(11,sv),(12,.int .i64 T.length),(13,.int .i64 i)],[],q.2⟩) (fun i q=>Fr h q.2 [] ∧ SlF h q.2 q.1 (namesT T d i)) (.nilsl,h) (by simp only [go_sem] <;> rfl) ⟨Fr.refl _ _,.inl ⟨rfl,rfl⟩⟩ fun i q hi hq ih=>?_
 obtain ⟨ov,H⟩:=q
 obtain ⟨hF,hO⟩:=hq
 dsimp only at hF hO ⊢
 have hofg:=hO.vnW
 by_cases hlt : i < T.length
 ·obtain ⟨q,N,rest,ev,hqn,hq⟩:=hW.svq hlt
  have hqH : H.look (.obj q) = some ⟨.arr N tName,.ofList (T.map (encN ad) ++ rest)⟩:=hF.look hqn (by simp) hq
  rw [ev]
  by_cases cd : (tagN T i).dir = d
  rotate_left
  ·simp (maxSteps:=999999) (disch:=omega) only [go_sem,hlt,hqH,cd,hofg]
   refine ih _ (ov,H) hlt ?_ ⟨hF,?_⟩
   ·simp only [go_sem,ev]
   ·have : namesT T d (i + 1) = namesT T d i:=by simp [namesT,cd]
    rw [this]; exact hO
  have en : namesT T d (i + 1) = namesT T d i ++ [(tagN T i).name]:=by simp [namesT,cd]
  have hLn:=namesT_len T d i
  rcases hO with ⟨rfl,hl0⟩ | ⟨q',rfl,hq1,hq2,hq3⟩
  ·simp (maxSteps:=999999) (disch:=omega) only [go_sem,hlt,hqH,cd]
   refine ih _ (.sl (.obj H.next) 0 1,H.nw (.arr 1 tS) (encS [(tagN T i).name])) hlt ?_ ⟨hF.trans Fr.nw,?_⟩
   ·simp only [go_sem,ev]
   ·rw [en,hl0]
    exact .inr ⟨H.next,rfl,hF.next,Nat.lt_succ_self _,look_nw⟩
  ·simp (maxSteps:=999999) (disch:=omega) only [go_sem,hlt,hqH,cd]
   rw [WAs_grow (hl q') hq3 (by omega)]
   simp (maxSteps:=999999) (disch:=omega) only [go_sem]
   refine ih _ (.sl (.obj H.next) 0 (namesT T d i ++ [(tagN T i).name]).length,(H.dl q').nw (.arr (namesT T d i ++ [(tagN T i).name]).length tS) (encS (namesT T d i ++ [(tagN T i).name]))) hlt ?_ ⟨(hF.dl hq1).trans Fr.nw,?_⟩
   ·simp only [go_sem,ev]
   ·rw [en]
    exact .inr ⟨H.next,rfl,hF.next,Nat.lt_succ_self _,look_nw (h:=H.dl q')⟩
 ·obtain rfl : i = T.length:=by omega
  have hLn:=namesT_len T d T.length
  generalize hL : namesT T d T.length = L at hO hLn
  have hLn2 : L.length ≤ 255:=by omega
  rcases hO with ⟨rfl,e0⟩ | ⟨q,rfl,hq1,hq2,hq3⟩
  ·subst e0
   simp (maxSteps:=999999) (disch:=omega) only [go_sem]
   refine W_callp rfl ⟨rfl,rfl⟩ (by simp only [go_sem]; exact SortNil_ok) ?_
   simp (maxSteps:=999999) (disch:=omega) only [go_sem]
   exact ⟨hF,.inl ⟨rfl,by simp [sortS]⟩⟩
  ·simp (maxSteps:=999999) (disch:=omega) only [go_sem]
   refine W_callh (v:=.tup .unit) (H.ob q (.arr L.length tS) (encS (sortS L))) rfl ⟨rfl,rfl⟩ rfl (by simp only [go_sem]; exact SortX_ok (by exact hl) (by exact fun x u hx=>hls x u (Nat.le_trans (Nat.le_succ _) hx)) isCmp327 hLn2 (by simp only [go_sem,hq3])) ?_
   simp (maxSteps:=999999) (disch:=omega) only [go_sem]
   have elen : (sortS L).length = L.length:=(sortS_perm L).length_eq
   exact ⟨⟨hF.stk,hF.arg,hF.next,fun n hn hs=>(obj_ob_ne (by omega)).trans (hF.same n hn hs)⟩,.inr ⟨q,by rw [elen],hq1,hq2,by rw [elen]; exact look_ob⟩⟩
end
theorem WIn.push {O : Nat → Prop} {h : HP} {w : Nat} {sv : AV} {ad : Nat → Nat} {T : List Tag} {F : List RFile} {l : Nat} {o : Own} (a : WIn O h w sv ad T F) : WIn O (h.push l o) w sv ad T F :=
 a.keep (fun _ h1 _=>h1) (Nat.le_refl _) (fun _ _ _=>rfl)
theorem WIn.pop {O : Nat → Prop} {h : HP} {w : Nat} {sv : AV} {ad : Nat → Nat} {T : List Tag} {F : List RFile} {l : Nat} {o : Own} (a : WIn O (h.push l o) w sv ad T F) : WIn O h w sv ad T F :=
 WIn.keep a (fun _ h1 _=>h1) (Nat.le_refl _) (fun _ _ _=>rfl)
theorem WIn.fr {O : Nat → Prop} {h h' : HP} {w : Nat} {sv : AV} {ad : Nat → Nat} {T : List Tag} {F : List RFile} (a : WIn O h w sv ad T F) (b : Fr h h' []) : WIn O h' w sv ad T F :=
 a.keep (fun _ h1 _=>h1) b.next (fun n hn _=>b.same n hn (by simp))
section
variable {cx : Cx} {kill : List Nat} {k : List Item} {r : List MOp} {sl : Slots} {own : Own} {h : HP} {Q : St → Prop} {O : Nat → Prop} {w : Nat} {sv : AV} {ad : Nat → Nat} {T : List Tag} {F : List RFile}
theorem W_IDo {d : Option Nat} {x y : Opd} {X : SStep} (hx : St.opd ⟨sl,own,h⟩ x = .ptr (.obj w) [] tWorld) (hy : St.opd ⟨sl,own,h⟩ y = X.enc) (hl : ∀ n,cx.prot.lets (.obj n) = true) (hO : OUp O h.next) (hW : WIn O h w sv ad T F) (hT : T.length ≤ 100000) (hF : F.length ≤ 100000) (hX : X.ok)
  (hq : ∀ h1 sv' ad',FrW O h h1 → WIn O h1 w sv' ad' (rdoT T F X) (rdoF T F X) → W tblE cx (.ops r kill :: k) (St.setd ⟨sl,own,h1⟩ d (.int .i64 (rdoC T X))) Q) :
  W tblE cx (.ops (⟨d,.call false [] 323 [x,y],none⟩ :: r) kill :: k) ⟨sl,own,h⟩ Q:=by
 refine W_callW (O:=O) (R:=fun v h1=>v = .int .i64 (rdoC T X) ∧ ∃ sv' ad',WIn O h1 w sv' ad' (rdoT T F X) (rdoF T F X)) rfl ⟨rfl,rfl⟩ (by
  simp only [List.map_cons,List.map_nil,hx,hy]
  refine (IDo_ok (h:=h.push cx.lvl own) (by exact hl) (by exact hO) hW.push hT hF hX).mono fun v h' hh=>?_
  exact ⟨hh.2.1,hh.1,hh.2.2⟩) (fun v h1 e=>⟨e.1,by obtain ⟨_,sv',ad',hw⟩:=e; exact ⟨sv',ad',hw.pop⟩⟩) ?_
 rintro v h1 hf ⟨rfl,sv',ad',hw⟩
 exact hq h1 sv' ad' hf hw
theorem W_IList {d : Option Nat} {x y : Opd} {dd : Int} (hx : St.opd ⟨sl,own,h⟩ x = .ptr (.obj w) [] tWorld) (hy : St.opd ⟨sl,own,h⟩ y = .int .i64 dd) (hl : ∀ n,cx.prot.lets (.obj n) = true) (hls : ∀ x u,cx.lvl < x → cx.prot.lets (.stk x u) = true) (hW : WIn O h w sv ad T F) (hT : T.length ≤ 255)
  (hq : ∀ v h1,Fr h h1 [] → SlF h h1 v (sortS (namesT T dd T.length)) → WIn O h1 w sv ad T F → W tblE cx (.ops r kill :: k) (St.setd ⟨sl,own,h1⟩ d v) Q) :
  W tblE cx (.ops (⟨d,.call false [] 322 [x,y],none⟩ :: r) kill :: k) ⟨sl,own,h⟩ Q:=by
 refine W_callF (S:=[]) (R:=fun v h1=>SlF h h1 v (sortS (namesT T dd T.length))) rfl ⟨rfl,rfl⟩ (by
  simp only [List.map_cons,List.map_nil,hx,hy]
  refine (IListW_ok (h:=h.push cx.lvl own) (by exact hl) (by exact fun x u hx=>hls x u hx) hW.push hT).mono fun v h' hh=>?_
  exact ⟨hh.1,hh.2⟩) (fun v h1 e=>e) ?_
 rintro v h1 hf hs
 exact hq v h1 hf hs (hW.fr hf)
end
def bA : Str:=⟨#[97]⟩
def bB : Str:=⟨#[98]⟩
def bX : Str:=⟨#[120]⟩
def bs1 : SStep:=⟨1,0,0,0,bA,⟨#[]⟩,⟨#[]⟩⟩
def bs2 : SStep:=⟨2,0,1,0,bA,bB,⟨#[]⟩⟩
def bs3 : SStep:=⟨5,1,0,1,bB,⟨#[]⟩,bX⟩
def bs4 : SStep:=⟨3,0,0,0,bA,⟨#[]⟩,⟨#[]⟩⟩
def bT1 : List Tag:=[⟨0,bA,0⟩]
def bT2 : List Tag:=[⟨0,bA,0⟩,⟨1,bB,0⟩]
def bT4 : List Tag:=[⟨1,bB,0⟩]
def bF3 : List RFile:=[⟨false,true,⟨#[]⟩,bX⟩]
theorem bc1 : rdoC [] bs1 = 0:=by decide +kernel
theorem bt1 : rdoT [] [] bs1 = bT1:=by decide +kernel
theorem bf1 : rdoF [] [] bs1 = [RFile.zero]:=by unfold rdoF; rw [bc1]; rfl
theorem bc2 : rdoC bT1 bs2 = 0:=by decide +kernel
theorem bt2 : rdoT bT1 [RFile.zero] bs2 = bT2:=by decide +kernel
theorem bf2 : rdoF bT1 [RFile.zero] bs2 = [RFile.zero]:=by unfold rdoF; rw [bc2]; rfl
theorem bc3 : rdoC bT2 bs3 = 0:=by decide +kernel
theorem bt3 : rdoT bT2 [RFile.zero] bs3 = bT2:=by decide +kernel
theorem bf3 : rdoF bT2 [RFile.zero] bs3 = bF3:=by
 have e : rdoN bT2 bs3 = 0:=by decide +kernel
 unfold rdoF; rw [bc3,e]; rfl
theorem bc4 : rdoC bT2 bs4 = 0:=by decide +kernel
theorem bt4 : rdoT bT2 bF3 bs4 = bT4:=by
 have e : (atT bT2 bs4.dir bs4.name).toNat = 0:=by decide +kernel
 unfold rdoT; rw [bc4,e]; rfl
theorem bf4 : rdoF bT2 bF3 bs4 = bF3:=by unfold rdoF; rw [bc4]; rfl
theorem brc : rReadC bT4 1 bB 1 = 0:=by decide +kernel
theorem brf : rReadF bT4 bF3 1 bB = ⟨false,true,⟨#[]⟩,bX⟩:=by
 have e : (tagN bT4 (atT bT4 1 bB).toNat).file = 0:=by decide +kernel
 unfold rReadF; rw [e]; rfl
theorem brb : rReadB bT4 bF3 1 bB 1 = true:=by unfold rReadB; rw [brc,brf]; rfl
theorem brt : rReadT bT4 bF3 1 bB 1 = bX:=by unfold rReadT; rw [brc,brf]; rfl
theorem brs : rSameB bT4 1 bB 1 bB = true:=by decide +kernel
theorem brn : namesT bT4 0 1 = []:=by decide +kernel
theorem brz : stepFault ⟨0,0,0,0,⟨#[]⟩,⟨#[]⟩,⟨#[]⟩⟩ = 7:=by decide +kernel
theorem extW0 (t : Str) (b : Bool) (c : Int) : extV (encR t b c) 0 = some (.str t):=rfl
theorem extW1 (t : Str) (b : Bool) (c : Int) : extV (encR t b c) 1 = some (.bool b):=rfl
theorem extW2 (t : Str) (b : Bool) (c : Int) : extV (encR t b c) 2 = some (.int .i64 c):=rfl
section
variable {cx : Cx} {h : HP}
theorem fillS1 : fill tStep tStep.zero [(0,.int .i64 1),(4,.str ⟨#[97]⟩)] = some bs1.enc:=rfl
theorem fillS2 : fill tStep tStep.zero [(0,.int .i64 2),(4,.str ⟨#[97]⟩),(2,.int .i64 1),(5,.str ⟨#[98]⟩)] = some bs2.enc:=rfl
theorem fillS3 : fill tStep tStep.zero [(0,.int .i64 5),(1,.int .i64 1),(4,.str ⟨#[98]⟩),(3,.int .i64 1),(6,.str ⟨#[120]⟩)] = some bs3.enc:=rfl
theorem fillS4 : fill tStep tStep.zero [(0,.int .i64 3),(4,.str ⟨#[97]⟩)] = some bs4.enc:=rfl
theorem fillS0 : fill tStep tStep.zero [] = some (SStep.enc ⟨0,0,0,0,⟨#[]⟩,⟨#[]⟩,⟨#[]⟩⟩):=rfl
theorem idealBegun_ok (hl : ∀ n,cx.prot.lets (.obj n) = true) (hls : ∀ x u,cx.lvl ≤ x → cx.prot.lets (.stk x u) = true) : Ok tblE cx Fn.w_idealBegun (St.enter [] h) fun v h'=>FrW (fun n=>h.next ≤ n) h h' ∧ v = .bool true:=by
 have hO0 : OUp (fun n=>h.next ≤ n) h.next:=fun _ hm=>hm
 rw [Ok_eq]
 simp (maxSteps:=999999) (disch:=omega) only [go_sem]
 refine W_callh (v:=.ptr (.obj h.next) [] tWorld) (h.nw tWorld (encW .nilsl)) rfl ⟨rfl,rfl⟩ rfl (by simp only [go_sem]; exact INew_ok) ?_
 have hF0 : FrW (fun n=>h.next ≤ n) h (h.nw tWorld (encW .nilsl)):=FrW.nw hO0
 have hW0 : WIn (fun n=>h.next ≤ n) (h.nw tWorld (encW .nilsl)) h.next .nilsl (fun _=>0) [] []:=WIn.new (Nat.le_refl _)
 generalize h.nw tWorld (encW .nilsl) = h1 at hF0 hW0 ⊢
 generalize hw : h.next = w at hW0 ⊢
 rw [hw] at hF0 hO0 
 simp (maxSteps:=999999) (disch:=omega) only [go_sem,fillS1]
 refine W_IDo (X:=bs1) (by simp only [go_sem]) (by simp only [go_sem]) hl (hO0.le (by have:=hF0.next; omega)) hW0 (by simp) (by simp) ⟨by decide,by decide,by decide⟩ fun h2 sv2 ad2 hF1 hW1=>?_
 rw [bc1]
 rw [bt1,bf1] at hW1
 replace hF1:=hF0.trans hF1
 simp (maxSteps:=999999) (disch:=omega) only [go_sem,fillS2]
 refine W_IDo (X:=bs2) (by simp only [go_sem]) (by simp only [go_sem]) hl (hO0.le (by have:=hF1.next; omega)) hW1 (by decide) (by decide) ⟨by decide,by decide,by decide⟩ fun h3 sv3 ad3 hF2 hW2=>?_
 rw [bc2]
 rw [bt2,bf2] at hW2
 replace hF2:=hF1.trans hF2
 simp (maxSteps:=999999) (disch:=omega) only [go_sem,fillS3]
 refine W_IDo (X:=bs3) (by simp only [go_sem]) (by simp only [go_sem]) hl (hO0.le (by have:=hF2.next; omega)) hW2 (by decide) (by decide) ⟨by decide,by decide,by decide⟩ fun h4 sv4 ad4 hF3 hW3=>?_
 rw [bc3]
 rw [bt3,bf3] at hW3
 replace hF3:=hF2.trans hF3
 simp (maxSteps:=999999) (disch:=omega) only [go_sem,fillS4]
 refine W_IDo (X:=bs4) (by simp only [go_sem]) (by simp only [go_sem]) hl (hO0.le (by have:=hF3.next; omega)) hW3 (by decide) (by decide) ⟨by decide,by decide,by decide⟩ fun h5 sv5 ad5 hF4 hW4=>?_
 rw [bc4]
 rw [bt4,bf4] at hW4
 replace hF4:=hF3.trans hF4
 simp (maxSteps:=999999) (disch:=omega) only [go_sem]
 refine W_callp rfl ⟨rfl,rfl⟩ (by simp only [go_sem]; exact IRead_ok (O:=fun n=>w ≤ n) (sv:=sv5) (ad:=ad5) (T:=bT4) (F:=bF3) (d:=1) (p':=1) (s:=bB) hW4.push (by decide) (by decide)) ?_
 rw [brc,brb,brt]
 have hbx : decide (bX = (⟨#[120]⟩ : Str)) = true:=by decide +kernel
 simp (maxSteps:=999999) (disch:=omega) only [go_sem,extW0,extW1,extW2,hbx]
 refine W_callp rfl ⟨rfl,rfl⟩ (by simp only [go_sem]; exact ISame_ok (O:=fun n=>w ≤ n) (sv:=sv5) (ad:=ad5) (T:=bT4) (F:=bF3) (d:=1) (e:=1) (s:=bB) (t:=bB) hW4.push (by decide)) ?_
 rw [brs]
 simp (maxSteps:=999999) (disch:=omega) only [go_sem]
 refine W_IList (dd:=0) (by simp only [go_sem]) (by simp only [go_sem]) hl (fun x u hx=>hls x u (Nat.le_of_lt hx)) hW4 (by decide) fun v h6 hf hs hW5=>?_
 have e0 : sortS (namesT bT4 0 bT4.length) = []:=by rw [show bT4.length = 1 from rfl,brn]; simp [sortS]
 rw [e0] at hs
 have hlv : lenV false v = some (.int .i64 0):=hs.lenW
 have hvn:=hs.vnW
 simp (maxSteps:=999999) (disch:=omega) only [go_sem,hlv,hvn,fillS0]
 refine W_callp rfl ⟨rfl,rfl⟩ (by simp only [go_sem]; exact ICheck_ok (x:=⟨0,0,0,0,⟨#[]⟩,⟨#[]⟩,⟨#[]⟩⟩) (by decide) (by decide) (by decide)) ?_
 rw [brz]
 simp (maxSteps:=999999) (disch:=omega) only [go_sem]
 exact hF4.trans ⟨hf.stk,hf.arg,hf.next,fun n hn=>hf.same n (by have:=hF4.next; simp at hn; omega) (by simp)⟩
end
end Go.Mini
