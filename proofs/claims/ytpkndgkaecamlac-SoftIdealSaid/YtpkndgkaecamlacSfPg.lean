/- A part of the proof: what Sf computes, step by step. -/
import Derived.Test.YtpkndgkaecamlacSfPf

set_option linter.unusedSimpArgs false
set_option linter.unusedVariables false
set_option maxHeartbeats 4000000
set_option maxRecDepth 100000
namespace Go.Mini
def insK (s : Str) (l : List Str) : Nat:=(l.takeWhile fun x=>sLt x s).length
def insS (s : Str) (l : List Str) : List Str:=(l.take (insK s l) ++ [s]) ++ l.drop (insK s l)
def namesT (l : List Tag) (d : Int) : Nat → List Str
 | 0=>[]
 | k + 1=>if (tagN l k).dir = d then namesT l d k ++ [(tagN l k).name] else namesT l d k
def listD (l : List Tag) (d : Int) : Nat → List Str
 | 0=>[]
 | k + 1=>if (tagN l k).dir = d then insS (tagN l k).name (listD l d k) else listD l d k
theorem insK_at {s : Str} : ∀ {l : List Str} {k : Nat},k ≤ l.length → (∀ j,j < k → sLt (txt l j) s = true) → (k = l.length ∨ sLt (txt l k) s = false) → insK s l = k
 | [],k,hk,_,_=>by simp at hk; simp [insK,hk]
 | a :: l,0,_,_,h=>by
  have : sLt a s = false:=by
   rcases h with h | h
   ·simp at h
   ·simpa [txt] using h
  simp [insK,this]
 | a :: l,k + 1,hk,hp,h=>by
  have h0 : sLt a s = true:=by simpa [txt] using hp 0 (by omega)
  have ih:=insK_at (s:=s) (l:=l) (k:=k) (by simpa using hk) (fun j hj=>by simpa [txt] using hp (j + 1) (by omega)) (by
   rcases h with h | h
   ·exact .inl (by simpa using h)
   ·exact .inr (by simpa [txt] using h))
  simp only [insK,List.takeWhile_cons,h0,if_true,List.length_cons]
  simp only [insK] at ih
  rw [ih]
theorem insS_perm (s : Str) (l : List Str) : (insS s l).Perm (s :: l):=by
 unfold insS
 rw [List.append_assoc]
 refine List.perm_middle.trans ?_
 simp
theorem insS_sorted {s : Str} : ∀ {l : List Str},Sorted l → Sorted (insS s l)
 | [],_=>by simp [insS,insK,Sorted]
 | a :: l,h=>by
  obtain ⟨h1,h2⟩:=List.pairwise_cons.1 h
  by_cases c : sLt a s = true
  ·have e : insS s (a :: l) = a :: insS s l:=by
    simp [insS,insK,List.takeWhile_cons,c]
   rw [e]
   refine List.pairwise_cons.2 ⟨fun b hb=>?_,insS_sorted h2⟩
   rcases List.mem_cons.1 ((insS_perm s l).mem_iff.1 hb) with rfl | hb
   ·exact sLe_of_lt c
   ·exact h1 b hb
  ·have e : insS s (a :: l) = s :: a :: l:=by
    simp [insS,insK,List.takeWhile_cons,c]
   rw [e]
   have hsa : sLe s a = true:=by
    have : sLt a s = false:=by simpa using c
    simp [sLe,this]
   refine List.pairwise_cons.2 ⟨fun b hb=>?_,h⟩
   rcases List.mem_cons.1 hb with rfl | hb
   ·exact hsa
   ·exact sLe_trans hsa (h1 b hb)
theorem listD_ok (l : List Tag) (d : Int) : ∀ k,Sorted (listD l d k) ∧ (listD l d k).Perm (namesT l d k)
 | 0=>⟨List.Pairwise.nil,List.Perm.refl _⟩
 | k + 1=>by
  obtain ⟨h1,h2⟩:=listD_ok l d k
  unfold listD namesT
  split
  ·refine ⟨insS_sorted h1,(insS_perm _ _).trans ?_⟩
   exact ((h2.cons _).trans (List.perm_append_singleton _ _).symm)
  ·exact ⟨h1,h2⟩
theorem listD_sort (l : List Tag) (d : Int) (k : Nat) : listD l d k = sortS (namesT l d k):=by
 obtain ⟨h1,h2⟩:=listD_ok l d k
 exact sortS_eq h2 h1
theorem namesT_len (l : List Tag) (d : Int) : ∀ k,(namesT l d k).length ≤ k
 | 0=>Nat.le_refl _
 | k + 1=>by
  have:=namesT_len l d k
  unfold namesT
  split
  ·simp; omega
  ·omega
theorem listD_len (l : List Tag) (d : Int) (k : Nat) : (listD l d k).length ≤ k:=by
 rw [(listD_ok l d k).2.length_eq]; exact namesT_len l d k
theorem SlG.safe {t : Ty} {h0 h : HP} {v : AV} {l : List AV} (a : SlG t h0 h v l) : v.safe = true:=by
 rcases a with ⟨rfl,_⟩ | ⟨q,rfl,_⟩ <;> rfl
theorem SlG.slf {h0 h : HP} {v : AV} {l : List Str} (a : SlG tS h0 h v (l.map .str)) : SlF h0 h v l:=by
 rcases a with ⟨rfl,e⟩ | ⟨q,rfl,h1,h2,h3,_⟩
 ·exact .inl ⟨rfl,by simpa using e⟩
 ·rw [List.length_map] at *
  exact .inr ⟨q,rfl,h1,h2,h3⟩
theorem fits_strs (l : List Str) : ∀ a ∈ l.map AV.str,tS.fits a = true:=fun a ha=>by
 obtain ⟨x,_,rfl⟩:=List.mem_map.1 ha; rfl
section
variable {cx : Cx} {h : HP} {p : Id} {v1 v2 : AV} {l : List Tag}
theorem IList_ok {d : Int} (hl : ∀ n,cx.prot.lets (.obj n) = true) (hb : p.below cx.lvl) (hm : h.rd p [0] = some v1) (hpn : ∀ n,p = .obj n → n < h.next) (hS : SlR tTag h v1 (l.map Tag.enc)) (hqn : ∀ q,v1.into (.obj q) = true → q < h.next) (hn : l.length ≤ 1000000) :
  Ok tblE cx Fn.r_Ideal_List (St.enter [.ptr p [] tRIdeal,.int .i64 d] h) fun v h'=>Fr h h' [] ∧ SlF h h' v (sortS (namesT l d l.length)):=by
 have hlen:=hS.len
 have hfit:=hS.fits
 rw [List.length_map] at hlen
 rw [Ok_eq]
 simp (maxSteps:=999999) (disch:=omega) only [go_sem]
 refine W_forE (α:=AV × HP) l.length (fun i q=>⟨[(0,.ptr p [] tRIdeal),(1,.int .i64 d),(5,q.1),(6,.int .i64 i)],[],q.2⟩) (fun i q=>Fr h q.2 [] ∧ SlG tS h q.2 q.1 ((listD l d i).map .str)) (.nilsl,h) (by simp only [go_sem] <;> rfl) ⟨Fr.refl _ _,.inl ⟨rfl,rfl⟩⟩ fun i q hi hq ih=>?_
 obtain ⟨ov,H⟩:=q
 obtain ⟨hF,hO⟩:=hq
 dsimp only at hF hO ⊢
 have hmH : H.rd p [0] = some v1:=by
  cases p with
  | stk a b=>simp only [HP.rd,HP.look,hF.stk] at hm ⊢; exact hm
  | arg a=>simp only [HP.rd,HP.look,hF.arg] at hm ⊢; exact hm
  | obj a=>simp only [HP.rd,HP.look] at hm ⊢; rw [hF.same a (hpn a rfl) (by simp)]; exact hm
 by_cases hlt : i < l.length
 ·rcases hS with ⟨_,e'⟩ | ⟨q,rfl,hq⟩
  ·have : l = []:=by simpa using e'
   rw [this] at hlt; simp at hlt
  have hqH : H.look (.obj q) = some ⟨.arr (l.map Tag.enc).length tTag,.ofList (l.map Tag.enc)⟩:=hF.look (hqn q (by simp [AV.into])) (by simp) hq
  rw [List.length_map] at hqH hlen hfit hmH
  have hofg:=hO.fg
  have hold:=hO.ld
  by_cases cd : (tagN l i).dir = d
  rotate_left
  ·simp (maxSteps:=999999) (disch:=omega) only [go_sem,hlt,hlen,hfit,rd_ext hb,hmH,fg_ptr hb,leads_ptr hb,apart_ptr hb,hqH,cd,hofg]
   refine ih _ (ov,H) hlt ?_ ⟨hF,?_⟩
   ·simp only [go_sem]
   ·unfold listD; rw [if_neg cd]; exact hO
  simp (maxSteps:=999999) (disch:=omega) only [go_sem,hlt,hlen,hfit,rd_ext hb,hmH,fg_ptr hb,leads_ptr hb,apart_ptr hb,hqH,cd,hofg]
  have hLn:=listD_len l d i
  generalize hL : listD l d i = L at hO hLn
  have hOlen:=hO.len
  rw [List.length_map] at hOlen
  refine W_forP L.length (fun k=>⟨[(0,.ptr p [] tRIdeal),(1,.int .i64 d),(5,ov),(6,.int .i64 i),(7,.str (tagN l i).name),(8,.nilsl),(9,.int .i64 k)],[],H⟩) (fun k=>∀ j,j < k → sLt (txt L j) (tagN l i).name = true) (by simp only [go_sem] <;> rfl) (fun j hj=>by omega) fun k hk hp ih2=>?_
  by_cases hlk : k < L.length
  ·have hO':=hO
   rcases hO' with ⟨_,e0⟩ | ⟨q',rfl,hq1,hq2,hq3,_⟩
   ·have : L = []:=by simpa using e0
    rw [this] at hlk; simp at hlk
   rw [List.length_map] at hq3 hofg hold hOlen hO
   have hq4 : H.look (.obj q') = some ⟨.arr L.length tS,encS L⟩:=hq3
   cases cs : sLt (txt L k) (tagN l i).name with
   | true =>
    simp (maxSteps:=999999) (disch:=omega) only [go_sem,hlk,hOlen,hq4,cs,List.length_map,leads_ptr hb,fg_ptr hb]
    refine ih2 _ hlk (fun j hj=>?_) ?_
    ·by_cases hjk : j = k
     ·subst hjk; exact cs
     ·exact hp j (by omega)
    ·simp only [go_sem,List.length_map]
   | false =>
    simp (maxSteps:=999999) (disch:=omega) only [go_sem,hlk,hOlen,hq4,cs,List.length_map,leads_ptr hb,fg_ptr hb]
    generalize hov : AV.sl (.obj q') 0 L.length = ov at *
    have hik : insK (tagN l i).name L = k:=insK_at (by omega) hp (.inr cs)
    have hk1 : k ≤ L.length:=by omega
    refine W_slc (h0:=h) (v:=ov) (l:=L.map .str) (a:=0) (b:=k) (by simp only [go_sem]) hO (.inl ⟨rfl,rfl⟩) (.inr ⟨_,.i64,rfl,by simp only [go_sem]⟩) (by omega) (by simp; omega) (.inl rfl) fun v54 _ hfg54 hel54=>?_
    simp (maxSteps:=999999) (disch:=omega) only [go_sem]
    refine W_app (h0:=H) (v:=.nilsl) (l:=[]) (by simp only [go_sem]) (fun n=>hl n) (Nat.le_refl _) (.inl ⟨rfl,rfl⟩) (add:=((L.take k).map .str)) (by simp only [go_sem]; rw [hel54]; simp [List.map_take]) (fun _ h=>by simp at h) (fits_strs _) (by simp; omega) (fun e=>by simp [apOk,AV.isNilsl]) fun v55 H1 hS1 hof1=>?_
    have hfg55:=hS1.fg
    have hO1 : SlG tS h H1 ov (L.map .str):=hO.same hof1 (fun n _=>rfl)
    have hne1 : ∀ n,ov.into (.obj n) = true → v55.into (.obj n) = false:=fun n hn=>by
     refine hS1.into n ?_
     rcases hO with ⟨rfl,_⟩ | ⟨q,rfl,_,hq2,_⟩
     ·simp [AV.into] at hn
     ·simp [AV.into] at hn; omega
    simp (maxSteps:=999999) (disch:=omega) only [go_sem,hfg54,hfg55,hofg,leads_ptr hb,fg_ptr hb]
    refine W_app (h0:=H) (v:=v55) (l:=[] ++ (L.take k).map .str) (by simp only [go_sem]) (fun n=>hl n) hof1.next hS1 (add:=[.str (tagN l i).name]) (by simp only [go_sem]) (fun a h=>by rw [List.nil_append] at h; exact fits_strs _ a h) (fun a h=>by simp at h; subst h; rfl) (by simp; omega) (fun e=>?_) fun v58 H2 hS2 hof2=>?_
    ·simp only [List.all_cons,List.all_nil,Bool.and_true,apOk,go_sem]
     rcases hO1 with ⟨rfl,e0⟩ | ⟨q,rfl,_,_,_,_⟩
     ·have : L = []:=by simpa using e0
      have hk0 : k = 0:=by rw [this] at hk1; simpa using hk1
      rw [hk0] at hS1
      rcases hS1 with ⟨rfl,_⟩ | ⟨q,rfl,_,_,_,hne⟩
      ·rfl
      ·simp at hne
     ·rcases hS1 with ⟨rfl,_⟩ | ⟨q',rfl,_,_,_,_⟩
      ·rfl
      ·have:=hne1 q (by simp [AV.into])
       simp [AV.into] at this
       simp [AV.apart]
       exact fun e=>this e.symm
    have hfg58:=hS2.fg
    have hO2 : SlG tS h H2 ov (L.map .str):=hO1.same hof2 hne1
    simp (maxSteps:=999999) (disch:=omega) only [go_sem,hfg54,hfg55,hfg58,hofg,leads_ptr hb,fg_ptr hb]
    refine W_slc (h0:=h) (v:=ov) (l:=L.map .str) (a:=k) (b:=L.length) (by simp only [go_sem]) hO2 (.inr ⟨_,.i64,rfl,by simp only [go_sem]⟩) (.inl ⟨rfl,by simp⟩) (by omega) (by simp) (.inr ⟨5,rfl,by omega,by simp only [go_sem]⟩) fun v61 _ hfg61 hel61=>?_
    refine W_app (h0:=H) (v:=v58) (l:=([] ++ (L.take k).map .str) ++ [.str (tagN l i).name]) (by simp only [go_sem]) (fun n=>hl n) (Nat.le_trans hof1.next hof2.next) hS2 (add:=(L.drop k).map .str) (by simp only [go_sem]; rw [hel61]; simp [List.map_drop,List.take_of_length_le]) (fun a h=>fits_strs (L.take k ++ [(tagN l i).name]) a (by simpa using h)) (fits_strs _) (by simp; omega) (fun e=>by rfl) fun v62 H3 hS3 hof3=>?_
    have hfg62:=hS3.fg
    simp (maxSteps:=999999) (disch:=omega) only [go_sem,hfg62]
    refine ih _ (v62,H3) hlt ?_ ⟨?_,?_⟩
    ·simp only [go_sem]
    ·have f1:=Off.fr hF hof1 (fun n _=>rfl)
     have f2:=Off.fr f1 hof2 (fun n hn=>hS1.into n (Nat.lt_of_lt_of_le hn hF.next))
     exact Off.fr f2 hof3 (fun n hn=>hS2.into n (Nat.lt_of_lt_of_le hn hF.next))
    ·have e1 : (listD l d (i + 1)).map AV.str = (([] ++ (L.take k).map .str) ++ [.str (tagN l i).name]) ++ (L.drop k).map .str:=by
      rw [show listD l d (i + 1) = insS (tagN l i).name L by rw [← hL]; exact if_pos cd]
      simp only [insS,hik,List.map_append,List.nil_append,List.map_cons,List.map_nil]
     rw [e1]
     exact hS3.mono hF.next
  ·obtain rfl : k = L.length:=by omega
   simp (maxSteps:=999999) (disch:=omega) only [go_sem,hOlen,hofg,hold,leads_ptr hb,fg_ptr hb]
   generalize hkk : L.length = k at hp hlk
   have hik : insK (tagN l i).name L = k:=insK_at (by omega) hp (.inl hkk.symm)
   have hk1 : k ≤ L.length:=by omega
   refine W_slc (h0:=h) (v:=ov) (l:=L.map .str) (a:=0) (b:=k) (by simp only [go_sem]) hO (.inl ⟨rfl,rfl⟩) (.inr ⟨_,.i64,rfl,by simp only [go_sem]⟩) (by omega) (by simp; omega) (.inl rfl) fun v54 _ hfg54 hel54=>?_
   simp (maxSteps:=999999) (disch:=omega) only [go_sem]
   refine W_app (h0:=H) (v:=.nilsl) (l:=[]) (by simp only [go_sem]) (fun n=>hl n) (Nat.le_refl _) (.inl ⟨rfl,rfl⟩) (add:=((L.take k).map .str)) (by simp only [go_sem]; rw [hel54]; simp [List.map_take]) (fun _ h=>by simp at h) (fits_strs _) (by simp; omega) (fun e=>by simp [apOk,AV.isNilsl]) fun v55 H1 hS1 hof1=>?_
   have hfg55:=hS1.fg
   have hO1 : SlG tS h H1 ov (L.map .str):=hO.same hof1 (fun n _=>rfl)
   have hne1 : ∀ n,ov.into (.obj n) = true → v55.into (.obj n) = false:=fun n hn=>by
    refine hS1.into n ?_
    rcases hO with ⟨rfl,_⟩ | ⟨q,rfl,_,hq2,_⟩
    ·simp [AV.into] at hn
    ·simp [AV.into] at hn; omega
   simp (maxSteps:=999999) (disch:=omega) only [go_sem,hfg54,hfg55,hofg,leads_ptr hb,fg_ptr hb]
   refine W_app (h0:=H) (v:=v55) (l:=[] ++ (L.take k).map .str) (by simp only [go_sem]) (fun n=>hl n) hof1.next hS1 (add:=[.str (tagN l i).name]) (by simp only [go_sem]) (fun a h=>by rw [List.nil_append] at h; exact fits_strs _ a h) (fun a h=>by simp at h; subst h; rfl) (by simp; omega) (fun e=>?_) fun v58 H2 hS2 hof2=>?_
   ·simp only [List.all_cons,List.all_nil,Bool.and_true,apOk,go_sem]
    rcases hO1 with ⟨rfl,e0⟩ | ⟨q,rfl,_,_,_,_⟩
    ·have : L = []:=by simpa using e0
     have hk0 : k = 0:=by rw [this] at hk1; simpa using hk1
     rw [hk0] at hS1
     rcases hS1 with ⟨rfl,_⟩ | ⟨q,rfl,_,_,_,hne⟩
     ·rfl
     ·simp at hne
    ·rcases hS1 with ⟨rfl,_⟩ | ⟨q',rfl,_,_,_,_⟩
     ·rfl
     ·have:=hne1 q (by simp [AV.into])
      simp [AV.into] at this
      simp [AV.apart]
      exact fun e=>this e.symm
   have hfg58:=hS2.fg
   have hO2 : SlG tS h H2 ov (L.map .str):=hO1.same hof2 hne1
   simp (maxSteps:=999999) (disch:=omega) only [go_sem,hfg54,hfg55,hfg58,hofg,leads_ptr hb,fg_ptr hb]
   refine W_slc (h0:=h) (v:=ov) (l:=L.map .str) (a:=k) (b:=L.length) (by simp only [go_sem]) hO2 (.inr ⟨_,.i64,rfl,by simp only [go_sem]⟩) (.inl ⟨rfl,by simp⟩) (by omega) (by simp) (.inr ⟨5,rfl,by omega,by simp only [go_sem]⟩) fun v61 _ hfg61 hel61=>?_
   refine W_app (h0:=H) (v:=v58) (l:=([] ++ (L.take k).map .str) ++ [.str (tagN l i).name]) (by simp only [go_sem]) (fun n=>hl n) (Nat.le_trans hof1.next hof2.next) hS2 (add:=(L.drop k).map .str) (by simp only [go_sem]; rw [hel61]; simp [List.map_drop,List.take_of_length_le]) (fun a h=>fits_strs (L.take k ++ [(tagN l i).name]) a (by simpa using h)) (fits_strs _) (by simp; omega) (fun e=>by rfl) fun v62 H3 hS3 hof3=>?_
   have hfg62:=hS3.fg
   simp (maxSteps:=999999) (disch:=omega) only [go_sem,hfg62]
   refine ih _ (v62,H3) hlt ?_ ⟨?_,?_⟩
   ·simp only [go_sem]
   ·have f1:=Off.fr hF hof1 (fun n _=>rfl)
    have f2:=Off.fr f1 hof2 (fun n hn=>hS1.into n (Nat.lt_of_lt_of_le hn hF.next))
    exact Off.fr f2 hof3 (fun n hn=>hS2.into n (Nat.lt_of_lt_of_le hn hF.next))
   ·have e1 : (listD l d (i + 1)).map AV.str = (([] ++ (L.take k).map .str) ++ [.str (tagN l i).name]) ++ (L.drop k).map .str:=by
     rw [show listD l d (i + 1) = insS (tagN l i).name L by rw [← hL]; exact if_pos cd]
     simp only [insS,hik,List.map_append,List.nil_append,List.map_cons,List.map_nil]
    rw [e1]
    exact hS3.mono hF.next
 ·obtain rfl : i = l.length:=by omega
  simp (maxSteps:=999999) (disch:=omega) only [go_sem,hlen,hfit,rd_ext hb,hmH,fg_ptr hb,leads_ptr hb,apart_ptr hb,hO.fg,hO.safe]
  exact ⟨hF,by rw [← listD_sort]; exact hO.slf⟩
end
section
variable {T : Nat → Option MFun} {cx : Cx} {k : List Item} {kill : List Nat} {r : List MOp} {sl : Slots} {own : Own} {h h0 : HP} {Q : St → Prop} {t : Ty}
theorem fill1G {v : AV} (hf : t.fits v = true) : fill (.arr 1 t) (Ty.arr 1 t).zero [(0,v)] = some (.ofList [v]):=by
 simp only [fill,Ty.part,Nat.lt_one_iff,if_true,hf,Ty.zero,AV.put,Nat.zero_lt_one,dite_true,put_nil,Option.map_some,AV.ofList]
 congr 2
 funext j
 match j with
 | ⟨0,_⟩=>rfl
theorem W_bsliceG {d : Nat} {x : Opd} {v : AV} (hx : St.opd ⟨sl,own,h⟩ x = v) (hf : t.fits v = true) (hq : W T cx (.ops r kill :: k) ⟨(Slots.forget sl (.stk cx.lvl d)).set d (.sl (.stk cx.lvl d) 0 1),own.set d ⟨.arr 1 t,.ofList [v]⟩,h⟩ Q) :
  W T cx (.ops (⟨some d,.bslice false t 1 [(0,x)],none⟩ :: r) kill :: k) ⟨sl,own,h⟩ Q:=by
 rw [W_op rfl,evOp]
 simp only [evK,List.map_cons,List.map_nil,hx,fill1G hf,Option.map_some,applyEff]
 exact hq
theorem elems_one {L : Id → Option Blk} {j : Id} {v : AV} (hl : L j = some ⟨.arr 1 t,.ofList [v]⟩) : elems L t (.sl j 0 1) = some [v]:=by
 simp [elems,hl,toList_ofList]
end
def encRI (a b : AV) : AV:=.cons a (.cons b .unit)
@[go_sem] theorem at_RI0 (a b : AV) : (encRI a b).at [0] = some a:=by simp [encRI,AV.at]
@[go_sem] theorem at_RI1 (a b : AV) : (encRI a b).at [1] = some b:=by simp [encRI,AV.at]
@[go_sem] theorem put_RI0 (a b x : AV) : (encRI a b).put [0] x = some (encRI x b):=by simp [encRI,AV.put]
@[go_sem] theorem put_RI1 (a b x : AV) : (encRI a b).put [1] x = some (encRI a x):=by simp [encRI,AV.put]
@[go_sem] theorem zero_RI : tRIdeal.zero = encRI .nilsl .nilsl:=rfl
@[go_sem] theorem fits_RI0 : (tRIdeal.fits (encRI .nilsl .nilsl) = true) = True:=eq_true rfl
@[go_sem] theorem safe_nil : (AV.nilsl.safe = true) = True:=eq_true rfl
@[go_sem] theorem fill_tag (d : Int) (s : Str) (n : Nat) : fill tTag tTag.zero [(0,.int .i64 d),(1,.str s),(2,.int .i64 (n : Int))] = some (Tag.enc ⟨d,s,n⟩):=rfl
@[go_sem] theorem fill_tagZ (d : Int) (s : Str) : fill tTag tTag.zero [(0,.int .i64 d),(1,.str s),(2,.int .i64 0)] = some (Tag.enc ⟨d,s,0⟩):=rfl
@[go_sem] theorem fill_RI : fill tRIdeal tRIdeal.zero [] = some (encRI .nilsl .nilsl):=rfl
end Go.Mini
