/- The table of the statement's functions is the program's; some functions have contracts of their own. -/
import Derived.Test.YtpkndgkaecamlaaGreatDoorRows
import Derived.Test.YtpkndgkaecamlaaGreatDoorTie
import Derived.Test.YtpkndgkaecamlaaGreatDoorDdC

set_option linter.unusedSectionVars false
set_option linter.unnecessarySimpa false
set_option linter.unusedVariables false
set_option linter.unusedSimpArgs false
namespace Go.Proofs.YtpkndgkaecamlaaGreatDoor.Base
set_option linter.unusedVariables false
set_option maxRecDepth 100000
open Go.Mini Go.ChangeShapes Go.WideShapes Go.ChangeAt Go.RowKit
def phiL:List (Option FuncId):=[some 168,some 194,some 136,some 184,some 137,some 185,some 62,some 86,some 158,some 104,none,none,some 139,some 64,some 173,some 123,some 160,some 140,some 161,some 82,some 90,some 138,some 159,none,none,none,some 121,some 106,none,none,some 26,some 186,some 169,some 124,some 92,some 172,some 171,some 170,some 188,some 195,none,none,none,none,none,none,none,none,none,none,none,none,none,none,none,none,none,none,none,none,none,none,none,none,none,none,none,none,none,none,none,none,none,none,none,none,none,none,none,none,none,none,none,none,none,none,none,none,none,none,none,none,none,none,none,none,none,none,none,none,none,none,none,none,none,none,none,none,none,none,none,none,none,none,none,none,none,none,none,none,none,none,none,none,none,none,none,none,none,none,none,none,none,none,none,none,none,none,none,none,none,none,none,none,none,none,none,none,none,none,none,none,none,none,none,none,none,none,none,none,none,none,none,none,none,none,none,none,none,none,none,none,none,none,none,none,none,none,none,none,none,none,none,none,none,none,none,none,none,none,none,none,none,none,none,none,none,none,none,none,none,some 73,some 120,some 41,some 44,some 143,some 162,some 174,some 187,some 145,some 165,some 105,some 72,some 119,some 141,none,some 108,some 89,none,none,none,none,none,some 91,none,none,none,none,none,none,none,some 63,some 142,none,none,none,some 78,none,none,none,some 115,some 114,some 80,some 116,some 154,some 153,some 152,some 151,some 150,some 149,some 148,some 147,some 156,some 155,some 179,some 181,some 180,some 183,some 182,some 193,none,none,none,none,none,none,some 39,none,some 40,none,none,some 77,some 37,some 58,none,some 75,some 25,none,some 107,some 12,none,some 34,some 88,some 46,some 45,some 11,none,none,some 122,some 79,some 110,some 111,some 112,some 109,some 74,some 164,some 163,some 144,none,none,none,none,none,none,none,none,none,none,none,none,some 59,some 60,some 55,none,none,none,none,none,none,none,none,none,none,none,none,none,none,none,none,none,none,none,none,none,none,none,none,none,none,none,some 43,some 61,some 71,some 57,some 54,some 33,none,some 56,some 70,some 69,some 76,some 102,some 133,none,none,none,none,none,none,none,none,none,none,none,none,none,none,none,none,none,none,none,none,none,none,none,none,none,none,none,none,none,none,none,none,none,none,none,none,none,none,none,none,none,none,none,none,none,none,none,some 6,some 8,some 5,some 4,some 22,some 19,some 21,some 20,some 18,some 16,some 15,some 17,some 14,some 13,some 35,some 28,some 47,some 42,some 32,some 31,some 30,some 36,some 38,some 83,some 68,some 81,none,none,none,none,some 10,some 9,some 7,some 23,some 24,some 53,some 52,some 51,some 50,some 49,some 48,some 3]
def phi(f:Nat):Option FuncId:=phiL.getD f none
theorem mixed:Tryz.prog.follows .mixedOrders=true:=by kernel_rfl
theorem own:ownKnob Tryz.prog.godebug=none:=by kernel_rfl
theorem laidOut:laidOutB Tryz.prog=true:=by kernel_rfl

noncomputable def tblS(f:Nat):Option MFun:=if f=342 then some Fn.bX else none
def phiS(f:Nat):Option FuncId:=if f=342 then some 71 else none
theorem matchS:l6 Tryz.prog phiS drawOk 71 Fn.bX=true:=by kernel_rfl
theorem tblOkS(X:Fix):@TblOk X Tryz.prog tblS phiS drawOk:=by
  intro f fn F h1 h2
  unfold tblS at h1
  unfold phiS at h2
  split at h1<;>simp only[Option.some.injEq,reduceCtorEq]at h1
  rename_i hf
  rw[if_pos hf]at h2
  simp only[Option.some.injEq]at h2
  subst h1 h2
  exact .inl matchS
theorem showRaw(s:ByteArray)(w:World)(hs:s.size<=10000):Calls Tryz.prog 71 #[.string s] w fun e w'=>e=.returned (.string ⟨(bS s.data.toList).toArray⟩)/\Below w.heap.size w w':=by
  obtain⟨n,s',v,hr,hv,hR⟩:=uE (T:=tblS) (cx:=⟨0,⟨0,0⟩⟩) (h:=HP.empty) (s:=s) (fun n _=>by simp[Prot.lets]) (by omega)
  have hrun:pr tblS n 342 [.str s] HP.empty=some (v,s'.hp):=by
    simp only[pr,tblS,if_true,hr,hv,Option.map_some]
  have:=DP (P:=Tryz.prog) (T:=tblS) (φ:=phiS) (F:=71) (f:=342) (rargs:=[.string s]) tblOkS mixed rfl rfl rfl hrun rfl (All2.cons (VR_of_VR1 (by simp[VR1,AV.isAgg,LR,AV.rel])) All2.nil) w
  refine this.mono fun e w' h=>?_
  obtain⟨⟨x,β',rfl,hx⟩,hb⟩:=h
  letI:Tk:=(fixAt Tryz.prog w).toTk
  rw[hR.1]at hx
  rw[gi hx]
  exact⟨rfl,hb⟩

def Cond(W:World):Prop:=tabN W/\(∃tp p,W.cell? ⟨3,0,none⟩=some (.iface tp p))/\(∃tp p,W.cell? ⟨4,0,none⟩=some (.iface tp p))/\∃m,W.cell? ⟨0,0,none⟩=some (.int .i64 m)
theorem tab_fix{W w:World}{O:Nat->Prop}(h:tabN W)(hI:@Fix.I (fixAt Tryz.prog W) O w):tabN w:=by
  unfold tabN Lib.TabIs World.var? at *
  cases hg:Tryz.prog.globalNamed "internal/strconv.uint64pow10" with
  |none=>simp[hg]at h
  |some g=>
    simp only[hg,Option.bind_some]at h⊢
    have hlt:g<W.heap.size:=by
      rcases Nat.lt_or_ge g W.heap.size with h'|h'
      ·exact h'
      ·rw[Array.getElem?_eq_none h']at h;simp at h
    rw[(hI g hlt).2.2]
    exact h
theorem cell_fix{W w:World}{O:Nat->Prop}{g:Nat}{v:Value}(h:W.cell? ⟨g,0,none⟩=some v)(hI:@Fix.I (fixAt Tryz.prog W) O w):w.cell? ⟨g,0,none⟩=some v:=by
  have hlt:g<W.heap.size:=Lib.lt_of_cell h
  have e:=(hI g hlt).2.2
  unfold World.cell? at *
  simp only at h⊢
  rw[e]
  exact h
theorem itoaX(W:World)(hC:Cond W):@gh (fixAt Tryz.prog W) Tryz.prog gI phi 76 Fn.db:=by
  letI:Fix:=fixAt Tryz.prog W
  refine LP ⟨_,_,Tryz.func76,rfl,by kernel_rfl⟩ fun O w hI n hn=>?_
  refine(Any.strconv_Itoa Tryz.laysM171 n hn.1 hn.2 w (tab_fix hC.1 hI)).mono ?_
  rintro e w' ⟨rfl,k,os,rfl⟩
  exact⟨rfl,Lib.below_grow _ _ (Nat.le_refl _) _ _⟩
theorem puX(W:World)(hC:Cond W):@gh (fixAt Tryz.prog W) Tryz.prog gI phi 70 Fn.cu:=by
  letI:Fix:=fixAt Tryz.prog W
  refine PuX ⟨_,_,Tryz.func70,rfl,by kernel_rfl⟩ fun O w hI t ht=>?_
  obtain⟨tp,p,hp⟩:=hC.2.1
  have h:=puP Tryz.laysPu14 t ht (.iface tp p) w (cell_fix hp hI) (.inr ⟨tp,p,rfl⟩)
  have e:ee 0 t.data.toList=hex2 t:=by
    match hd:t.data.toList,(by rw[←Lib.size_eq,ht]:t.data.toList.length=2)with
    | [x,y],_=>
      rw[xD]
      have:t=⟨#[x,y]⟩:=by apply ByteArray.ext;apply Array.toList_inj.1;rw[hd]
      rw[this]
  rw[e]at h
  refine h.mono ?_
  rintro e w' ⟨h1,h2⟩
  refine⟨?_,h2⟩
  cases hq:hex2 t with
  |some n=>rw[hq]at h1;exact h1
  |none=>rw[hq]at h1;obtain⟨N,h1⟩:=h1;exact⟨_,_,h1⟩
theorem printX(W:World)(hC:Cond W):@gh (fixAt Tryz.prog W) Tryz.prog gI phi 43 Fn.ep:=by
  letI:Fix:=fixAt Tryz.prog W
  refine Hl ⟨_,_,Tryz.func43,rfl,by kernel_rfl⟩ fun O w hI m r off hm hr h1 h2 h3=>?_
  exact printC showRaw m hm r off w (tab_fix hC.1 hI) hr h1 h2 h3
theorem joinX(W:World):@gh (fixAt Tryz.prog W) Tryz.prog gI phi 47 Fn.da:=by
  letI:Fix:=fixAt Tryz.prog W
  refine LO ⟨_,_,Tryz.func47,rfl,by kernel_rfl⟩ (fun w a c sep=>Any.strings_Join_none Tryz.lays156 Tryz.Builder_Extra_156 a c sep w) fun w bk o c ws sep hcells hbk h1 hc h2=>?_
  exact Any.strings_Join Tryz.lays156 Tryz.Builder_Extra_156 bk o c ws sep w hcells hbk (by omega) hc (Nat.le_trans h2 (by decide))
theorem containsX(W:World):@gh (fixAt Tryz.prog W) Tryz.prog gI phi 13 Fn.cJ:=by
  letI:Fix:=fixAt Tryz.prog W
  exact AF ⟨_,_,Tryz.func13,rfl,by kernel_rfl⟩ fun w t c=>Any.strings_Contains_one Tryz.lays144 t c w
theorem splitX(W:World)(hC:Cond W):@gh (fixAt Tryz.prog W) Tryz.prog gI phi 16 Fn.cY:=by
  letI:Fix:=fixAt Tryz.prog W
  obtain⟨m,hm⟩:=hC.2.2.2
  refine He (TT:=9) (show tyOk Tryz.prog tS (.inl 9)=true by kernel_rfl) ⟨_,_,Tryz.func16,rfl,by kernel_rfl⟩ fun O w hI t c ht=>?_
  have h1:1<=(⟨#[c]⟩:ByteArray).size:=Nat.le_refl 1
  have h:=Any.strings_Split (P:=Tryz.prog) (ρ:=Tryz.laysM146_ren) {Tryz.laysM146 with} Tryz.laysM146.i9 t ⟨#[c]⟩ m w (by omega) (cell_fix hm hI) h1
  have e:(cutB t c).length=Lib.countB t ⟨#[c]⟩+1:=Lib.splitB_all ⟨#[c]⟩ h1 0 _ t rfl
  rw[e]
  exact h
theorem atoiX(W:World)(hC:Cond W):@gh (fixAt Tryz.prog W) Tryz.prog gI phi 68 Fn.dM:=by
  letI:Fix:=fixAt Tryz.prog W
  obtain⟨tp,p,hp⟩:=hC.2.1
  obtain⟨tq,q,hq⟩:=hC.2.2.1
  refine LS ⟨_,_,Tryz.func68,rfl,by kernel_rfl⟩ fun O w hI t ht=>?_
  cases ha:Lib.atoiAll t.data.toList with
  |ok v=>
    refine(Any.strconv_Atoi_ok Tryz.laysC172 t (by omega) v ha w).mono ?_
    rintro e w' ⟨rfl,hw⟩
    refine⟨⟨.nilIface,by simp only[gV,ha],.inl ⟨by simp only[kW,ha],rfl⟩⟩,?_⟩
    rcases hw with rfl|⟨b,rfl⟩
    ·exact Below.refl _ _
    ·exact Lib.bytesWorld_below _ _ _
  |range=>
    refine(Any.strconv_Atoi_range Tryz.laysC172 t (by omega) ha (.iface tq q) w (cell_fix hq hI) (.inr ⟨_,_,rfl⟩)).mono ?_
    rintro e w' ⟨K,rfl,_,_,hb⟩
    have ev:gV t=Lib.atoiSat t.data.toList:=by simp only[gV,ha]
    rw[ev]
    exact⟨⟨_,rfl,.inr ⟨by simp only[kW,ha],_,_,rfl⟩⟩,hb⟩
  |_=>
    refine(Any.strconv_Atoi_syntax Tryz.laysC172 t (by omega) ha (.iface tp p) w (cell_fix hp hI) (.inr ⟨_,_,rfl⟩)).mono ?_
    rintro e w' ⟨K,rfl,_,_,hb⟩
    have ev:gV t=0:=by simp only[gV,ha]
    rw[ev]
    exact⟨⟨_,rfl,.inr ⟨by simp only[kW,ha],_,_,rfl⟩⟩,hb⟩
theorem deskTys:((List.range Tryz.prog.types.size).all fun U=>!tyOk Tryz.prog tDesk (.inl U)||liesAt Tryz.prog Tryz.prog.depth U (3/Tryz.prog.cellsOf U) 0 42 1)=true:=by kernel_rfl
theorem deskTy(U:TypeId)(h:tyOk Tryz.prog tDesk (.inl U)=true):liesAt Tryz.prog Tryz.prog.depth U (3/Tryz.prog.cellsOf U) 0 42 1=true:=by
  have:=List.all_eq_true.1 deskTys U (List.mem_range.2 (Dn h))
  rw[h]at this
  simpa using this
theorem copyX(W:World):@gh (fixAt Tryz.prog W) Tryz.prog gI phi 83 Fn.bA:=
  yj (ρ:=Tryz.lays156_ren) {Tryz.lays156 with} Tryz.Builder_Extra_156.toX72 deskTy rfl ⟨_,_,Tryz.func83,rfl,by kernel_rfl⟩
theorem strX(W:World):@gh (fixAt Tryz.prog W) Tryz.prog gI phi 22 Fn.bN:=
  Ek (ρ:=Tryz.lays156_ren) {Tryz.lays156 with} Tryz.Builder_Extra_156 Tryz.Builder_Extra_156.t5 rfl ⟨_,_,Tryz.func22,rfl,by kernel_rfl⟩
theorem allT:tH Tryz.prog phi (qA [340,348,350,404,409,413,416,423,424] A2 0) 0=true:=by kernel_rfl
theorem tblOk(W:World)(hC:Cond W):@TblOk (fixAt Tryz.prog W) Tryz.prog gI phi drawOk:=by
  letI:Fix:=fixAt Tryz.prog W
  refine zc (l:=A2) [340,348,350,404,409,413,416,423,424] (fun _=>rfl) allT fun f fn F hs h1 h2=>?_
  have hf:340=f\/348=f\/350=f\/404=f\/409=f\/413=f\/416=f\/423=f\/424=f:=by simpa[has,List.any]using hs
  rcases hf with rfl|rfl|rfl|rfl|rfl|rfl|rfl|rfl|rfl
  ·have e1:some Fn.ep=some fn:=h1
   have e2:some 43=some F:=h2
   simp only[Option.some.injEq]at e1 e2
   subst e1 e2
   exact printX W hC
  ·have e1:some Fn.cu=some fn:=h1
   have e2:some 70=some F:=h2
   simp only[Option.some.injEq]at e1 e2
   subst e1 e2
   exact puX W hC
  ·have e1:some Fn.db=some fn:=h1
   have e2:some 76=some F:=h2
   simp only[Option.some.injEq]at e1 e2
   subst e1 e2
   exact itoaX W hC
  ·have e1:some Fn.bN=some fn:=h1
   have e2:some 22=some F:=h2
   simp only[Option.some.injEq]at e1 e2
   subst e1 e2
   exact strX W
  ·have e1:some Fn.cY=some fn:=h1
   have e2:some 16=some F:=h2
   simp only[Option.some.injEq]at e1 e2
   subst e1 e2
   exact splitX W hC
  ·have e1:some Fn.cJ=some fn:=h1
   have e2:some 13=some F:=h2
   simp only[Option.some.injEq]at e1 e2
   subst e1 e2
   exact containsX W
  ·have e1:some Fn.da=some fn:=h1
   have e2:some 47=some F:=h2
   simp only[Option.some.injEq]at e1 e2
   subst e1 e2
   exact joinX W
  ·have e1:some Fn.bA=some fn:=h1
   have e2:some 83=some F:=h2
   simp only[Option.some.injEq]at e1 e2
   subst e1 e2
   exact copyX W
  ·have e1:some Fn.dM=some fn:=h1
   have e2:some 68=some F:=h2
   simp only[Option.some.injEq]at e1 e2
   subst e1 e2
   exact atoiX W hC
end Go.Proofs.YtpkndgkaecamlaaGreatDoor.Base
