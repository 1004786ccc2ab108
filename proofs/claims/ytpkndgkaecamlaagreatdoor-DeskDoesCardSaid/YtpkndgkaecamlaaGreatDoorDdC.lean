/- text.Print: what it hands back is the text of the image. -/
import Derived.Test.YtpkndgkaecamlaaGreatDoorDdB
import Derived.Deep.MidRow

set_option linter.unusedSectionVars false
set_option linter.unnecessarySimpa false
set_option linter.unusedVariables false
set_option linter.unusedSimpArgs false
namespace Go.Mini
open Go.Proofs Go.Shelf Go.RowKit
set_option linter.unusedVariables false

theorem seg_atx{α:Type}(f:Nat->List α)(sz:Nat)(hf:∀i,(f i).length=sz)(n j:Nat)(hj:j<n):((List.range n).flatMap f).toArray.extract (j*sz) (j*sz+sz)=(f j).toArray:=by
  have e:(List.range n).flatMap f=((List.range n).take j).flatMap f++(f j++((List.range n).drop (j+1)).flatMap f):=by
    have h1:=(List.take_append_drop j (List.range n)).symm
    rw[List.drop_eq_getElem_cons (by simp;omega),List.getElem_range]at h1
    conv=>lhs;rw[h1]
    rw[List.flatMap_append,List.flatMap_cons]
  have hl:∀l:List Nat,(l.flatMap f).length=l.length*sz:=fun l=>by
    induction l with
    |nil=>simp
    |cons a l ih=>rw[List.flatMap_cons,List.length_append,ih,hf,List.length_cons,Nat.add_mul];omega
  have hlj:(((List.range n).take j).flatMap f).length=j*sz:=by rw[hl,List.length_take,List.length_range,Nat.min_eq_left (by omega)]
  apply Array.toList_inj.1
  rw[e]
  simp only[Array.toList_extract,List.extract_eq_take_drop,Nat.add_sub_cancel_left]
  rw[List.drop_append_of_le_length (by omega),List.drop_of_length_le (by omega),List.nil_append,List.take_append_of_le_length (by rw[hf];omega),List.take_of_length_le (by rw[hf];omega)]
theorem index_atx{T E:TypeId}{n sz:Nat}{cs:Array Value}{seg:List Value}(hu:Tryz.prog.underlying T=some (.array n E))(hs:∀w,(Go.sizeOf E).run Tryz.prog w=.ok sz w)(ha:∀w,(isAgg E).run Tryz.prog w=.ok true w){j:Nat}(hj:j<n)(hseg:cs.extract (j*sz) (j*sz+sz)=seg.toArray)(W:World):
    (Instr.index T (.agg cs) (.int .i64 j)).run Tryz.prog W=.ok (.agg seg.toArray) W:=by
  simp only[Instr.index,asIntOf,Sem.run_bind,Sem.run_pure,run_underlying hu W,Result.andThen_ok]
  rw[if_pos ⟨by omega,by omega⟩]
  simp only[Sem.run_bind,hs W,Result.andThen_ok,Go.part,ha W,if_true,Sem.run_pure,Int.toNat_natCast,hseg]
set_option maxHeartbeats 4000000 in
set_option maxRecDepth 100000 in
theorem printC(hshow:∀(s:ByteArray) (w:World),s.size<=10000->Calls Tryz.prog 71 #[.string s] w fun e w'=>e=.returned (.string ⟨(bS s.data.toList).toArray⟩)/\Below w.heap.size w w')
    (m:Img) (hm:m.slim) (r off:Nat) (w0:World) (ht:tabN w0) (hr:r<w0.heap.size)
    (h1:w0.rangeAt r off (inosCs m)) (h2:∀d,d<3->w0.rangeAt r (off+40+d*12) (rowCs m d)) (h3:w0.rangeAt r (off+76) (datsCs m)):
    Calls Tryz.prog 43 #[.pointer (some ⟨r,off,none⟩)] w0 fun e w'=>e=.returned (.string ⟨(textL m).toArray⟩)/\Below w0.heap.size w0 w':=by
  have hp0:PI w0 [] (w0.alloc (.cells #[.pointer none,.slice none 0 0] 135)):=⟨Lib.fresh_isBuilder 135 5 w0,(Below.refl _ w0).alloc (Nat.le_refl _) _⟩
  have hlow:∀{l w},PI w0 l w->∀{o cs},w0.rangeAt r o cs->w.rangeAt r o cs:=fun h o cs hc j v hv=>(h.low.cell (p:=⟨r,o+j,none⟩) hr).trans (hc j v hv)
  have hn1:(Tryz.prog.info? 71).map (·.size)=some (inosCs m).length:=by rw[show(inosCs m).length=40 from rfl];kernel_rfl
  have hx1:∀n,n<8->∀W,(Instr.index 71 (.agg (inosCs m).toArray) (.int .i64 (n:Nat))).run Tryz.prog W=.ok (.agg (yz (m.ino n)).toArray) W:=fun n hn=>index_atx Tryz.underlying71 Tryz.sizeOf70 Tryz.isAgg70 hn (seg_atx _ 5 (fun _=>rfl) 8 n hn)
  go_enter Tryz.func43,Tryz.ntmps43
  go_wp2_with (refine wpList_load_mid rfl 71 (.tmp 15) rfl r off rfl (inosCs m) _ (hlow hp0 h1) Tryz.underlying71 rfl hn1 ?_)
  generalize hX1:(inosCs m).toArray=X1 at hx1⊢
  go_loopw [17] (fun vi wr=>∃k:Nat,k<=8/\vi=.int .i64 k/\PI w0 (mW m k) wr) (fun vi _=>8-(intOf vi).toNat)
  case atStart=>exact⟨0,by omega,rfl,hp0⟩
  case round=>
    obtain⟨k,hk,rfl,hP⟩:=hrel
    by_cases hk8:k<8
    ·have e:mW m (k+1)=mW m k++inoL k (m.ino k):=f9 _ _
     have L0:=mV hm (n:=k) (by omega)
     have L1:=vX hm k (by omega)
     have hidx:=hx1 k hk8
     clear hx1
     obtain⟨q1,q2,q3,q4⟩:=qy hm k
     have hline:(m.ino k).live=true->inoL k (m.ino k)=fj [[105,110,111,100,101],bz k,bz (m.ino k).stamp,bz (m.ino k).links,bz ((m.ino k).prt 0),bz ((m.ino k).prt 1)]:=fun h=>by unfold inoL;rw[if_pos h];rfl
     have hnone:(m.ino k).live=false->inoL k (m.ino k)=[]:=fun h=>by unfold inoL;rw[h];rfl
     generalize inoL k (m.ino k)=LL at *
     unfold yz at hidx
     generalize(m.ino k).stamp=f1 at *
     generalize(m.ino k).links=f2 at *
     generalize(m.ino k).prt 0=f3 at *
     generalize(m.ino k).prt 1=f4 at *
     have hkn:=gn (n:=k) (by omega)
     cases hlv:(m.ino k).live with
     |false=>
       rw[hlv]at hidx
       rw[hnone hlv,List.append_nil]at e
       clear hline hnone
       go_wp2
       exact⟨⟨k+1,by omega,by go_num,e▸hP.alloc _⟩,by simp[intOf];omega⟩
     |true=>
       rw[hlv]at hidx
       rw[hline hlv]at e L1
       clear hline hnone
       go_wp2
       have hlt:=ky hP.bld
       have hP1:=(hP.alloc (.cells #[.bool true,.int .i64 f1,.int .i64 f2,.int .i64 f3,.int .i64 f4] 70)).drew
       have hH1:Has wr.heap.size #[.bool true,.int .i64 f1,.int .i64 f2,.int .i64 f3,.int .i64 f4] 70 (wr.alloc (.cells #[.bool true,.int .i64 f1,.int .i64 f2,.int .i64 f3,.int .i64 f4] 70)).drew:=heap_alloc_new wr _
       generalize wr.alloc (.cells #[.bool true,.int .i64 f1,.int .i64 f2,.int .i64 f3,.int .i64 f4] 70)=W1 at hP1 hH1⊢
       generalize wr.heap.size=ib at hH1 hlt⊢
       go_region_held3 (fun w'=>w'.cell? ⟨ib,1,none⟩=some (.int .i64 f1)/\w'.cell? ⟨ib,2,none⟩=some (.int .i64 f2)/\w'.cell? ⟨ib,3,none⟩=some (.int .i64 f3)/\w'.cell? ⟨ib,4,none⟩=some (.int .i64 f4))
         (first
           |exact⟨Has.cell (by assumption) 1,Has.cell (by assumption) 2,Has.cell (by assumption) 3,Has.cell (by assumption) 4⟩
           |exact⟨(Has.alloc (by assumption) _).cell 1,(Has.alloc (by assumption) _).cell 2,(Has.alloc (by assumption) _).cell 3,(Has.alloc (by assumption) _).cell 4⟩)
         (first
           |(go_at_call 85;refine(num_at (by assumption) ht _ (by assumption)).mono ?_;rintro e w' ⟨rfl,hb,hP'⟩;have hH':=Has.below (by assumption) hb)
           |(go_at_call 84;refine(say6 (by assumption) [105,110,111,100,101] (bz k) (bz f1) (bz f2) (bz f3) (bz f4) (by omega)).mono ?_;rintro e w' ⟨rfl,hP',hk'⟩;have hH':=Has.kept (Has.alloc (by assumption) _) hk' (by omega) (by decide)))
       go_wp2
       exact⟨⟨k+1,by omega,by go_num,e▸hP'⟩,by simp[intOf];omega⟩
    ·have hke:k=8:=by omega
     rw[hke]at hP
     have hcond:¬((k:Int)<8):=by omega
     clear hx1 hX1 hke hk8
     have L8:=mV hm (n:=8) (by omega)
     generalize hA:mW m 8=A at hP L8
     go_wp2
     go_loopw [43] (fun vd wr=>∃d:Nat,d<=3/\vd=.int .i64 d/\PI w0 (A++ju m d) wr) (fun vd _=>3-(intOf vd).toNat)
     case atStart=>exact⟨0,by omega,rfl,by rw[show ju m 0=[]from rfl,List.append_nil];exact hP⟩
     case round=>
       obtain⟨d,hd,rfl,hPd⟩:=hrel
       have L1:=uW hm (d:=d) (by omega)
       by_cases hd3:d<3
       ·have hrow:=hlow hPd (h2 d hd3)
        have hn2:(Tryz.prog.info? 74).map (·.size)=some (rowCs m d).length:=by rw[show(rowCs m d).length=12 from rfl];kernel_rfl
        go_wp2_with (refine wpList_load_mid rfl 74 (.tmp 50) rfl r (off+40+d*12) rfl (rowCs m d) _ hrow Tryz.underlying74 rfl hn2 ?_)
        have hx2:∀n,n<4->∀W,(Instr.index 74 (.agg (rowCs m d).toArray) (.int .i64 (n:Nat))).run Tryz.prog W=.ok (.agg (B4 (m.ent d n)).toArray) W:=fun n hn=>index_atx Tryz.underlying74 Tryz.sizeOf73 Tryz.isAgg73 hn (seg_atx _ 3 (fun _=>rfl) 4 n hn)
        generalize hX2:(rowCs m d).toArray=X2 at hx2⊢
        go_loopw [52] (fun vs wr=>∃s:Nat,s<=4/\vs=.int .i64 s/\PI w0 (A++ju m d++jK m d s) wr) (fun vs _=>4-(intOf vs).toNat)
        case atStart=>exact⟨0,by omega,rfl,by rw[show jK m d 0=[]from rfl,List.append_nil];exact hPd⟩
        case round=>
          obtain⟨s,hs,rfl,hP⟩:=hrel
          have L2:=qv hm (d:=d) (s:=s) hd3 (by omega)
          by_cases hs4:s<4
          ·have e:jK m d (s+1)=jK m d s++entL d s (m.ent d s):=f9 _ _
           have L3:=wt hm d s (by omega) (by omega)
           have hidx:=hx2 s hs4
           clear hx2 hX2 hPd hrow
           obtain⟨q1,q2,q3⟩:=mZ hm d s
           have hline:¬(m.ent d s).name=⟨#[]⟩->entL d s (m.ent d s)=fj [[101,110,116,114,121],bz d,bz s,(m.ent d s).name.data.toList,bz (m.ent d s).ino,bz (m.ent d s).stamp]:=fun h=>by
             unfold entL;rw[if_pos (fun h2=>h (by apply ByteArray.ext;exact Array.eq_empty_of_size_eq_zero h2))];rfl
           have hnone:(m.ent d s).name=⟨#[]⟩->entL d s (m.ent d s)=[]:=fun h=>by unfold entL;rw[h];rfl
           generalize entL d s (m.ent d s)=LL at *
           unfold B4 at hidx
           generalize(m.ent d s).name=nm at *
           generalize(m.ent d s).ino=f1 at *
           generalize(m.ent d s).stamp=f2 at *
           have hkd:=gn (n:=d) (by omega)
           have hks:=gn (n:=s) (by omega)
           have lX:(A++ju m d++jK m d s).length<=500000:=by simp only[List.length_append];omega
           by_cases hnm:nm=⟨#[]⟩
           ·rw[hnone hnm,List.append_nil]at e
            subst hnm
            clear hline hnone
            go_wp2
            exact⟨⟨s+1,by omega,by go_num,e▸hP.alloc _⟩,by simp[intOf];omega⟩
           ·rw[hline hnm]at e L3
            have hemp:nm.toList.isEmpty=false:=by
              rw[←decide_eq_emptyBytes]
              exact decide_eq_false hnm
            clear hline hnone hnm
            go_wp2
            have hlt:=ky hP.bld
            have hP1:=(hP.alloc (.cells #[.string nm,.int .i64 f1,.int .i64 f2] 73)).drew
            have hH1:Has wr.heap.size #[.string nm,.int .i64 f1,.int .i64 f2] 73 (wr.alloc (.cells #[.string nm,.int .i64 f1,.int .i64 f2] 73)).drew:=heap_alloc_new wr _
            generalize wr.alloc (.cells #[.string nm,.int .i64 f1,.int .i64 f2] 73)=W1 at hP1 hH1⊢
            generalize wr.heap.size=ib at hH1 hlt⊢
            go_region_held3 (fun w'=>w'.cell? ⟨ib,0,none⟩=some (.string nm)/\w'.cell? ⟨ib,1,none⟩=some (.int .i64 f1)/\w'.cell? ⟨ib,2,none⟩=some (.int .i64 f2))
              (first
                |exact⟨Has.cell (by assumption) 0,Has.cell (by assumption) 1,Has.cell (by assumption) 2⟩
                |exact⟨(Has.alloc (by assumption) _).cell 0,(Has.alloc (by assumption) _).cell 1,(Has.alloc (by assumption) _).cell 2⟩)
              (first
                |(go_at_call 85;refine(num_at (by assumption) ht _ (by assumption)).mono ?_;rintro e w' ⟨rfl,hb,hP'⟩;have hH':=Has.below (by assumption) hb)
                |(go_at_call 84;refine(say6 (by assumption) [101,110,116,114,121] (bz d) (bz s) nm.data.toList (bz f1) (bz f2) (by omega)).mono ?_;rintro e w' ⟨rfl,hP',hk'⟩;have hH':=Has.kept (Has.alloc (by assumption) _) hk' (by omega) (by decide)))
            go_wp2
            exact⟨⟨s+1,by omega,by go_num,by rw[e,←List.append_assoc];exact hP'⟩,by simp[intOf];omega⟩
          ·have hse:s=4:=by omega
           rw[hse]at hP
           have hcond':¬((s:Int)<4):=by omega
           clear hx2 hX2 hse hs4
           have e:ju m (d+1)=ju m d++jK m d 4:=f9 _ _
           go_wp2
           exact⟨⟨d+1,by omega,by go_num,by rw[e,←List.append_assoc];exact hP⟩,by simp[intOf];omega⟩
       ·have hde:d=3:=by omega
        rw[hde]at hPd L1
        have hcond':¬((d:Int)<3):=by omega
        clear hde hd3
        generalize hB:ju m 3=B at hPd L1
        have hdat:=hlow hPd h3
        have hn3:(Tryz.prog.info? 78).map (·.size)=some (datsCs m).length:=by rw[show(datsCs m).length=18 from rfl];kernel_rfl
        have hx3:∀n,n<9->∀W,(Instr.index 78 (.agg (datsCs m).toArray) (.int .i64 (n:Nat))).run Tryz.prog W=.ok (.agg (yL (m.dat n)).toArray) W:=fun n hn=>index_atx Tryz.underlying78 Tryz.sizeOf77 Tryz.isAgg77 hn (seg_atx _ 2 (fun _=>rfl) 9 n hn)
        go_wp2_with (refine wpList_load_mid rfl 78 (.tmp 78) rfl r (off+76) rfl (datsCs m) _ hdat Tryz.underlying78 rfl hn3 ?_)
        generalize hX3:(datsCs m).toArray=X3 at hx3⊢
        go_loopw [80] (fun vx wr=>∃x:Nat,x<=9/\vx=.int .i64 x/\PI w0 (A++B++kS m x) wr) (fun vx _=>9-(intOf vx).toNat)
        case atStart=>exact⟨0,by omega,rfl,by rw[show kS m 0=[]from rfl,List.append_nil];exact hPd⟩
        case round=>
          obtain⟨x,hx,rfl,hP⟩:=hrel
          have L2:=uX hm (x:=x) (by omega)
          by_cases hx9:x<9
          ·have e:kS m (x+1)=kS m x++datL x (m.dat x):=f9 _ _
           have L3:=ww hm x (by omega)
           have hidx:=hx3 x hx9
           clear hx3 hX3 hPd hdat
           obtain⟨q1,q2⟩:=qz hm x
           have hline:¬(m.dat x).of=0->datL x (m.dat x)=fj [[100,97,116,97],bz x,bz (m.dat x).of,bS (m.dat x).text.data.toList]:=fun h=>by unfold datL;rw[if_pos h];rfl
           have hnone:(m.dat x).of=0->datL x (m.dat x)=[]:=fun h=>by unfold datL;rw[if_neg (fun h2=>h2 h)]
           generalize datL x (m.dat x)=LL at *
           unfold yL at hidx
           generalize(m.dat x).of=f1 at *
           generalize(m.dat x).text=tx at *
           have hkx:=gn (n:=x) (by omega)
           have lX:(A++B++kS m x).length<=500000:=by simp only[List.length_append];omega
           by_cases hof:f1=0
           ·rw[hnone hof,List.append_nil]at e
            clear hline hnone
            go_wp2
            exact⟨⟨x+1,by omega,by go_num,e▸hP.alloc _⟩,by simp[intOf];omega⟩
           ·rw[hline hof]at e L3
            clear hline hnone
            go_wp2
            have hlt:=ky hP.bld
            have hP1:=(hP.alloc (.cells #[.int .i64 f1,.string tx] 77)).drew
            have hH1:Has wr.heap.size #[.int .i64 f1,.string tx] 77 (wr.alloc (.cells #[.int .i64 f1,.string tx] 77)).drew:=heap_alloc_new wr _
            generalize wr.alloc (.cells #[.int .i64 f1,.string tx] 77)=W1 at hP1 hH1⊢
            generalize wr.heap.size=ib at hH1 hlt⊢
            go_region_held3 (fun w'=>w'.cell? ⟨ib,0,none⟩=some (.int .i64 f1)/\w'.cell? ⟨ib,1,none⟩=some (.string tx))
              (first
                |exact⟨Has.cell (by assumption) 0,Has.cell (by assumption) 1⟩
                |exact⟨(Has.alloc (by assumption) _).cell 0,(Has.alloc (by assumption) _).cell 1⟩)
              (first
                |(go_at_call 85;refine(num_at (by assumption) ht _ (by assumption)).mono ?_;rintro e w' ⟨rfl,hb,hP'⟩;have hH':=Has.below (by assumption) hb)
                |(go_at_call 71;refine(hshow tx _ q2).mono ?_;rintro e w' ⟨rfl,hb⟩;have hH':=Has.below (by assumption) hb;have hP':=PI.below (by assumption) hb)
                |(go_at_call 84;refine(say4 (by assumption) [100,97,116,97] (bz x) (bz f1) (bS tx.data.toList) (by omega)).mono ?_;rintro e w' ⟨rfl,hP',hk'⟩;have hH':=Has.kept (Has.alloc (by assumption) _) hk' (by omega) (by decide)))
            go_wp2
            exact⟨⟨x+1,by omega,by go_num,by rw[e,←List.append_assoc];exact hP'⟩,by simp[intOf];omega⟩
          ·have hxe:x=9:=by omega
           rw[hxe]at hP
           have hcond3:¬((x:Int)<9):=by omega
           clear hx3 hX3 hxe hx9
           have hT:textL m=A++B++kS m 9:=by rw[uU,←hA,←hB];rfl
           have hS:=strC _ _ (A++B++kS m 9) wr hP.bld hP.low.size
           rw[←hT]at hS
           clear hT
           have hL:=hP.low
           clear hP hPd hdat
           go_wp2_with (go_at_call 22;refine hS.mono ?_;rintro e w' ⟨rfl,hb⟩)
           go_ret
           exact⟨rfl,hL.trans hb⟩
end Go.Mini
