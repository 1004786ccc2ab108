/- A line that text.Print writes: numbers, words joined, and what the writer then holds. -/
import Derived.Test.YtpkndgkaecamlaaGreatDoorDdA
import Derived.WalkKit
import Derived.BigGuard
import Derived.BigCall
import Derived.BigRegion
import Derived.RegionTactic
import Derived.Deep.RegionHeld3
import Derived.Lib.AppendIntMem

set_option linter.unusedSectionVars false
set_option linter.unnecessarySimpa false
set_option linter.unusedVariables false
set_option linter.unusedSimpArgs false
namespace Go.Mini
open Go.Proofs Go.Shelf Go.RowKit
set_option linter.unusedVariables false

def tabN(w:World):Prop:=Lib.TabIs Tryz.prog w "internal/strconv.uint64pow10" .u64 Lib.pow10Tab

set_option maxHeartbeats 2000000 in
theorem numCx(n:Int)(hn:i64 n)(w:World)(ht:tabN w):Calls Tryz.prog 85 #[.int .i64 n] w fun e w'=>e=.returned (.string ⟨(bz n).toArray⟩)/\Below w.heap.size w w':=by
  have h:=Any.strconv_Itoa Tryz.laysM171 n hn.1 hn.2 w ht
  go_enter Tryz.func85,Tryz.ntmps85
  go_wp2_with (go_at_call 76;refine h.mono ?_)
  rintro e w' ⟨rfl,k,os,rfl⟩
  go_wp2
  go_ret
  exact⟨rfl,Lib.below_grow _ _ (Nat.le_refl _) _ _⟩
theorem liesW:liesAt Tryz.prog Tryz.prog.depth 135 (2/Tryz.prog.cellsOf 135) 0 42 1=true:=by kernel_rfl
theorem joinC(bk o c:Nat)(xs:List ByteArray)(sep:ByteArray)(w:World)
    (hcells:∀(j:Nat) x,xs[j]?=some x->w.cell? ⟨bk,o+j,none⟩=some (.string x))
    (hbk:bk<w.heap.size) (hN:xs.length<=140737488355328) (hcap:xs.length<=c)
    (hlen:(Lib.join (xs.map (·.data.toList)) sep.data.toList).length<=140737488355328):
    Calls Tryz.prog 47 #[.slice (some ⟨bk,o,none⟩) xs.length c,.string sep] w fun e w'=>e=.returned (.string ⟨(Lib.join (xs.map (·.data.toList)) sep.data.toList).toArray⟩)/\Below w.heap.size w w':=
  Any.strings_Join Tryz.lays156 Tryz.Builder_Extra_156 bk o c xs sep w hcells hbk hN hcap hlen
theorem wsC(B b:Nat)(bs:List Value)(s:ByteArray)(w:World)(h:Lib.IsBuilder 135 5 B b bs w)(hlen:bs.length+s.size<=140737488355328)(hBw:B<=w.heap.size):
    Calls Tryz.prog 42 #[.pointer (some ⟨b,0,none⟩),.string s] w fun e w'=>e=.returned (.tuple #[.int .i64 s.size,.nilIface])/\(Lib.IsBuilder 135 5 B b (bs++Lib.strCells s) w'/\Below B w w'/\Lib.OthersKept 5 (some b) w w'):=
  rX (ρ:=Tryz.lays156_ren) {Tryz.lays156 with} Tryz.Builder_Extra_156 (T:=135) liesW (by decide) B b bs s w h hlen hBw
theorem strC(B b:Nat)(l:List UInt8)(w:World)(h:Lib.IsBuilder 135 5 B b (Lib.byteCells l) w)(hBw:B<=w.heap.size):
    Calls Tryz.prog 22 #[.pointer (some ⟨b,0,none⟩)] w fun e w'=>e=.returned (.string ⟨l.toArray⟩)/\Below B w w':=
  A5 (ρ:=Tryz.lays156_ren) {Tryz.lays156 with} Tryz.Builder_Extra_156 (T:=135) B b l w h hBw
set_option maxHeartbeats 2000000 in
theorem sayC(B b sb c:Nat)(l:List UInt8)(xs:List ByteArray)(w:World)(h:Lib.IsBuilder 135 5 B b (Lib.byteCells l) w)(hBw:B<=w.heap.size)(hsb:sb<w.heap.size)(hc:xs.length<=c)
    (hcells:∀(j:Nat) x,xs[j]?=some x->w.cell? ⟨sb,j,none⟩=some (.string x)) (hx:xs.length<=100) (hl:l.length+(fj (xs.map (·.data.toList))).length<=1000000):
    Calls Tryz.prog 84 #[.pointer (some ⟨b,0,none⟩),.slice (some ⟨sb,0,none⟩) xs.length c] w fun e w'=>e=.returned (.tuple #[])/\(Lib.IsBuilder 135 5 B b (Lib.byteCells (l++fj (xs.map (·.data.toList)))) w'/\Below B w w'/\Lib.OthersKept 5 (some b) w w'):=by
  have hll:(fj (xs.map (·.data.toList))).length=(Lib.join (xs.map (·.data.toList)) [32]).length+1:=by simp[fj]
  have hj:Calls Tryz.prog 47 #[.slice (some ⟨sb,0,none⟩) xs.length c,.string ⟨#[32]⟩] w.drew fun e w'=>e=.returned (.string ⟨(Lib.join (xs.map (·.data.toList)) [32]).toArray⟩)/\Below w.heap.size w w':=by
    refine(joinC sb 0 c xs ⟨#[32]⟩ w.drew (fun j x hx=>by rw[Nat.zero_add];exact hcells j x hx) hsb (by omega) hc (by show(Lib.join (xs.map (·.data.toList)) [32]).length<=_;omega)).mono ?_
    rintro e w' ⟨rfl,h⟩
    exact⟨rfl,(Below.drew (Below.refl _ w)).trans h⟩
  generalize hJ:Lib.join (xs.map (·.data.toList)) [32]=J at hj hll
  have hline:fj (xs.map (·.data.toList))=J++[10]:=by rw[fj,hJ]
  have hw:∀w1,Below w.heap.size w w1->Calls Tryz.prog 42 #[.pointer (some ⟨b,0,none⟩),.string ⟨(J++[10]).toArray⟩] w1 fun e w'=>(∃n,e=.returned (.tuple #[.int .i64 n,.nilIface]))/\(Lib.IsBuilder 135 5 B b (Lib.byteCells (l++fj (xs.map (·.data.toList)))) w'/\Below B w w'/\Lib.OthersKept 5 (some b) w w'):=fun w1 hb=>by
    refine(wsC B b _ _ w1 (kU h hb) (by rw[Lib.byteCells_length];show _+(J++[10]).toArray.size<=_;simp only[List.size_toArray,List.length_append,List.length_cons,List.length_nil];omega) (Nat.le_trans hBw hb.size)).mono ?_
    rintro e w' ⟨rfl,h1,h2,h3⟩
    refine⟨⟨_,rfl⟩,?_,(hb.mono hBw).trans h2,fun k o hk hn ho=>h3 k o ((hb.block k (Array.getElem?_eq_some_iff.1 hk).1).trans hk) hn ho⟩
    rw[hline,Lib.byteCells_append]
    rw[Lib.strCells_eq]at h1
    exact h1
  have hcut:¬9223372036854775807<J.length+1:=by omega
  go_enter Tryz.func84,Tryz.ntmps84
  go_wp2_with fail
  go_region_held3 (fun _=>True) (trivial) (first|(go_at_call 47;refine hj.mono ?_;rintro e w1 ⟨rfl,hb1⟩)|(go_at_call 42;refine(hw _ (by assumption)).mono ?_;rintro e w2 ⟨⟨n,rfl⟩,h1,h2,h3⟩))
  go_wp2
  go_end0
  exact⟨rfl,h1,h2,h3⟩

structure PI(w0:World)(l:List UInt8)(w:World):Prop where
  bld:Lib.IsBuilder 135 5 w0.heap.size w0.heap.size (Lib.byteCells l) w
  low:Below w0.heap.size w0 w
theorem PI.below{w0:World}{l:List UInt8}{w w':World}(h:PI w0 l w)(hb:Below w.heap.size w w'):PI w0 l w':=⟨kU h.bld hb,h.low.trans (hb.mono h.low.size)⟩
theorem PI.drew{w0:World}{l:List UInt8}{w:World}(h:PI w0 l w):PI w0 l w.drew:=h.below (Below.drew (Below.refl _ w))
theorem PI.alloc{w0:World}{l:List UInt8}{w:World}(h:PI w0 l w)(o:Obj):PI w0 l (w.alloc o):=h.below ((Below.refl _ w).alloc (Nat.le_refl _) o)
theorem PI.tab{w0:World}{l:List UInt8}{w:World}(h:PI w0 l w)(ht:tabN w0):tabN w:=zd ht h.low
theorem num_at{w0:World}{l:List UInt8}{w:World}(h:PI w0 l w)(ht:tabN w0)(n:Int)(hn:i64 n):
    Calls Tryz.prog 85 #[.int .i64 n] w fun e w'=>e=.returned (.string ⟨(bz n).toArray⟩)/\Below w.heap.size w w'/\PI w0 l w':=
  (numCx n hn w (h.tab ht)).mono fun e w' ⟨h1,h2⟩=>⟨h1,h2,h.below h2⟩
theorem say_at{w0:World}{l:List UInt8}{w:World}(h:PI w0 l w)(xs:List ByteArray)(hx:xs.length<=100)(hl:l.length+(fj (xs.map (·.data.toList))).length<=1000000):
    Calls Tryz.prog 84 #[.pointer (some ⟨w0.heap.size,0,none⟩),.slice (some ⟨w.heap.size,0,none⟩) xs.length xs.length] (w.alloc (.cells (xs.map Value.string).toArray 9)) fun e w'=>e=.returned (.tuple #[])/\PI w0 (l++fj (xs.map (·.data.toList))) w'/\Lib.OthersKept 5 (some w0.heap.size) (w.alloc (.cells (xs.map Value.string).toArray 9)) w':=by
  have h1:=h.alloc (.cells (xs.map Value.string).toArray 9)
  refine(sayC _ _ w.heap.size xs.length l xs _ h1.bld h1.low.size (by simp) (Nat.le_refl _) (fun j x hx=>?_) hx hl).mono ?_
  ·rw[Lib.cell_of_heap (heap_alloc_new w _)]
   simp[hx]
  ·rintro e w' ⟨rfl,h2,h3,h4⟩
   exact⟨rfl,⟨h2,h1.low.trans h3⟩,h4⟩
theorem say6{w0:World}{l:List UInt8}{w:World}(h:PI w0 l w)(a1 a2 a3 a4 a5 a6:List UInt8)(hl:l.length+(fj [a1,a2,a3,a4,a5,a6]).length<=1000000):
    Calls Tryz.prog 84 #[.pointer (some ⟨w0.heap.size,0,none⟩),.slice (some ⟨w.heap.size,0,none⟩) 6 6] (w.alloc (.cells #[.string ⟨a1.toArray⟩,.string ⟨a2.toArray⟩,.string ⟨a3.toArray⟩,.string ⟨a4.toArray⟩,.string ⟨a5.toArray⟩,.string ⟨a6.toArray⟩] 9)) fun e w'=>e=.returned (.tuple #[])/\PI w0 (l++fj [a1,a2,a3,a4,a5,a6]) w'/\Lib.OthersKept 5 (some w0.heap.size) (w.alloc (.cells #[.string ⟨a1.toArray⟩,.string ⟨a2.toArray⟩,.string ⟨a3.toArray⟩,.string ⟨a4.toArray⟩,.string ⟨a5.toArray⟩,.string ⟨a6.toArray⟩] 9)) w':=
  say_at h [⟨a1.toArray⟩,⟨a2.toArray⟩,⟨a3.toArray⟩,⟨a4.toArray⟩,⟨a5.toArray⟩,⟨a6.toArray⟩] (by simp) hl
theorem say4{w0:World}{l:List UInt8}{w:World}(h:PI w0 l w)(a1 a2 a3 a4:List UInt8)(hl:l.length+(fj [a1,a2,a3,a4]).length<=1000000):
    Calls Tryz.prog 84 #[.pointer (some ⟨w0.heap.size,0,none⟩),.slice (some ⟨w.heap.size,0,none⟩) 4 4] (w.alloc (.cells #[.string ⟨a1.toArray⟩,.string ⟨a2.toArray⟩,.string ⟨a3.toArray⟩,.string ⟨a4.toArray⟩] 9)) fun e w'=>e=.returned (.tuple #[])/\PI w0 (l++fj [a1,a2,a3,a4]) w'/\Lib.OthersKept 5 (some w0.heap.size) (w.alloc (.cells #[.string ⟨a1.toArray⟩,.string ⟨a2.toArray⟩,.string ⟨a3.toArray⟩,.string ⟨a4.toArray⟩] 9)) w':=
  say_at h [⟨a1.toArray⟩,⟨a2.toArray⟩,⟨a3.toArray⟩,⟨a4.toArray⟩] (by simp) hl

def Has(b:Nat)(cs:Array Value)(T:TypeId)(w:World):Prop:=w.heap[b]?=some (.cells cs T (0,0))
theorem Has.below{b:Nat}{cs:Array Value}{T:TypeId}{w w':World}(h:Has b cs T w)(hb:Below w.heap.size w w'):Has b cs T w':=(hb.block b (Array.getElem?_eq_some_iff.1 h).1).trans h
theorem Has.alloc{b:Nat}{cs:Array Value}{T:TypeId}{w:World}(h:Has b cs T w)(o:Obj):Has b cs T (w.alloc o):=h.below ((Below.refl _ w).alloc (Nat.le_refl _) o)
theorem Has.kept{b c:Nat}{cs:Array Value}{T:TypeId}{w w':World}(h:Has b cs T w)(hk:Lib.OthersKept 5 (some c) w w')(hne:b≠c)(hT:T≠5):Has b cs T w':=
  hk b _ h (fun e=>hne (Option.some.inj e)) (fun c fz e=>by injection e with _ e _;exact hT e)
theorem Has.cell{b:Nat}{cs:Array Value}{T:TypeId}{w:World}(h:Has b cs T w)(j:Nat):w.cell? ⟨b,j,none⟩=cs[j]?:=Lib.cell_of_heap h j
end Go.Mini
