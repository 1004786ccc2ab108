/- A part of the proof: what Tx computes, step by step. -/
import Derived.Test.YtpkndgkaecamlacDoorTxPd
import Derived.Deep.MidRow
import Derived.Shelf.Pu.ParseUintPublic10
import Derived.Shelf.Strings.BuilderF
import Derived.Lib.OthersKept
import Derived.Lib.LaidTab

set_option linter.unusedVariables false
set_option linter.unusedSimpArgs false
set_option maxRecDepth 100000
set_option linter.unusedSectionVars false
set_option linter.unnecessarySimpa false
namespace Go.Mini
open Go.RowKit Go.ChangeShapes
theorem has_i64 {n : Int} (h : IntKind.i64.has n) : i64 n:=by
 unfold i64
 have h1 : IntKind.i64.min = -9223372036854775808:=by decide
 have h2 : IntKind.i64.max = 9223372036854775807:=by decide
 obtain ⟨a,b⟩:=h
 rw [h1] at a; rw [h2] at b
 exact ⟨a,b⟩
theorem img_nums {m : Img} (h : m.enc.ranged) : m.nums:=by
 obtain ⟨h1,h2,h3,_⟩:=h
 refine ⟨fun n=>?_,fun d s=>?_,fun x=>?_⟩
 ·obtain ⟨_,a,b,c,_⟩:=h1 n
  exact ⟨has_i64 a,has_i64 b,has_i64 (c 0),has_i64 (c 1)⟩
 ·obtain ⟨_,a,b,_⟩:=h2 d s
  exact ⟨has_i64 a,has_i64 b⟩
 ·obtain ⟨a,_⟩:=h3 x
  exact has_i64 a
section
variable {P : Program} {φ : Nat → Option FuncId} {β : Beta} {W : World} {r : Reach} {b : Nat} {x : Value} {U : TypeId}
theorem given_imgR {ts : List TypeId} (hts : P.cellTypes P.depth U = some ts) (hk : (ts.map fun u=>kindOf (P.underlying u)) = tImage.kinds.map some) (hu : ∃ fs,P.underlying U = some (.struct fs)) (hc : P.cellsOf U = tImage.kinds.length)
  (h : Value.okWide P W r b U x) : ∃ m : Img,m.nums ∧ VR φ β m.enc x:=by
 obtain ⟨v,h1,h2,h3⟩:=given_agg (φ:=φ) (β:=β) hts hk rfl (.inl hu) hc h
 obtain ⟨n,rfl⟩:=dec_img h1
 exact ⟨n,img_nums h2,h3⟩
end
open Go.RowKit
section
variable {φ : Nat → Option FuncId} {β : Beta} {P : Program} {O : Nat → Prop} {w w' : World} {look : Id → Option Blk}
theorem HR_stays (h : HR φ β O look w) (hb : Below w.heap.size w w') : HR φ β O look w' :=
 ⟨fun i b hl=>by
  obtain ⟨pl,cs,T,fr,hB⟩:=h.live i b hl
  exact ⟨pl,cs,T,fr,hB.place,hB.ty,hB.fits,(hb.block pl.r (Array.getElem?_eq_some_iff.1 hB.heap).1).trans hB.heap,hB.room,hB.size,hB.cells,hB.own⟩,h.apart⟩
theorem ext_back [Fix] {cx : Cx} {h : HP} {s2 : St} (hm : HR φ β O h.look w) (hdom : ∀ i pl,β i = some pl → i.under cx.lvl h.next) (htop : ∀ l,cx.lvl ≤ l → h.stk l = []) (hown : s2.own = []) (hhp : s2.hp = h) (hb : Below w.heap.size w w') :
  After φ O β cx.lvl h.next w (s2.look cx) s2.hp.next s2.hp.stk β w':=by
 subst hhp
 refine ⟨HR_mono (HR_stays hm hb) fun i b hl=>?_,⟨hb.os,hb.tape,hb.output,hb.size,fun r hr _=>hb.block r hr⟩,Ext.refl,Nat.le_refl _,fun i pl hp=>?_,htop⟩
 ·unfold St.look at hl
  split at hl
  ·rw [hown] at hl; simp [Own.get] at hl
  ·exact hl
 ·have:=hdom i pl hp
  cases i <;> simp only [Id.under] at this ⊢ <;> omega
theorem ItoaX [Fix] {T : Nat → Option MFun} {F : FuncId} (hf : ∃ f c, P.funcs[F]? = some f ∧ f.body = some c ∧ (f.name == "runtime.NumGoroutine") = false)
  (hraw : ∀ O w,Fix.I O w → ∀ n,i64 n → Calls P F #[.int .i64 n] w fun e w'=>e = .returned (.string ⟨(numL n).toArray⟩) ∧ Below w.heap.size w w') : ExtOk P T φ F Fn.strconv_Itoa:=by
 refine ⟨hf,fun m cx args h s2 v β O rargs w hr hv hlen ha hm hdom htop hfresh hinv=>?_⟩
 match args,hlen with
 | [a],_ =>
  obtain ⟨n,rfl,hn,rfl,ho,hh⟩:=Itoa_run hr hv
  obtain ⟨x,rfl⟩ : ∃ x,rargs = [x]:=by
   have:=ha.1
   match rargs,this with
   | [x],_=>exact ⟨x,rfl⟩
  have hx:=LR_int (ha.2 0 _ _ rfl rfl)
  subst hx
  refine (hraw O w hinv n hn).mono ?_
  rintro e w' ⟨rfl,hb⟩
  exact ⟨_,β,rfl,VR_of_VR1 (by simp [VR1,AV.isAgg,LR,AV.rel]),by simp [AV.resOk,AV.safe],ext_back hm hdom htop ho hh hb⟩
theorem PuX [Fix] {T : Nat → Option MFun} {F : FuncId} (hf : ∃ f c, P.funcs[F]? = some f ∧ f.body = some c ∧ (f.name == "runtime.NumGoroutine") = false)
  (hraw : ∀ O w,Fix.I O w → ∀ t : ByteArray,t.size = 2 → Calls P F #[.string t,.int .i64 16,.int .i64 8] w fun e w' =>
   (match hex2 t with
    | some n=>e = .returned (.tuple #[.int .u64 n,.nilIface])
    | none=>∃ u x,e = .returned (.tuple #[.int .u64 0,.iface u x])) ∧ Below w.heap.size w w') : ExtOk P T φ F Fn.strconv_ParseUint:=by
 refine ⟨hf,fun m cx args h s2 v β O rargs w hr hv hlen ha hm hdom htop hfresh hinv=>?_⟩
 match args,hlen with
 | [a,b,c],_ =>
  obtain ⟨t,rfl,rfl,rfl,ht,rfl,ho,hh⟩:=Pu_run hr hv
  obtain ⟨x,y,z,rfl⟩ : ∃ x y z,rargs = [x,y,z]:=by
   have:=ha.1
   match rargs,this with
   | [x,y,z],_=>exact ⟨x,y,z,rfl⟩
  have hx:=LR_str (ha.2 0 _ _ rfl rfl)
  have hy:=LR_int (ha.2 1 _ _ rfl rfl)
  have hz:=LR_int (ha.2 2 _ _ rfl rfl)
  subst hx hy hz
  refine (hraw O w hinv t ht).mono ?_
  rintro e w' ⟨he,hb⟩
  cases hq : hex2 t with
  | some n =>
   rw [hq] at he
   simp only at he
   subst he
   exact ⟨_,β,rfl,⟨_,rfl,rfl,by simp [VR1,AV.isAgg,LR,AV.rel],rfl,by simp [VR1,AV.isAgg,LR,AV.rel],trivial⟩,.inr ⟨_,rfl⟩,ext_back hm hdom htop ho hh hb⟩
  | none =>
   rw [hq] at he
   obtain ⟨u,x,rfl⟩:=he
   exact ⟨_,β,rfl,⟨_,rfl,rfl,by simp [VR1,AV.isAgg,LR,AV.rel],rfl,by simp [VR1,AV.isAgg,LR,AV.rel],trivial⟩,.inr ⟨_,rfl⟩,ext_back hm hdom htop ho hh hb⟩
def leafV : AV → Value
 | .bool b=>.bool b
 | .int k n=>.int k n
 | .str s=>.string s
 | _=>undef
def AV.plainLeaf : AV → Bool
 | .bool _=>true
 | .int ..=>true
 | .str _=>true
 | _=>false
theorem LR_leafV {c : AV} {x : Value} (hc : c.plainLeaf = true) (h : LR φ β c x) : x = leafV c:=by
 cases c <;> simp [AV.plainLeaf] at hc <;> exact h
def inoCs (i : Ino) : List Value:=[.bool i.live,.int .i64 i.stamp,.int .i64 i.links,.int .i64 (i.prt 0),.int .i64 (i.prt 1)]
def entCs (e : Ent) : List Value:=[.string e.name,.int .i64 e.ino,.int .i64 e.stamp]
def datCs (y : Dat) : List Value:=[.int .i64 y.of,.string y.text]
def inosCs (m : Img) : List Value:=(List.range 8).flatMap fun n=>inoCs (m.ino n)
def rowCs (m : Img) (d : Nat) : List Value:=(List.range 4).flatMap fun s=>entCs (m.ent d s)
def datsCs (m : Img) : List Value:=(List.range 9).flatMap fun x=>datCs (m.dat x)
theorem fin_range {α : Type} {n : Nat} {g : Fin n → List α} {f : Nat → List α} (h : ∀ i : Fin n,g i = f i.val) : (List.finRange n).flatMap g = (List.range n).flatMap f:=by
 have : g = fun i=>f i.val:=funext h
 have e : (List.finRange n).map Fin.val = List.range n:=List.ext_getElem (by simp) fun i h1 h2=>by simp
 rw [this,← e,List.flatMap_map]
theorem img_flat (m : Img) : m.enc.flat.map leafV = inosCs m ++ ((List.range 3).flatMap (rowCs m) ++ datsCs m):=by
 simp only [Img.enc,AV.flat,encV,List.append_nil,List.map_append,List.map_flatMap]
 rw [fin_range (f:=fun n=>inoCs (m.ino n)),fin_range (f:=rowCs m),fin_range (f:=fun x=>datCs (m.dat x))]
 ·rfl
 ·intro x
  show List.map leafV (Dat.enc m.data[x.val]).flat = _
  rw [dat_eq]; rfl
 ·intro d
  exact fin_range fun s=>by
   show List.map leafV (Ent.enc (m.dir[d.val])[s.val]).flat = _
   rw [ent_eq]; rfl
 ·intro n
  show List.map leafV (Ino.enc m.inode[n.val]).flat = _
  rw [ino_eq]; rfl
theorem img_plain (m : Img) : ∀ c ∈ m.enc.flat,c.plainLeaf = true:=by
 simp only [Img.enc,AV.flat,encV,List.append_nil,List.mem_append,List.mem_flatMap]
 rintro c (⟨n,_,hc⟩ | ⟨d,_,s,_,hc⟩ | ⟨x,_,hc⟩)
 ·simp only [Ino.enc,AV.flat,encV,List.append_nil,List.mem_append,List.mem_flatMap,List.mem_singleton] at hc
  rcases hc with rfl | rfl | rfl | ⟨_,_,rfl⟩ <;> rfl
 ·simp only [Ent.enc,AV.flat,List.append_nil,List.mem_append,List.mem_singleton] at hc
  rcases hc with rfl | rfl | rfl <;> rfl
 ·simp only [Dat.enc,AV.flat,List.append_nil,List.mem_append,List.mem_singleton] at hc
  rcases hc with rfl | rfl <;> rfl
theorem range_left {r o : Nat} {a b : List Value} (h : w.rangeAt r o (a ++ b)) : w.rangeAt r o a:=fun j v hv=>h j v (by
 have hj : j < a.length:=by
  rcases Nat.lt_or_ge j a.length with h | h
  ·exact h
  ·rw [List.getElem?_eq_none h] at hv; simp at hv
 rw [List.getElem?_append_left hj]; exact hv)
theorem range_right {r o : Nat} {a b : List Value} (h : w.rangeAt r o (a ++ b)) : w.rangeAt r (o + a.length) b:=fun j v hv=>by
 have:=h (a.length + j) v (by rw [List.getElem?_append_right (by omega),Nat.add_sub_cancel_left]; exact hv)
 rw [← Nat.add_assoc] at this
 exact this
theorem range_rows {r o : Nat} {f : Nat → List Value} {c n : Nat} (hf : ∀ i,(f i).length = c) (h : w.rangeAt r o ((List.range n).flatMap f)) (d : Nat) (hd : d < n) : w.rangeAt r (o + d * c) (f d):=fun j v hv=>by
 have hj : j < c:=by
  rcases Nat.lt_or_ge j c with h | h
  ·exact h
  ·rw [List.getElem?_eq_none (by rw [hf]; exact h)] at hv; simp at hv
 have e:=getElem?_flatMap_const (List.range n) f c (fun x _=>hf x) d (by simpa using hd) j hj
 rw [List.getElem_range] at e
 have:=h (d * c + j) v (by rw [e]; exact hv)
 rw [← Nat.add_assoc] at this
 exact this
theorem PrintX [Fix] {T : Nat → Option MFun} {F : FuncId} (hf : ∃ f c, P.funcs[F]? = some f ∧ f.body = some c ∧ (f.name == "runtime.NumGoroutine") = false)
  (hraw : ∀ O w,Fix.I O w → ∀ (m : Img) (r off : Nat),m.slim → r < w.heap.size → w.rangeAt r off (inosCs m) → (∀ d,d < 3 → w.rangeAt r (off + 40 + d * 12) (rowCs m d)) → w.rangeAt r (off + 76) (datsCs m) →
   Calls P F #[.pointer (some ⟨r,off,none⟩)] w fun e w'=>e = .returned (.string ⟨(textL m).toArray⟩) ∧ Below w.heap.size w w') : ExtOk P T φ F Fn.text_Print:=by
 refine ⟨hf,fun m cx args h s2 v β O rargs w hr hv hlen ha hm hdom htop hfresh hinv=>?_⟩
 match args,hlen with
 | [a],_ =>
  obtain ⟨i,p,img,b,rfl,hl,hat,hs,rfl,ho,hh⟩:=Print_run hr hv
  obtain ⟨x,rfl⟩ : ∃ x,rargs = [x]:=by
   have:=ha.1
   match rargs,this with
   | [x],_=>exact ⟨x,rfl⟩
  have hx:=ha.2 0 _ _ rfl rfl
  simp only [VR,VR1,AV.isAgg,Bool.false_eq_true,if_false,LR,AV.rel] at hx
  obtain ⟨pl,o,hpl,hfd,rfl⟩:=hx
  obtain ⟨pl',cs,TT,fr,hB⟩:=hm.live i b hl
  have e:=hB.place.symm.trans hpl
  simp only [Option.some.injEq] at e
  subst e
  rw [hB.ty] at hfd
  obtain ⟨hfit,hseg⟩:=Ty.fits_at hB.fits hfd hat
  have hbig : w.rangeAt pl'.r (pl'.base + o) (img.enc.flat.map leafV):=by
   intro j v hv
   rw [List.getElem?_map,Option.map_eq_some_iff] at hv
   obtain ⟨c,hc,rfl⟩:=hv
   have hjs : j < tImage.size:=by
    rcases Nat.lt_or_ge j tImage.size with h | h
    ·exact h
    ·rw [List.getElem?_eq_none (by rw [Ty.fits_length hfit]; exact h)] at hc; simp at hc
   obtain ⟨x,hx,hLR⟩:=hB.cells (o + j) c (by rw [hseg j hjs]; exact hc)
   rw [LR_leafV (img_plain img c (List.mem_of_getElem? hc)) hLR] at hx
   simp only [World.cell?,hB.heap]
   rw [Nat.add_assoc]
   simpa using hx
  rw [img_flat] at hbig
  have h1:=range_left hbig
  have h2:=range_right hbig
  rw [show (inosCs img).length = 40 from rfl] at h2
  have h3:=range_rows (f:=rowCs img) (c:=12) (fun _=>rfl) (range_left h2)
  have h4:=range_right h2
  rw [show ((List.range 3).flatMap (rowCs img)).length = 36 from rfl] at h4
  refine (hraw O w hinv img pl'.r (pl'.base + o) hs (Array.getElem?_eq_some_iff.1 hB.heap).1 h1 h3 h4).mono ?_
  rintro e w' ⟨rfl,hb⟩
  exact ⟨_,β,rfl,VR_of_VR1 (by simp [VR1,AV.isAgg,LR,AV.rel]),.inl rfl,ext_back hm hdom htop ho hh hb⟩
end
open Go.Proofs Go.Shelf Go.RowKit
variable {P : Program} {ρ : Ren}
def hexAcc : Nat → List UInt8 → Option Nat
 | a,[]=>some a
 | a,c :: r=>match hexV c with
  | some d=>hexAcc (a * 16 + d) r
  | none=>none
def hexVal (e : Nat) : Option Nat → Value
 | some n=>.tuple #[.int .u64 n,.nilIface]
 | none=>.tuple #[.int .u64 0,.iface e (.int .i64 2)]
theorem hexLow (c : UInt8) : bits .or .u8 (c.toNat : Int) 32 = ((c ||| 32).toNat : Int):=by
 have : ∀ c : Fin 256,bits .or .u8 ((UInt8.ofNat c.val).toNat : Int) 32 = (((UInt8.ofNat c.val) ||| 32).toNat : Int):=by decide +kernel
 have e:=this ⟨c.toNat,c.toNat_lt⟩
 simpa using e
set_option maxHeartbeats 32000000 in
set_option maxRecDepth 100000 in
theorem pu16 (L : LaysPu.n16 P ρ) (t : ByteArray) (h2 : t.size = 2) (w : World) :
  Calls P (ρ.f 16) #[.string t,.int .i64 16,.int .i64 8] w fun e w'=>e = .returned (hexVal (ρ.t 34) (hexAcc 0 t.data.toList)) ∧ w' = Lib.bytesWorld w (ρ.t 5) t:=by
 have mixed:=L.mixed
 have t9:=L.t9; have a9:=L.a9; have z9:=L.z9; have v9:=L.v9
 have t3:=L.t3; have a3:=L.a3; have z3:=L.z3; have v3:=L.v3
 have t22:=L.t22; have a22:=L.a22; have z22:=L.z22; have v22:=L.v22
 have t24:=L.t24; have a24:=L.a24; have z24:=L.z24; have v24:=L.v24
 have t4:=L.t4; have a4:=L.a4; have z4:=L.z4; have v4:=L.v4
 have t34:=L.t34; have a34:=L.a34; have z34:=L.z34; have v34:=L.v34
 have t5:=L.t5; have a5:=L.a5; have z5:=L.z5; have v5:=L.v5
 have t36:=L.t36; have a36:=L.a36; have z36:=L.z36; have v36:=L.v36
 have t37:=L.t37; have a37:=L.a37; have z37:=L.z37; have v37:=L.v37
 have t0:=L.t0; have a0:=L.a0; have z0:=L.z0; have v0:=L.v0
 have e19 : ∀ args w,(callFunc (ρ.f 19) args).run P w = .ok (.enter (ρ.f 19) args) w:=enters_of L.f19 (by kernel_rfl) rfl
 have hemp : t.toList.isEmpty = false:=by
  rw [← decide_eq_emptyBytes]
  exact decide_eq_false (fun h=>by rw [h] at h2; simp at h2)
 have hcv:=Lib.run_convert_string_bytes (P:=P) w (ρ.t 9) (ρ.t 37) (ρ.t 5) t (u:=.string) L.t9 L.t37 L.t5
 have hB : ∀ j,j < 2 → (Lib.bytesWorld w (ρ.t 5) t).cell? ⟨w.heap.size,j,none⟩ = some (.int .u8 (t.data.toList.getD j 0).toNat):=fun j hj=>Lib.bytesWorld_cell w (ρ.t 5) t j (by omega)
 rw [h2] at hcv
 obtain ⟨W1,hW1⟩ : ∃ W1,W1 = Lib.bytesWorld w (ρ.t 5) t:=⟨_,rfl⟩
 rw [← hW1] at hcv hB ⊢
 clear hW1
 obtain ⟨bs,hL⟩ : ∃ bs,bs = t.data.toList:=⟨_,rfl⟩
 have hLn : bs.length = 2:=by rw [hL,← Lib.size_eq,h2]
 rw [← hL] at hB ⊢
 clear hL
 have hmv : IntKind.u64.wrap (IntKind.u64.wrap 256 - 1) = 255:=by
  rw [IntKind.wrap_u64,IntKind.wrap_u64]
  decide
 go_enter L.f16,BodyPu.n16_ntmps ρ
 go_wp2
 go_loop [12,13,101] (fun vu vn vi=>∃ (k acc : Nat) (a : Int),vu = .bool false ∧ vn = .int .u64 a ∧ vi = .int .i64 k ∧ k ≤ 2 ∧ Hid (a = (acc : Int) ∧ acc < 16 ^ k ∧ hexAcc 0 bs = hexAcc acc (bs.drop k)))
  (fun _ _ vi=>2 - (intOf vi).toNat)
 case atStart=>exact ⟨0,0,0,rfl,rfl,rfl,by omega,rfl,by omega,rfl⟩
 case round =>
  obtain ⟨k,acc,a,rfl,rfl,rfl,hk,hh⟩:=hrel
  obtain ⟨ha,hacc,hdec⟩:=hh.out
  clear hh
  by_cases hkn : k < 2
  ·have hc:=hB k hkn
   have hdrop : bs.drop k = bs[k]'(by omega) :: bs.drop (k + 1):=List.drop_eq_getElem_cons (by omega)
   have hget : bs.getD k 0 = bs[k]'(by omega):=by simp [List.getD,List.getElem?_eq_getElem (show k < bs.length by omega)]
   have hacc16 : acc < 16 ∧ 16 ^ (k + 1) ≥ 16 * acc + 16:=by
    obtain rfl | rfl : k = 0 ∨ k = 1:=by omega
    ·simp at hacc; subst hacc; simp
    ·simp at hacc; refine ⟨hacc,?_⟩; show 256 ≥ _; omega
   obtain ⟨hacc2,hpow⟩:=hacc16
   rw [hdrop] at hdec
   rw [hget] at hc
   generalize bs[k]'(by omega) = c at hc hdec
   have hc256 : c.toNat < 256:=c.toNat_lt
   clear hB hdrop hget
   by_cases hdig : 48 ≤ c.toNat ∧ c.toNat ≤ 57
   ·obtain ⟨hd0,hd1⟩:=hdig
    have hF : hexAcc acc (c :: bs.drop (k + 1)) = hexAcc (acc * 16 + (c.toNat - 48)) (bs.drop (k + 1)):=by simp [hexAcc,hexV,hd0,hd1]
    have HN : Hid (a * 16 + ((c.toNat : Int) - 48) = ((acc * 16 + (c.toNat - 48) : Nat) : Int) ∧ acc * 16 + (c.toNat - 48) < 16 ^ (k + 1) ∧ hexAcc 0 bs = hexAcc (acc * 16 + (c.toNat - 48)) (bs.drop (k + 1))):=Lib.hid ⟨by omega,by omega,hdec.trans hF⟩
    have a0 : 0 ≤ a:=by omega
    have a1 : a ≤ 15:=by omega
    have iov : a * 16 + ((c.toNat : Int) - 48) ≤ 255:=by omega
    clear hacc hF hdec ha hpow hacc2
    go_wp2
    refine ⟨⟨k + 1,acc * 16 + (c.toNat - 48),a * 16 + ((c.toNat : Int) - 48),rfl,(by first | rfl | (congr 1; omega)),(by first | rfl | (congr 1; omega)),by omega,HN⟩,by simp [intOf]; omega⟩
   ·obtain ⟨v,hv⟩ : ∃ v,v = (c ||| 32).toNat:=⟨_,rfl⟩
    have hv256 : v < 256:=by rw [hv]; exact UInt8.toNat_lt _
    have hlow : ∀ w,Calls P (ρ.f 19) #[.int .u8 (c.toNat : Int)] w fun e w'=>e = .returned (.int .u8 (v : Int)) ∧ w' = w:=fun w=>by
     have h:=AnyPu.internal_strconv_lower (P:=P) { L with } (c.toNat : Int) w
     rw [hexLow,← hv] at h
     exact h
    have ha0 : 0 ≤ a:=by omega
    have ha1 : a ≤ 15:=by omega
    by_cases hc95 : c.toNat = 95
    ·have hc' : (c.toNat : Int) = 95:=by omega
     have hv127 : v = 127:=by
      have : c = 95:=UInt8.toNat_inj.1 hc95
      rw [hv,this]; rfl
     have hF : hexAcc acc (c :: bs.drop (k + 1)) = none:=by
      have e : hexV c = none:=by unfold hexV; rw [if_neg hdig,← hv,hv127]; rfl
      simp only [hexAcc,e]
     rw [hF] at hdec
     rw [hc',hv127] at hlow
     clear hacc hF ha hpow hacc2 hv
     rw [hc'] at hc
     go_wp2_with (go_at_fn (ρ.f 19); refine (hlow _).mono ?_; rintro e w' ⟨rfl,rfl⟩)
     all_goals go_ret2
     all_goals first | exact ⟨rfl,rfl⟩ | exact ⟨by rw [hdec]; rfl,rfl⟩
    have hc95' : ¬(c.toNat : Int) = 95:=by omega
    by_cases hlet : 97 ≤ v ∧ v ≤ 102
    ·have hF : hexAcc acc (c :: bs.drop (k + 1)) = hexAcc (acc * 16 + (v - 87)) (bs.drop (k + 1)):=by
      have e : hexV c = some (v - 87):=by unfold hexV; rw [if_neg hdig,← hv,if_pos hlet]
      simp only [hexAcc,e]
     obtain ⟨hl0,hl1⟩:=hlet
     have HN : Hid (a * 16 + ((v : Int) - 97 + 10) = ((acc * 16 + (v - 87) : Nat) : Int) ∧ acc * 16 + (v - 87) < 16 ^ (k + 1) ∧ hexAcc 0 bs = hexAcc (acc * 16 + (v - 87)) (bs.drop (k + 1))):=Lib.hid ⟨by omega,by omega,hdec.trans hF⟩
     have iov : a * 16 + ((v : Int) - 97 + 10) ≤ 255:=by omega
     clear hacc hF hdec ha hpow hacc2 hv
     go_wp2_with (go_at_fn (ρ.f 19); refine (hlow _).mono ?_; rintro e w' ⟨rfl,rfl⟩)
     all_goals first
      | exact ⟨⟨k + 1,acc * 16 + (v - 87),a * 16 + ((v : Int) - 97 + 10),rfl,(by first | rfl | (congr 1; omega)),(by first | rfl | (congr 1; omega)),by omega,HN⟩,by simp [intOf]; omega⟩
      | skip
    ·have hF : hexAcc acc (c :: bs.drop (k + 1)) = none:=by
      have e : hexV c = none:=by unfold hexV; rw [if_neg hdig,← hv,if_neg hlet]
      simp only [hexAcc,e]
     rw [hF] at hdec
     clear hacc hF ha hpow hacc2 hv
     go_wp2_with (go_at_fn (ρ.f 19); refine (hlow _).mono ?_; rintro e w' ⟨rfl,rfl⟩)
     all_goals go_ret2
     all_goals first | exact ⟨rfl,rfl⟩ | exact ⟨by rw [hdec]; rfl,rfl⟩
  ·have hkk : k = 2:=by omega
   subst hkk
   have hF : hexAcc acc (bs.drop 2) = some acc:=by rw [List.drop_eq_nil_of_le (by omega)]; rfl
   rw [hF] at hdec
   subst ha
   clear hacc hF
   go_wp2
   go_ret2
   exact ⟨rfl,rfl⟩
theorem hexAcc_two (x y : UInt8) : hexAcc 0 [x,y] = hex2 ⟨#[x,y]⟩:=by
 simp only [hexAcc,hex2]
 cases hexV x with
 | none=>rfl
 | some p=>cases hexV y with
  | none=>rfl
  | some q=>simp only [Nat.zero_mul,Nat.zero_add,Nat.mul_comm p 16]
set_option maxHeartbeats 4000000 in
set_option maxRecDepth 100000 in
theorem puP (L : LaysPu.n14 P ρ) (t : ByteArray) (h2 : t.size = 2) (ev : Value) (w : World) (hv : w.cell? ⟨(ρ.g 0),0,none⟩ = some ev) (hev : ev = .nilIface ∨ ∃ te pe,ev = .iface te pe) :
  Calls P (ρ.f 14) #[.string t,.int .i64 16,.int .i64 8] w fun e w' =>
   (match hexAcc 0 t.data.toList with
    | some n=>e = .returned (.tuple #[.int .u64 n,.nilIface])
    | none=>∃ N,e = .returned (.tuple #[.int .u64 0,.iface (ρ.t 39) (.pointer (some ⟨N,0,none⟩))])) ∧ Below w.heap.size w w':=by
 have mixed:=L.mixed
 have t9:=L.t9; have a9:=L.a9; have z9:=L.z9; have v9:=L.v9
 have t3:=L.t3; have a3:=L.a3; have z3:=L.z3; have v3:=L.v3
 have t22:=L.t22; have a22:=L.a22; have z22:=L.z22; have v22:=L.v22
 have t24:=L.t24; have a24:=L.a24; have z24:=L.z24; have v24:=L.v24
 have t25:=L.t25; have a25:=L.a25; have z25:=L.z25; have v25:=L.v25
 have t4:=L.t4; have a4:=L.a4; have z4:=L.z4; have v4:=L.v4
 have e16 : ∀ args w,(callFunc (ρ.f 16) args).run P w = .ok (.enter (ρ.f 16) args) w:=enters_of L.f16 (by kernel_rfl) rfl
 have e17 : ∀ args w,(callFunc (ρ.f 17) args).run P w = .ok (.enter (ρ.f 17) args) w:=enters_of L.f17 (by kernel_rfl) rfl
 have hG : (ρ.g 0) < w.heap.size:=Lib.lt_of_cell hv
 have hI:=pu16 { L with } t h2 w
 cases h : hexAcc 0 t.data.toList with
 | some n =>
  rw [h] at hI
  have hI : Calls P (ρ.f 16) #[.string t,.int .i64 16,.int .i64 8] w fun e w'=>e = .returned (.tuple #[.int .u64 n,.nilIface]) ∧ w' = Lib.bytesWorld w (ρ.t 5) t:=hI
  clear h
  go_enter L.f14,BodyPu.n14_ntmps ρ
  go_wp2_with (go_at_fn (ρ.f 16); refine hI.mono ?_; rintro e W1 ⟨rfl,rfl⟩)
  go_wp2
  go_ret2
  exact ⟨rfl,Lib.bytesWorld_below _ _ _⟩
 | none =>
  rw [h] at hI
  have hI : Calls P (ρ.f 16) #[.string t,.int .i64 16,.int .i64 8] w fun e w'=>e = .returned (.tuple #[.int .u64 0,.iface (ρ.t 34) (.int .i64 2)]) ∧ w' = Lib.bytesWorld w (ρ.t 5) t:=hI
  clear h
  go_enter L.f14,BodyPu.n14_ntmps ρ
  go_wp2_with (go_at_fn (ρ.f 16); refine hI.mono ?_)
  rintro e W1 ⟨rfl,hW⟩
  have hb1 : Below w.heap.size w W1:=by rw [hW]; exact Lib.bytesWorld_below _ _ _
  have hv1 : W1.cell? ⟨(ρ.g 0),0,none⟩ = some ev:=(hb1.cell (show (⟨(ρ.g 0),0,none⟩ : Addr).block < w.heap.size from hG)).trans hv
  clear hW
  go_wp2_with (go_at_fn (ρ.f 17); refine (AnyPu.strconv_toError_syntax { L with } ⟨#[80,97,114,115,101,85,105,110,116]⟩ t 16 8 ev _ (by omega) ?_ hev).mono ?_)
  ·exact hv1
  rintro e W2 ⟨N,rfl,h1,h2,h3⟩
  go_wp2
  go_ret2
  exact ⟨⟨N,rfl⟩,hb1.trans (h3.mono hb1.size)⟩
open Go.Proofs Go.Shelf Go.RowKit
variable {P : Program} {ρ : Ren}
set_option maxHeartbeats 1000000 in
set_option maxRecDepth 100000 in
theorem copyCheck_T (L : Lays.n240 P ρ) (X : Builder.X72 P ρ) {T : TypeId} (hT : liesAt P P.depth T (2 / P.cellsOf T) 0 (ρ.t 72) 1 = true) (B b : Nat) (bs : List Value) (w : World) (h : Lib.IsBuilder T (ρ.t 5) B b bs w) :
  Calls P (ρ.f 240) #[.pointer (some ⟨b,0,none⟩)] w fun e w'=>e = .returned (.tuple #[]) ∧ (Lib.BuilderAt T (ρ.t 5) B b (.pointer (some ⟨b,0,none⟩)) bs w' ∧ Below B w w' ∧ Lib.OthersKept (ρ.t 5) (some b) w w'):=by
 rcases h with h | h
 ·have hgo : Calls P (ρ.f 240) #[.pointer (some ⟨b,0,none⟩)] w fun e w'=>e = .returned (.tuple #[]) ∧ w' = w.setCell ⟨b,0,none⟩ (.pointer (some ⟨b,0,none⟩)):=by
   have h0:=h.cell0
   have hsh:=h.shape
   have hfz:=h.frozen0
   obtain ⟨j,hj,hjs⟩:=Option.map_eq_some_iff.1 X.sizeBuilder
   have mixed:=L.mixed
   have t72:=L.t72; have a72:=L.a72; have z72:=L.z72; have v72:=L.v72; have u72:=run_underlying L.t72
   have t70:=L.t70; have a70:=L.a70; have z70:=L.z70; have v70:=L.v70; have u70:=run_underlying L.t70
   have t9:=L.t9; have a9:=L.a9; have z9:=L.z9; have v9:=L.v9; have u9:=run_underlying L.t9
   have t4:=L.t4; have a4:=L.a4; have z4:=L.z4; have v4:=L.v4; have u4:=run_underlying L.t4
   have t164:=L.t164; have a164:=L.a164; have z164:=L.z164; have v164:=L.v164; have u164:=run_underlying L.t164
   go_enter L.f240,Body.n240_ntmps ρ
   go_wp2
   rw [Lib.run_to_unsafe w ⟨b,0,none⟩ L.t70 L.t164 hj (by rw [hjs]; decide) hsh (Nat.zero_lt_succ 1)]
   simp only [Result.andThen]
   rw [Oper.upon_value]
   go_wp2
   rw [run_callFunc_extern L.f276 (by kernel_rfl) (by kernel_rfl) (by kernel_rfl) (e:=Extern.AbiNoEscape.same) (by kernel_rfl)]
   rw [Lib.run_noEscape]
   simp only [Result.andThen]
   rw [Oper.upon_value]
   go_wp2
   rw [Lib.run_from_unsafe w ⟨b,0,none⟩ L.t164 L.t70 hj hsh hT]
   simp only [Result.andThen]
   rw [Oper.upon_value]
   go_wp2
   go_end0
   exact ⟨rfl,rfl⟩
  refine hgo.mono ?_
  rintro e w' ⟨rfl,rfl⟩
  exact ⟨rfl,h.used _,(Below.refl B w).setCell (p:=⟨b,0,none⟩) h.1 _,(Lib.OthersKept.refl _ _ w).setCell ⟨b,0,none⟩ rfl _⟩
 ·refine (Any.Builder_copyCheck_used L X b w h.cell0).mono ?_
  rintro e w' ⟨rfl,rfl⟩
  exact ⟨rfl,h,Below.refl B _,Lib.OthersKept.refl _ _ _⟩
set_option maxHeartbeats 2000000 in
set_option maxRecDepth 100000 in
theorem writeString_T (L : Lays.n166 P ρ) (X : Builder.Extra P ρ) {T : TypeId} (hT : liesAt P P.depth T (2 / P.cellsOf T) 0 (ρ.t 72) 1 = true) (hT5 : T ≠ ρ.t 5) (B b : Nat) (bs : List Value) (s : ByteArray) (w : World) (h : Lib.IsBuilder T (ρ.t 5) B b bs w) (hlen : bs.length + s.size ≤ 140737488355328) (hBw : B ≤ w.heap.size) :
  Calls P (ρ.f 166) #[.pointer (some ⟨b,0,none⟩),.string s] w fun e w'=>e = .returned (.tuple #[.int .i64 s.size,.nilIface]) ∧ (Lib.IsBuilder T (ρ.t 5) B b (bs ++ Lib.strCells s) w' ∧ Below B w w' ∧ Lib.OthersKept (ρ.t 5) (some b) w w'):=by
 obtain ⟨i0,hi,hz0,hz1,hz2⟩:=info_parts X.infoByte
 have mixed:=L.mixed
 have t72:=L.t72; have a72:=L.a72; have z72:=L.z72; have v72:=L.v72; have u72:=run_underlying L.t72
 have t70:=L.t70; have a70:=L.a70; have z70:=L.z70; have v70:=L.v70; have u70:=run_underlying L.t70
 have t37:=L.t37; have a37:=L.a37; have z37:=L.z37; have v37:=L.v37; have u37:=run_underlying L.t37
 have t3:=L.t3; have a3:=L.a3; have z3:=L.z3; have v3:=L.v3; have u3:=run_underlying L.t3
 have t9:=L.t9; have a9:=L.a9; have z9:=L.z9; have v9:=L.v9; have u9:=run_underlying L.t9
 have t4:=L.t4; have a4:=L.a4; have z4:=L.z4; have v4:=L.v4; have u4:=run_underlying L.t4
 have t5:=X.t5; have a5:=X.a5; have z5:=X.z5; have v5:=X.v5; have u5:=run_underlying X.t5
 have e240 : ∀ args w,(callFunc (ρ.f 240) args).run P w = .ok (.enter (ρ.f 240) args) w:=enters_of L.f240 (by kernel_rfl) rfl
 go_enter L.f166,Body.n166_ntmps ρ
 go_wp2_with (go_at_fn (ρ.f 240); refine (copyCheck_T { L with } X.toX72 hT B b bs _ h).mono ?_)
 rintro e w1 ⟨rfl,⟨hB,v,hbk,hown,hne⟩,hb1,hk1⟩
 have c0 : w1.cell? ⟨b,0,none⟩ = some (.pointer (some ⟨b,0,none⟩)):=by rw [Lib.cell_of_heap hbk]; rfl
 have c1 : w1.cell? ⟨b,1,none⟩ = some v:=by rw [Lib.cell_of_heap hbk]; rfl
 go_wp2_with (at_builtin; refine Lib.wpList_append_own_string _ rfl _ _ (ρ.t 37) (ρ.t 9) rfl B (ρ.t 5) i0 L.t37 L.t9 hi hz0 hz1 hz2 _ _ _ rfl hown s rfl ?c3 ?c4 ?c5 ?_)
 case c3=>unfold maxLen; omega
 case c4=>omega
 case c5=>have:=hb1.size; omega
 intro v' w2 hown' hgrow _
 have hlt : b < w1.heap.size:=by
  rcases Nat.lt_or_ge b w1.heap.size with h' | h'
  ·exact h'
  ·simp [Array.getElem?_eq_none h'] at hbk
 have hb2 : w2.heap[b]? = some (.cells #[.pointer (some ⟨b,0,none⟩),v] T (0,0)):=by
  rw [hgrow.block b hlt (fun e=>hne e.symm)]
  exact hbk
 have d0 : w2.cell? ⟨b,0,none⟩ = some (.pointer (some ⟨b,0,none⟩)):=by rw [Lib.cell_of_heap hb2]; rfl
 have d1 : w2.cell? ⟨b,1,none⟩ = some v:=by rw [Lib.cell_of_heap hb2]; rfl
 have f1 : w2.frozen? ⟨b,1,none⟩ = false:=Lib.frozen_of_heap hb2 1
 obtain ⟨ao,n',cap,rfl⟩ : ∃ ao n' cap,v' = .slice ao n' cap:=by
  rcases hown'.2 with ⟨hv,_⟩ | ⟨g,cap,cur,hv,_⟩
  ·exact ⟨_,_,_,hv⟩
  ·exact ⟨_,_,_,hv⟩
 go_wp2
 go_ret2
 refine ⟨rfl,.inr ?_,?_,?_⟩
 ·exact Lib.BuilderAt.put (T:=T) (e:=(ρ.t 5)) hB hb2 (bs':=bs ++ Lib.strCells s) (by simpa [Lib.strCells_length] using hown') hT5
 ·exact (hb1.grown hgrow (by have:=hb1.size; omega) (fun k hk=>(hown.lt k hk).1)).setCell (p:=⟨b,1,none⟩) hB _
 ·refine (hk1.grown hgrow fun g hg=>?_).setCell ⟨b,1,none⟩ rfl _
  rcases hown.2 with ⟨rfl,_⟩ | ⟨g',cap,cur,rfl,_,hgg,_⟩
  ·simp [Value.ownBlock] at hg
  ·simp only [Value.ownBlock,Option.some.injEq] at hg
   exact ⟨cur,_,by rw [← hg]; exact hgg⟩
set_option maxHeartbeats 2000000 in
set_option maxRecDepth 100000 in
theorem string_core (L : Lays.n169 P ρ) (X : Builder.Extra P ρ) (b n c : Nat) (ao : Option Addr) (q : Value) (s : ByteArray) (w w1 w2 : World)
  (c1 : w.drew.cell? ⟨b,1,none⟩ = some (.slice ao n c)) (c2 : w1.cell? ⟨b,1,none⟩ = some (.slice ao n c)) (c0 : w.cell? ⟨b,1,none⟩ = some (.slice ao n c))
  (hSD : (Builtin.unsafeSliceData_ #[(ρ.t 37)] (ρ.t 127) #[.slice ao n c]).run P w.drew = .ok q w1)
  (hUS : (Builtin.unsafeString_ #[(ρ.t 127),(ρ.t 3)] (ρ.t 9) #[q,.int .i64 n]).run P w1 = .ok (.string s) w2) :
  Calls P (ρ.f 169) #[.pointer (some ⟨b,0,none⟩)] w fun e w'=>e = .returned (.string s) ∧ w' = w2:=by
 have mixed:=L.mixed
 have t72:=L.t72; have a72:=L.a72; have z72:=L.z72; have v72:=L.v72; have u72:=run_underlying L.t72
 have t70:=L.t70; have a70:=L.a70; have z70:=L.z70; have v70:=L.v70; have u70:=run_underlying L.t70
 have t37:=L.t37; have a37:=L.a37; have z37:=L.z37; have v37:=L.v37; have u37:=run_underlying L.t37
 have t127:=L.t127; have a127:=L.a127; have z127:=L.z127; have v127:=L.v127; have u127:=run_underlying L.t127
 have t3:=L.t3; have a3:=L.a3; have z3:=L.z3; have v3:=L.v3; have u3:=run_underlying L.t3
 have t9:=L.t9; have a9:=L.a9; have z9:=L.z9; have v9:=L.v9; have u9:=run_underlying L.t9
 have t5:=X.t5; have a5:=X.a5; have z5:=X.z5; have v5:=X.v5; have u5:=run_underlying X.t5
 go_enter L.f169,Body.n169_ntmps ρ
 go_wp2
 go_region_o
 all_goals (go_wp2; go_ret; exact ⟨rfl,rfl⟩)
theorem string_T (L : Lays.n169 P ρ) (X : Builder.Extra P ρ) {T : TypeId} (B b : Nat) (l : List UInt8) (w : World) (h : Lib.IsBuilder T (ρ.t 5) B b (Lib.byteCells l) w) (hBw : B ≤ w.heap.size) :
  Calls P (ρ.f 169) #[.pointer (some ⟨b,0,none⟩)] w fun e w'=>e = .returned (.string ⟨l.toArray⟩) ∧ Below B w w':=by
 obtain ⟨p,hB,v,hbk,hown,hne⟩ : ∃ p,Lib.BuilderAt T (ρ.t 5) B b p (Lib.byteCells l) w:=by
  rcases h with h | h
  ·exact ⟨_,h⟩
  ·exact ⟨_,h⟩
 have hlt : b < w.heap.size:=by
  rcases Nat.lt_or_ge b w.heap.size with h' | h'
  ·exact h'
  ·simp [Array.getElem?_eq_none h'] at hbk
 have hcell : ∀ {u : World},u.heap[b]? = some (.cells #[p,v] T (0,0)) → u.cell? ⟨b,1,none⟩ = some v:=fun hu=>by rw [Lib.cell_of_heap hu]; rfl
 have c1 : w.drew.cell? ⟨b,1,none⟩ = some v:=hcell hbk
 have c0 : w.cell? ⟨b,1,none⟩ = some v:=hcell hbk
 rw [Lib.byteCells_length] at hown
 have hnone : ∀ (W : World) (q : Option Addr),(Builtin.unsafeString_ #[(ρ.t 127),(ρ.t 3)] (ρ.t 9) #[.pointer q,.int .i64 0]).run P W = .ok (.string .empty) W:=Any.unsafeString_none L X
 rcases hown.2 with ⟨rfl,h0⟩ | ⟨g,cap,cur,rfl,hbg,hg,hnc,hcm,hcs,htake⟩
 ·have hl : l = []:=by simpa using h0
  subst hl
  refine (string_core L X b 0 0 none (.pointer none) _ w w.drew w.drew c1 c1 c0 rfl (hnone _ _)).mono ?_
  rintro e w' ⟨rfl,rfl⟩
  exact ⟨rfl,Below.drew (Below.refl B w)⟩
 ·have hgd : w.drew.heap[g]? = some (.cells cur (ρ.t 5) (0,0)):=hg
  by_cases hl : l = []
  ·subst hl
   by_cases hc0 : cap = 0
   ·subst hc0
    have hSD : (Builtin.unsafeSliceData_ #[(ρ.t 37)] (ρ.t 127) #[.slice (some ⟨g,0,none⟩) 0 0]).run P w.drew = .ok (.pointer (some ⟨w.drew.heap.size,0,none⟩)) (w.drew.alloc (.view ⟨g,0,none⟩ (ρ.t 5))) :=
     Lib.run_unsafeSliceData_zero w.drew _ _ (ρ.t 5) L.t127 ⟨g,0,none⟩ 0 ((ρ.t 5),cur.size) (by simp [World.shape?,hgd])
    refine (string_core L X b 0 0 _ _ _ w _ _ c1 (hcell ((Lib.alloc_old w.drew _ b hlt).trans hbk)) c0 hSD (hnone _ _)).mono ?_
    rintro e w' ⟨rfl,rfl⟩
    exact ⟨rfl,(Below.drew (Below.refl B w)).alloc hBw _⟩
   ·refine (string_core L X b 0 cap _ _ _ w _ _ c1 c1 c0 (Lib.run_unsafeSliceData_row _ _ _ _ _ _ hc0) (hnone _ _)).mono ?_
    rintro e w' ⟨rfl,rfl⟩
    exact ⟨rfl,Below.drew (Below.refl B w)⟩
  ·have hl0 : l.length ≠ 0:=by simpa using hl
   have hUS : (Builtin.unsafeString_ #[(ρ.t 127),(ρ.t 3)] (ρ.t 9) #[.pointer (some ⟨g,0,none⟩),.int .i64 l.length]).run P w.drew = .ok (.string ⟨l.toArray⟩) (w.drew.freeze ⟨g,0,none⟩ l.length):=by
    refine Lib.run_unsafeString_row w.drew (ρ.t 127) (ρ.t 3) (ρ.t 9) (ρ.t 5) L.t127 X.cellsByte g cur.size (by simp [World.shape?,hgd]) l hl (by omega) (by unfold maxLen at hcm; omega) ?_
    intro j x hx
    have:=hown.cells (g:=g) rfl j (.int .u8 x.toNat) (by simp [Lib.byteCells,hx])
    exact this
   refine (string_core L X b l.length cap _ _ _ w _ _ c1 c1 c0 (Lib.run_unsafeSliceData_row _ _ _ _ _ _ (by omega)) hUS).mono ?_
   rintro e w' ⟨rfl,rfl⟩
   exact ⟨rfl,Lib.below_freeze (Below.drew (Below.refl B w)) (p:=⟨g,0,none⟩) hbg _⟩
open Go.Proofs Go.Shelf Go.RowKit
variable {P : Program}
theorem grown_of_below {w w' : World} (h : Below w.heap.size w w') : w.grownBy w' none:=⟨h.os,h.tape,h.output,h.size,fun k hk _=>h.block k hk⟩
theorem isBuilder_below {T e : TypeId} {B b : Nat} {bs : List Value} {w w' : World} (h : Lib.IsBuilder T e B b bs w) (hb : Below w.heap.size w w') : Lib.IsBuilder T e B b bs w':=by
 have key : ∀ p,Lib.BuilderAt T e B b p bs w → Lib.BuilderAt T e B b p bs w':=fun p h=>by
  have hlt:=h.lt
  obtain ⟨hB,v,hh,hown,hne⟩:=h
  exact ⟨hB,v,(hb.block b hlt).trans hh,hown.kept (grown_of_below hb) (by cases hv : v.ownBlock <;> simp),hne⟩
 exact h.imp (key _) (key _)
theorem tab_below {w w' : World} {name : String} {k : IntKind} {zs : List Int} (h : Lib.TabIs P w name k zs) (hb : Below w.heap.size w w') : Lib.TabIs P w' name k zs:=by
 unfold Lib.TabIs World.var? at *
 cases hg : P.globalNamed name with
 | none=>simp [hg] at h
 | some g =>
  simp only [hg,Option.bind_some] at h ⊢
  have hlt : g < w.heap.size:=by
   rcases Nat.lt_or_ge g w.heap.size with h' | h'
   ·exact h'
   ·rw [Array.getElem?_eq_none h'] at h; simp at h
  rw [hb.block g hlt]
  exact h
theorem isBuilder_lt {T e : TypeId} {B b : Nat} {bs : List Value} {w : World} (h : Lib.IsBuilder T e B b bs w) : b < w.heap.size:=h.elim (fun h=>h.lt) (fun h=>h.lt)
end Go.Mini
