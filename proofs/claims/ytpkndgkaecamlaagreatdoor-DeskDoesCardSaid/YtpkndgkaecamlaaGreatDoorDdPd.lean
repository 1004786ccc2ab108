/- A part of the proof: what Dd computes, step by step. -/
import Derived.Test.YtpkndgkaecamlaaGreatDoorDdPc

set_option linter.unusedSimpArgs false
set_option linter.unusedVariables false
set_option maxHeartbeats 4000000
set_option maxRecDepth 100000
set_option linter.unusedSectionVars false
set_option linter.unnecessarySimpa false
namespace Go.Mini
def dh(now disk:Img)(d s:Nat):Ent:=
 let a:=now.ent d s
 let b:=disk.ent d s
 if a=b then b
 else if b.name=⟨#[]⟩then
  if a.ino<0\/8<=a.ino then b
  else if(disk.ino a.ino.toNat).live=true/\(disk.ino a.ino.toNat).stamp=a.stamp/\(refs disk a.ino:Int)<(disk.ino a.ino.toNat).links then a else b
 else if 1<refs disk b.ino\/refs now b.ino=0 then Ent.zero else b
variable{d n s:Nat}
section
variable{cx:Cx}{h:HP}{p p':Id}{q q':List Nat}{m m':Img}
theorem CZ(hd:d<3)(hs:s<4)(hb:p.below cx.lvl)(hm:h.rd p q=some m.enc)(hb':p'.below cx.lvl)(hm':h.rd p' q'=some m'.enc):
  Ok tbl cx Fn.bM (St.enter [.ptr p q ac,.ptr p' q' ac,.int .i64 d,.int .i64 s] h) fun v h'=>v=(dh m m' d s).enc/\h'=h:=by
 rw[aE]
 simp(disch:=omega)only[go_sem,aw hb,HP.rd_app hm,au hb,af hb,ah hb,aw hb',HP.rd_app hm',au hb',af hb',ah hb']
 by_cases h1:m.ent d s=m'.ent d s
 ·simp(disch:=omega)only[go_sem,h1];simp[dh,h1]
 simp(disch:=omega)only[go_sem,h1]
 by_cases h2:(m'.ent d s).name=⟨#[]⟩
 ·simp(disch:=omega)only[go_sem,h2]
  by_cases h3:(m.ent d s).ino<0
  ·simp(disch:=omega)only[go_sem,h3];simp[dh,h1,h2,h3]
  by_cases h4:8<=(m.ent d s).ino
  ·simp(disch:=omega)only[go_sem,h2,h3,h4];simp[dh,h1,h2,h3,h4]
  simp(disch:=omega)only[go_sem,h2,h3,h4,aw hb,HP.rd_app hm,au hb,af hb,ah hb,aw hb',HP.rd_app hm',au hb',af hb',ah hb']
  have h34:¬((m.ent d s).ino<0\/8<=(m.ent d s).ino):=by omega
  by_cases h5:(m'.ino (m.ent d s).ino.toNat).live=true
  ·simp(disch:=omega)only[go_sem,h5]
   by_cases h6:(m'.ino (m.ent d s).ino.toNat).stamp=(m.ent d s).stamp
   ·simp(disch:=omega)only[go_sem,h6]
    refine am rfl ⟨rfl,rfl⟩ (by simp only[go_sem];exact mf (m:=m') hb'.succ (by simp only[HP.push_rd_ext hb',hm'])) ?_
    simp(disch:=omega)only[go_sem,h6]
    refine dq (fun h7=>?_) (fun h7=>?_)<;>simp(disch:=omega)only[go_sem,h7]
    ·simp at h7
     simp[dh,h1,h2,h34,h5,h6,h7]
    ·simp at h7
     have h8:¬(refs m' (m.ent d s).ino:Int)<(m'.ino (m.ent d s).ino.toNat).links:=by omega
     simp[dh,h1,h2,h34,h5,h6,h8]
   ·simp(disch:=omega)only[go_sem,h6]
    simp[dh,h1,h2,h34,h5,h6]
  ·simp(disch:=omega)only[go_sem,h5]
   simp[dh,h1,h2,h34,h5]
 ·simp(disch:=omega)only[go_sem,h2,aw hb,HP.rd_app hm,au hb,af hb,ah hb,aw hb',HP.rd_app hm',au hb',af hb',ah hb']
  refine am rfl ⟨rfl,rfl⟩ (by simp only[go_sem];exact mf (m:=m') hb'.succ (by simp only[HP.push_rd_ext hb',hm'])) ?_
  simp(disch:=omega)only[go_sem,h2,aw hb,HP.rd_app hm,au hb,af hb,ah hb,aw hb',HP.rd_app hm',au hb',af hb',ah hb']
  refine fd (fun h3=>?_) (fun h3=>?_)<;>simp(disch:=omega)only[go_sem,h3,aw hb,HP.rd_app hm,au hb,af hb,ah hb,aw hb',HP.rd_app hm',au hb',af hb',ah hb']
  ·refine am rfl ⟨rfl,rfl⟩ (by simp only[go_sem];exact mf (m:=m) hb.succ (by simp only[HP.push_rd_ext hb,hm])) ?_
   simp(disch:=omega)only[go_sem,h2,aw hb,HP.rd_app hm,au hb,af hb,ah hb,aw hb',HP.rd_app hm',au hb',af hb',ah hb']
   refine dq (fun h4=>?_) (fun h4=>?_)<;>simp(disch:=omega)only[go_sem,h4,aw hb,HP.rd_app hm,au hb,af hb,ah hb,aw hb',HP.rd_app hm',au hb',af hb',ah hb']
   ·simp at h3 h4
    simp[dh,h1,h2,h3,h4]
   ·simp at h3 h4
    have h5:¬1<refs m' (m'.ent d s).ino:=by omega
    simp[dh,h1,h2,h3,h4,h5]
  ·simp at h3
   have h5:1<refs m' (m'.ent d s).ino:=by omega
   simp[dh,h1,h2,h5]
theorem yg(hd:d<3)(hs:s<4)(hb:p.below cx.lvl)(hm:h.rd p q=some m.enc)(hb':p'.below cx.lvl)(hm':h.rd p' q'=some m'.enc):
  Ok tbl cx Fn.bU (St.enter [.ptr p q ac,.ptr p' q' ac,.int .i64 d,.int .i64 s] h) fun v h'=>v=(dh m m' d s).enc/\h'=h:=by
 rw[aE]
 simp(disch:=omega)only[go_sem,aw hb,HP.rd_app hm,au hb,af hb,ah hb,aw hb',HP.rd_app hm',au hb',af hb',ah hb']
 by_cases h1:m.ent d s=m'.ent d s
 ·simp(disch:=omega)only[go_sem,h1];simp[dh,h1]
 simp(disch:=omega)only[go_sem,h1]
 by_cases h2:(m'.ent d s).name=⟨#[]⟩
 ·simp(disch:=omega)only[go_sem,h2]
  by_cases h3:(m.ent d s).ino<0
  ·simp(disch:=omega)only[go_sem,h3];simp[dh,h1,h2,h3]
  by_cases h4:8<=(m.ent d s).ino
  ·simp(disch:=omega)only[go_sem,h2,h3,h4];simp[dh,h1,h2,h3,h4]
  simp(disch:=omega)only[go_sem,h2,h3,h4,aw hb,HP.rd_app hm,au hb,af hb,ah hb,aw hb',HP.rd_app hm',au hb',af hb',ah hb']
  have h34:¬((m.ent d s).ino<0\/8<=(m.ent d s).ino):=by omega
  by_cases h5:(m'.ino (m.ent d s).ino.toNat).live=true
  ·simp(disch:=omega)only[go_sem,h5]
   by_cases h6:(m'.ino (m.ent d s).ino.toNat).stamp=(m.ent d s).stamp
   ·simp(disch:=omega)only[go_sem,h6]
    refine am rfl ⟨rfl,rfl⟩ (by simp only[go_sem];exact j6 (m:=m') hb'.succ (by simp only[HP.push_rd_ext hb',hm'])) ?_
    simp(disch:=omega)only[go_sem,h6]
    refine dq (fun h7=>?_) (fun h7=>?_)<;>simp(disch:=omega)only[go_sem,h7]
    ·simp at h7
     simp[dh,h1,h2,h34,h5,h6,h7]
    ·simp at h7
     have h8:¬(refs m' (m.ent d s).ino:Int)<(m'.ino (m.ent d s).ino.toNat).links:=by omega
     simp[dh,h1,h2,h34,h5,h6,h8]
   ·simp(disch:=omega)only[go_sem,h6]
    simp[dh,h1,h2,h34,h5,h6]
  ·simp(disch:=omega)only[go_sem,h5]
   simp[dh,h1,h2,h34,h5]
 ·simp(disch:=omega)only[go_sem,h2,aw hb,HP.rd_app hm,au hb,af hb,ah hb,aw hb',HP.rd_app hm',au hb',af hb',ah hb']
  refine am rfl ⟨rfl,rfl⟩ (by simp only[go_sem];exact j6 (m:=m) hb.succ (by simp only[HP.push_rd_ext hb,hm])) ?_
  simp(disch:=omega)only[go_sem,h2,aw hb,HP.rd_app hm,au hb,af hb,ah hb,aw hb',HP.rd_app hm',au hb',af hb',ah hb']
  refine fd (fun h3=>?_) (fun h3=>?_)<;>simp(disch:=omega)only[go_sem,h3,aw hb,HP.rd_app hm,au hb,af hb,ah hb,aw hb',HP.rd_app hm',au hb',af hb',ah hb']
  ·refine am rfl ⟨rfl,rfl⟩ (by simp only[go_sem];exact j6 (m:=m') hb'.succ (by simp only[HP.push_rd_ext hb',hm'])) ?_
   simp(disch:=omega)only[go_sem,h2,aw hb,HP.rd_app hm,au hb,af hb,ah hb,aw hb',HP.rd_app hm',au hb',af hb',ah hb']
   refine dq (fun h4=>?_) (fun h4=>?_)<;>simp(disch:=omega)only[go_sem,h4,aw hb,HP.rd_app hm,au hb,af hb,ah hb,aw hb',HP.rd_app hm',au hb',af hb',ah hb']
   ·simp at h3 h4
    have h5:1<refs m' (m'.ent d s).ino:=by omega
    simp[dh,h1,h2,h3,h5]
   ·simp at h3 h4
    have h5:¬1<refs m' (m'.ent d s).ino:=by omega
    simp[dh,h1,h2,h3,h4,h5]
  ·simp at h3
   simp[dh,h1,h2,h3]
end
def wrInodes(now disk:Img)(n:Nat):Nat->Img
 |0=>disk
 |k+1=>(wrInodes now disk n k).setIno (n+k) (fY now disk (n+k))
def wrDir(now disk:Img)(d:Nat):Nat->Img
 |0=>disk
 |k+1=>(wrDir now disk d k).setEnt d k (dh now (wrDir now disk d k) d k)
def writeAs(now disk:Img)(b:Int):Img×Bool:=
 if(cj b).1=fX then(wrInodes now disk (cj b).2.toNat 4,true)
 else if(cj b).1=m8 then(wrDir now disk (cj b).2.toNat 4,true)
 else if(cj b).1=jw then(disk.setDat (cj b).2.toNat (now.dat (cj b).2.toNat),true)
 else(disk,false)
theorem fH(b:Int):(∃n:Nat,n<=4/\cj b=(fX,(n:Int)))\/(∃n:Nat,n<3/\cj b=(m8,(n:Int)))\/(∃n:Nat,n<9/\cj b=(jw,(n:Int)))\/cj b=(kT,0):=by
 unfold cj
 by_cases h1:b<0\/14<=b
 ·simp[h1]
 by_cases h2:b<2
 ·refine .inl ⟨(b*4).toNat,by omega,?_⟩
  rw[if_neg h1,if_pos h2];congr 1;omega
 by_cases h3:b<5
 ·refine .inr (.inl ⟨(b-2).toNat,by omega,?_⟩)
  rw[if_neg h1,if_neg h2,if_pos h3];congr 1;omega
 ·refine .inr (.inr (.inl ⟨(b-5).toNat,by omega,?_⟩))
  rw[if_neg h1,if_neg h2,if_neg h3];congr 1;omega
theorem JH:decide (fX=⟨#[105,110,111,100,101,115]⟩)=true:=by decide
theorem JI:decide (m8=⟨#[105,110,111,100,101,115]⟩)=false:=by decide
theorem JK:decide (jw=⟨#[105,110,111,100,101,115]⟩)=false:=by decide
theorem JE:decide (kT=⟨#[105,110,111,100,101,115]⟩)=false:=by decide
theorem JJ:decide (m8=⟨#[100,105,114]⟩)=true:=by decide
theorem JL:decide (jw=⟨#[100,105,114]⟩)=false:=by decide
theorem JF:decide (kT=⟨#[100,105,114]⟩)=false:=by decide
theorem JM:decide (jw=⟨#[100,97,116,97]⟩)=true:=by decide
theorem JG:decide (kT=⟨#[100,97,116,97]⟩)=false:=by decide
theorem NM:decide (fX=⟨#[]⟩)=false:=by decide
theorem NN:decide (m8=⟨#[]⟩)=false:=by decide
theorem NO:decide (jw=⟨#[]⟩)=false:=by decide
theorem NL:decide (kT=⟨#[]⟩)=true:=by decide
attribute[go_sem] JH JI JK JE JJ JL JF JM JG NM NN NO NL
theorem EV:(m8=fX)=False:=eq_false (by decide)
theorem EW:(jw=fX)=False:=eq_false (by decide)
theorem ES:(kT=fX)=False:=eq_false (by decide)
theorem EX:(jw=m8)=False:=eq_false (by decide)
theorem ET:(kT=m8)=False:=eq_false (by decide)
theorem EU:(kT=jw)=False:=eq_false (by decide)
@[go_sem] theorem Hu(a b:Nat):((a:Int)+(b:Int)).toNat=a+b:=by omega
section
variable{m m':Img}{b:Int}{n:Nat}
theorem lM(e:cj b=(fX,(n:Int))):writeAs m m' b=(wrInodes m m' n 4,true):=by simp only[writeAs,e,if_true,Int.toNat_natCast]
theorem lN(e:cj b=(m8,(n:Int))):writeAs m m' b=(wrDir m m' n 4,true):=by simp only[writeAs,e,if_true,if_false,EV,Int.toNat_natCast]
theorem lO(e:cj b=(jw,(n:Int))):writeAs m m' b=(m'.setDat n (m.dat n),true):=by simp only[writeAs,e,if_true,if_false,EW,EX,Int.toNat_natCast]
theorem lL(e:cj b=(kT,0)):writeAs m m' b=(m',false):=by simp only[writeAs,e,if_true,if_false,ES,ET,EU]
end
section
variable{cx:Cx}{h:HP}{p p':Id}{q q':List Nat}{m m':Img}
theorem Cj{b:Int}(hb:p.below cx.lvl)(hm:h.rd p q=some m.enc)(hb':p'.below cx.lvl)(hm':h.rd p' q'=some m'.enc):
  Ok tbl cx Fn.aY (St.enter [.ptr p q ac,.ptr p' q' ac,.int .i64 b] h) fun v h'=>v=.tup (.cons (writeAs m m' b).1.enc (.cons (.bool (writeAs m m' b).2) .unit))/\h'=h:=by
 rw[aE]
 have hm0:h.rd p' q'=some m'.enc:=hm'
 simp(disch:=omega)only[go_sem,aw hb,HP.rd_app hm,au hb,af hb,ah hb,aw hb',HP.rd_app hm',au hb',af hb',ah hb',hm0]
 refine am rfl ⟨rfl,rfl⟩ (by simp only[go_sem];exact wR) ?_
 simp(disch:=omega)only[go_sem]
 obtain⟨n,hn,e⟩|⟨n,hn,e⟩|⟨n,hn,e⟩|e:=fH b
 ·simp(disch:=omega)only[go_sem,e]
  refine fo 4 (fun j=>⟨[(0,.ptr p q ac),(1,.ptr p' q' ac),(6,.ptr (.stk cx.lvl 6) [] ac),(8,.ptr (.stk cx.lvl 8) [] ac),(10,.int .i64 n),(11,.int .i64 (n+j:Nat))],
   [(6,⟨ac,Img.zero.enc⟩),(8,⟨ac,(wrInodes m m' n j).enc⟩)],h⟩) (by simp only[go_sem,wrInodes,Nat.add_zero]) fun j hj ih=>?_
  by_cases hlt:j<4
  ·simp(disch:=omega)only[go_sem,aw hb,HP.rd_app hm,au hb,af hb,ah hb,aw hb',HP.rd_app hm',au hb',af hb',ah hb',hlt]
   refine am rfl ⟨rfl,rfl⟩ (by simp only[go_sem];rw[←Int.natCast_add];exact CU (m:=m) (m':=m') (n:=n+j) (by omega) hb.succ (by simp only[HP.push_rd_ext hb,hm]) hb'.succ (by simp only[HP.push_rd_ext hb',hm'])) ?_
   simp(disch:=omega)only[go_sem,aw hb,HP.rd_app hm,au hb,af hb,ah hb,aw hb',HP.rd_app hm',au hb',af hb',ah hb',hlt]
   refine ih _ hlt ?_
   simp only[go_sem,wrInodes,Int.add_assoc]
  ·obtain rfl:j=4:=by omega
   simp(disch:=omega)only[go_sem,lM e]
 ·simp(disch:=omega)only[go_sem,e]
  refine fo 4 (fun j=>⟨[(0,.ptr p q ac),(6,.ptr (.stk cx.lvl 6) [] ac),(8,.ptr (.stk cx.lvl 8) [] ac),(10,.int .i64 n),(43,.int .i64 j)],
   [(6,⟨ac,Img.zero.enc⟩),(8,⟨ac,(wrDir m m' n j).enc⟩)],h⟩) (by simp only[go_sem,wrDir]<;>rfl) fun j hj ih=>?_
  by_cases hlt:j<4
  ·simp(disch:=omega)only[go_sem,aw hb,HP.rd_app hm,au hb,af hb,ah hb,aw hb',HP.rd_app hm',au hb',af hb',ah hb',hlt]
   refine am rfl ⟨rfl,rfl⟩ (by simp only[go_sem];exact CZ (m:=m) (m':=wrDir m m' n j) hn hlt hb.succ (by simp only[HP.push_rd_ext hb,hm]) (cV _ _) (by simp only[go_sem,HP.push_rd_own])) ?_
   simp(disch:=omega)only[go_sem,aw hb,HP.rd_app hm,au hb,af hb,ah hb,aw hb',HP.rd_app hm',au hb',af hb',ah hb',hlt]
   refine ih _ hlt ?_
   simp only[go_sem,wrDir]
  ·obtain rfl:j=4:=by omega
   simp(disch:=omega)only[go_sem,lN e]
 ·simp(disch:=omega)only[go_sem,e,aw hb,HP.rd_app hm,au hb,af hb,ah hb,aw hb',HP.rd_app hm',au hb',af hb',ah hb',lO e]
 ·simp(disch:=omega)only[go_sem,e,aw hb,HP.rd_app hm,au hb,af hb,ah hb,aw hb',HP.rd_app hm',au hb',af hb',ah hb',hm0,lL e]
theorem xZ{b:Int}(hb:p.below cx.lvl)(hm:h.rd p q=some m.enc)(hb':p'.below cx.lvl)(hm':h.rd p' q'=some m'.enc):
  Ok tbl cx Fn.bG (St.enter [.ptr p q ac,.ptr p' q' ac,.int .i64 b] h) fun v h'=>v=.tup (.cons (writeAs m m' b).1.enc (.cons (.bool (writeAs m m' b).2) .unit))/\h'=h:=by
 rw[aE]
 have hm0:h.rd p' q'=some m'.enc:=hm'
 simp(disch:=omega)only[go_sem,aw hb,HP.rd_app hm,au hb,af hb,ah hb,aw hb',HP.rd_app hm',au hb',af hb',ah hb',hm0]
 refine am rfl ⟨rfl,rfl⟩ (by simp only[go_sem];exact rV) ?_
 simp(disch:=omega)only[go_sem]
 obtain⟨n,hn,e⟩|⟨n,hn,e⟩|⟨n,hn,e⟩|e:=fH b
 ·simp(disch:=omega)only[go_sem,e]
  refine fo 4 (fun j=>⟨[(0,.ptr p q ac),(1,.ptr p' q' ac),(6,.ptr (.stk cx.lvl 6) [] ac),(8,.ptr (.stk cx.lvl 8) [] ac),(9,.str fX),(10,.int .i64 n),(11,.int .i64 j)],
   [(6,⟨ac,Img.zero.enc⟩),(8,⟨ac,(wrInodes m m' n j).enc⟩)],h⟩) (by simp only[go_sem,wrInodes,Nat.add_zero]<;>rfl) fun j hj ih=>?_
  by_cases hlt:j<4
  ·simp(disch:=omega)only[go_sem,aw hb,HP.rd_app hm,au hb,af hb,ah hb,aw hb',HP.rd_app hm',au hb',af hb',ah hb',hlt]
   refine am rfl ⟨rfl,rfl⟩ (by simp only[go_sem];rw[←Int.natCast_add];exact ye (m:=m) (m':=m') (n:=n+j) (by omega) hb.succ (by simp only[HP.push_rd_ext hb,hm]) hb'.succ (by simp only[HP.push_rd_ext hb',hm'])) ?_
   simp(disch:=omega)only[go_sem,aw hb,HP.rd_app hm,au hb,af hb,ah hb,aw hb',HP.rd_app hm',au hb',af hb',ah hb',hlt]
   refine ih _ hlt ?_
   simp only[go_sem,wrInodes,Int.add_assoc]
  ·obtain rfl:j=4:=by omega
   simp(disch:=omega)only[go_sem,lM e]
 ·simp(disch:=omega)only[go_sem,e]
  refine fo 4 (fun j=>⟨[(0,.ptr p q ac),(6,.ptr (.stk cx.lvl 6) [] ac),(8,.ptr (.stk cx.lvl 8) [] ac),(9,.str m8),(10,.int .i64 n),(12,.int .i64 j)],
   [(6,⟨ac,Img.zero.enc⟩),(8,⟨ac,(wrDir m m' n j).enc⟩)],h⟩) (by simp only[go_sem,wrDir]<;>rfl) fun j hj ih=>?_
  by_cases hlt:j<4
  ·simp(disch:=omega)only[go_sem,aw hb,HP.rd_app hm,au hb,af hb,ah hb,aw hb',HP.rd_app hm',au hb',af hb',ah hb',hlt]
   refine am rfl ⟨rfl,rfl⟩ (by simp only[go_sem];exact yg (m:=m) (m':=wrDir m m' n j) hn hlt hb.succ (by simp only[HP.push_rd_ext hb,hm]) (cV _ _) (by simp only[go_sem,HP.push_rd_own])) ?_
   simp(disch:=omega)only[go_sem,aw hb,HP.rd_app hm,au hb,af hb,ah hb,aw hb',HP.rd_app hm',au hb',af hb',ah hb',hlt]
   refine ih _ hlt ?_
   simp only[go_sem,wrDir]
  ·obtain rfl:j=4:=by omega
   simp(disch:=omega)only[go_sem,lN e]
 ·simp(disch:=omega)only[go_sem,e,aw hb,HP.rd_app hm,au hb,af hb,ah hb,aw hb',HP.rd_app hm',au hb',af hb',ah hb',lO e]
 ·simp(disch:=omega)only[go_sem,e,aw hb,HP.rd_app hm,au hb,af hb,ah hb,aw hb',HP.rd_app hm',au hb',af hb',ah hb',hm0,lL e]
@[go_sem] theorem KM(a:Int)(s:Str):fill cf Dat.zero.enc [(0,.int .i64 a),(1,.str s)]=some (Dat.enc ⟨a,s⟩):=rfl
@[go_sem] theorem KL(s:Str)(a b:Int):fill aq Ent.zero.enc [(0,.str s),(1,.int .i64 a),(2,.int .i64 b)]=some (Ent.enc ⟨s,a,b⟩):=rfl
end
theorem DD(m:Img)(n:Int):refs m n<=12:=fW (fun d=>i7 m n d 4) 3
theorem Ag(m m':Img)(n:Int):both m m' n<=12:=fW (fun d=>jm m m' n d 4) 3
@[go_sem] theorem Ot(neg a b:Bool):eqV tB neg (.bool a) (.bool b)=some (.bool (if neg=true then !decide (a=b)else decide (a=b))):=jJ rfl rfl (yE a b)
def anyN:Nat->(Nat->Bool)->Bool
 |0,_=>false
 |n+1,f=>anyN n f||f n
def firstI:Nat->(Nat->Int)->Int
 |0,_=>0
 |n+1,f=>if firstI n f=0 then f n else firstI n f
def findN:Nat->(Nat->Bool)->Int
 |0,_=>-1
 |n+1,f=>if anyN n f=true then findN n f else if f n=true then n else -1
theorem jZ{f:Nat->Bool}:∀{n},anyN n f=true↔∃i,i<n/\f i=true
 |0=>by simp[anyN]
 |n+1=>by
  rw[anyN,Bool.or_eq_true,jZ]
  constructor
  ·rintro(⟨i,h1,h2⟩|h)
   ·exact⟨i,by omega,h2⟩
   ·exact⟨n,by omega,h⟩
  ·rintro⟨i,h1,h2⟩
   by_cases e:i=n
   ·subst e;exact .inr h2
   ·exact .inl ⟨i,by omega,h2⟩
variable{f:Nat->Bool}
theorem anyN_false:anyN n f=false↔∀i,i<n->f i=false:=by
 rw[←Bool.not_eq_true,jZ]
 constructor
 ·intro h i hi;rw[←Bool.not_eq_true];exact fun hf=>h ⟨i,hi,hf⟩
 ·rintro h ⟨i,hi,hf⟩;rw[h i hi]at hf;exact absurd hf (by simp)
theorem dQ{j:Nat}(hj:j<n)(h:f j=true):anyN n f=true:=jZ.2 ⟨j,hj,h⟩
theorem firstI_zero{f:Nat->Int}:∀{n},firstI n f=0↔∀i,i<n->f i=0
 |0=>by simp[firstI]
 |n+1=>by
  rw[firstI]
  constructor
  ·intro h i hi
   split at h
   ·rename_i h0
    by_cases e:i=n
    ·subst e;exact h
    ·exact firstI_zero.1 h0 i (by omega)
   ·rename_i h0;exact absurd h h0
  ·intro h
   rw[if_pos (firstI_zero.2 fun i hi=>h i (by omega))]
   exact h n (by omega)
theorem fF{f:Nat->Int}{j:Nat}(h0:∀i,i<j->f i=0)(h:f j≠0):∀{n},j<n->firstI n f=f j
 |0,hj=>by omega
 |n+1,hj=>by
  rw[firstI]
  by_cases e:j=n
  ·subst e;rw[if_pos (firstI_zero.2 h0)]
  ·rw[fF h0 h (n:=n) (by omega),if_neg h]
theorem findN_none(h:∀i,i<n->f i=false):findN n f= -1:=by
 induction n with
 |zero=>rfl
 |succ n ih=>rw[findN,if_neg (by rw[anyN_false.2 fun i hi=>h i (by omega)];simp),h n (by omega)];rfl
theorem dV{f:Nat->Bool}{j:Nat}(h0:∀i,i<j->f i=false)(h:f j=true):∀{n},j<n->findN n f=j
 |0,hj=>by omega
 |n+1,hj=>by
  rw[findN]
  by_cases e:j=n
  ·subst e;rw[if_neg (by rw[anyN_false.2 h0];simp),if_pos h]
  ·rw[if_pos (dQ (by omega) h),dV h0 h (by omega)]
theorem oz{f:Nat->Bool}:∀{n:Nat},anyN n f=true->∃j:Nat,j<n/\findN n f=j/\f j=true/\∀i,i<j->f i=false
 |0,h=>by simp[anyN]at h
 |n+1,h=>by
  rw[findN]
  by_cases ha:anyN n f=true
  ·rw[if_pos ha]
   obtain⟨j,h1,h2,h3⟩:=oz ha
   exact⟨j,by omega,h2,h3⟩
  ·have hf:f n=true:=by
    rw[anyN,Bool.or_eq_true]at h
    exact h.resolve_left ha
   rw[if_neg ha,if_pos hf]
   exact⟨n,by omega,rfl,hf,fun i hi=>anyN_false.1 (by simpa using ha) i hi⟩
theorem ip:findN n f= -1\/∃j:Nat,j<n/\findN n f=j/\f j=true/\∀i,i<j->f i=false:=by
 by_cases h:anyN n f=true
 ·exact .inr (oz h)
 ·exact .inl (findN_none fun i hi=>anyN_false.1 (by simpa using h) i hi)
theorem oy(h:findN n f= -1):∀i,i<n->f i=false:=by
 apply anyN_false.1
 rw[←Bool.not_eq_true]
 intro ha
 obtain⟨j,_,e,_⟩:=oz ha
 omega
variable{T T':MTb}{cx:Cx}{k:List Item}
theorem cm{keep ko:List Nat}{b:MC}{s:St}{Q:St->Prop}(N:Nat)(S:Nat->St)(P:Nat->Prop)(h0:s.keep keep ko=S 0)(p0:P 0)
  (step:∀j,j<=N->P j->(∀s',j<N->P (j+1)->s'.keep keep ko=S (j+1)->W T cx (.inLoop keep ko b::k) s' Q)->W T cx (.code b:: .inLoop keep ko b::k) (S j) Q):
  W T cx (.code (.loop keep ko b)::k) s Q:=
 x8 N (fun j s=>s=S j/\P j) ⟨h0,p0⟩ fun j s hj hs ih=>by obtain⟨rfl,hp⟩:=hs;exact step j hj hp fun s' h1 h2 h3=>ih s' h1 ⟨h3,h2⟩
theorem aJ{P:Nat->Prop}{j:Nat}(h:∀i,i<j->P i)(hj:P j):∀i,i<j+1->P i:=by
 intro i hi
 by_cases e:i=j
 ·subst e;exact hj
 ·exact h i (by omega)
def byteAt(s:Str)(i:Nat):Nat:=(s.data.getD i 0).toNat
@[go_sem] theorem EJ{s:Str}{k:IntKind}{i:Nat}(h:i<s.size):ia (.str s) (.int k (i:Int))=some (.int .u8 (byteAt s i:Nat)):=by
 have hs:i<s.data.size:=h
 have e:s[i]?=some s.data[i]:=by
  rw[getElem?_pos s i h];rfl
 simp only[ia,toIx]
 rw[if_pos (by omega),Int.toNat_natCast,e]
 simp[byteAt,getElem?_pos s.data i hs]
def badByte(s:Str)(i:Nat):Bool:=decide (byteAt s i<97)||decide (122<byteAt s i)
def cO(s:Str):Bool:=!decide (s=⟨#[]⟩)&&decide (s.size<=6)&& !anyN s.size (badByte s)
theorem lU{s:Str}:s=⟨#[]⟩↔s.size=0:=by
 cases s with|mk a=>
 simp only[ByteArray.mk.injEq,ByteArray.size]
 exact⟨fun h=>by rw[h];rfl,fun h=>Array.eq_empty_of_size_eq_zero h⟩
variable{x:Int}
section
variable{cx:Cx}{h:HP}{p p':Id}{q q':List Nat}{m m':Img}
theorem Es{s:Str}(hs:s.size<=100000):Ok tbl cx Fn.cB (St.enter [.str s] h) fun v h'=>v=.bool (cO s)/\h'=h:=by
 rw[aE]
 simp(disch:=omega)only[go_sem]
 refine cm s.size (fun j=>⟨[(0,.str s),(5,.int .i64 s.size),(6,.int .i64 j)],[],h⟩) (fun j=>∀i,i<j->badByte s i=false) (by simp only[go_sem]<;>rfl) (fun i hi=>by omega) fun j hj hp ih=>?_
 by_cases hlt:j<s.size
 ·simp(disch:=omega)only[go_sem,hlt]
  by_cases h1:byteAt s j<97
  ·simp(disch:=omega)only[go_sem,hlt]
   have:anyN s.size (badByte s)=true:=dQ hlt (by simp[badByte,h1])
   simp[cO,this]
  ·by_cases h2:122<byteAt s j
   ·simp(disch:=omega)only[go_sem,hlt]
    have:anyN s.size (badByte s)=true:=dQ hlt (by simp[badByte,h2])
    simp[cO,this]
   ·simp(disch:=omega)only[go_sem,hlt]
    refine ih _ hlt (aJ hp (by simp[badByte,h1,h2])) ?_
    simp only[go_sem]
 ·obtain rfl:j=s.size:=by omega
  have hn:anyN s.size (badByte s)=false:=anyN_false.2 hp
  simp(disch:=omega)only[go_sem]
  by_cases h1:s=⟨#[]⟩
  ·simp(disch:=omega)only[go_sem,h1];simp[cO]
  ·by_cases h2:s.size<=6
   ·simp(disch:=omega)only[go_sem,h1]
    simp[cO,hn,h1,h2]
   ·simp(disch:=omega)only[go_sem,h1]
    simp[cO,hn,h1,h2]
theorem Az{s:Str}(hs:s.size<=100000):Ok tbl cx Fn.cX (St.enter [.str s] h) fun v h'=>v=.bool (cO s)/\h'=h:=by
 rw[aE]
 simp(disch:=omega)only[go_sem]
 by_cases h1:s.size=0
 ·have e:=lU.2 h1
  simp(disch:=omega)only[go_sem]
  simp[cO,e]
 have e:¬s=⟨#[]⟩:=fun e=>h1 (lU.1 e)
 by_cases h2:s.size<=6
 ·simp(disch:=omega)only[go_sem]
  refine cm s.size (fun j=>⟨[(0,.str s),(3,.int .i64 j)],[],h⟩) (fun j=>∀i,i<j->badByte s i=false) (by simp only[go_sem]<;>rfl) (fun i hi=>by omega) fun j hj hp ih=>?_
  by_cases hlt:j<s.size
  ·simp(disch:=omega)only[go_sem,hlt]
   by_cases h1:byteAt s j<97
   ·simp(disch:=omega)only[go_sem,hlt]
    have:anyN s.size (badByte s)=true:=dQ hlt (by simp[badByte,h1])
    simp[cO,this]
   ·by_cases h2:122<byteAt s j
    ·simp(disch:=omega)only[go_sem,hlt]
     have:anyN s.size (badByte s)=true:=dQ hlt (by simp[badByte,h2])
     simp[cO,this]
    ·simp(disch:=omega)only[go_sem,hlt]
     refine ih _ hlt (aJ hp (by simp[badByte,h1,h2])) ?_
     simp only[go_sem]
  ·obtain rfl:j=s.size:=by omega
   have hn:anyN s.size (badByte s)=false:=anyN_false.2 hp
   simp(disch:=omega)only[go_sem]
   simp[cO,hn,e,h2]
 ·simp(disch:=omega)only[go_sem]
  simp[cO,h2]
def held(m:Img)(x:Int):Bool:=anyN 8 fun n=>(m.ino n).live&&(decide ((m.ino n).prt 0=x)||decide ((m.ino n).prt 1=x))
theorem rT(hb:p.below cx.lvl)(hm:h.rd p q=some m.enc):
  Ok tbl cx Fn.cp (St.enter [.ptr p q ac,.int .i64 x] h) fun v h'=>v=.bool (held m x)/\h'=h:=by
 rw[aE]
 simp(disch:=omega)only[go_sem,aw hb,HP.rd_app hm,au hb,af hb,ah hb]
 refine cm 8 (fun n=>⟨[(1,.int .i64 x),(10,bF Ino.enc m.inode),(11,.int .i64 n)],[],h⟩) (fun n=>∀i,i<n->((m.ino i).live&&(decide ((m.ino i).prt 0=x)||decide ((m.ino i).prt 1=x)))=false) (by simp only[go_sem]<;>rfl) (fun i hi=>by omega) fun n hn hp ih=>?_
 by_cases hlt:n<8
 ·simp(disch:=omega)only[go_sem,hlt]
  by_cases h1:(m.ino n).live=true
  ·by_cases h2:(m.ino n).prt 0=x
   ·simp(disch:=omega)only[go_sem,h1,h2]
    have:held m x=true:=dQ hlt (by simp[h1,h2])
    simp[this]
   ·by_cases h3:(m.ino n).prt 1=x
    ·simp(disch:=omega)only[go_sem,h1,h2,h3]
     have:held m x=true:=dQ hlt (by simp[h1,h3])
     simp[this]
    ·simp(disch:=omega)only[go_sem,h1,h2,h3]
     refine ih _ hlt (aJ hp (by simp[h2,h3])) ?_
     simp only[go_sem]
  ·simp only[Bool.not_eq_true]at h1
   simp(disch:=omega)only[go_sem,h1]
   refine ih _ hlt (aJ hp (by simp[h1])) ?_
   simp only[go_sem]
 ·obtain rfl:n=8:=by omega
  simp(disch:=omega)only[go_sem]
  have:held m x=false:=anyN_false.2 hp
  simp[this]
theorem uF(hb:p.below cx.lvl)(hm:h.rd p q=some m.enc):
  Ok tbl cx Fn.d9 (St.enter [.ptr p q ac,.int .i64 x] h) fun v h'=>v=.bool (held m x)/\h'=h:=by
 rw[aE]
 simp(disch:=omega)only[go_sem,aw hb,HP.rd_app hm,au hb,af hb,ah hb]
 refine cm 8 (fun n=>⟨[(0,.ptr p q ac),(1,.int .i64 x),(5,.int .i64 n)],[],h⟩) (fun n=>∀i,i<n->((m.ino i).live&&(decide ((m.ino i).prt 0=x)||decide ((m.ino i).prt 1=x)))=false) (by simp only[go_sem]<;>rfl) (fun i hi=>by omega) fun n hn hp ih=>?_
 by_cases hlt:n<8
 ·simp(disch:=omega)only[go_sem,hlt]
  refine cm 2 (fun r=>⟨[(0,.ptr p q ac),(1,.int .i64 x),(5,.int .i64 n),(6,.int .i64 r)],[],h⟩) (fun r=>∀i,i<r->((m.ino n).live&&decide ((m.ino n).prt i=x))=false) (by simp only[go_sem]<;>rfl) (fun i hi=>by omega) fun r hr hp' ih'=>?_
  by_cases hlt':r<2
  ·simp(disch:=omega)only[go_sem,hlt,hlt',aw hb,HP.rd_app hm,au hb,af hb,ah hb]
   by_cases h1:(m.ino n).live=true
   ·by_cases h2:(m.ino n).prt r=x
    ·simp(disch:=omega)only[go_sem,h1,h2,hlt,hlt',aw hb,HP.rd_app hm,au hb,af hb,ah hb]
     have:held m x=true:=dQ hlt (by
      obtain rfl|rfl:r=0\/r=1:=by omega
      all_goals simp[h1,h2])
     simp[this]
    ·simp(disch:=omega)only[go_sem,h1,h2,hlt,hlt',aw hb,HP.rd_app hm,au hb,af hb,ah hb]
     refine ih' _ hlt' (aJ hp' (by simp[h2])) ?_
     simp only[go_sem]
   ·simp only[Bool.not_eq_true]at h1
    simp(disch:=omega)only[go_sem,h1,hlt,hlt',aw hb,HP.rd_app hm,au hb,af hb,ah hb]
    refine ih' _ hlt' (aJ hp' (by simp[h1])) ?_
    simp only[go_sem]
  ·obtain rfl:r=2:=by omega
   simp(disch:=omega)only[go_sem]
   refine ih _ hlt (aJ hp ?_) ?_
   ·have h0:=hp' 0 (by omega)
    have h1:=hp' 1 (by omega)
    cases hl:(m.ino n).live<;>simp[hl]at h0 h1⊢
    exact⟨h0,h1⟩
   ·simp only[go_sem]
 ·obtain rfl:n=8:=by omega
  simp(disch:=omega)only[go_sem]
  have:held m x=false:=anyN_false.2 hp
  simp[this]
def cr(m:Img)(d:Int)(name:Str):Int:=if d<0\/3<=d\/name=⟨#[]⟩then -1 else findN 4 fun s=>decide ((m.ent d.toNat s).name=name)
theorem yY{d:Int}{name:Str}(hb:p.below cx.lvl)(hm:h.rd p q=some m.enc):
  Ok tbl cx Fn.b8 (St.enter [.ptr p q ac,.int .i64 d,.str name] h) fun v h'=>v=.int .i64 (cr m d name)/\h'=h:=by
 rw[aE]
 simp(disch:=omega)only[go_sem,aw hb,HP.rd_app hm,au hb,af hb,ah hb]
 by_cases h1:d<0
 ·simp(disch:=omega)only[go_sem,h1];simp[cr,h1]
 by_cases h2:3<=d
 ·simp(disch:=omega)only[go_sem,h1,h2];simp[cr,h2]
 by_cases h3:name=⟨#[]⟩
 ·simp(disch:=omega)only[go_sem,h1,h2,h3];simp[cr]
 have hd:d.toNat<3:=by omega
 have e:cr m d name=findN 4 fun s=>decide ((m.ent d.toNat s).name=name):=by simp only[cr];rw[if_neg (by simp only[not_or];exact⟨h1,h2,h3⟩)]
 simp(disch:=omega)only[go_sem,h1,h2,h3,aw hb,HP.rd_app hm,au hb,af hb,ah hb]
 refine cm 4 (fun s=>⟨[(2,.str name),(24,bF Ent.enc m.dir[d.toNat]),(25,.int .i64 s)],[],h⟩) (fun s=>∀i,i<s->decide ((m.ent d.toNat i).name=name)=false) (by simp only[go_sem]<;>rfl) (fun i hi=>by omega) fun s hs hp ih=>?_
 by_cases hlt:s<4
 ·simp(disch:=omega)only[go_sem,hlt]
  by_cases h4:(m.ent d.toNat s).name=name
  ·simp(disch:=omega)only[go_sem,h4,e]
   rw[dV hp (by simp[h4]) hlt]
  ·simp(disch:=omega)only[go_sem,h4]
   refine ih _ hlt (aJ hp (by simp[h4])) ?_
   simp only[go_sem]
 ·obtain rfl:s=4:=by omega
  simp(disch:=omega)only[go_sem,e]
  rw[findN_none hp]
theorem gc{d:Int}{name:Str}(hb:p.below cx.lvl)(hm:h.rd p q=some m.enc):
  Ok tbl cx Fn.dj (St.enter [.ptr p q ac,.int .i64 d,.str name] h) fun v h'=>v=.int .i64 (cr m d name)/\h'=h:=by
 rw[aE]
 simp(disch:=omega)only[go_sem,aw hb,HP.rd_app hm,au hb,af hb,ah hb]
 by_cases h1:d<0
 ·simp(disch:=omega)only[go_sem,h1];simp[cr,h1]
 by_cases h2:3<=d
 ·simp(disch:=omega)only[go_sem,h1,h2];simp[cr,h2]
 by_cases h3:name=⟨#[]⟩
 ·simp(disch:=omega)only[go_sem,h1,h2,h3];simp[cr]
 have hd:d.toNat<3:=by omega
 have e:cr m d name=findN 4 fun s=>decide ((m.ent d.toNat s).name=name):=by simp only[cr];rw[if_neg (by simp only[not_or];exact⟨h1,h2,h3⟩)]
 simp(disch:=omega)only[go_sem,h1,h2,h3,aw hb,HP.rd_app hm,au hb,af hb,ah hb]
 refine cm 4 (fun s=>⟨[(0,.ptr p q ac),(1,.int .i64 d),(2,.str name),(7,.int .i64 s)],[],h⟩) (fun s=>∀i,i<s->decide ((m.ent d.toNat i).name=name)=false) (by simp only[go_sem]<;>rfl) (fun i hi=>by omega) fun s hs hp ih=>?_
 by_cases hlt:s<4
 ·simp(disch:=omega)only[go_sem,hlt,h1,h2,aw hb,HP.rd_app hm,au hb,af hb,ah hb]
  by_cases h4:(m.ent d.toNat s).name=name
  ·simp(disch:=omega)only[go_sem,h4,e]
   rw[dV hp (by simp[h4]) hlt]
  ·simp(disch:=omega)only[go_sem,h4]
   refine ih _ hlt (aJ hp (by simp[h4])) ?_
   simp only[go_sem]
 ·obtain rfl:s=4:=by omega
  simp(disch:=omega)only[go_sem,e]
  rw[findN_none hp]
end
variable{t:Ty}
@[go_sem] theorem Fw{α:Type}{f:α->AV}{v:Vector α n}{k:IntKind}{z:Int}(h0:0<=z)(hm:z.toNat<n):tJ n t (bF f v) (.int k z)=if(Ty.arr n t).fits (bF f v)=true then some (f (v[z.toNat]'hm))else none:=by
 simp only[bF,tJ,toIx]
 rw[dif_pos ⟨h0,by omega⟩]
 rfl
def encL(l:List Int):AV:=.ofList (l.map (AV.int .i64))
theorem p8(l:List Int):(encL l).toList=some (l.map (AV.int .i64)):=by
 simp only[encL,AV.ofList,AV.toList]
 congr 1
 exact List.ext_getElem (by simp) (by simp)
theorem tj(l:List Int)(h:n=l.length):(Ty.arr n tI).fits (encL l)=true:=by
 subst h
 simp[encL,AV.ofList,Ty.fits,tI,LK.fits,AV.safe]
theorem yG(l:List Int){i:Nat}(h:i<l.length):(encL l).at [i]=some (.int .i64 l[i]):=by
 simp[encL,AV.ofList,AV.at,h]
variable{i:Id}{l:List Int}
section
variable{T:MTb}{cx:Cx}{k:List Item}{kill:List Nat}{r:List MOp}{sl:Slots}{own:Own}{h:HP}{Q:St->Prop}
def sw(t:Ty)(j:Id)(o:Nat)(b:Option Blk):Option AV:=match b with
 |some ⟨.arr _ t',_⟩=>if t=t' then some (.ptr j [o] t)else none
 |_=>none
@[go_sem] theorem xc(t:Ty)(j:Id)(o n:Nat)(v:AV):sw t j o (some ⟨.arr n t,v⟩)=some (.ptr j [o] t):=by simp[sw]
def qB(t:Ty)(x i:AV)(L:Id->Option Blk):Option AV:=match x,toIx i with
 | .sl j off len,some z=>if 0<=z/\z<(len:Int)then sw t j (off+z.toNat) (L j)else none
 |_,_=>none
@[go_sem] theorem Hx{j:Id}{off len m:Nat}{kk:IntKind}{L:Id->Option Blk}(hm:m<len):qB t (.sl j off len) (.int kk (m:Int)) L=sw t j (off+m) (L j):=by
 simp only[qB,toIx];rw[if_pos ⟨by omega,by omega⟩];rfl
@[go_sem] theorem OL{d:Option Nat}{x i:Opd}{s:St}:W T cx (.ops (⟨d,.sidx false t x i,none⟩::r) kill::k) s Q=W1 T cx (qB t (s.opd x) (s.opd i) (s.look cx)) d r kill k s Q:=
 gg rfl (by
  simp only[evK,qB]
  cases s.opd x<;>try rfl
  cases toIx (s.opd i)<;>try rfl
  rename_i j off len z
  simp only[Bool.false_eq_true,false_implies,and_true]
  by_cases hz:0<=z/\z<(len:Int)
  ·rw[if_pos hz,if_pos hz]
   cases s.look cx j with
   |none=>rfl
   |some b=>
    obtain⟨bt,bv⟩:=b
    cases bt<;>try rfl
    simp only[sw]
    split<;>rfl
  ·rw[if_neg hz,if_neg hz];rfl)
@[go_sem] theorem vP:St.look cx ⟨sl,own,h⟩ (.stk cx.lvl d)=own.get d:=by simp[St.look,Id.own]
theorem Bo(hi:i.below cx.lvl):St.look cx ⟨sl,own,h⟩ i=h.look i:=by simp[St.look,o1 hi]
theorem HP.push_look_own:(h.push cx.lvl own).look (.stk cx.lvl d)=own.get d:=by simp[HP.look,HP.push]
@[go_sem] theorem KZ(l s t o n:Nat):fg (.sl (.stk l s) o n) (.stk l t)=if t=s then .bot else .sl (.stk l s) o n:=by
 simp only[fg,AV.leads,AV.isAgg,AV.names,Bool.not_false,Bool.true_and,beq_iff_eq,Id.stk.injEq,true_and]
theorem BJ{l t:Nat}(hb:i.below l)(o n:Nat):fg (.sl i o n) (.stk l t)=.sl i o n:=by
 have:(Id.stk l t==i)=false:=by simpa using fun e:Id.stk l t=i=>hb.ne e.symm
 simp[fg,AV.leads,AV.isAgg,AV.names,this]
def WB(T:MTb)(cx:Cx)(v:AV)(d:Nat)(r:List MOp)(kill:List Nat)(k:List Item)(sl:Slots)(own:Own)(h:HP)(Q:St->Prop):Prop:=
 onO (fill (.arr 1 tI) (Ty.arr 1 tI).zero [(0,v)]) fun w=>W T cx (.ops r kill::k) ⟨(Slots.forget sl (.stk cx.lvl d)).set d (.sl (.stk cx.lvl d) 0 1),own.set d ⟨.arr 1 tI,w⟩,h⟩ Q
theorem fill1(n:Int):fill (.arr 1 tI) (Ty.arr 1 tI).zero [(0,.int .i64 n)]=some (encL [n]):=by
 simp only[fill,Ty.part,Nat.lt_one_iff,if_true,DW,Ty.zero,AV.put,Nat.zero_lt_one,dite_true,gl,Option.map_some,encL,AV.ofList]
 congr 2
 funext j
 match j with
 |⟨0,_⟩=>rfl
@[go_sem] theorem OY{n:Int}:WB T cx (.int .i64 n) d r kill k sl own h Q=W T cx (.ops r kill::k) ⟨(Slots.forget sl (.stk cx.lvl d)).set d (.sl (.stk cx.lvl d) 0 1),own.set d ⟨.arr 1 tI,encL [n]⟩,h⟩ Q:=by
 simp only[WB,fill1,onO]
@[go_sem] theorem Ji{x:Opd}:W T cx (.ops (⟨some d,.bslice false tI 1 [(0,x)],none⟩::r) kill::k) ⟨sl,own,h⟩ Q=WB T cx (St.opd ⟨sl,own,h⟩ x) d r kill k sl own h Q:=by
 rw[gW rfl,evOp]
 simp only[evK,WB,List.map_cons,List.map_nil]
 cases fill (.arr 1 tI) (Ty.arr 1 tI).zero [(0,St.opd ⟨sl,own,h⟩ x)]<;>rfl
def WA(T:MTb)(cx:Cx)(x:AV)(add:Option (List AV))(d:Nat)(r:List MOp)(kill:List Nat)(k:List Item)(sl:Slots)(own:Own)(h:HP)(Q:St->Prop):Prop:=
 onO add fun add=>onO (evAppend (St.look cx ⟨sl,own,h⟩) tI x add) fun e=>onO (ax cx (some d) false ⟨sl,own,h⟩ e) fun p=>W T cx (.ops r kill::k) (p.2.setd (some d) p.1) Q
@[go_sem] theorem LG{x y:Opd}:W T cx (.ops (⟨some d,.append false [] tI x y,none⟩::r) kill::k) ⟨sl,own,h⟩ Q=WA T cx (St.opd ⟨sl,own,h⟩ x) (elems (St.look cx ⟨sl,own,h⟩) tI (St.opd ⟨sl,own,h⟩ y)) d r kill k sl own h Q:=by
 rw[gW rfl,evOp]
 simp only[evK,WA]
 cases elems (St.look cx ⟨sl,own,h⟩) tI (St.opd ⟨sl,own,h⟩ y)with
 |none=>rfl
 |some add=>
  simp only[cE]
  cases evAppend (St.look cx ⟨sl,own,h⟩) tI (St.opd ⟨sl,own,h⟩ x) add<;>rfl
def us(b:Option Blk)(len:Nat):Option (List AV):=match b with
 |some ⟨.arr _ t',v⟩=>match v.toList with
   |some l=>if tI=t'/\len<=l.length then some (l.take len)else none
   |none=>none
 |_=>none
@[go_sem] theorem K9(L:Id->Option Blk)(j:Id)(len:Nat):elems L tI (.sl j 0 len)=us (L j) len:=by
 simp only[elems,us,Nat.zero_add,List.drop_zero]
 cases L j with
 |none=>rfl
 |some b=>obtain⟨bt,bv⟩:=b;cases bt<;>rfl
@[go_sem] theorem GT(n:Int):us (some ⟨.arr 1 tI,encL [n]⟩) 1=some [.int .i64 n]:=by
 simp[us,p8]
@[go_sem] theorem O0{n:Int}:WA T cx .nilsl (some [.int .i64 n]) d r kill k sl own h Q=
  W T cx (.ops r kill::k) ⟨(Slots.forget sl (.stk cx.lvl d)).set d (.sl (.stk cx.lvl d) 0 1),own.set d ⟨.arr 1 tI,encL [n]⟩,h⟩ Q:=by
 have hf:=tj [n] (n:=1) rfl
 simp only[WA,cE,evAppend,List.length_cons,List.length_nil,Nat.zero_add]
 rw[if_neg (by omega),if_pos ⟨hf,by omega⟩]
 rfl
theorem gX{len:Nat}{n:Int}(hb:own.get d=some ⟨.arr len tI,encL l⟩)(hl:l.length=len)(hm:len+1<=1048576):WA T cx (.sl (.stk cx.lvl d) 0 len) (some [.int .i64 n]) d r kill k sl own h Q=
  W T cx (.ops r kill::k) ⟨(Slots.forget sl (.stk cx.lvl d)).set d (.sl (.stk cx.lvl d) 0 (len+1)),(own.rid d).set d ⟨.arr (len+1) tI,encL (l++[n])⟩,h⟩ Q:=by
 have hf:=tj (l++[n]) (n:=len+1) (by simp[hl])
 have e:List.map (AV.int .i64) (l++[n])=(List.map (AV.int .i64) l).take len++[.int .i64 n]:=by
  rw[List.map_append,List.take_of_length_le (by simp[hl])];rfl
 simp only[encL,e]at hf⊢
 simp only[WA,cE,evAppend,vP,hb,p8,List.length_map,List.length_cons,List.length_nil,Nat.zero_add,List.drop_zero,if_true]
 rw[if_neg (by omega),if_pos (by omega),if_pos ⟨hf,hm⟩]
 simp only[cE,ax,St.drop,Id.own,if_true,Option.map_some]
 rfl
@[go_sem] theorem L9(t:Nat):Own.rid [] t=[]:=rfl
@[go_sem] theorem JW(t u:Nat)(v:Blk)(s:Own):Own.rid ((t,v)::s) u=if t=u then Own.rid s u else(t,v)::Own.rid s u:=rfl
def SlI(L:Id->Option Blk)(y:AV)(l:List Int):Prop:=(y=.nilsl/\l=[])\/∃p n k,y=.sl p 0 k/\k=l.length/\p.below cx.lvl/\L p=some ⟨.arr n tI,encL l⟩
theorem CV{y:AV}(hl:l.length<=1048576)(hy:SlI (cx:=cx) h.look y l):
  Ok tbl cx Fn.b6 (St.enter [y,.int .i64 x] h) fun v h'=>v=.int .i64 (findN l.length fun i=>decide (x=l.getD i 0))/\h'=h:=by
 rw[aE]
 obtain⟨rfl,rfl⟩|⟨p,n,_,rfl,rfl,hb,hp⟩:=hy
 ·simp(disch:=omega)only[go_sem,eR,dK]
  rfl
 ·simp(disch:=omega)only[go_sem]
  refine cm l.length (fun j=>⟨[(0,.sl p 0 l.length),(1,.int .i64 x),(7,.int .i64 l.length),(8,.int .i64 j)],[],h⟩) (fun j=>∀i,i<j->decide (x=l.getD i 0)=false) (by simp only[go_sem]<;>rfl) (fun i hi=>by omega) fun j hj hq ih=>?_
  by_cases hlt:j<l.length
  ·have hrd:h.rd p [j]=some (.int .i64 (l.getD j 0)):=by
    simp only[HP.rd,hp,Option.bind_some,yG l hlt]
    simp[hlt]
   simp(disch:=omega)only[go_sem,hlt,Bo hb,hp,aw hb,hrd]
   by_cases h1:x=l.getD j 0
   ·simp(disch:=omega)only[go_sem,h1]
    rw[dV (j:=j) (fun i hi=>by rw[←h1];exact hq i hi) (by simp) hlt]
   ·simp(disch:=omega)only[go_sem,h1]
    refine ih _ hlt (aJ hq (by simpa using h1)) ?_
    simp only[go_sem]
  ·obtain rfl:j=l.length:=by omega
   simp(disch:=omega)only[go_sem]
   rw[findN_none hq]
theorem fp{y:AV}(hl:l.length<=1048576)(hy:SlI (cx:=cx) h.look y l):
  Ok tbl cx Fn.dS (St.enter [y,.int .i64 x] h) fun v h'=>v=.bool (l.contains x)/\h'=h:=by
 rw[aE]
 simp(disch:=omega)only[go_sem]
 refine am rfl ⟨rfl,rfl⟩ (by
  simp only[go_sem]
  refine CV (l:=l) hl ?_
  obtain⟨rfl,rfl⟩|⟨p,n,_,rfl,rfl,hb,hp⟩:=hy
  ·exact .inl ⟨rfl,rfl⟩
  ·refine .inr ⟨p,n,_,rfl,rfl,hb.succ,?_⟩
   rw[←hp]
   cases p<;>simp only[HP.look,HP.push]
   simp only[Id.below]at hb
   rw[if_neg (by omega)]) ?_
 simp(disch:=omega)only[go_sem]
 congr 1
 rw[Bool.eq_iff_iff,decide_eq_true_eq,List.contains_iff_mem]
 constructor
 ·intro h0
  obtain e|⟨j,hj,e,h1,_⟩:=ip (n:=l.length) (f:=fun i=>decide (x=l.getD i 0))
  ·omega
  ·have:x=l.getD j 0:=by simpa using h1
   rw[this];simp[hj]
 ·intro hm
  obtain⟨j,hj,e⟩:=List.getElem_of_mem hm
  obtain h1|⟨j',hj',e',h1,_⟩:=ip (n:=l.length) (f:=fun i=>decide (x=l.getD i 0))
  ·have h2:=oy h1 j hj
   simp[hj,e]at h2
  ·omega
end
def stampsN(m:Img):Nat->List Int
 |0=>[]
 |n+1=>if(m.ino n).live=true then stampsN m n++[(m.ino n).stamp]else stampsN m n
def seenN(m:Img):Nat->List Int
 |0=>[]
 |n+1=>if(m.ino n).live=true then seenN m n++[(m.ino n).prt 0]++[(m.ino n).prt 1]else seenN m n
def badAt(m:Img)(n:Nat):Bool:=
 (m.ino n).live&&((stampsN m n).contains (m.ino n).stamp||(decide (0<=(m.ino n).prt 0)&&(seenN m n).contains ((m.ino n).prt 0))||(decide (0<=(m.ino n).prt 1)&&(seenN m n++[(m.ino n).prt 0]).contains ((m.ino n).prt 1)))
def twice(m:Img):Bool:=anyN 8 (badAt m)
theorem ph(m:Img):∀n,(stampsN m n).length<=n
 |0=>Nat.le_refl _
 |n+1=>by
  have:=ph m n
  simp only[stampsN];split<;>simp<;>omega
theorem sx(m:Img):∀n,(seenN m n).length<=2*n
 |0=>Nat.le_refl _
 |n+1=>by
  have:=sx m n
  simp only[seenN];split<;>simp<;>omega
theorem nj(m:Img):∀n,stampsN m n=[]↔seenN m n=[]
 |0=>by simp[stampsN,seenN]
 |n+1=>by
  simp only[stampsN,seenN];split
  ·simp
  ·exact nj m n
def slV(l d:Nat)(a:List Int):AV:=if a=[]then .nilsl else .sl (.stk l d) 0 a.length
def kX(a b:List Int):Own:=if a=[]then[]else[(27,⟨.arr a.length tI,encL a⟩),(43,⟨.arr b.length tI,encL b⟩)]
section
variable{cx:Cx}{h:HP}{p p':Id}{q q':List Nat}{m m':Img}
theorem AY(hb:p.below cx.lvl)(hm:h.rd p q=some m.enc):
  Ok tbl cx Fn.aP (St.enter [.ptr p q ac] h) fun v h'=>v=.bool (twice m)/\h'=h:=by
 rw[aE]
 simp(disch:=omega)only[go_sem,aw hb,HP.rd_app hm,au hb,af hb,ah hb]
 refine cm 8 (fun n=>⟨[(3,slV cx.lvl 43 (seenN m n)),(4,slV cx.lvl 27 (stampsN m n)),(12,bF Ino.enc m.inode),(13,.int .i64 n)],kX (stampsN m n) (seenN m n),h⟩) (fun n=>∀i,i<n->badAt m i=false) (by simp only[go_sem,slV,kX,stampsN,seenN]<;>rfl) (fun i hi=>by omega) fun n hn hp ih=>?_
 by_cases hlt:n<8
 ·by_cases hl:(m.ino n).live=true
  ·have bad:∀c,((stampsN m n).contains (m.ino n).stamp||(decide (0<=(m.ino n).prt 0)&&(seenN m n).contains ((m.ino n).prt 0))||(decide (0<=(m.ino n).prt 1)&&(seenN m n++[(m.ino n).prt 0]).contains ((m.ino n).prt 1)))=c->badAt m n=c:=by
    intro c hc;simp only[badAt,hl,Bool.true_and];exact hc
   have tw:badAt m n=true->twice m=true:=fun hb=>dQ hlt hb
   have e1:stampsN m (n+1)=stampsN m n++[(m.ino n).stamp]:=by simp only[stampsN,hl,if_true]
   have e2:seenN m (n+1)=seenN m n++[(m.ino n).prt 0]++[(m.ino n).prt 1]:=by simp only[seenN,hl,if_true]
   have l1:=ph m n
   have l2:=sx m n
   rw[e1,e2]at ih
   have hboth:=nj m n
   generalize stampsN m n=A at *
   generalize seenN m n=B at *
   by_cases hA:A=[]
   ·have hB:=hboth.1 hA
    subst hA;subst hB
    simp only[slV,kX,if_true]
    simp(disch:=omega)only[go_sem,hlt,hl]
    refine am rfl ⟨rfl,rfl⟩ (by simp only[go_sem];exact fp (l:=[]) (by simp) (.inl ⟨rfl,rfl⟩)) ?_
    simp(disch:=omega)only[go_sem,List.contains_nil,eR]
    by_cases c0:0<=(m.ino n).prt 0
    ·simp(disch:=omega)only[go_sem,c0]
     refine am rfl ⟨rfl,rfl⟩ (by simp only[go_sem];exact fp (l:=[]) (by simp) (.inl ⟨rfl,rfl⟩)) ?_
     simp(disch:=omega)only[go_sem,List.contains_nil,dK (a:=[3,4,12,13,29,30])]
     by_cases c1:0<=(m.ino n).prt 1
     ·simp(disch:=omega)only[go_sem,c1]
      refine am rfl ⟨rfl,rfl⟩ (by simp only[go_sem];exact fp (l:=[(m.ino n).prt 0]) (by simp only[List.length_append,List.length_cons,List.length_nil]at *;omega) (.inr ⟨_,_,_,rfl,by simp,cV _ _,by simp only[HP.push_look_own];rfl⟩)) ?_
      simp(disch:=omega)only[go_sem,c1]
      refine dq (fun h4=>?_) (fun h4=>?_)
      ·simp(disch:=omega)only[go_sem]
       rw[tw (bad _ (by simp only[h4,c1,List.nil_append,decide_true,Bool.true_and,Bool.or_true]))]
      ·simp(disch:=omega)only[go_sem]
       rw[gX (len:=1) (d:=43) (l:=[(m.ino n).prt 0]) rfl rfl (by omega)]
       simp(disch:=omega)only[go_sem,dK (a:=[3,4,12,13,29,30])]
       refine ih _ hlt (aJ hp (bad _ (by simp only[h4,c1,List.nil_append,List.contains_nil,decide_true,decide_false,Bool.false_and,Bool.true_and,Bool.or_false,Bool.and_false,Bool.false_or]))) ?_
       simp[St.keep,Slots.only,Own.only,has,slV,kX]
     ·simp(disch:=omega)only[go_sem,c1]
      rw[gX (len:=1) (d:=43) (l:=[(m.ino n).prt 0]) rfl rfl (by omega)]
      simp(disch:=omega)only[go_sem,dK (a:=[3,4,12,13,29,30])]
      refine ih _ hlt (aJ hp (bad _ (by simp only[c1,List.nil_append,List.contains_nil,decide_false,Bool.false_and,Bool.or_false,Bool.and_false,Bool.false_or]))) ?_
      simp[St.keep,Slots.only,Own.only,has,slV,kX]
    ·simp(disch:=omega)only[go_sem,c0,dK (a:=[3,4,12,13,29,30])]
     by_cases c1:0<=(m.ino n).prt 1
     ·simp(disch:=omega)only[go_sem,c1]
      refine am rfl ⟨rfl,rfl⟩ (by simp only[go_sem];exact fp (l:=[(m.ino n).prt 0]) (by simp only[List.length_append,List.length_cons,List.length_nil]at *;omega) (.inr ⟨_,_,_,rfl,by simp,cV _ _,by simp only[HP.push_look_own];rfl⟩)) ?_
      simp(disch:=omega)only[go_sem,c1]
      refine dq (fun h4=>?_) (fun h4=>?_)
      ·simp(disch:=omega)only[go_sem]
       rw[tw (bad _ (by simp only[c0,h4,c1,List.nil_append,decide_true,Bool.true_and,Bool.or_true]))]
      ·simp(disch:=omega)only[go_sem]
       rw[gX (len:=1) (d:=43) (l:=[(m.ino n).prt 0]) rfl rfl (by omega)]
       simp(disch:=omega)only[go_sem,dK (a:=[3,4,12,13,29,30])]
       refine ih _ hlt (aJ hp (bad _ (by simp only[c0,h4,c1,List.nil_append,List.contains_nil,decide_true,decide_false,Bool.false_and,Bool.true_and,Bool.or_false,Bool.and_false,Bool.false_or]))) ?_
       simp[St.keep,Slots.only,Own.only,has,slV,kX]
     ·simp(disch:=omega)only[go_sem,c1]
      rw[gX (len:=1) (d:=43) (l:=[(m.ino n).prt 0]) rfl rfl (by omega)]
      simp(disch:=omega)only[go_sem,dK (a:=[3,4,12,13,29,30])]
      refine ih _ hlt (aJ hp (bad _ (by simp only[c0,c1,List.nil_append,List.contains_nil,decide_false,Bool.false_and,Bool.or_false,Bool.and_false,Bool.false_or]))) ?_
      simp[St.keep,Slots.only,Own.only,has,slV,kX]
   ·have hB:¬B=[]:=fun h=>hA (hboth.2 h)
    simp only[slV,kX,hA,hB,if_false]
    simp(disch:=omega)only[go_sem,hlt,hl]
    refine am rfl ⟨rfl,rfl⟩ (by simp only[go_sem];exact fp (l:=A) (by omega) (.inr ⟨_,_,_,rfl,by simp,cV _ _,by simp only[HP.push_look_own];rfl⟩)) ?_
    simp(disch:=omega)only[go_sem]
    refine dq (fun h2=>?_) (fun h2=>?_)
    ·simp(disch:=omega)only[go_sem]
     rw[tw (bad _ (by simp only[h2,Bool.true_or]))]
    simp(disch:=omega)only[go_sem]
    rw[gX (l:=A) rfl rfl (by omega)]
    simp(disch:=omega)only[go_sem,eR]
    by_cases c0:0<=(m.ino n).prt 0
    ·simp(disch:=omega)only[go_sem,c0]
     refine am rfl ⟨rfl,rfl⟩ (by simp only[go_sem];exact fp (l:=B) (by omega) (.inr ⟨_,_,_,rfl,by simp,cV _ _,by simp only[HP.push_look_own];rfl⟩)) ?_
     simp(disch:=omega)only[go_sem]
     refine dq (fun h3=>?_) (fun h3=>?_)
     ·simp(disch:=omega)only[go_sem]
      rw[tw (bad _ (by simp only[h3,c0,decide_true,Bool.true_and,Bool.true_or,Bool.or_true]))]
     simp(disch:=omega)only[go_sem]
     rw[gX (l:=B) rfl rfl (by omega)]
     simp(disch:=omega)only[go_sem,dK (a:=[3,4,12,13,29,30])]
     by_cases c1:0<=(m.ino n).prt 1
     ·simp(disch:=omega)only[go_sem,c1]
      refine am rfl ⟨rfl,rfl⟩ (by simp only[go_sem];exact fp (l:=B++[(m.ino n).prt 0]) (by simp only[List.length_append,List.length_cons,List.length_nil]at *;omega) (.inr ⟨_,_,_,rfl,by simp,cV _ _,by simp only[HP.push_look_own];rfl⟩)) ?_
      simp(disch:=omega)only[go_sem,c1]
      refine dq (fun h4=>?_) (fun h4=>?_)
      ·simp(disch:=omega)only[go_sem]
       rw[tw (bad _ (by simp only[h2,h3,c0,h4,c1,List.nil_append,decide_true,Bool.true_and,Bool.or_true]))]
      ·simp(disch:=omega)only[go_sem]
       rw[gX (len:=B.length+1) (d:=43) (l:=B++[(m.ino n).prt 0]) rfl (by simp) (by omega)]
       simp(disch:=omega)only[go_sem,dK (a:=[3,4,12,13,29,30])]
       refine ih _ hlt (aJ hp (bad _ (by simp only[h2,h3,c0,h4,c1,List.nil_append,List.contains_nil,decide_true,decide_false,Bool.false_and,Bool.true_and,Bool.or_false,Bool.and_false,Bool.false_or]))) ?_
       simp[St.keep,Slots.only,Own.only,has,slV,kX]
     ·simp(disch:=omega)only[go_sem,c1]
      rw[gX (len:=B.length+1) (d:=43) (l:=B++[(m.ino n).prt 0]) rfl (by simp) (by omega)]
      simp(disch:=omega)only[go_sem,dK (a:=[3,4,12,13,29,30])]
      refine ih _ hlt (aJ hp (bad _ (by simp only[h2,h3,c0,c1,List.nil_append,List.contains_nil,decide_false,Bool.false_and,Bool.or_false,Bool.and_false,Bool.false_or]))) ?_
      simp[St.keep,Slots.only,Own.only,has,slV,kX]
    ·simp(disch:=omega)only[go_sem,c0]
     rw[gX (l:=B) rfl rfl (by omega)]
     simp(disch:=omega)only[go_sem,dK (a:=[3,4,12,13,29,30])]
     by_cases c1:0<=(m.ino n).prt 1
     ·simp(disch:=omega)only[go_sem,c1]
      refine am rfl ⟨rfl,rfl⟩ (by simp only[go_sem];exact fp (l:=B++[(m.ino n).prt 0]) (by simp only[List.length_append,List.length_cons,List.length_nil]at *;omega) (.inr ⟨_,_,_,rfl,by simp,cV _ _,by simp only[HP.push_look_own];rfl⟩)) ?_
      simp(disch:=omega)only[go_sem,c1]
      refine dq (fun h4=>?_) (fun h4=>?_)
      ·simp(disch:=omega)only[go_sem]
       rw[tw (bad _ (by simp only[h2,c0,h4,c1,List.nil_append,decide_true,Bool.true_and,Bool.or_true]))]
      ·simp(disch:=omega)only[go_sem]
       rw[gX (len:=B.length+1) (d:=43) (l:=B++[(m.ino n).prt 0]) rfl (by simp) (by omega)]
       simp(disch:=omega)only[go_sem,dK (a:=[3,4,12,13,29,30])]
       refine ih _ hlt (aJ hp (bad _ (by simp only[h2,c0,h4,c1,List.nil_append,List.contains_nil,decide_true,decide_false,Bool.false_and,Bool.true_and,Bool.or_false,Bool.and_false,Bool.false_or]))) ?_
       simp[St.keep,Slots.only,Own.only,has,slV,kX]
     ·simp(disch:=omega)only[go_sem,c1]
      rw[gX (len:=B.length+1) (d:=43) (l:=B++[(m.ino n).prt 0]) rfl (by simp) (by omega)]
      simp(disch:=omega)only[go_sem,dK (a:=[3,4,12,13,29,30])]
      refine ih _ hlt (aJ hp (bad _ (by simp only[h2,c0,c1,List.nil_append,List.contains_nil,decide_false,Bool.false_and,Bool.or_false,Bool.and_false,Bool.false_or]))) ?_
      simp[St.keep,Slots.only,Own.only,has,slV,kX]
  ·simp only[Bool.not_eq_true]at hl
   have e1:stampsN m (n+1)=stampsN m n:=by simp only[stampsN,hl,Bool.false_eq_true,if_false]
   have e2:seenN m (n+1)=seenN m n:=by simp only[seenN,hl,Bool.false_eq_true,if_false]
   rw[e1,e2]at ih
   have hboth:=nj m n
   generalize stampsN m n=A at *
   generalize seenN m n=B at *
   by_cases hA:A=[]
   ·have hB:=hboth.1 hA
    subst hA;subst hB
    simp only[slV,kX,if_true]
    simp(disch:=omega)only[go_sem,hlt,hl]
    refine ih _ hlt (aJ hp (by simp[badAt,hl])) ?_
    simp[St.keep,Slots.only,Own.only,has,slV,kX]
   ·have hB:¬B=[]:=fun h=>hA (hboth.2 h)
    simp only[slV,kX,hA,hB,if_false]
    simp(disch:=omega)only[go_sem,hlt,hl]
    refine ih _ hlt (aJ hp (by simp[badAt,hl])) ?_
    simp[St.keep,Slots.only,Own.only,has,slV,kX,hA,hB]
 ·obtain rfl:n=8:=by omega
  have:twice m=false:=anyN_false.2 hp
  rw[this]
  have hboth:=nj m 8
  generalize stampsN m 8=A at *
  generalize seenN m 8=B at *
  by_cases hA:A=[]
  ·have hB:=hboth.1 hA
   subst hA;subst hB
   simp only[slV,kX,if_true]
   simp(disch:=omega)only[go_sem]
  ·have hB:¬B=[]:=fun h=>hA (hboth.2 h)
   simp only[slV,kX,hA,hB,if_false]
   simp(disch:=omega)only[go_sem]
end
def Img.small(m:Img):Prop:=∀d s,(m.ent d s).name.size<=100000
def entryFault(m:Img)(d s:Nat):Int:=
 let e:=m.ent d s
 if e.name=⟨#[]⟩then(if e=Ent.zero then 0 else 12)
 else if cO e.name=false then 2
 else if anyN s (fun k=>decide ((m.ent d k).name=e.name))=true then 4
 else if e.ino<0\/8<=e.ino then 1
 else if(m.ino e.ino.toNat).live=true/\(m.ino e.ino.toNat).stamp=e.stamp then 0 else 8
def partFault(m:Img)(i:Ino)(p:Nat):Int:=
 if i.prt p< -1\/9<=i.prt p then 1 else if 0<=i.prt p/\¬(m.dat (i.prt p).toNat).of=i.stamp then 10 else 0
def inoFault(m:Img)(n:Nat):Int:=
 let i:=m.ino n
 if i.live=false then(if i=Ino.none then 0 else 12)
 else if i.stamp<1\/i.links<refs m n then 9
 else firstI 2 (partFault m i)
def dirFault(m:Img)(d:Nat):Int:=firstI 4 (entryFault m d)
def check(m:Img):Int:=
 if firstI 3 (dirFault m)≠0 then firstI 3 (dirFault m)
 else if firstI 8 (inoFault m)≠0 then firstI 8 (inoFault m)
 else if twice m=true then 11 else 0
section
variable{cx:Cx}{h:HP}{p p':Id}{q q':List Nat}{m m':Img}
theorem BZ(hd:d<3)(hs:s<4)(hg:m.small)(hb:p.below cx.lvl)(hm:h.rd p q=some m.enc):
  Ok tbl cx Fn.aM (St.enter [.ptr p q ac,.int .i64 d,.int .i64 s] h) fun v h'=>v=.int .i64 (entryFault m d s)/\h'=h:=by
 rw[aE]
 simp(disch:=omega)only[go_sem,aw hb,HP.rd_app hm,au hb,af hb,ah hb]
 by_cases h1:(m.ent d s).name=⟨#[]⟩
 ·simp(disch:=omega)only[go_sem,h1]
  by_cases h2:m.ent d s=Ent.zero
  ·simp(disch:=omega)only[go_sem,h2];simp[entryFault,h2,show Ent.zero.name=⟨#[]⟩from rfl]
  ·simp(disch:=omega)only[go_sem,h2];simp[entryFault,h1,h2]
 simp(disch:=omega)only[go_sem,h1]
 refine am rfl ⟨rfl,rfl⟩ (by simp only[go_sem];exact Es (hg d s)) ?_
 simp(disch:=omega)only[go_sem,aw hb,HP.rd_app hm,au hb,af hb,ah hb]
 cases h2:cO (m.ent d s).name with
 |false=>simp(disch:=omega)only[go_sem,h2];simp[entryFault,h1,h2]
 |true=>
  simp(disch:=omega)only[go_sem,h2]
  refine cm s (fun j=>⟨[(0,.ptr p q ac),(1,.int .i64 d),(7,.ptr (.stk cx.lvl 7) [] aq),(28,.int .i64 s),(29,.int .i64 j)],[(7,⟨aq,(m.ent d s).enc⟩)],h⟩) (fun j=>∀i,i<j->decide ((m.ent d i).name=(m.ent d s).name)=false) (by simp only[go_sem]<;>rfl) (fun i hi=>by omega) fun j hj hp ih=>?_
  by_cases hlt:j<s
  ·simp(disch:=omega)only[go_sem,hlt,aw hb,HP.rd_app hm,au hb,af hb,ah hb]
   by_cases h3:(m.ent d j).name=(m.ent d s).name
   ·simp(disch:=omega)only[go_sem,h3]
    have:anyN s (fun k=>decide ((m.ent d k).name=(m.ent d s).name))=true:=dQ hlt (by simp[h3])
    simp[entryFault,h1,h2,this]
   ·simp(disch:=omega)only[go_sem,h3]
    refine ih _ hlt (aJ hp (by simp[h3])) ?_
    simp only[go_sem]
  ·obtain rfl:j=s:=by omega
   have h3:anyN j (fun k=>decide ((m.ent d k).name=(m.ent d j).name))=false:=anyN_false.2 hp
   simp(disch:=omega)only[go_sem]
   by_cases h4:(m.ent d j).ino<0
   ·simp(disch:=omega)only[go_sem,h4];simp[entryFault,h1,h2,h3,h4]
   by_cases h5:8<=(m.ent d j).ino
   ·simp(disch:=omega)only[go_sem,h4,h5];simp[entryFault,h1,h2,h3,h5]
   simp(disch:=omega)only[go_sem,h4,h5,aw hb,HP.rd_app hm,au hb,af hb,ah hb]
   have h45:¬((m.ent d j).ino<0\/8<=(m.ent d j).ino):=by omega
   cases h6:(m.ino (m.ent d j).ino.toNat).live with
   |false=>simp(disch:=omega)only[go_sem,h6];simp[entryFault,h1,h2,h3,h45,h6]
   |true=>
    by_cases h7:(m.ino (m.ent d j).ino.toNat).stamp=(m.ent d j).stamp
    ·simp(disch:=omega)only[go_sem,h6,h7];simp[entryFault,h1,h2,h3,h45,h6,h7]
    ·simp(disch:=omega)only[go_sem,h6,h7];simp[entryFault,h1,h2,h3,h45,h6,h7]
theorem Bz(hn:n<8)(hb:p.below cx.lvl)(hm:h.rd p q=some m.enc):
  Ok tbl cx Fn.aW (St.enter [.ptr p q ac,.int .i64 n] h) fun v h'=>v=.int .i64 (inoFault m n)/\h'=h:=by
 rw[aE]
 simp(disch:=omega)only[go_sem,aw hb,HP.rd_app hm,au hb,af hb,ah hb]
 cases h1:(m.ino n).live with
 |false=>
  simp(disch:=omega)only[go_sem,h1,aw hb,HP.rd_app hm,au hb,af hb,ah hb]
  refine am rfl ⟨rfl,rfl⟩ (by simp only[go_sem];exact kQ) ?_
  by_cases h2:m.ino n=Ino.none
  ·simp(disch:=omega)only[go_sem,h2];simp[inoFault,h2,show Ino.none.live=false from rfl]
  ·simp(disch:=omega)only[go_sem,h2];simp[inoFault,h1,h2]
 |true=>
  simp(disch:=omega)only[go_sem,h1,aw hb,HP.rd_app hm,au hb,af hb,ah hb]
  by_cases h2:(m.ino n).stamp<1
  ·simp(disch:=omega)only[go_sem,h2];simp[inoFault,h1,h2]
  simp(disch:=omega)only[go_sem,h2]
  refine am rfl ⟨rfl,rfl⟩ (by simp only[go_sem];exact mf (m:=m) hb.succ (by simp only[HP.push_rd_ext hb,hm])) ?_
  simp(disch:=omega)only[go_sem,h2]
  by_cases h3:(m.ino n).links<refs m n
  ·simp(disch:=omega)only[go_sem,h2,h3];simp[inoFault,h1,h3]
  have h23:¬((m.ino n).stamp<1\/(m.ino n).links<refs m n):=by simp only[not_or];exact⟨h2,h3⟩
  have e:inoFault m n=firstI 2 (partFault m (m.ino n)):=by simp only[inoFault,h1,Bool.true_eq_false,if_false,h23]
  simp(disch:=omega)only[go_sem,h3]
  refine cm 2 (fun j=>⟨[(0,.ptr p q ac),(5,.ptr (.stk cx.lvl 5) [] aj),(32,bF (AV.int .i64) (m.ino n).part),(33,.int .i64 j)],[(5,⟨aj,(m.ino n).enc⟩)],h⟩) (fun j=>∀i,i<j->partFault m (m.ino n) i=0) (by simp only[go_sem]<;>rfl) (fun i hi=>by omega) fun j hj hp ih=>?_
  by_cases hlt:j<2
  ·simp(disch:=omega)only[go_sem,hlt,aw hb,HP.rd_app hm,au hb,af hb,ah hb]
   by_cases h4:(m.ino n).prt j< -1
   ·simp(disch:=omega)only[go_sem,h4]
    have:partFault m (m.ino n) j=1:=by simp[partFault,h4]
    rw[e,fF hp (by rw[this];decide) hlt,this]
   by_cases h5:9<=(m.ino n).prt j
   ·simp(disch:=omega)only[go_sem,h4,h5]
    have:partFault m (m.ino n) j=1:=by simp[partFault,h5]
    rw[e,fF hp (by rw[this];decide) hlt,this]
   have h45:¬((m.ino n).prt j< -1\/9<=(m.ino n).prt j):=by omega
   by_cases h6:0<=(m.ino n).prt j
   ·by_cases h7:(m.dat ((m.ino n).prt j).toNat).of=(m.ino n).stamp
    ·simp(disch:=omega)only[go_sem,h4,h5,h6,aw hb,HP.rd_app hm,au hb,af hb,ah hb,h7]
     refine ih _ hlt (aJ hp (by simp[partFault,h45,h7])) ?_
     simp only[go_sem]
    ·simp(disch:=omega)only[go_sem,h4,h5,h6,aw hb,HP.rd_app hm,au hb,af hb,ah hb,h7]
     have:partFault m (m.ino n) j=10:=by simp only[partFault,h45,h6,h7,if_false,not_false_eq_true,and_self,if_true]
     rw[e,fF hp (by rw[this];decide) hlt,this]
   ·simp(disch:=omega)only[go_sem,h4,h5,h6,aw hb,HP.rd_app hm,au hb,af hb,ah hb]
    refine ih _ hlt (aJ hp (by simp only[partFault,h45,h6,if_false,false_and])) ?_
    simp only[go_sem]
  ·obtain rfl:j=2:=by omega
   simp(disch:=omega)only[go_sem,e]
   rw[firstI_zero.2 hp]
theorem yO(h0:∀i,i<d->dirFault m i=0)(hd:d<3)(h1:∀i,i<s->entryFault m d i=0)(hs:s<4)(h2:entryFault m d s≠0):check m=entryFault m d s:=by
 have e1:dirFault m d=entryFault m d s:=fF h1 h2 hs
 have e2:firstI 3 (dirFault m)=dirFault m d:=fF h0 (by rw[e1];exact h2) hd
 rw[check,if_pos (by rw[e2,e1];exact h2),e2,e1]
theorem yN(h0:∀i,i<3->dirFault m i=0)(h1:∀i,i<n->inoFault m i=0)(hn:n<8)(h2:inoFault m n≠0):check m=inoFault m n:=by
 have e1:firstI 8 (inoFault m)=inoFault m n:=fF h1 h2 hn
 rw[check,if_neg (by rw[firstI_zero.2 h0];simp),if_pos (by rw[e1];exact h2),e1]
theorem uw(h0:∀i,i<3->dirFault m i=0)(h1:∀i,i<8->inoFault m i=0):check m=if twice m=true then 11 else 0:=by
 rw[check,if_neg (by rw[firstI_zero.2 h0];simp),if_neg (by rw[firstI_zero.2 h1];simp)]
theorem wQ(hg:m.small)(hb:p.below cx.lvl)(hm:h.rd p q=some m.enc):
  Ok tbl cx Fn.aG (St.enter [.ptr p q ac] h) fun v h'=>v=.int .i64 (check m)/\h'=h:=by
 rw[aE]
 simp(disch:=omega)only[go_sem]
 refine cm 3 (fun d=>⟨[(0,.ptr p q ac),(8,.int .i64 d)],[],h⟩) (fun d=>∀i,i<d->dirFault m i=0) (by simp only[go_sem]<;>rfl) (fun i hi=>by omega) fun d hd hp ih=>?_
 by_cases hlt:d<3
 ·simp(disch:=omega)only[go_sem]
  refine cm 4 (fun s=>⟨[(0,.ptr p q ac),(3,.int .i64 d),(8,.int .i64 d),(11,.int .i64 s)],[],h⟩) (fun s=>∀i,i<s->entryFault m d i=0) (by simp only[go_sem]<;>rfl) (fun i hi=>by omega) fun s hs hp' ih'=>?_
  by_cases hlt':s<4
  ·simp(disch:=omega)only[go_sem]
   refine am rfl ⟨rfl,rfl⟩ (by simp only[go_sem];exact BZ (m:=m) hlt hlt' hg hb.succ (by simp only[HP.push_rd_ext hb,hm])) ?_
   simp(disch:=omega)only[go_sem]
   by_cases h1:entryFault m d s=0
   ·simp(disch:=omega)only[go_sem,h1]
    refine ih' _ hlt' (aJ hp' h1) ?_
    simp only[go_sem]
   ·simp(disch:=omega)only[go_sem,h1]
    rw[yO hp hlt hp' hlt' h1]
  ·obtain rfl:s=4:=by omega
   simp(disch:=omega)only[go_sem]
   refine ih _ hlt (aJ hp (firstI_zero.2 hp')) ?_
   simp only[go_sem]
 ·obtain rfl:d=3:=by omega
  simp(disch:=omega)only[go_sem]
  refine cm 8 (fun n=>⟨[(0,.ptr p q ac),(23,.int .i64 n)],[],h⟩) (fun n=>∀i,i<n->inoFault m i=0) (by simp only[go_sem]<;>rfl) (fun i hi=>by omega) fun n hn hp' ih'=>?_
  by_cases hlt':n<8
  ·simp(disch:=omega)only[go_sem]
   refine am rfl ⟨rfl,rfl⟩ (by simp only[go_sem];exact Bz (m:=m) hlt' hb.succ (by simp only[HP.push_rd_ext hb,hm])) ?_
   simp(disch:=omega)only[go_sem]
   by_cases h1:inoFault m n=0
   ·simp(disch:=omega)only[go_sem,h1]
    refine ih' _ hlt' (aJ hp' h1) ?_
    simp only[go_sem]
   ·simp(disch:=omega)only[go_sem,h1]
    rw[yN hp hp' hlt' h1]
  ·obtain rfl:n=8:=by omega
   simp(disch:=omega)only[go_sem]
   refine am rfl ⟨rfl,rfl⟩ (by simp only[go_sem];exact AY (m:=m) hb.succ (by simp only[HP.push_rd_ext hb,hm])) ?_
   simp(disch:=omega)only[go_sem]
   have e:=uw hp hp'
   cases h1:twice m with
   |false=>simp(disch:=omega)only[go_sem];rw[e,h1];rfl
   |true=>simp(disch:=omega)only[go_sem];rw[e,h1];rfl
def exact(m:Img):Bool:=!anyN 8 (fun n=>(m.ino n).live&&(decide (refs m n=0)|| !decide ((m.ino n).links=refs m n)))&&decide (check m=0)
end
def partBad(m:Img)(n k p q:Nat):Bool:=(!decide (n=k)|| !decide (p=q))&&decide (0<=(m.ino n).prt p)&&decide ((m.ino n).prt p=(m.ino k).prt q)
def pairBad(m:Img)(n k:Nat):Bool:=
 (m.ino n).live&&(m.ino k).live&&((!decide (n=k)&&decide ((m.ino n).stamp=(m.ino k).stamp))||anyN 2 fun p=>anyN 2 fun q=>partBad m n k p q)
def wZ(m:Img):Bool:=anyN 8 fun n=>anyN 8 fun k=>pairBad m n k
theorem lr{m:Img}{x:Int}:∀{n},x∈stampsN m n↔∃k,k<n/\(m.ino k).live=true/\(m.ino k).stamp=x
 |0=>by simp[stampsN]
 |n+1=>by
  rw[stampsN]
  split
  ·rename_i hl
   rw[List.mem_append,lr,List.mem_singleton]
   constructor
   ·rintro(⟨k,h1,h2⟩|h)
    ·exact⟨k,by omega,h2⟩
    ·exact⟨n,by omega,hl,h.symm⟩
   ·rintro⟨k,h1,h2,h3⟩
    by_cases e:k=n
    ·subst e;exact .inr h3.symm
    ·exact .inl ⟨k,by omega,h2,h3⟩
  ·rename_i hl
   rw[lr]
   constructor
   ·rintro⟨k,h1,h2⟩;exact⟨k,by omega,h2⟩
   ·rintro⟨k,h1,h2,h3⟩
    by_cases e:k=n
    ·subst e;exact absurd h2 hl
    ·exact⟨k,by omega,h2,h3⟩
theorem oi{m:Img}{x:Int}:∀{n},x∈seenN m n↔∃k,k<n/\(m.ino k).live=true/\((m.ino k).prt 0=x\/(m.ino k).prt 1=x)
 |0=>by simp[seenN]
 |n+1=>by
  rw[seenN]
  split
  ·rename_i hl
   rw[List.mem_append,List.mem_append,oi,List.mem_singleton,List.mem_singleton]
   constructor
   ·rintro((⟨k,h1,h2⟩|h)|h)
    ·exact⟨k,by omega,h2⟩
    ·exact⟨n,by omega,hl,.inl h.symm⟩
    ·exact⟨n,by omega,hl,.inr h.symm⟩
   ·rintro⟨k,h1,h2,h3⟩
    by_cases e:k=n
    ·subst e
     rcases h3 with h3|h3
     ·exact .inl (.inr h3.symm)
     ·exact .inr h3.symm
    ·exact .inl (.inl ⟨k,by omega,h2,h3⟩)
  ·rename_i hl
   rw[oi]
   constructor
   ·rintro⟨k,h1,h2⟩;exact⟨k,by omega,h2⟩
   ·rintro⟨k,h1,h2,h3⟩
    by_cases e:k=n
    ·subst e;exact absurd h2 hl
    ·exact⟨k,by omega,h2,h3⟩
variable{a b m:Img}
theorem Ai:badAt m n=true↔(m.ino n).live=true/\((∃k,k<n/\(m.ino k).live=true/\(m.ino k).stamp=(m.ino n).stamp)\/
  (∃p,p<2/\0<=(m.ino n).prt p/\∃k,k<n/\(m.ino k).live=true/\((m.ino k).prt 0=(m.ino n).prt p\/(m.ino k).prt 1=(m.ino n).prt p))\/(0<=(m.ino n).prt 1/\(m.ino n).prt 1=(m.ino n).prt 0)):=by
 simp only[badAt,Bool.and_eq_true,Bool.or_eq_true,List.contains_iff_mem,decide_eq_true_eq,List.mem_append,List.mem_singleton,lr,oi]
 constructor
 ·rintro⟨hl,((h|⟨h0,h⟩)|⟨h1,h|h⟩)⟩
  ·exact⟨hl,.inl h⟩
  ·exact⟨hl,.inr (.inl ⟨0,by omega,h0,h⟩)⟩
  ·exact⟨hl,.inr (.inl ⟨1,by omega,h1,h⟩)⟩
  ·exact⟨hl,.inr (.inr ⟨h1,h⟩)⟩
 ·rintro⟨hl,(h|⟨p,hp,h0,h⟩|⟨h1,h⟩)⟩
  ·exact⟨hl,.inl (.inl h)⟩
  ·obtain rfl|rfl:p=0\/p=1:=by omega
   ·exact⟨hl,.inl (.inr ⟨h0,h⟩)⟩
   ·exact⟨hl,.inr ⟨h0,.inl h⟩⟩
  ·exact⟨hl,.inr ⟨h1,.inr h⟩⟩
theorem ln{k:Nat}:pairBad m n k=true↔(m.ino n).live=true/\(m.ino k).live=true/\((n≠k/\(m.ino n).stamp=(m.ino k).stamp)\/∃p q,p<2/\q<2/\(n≠k\/p≠q)/\0<=(m.ino n).prt p/\(m.ino n).prt p=(m.ino k).prt q):=by
 simp only[pairBad,partBad,Bool.and_eq_true,Bool.or_eq_true,jZ,decide_eq_true_eq,Bool.not_eq_true',decide_eq_false_iff_not]
 constructor
 ·rintro⟨⟨h1,h2⟩,(h|⟨p,hp,q,hq,⟨h3,h4⟩,h5⟩)⟩
  ·exact⟨h1,h2,.inl h⟩
  ·exact⟨h1,h2,.inr ⟨p,q,hp,hq,h3,h4,h5⟩⟩
 ·rintro⟨h1,h2,(h|⟨p,q,hp,hq,h3,h4,h5⟩)⟩
  ·exact⟨⟨h1,h2⟩,.inl h⟩
  ·exact⟨⟨h1,h2⟩,.inr ⟨p,hp,q,hq,⟨h3,h4⟩,h5⟩⟩
theorem Bg{i:Ino}{q:Nat}(hq:q<2)(h:i.prt q=x):i.prt 0=x\/i.prt 1=x:=by
 obtain rfl|rfl:q=0\/q=1:=by omega
 ·exact .inl h
 ·exact .inr h
theorem nR(m:Img):wZ m=twice m:=by
 rw[Bool.eq_iff_iff]
 simp only[wZ,twice,jZ,ln,Ai]
 constructor
 ·rintro⟨n,hn,k,hk,h1,h2,(⟨h3,h4⟩|⟨p,q,hp,hq,h3,h4,h5⟩)⟩
  ·rcases Nat.lt_or_gt_of_ne h3 with h|h
   ·exact⟨k,hk,h2,.inl ⟨n,h,h1,h4⟩⟩
   ·exact⟨n,hn,h1,.inl ⟨k,h,h2,h4.symm⟩⟩
  ·by_cases e:n=k
   ·subst e
    refine⟨n,hn,h1,.inr (.inr ?_)⟩
    have hpq:p≠q:=h3.resolve_left (fun h=>h rfl)
    obtain⟨rfl,rfl⟩|⟨rfl,rfl⟩:(p=0/\q=1)\/(p=1/\q=0):=by omega
    ·exact⟨by rw[←h5];exact h4,h5.symm⟩
    ·exact⟨h4,h5⟩
   ·rcases Nat.lt_or_gt_of_ne e with h|h
    ·exact⟨k,hk,h2,.inr (.inl ⟨q,hq,by rw[←h5];exact h4,n,h,h1,Bg hp h5⟩)⟩
    ·exact⟨n,hn,h1,.inr (.inl ⟨p,hp,h4,k,h,h2,Bg hq h5.symm⟩)⟩
 ·rintro⟨n,hn,h1,(⟨k,hk,h2,h3⟩|⟨p,hp,h2,k,hk,h3,h4⟩|⟨h2,h3⟩)⟩
  ·exact⟨n,hn,k,by omega,h1,h2,.inl ⟨by omega,h3.symm⟩⟩
  ·rcases h4 with h4|h4
   ·exact⟨n,hn,k,by omega,h1,h3,.inr ⟨p,0,hp,by omega,.inl (by omega),h2,h4.symm⟩⟩
   ·exact⟨n,hn,k,by omega,h1,h3,.inr ⟨p,1,hp,by omega,.inl (by omega),h2,h4.symm⟩⟩
  ·exact⟨n,hn,n,hn,h1,h1,.inr ⟨1,0,by omega,by omega,.inr (by omega),h2,h3⟩⟩
theorem uR{k:Nat}(hn:n<8)(hk:k<8)(h:pairBad m n k=true):twice m=true:=by
 rw[←nR];exact dQ hn (dQ hk h)
theorem yo(hd:d<3)(hs:s<4)(hn:¬(m.ent d s).name=⟨#[]⟩):(cr m d (m.ent d s).name<s)↔anyN s (fun k=>decide ((m.ent d k).name=(m.ent d s).name))=true:=by
 have e:cr m d (m.ent d s).name=findN 4 fun k=>decide ((m.ent d k).name=(m.ent d s).name):=by
  simp only[cr,Int.toNat_natCast]
  rw[if_neg (by simp only[not_or];exact⟨by omega,by omega,hn⟩)]
 rw[e]
 constructor
 ·intro h
  obtain e|⟨j,hj,e,h1,h2⟩:=ip (n:=4) (f:=fun k=>decide ((m.ent d k).name=(m.ent d s).name))
  ·have:=oy e s hs;simp at this
  ·rw[e]at h;exact dQ (j:=j) (by omega) h1
 ·intro h
  obtain⟨j,hj,h1⟩:=jZ.1 h
  obtain e|⟨i,hi,e,h2,h3⟩:=ip (n:=4) (f:=fun k=>decide ((m.ent d k).name=(m.ent d s).name))
  ·have:=oy e j (by omega);rw[h1]at this;exact absurd this (by simp)
  ·rw[e]
   rcases Nat.lt_or_ge j i with hji|hji
   ·have:=h3 j hji;rw[h1]at this;exact absurd this (by simp)
   ·omega
theorem Dt(hd:d<3)(hs:s<4)(hn:¬(m.ent d s).name=⟨#[]⟩)(h:anyN s (fun k=>decide ((m.ent d k).name=(m.ent d s).name))=false):¬cr m d (m.ent d s).name<s:=by
 rw[yo hd hs hn,h];simp
section
variable{cx:Cx}{h:HP}{p p':Id}{q q':List Nat}{m m':Img}
theorem sq(hg:m.small)(hb:p.below cx.lvl)(hm:h.rd p q=some m.enc):
  Ok tbl cx Fn.al (St.enter [.ptr p q ac] h) fun v h'=>v=.int .i64 (check m)/\h'=h:=by
 rw[aE]
 simp(disch:=omega)only[go_sem]
 refine cm 3 (fun d=>⟨[(0,.ptr p q ac),(3,.int .i64 d)],[],h⟩) (fun d=>∀i,i<d->dirFault m i=0) (by simp only[go_sem]<;>rfl) (fun i hi=>by omega) fun d hd hp ih=>?_
 by_cases hlt:d<3
 ·simp(disch:=omega)only[go_sem]
  refine cm 4 (fun s=>⟨[(0,.ptr p q ac),(3,.int .i64 d),(4,.int .i64 s)],[],h⟩) (fun s=>∀i,i<s->entryFault m d i=0) (by simp only[go_sem]<;>rfl) (fun i hi=>by omega) fun s hs hp' ih'=>?_
  by_cases hlt':s<4
  ·have bad:∀{c:Int},entryFault m d s=c->c≠0->check m=c:=fun h1 h2=>by
    rw[yO hp hlt hp' hlt' (by rw[h1];exact h2),h1]
   simp(disch:=omega)only[go_sem,hlt,hlt',aw hb,HP.rd_app hm,au hb,af hb,ah hb]
   by_cases h1:(m.ent d s).name=⟨#[]⟩
   ·by_cases h2:(m.ent d s).ino=0
    ·by_cases h3:(m.ent d s).stamp=0
     ·simp(disch:=omega)only[go_sem,h1,h2,h3]
      refine ih' _ hlt' (aJ hp' ?_) ?_
      ·have:m.ent d s=Ent.zero:=by
        cases e:m.ent d s with|mk a b c=>
        rw[e]at h1 h2 h3
        simp only at h1 h2 h3
        subst h1;subst h2;subst h3;rfl
       simp[entryFault,this,show Ent.zero.name=⟨#[]⟩from rfl]
      ·simp only[go_sem]
     ·simp(disch:=omega)only[go_sem,h1,h2,h3]
      rw[bad (c:=12) (by
       have:¬m.ent d s=Ent.zero:=fun e=>h3 (by rw[e];rfl)
       simp[entryFault,h1,this]) (by decide)]
    ·simp(disch:=omega)only[go_sem,h1,h2]
     rw[bad (c:=12) (by
      have:¬m.ent d s=Ent.zero:=fun e=>h2 (by rw[e];rfl)
      simp[entryFault,h1,this]) (by decide)]
   simp(disch:=omega)only[go_sem,h1]
   refine am rfl ⟨rfl,rfl⟩ (by simp only[go_sem];exact Az (hg d s)) ?_
   simp(disch:=omega)only[go_sem,aw hb,HP.rd_app hm,au hb,af hb,ah hb]
   cases h2:cO (m.ent d s).name with
   |false=>simp(disch:=omega)only[go_sem,h2];rw[bad (c:=2) (by simp[entryFault,h1,h2]) (by decide)]
   |true=>
    simp(disch:=omega)only[go_sem,h2]
    refine am rfl ⟨rfl,rfl⟩ (by simp only[go_sem];exact gc (m:=m) hb.succ (by simp only[HP.push_rd_ext hb,hm])) ?_
    simp(disch:=omega)only[go_sem]
    cases h3:anyN s (fun k=>decide ((m.ent d k).name=(m.ent d s).name))with
    |true=>
     have:=(yo hlt hlt' h1).2 h3
     simp(disch:=omega)only[go_sem,this];rw[bad (c:=4) (by simp[entryFault,h1,h2,h3]) (by decide)]
    |false=>
     have:=Dt hlt hlt' h1 h3
     simp(disch:=omega)only[go_sem,this]
     by_cases h4:(m.ent d s).ino<0
     ·simp(disch:=omega)only[go_sem,h4];rw[bad (c:=1) (by simp[entryFault,h1,h2,h3,h4]) (by decide)]
     by_cases h5:8<=(m.ent d s).ino
     ·simp(disch:=omega)only[go_sem,h4,h5];rw[bad (c:=1) (by simp[entryFault,h1,h2,h3,h5]) (by decide)]
     simp(disch:=omega)only[go_sem,h4,h5,aw hb,HP.rd_app hm,au hb,af hb,ah hb]
     have h45:¬((m.ent d s).ino<0\/8<=(m.ent d s).ino):=by omega
     cases h6:(m.ino (m.ent d s).ino.toNat).live with
     |false=>simp(disch:=omega)only[go_sem,h6];rw[bad (c:=8) (by simp[entryFault,h1,h2,h3,h45,h6]) (by decide)]
     |true=>
      by_cases h7:(m.ino (m.ent d s).ino.toNat).stamp=(m.ent d s).stamp
      ·simp(disch:=omega)only[go_sem,h6,h7,aw hb,HP.rd_app hm,au hb,af hb,ah hb]
       refine ih' _ hlt' (aJ hp' (by simp[entryFault,h1,h2,h3,h45,h6,h7])) ?_
       simp only[go_sem]
      ·simp(disch:=omega)only[go_sem,h6,h7,aw hb,HP.rd_app hm,au hb,af hb,ah hb];rw[bad (c:=8) (by simp[entryFault,h1,h2,h3,h45,h6,h7]) (by decide)]
  ·obtain rfl:s=4:=by omega
   simp(disch:=omega)only[go_sem]
   refine ih _ hlt (aJ hp (firstI_zero.2 hp')) ?_
   simp only[go_sem]
 ·obtain rfl:d=3:=by omega
  simp(disch:=omega)only[go_sem]
  refine cm 8 (fun n=>⟨[(0,.ptr p q ac),(6,.int .i64 n)],[],h⟩) (fun n=>∀i,i<n->inoFault m i=0) (by simp only[go_sem]<;>rfl) (fun i hi=>by omega) fun n hn hp' ih'=>?_
  by_cases hlt':n<8
  ·have bad:∀{c:Int},inoFault m n=c->c≠0->check m=c:=fun h1 h2=>by
    rw[yN hp hp' hlt' (by rw[h1];exact h2),h1]
   simp(disch:=omega)only[go_sem,hlt',aw hb,HP.rd_app hm,au hb,af hb,ah hb]
   cases h1:(m.ino n).live with
   |false=>
    simp(disch:=omega)only[go_sem,h1,aw hb,HP.rd_app hm,au hb,af hb,ah hb]
    refine am rfl ⟨rfl,rfl⟩ (by simp only[go_sem];exact iL) ?_
    by_cases h2:m.ino n=Ino.none
    ·simp(disch:=omega)only[go_sem,h2]
     refine ih' _ hlt' (aJ hp' (by simp[inoFault,h2,show Ino.none.live=false from rfl])) ?_
     simp only[go_sem]
    ·simp(disch:=omega)only[go_sem,h2];rw[bad (c:=12) (by simp[inoFault,h1,h2]) (by decide)]
   |true=>
    simp(disch:=omega)only[go_sem,h1,aw hb,HP.rd_app hm,au hb,af hb,ah hb]
    by_cases h2:(m.ino n).stamp<1
    ·simp(disch:=omega)only[go_sem,h2];rw[bad (c:=9) (by simp[inoFault,h1,h2]) (by decide)]
    simp(disch:=omega)only[go_sem,h2]
    refine am rfl ⟨rfl,rfl⟩ (by simp only[go_sem];exact j6 (m:=m) hb.succ (by simp only[HP.push_rd_ext hb,hm])) ?_
    simp(disch:=omega)only[go_sem,h2]
    by_cases h3:(m.ino n).links<refs m n
    ·simp(disch:=omega)only[go_sem,h2,h3];rw[bad (c:=9) (by simp[inoFault,h1,h3]) (by decide)]
    have h23:¬((m.ino n).stamp<1\/(m.ino n).links<refs m n):=by simp only[not_or];exact⟨h2,h3⟩
    have e:inoFault m n=firstI 2 (partFault m (m.ino n)):=by simp only[inoFault,h1,Bool.true_eq_false,if_false,h23]
    simp(disch:=omega)only[go_sem,h3]
    refine cm 2 (fun j=>⟨[(0,.ptr p q ac),(6,.int .i64 n),(7,.ptr (.stk cx.lvl 7) [] aj),(8,.int .i64 j)],[(7,⟨aj,(m.ino n).enc⟩)],h⟩) (fun j=>∀i,i<j->partFault m (m.ino n) i=0) (by simp only[go_sem]<;>rfl) (fun i hi=>by omega) fun j hj hp2 ih2=>?_
    by_cases hlt2:j<2
    ·simp(disch:=omega)only[go_sem,hlt2,aw hb,HP.rd_app hm,au hb,af hb,ah hb]
     by_cases h0:(m.ino n).prt j= -1
     ·simp(disch:=omega)only[go_sem,h0]
      refine ih2 _ hlt2 (aJ hp2 (by simp[partFault,h0])) ?_
      simp only[go_sem]
     by_cases h4:(m.ino n).prt j<0
     ·simp(disch:=omega)only[go_sem,h0,h4]
      have:partFault m (m.ino n) j=1:=by simp only[partFault];rw[if_pos (by omega)]
      rw[bad (by rw[e,fF hp2 (by rw[this];decide) hlt2,this]) (by decide)]
     by_cases h5:9<=(m.ino n).prt j
     ·simp(disch:=omega)only[go_sem,h0,h4,h5]
      have:partFault m (m.ino n) j=1:=by simp[partFault,h5]
      rw[bad (by rw[e,fF hp2 (by rw[this];decide) hlt2,this]) (by decide)]
     have h45:¬((m.ino n).prt j< -1\/9<=(m.ino n).prt j):=by omega
     have h6:0<=(m.ino n).prt j:=by omega
     by_cases h7:(m.dat ((m.ino n).prt j).toNat).of=(m.ino n).stamp
     ·simp(disch:=omega)only[go_sem,h0,h4,h5,h6,aw hb,HP.rd_app hm,au hb,af hb,ah hb,h7]
      refine ih2 _ hlt2 (aJ hp2 (by simp[partFault,h45,h7])) ?_
      simp only[go_sem]
     ·simp(disch:=omega)only[go_sem,h0,h4,h5,h6,aw hb,HP.rd_app hm,au hb,af hb,ah hb,h7]
      have:partFault m (m.ino n) j=10:=by simp only[partFault,h45,h6,h7,if_false,not_false_eq_true,and_self,if_true]
      rw[bad (by rw[e,fF hp2 (by rw[this];decide) hlt2,this]) (by decide)]
    ·obtain rfl:j=2:=by omega
     simp(disch:=omega)only[go_sem]
     refine ih' _ hlt' (aJ hp' (by rw[e];exact firstI_zero.2 hp2)) ?_
     simp only[go_sem]
  ·obtain rfl:n=8:=by omega
   have ec:=uw hp hp'
   have bad:∀{n k},n<8->k<8->pairBad m n k=true->check m=11:=fun h1 h2 h3=>by
    rw[ec,uR h1 h2 h3,if_pos rfl]
   simp(disch:=omega)only[go_sem]
   refine cm 8 (fun n=>⟨[(0,.ptr p q ac),(10,.int .i64 n)],[],h⟩) (fun n=>∀i,i<n->anyN 8 (pairBad m i)=false) (by simp only[go_sem]<;>rfl) (fun i hi=>by omega) fun n hn hp3 ih3=>?_
   by_cases hlt3:n<8
   ·simp(disch:=omega)only[go_sem]
    refine cm 8 (fun k=>⟨[(0,.ptr p q ac),(10,.int .i64 n),(11,.int .i64 k)],[],h⟩) (fun k=>∀i,i<k->pairBad m n i=false) (by simp only[go_sem]<;>rfl) (fun i hi=>by omega) fun k hk hp4 ih4=>?_
    by_cases hlt4:k<8
    ·simp(disch:=omega)only[go_sem,hlt3,hlt4,aw hb,HP.rd_app hm,au hb,af hb,ah hb]
     cases h1:(m.ino n).live with
     |false=>
      simp(disch:=omega)only[go_sem,h1]
      refine ih4 _ hlt4 (aJ hp4 (by simp[pairBad,h1])) ?_
      simp only[go_sem]
     |true=>
      simp(disch:=omega)only[go_sem,h1,hlt3,hlt4,aw hb,HP.rd_app hm,au hb,af hb,ah hb]
      cases h2:(m.ino k).live with
      |false=>
       simp(disch:=omega)only[go_sem,h2]
       refine ih4 _ hlt4 (aJ hp4 (by simp[pairBad,h2])) ?_
       simp only[go_sem]
      |true=>
       simp(disch:=omega)only[go_sem,h2]
       by_cases ek:n=k
       ·subst ek
        simp(disch:=omega)only[go_sem,hlt3,hlt4,aw hb,HP.rd_app hm,au hb,af hb,ah hb]
        refine cm 2 (fun a=>⟨[(0,.ptr p q ac),(10,.int .i64 n),(11,.int .i64 n),(12,.int .i64 a)],[],h⟩) (fun a=>∀i,i<a->anyN 2 (partBad m n n i)=false) (by simp only[go_sem]<;>rfl) (fun i hi=>by omega) fun a ha hp5 ih5=>?_
        by_cases hlt5:a<2
        ·simp(disch:=omega)only[go_sem]
         refine cm 2 (fun b=>⟨[(0,.ptr p q ac),(10,.int .i64 n),(11,.int .i64 n),(12,.int .i64 a),(13,.int .i64 b)],[],h⟩) (fun b=>∀i,i<b->partBad m n n a i=false) (by simp only[go_sem]<;>rfl) (fun i hi=>by omega) fun b hb' hp6 ih6=>?_
         by_cases hlt6:b<2
         ·have pb:partBad m n n a b=true->pairBad m n n=true:=fun hx=>by
           have:anyN 2 (fun p=>anyN 2 fun q=>partBad m n n p q)=true:=dQ hlt5 (dQ hlt6 hx)
           simp only[pairBad,h1,this,Bool.and_self,Bool.or_true]
          by_cases ab:a=b
          ·subst ab
           simp(disch:=omega)only[go_sem,hlt3,hlt4,hlt5,hlt6,aw hb,HP.rd_app hm,au hb,af hb,ah hb]
           refine ih6 _ hlt6 (aJ hp6 (by simp[partBad])) ?_
           simp only[go_sem]
          ·simp(disch:=omega)only[go_sem,hlt3,hlt4,hlt5,hlt6,aw hb,HP.rd_app hm,au hb,af hb,ah hb]
           by_cases c1:0<=(m.ino n).prt a
           ·by_cases c2:(m.ino n).prt a=(m.ino n).prt b
            ·simp(disch:=omega)only[go_sem,c1,c2,hlt3,hlt4,hlt5,hlt6,aw hb,HP.rd_app hm,au hb,af hb,ah hb]
             rw[bad hlt3 hlt3 (pb (by have c3:=c1;rw[c2]at c3;simp[partBad,ab,c2,c3]))]
            ·simp(disch:=omega)only[go_sem,c1,c2,hlt3,hlt4,hlt5,hlt6,aw hb,HP.rd_app hm,au hb,af hb,ah hb]
             refine ih6 _ hlt6 (aJ hp6 (by simp[partBad,c2])) ?_
             simp only[go_sem]
           ·simp(disch:=omega)only[go_sem,c1]
            refine ih6 _ hlt6 (aJ hp6 (by simp[partBad,c1])) ?_
            simp only[go_sem]
         ·obtain rfl:b=2:=by omega
          simp(disch:=omega)only[go_sem]
          refine ih5 _ hlt5 (aJ hp5 (anyN_false.2 hp6)) ?_
          simp only[go_sem]
        ·obtain rfl:a=2:=by omega
         simp(disch:=omega)only[go_sem]
         refine ih4 _ hlt4 (aJ hp4 ?_) ?_
         ·have:anyN 2 (fun p=>anyN 2 fun q=>partBad m n n p q)=false:=anyN_false.2 hp5
          rw[pairBad,this];simp
         ·simp only[go_sem]
       ·by_cases ck:(m.ino n).stamp=(m.ino k).stamp
        ·simp(disch:=omega)only[go_sem,ck,hlt3,hlt4,aw hb,HP.rd_app hm,au hb,af hb,ah hb]
         rw[bad hlt3 hlt4 (by simp[pairBad,h1,h2,ek,ck])]
        ·simp(disch:=omega)only[go_sem,ck,hlt3,hlt4,aw hb,HP.rd_app hm,au hb,af hb,ah hb]
         refine cm 2 (fun a=>⟨[(0,.ptr p q ac),(10,.int .i64 n),(11,.int .i64 k),(12,.int .i64 a)],[],h⟩) (fun a=>∀i,i<a->anyN 2 (partBad m n k i)=false) (by simp only[go_sem]<;>rfl) (fun i hi=>by omega) fun a ha hp5 ih5=>?_
         by_cases hlt5:a<2
         ·simp(disch:=omega)only[go_sem]
          refine cm 2 (fun b=>⟨[(0,.ptr p q ac),(10,.int .i64 n),(11,.int .i64 k),(12,.int .i64 a),(13,.int .i64 b)],[],h⟩) (fun b=>∀i,i<b->partBad m n k a i=false) (by simp only[go_sem]<;>rfl) (fun i hi=>by omega) fun b hb' hp6 ih6=>?_
          by_cases hlt6:b<2
          ·have pb:partBad m n k a b=true->pairBad m n k=true:=fun hx=>by
            have:anyN 2 (fun p=>anyN 2 fun q=>partBad m n k p q)=true:=dQ hlt5 (dQ hlt6 hx)
            simp only[pairBad,h1,h2,this,Bool.and_self,Bool.or_true]
           simp(disch:=omega)only[go_sem,hlt3,hlt4,hlt5,hlt6,aw hb,HP.rd_app hm,au hb,af hb,ah hb]
           by_cases c1:0<=(m.ino n).prt a
           ·by_cases c2:(m.ino n).prt a=(m.ino k).prt b
            ·simp(disch:=omega)only[go_sem,c1,c2,hlt3,hlt4,hlt5,hlt6,aw hb,HP.rd_app hm,au hb,af hb,ah hb]
             rw[bad hlt3 hlt4 (pb (by have c3:=c1;rw[c2]at c3;simp[partBad,ek,c2,c3]))]
            ·simp(disch:=omega)only[go_sem,c1,c2,hlt3,hlt4,hlt5,hlt6,aw hb,HP.rd_app hm,au hb,af hb,ah hb]
             refine ih6 _ hlt6 (aJ hp6 (by simp[partBad,c2])) ?_
             simp only[go_sem]
           ·simp(disch:=omega)only[go_sem,c1]
            refine ih6 _ hlt6 (aJ hp6 (by simp[partBad,c1])) ?_
            simp only[go_sem]
          ·obtain rfl:b=2:=by omega
           simp(disch:=omega)only[go_sem]
           refine ih5 _ hlt5 (aJ hp5 (anyN_false.2 hp6)) ?_
           simp only[go_sem]
         ·obtain rfl:a=2:=by omega
          simp(disch:=omega)only[go_sem]
          refine ih4 _ hlt4 (aJ hp4 ?_) ?_
          ·have:anyN 2 (fun p=>anyN 2 fun q=>partBad m n k p q)=false:=anyN_false.2 hp5
           rw[pairBad,this];simp[ck]
          ·simp only[go_sem]
    ·obtain rfl:k=8:=by omega
     simp(disch:=omega)only[go_sem]
     refine ih3 _ hlt3 (aJ hp3 (anyN_false.2 hp4)) ?_
     simp only[go_sem]
   ·obtain rfl:n=8:=by omega
    simp(disch:=omega)only[go_sem]
    have:twice m=false:=by rw[←nR];exact anyN_false.2 hp3
    rw[ec,this];rfl
end
theorem ql{f:Nat->Nat}{j:Nat}:∀{n},j<n->f j<=sumN n f
 |0,h=>by omega
 |n+1,h=>by
  rw[sumN]
  by_cases e:j=n
  ·subst e;omega
  ·have:=ql (f:=f) (j:=j) (n:=n) (by omega);omega
theorem D8(h:¬(d<3/\s<4)):m.ent d s=Ent.zero:=by simp only[Img.ent];rw[dif_neg h]
theorem vg(h:∀d,d<3->∀s,s<4->(m.ent d s).name.size<=100000):m.small:=by
 intro d s
 by_cases hc:d<3/\s<4
 ·exact h d hc.1 s hc.2
 ·rw[D8 hc];decide
theorem iw(h:check m=0):(∀d,d<3->∀s,s<4->entryFault m d s=0)/\(∀n,n<8->inoFault m n=0)/\twice m=false:=by
 unfold check at h
 split at h
 ·rename_i h1;exact absurd h h1
 ·rename_i h1
  split at h
  ·rename_i h2;exact absurd h h2
  ·rename_i h2
   split at h
   ·exact absurd h (by decide)
   ·rename_i h3
    refine⟨fun d hd=>firstI_zero.1 (firstI_zero.1 (by simpa using h1) d hd),firstI_zero.1 (by simpa using h2),by simpa using h3⟩
theorem Cc(h1:∀d,d<3->∀s,s<4->entryFault m d s=0)(h2:∀n,n<8->inoFault m n=0)(h3:twice m=false):check m=0:=by
 rw[uw (fun d hd=>firstI_zero.2 (h1 d hd)) h2,h3];rfl
theorem p7(h:entryFault m d s=0):m.ent d s=Ent.zero\/(¬(m.ent d s).name=⟨#[]⟩/\cO (m.ent d s).name=true/\anyN s (fun k=>decide ((m.ent d k).name=(m.ent d s).name))=false/\
  0<=(m.ent d s).ino/\(m.ent d s).ino<8/\(m.ino (m.ent d s).ino.toNat).live=true/\(m.ino (m.ent d s).ino.toNat).stamp=(m.ent d s).stamp):=by
 simp only[entryFault]at h
 split at h
 ·split at h
  ·rename_i h1;exact .inl h1
  ·exact absurd h (by decide)
 ·rename_i h1
  right
  split at h
  ·exact absurd h (by decide)
  ·rename_i h2
   split at h
   ·exact absurd h (by decide)
   ·rename_i h3
    split at h
    ·exact absurd h (by decide)
    ·rename_i h4
     split at h
     ·rename_i h5
      exact⟨h1,by simpa using h2,by simpa using h3,by omega,by omega,h5.1,h5.2⟩
     ·exact absurd h (by decide)
theorem B0(h1:¬(m.ent d s).name=⟨#[]⟩)(h2:cO (m.ent d s).name=true)(h3:anyN s (fun k=>decide ((m.ent d k).name=(m.ent d s).name))=false)
  (h4:0<=(m.ent d s).ino) (h5:(m.ent d s).ino<8) (h6:(m.ino (m.ent d s).ino.toNat).live=true) (h7:(m.ino (m.ent d s).ino.toNat).stamp=(m.ent d s).stamp):entryFault m d s=0:=by
 have h45:¬((m.ent d s).ino<0\/8<=(m.ent d s).ino):=by omega
 simp[entryFault,h1,h2,h3,h45,h6,h7]
def named(m:Img)(d s:Nat):Bool:=!decide ((m.ent d s).name=⟨#[]⟩)
def Bl(m:Img)(d k:Nat):Nat:=sumN k fun s=>b2n (named m d s)
def names(m:Img)(k:Nat):Nat:=sumN k fun d=>Bl m d 4
def hits(m:Img)(n p x:Nat):Nat:=b2n ((m.ino n).live&&decide ((m.ino n).prt p=x))
def cnt(m:Img)(n r x:Nat):Nat:=(sumN n fun k=>sumN 2 fun p=>hits m k p x)+sumN r fun p=>hits m n p x
def cc(a b c:Int):AV:=.cons (.int .i64 a) (.cons (.int .i64 b) (.cons (.int .i64 c) .unit))
@[go_sem] theorem Lr(a b c:Int):(cc a b c).at [0]=some (.int .i64 a):=rfl
@[go_sem] theorem Lq(a b c:Int):(cc a b c).at [1]=some (.int .i64 b):=rfl
@[go_sem] theorem Lp(a b c:Int):(cc a b c).at [2]=some (.int .i64 c):=rfl
@[go_sem] theorem HI(a b c x:Int):(cc a b c).put [0] (.int .i64 x)=some (cc x b c):=rfl
@[go_sem] theorem HH(a b c x:Int):(cc a b c).put [1] (.int .i64 x)=some (cc a x c):=rfl
@[go_sem] theorem HG(a b c x:Int):(cc a b c).put [2] (.int .i64 x)=some (cc a b x):=rfl
@[go_sem] theorem Ix(a b c:Int):(cS.fits (cc a b c)=true)=True:=eq_true rfl
@[go_sem] theorem Ht:cS.zero=cc 0 0 0:=rfl
@[go_sem] theorem Gu(a b c:Int):fill cS (cc 0 0 0) [(0,.int .i64 a),(1,.int .i64 b),(2,.int .i64 c)]=some (cc a b c):=rfl
@[go_sem] theorem Gv(b c:Int):fill cS (cc 0 0 0) [(1,.int .i64 b),(2,.int .i64 c)]=some (cc 0 b c):=rfl
@[go_sem] theorem Fi:cS.field 0=some tI:=rfl
@[go_sem] theorem Fh:cS.field 1=some tI:=rfl
@[go_sem] theorem Fg:cS.field 2=some tI:=rfl
@[go_sem] theorem MS(a b c:Int)(i:Id):fg (cc a b c) i=cc a b c:=rfl
@[go_sem] theorem F5(a b c:Int)(i:Id):(cc a b c).leads i=false:=rfl
@[go_sem] theorem Ga(a b c:Int):(cc a b c).isAgg=true:=rfl
@[go_sem] theorem HC(a b c:Int):(cc a b c).safe=true:=rfl
theorem D7(a b c a' b' c':Int):(cc a b c).eq (cc a' b' c')=some (decide (a=a'/\b=b'/\c=c')):=by
 simp only[cc,nC,nB,oP,iX,lI]
@[go_sem] theorem K6(neg:Bool)(a b c a' b' c':Int):eqV cS neg (cc a b c) (cc a' b' c')=some (.bool (if neg=true then !decide (a=a'/\b=b'/\c=c')else decide (a=a'/\b=b'/\c=c'))):=jJ rfl rfl (D7 ..)
@[go_sem] theorem LX:tK3.zero=bF (AV.int .i64) (Vector.replicate 3 0):=iP (t:=tI) rfl
@[go_sem] theorem Mz(v:Vector Int 3):(tK3.fits (bF (AV.int .i64) v)=true)=True:=eq_true (iT (t:=tI) fun _=>rfl)
@[go_sem] theorem Mu(j:Id)(p:List Nat)(i:AV):mh 3 tI (.ptr j p tK3) i=mh 3 tI (.ptr j p (.arr 3 tI)) i:=rfl
def k3(a b c:Int):Vector Int 3:=#v[a,b,c]
@[go_sem] theorem PF(a b c:Int)(h:0<3):(k3 a b c)[0]'h=a:=rfl
@[go_sem] theorem PE(a b c:Int)(h:1<3):(k3 a b c)[1]'h=b:=rfl
@[go_sem] theorem PD(a b c:Int)(h:2<3):(k3 a b c)[2]'h=c:=rfl
@[go_sem] theorem O7(a b c x:Int)(h:0<3):(k3 a b c).set 0 x h=k3 x b c:=rfl
@[go_sem] theorem O6(a b c x:Int)(h:1<3):(k3 a b c).set 1 x h=k3 a x c:=rfl
@[go_sem] theorem O5(a b c x:Int)(h:2<3):(k3 a b c).set 2 x h=k3 a b x:=rfl
@[go_sem] theorem Mt:(Vector.replicate 3 0:Vector Int 3)=k3 0 0 0:=rfl
@[go_sem] theorem L6(v:Vector Int n):(bF (AV.int .i64) v).safe=true:=by simp[bF,AV.safe]
theorem yx(i:Ino)(h1:i.live=true):(⟨true,i.stamp,i.links,i.part⟩:Ino)=i:=by cases i;simp at h1;rw[h1]
section
variable{T:MTb}{cx:Cx}{k:List Item}{kill:List Nat}{r:List MOp}{sl:Slots}{own:Own}{h:HP}{Q:St->Prop}
def three(x y z:Option AV):Option AV:=match x,y,z with
 |some x,some y,some z=>some (.tup (.cons x (.cons y (.cons z .unit))))
 |_,_,_=>none
@[go_sem] theorem FE(x y z:AV):three (some x) (some y) (some z)=some (.tup (.cons x (.cons y (.cons z .unit)))):=rfl
@[go_sem] theorem Dk{a b c:MRes}{s:St}:results cx s [a,b,c]=three (res1 cx s a) (res1 cx s b) (res1 cx s c):=by
 simp only[results,iI,three,res1]
 cases resOf cx s a<;>cases resOf cx s b<;>cases resOf cx s c<;>rfl
@[go_sem] theorem On(a b c d:AV):BK (.tup (.cons a (.cons b (.cons c d)))) 2=if c.safe=true then some c else none:=rfl
end
def mendIno(m:Img)(n:Nat):Ino:=
 if(m.ino n).live=false then m.ino n else if refs m n=0 then Ino.none else{m.ino n with links:=refs m n}
def mendI(m:Img):Nat->Img
 |0=>m
 |k+1=>(mendI m k).setIno k (mendIno m k)
def loose(m:Img)(x:Nat):Bool:=!decide (m.dat x=Dat.zero)&& !held m x
def gN(m:Img)(x:Nat):Dat:=if loose m x=true then Dat.zero else m.dat x
def mendD(m:Img):Nat->Img
 |0=>m
 |k+1=>(mendD m k).setDat k (gN m k)
def lostF(m:Img)(k:Nat):Nat:=sumN k fun n=>b2n ((m.ino n).live&&decide (refs m n=0))
def lostC(m:Img)(k:Nat):Nat:=sumN k fun n=>b2n ((m.ino n).live&& !decide (refs m n=0)&& !decide ((m.ino n).links=refs m n))
def lostD(m:Img)(k:Nat):Nat:=sumN k fun x=>b2n (loose m x)
def mended(m:Img):Img:=mendD (mendI m 8) 9
theorem oe(m:Img)(d s:Nat):∀k,(mendI m k).ent d s=m.ent d s
 |0=>rfl
 |k+1=>by rw[mendI,ji,oe m d s k]
theorem sI(m:Img)(x:Nat):∀k,(mendI m k).dat x=m.dat x
 |0=>rfl
 |k+1=>by rw[mendI,rA,sI m x k]
theorem jR(m:Img)(n:Nat):∀k,(mendI m k).ino n=if n<k/\n<8 then mendIno m n else m.ino n
 |0=>by rw[if_neg (by omega)];rfl
 |k+1=>by
  rw[mendI,g8,jR m n k]
  by_cases e:k=n
  ·subst e
   by_cases h8:k<8
   ·rw[if_pos ⟨rfl,h8⟩,if_pos ⟨by omega,h8⟩]
   ·rw[if_neg (by omega),if_neg (by omega),if_neg (by omega)]
  ·rw[if_neg (by omega)]
   by_cases h8:n<k/\n<8
   ·rw[if_pos h8,if_pos (by omega)]
   ·rw[if_neg h8,if_neg (by omega)]
theorem qJ{m':Img}(h:∀d s,m.ent d s=m'.ent d s)(i:Int):refs m i=refs m' i:=by
 simp only[refs,fq,leads,h]
theorem qV(m:Img)(k:Nat)(i:Int):refs (mendI m k) i=refs m i:=qJ (fun d s=>oe m d s k) i
theorem oh(m:Img)(n:Nat):∀k,(mendD m k).ino n=m.ino n
 |0=>rfl
 |k+1=>by rw[mendD,mM,oh m n k]
theorem sJ(m:Img)(d s:Nat):∀k,(mendD m k).ent d s=m.ent d s
 |0=>rfl
 |k+1=>by rw[mendD,mQ,sJ m d s k]
theorem lZ(m:Img)(x:Nat):∀k,(mendD m k).dat x=if x<k/\x<9 then gN m x else m.dat x
 |0=>by rw[if_neg (by omega)];rfl
 |k+1=>by
  rw[mendD,kI,lZ m x k]
  by_cases e:k=x
  ·subst e
   by_cases h8:k<9
   ·rw[if_pos ⟨rfl,h8⟩,if_pos ⟨by omega,h8⟩]
   ·rw[if_neg (by omega),if_neg (by omega),if_neg (by omega)]
  ·rw[if_neg (by omega)]
   by_cases h8:x<k/\x<9
   ·rw[if_pos h8,if_pos (by omega)]
   ·rw[if_neg h8,if_neg (by omega)]
theorem xE{m':Img}(h:∀n,m.ino n=m'.ino n)(x:Int):held m x=held m' x:=by simp only[held,h]
theorem qW(m:Img)(k:Nat)(x:Int):held (mendD m k) x=held m x:=xE (fun n=>oh m n k) x
theorem jv(m:Img){y:Ino}(h:y=m.ino n):m.setIno n y=m:=by
 subst h
 refine Img.ext_of (fun k hk=>?_) (fun d s _ _=>by rw[ji]) (fun x _=>by rw[rA])
 rw[g8];split
 ·rename_i h;rw[h.1]
 ·rfl
theorem pq(m:Img){y:Dat}(h:y=m.dat n):m.setDat n y=m:=by
 subst h
 refine Img.ext_of (fun k hk=>by rw[mM]) (fun d s _ _=>by rw[mQ]) (fun x _=>?_)
 rw[kI];split
 ·rename_i h;rw[h.1]
 ·rfl
theorem vM(m:Img)(k:Nat):lostF m k<=k:=by have:=fW (fun n=>o3 ((m.ino n).live&&decide (refs m n=0))) k;simpa[lostF]using this
theorem vO(m:Img)(k:Nat):lostC m k<=k:=by have:=fW (fun n=>o3 ((m.ino n).live&& !decide (refs m n=0)&& !decide ((m.ino n).links=refs m n))) k;simpa[lostC]using this
theorem vN(m:Img)(k:Nat):lostD m k<=k:=by have:=fW (fun n=>o3 (loose m n)) k;simpa[lostD]using this
def pD(m:Img):Img:=if check m=0 then mended m else Img.zero
def pH(m:Img):Nat:=if check m=0 then lostF m 8 else 0
def pG(m:Img):Nat:=if check m=0 then lostC m 8 else 0
def pF(m:Img):Nat:=if check m=0 then lostD (mendI m 8) 9 else 0
section
variable{cx:Cx}{h:HP}{p p':Id}{q q':List Nat}{m m':Img}
theorem Et(hs:m.small):Ok tbl cx Fn.aN (St.enter [m.enc] h) fun v h'=>v=.tup (.cons (pD m).enc (.cons (cc (pH m) (pG m) (pF m)) (.cons (.int .i64 (check m)) .unit)))/\h'=h:=by
 rw[aE]
 simp(disch:=omega)only[go_sem]
 refine am rfl ⟨rfl,rfl⟩ (by simp only[go_sem];exact wQ (m:=m) hs (cV _ _) (by simp only[go_sem,HP.push_rd_own])) ?_
 simp(disch:=omega)only[go_sem]
 by_cases hc:check m=0
 ·simp(disch:=omega)only[go_sem,hc]
  refine fo 8 (fun n=>⟨[(1,.ptr (.stk cx.lvl 1) [] ac),(2,.ptr (.stk cx.lvl 2) [] ac),(3,.ptr (.stk cx.lvl 3) [] cS),(6,.ptr (.stk cx.lvl 6) [] cS),(17,.int .i64 n)],
   [(1,⟨ac,(mendI m n).enc⟩),(2,⟨ac,Img.zero.enc⟩),(3,⟨cS,cc 0 0 0⟩),(6,⟨cS,cc (lostF m n) (lostC m n) 0⟩)],h⟩) (by simp only[go_sem]<;>rfl) fun n hn ih=>?_
  have hF:=vM m n
  have hC:=vO m n
  by_cases hlt:n<8
  ·have hI:(mendI m n).ino n=m.ino n:=by rw[jR,if_neg (by omega)]
   simp(disch:=omega)only[go_sem,hlt]
   refine am rfl ⟨rfl,rfl⟩ (by simp only[go_sem];exact mf (m:=mendI m n) (cV _ _) (by simp only[go_sem,HP.push_rd_own])) ?_
   simp(disch:=omega)only[go_sem,hlt,qV,hI]
   cases hl:(m.ino n).live with
   |false=>
    simp(disch:=omega)only[go_sem]
    refine ih _ hlt ?_
    have e1:lostF m (n+1)=lostF m n:=by simp[lostF,sumN,hl,b2n]
    have e2:lostC m (n+1)=lostC m n:=by simp[lostC,sumN,hl,b2n]
    have e3:mendI m (n+1)=mendI m n:=by rw[mendI];exact jv _ (by simp[mendIno,hl,hI])
    simp only[go_sem,e1,e2,e3]
   |true=>
    by_cases hr:refs m n=0
    ·simp(disch:=omega)only[go_sem,hr]
     refine am rfl ⟨rfl,rfl⟩ (by simp only[go_sem];exact kQ) ?_
     simp(disch:=omega)only[go_sem,hr]
     refine ih _ hlt ?_
     have e1:lostF m (n+1)=lostF m n+1:=by simp[lostF,sumN,hl,hr,b2n]
     have e2:lostC m (n+1)=lostC m n:=by simp[lostC,sumN,hl,hr,b2n]
     have e3:mendI m (n+1)=(mendI m n).setIno n Ino.none:=by rw[mendI];simp[mendIno,hl,hr]
     simp only[go_sem,e1,e2,e3]
    ·by_cases hk:(m.ino n).links=refs m n
     ·simp(disch:=omega)only[go_sem,hk,hI,hlt]
      refine ih _ hlt ?_
      have e1:lostF m (n+1)=lostF m n:=by simp[lostF,sumN,hl,hr,b2n]
      have e2:lostC m (n+1)=lostC m n:=by simp[lostC,sumN,hl,hr,hk,b2n]
      have e3:mendI m (n+1)=mendI m n:=by rw[mendI];exact jv _ (by rw[hI];simp only[mendIno,hl,hr,Bool.true_eq_false,if_false,←hk];exact yx _ hl)
      simp only[go_sem,e1,e2,e3]
     ·simp(disch:=omega)only[go_sem,hk,hI,hlt]
      refine ih _ hlt ?_
      have e1:lostF m (n+1)=lostF m n:=by simp[lostF,sumN,hl,hr,b2n]
      have e2:lostC m (n+1)=lostC m n+1:=by simp[lostC,sumN,hl,hr,hk,b2n]
      have e3:mendI m (n+1)=(mendI m n).setIno n ⟨(m.ino n).live,(m.ino n).stamp,refs m n,(m.ino n).part⟩:=by rw[mendI];simp[mendIno,hl,hr]
      simp only[go_sem,e1,e2,e3]
  ·obtain rfl:n=8:=by omega
   simp(disch:=omega)only[go_sem]
   refine fo 9 (fun x=>⟨[(1,.ptr (.stk cx.lvl 1) [] ac),(2,.ptr (.stk cx.lvl 2) [] ac),(3,.ptr (.stk cx.lvl 3) [] cS),(6,.ptr (.stk cx.lvl 6) [] cS),(57,.int .i64 x)],
    [(1,⟨ac,(mendD (mendI m 8) x).enc⟩),(2,⟨ac,Img.zero.enc⟩),(3,⟨cS,cc 0 0 0⟩),(6,⟨cS,cc (lostF m 8) (lostC m 8) (lostD (mendI m 8) x)⟩)],h⟩) (by simp only[go_sem]<;>rfl) fun x hx ih2=>?_
   have hD:=vN (mendI m 8) x
   by_cases hlt2:x<9
   ·have hX:(mendD (mendI m 8) x).dat x=(mendI m 8).dat x:=by rw[lZ,if_neg (by omega)]
    have l0:loose (mendI m 8) x=false->mendD (mendI m 8) (x+1)=mendD (mendI m 8) x/\lostD (mendI m 8) (x+1)=lostD (mendI m 8) x:=fun h=>by
     refine⟨?_,by simp[lostD,sumN,h,b2n]⟩
     rw[mendD];exact pq _ (by rw[hX];simp[gN,h])
    have l1:loose (mendI m 8) x=true->mendD (mendI m 8) (x+1)=(mendD (mendI m 8) x).setDat x Dat.zero/\lostD (mendI m 8) (x+1)=lostD (mendI m 8) x+1:=fun h=>by
     refine⟨?_,by simp[lostD,sumN,h,b2n]⟩
     rw[mendD];simp[gN,h]
    simp(disch:=omega)only[go_sem,hlt2,hX]
    by_cases hz:(mendI m 8).dat x=Dat.zero
    ·obtain⟨e1,e2⟩:=l0 (by simp[loose,hz])
     simp(disch:=omega)only[go_sem,hz]
     refine ih2 _ hlt2 ?_
     simp only[go_sem,e1,e2]
    ·simp(disch:=omega)only[go_sem,hz]
     refine am rfl ⟨rfl,rfl⟩ (by simp only[go_sem];exact rT (m:=mendD (mendI m 8) x) (cV _ _) (by simp only[go_sem,HP.push_rd_own])) ?_
     simp(disch:=omega)only[go_sem,qW]
     cases hh:held (mendI m 8) x with
     |true=>
      obtain⟨e1,e2⟩:=l0 (by simp[loose,hh])
      simp(disch:=omega)only[go_sem,hh]
      refine ih2 _ hlt2 ?_
      simp only[go_sem,e1,e2]
     |false=>
      obtain⟨e1,e2⟩:=l1 (by simp[loose,hz,hh])
      simp(disch:=omega)only[go_sem,hh,hlt2]
      refine ih2 _ hlt2 ?_
      simp only[go_sem,e1,e2]
   ·obtain rfl:x=9:=by omega
    simp(disch:=omega)only[go_sem]
    simp[pD,pH,pG,pF,mended,hc]
 ·simp(disch:=omega)only[go_sem,hc]
  simp[pD,pH,pG,pF,hc]
theorem Ax(hs:m.small):Ok tbl cx Fn.bD (St.enter [m.enc] h) fun v h'=>v=.tup (.cons (pD m).enc (.cons (bF (AV.int .i64) (k3 (pH m) (pG m) (pF m))) (.cons (.int .i64 (check m)) .unit)))/\h'=h:=by
 rw[aE]
 simp(disch:=omega)only[go_sem]
 refine am rfl ⟨rfl,rfl⟩ (by simp only[go_sem];exact sq (m:=m) hs (cV _ _) (by simp only[go_sem,HP.push_rd_own])) ?_
 simp(disch:=omega)only[go_sem]
 by_cases hc:check m=0
 ·simp(disch:=omega)only[go_sem,hc]
  refine fo 8 (fun n=>⟨[(1,.ptr (.stk cx.lvl 1) [] ac),(2,.ptr (.stk cx.lvl 2) [] ac),(3,.ptr (.stk cx.lvl 3) [] tK3),(6,.ptr (.stk cx.lvl 6) [] tK3),(7,.int .i64 n)],
   [(1,⟨ac,(mendI m n).enc⟩),(2,⟨ac,Img.zero.enc⟩),(3,⟨tK3,bF (AV.int .i64) (k3 0 0 0)⟩),(6,⟨tK3,bF (AV.int .i64) (k3 (lostF m n) (lostC m n) 0)⟩)],h⟩) (by simp only[go_sem]<;>rfl) fun n hn ih=>?_
  have hF:=vM m n
  have hC:=vO m n
  by_cases hlt:n<8
  ·have hI:(mendI m n).ino n=m.ino n:=by rw[jR,if_neg (by omega)]
   simp(disch:=omega)only[go_sem,hlt]
   refine am rfl ⟨rfl,rfl⟩ (by simp only[go_sem];exact j6 (m:=mendI m n) (cV _ _) (by simp only[go_sem,HP.push_rd_own])) ?_
   simp(disch:=omega)only[go_sem,hlt,qV,hI]
   cases hl:(m.ino n).live with
   |false=>
    simp(disch:=omega)only[go_sem]
    refine ih _ hlt ?_
    have e1:lostF m (n+1)=lostF m n:=by simp[lostF,sumN,hl,b2n]
    have e2:lostC m (n+1)=lostC m n:=by simp[lostC,sumN,hl,b2n]
    have e3:mendI m (n+1)=mendI m n:=by rw[mendI];exact jv _ (by simp[mendIno,hl,hI])
    simp only[go_sem,e1,e2,e3]
   |true=>
    have e3:refs m n=0->mendI m (n+1)=(mendI m n).setIno n Ino.none:=fun hr=>by rw[mendI];simp[mendIno,hl,hr]
    have e1:refs m n=0->lostF m (n+1)=lostF m n+1:=fun hr=>by simp[lostF,sumN,hl,hr,b2n]
    have e2:refs m n=0->lostC m (n+1)=lostC m n:=fun hr=>by simp[lostC,sumN,hl,hr,b2n]
    by_cases hk:(m.ino n).links=refs m n
    ·by_cases hr:refs m n=0
     ·simp(disch:=omega)only[go_sem,hk,hr,hI,hlt]
      refine am rfl ⟨rfl,rfl⟩ (by simp only[go_sem];exact iL) ?_
      simp(disch:=omega)only[go_sem,hr]
      refine ih _ hlt ?_
      simp only[go_sem,e1 hr,e2 hr,e3 hr]
     ·simp(disch:=omega)only[go_sem,hk,hr,hI,hlt]
      refine ih _ hlt ?_
      have e1:lostF m (n+1)=lostF m n:=by simp[lostF,sumN,hl,hr,b2n]
      have e2:lostC m (n+1)=lostC m n:=by simp[lostC,sumN,hl,hr,hk,b2n]
      have e3:mendI m (n+1)=mendI m n:=by rw[mendI];exact jv _ (by rw[hI];simp only[mendIno,hl,hr,Bool.true_eq_false,if_false,←hk];exact yx _ hl)
      simp only[go_sem,e1,e2,e3]
    ·by_cases hr:refs m n=0
     ·simp(disch:=omega)only[go_sem,hk,hr,hI,hlt]
      refine am rfl ⟨rfl,rfl⟩ (by simp only[go_sem];exact iL) ?_
      simp(disch:=omega)only[go_sem,hr]
      refine ih _ hlt ?_
      simp only[go_sem,e1 hr,e2 hr,e3 hr]
     ·simp(disch:=omega)only[go_sem,hk,hr,hI,hlt]
      refine ih _ hlt ?_
      have e1:lostF m (n+1)=lostF m n:=by simp[lostF,sumN,hl,hr,b2n]
      have e2:lostC m (n+1)=lostC m n+1:=by simp[lostC,sumN,hl,hr,hk,b2n]
      have e3:mendI m (n+1)=(mendI m n).setIno n ⟨(m.ino n).live,(m.ino n).stamp,refs m n,(m.ino n).part⟩:=by rw[mendI];simp[mendIno,hl,hr]
      simp only[go_sem,e1,e2,e3]
  ·obtain rfl:n=8:=by omega
   simp(disch:=omega)only[go_sem]
   refine fo 9 (fun x=>⟨[(1,.ptr (.stk cx.lvl 1) [] ac),(2,.ptr (.stk cx.lvl 2) [] ac),(3,.ptr (.stk cx.lvl 3) [] tK3),(6,.ptr (.stk cx.lvl 6) [] tK3),(9,.int .i64 x)],
    [(1,⟨ac,(mendD (mendI m 8) x).enc⟩),(2,⟨ac,Img.zero.enc⟩),(3,⟨tK3,bF (AV.int .i64) (k3 0 0 0)⟩),(6,⟨tK3,bF (AV.int .i64) (k3 (lostF m 8) (lostC m 8) (lostD (mendI m 8) x))⟩)],h⟩) (by simp only[go_sem]<;>rfl) fun x hx ih2=>?_
   have hD:=vN (mendI m 8) x
   by_cases hlt2:x<9
   ·have hX:(mendD (mendI m 8) x).dat x=(mendI m 8).dat x:=by rw[lZ,if_neg (by omega)]
    have l0:loose (mendI m 8) x=false->mendD (mendI m 8) (x+1)=mendD (mendI m 8) x/\lostD (mendI m 8) (x+1)=lostD (mendI m 8) x:=fun h=>by
     refine⟨?_,by simp[lostD,sumN,h,b2n]⟩
     rw[mendD];exact pq _ (by rw[hX];simp[gN,h])
    have l1:loose (mendI m 8) x=true->mendD (mendI m 8) (x+1)=(mendD (mendI m 8) x).setDat x Dat.zero/\lostD (mendI m 8) (x+1)=lostD (mendI m 8) x+1:=fun h=>by
     refine⟨?_,by simp[lostD,sumN,h,b2n]⟩
     rw[mendD];simp[gN,h]
    simp(disch:=omega)only[go_sem,hlt2,hX]
    refine am rfl ⟨rfl,rfl⟩ (by simp only[go_sem];exact uF (m:=mendD (mendI m 8) x) (cV _ _) (by simp only[go_sem,HP.push_rd_own])) ?_
    simp(disch:=omega)only[go_sem,qW]
    cases hh:held (mendI m 8) x with
    |true=>
     obtain⟨e1,e2⟩:=l0 (by simp[loose,hh])
     simp(disch:=omega)only[go_sem,hh]
     refine ih2 _ hlt2 ?_
     simp only[go_sem,e1,e2]
    |false=>
     simp(disch:=omega)only[go_sem,hh,hlt2,hX]
     by_cases ha:((mendI m 8).dat x).of=0
     ·simp(disch:=omega)only[go_sem,ha,hh,hlt2,hX]
      by_cases hb:((mendI m 8).dat x).text=⟨#[]⟩
      ·obtain⟨e1,e2⟩:=l0 (by
        have:(mendI m 8).dat x=Dat.zero:=by
         cases e:(mendI m 8).dat x with|mk a b=>
         rw[e]at ha hb
         simp only at ha hb
         subst ha;subst hb;rfl
        simp[loose,this])
       simp(disch:=omega)only[go_sem,ha,hb]
       refine ih2 _ hlt2 ?_
       simp only[go_sem,e1,e2]
      ·obtain⟨e1,e2⟩:=l1 (by
        have:¬(mendI m 8).dat x=Dat.zero:=fun e=>hb (by rw[e];rfl)
        simp[loose,this,hh])
       simp(disch:=omega)only[go_sem,ha,hb,hh,hlt2]
       refine ih2 _ hlt2 ?_
       simp only[go_sem,e1,e2]
     ·obtain⟨e1,e2⟩:=l1 (by
       have:¬(mendI m 8).dat x=Dat.zero:=fun e=>ha (by rw[e];rfl)
       simp[loose,this,hh])
      simp(disch:=omega)only[go_sem,ha,hh,hlt2]
      refine ih2 _ hlt2 ?_
      simp only[go_sem,e1,e2]
   ·obtain rfl:x=9:=by omega
    simp(disch:=omega)only[go_sem]
    simp[pD,pH,pG,pF,mended,hc]
 ·simp(disch:=omega)only[go_sem,hc]
  simp[pD,pH,pG,pF,hc]
end
theorem ku(m:Img)(d s:Nat):(mended m).ent d s=m.ent d s:=by rw[mended,sJ,oe]
theorem kt(m:Img)(hn:n<8):(mended m).ino n=mendIno m n:=by rw[mended,oh,jR,if_pos ⟨hn,hn⟩]
theorem xn(m:Img){x:Nat}(hx:x<9):(mended m).dat x=gN (mendI m 8) x:=by rw[mended,lZ,if_pos ⟨hx,hx⟩]
theorem vG(m:Img)(i:Int):refs (mended m) i=refs m i:=qJ (fun d s=>ku m d s) i
theorem gL:(mendIno m n).live=true↔(m.ino n).live=true/\¬refs m n=0:=by
 unfold mendIno
 cases hl:(m.ino n).live with
 |false=>simp[hl]
 |true=>
  by_cases hr:refs m n=0
  ·simp[hr,Ino.none]
  ·simp[hr,hl]
theorem jc(h:(mendIno m n).live=true):mendIno m n={m.ino n with links:=refs m n}:=by
 obtain⟨h1,h2⟩:=gL.1 h
 simp[mendIno,h1,h2]
theorem ui(hc:check m=0)(hn:n<8)(h:(mendIno m n).live=false):mendIno m n=Ino.none:=by
 unfold mendIno at h⊢
 cases hl:(m.ino n).live with
 |false=>
  have:=(iw hc).2.1 n hn
  simp only[inoFault,hl,if_true]at this
  simp only[if_true]
  split at this
  ·assumption
  ·exact absurd this (by decide)
 |true=>
  by_cases hr:refs m n=0
  ·simp[hr]
  ·simp[hl,hr]at h
theorem sU(hc:check m=0)(hn:n<8)(hl:(m.ino n).live=true):1<=(m.ino n).stamp/\(refs m n:Int)<=(m.ino n).links/\∀p,p<2->partFault m (m.ino n) p=0:=by
 have h:=(iw hc).2.1 n hn
 simp only[inoFault,hl,Bool.true_eq_false,if_false]at h
 split at h
 ·exact absurd h (by decide)
 ·rename_i h1
  exact⟨by omega,by omega,firstI_zero.1 h⟩
theorem vv{i:Ino}{p:Nat}(h:partFault m i p=0):i.prt p= -1\/(0<=i.prt p/\i.prt p<9/\(m.dat (i.prt p).toNat).of=i.stamp):=by
 unfold partFault at h
 split at h
 ·exact absurd h (by decide)
 ·rename_i h1
  split at h
  ·exact absurd h (by decide)
  ·rename_i h2
   by_cases h0:0<=i.prt p
   ·right;refine⟨h0,by omega,?_⟩
    by_cases he:(m.dat (i.prt p).toNat).of=i.stamp
    ·exact he
    ·exact absurd ⟨h0,he⟩ h2
   ·left;omega
theorem zN{p:Nat}(hn:n<8)(hp:p<2)(hl:(mendIno m n).live=true)(h0:0<=(m.ino n).prt p)(h9:(m.ino n).prt p<9):(mended m).dat ((m.ino n).prt p).toNat=m.dat ((m.ino n).prt p).toNat:=by
 rw[xn m (by omega)]
 have:held (mendI m 8) (((m.ino n).prt p).toNat:Nat)=true:=by
  refine dQ hn ?_
  have e:(mendI m 8).ino n=mendIno m n:=by rw[jR,if_pos ⟨hn,hn⟩]
  have e2:∀q,(mendIno m n).prt q=(m.ino n).prt q:=fun q=>by rw[jc hl];rfl
  rw[e,hl,e2,e2]
  have e3:(((m.ino n).prt p).toNat:Int)=(m.ino n).prt p:=by omega
  rw[e3]
  obtain rfl|rfl:p=0\/p=1:=by omega
  all_goals simp
 simp only[gN,loose,this,sI,Bool.not_true,Bool.and_false,Bool.false_eq_true,if_false]
theorem nl(hc:check m=0):check (mended m)=0:=by
 obtain⟨h1,h2,h3⟩:=iw hc
 refine Cc (fun d hd s hs=>?_) (fun n hn=>?_) ?_
 ·have e':=ku m d s
  rcases p7 (h1 d hd s hs)with e0|⟨a1,a2,a3,a4,a5,a6,a7⟩
  ·rw[e0]at e'
   simp[entryFault,e',show Ent.zero.name=⟨#[]⟩from rfl]
  ·have hr:¬refs m ((m.ent d s).ino.toNat:Nat)=0:=by
    have hl:leads m d s ((m.ent d s).ino.toNat:Nat)=true:=by
     have:((m.ent d s).ino.toNat:Int)=(m.ent d s).ino:=by omega
     simp[leads,a1,this]
    have g1:=ql (f:=fun s=>b2n (leads m d s ((m.ent d s).ino.toNat:Nat))) hs
    have g2:fq m ((m.ent d s).ino.toNat:Nat) d 4<=refs m ((m.ent d s).ino.toNat:Nat):=ql (f:=fun d=>fq m _ d 4) hd
    have g3:b2n (leads m d s ((m.ent d s).ino.toNat:Nat))<=fq m ((m.ent d s).ino.toNat:Nat) d 4:=ql (f:=fun t=>b2n (leads m d t _)) hs
    rw[hl]at g3
    simp only[b2n,if_true]at g3
    omega
   have hlive:=gL.2 ⟨a6,hr⟩
   have hino:=kt m (n:=(m.ent d s).ino.toNat) (by omega)
   refine B0 (by rw[e'];exact a1) (by rw[e'];exact a2) (by simpa only[ku]using a3) (by rw[e'];exact a4) (by rw[e'];exact a5) (by rw[e',hino];exact hlive) ?_
   rw[e',hino,jc hlive];exact a7
 ·have hino:=kt m hn
  simp only[inoFault]
  rw[hino]
  cases hl:(mendIno m n).live with
  |false=>rw[ui hc hn hl];simp
  |true=>
   obtain⟨l1,l2⟩:=gL.1 hl
   obtain⟨p1,p2,p3⟩:=sU hc hn l1
   have e:=jc hl
   simp only[Bool.true_eq_false,if_false]
   rw[e,vG]
   rw[if_neg (by simp only[not_or];exact⟨by omega,by omega⟩)]
   rw[firstI_zero]
   intro p hp
   rcases vv (p3 p hp)with hx|⟨hx0,hx9,hof⟩
   ·have:(({m.ino n with links:=(refs m n:Int)}:Ino)).prt p= -1:=hx
    simp[partFault,this]
   ·have hd:=zN hn hp hl hx0 hx9
    have e1:(({m.ino n with links:=(refs m n:Int)}:Ino)).prt p=(m.ino n).prt p:=rfl
    simp only[partFault,e1]
    rw[if_neg (by omega),if_neg]
    rintro⟨_,hne⟩
    apply hne
    rw[hd];exact hof
 ·rw[←nR]
  unfold wZ
  rw[anyN_false]
  intro n hn
  rw[anyN_false]
  intro k hk
  rcases hb:pairBad (mended m) n k with _|_
  ·rfl
  ·exfalso
   rw[ln,kt m hn,kt m hk]at hb
   obtain⟨b1,b2,b3⟩:=hb
   rw[jc b1,jc b2]at b3
   have:pairBad m n k=true:=ln.2 ⟨(gL.1 b1).1,(gL.1 b2).1,b3⟩
   have:=uR hn hk this
   rw[h3]at this;exact absurd this (by simp)
theorem kr(h:m.small):(mended m).small:=fun d s=>by rw[ku];exact h d s
section
variable{cx:Cx}{h:HP}{p p':Id}{q q':List Nat}{m m':Img}
@[go_sem] theorem I9(neg:Bool)(a b:Vector Int 2):eqV cH neg (bF (AV.int .i64) a) (bF (AV.int .i64) b)=some (.bool (if neg=true then !decide (a=b)else decide (a=b))):=jJ (lx a) (lx b) (kF oP)
@[go_sem] theorem K7(neg:Bool)(a b:Vector (Vector Ent 4) 3):eqV cI neg (bF (bF Ent.enc) a) (bF (bF Ent.enc) b)=some (.bool (if neg=true then !decide (a=b)else decide (a=b))):=jJ (kC a) (kC b) (kF fun v w=>xO v w)
end
theorem mu(now out:Img)(d s:Nat):dh now out d s=out.ent d s\/
  ((out.ent d s).name=⟨#[]⟩/\dh now out d s=now.ent d s/\0<=(now.ent d s).ino/\(now.ent d s).ino<8/\(out.ino (now.ent d s).ino.toNat).live=true/\(out.ino (now.ent d s).ino.toNat).stamp=(now.ent d s).stamp/\
   (refs out (now.ent d s).ino:Int)<(out.ino (now.ent d s).ino.toNat).links)\/
  (¬(out.ent d s).name=⟨#[]⟩/\dh now out d s=Ent.zero/\(1<refs out (out.ent d s).ino\/refs now (out.ent d s).ino=0)):=by
 unfold dh
 by_cases h1:now.ent d s=out.ent d s
 ·simp[h1]
 by_cases h2:(out.ent d s).name=⟨#[]⟩
 ·by_cases h3:(now.ent d s).ino<0\/8<=(now.ent d s).ino
  ·simp[h1,h2,h3]
  ·by_cases h4:(out.ino (now.ent d s).ino.toNat).live=true/\(out.ino (now.ent d s).ino.toNat).stamp=(now.ent d s).stamp/\(refs out (now.ent d s).ino:Int)<(out.ino (now.ent d s).ino.toNat).links
   ·right;left
    refine⟨h2,?_,by omega,by omega,h4.1,h4.2.1,h4.2.2⟩
    simp only[h1,h2,h3,h4,if_true,if_false,and_self]
   ·left
    simp only[h1,h2,h3,h4,if_true,if_false]
 ·by_cases h3:1<refs out (out.ent d s).ino\/refs now (out.ent d s).ino=0
  ·right;right
   exact⟨h2,by simp only[h1,h2,h3,if_true,if_false],h3⟩
  ·left
   simp only[h1,h2,h3,if_false]
theorem wrInodes_ent(now disk:Img)(n d s:Nat):∀k,(wrInodes now disk n k).ent d s=disk.ent d s
 |0=>rfl
 |k+1=>by rw[wrInodes,ji,wrInodes_ent now disk n d s k]
namespace Fn
abbrev a8.r0:=[oC 2 0]
abbrev a8.r1:=[oC 3 0]
abbrev a8.r2:=[oM 5 3,oI 6 .lss 5 8,oM 7 6,oT 8 0 7,oG 9 (.call false [] 211 [(.s 8)]) 7,oG 10 (.un .not (.s 9)) 7,oQ 11 7 10]
abbrev a8.r3:=[oC 4 13]
abbrev a8.r4:=[oM 12 4,oI 13 .geq 12 0]
abbrev a8.r5:=[oM 14 4,oI 15 .sub 14 1,oM 4 15]
abbrev a8.r6:=[oM 16 0,oM 17 4,oA 18 212 [(.s 16),(.s 17)]]
abbrev a8.r7:=[oM 19 3,oI 20 .add 19 1,oM 3 20]
abbrev a8.r8:=[oM 21 3,oM 2 21]
abbrev a8.body:=gS (gR a8.r0 [2]) (gS (gR a8.r1 []) (gS (.block 0 (.loop [0,3] [] (gS (gS (gR a8.r2 [5,6,7,8,9,10]) (gC 11 .skip (.exit 0))) (.block 1 (gS (gS (gR a8.r3 []) (.block 2 (.loop [0,3,4] [] (gS (gS (gR a8.r4 [12]) (gC 13 .skip (.exit 2))) (gS (.block 3 (gR a8.r6 [16,17,18])) (gR a8.r5 [14,15])))))) (gR a8.r7 [19,20])))))) (gS (gR a8.r8 [3,21]) .ret)))
abbrev a8:=gF 1 [.tmp 2] a8.body
abbrev di.r0:=[pN 2 ac]
abbrev di.r1:=[oM 3 0,oK 4 3,oE 5 tCache 1 ac 4,oL 6 ac 5,oS ac 2 6]
abbrev di.body:=gS (gR di.r0 []) (gS (gR di.r1 [0,3,4,5,6]) .ret)
abbrev di:=gF 1 [.cell 2 ac] di.body
abbrev aC.r0:=[pC 4 qF]
abbrev aC.r1:=[oM 9 1,oA 10 7 [(.s 9)],oM 8 10,oZ 11 8 0,oZ 12 8 1,oM 5 11,oM 6 12]
abbrev aC.r2:=[oM 13 5]
abbrev aC.r3:=[pV 15 .eql 13 (qS #[105,110,111,100,101,115]),oM 14 15]
abbrev aC.r4:=[oM 16 6,oM 7 16]
abbrev aC.r5:=[oM 17 7,oM 18 6,oI 19 .add 18 4,oB 20 .lss 17 19]
abbrev aC.r6:=[oM 21 7,oI 22 .add 21 1,oM 7 22]
abbrev aC.r7:=[oM 23 0,oM 24 7,oK 25 23,oE 26 tCache 0 ac 25,oE 27 ac 0 aK 26,oJ 28 8 aj 27 24,oL 29 aj 28,oM 30 0,oM 31 7,oK 32 30,oE 33 tCache 1 ac 32,oE 34 ac 0 aK 33,oJ 35 8 aj 34 31,oL 36 aj 35,oN 37 (.eq true aj (.s 29) (.s 36))]
abbrev aC.r8:=[pC 4 qT]
abbrev aC.r9:=[pV 39 .eql 13 (qS #[100,105,114]),oM 38 39]
abbrev aC.r10:=[oM 40 0,oM 41 6,oK 42 40,oE 43 tCache 0 ac 42,oE 44 ac 1 cI 43,oJ 45 3 dC 44 41,oL 46 dC 45,oM 47 0,oM 48 6,oK 49 47,oE 50 tCache 1 ac 49,oE 51 ac 1 cI 50,oJ 52 3 dC 51 48,oL 53 dC 52,oN 54 (.eq true dC (.s 46) (.s 53)),oM 4 54]
abbrev aC.r11:=[pV 56 .eql 13 (qS #[100,97,116,97]),oM 55 56]
abbrev aC.r12:=[oM 57 0,oM 58 6,oK 59 57,oE 60 tCache 0 ac 59,oE 61 ac 2 dD 60,oJ 62 9 cf 61 58,oL 63 cf 62,oM 64 0,oM 65 6,oK 66 64,oE 67 tCache 1 ac 66,oE 68 ac 2 dD 67,oJ 69 9 cf 68 65,oL 70 cf 69,oN 71 (.eq true cf (.s 63) (.s 70)),oM 4 71]
abbrev aC.r13:=[pC 4 qF]
abbrev aC.body:=gS (gR aC.r0 [4]) (gS (gR aC.r1 [1,8,9,10,11,12]) (gS (gS (gR aC.r2 [5]) (.block 0 (gS (gR aC.r3 [15]) (gC 14 (gS (gR aC.r4 [16]) (.block 1 (.loop [0,6,7] [] (gS (gS (gR aC.r5 [17,18,19]) (gC 20 .skip (.exit 1))) (gS (.block 2 (gS (gT aC.r7 [23,24,25,26,27,28,29,30,31,32,33,34,35,36]) (gC 37 (gS (gR aC.r8 []) .ret) .skip))) (gR aC.r6 [21,22])))))) (gS (gR aC.r9 [39]) (gC 38 (gS (gT aC.r10 [0,6,40,41,42,43,44,45,46,47,48,49,50,51,52,53,54]) .ret) (gS (gR aC.r11 [13,56]) (gC 55 (gS (gT aC.r12 [0,6,57,58,59,60,61,62,63,64,65,66,67,68,69,70,71]) .ret) .skip)))))))) (gS (gR aC.r13 []) .ret)))
abbrev aC:=gF 2 [.tmp 4] aC.body
abbrev bc.r0:=[oC 2 0]
abbrev bc.r1:=[oM 5 0,oK 6 5,oE 7 tCache 0 ac 6,oE 8 ac 0 aK 7,oL 9 aK 8,oC 10 0]
abbrev bc.r2:=[oI 11 .lss 10 8]
abbrev bc.r3:=[oM 12 10,oN 13 (.aidx 8 aj (.s 9) (.s 10)),pN 4 aj,oM 3 12,oS aj 4 13]
abbrev bc.r4:=[oE 14 aj 0 tB 4,oL 15 tB 14,pU 16 15,oM 17 16,oT 18 0 17,pK 19 18 17,pE 20 tCache 1 ac 19 17,oT 21 3 17,oG 22 (.call false [] 12 [(.s 20),(.s 21)]) 17,oG 23 (.bin .eql (.s 22) (qI 0)) 17,oQ 24 17 23]
abbrev bc.r5:=[oM 25 3,oM 2 25]
abbrev bc.r6:=[oI 26 .add 10 1,oM 10 26]
abbrev bc.r7:=[pC 2 (qI (-1))]
abbrev bc.body:=gS (gR bc.r0 [2]) (gS (gS (gR bc.r1 [5,6,7,8]) (.block 0 (.loop [0,9,10] [] (gS (gR bc.r2 []) (gS (gC 11 .skip (.exit 0)) (gS (.block 1 (gS (gR bc.r3 [12,13]) (gS (gR bc.r4 [4,14,15,16,17,18,19,20,21,22,23]) (gC 24 (gS (gR bc.r5 [3,25]) .ret) .skip)))) (gR bc.r6 [26]))))))) (gS (gR bc.r7 []) .ret))
abbrev bc:=gF 1 [.tmp 2] bc.body
abbrev aR.r0:=[oC 4 0]
abbrev aR.r1:=[oM 6 1,oI 7 .lss 6 0,oM 8 7,oF 9 1 8,zB 10 .geq 9 3 8,oO 11 8 10]
abbrev aR.r2:=[pC 4 (qI (-1))]
abbrev aR.r3:=[oC 12 0]
abbrev aR.r4:=[oI 13 .lss 12 4]
abbrev aR.r5:=[oM 14 12,oM 5 14]
abbrev aR.r6:=[oM 15 0,oM 16 1,oM 17 5,oK 18 15,oE 19 tCache 0 ac 18,oE 20 ac 1 cI 19,oJ 21 3 dC 20 16,oJ 22 4 aq 21 17,oE 23 aq 0 tS 22,oL 24 tS 23,pV 25 .eql 24 (qS #[]),oM 26 25,oT 27 0 26,oT 28 1 26,oT 29 5 26,pK 30 27 26,pE 31 tCache 1 ac 30 26,pE 32 ac 1 cI 31 26,pJ 33 3 dC 32 28 26,pJ 34 4 aq 33 29 26,pE 35 aq 0 tS 34 26,pL 36 tS 35 26,oG 37 (.bin .eql (.s 36) (qS #[])) 26,oQ 38 26 37]
abbrev aR.r7:=[oM 39 5,oM 4 39]
abbrev aR.r8:=[oI 40 .add 12 1,oM 12 40]
abbrev aR.r9:=[pC 4 (qI (-1))]
abbrev aR.body:=gS (gR aR.r0 [4]) (gS (gS (gR aR.r1 [6,7,8,9,10]) (gC 11 (gS (gR aR.r2 []) .ret) .skip)) (gS (gS (gR aR.r3 []) (.block 0 (.loop [0,1,12] [] (gS (gR aR.r4 []) (gS (gC 13 .skip (.exit 0)) (gS (.block 1 (gS (gR aR.r5 [14]) (gS (gR aR.r6 [15,16,17,18,19,20,21,22,23,24,25,26,27,28,29,30,31,32,33,34,35,36,37]) (gC 38 (gS (gR aR.r7 [5,39]) .ret) .skip)))) (gR aR.r8 [40]))))))) (gS (gR aR.r9 []) .ret)))
abbrev aR:=gF 2 [.tmp 4] aR.body
abbrev bw.r0:=[oC 2 0]
abbrev bw.r1:=[oC 4 0]
abbrev bw.r2:=[oI 5 .lss 4 9]
abbrev bw.r3:=[oM 6 4,oM 3 6]
abbrev bw.r4:=[oM 7 0,oK 8 7,oE 9 tCache 0 ac 8,oM 10 3,oA 11 17 [(.s 9),(.s 10)],pU 12 11,oM 13 12,oT 14 0 13,pK 15 14 13,pE 16 tCache 1 ac 15 13,oT 17 3 13,oG 18 (.call false [] 17 [(.s 16),(.s 17)]) 13,oG 19 (.un .not (.s 18)) 13,oQ 20 13 19]
abbrev bw.r5:=[oM 21 3,oM 2 21]
abbrev bw.r6:=[oI 22 .add 4 1,oM 4 22]
abbrev bw.r7:=[pC 2 (qI (-1))]
abbrev bw.body:=gS (gR bw.r0 [2]) (gS (gS (gR bw.r1 []) (.block 0 (.loop [0,4] [] (gS (gR bw.r2 []) (gS (gC 5 .skip (.exit 0)) (gS (.block 1 (gS (gR bw.r3 [6]) (gS (gR bw.r4 [7,8,9,10,11,12,13,14,15,16,17,18,19]) (gC 20 (gS (gR bw.r5 [3,21]) .ret) .skip)))) (gR bw.r6 [22]))))))) (gS (gR bw.r7 []) .ret))
abbrev bw:=gF 1 [.tmp 2] bw.body
abbrev dA.r0:=[pC 2 qF]
abbrev dA.r1:=[oM 3 0,oK 4 3,oE 5 tCache 0 ac 4,oL 6 ac 5,oM 7 0,oK 8 7,oE 9 tCache 1 ac 8,oL 10 ac 9,oN 11 (.eq false ac (.s 6) (.s 10)),oM 2 11]
abbrev dA.body:=gS (gR dA.r0 [2]) (gS (gT dA.r1 [0,3,4,5,6,7,8,9,10,11]) .ret)
abbrev dA:=gF 1 [.tmp 2] dA.body
abbrev b7.r0:=[pC 4 qF]
abbrev b7.r1:=[oM 8 0,oK 9 8,oE 10 tCache 0 ac 9,oM 11 0,oK 12 11,oE 13 tCache 1 ac 12,oM 14 1,oN 15 (.call false [5] 9 [(.s 10),(.s 13),(.s 14)]),oM 7 15,oZ 16 7 0,oZ 17 7 1,pN 5 ac,oS ac 5 16,oM 6 17]
abbrev b7.r2:=[oM 18 0,oL 19 ac 5,oK 20 18,oE 21 tCache 1 ac 20,oS ac 21 19]
abbrev b7.r3:=[oM 22 6,oM 4 22]
abbrev b7.body:=gS (gR b7.r0 [4]) (gS (gT b7.r1 [1,7,8,9,10,11,12,13,14,15,16,17]) (gS (gR b7.r2 [0,5,18,19,20,21]) (gS (gR b7.r3 [6,22]) .ret)))
abbrev b7:=gF 2 [.tmp 4] b7.body
abbrev fD.r0:=[oN 1 (.box false ac (.s 0)),pC 2 (.c .nilp)]
abbrev fD.r1:=[oA 3 21 [(.s 1)],oI 4 .neq 3 0]
abbrev fD.r2:=[pC 2 (.c .nilp)]
abbrev fD.r3:=[oL 5 ac 1,oL 6 ac 1,oN 7 (.build tCache [(0,(.s 5)),(1,(.s 6))]),oN 8 (.box true tCache (.s 7)),oM 2 8]
abbrev fD.body:=gS (gR fD.r0 [0,2]) (gS (gS (gR fD.r1 [3]) (gC 4 (gS (gR fD.r2 []) .ret) .skip)) (gS (gR fD.r3 [1,5,6,7,8]) .ret))
abbrev fD:=gF 1 [.tmp 2] fD.body
abbrev gH.r0:=[pC 0 (.c .nilp)]
abbrev gH.r1:=[oA 1 34 [],oA 2 34 [],oN 3 (.build tCache [(0,(.s 1)),(1,(.s 2))]),oN 4 (.box true tCache (.s 3)),oM 0 4]
abbrev gH.body:=gS (gR gH.r0 [0]) (gS (gR gH.r1 [1,2,3,4]) .ret)
abbrev gH:=gF 0 [.tmp 0] gH.body
end Fn
def JA:List (Option MFun):=[none,some Fn.a8,none,some Fn.di,some Fn.aC,some Fn.bc,none,some Fn.aR,none,some Fn.bw,none,some Fn.dA,some Fn.b7,none,some Fn.fD,none,none,none,none,none,none,none,none,none,none,none,none,none,none,none,none,some Fn.gH,none,none,none,none,none,none,none,none,none,none,none,none,none,none,none,none,none,none,none,none,none,none,none,none,none,none,none,none,none,none,none,none]
variable{prot:Bool}
theorem nE(hT:∀i fn,T i=some fn->T' i=some fn){hide:List Nat}{f:Nat}{args caps:List AV}{d:Option Nat}{todo:List Item}{s:St}:
  enterCmd T cx prot hide f args caps d todo s=.fail\/enterCmd T' cx prot hide f args caps d todo s=enterCmd T cx prot hide f args caps d todo s:=by
 unfold enterCmd
 cases h:T f with
 |none=>exact .inl rfl
 |some fn=>rw[hT f fn h];exact .inr rfl
theorem zJ(hT:∀i fn,T i=some fn->T' i=some fn){d:Option Nat}{o:MK}{s:St}:opCmd T cx d o k s=.fail\/opCmd T' cx d o k s=opCmd T cx d o k s:=by
 cases o<;>try exact .inr rfl
 ·exact nE hT
 ·simp only[opCmd]
  split
  ·exact nE hT
  ·exact .inl rfl
theorem Bk(hT:∀i fn,T i=some fn->T' i=some fn){s:St}:next T cx k s=.fail\/next T' cx k s=next T cx k s:=by
 unfold next
 split<;>try exact .inr rfl
 split
 ·exact .inr rfl
 ·exact .inr rfl
 ·exact zJ hT
theorem m9(hT:∀i fn,T i=some fn->T' i=some fn):∀{n:Nat} {cx:Cx} {k:List Item} {s r:St},run T n cx k s=some r->run T' n cx k s=some r:=by
 intro n
 induction n with
 |zero=>intro cx k s r h;simp[run]at h
 |succ n ih=>
  intro cx k s r h
  rw[run]at h⊢
  rcases Bk hT (cx:=cx) (k:=k) (s:=s)with hf|he
  ·rw[hf]at h;exact absurd h (by simp)
  ·rw[he]
   split at h
   ·exact h
   ·exact absurd h (by simp)
   ·exact ih h
   ·rename_i cx' hide fn e d k' s1 hn
    cases h1:run T n cx' [.code fn.body] e with
    |none=>rw[h1]at h;exact absurd h (by simp)
    |some s'=>
     rw[h1]at h
     rw[ih h1]
     dsimp only at h⊢
     cases h2:back cx cx' hide fn d s1 s' with
     |none=>rw[h2]at h;exact absurd h (by simp)
     |some s2=>rw[h2]at h;exact ih h
def A3:List (Option MFun):=Dq++List.replicate 9 none++JA
def mz(f:Nat):Option MFun:=A3.getD f none
theorem Jw(i:Nat)(fn:MFun)(h:tbl i=some fn):mz i=some fn:=by
 unfold tbl at h
 have hl:i<Dq.length:=by
  rcases Nat.lt_or_ge i Dq.length with h'|h'
  ·exact h'
  ·rw[List.getD_eq_getElem?_getD,List.getElem?_eq_none h']at h;simp at h
 unfold mz A3
 rw[List.getD_eq_getElem?_getD]at h⊢
 rw[List.append_assoc,List.getElem?_append_left hl]
 exact h
variable{fn:MFun}
theorem up{e:St}{R:AV->HP->Prop}(h:Ok tbl cx fn e R):Ok mz cx fn e R:=by
 obtain⟨n,s',v,hr,hv,hR⟩:=h
 exact⟨n,s',v,m9 Jw hr,hv,hR⟩
theorem Ae(hc:check m=0)(hn:n<8)(hl:(m.ino n).live=false):m.ino n=Ino.none:=by
 have h:=(iw hc).2.1 n hn
 simp only[inoFault,hl,if_true]at h
 split at h
 ·assumption
 ·exact absurd h (by decide)
def encC(a b:Img):AV:=.cons a.enc (.cons b.enc .unit)
theorem wg(a b:Img):tCache.fits (encC a b)=true:=by
 show(Ty.cons ac (.cons ac .unit)).fits (AV.cons _ (.cons _ .unit))=true
 simp only[ox,s9,fa,and_self]
@[go_sem] theorem xJ(a b:Img):(tCache.fits (encC a b)=true)=True:=eq_true (wg a b)
@[go_sem] theorem Ak(a b:Img)(p:List Nat):(encC a b).at (0::p)=a.enc.at p:=rfl
@[go_sem] theorem Aj(a b:Img)(p:List Nat):(encC a b).at (1::p)=b.enc.at p:=rfl
theorem xi(a b x:Img):(encC a b).put [0] x.enc=some (encC x b):=by
 show(AV.put a.enc [] x.enc).map (fun y=>AV.cons y (.cons b.enc .unit))=_
 rw[gl];rfl
theorem qM(a b x:Img):(encC a b).put [1] x.enc=some (encC a x):=by
 show((AV.put b.enc [] x.enc).map (fun y=>AV.cons y .unit)).map (fun y=>AV.cons a.enc y)=_
 rw[gl];rfl
@[go_sem] theorem D4:tCache.field 0=some ac:=rfl
@[go_sem] theorem D3:tCache.field 1=some ac:=rfl
theorem wX:tCache.zero=encC Img.zero Img.zero:=by
 show AV.cons ac.zero (.cons ac.zero .unit)=_
 rw[uK];rfl
@[go_sem] theorem Gy(a b:Img):fill tCache tCache.zero [(0,a.enc),(1,b.enc)]=some (encC a b):=by
 rw[wX]
 simp only[fill]
 show(if ac.fits a.enc=true then _ else _)=_
 rw[if_pos (fa a),xi]
 show(if ac.fits b.enc=true then _ else _)=_
 rw[if_pos (fa b),qM]
@[go_sem] theorem K1(a b:Img)(i:Id):fg (encC a b) i=encC a b:=rfl
@[go_sem] theorem E2(a b:Img)(i:Id):(encC a b).leads i=false:=rfl
@[go_sem] theorem E3(a b:Img):(encC a b).isAgg=true:=rfl
def HP.cs(h:HP)(n:Nat)(a b:Img):HP:=h.set (.obj n) ⟨tCache,encC a b⟩
def HP.mk1(h:HP)(a b:Img):HP:={h.cs h.next a b with next:=h.next+1}
theorem yw(h:HP)(n:Nat)(a b:Img):(h.cs n a b).look (.obj n)=some ⟨tCache,encC a b⟩:=by simp[HP.cs,HP.set,HP.look]
theorem Lh(h:HP)(n:Nat)(a b c d:Img):(h.cs n a b).cs n c d=h.cs n c d:=by
 simp only[HP.cs,HP.set];congr 1;funext k;by_cases e:k=n<;>simp[e]
theorem DH(h:HP)(l n:Nat)(o:Own)(a b:Img):(h.push l o).cs n a b=(h.cs n a b).push l o:=rfl
theorem sg(h:HP)(l n:Nat)(o:Own):(h.push l o).look (.obj n)=h.look (.obj n):=rfl
variable{v:AV}
theorem HP.rd0{h:HP}{a:Nat}(hm:h.rd i [a]=some v)(r:List Nat):h.rd i (a::r)=v.at r:=HP.rd_app hm r
theorem jN{h:HP}(h0:h.look (.obj n)=some ⟨tCache,encC a b⟩):h.rd (.obj n) [0]=some a.enc/\h.rd (.obj n) [1]=some b.enc:=by
 simp only[HP.rd,h0,Option.bind_some,Ak,Aj,xU,and_self]
section
variable{T:MTb}{cx:Cx}{k:List Item}{kill:List Nat}{r:List MOp}{sl:Slots}{own:Own}{h:HP}{Q:St->Prop}
theorem bK{f:Nat}{args:List Opd}{d:Option Nat}(h1:HP)(hf:T f=some fn)(hp:fn.params=args.length/\fn.nfree=0)(hs:h1.stk=h.stk)
  (hc:Ok T (St.callCx ⟨sl,own,h⟩ cx prot) fn (St.enter (args.map (St.opd ⟨sl,own,h⟩)) (h.push cx.lvl own)) fun v' h'=>v'=v/\h'=h1.push cx.lvl own)
  (hq:W T cx (.ops r kill::k) (St.setd ⟨sl,own,h1⟩ d v) Q):
  W T cx (.ops (⟨d,.call prot [] f args,none⟩::r) kill::k) ⟨sl,own,h⟩ Q:=by
 refine kM hf hp hc ?_
 rintro v h' ⟨rfl,rfl⟩
 have:St.pop ⟨sl,own,h⟩ cx.lvl [] (h1.push cx.lvl own)=⟨sl,own,h1⟩:=by
  simp only[St.pop,HP.pop,HP.push,Own.unveil,if_true]
  congr 1
  cases h1
  simp only at hs
  subst hs
  simp only[HP.mk.injEq,and_true]
  funext l
  by_cases hl:l=cx.lvl<;>simp[hl]
 rw[this];exact hq
theorem rL{hide:List Nat}{f:Nat}{args:List Opd}{d:Option Nat}(hf:T f=some fn)(hp:fn.params=args.length/\fn.nfree=0)
  (hc:Ok T (St.callCx ⟨sl,[],h⟩ cx prot) fn (St.enter (args.map (St.opd ⟨sl,[],h⟩)) (h.push cx.lvl [])) fun v' h'=>v'=v/\h'=h.push cx.lvl [])
  (hq:W T cx (.ops r kill::k) (St.setd ⟨sl,[],h⟩ d v) Q) (hh:has hide 1000000=false:=by rfl):
  W T cx (.ops (⟨d,.call prot hide f args,none⟩::r) kill::k) ⟨sl,[],h⟩ Q:=by
 have e:Own.veil [] hide=[]:=by cases hide<;>rfl
 refine kM (R:=fun v' h'=>v'=v/\h'=h.push cx.lvl []) hf hp (by rw[e,oV _ _ hh];exact hc) ?_
 rintro v h' ⟨rfl,rfl⟩
 have:St.pop ⟨sl,[],h⟩ cx.lvl hide (h.push cx.lvl [])=⟨sl,[],h⟩:=by
  simp only[St.pop,HP.pop,HP.push,if_true]
  have e2:Own.unveil [] [] hide=[]:=by cases hide<;>rfl
  rw[e2]
  congr 1
  cases h
  simp only[HP.mk.injEq,and_true]
  funext l
  by_cases hl:l=cx.lvl<;>simp[hl]
 rw[this];exact hq
def WBT(T:MTb)(cx:Cx)(v:AV)(d:Nat)(r:List MOp)(kill:List Nat)(k:List Item)(sl:Slots)(own:Own)(h:HP)(Q:St->Prop):Prop:=
 tCache.fits v=true/\W T cx (.ops r kill::k) ⟨sl.set d (.ptr (.obj h.next) [] tCache),own,{h with obj:=fun n=>if n=h.next then some ⟨tCache,v⟩else h.obj n,next:=h.next+1}⟩ Q
@[go_sem] theorem NE:WBT T cx (encC a b) d r kill k sl own h Q=W T cx (.ops r kill::k) ⟨sl.set d (.ptr (.obj h.next) [] tCache),own,h.mk1 a b⟩ Q:=by
 simp only[WBT,xJ,true_and]
 rfl
@[go_sem] theorem OW{x:Opd}:W T cx (.ops (⟨some d,.box true tCache x,none⟩::r) kill::k) ⟨sl,own,h⟩ Q=WBT T cx (St.opd ⟨sl,own,h⟩ x) d r kill k sl own h Q:=by
 rw[gW rfl,evOp]
 simp only[evK,WBT]
 by_cases h1:tCache.fits (St.opd ⟨sl,own,h⟩ x)=true
 ·simp only[h1,true_and,if_true];rfl
 ·simp only[h1,false_and,Bool.false_eq_true,if_false];rfl
theorem xb{x:Img}(hm:h.look (.obj n)=some ⟨tCache,encC a b⟩)(hl:cx.prot.lets (.obj n)=true):stV cx ac (.ptr (.obj n) [1] ac) x.enc ⟨sl,own,h⟩=some ⟨sl,own,h.cs n a x⟩:=by
 simp only[stV,fa,and_self,if_true,St.look,Id.own,hm,qM,St.write,hl]
 rfl
@[go_sem] theorem K5(neg:Bool)(n:Nat)(t:Ty):eqV tP neg (.ptr (.obj n) [] t) .nilp=some (.bool neg):=by cases neg<;>rfl
@[go_sem] theorem EK(n:Nat)(p:List Nat)(t:Ty):(AV.ptr (.obj n) p t).safe=true:=rfl
@[go_sem] theorem HB:AV.nilp.safe=true:=rfl
@[go_sem] theorem Ft(s:St):(s.callCx cx false).prot=cx.prot:=rfl
end
section
variable{cx:Cx}{h:HP}{n:Nat}{a b:Img}
theorem EC:Ok mz cx Fn.gH (St.enter [] h) fun v h'=>v=.ptr (.obj h.next) [] tCache/\h'=h.mk1 Img.blank Img.blank:=by
 rw[aE]
 simp(disch:=omega)only[go_sem]
 refine am rfl ⟨rfl,rfl⟩ (by simp only[go_sem];exact up (CI)) ?_
 simp(disch:=omega)only[go_sem]
 refine am rfl ⟨rfl,rfl⟩ (by simp only[go_sem];exact up (CI)) ?_
 simp(disch:=omega)only[go_sem]
theorem Hr(hs:m.small)(hc:check m=0):Ok mz cx Fn.fD (St.enter [m.enc] h) fun v h'=>v=.ptr (.obj h.next) [] tCache/\h'=h.mk1 m m:=by
 rw[aE]
 simp(disch:=omega)only[go_sem]
 refine am rfl ⟨rfl,rfl⟩ (by simp only[go_sem];exact up (wQ (m:=m) hs (cV _ _) (by simp only[go_sem,HP.push_rd_own]))) ?_
 simp(disch:=omega)only[go_sem,hc]
theorem C5(hm:h.rd (.obj n) [0]=some a.enc)(hm':h.rd (.obj n) [1]=some b.enc):Ok mz cx Fn.di (St.enter [.ptr (.obj n) [] tCache] h) fun v h'=>v=b.enc/\h'=h:=by
 rw[aE]
 simp(disch:=omega)only[go_sem,aw (ar _ _),HP.rd0 hm,HP.rd0 hm',au (ar _ _),af (ar _ _),ah (ar _ _),hm']
theorem AI(hm:h.rd (.obj n) [0]=some a.enc)(hm':h.rd (.obj n) [1]=some b.enc):Ok mz cx Fn.dA (St.enter [.ptr (.obj n) [] tCache] h) fun v h'=>v=.bool (decide (a=b))/\h'=h:=by
 rw[aE]
 simp(disch:=omega)only[go_sem,aw (ar _ _),HP.rd0 hm,HP.rd0 hm',au (ar _ _),af (ar _ _),ah (ar _ _),hm,hm']
theorem tX(h0:h.look (.obj n)=some ⟨tCache,encC a b⟩)(hl:cx.prot.lets (.obj n)=true):
  Ok mz cx Fn.b7 (St.enter [.ptr (.obj n) [] tCache,.int .i64 x] h) fun v h'=>v=.bool (writeAs a b x).2/\h'=h.cs n a (writeAs a b x).1:=by
 obtain⟨hm,hm'⟩:=jN h0
 rw[aE]
 simp(disch:=omega)only[go_sem,aw (ar _ _),HP.rd0 hm,HP.rd0 hm',au (ar _ _),af (ar _ _),ah (ar _ _)]
 refine rL rfl ⟨rfl,rfl⟩ (by simp only[go_sem];exact up (Cj (m:=a) (m':=b) (p:=.obj n) (p':=.obj n) (q:=[0]) (q':=[1]) (ar _ _) (by rw[HP.push_rd_ext (ar _ _)];exact hm) (ar _ _) (by rw[HP.push_rd_ext (ar _ _)];exact hm'))) ?_
 simp(disch:=omega)only[go_sem,aw (ar _ _),HP.rd0 hm,HP.rd0 hm',au (ar _ _),af (ar _ _),ah (ar _ _),xb h0 hl]
theorem AG(hm:h.rd (.obj n) [0]=some a.enc)(hm':h.rd (.obj n) [1]=some b.enc):
  Ok mz cx Fn.bc (St.enter [.ptr (.obj n) [] tCache] h) fun v h'=>v=.int .i64 (findN 8 fun k=>!(a.ino k).live&&decide (refs b k=0))/\h'=h:=by
 rw[aE]
 simp(disch:=omega)only[go_sem,aw (ar _ _),HP.rd0 hm,HP.rd0 hm',au (ar _ _),af (ar _ _),ah (ar _ _)]
 refine cm 8 (fun k=>⟨[(0,.ptr (.obj n) [] tCache),(9,bF Ino.enc a.inode),(10,.int .i64 k)],[],h⟩) (fun k=>∀i,i<k->(!(a.ino i).live&&decide (refs b i=0))=false) (by simp only[go_sem]<;>rfl) (fun i hi=>by omega) fun k hk hp ih=>?_
 by_cases hlt:k<8
 ·simp(disch:=omega)only[go_sem,hlt,aw (ar _ _),HP.rd0 hm,HP.rd0 hm',au (ar _ _),af (ar _ _),ah (ar _ _)]
  cases c1:(a.ino k).live with
  |true=>
   simp(disch:=omega)only[go_sem,c1]
   refine ih _ hlt (aJ hp (by simp[c1])) ?_
   simp only[go_sem]
  |false=>
   simp(disch:=omega)only[go_sem,c1,aw (ar _ _),HP.rd0 hm,HP.rd0 hm',au (ar _ _),af (ar _ _),ah (ar _ _)]
   refine am rfl ⟨rfl,rfl⟩ (by simp only[go_sem];exact up (mf (m:=b) (p:=.obj n) (q:=[1]) (ar _ _) (by rw[HP.push_rd_ext (ar _ _)];exact hm'))) ?_
   simp(disch:=omega)only[go_sem]
   by_cases c2:refs b k=0
   ·simp(disch:=omega)only[go_sem,c2]
    rw[dV hp (by simp[c1,c2]) hlt]
   ·simp(disch:=omega)only[go_sem,c2]
    refine ih _ hlt (aJ hp (by simp[c1,c2])) ?_
    simp only[go_sem]
 ·obtain rfl:k=8:=by omega
  simp(disch:=omega)only[go_sem]
  rw[findN_none hp]
def dN(a b:Img)(d:Int):Int:=if d<0\/3<=d then -1 else findN 4 fun s=>decide ((a.ent d.toNat s).name=⟨#[]⟩)&&decide ((b.ent d.toNat s).name=⟨#[]⟩)
theorem C4{d:Int}(hm:h.rd (.obj n) [0]=some a.enc)(hm':h.rd (.obj n) [1]=some b.enc):
  Ok mz cx Fn.aR (St.enter [.ptr (.obj n) [] tCache,.int .i64 d] h) fun v h'=>v=.int .i64 (dN a b d)/\h'=h:=by
 rw[aE]
 simp(disch:=omega)only[go_sem,aw (ar _ _),HP.rd0 hm,HP.rd0 hm',au (ar _ _),af (ar _ _),ah (ar _ _)]
 by_cases c0:d<0
 ·simp(disch:=omega)only[go_sem,c0];simp[dN,c0]
 by_cases c3:3<=d
 ·simp(disch:=omega)only[go_sem,c0,c3];simp[dN,c3]
 have e:dN a b d=findN 4 fun s=>decide ((a.ent d.toNat s).name=⟨#[]⟩)&&decide ((b.ent d.toNat s).name=⟨#[]⟩):=by simp only[dN];rw[if_neg (by omega)]
 simp(disch:=omega)only[go_sem,c0,c3]
 refine cm 4 (fun s=>⟨[(0,.ptr (.obj n) [] tCache),(1,.int .i64 d),(12,.int .i64 s)],[],h⟩) (fun s=>∀i,i<s->(decide ((a.ent d.toNat i).name=⟨#[]⟩)&&decide ((b.ent d.toNat i).name=⟨#[]⟩))=false) (by simp only[go_sem]<;>rfl) (fun i hi=>by omega) fun s hs hp ih=>?_
 by_cases hlt:s<4
 ·simp(disch:=omega)only[go_sem,hlt,c0,c3,aw (ar _ _),HP.rd0 hm,HP.rd0 hm',au (ar _ _),af (ar _ _),ah (ar _ _)]
  by_cases c1:(a.ent d.toNat s).name=⟨#[]⟩
  ·by_cases c2:(b.ent d.toNat s).name=⟨#[]⟩
   ·simp(disch:=omega)only[go_sem,hlt,c0,c3,c1,c2,aw (ar _ _),HP.rd0 hm,HP.rd0 hm',au (ar _ _),af (ar _ _),ah (ar _ _),e]
    rw[dV hp (by simp[c1,c2]) hlt]
   ·simp(disch:=omega)only[go_sem,hlt,c0,c3,c1,c2,aw (ar _ _),HP.rd0 hm,HP.rd0 hm',au (ar _ _),af (ar _ _),ah (ar _ _)]
    refine ih _ hlt (aJ hp (by simp[c2])) ?_
    simp only[go_sem]
  ·simp(disch:=omega)only[go_sem,c1]
   refine ih _ hlt (aJ hp (by simp[c1])) ?_
   simp only[go_sem]
 ·obtain rfl:s=4:=by omega
  simp(disch:=omega)only[go_sem,e]
  rw[findN_none hp]
theorem C6(hm:h.rd (.obj n) [0]=some a.enc)(hm':h.rd (.obj n) [1]=some b.enc):
  Ok mz cx Fn.bw (St.enter [.ptr (.obj n) [] tCache] h) fun v h'=>v=.int .i64 (findN 9 fun x=>!held a x&& !held b x)/\h'=h:=by
 rw[aE]
 simp(disch:=omega)only[go_sem,aw (ar _ _),HP.rd0 hm,HP.rd0 hm',au (ar _ _),af (ar _ _),ah (ar _ _)]
 refine cm 9 (fun k=>⟨[(0,.ptr (.obj n) [] tCache),(4,.int .i64 k)],[],h⟩) (fun k=>∀i,i<k->(!held a i&& !held b i)=false) (by simp only[go_sem]<;>rfl) (fun i hi=>by omega) fun k hk hp ih=>?_
 by_cases hlt:k<9
 ·simp(disch:=omega)only[go_sem,hlt,aw (ar _ _),HP.rd0 hm,HP.rd0 hm',au (ar _ _),af (ar _ _),ah (ar _ _)]
  refine am rfl ⟨rfl,rfl⟩ (by simp only[go_sem];exact up (rT (m:=a) (p:=.obj n) (q:=[0]) (ar _ _) (by rw[HP.push_rd_ext (ar _ _)];exact hm))) ?_
  simp(disch:=omega)only[go_sem]
  cases c1:held a k with
  |true=>
   simp(disch:=omega)only[go_sem,c1]
   refine ih _ hlt (aJ hp (by simp[c1])) ?_
   simp only[go_sem]
  |false=>
   simp(disch:=omega)only[go_sem,c1,aw (ar _ _),HP.rd0 hm,HP.rd0 hm',au (ar _ _),af (ar _ _),ah (ar _ _)]
   refine am rfl ⟨rfl,rfl⟩ (by simp only[go_sem];exact up (rT (m:=b) (p:=.obj n) (q:=[1]) (ar _ _) (by rw[HP.push_rd_ext (ar _ _)];exact hm'))) ?_
   simp(disch:=omega)only[go_sem]
   cases c2:held b k with
   |false=>
    simp(disch:=omega)only[go_sem,c2]
    rw[dV hp (by simp[c1,c2]) hlt]
   |true=>
    simp(disch:=omega)only[go_sem,c2]
    refine ih _ hlt (aJ hp (by simp[c1,c2])) ?_
    simp only[go_sem]
 ·obtain rfl:k=9:=by omega
  simp(disch:=omega)only[go_sem]
  rw[findN_none hp]
end
def dirty(a b:Img)(x:Int):Bool:=
 if(cj x).1=fX then anyN 4 fun j=>!decide (a.ino ((cj x).2.toNat+j)=b.ino ((cj x).2.toNat+j))
 else if(cj x).1=m8 then anyN 4 fun s=>!decide (a.ent (cj x).2.toNat s=b.ent (cj x).2.toNat s)
 else if(cj x).1=jw then !decide (a.dat (cj x).2.toNat=b.dat (cj x).2.toNat)
 else false
section
variable{a b:Img}{x:Int}{n:Nat}
theorem ut(e:cj x=(fX,(n:Int))):dirty a b x=anyN 4 fun j=>!decide (a.ino (n+j)=b.ino (n+j)):=by simp only[dirty,e,if_true,Int.toNat_natCast]
theorem yI(e:cj x=(m8,(n:Int))):dirty a b x=anyN 4 fun s=>!decide (a.ent n s=b.ent n s):=by simp only[dirty,e,if_true,if_false,EV,Int.toNat_natCast]
theorem yJ(e:cj x=(jw,(n:Int))):dirty a b x= !decide (a.dat n=b.dat n):=by simp only[dirty,e,if_true,if_false,EW,EX,Int.toNat_natCast]
theorem Ea(e:cj x=(kT,0)):dirty a b x=false:=by simp only[dirty,e,if_false,ES,ET,EU]
end
theorem Bc(a b:Img)(hn:n<3):(decide (a.dir[n]'hn=b.dir[n]'hn))= !anyN 4 fun s=>!decide (a.ent n s=b.ent n s):=by
 rw[Bool.eq_iff_iff,decide_eq_true_eq,Bool.not_eq_true',anyN_false]
 constructor
 ·intro h s hs
  have:a.ent n s=b.ent n s:=by simp[Img.ent,hn,hs,h]
  simp[this]
 ·intro h
  ext s hs:1
  have:=h s hs
  simpa[Img.ent,hn,hs]using this
def wrDown(a b:Img):Nat->Img
 |0=>b
 |k+1=>(writeAs a (wrDown a b k) (13-(k:Int))).1
def syncD(a b:Img):Nat->Img
 |0=>b
 |k+1=>wrDown a (syncD a b k) 14
section
variable{cx:Cx}{h:HP}{n:Nat}{a b:Img}
theorem AH(hm:h.rd (.obj n) [0]=some a.enc)(hm':h.rd (.obj n) [1]=some b.enc):
  Ok mz cx Fn.aC (St.enter [.ptr (.obj n) [] tCache,.int .i64 x] h) fun v h'=>v=.bool (dirty a b x)/\h'=h:=by
 rw[aE]
 simp(disch:=omega)only[go_sem]
 refine am rfl ⟨rfl,rfl⟩ (by simp only[go_sem];exact up (wR)) ?_
 simp(disch:=omega)only[go_sem]
 obtain⟨k,hk,e⟩|⟨k,hk,e⟩|⟨k,hk,e⟩|e:=fH x
 ·simp(disch:=omega)only[go_sem,e]
  refine cm 4 (fun j=>⟨[(0,.ptr (.obj n) [] tCache),(6,.int .i64 k),(7,.int .i64 (k+j:Nat))],[],h⟩) (fun j=>∀i,i<j->(!decide (a.ino (k+i)=b.ino (k+i)))=false) (by simp only[go_sem]<;>rfl) (fun i hi=>by omega) fun j hj hp ih=>?_
  by_cases hlt:j<4
  ·simp(disch:=omega)only[go_sem,hlt,aw (ar _ _),HP.rd0 hm,HP.rd0 hm',au (ar _ _),af (ar _ _),ah (ar _ _)]
   by_cases c:a.ino (k+j)=b.ino (k+j)
   ·simp(disch:=omega)only[go_sem,c]
    refine ih _ hlt (aJ hp (by simp[c])) ?_
    simp only[go_sem,Int.add_assoc]
   ·simp(disch:=omega)only[go_sem,c]
    rw[ut e,dQ hlt (by simp[c])]
  ·obtain rfl:j=4:=by omega
   simp(disch:=omega)only[go_sem]
   rw[ut e,anyN_false.2 hp]
 ·simp(disch:=omega)only[go_sem,e,aw (ar _ _),HP.rd0 hm,HP.rd0 hm',au (ar _ _),af (ar _ _),ah (ar _ _),Bc a b hk,yI e,Bool.not_not]
 ·simp(disch:=omega)only[go_sem,e,aw (ar _ _),HP.rd0 hm,HP.rd0 hm',au (ar _ _),af (ar _ _),ah (ar _ _),yJ e]
 ·simp(disch:=omega)only[go_sem,e,Ea e]
theorem C3(hl:cx.prot.lets (.obj n)=true):Ok mz cx Fn.a8 (St.enter [.ptr (.obj n) [] tCache] (h.cs n a b)) fun v h'=>
  ∃k:Nat,k<=8/\v=.int .i64 k/\h'=h.cs n a (syncD a b k)/\(k=8\/a=syncD a b k)/\∀i,i<k->¬a=syncD a b i:=by
 rw[aE]
 simp(disch:=omega)only[go_sem]
 refine cm 8 (fun j=>⟨[(0,.ptr (.obj n) [] tCache),(3,.int .i64 j)],[],h.cs n a (syncD a b j)⟩) (fun j=>∀i,i<j->¬a=syncD a b i) (by simp only[go_sem,syncD]<;>rfl) (fun i hi=>by omega) fun j hj hp ih=>?_
 by_cases hlt:j<8
 ·obtain⟨hm,hm'⟩:=jN (yw h n a (syncD a b j))
  simp(disch:=omega)only[go_sem]
  refine am rfl ⟨rfl,rfl⟩ (by simp only[go_sem];exact AI (a:=a) (b:=syncD a b j) (by rw[HP.push_rd_ext (ar _ _)];exact hm) (by rw[HP.push_rd_ext (ar _ _)];exact hm')) ?_
  simp(disch:=omega)only[go_sem]
  by_cases c:a=syncD a b j
  ·have c':decide (a=syncD a b j)=true:=decide_eq_true c
   simp(disch:=omega)only[go_sem,c']
   exact⟨j,hj,rfl,rfl,.inr c,hp⟩
  ·simp(disch:=omega)only[go_sem,c]
   refine fo 14 (fun i=>⟨[(0,.ptr (.obj n) [] tCache),(3,.int .i64 j),(4,.int .i64 (13-(i:Int)))],[],h.cs n a (wrDown a (syncD a b j) i)⟩) (by simp only[go_sem,wrDown]<;>rfl) fun i hi ih2=>?_
   by_cases hlt2:i<14
   ·simp(disch:=omega)only[go_sem]
    refine bK (v:=.bool (writeAs a (wrDown a (syncD a b j) i) (13-(i:Int))).2) (h.cs n a (wrDown a (syncD a b j) (i+1))) rfl ⟨rfl,rfl⟩ rfl (by
     simp only[go_sem]
     refine Ok.mono (tX (h:=(h.cs n a (wrDown a (syncD a b j) i)).push cx.lvl []) (n:=n) (a:=a) (b:=wrDown a (syncD a b j) i) (by rw[sg];exact yw h n a _) hl) ?_
     rintro v h' ⟨h1,h2⟩
     exact⟨h1,by rw[h2,DH,Lh];rfl⟩) ?_
    simp(disch:=omega)only[go_sem]
    refine ih2 _ hlt2 ?_
    have e2:(13:Int)-(i:Int)-1=13-((i:Int)+1):=by omega
    simp only[go_sem,e2]
   ·obtain rfl:i=14:=by omega
    simp(disch:=omega)only[go_sem]
    refine ih _ hlt (aJ hp c) ?_
    simp only[go_sem,syncD]
 ·obtain rfl:j=8:=by omega
  simp(disch:=omega)only[go_sem]
  exact⟨8,Nat.le_refl _,rfl,rfl,.inl rfl,hp⟩
end
section
variable{cx:Cx}{h:HP}{a b m m':Img}
theorem lJ{kill:List Nat}{r:List MOp}{sl:Slots}{own:Own}{Q:St->Prop}{P:AV->Prop}{f:Nat}{args:List Opd}{d:Option Nat}(h1:HP)(hf:T f=some fn)(hp:fn.params=args.length/\fn.nfree=0)(hs:h1.stk=h.stk)
  (hc:Ok T (St.callCx ⟨sl,own,h⟩ cx prot) fn (St.enter (args.map (St.opd ⟨sl,own,h⟩)) (h.push cx.lvl own)) fun v' h'=>P v'/\h'=h1.push cx.lvl own)
  (hq:∀v,P v->W T cx (.ops r kill::k) (St.setd ⟨sl,own,h1⟩ d v) Q):
  W T cx (.ops (⟨d,.call prot [] f args,none⟩::r) kill::k) ⟨sl,own,h⟩ Q:=by
 refine kM hf hp hc ?_
 rintro v h' ⟨hv,rfl⟩
 have:St.pop ⟨sl,own,h⟩ cx.lvl [] (h1.push cx.lvl own)=⟨sl,own,h1⟩:=by
  simp only[St.pop,HP.pop,HP.push,Own.unveil,if_true]
  congr 1
  cases h1
  simp only at hs
  subst hs
  simp only[HP.mk.injEq,and_true]
  funext l
  by_cases hl:l=cx.lvl<;>simp[hl]
 rw[this];exact hq v hv
end
namespace Fn
abbrev bW.r0:=[oC 2 0]
abbrev bW.r1:=[oC 3 0]
abbrev bW.r2:=[oM 5 3,oI 6 .lss 5 8]
abbrev bW.r3:=[oM 7 3,oI 8 .add 7 1,oM 3 8]
abbrev bW.r4:=[oM 9 0,oK 10 9,oE 11 tBed 0 ac 10,oL 12 ac 11,oM 13 0,oK 14 13,oE 15 tBed 1 ac 14,oL 16 ac 15,oN 17 (.eq false ac (.s 12) (.s 16))]
abbrev bW.r5:=[oM 18 3,oM 2 18]
abbrev bW.r6:=[oC 4 13]
abbrev bW.r7:=[oM 19 4,oI 20 .geq 19 0]
abbrev bW.r8:=[oM 21 4,oI 22 .sub 21 1,oM 4 22]
abbrev bW.r9:=[oM 23 0,oM 24 4,oA 25 213 [(.s 23),(.s 24)]]
abbrev bW.r10:=[oC 2 8]
abbrev bW.body:=gS (gR bW.r0 [2]) (gS (gS (gR bW.r1 []) (.block 0 (.loop [0,3] [] (gS (gS (gR bW.r2 [5]) (gC 6 .skip (.exit 0))) (gS (.block 1 (gS (gS (gT bW.r4 [9,10,11,12,13,14,15,16]) (gC 17 (gS (gR bW.r5 [3,18]) .ret) .skip)) (gS (gR bW.r6 []) (.block 2 (.loop [0,3,4] [] (gS (gS (gR bW.r7 [19]) (gC 20 .skip (.exit 2))) (gS (.block 3 (gR bW.r9 [23,24,25])) (gR bW.r8 [21,22])))))))) (gR bW.r3 [7,8])))))) (gS (gR bW.r10 []) .ret))
abbrev bW:=gF 1 [.tmp 2] bW.body
abbrev bQ.r0:=[oC 2 0]
abbrev bQ.r1:=[oC 3 0]
abbrev bQ.r2:=[oM 4 3,oI 5 .lss 4 8]
abbrev bQ.r3:=[oM 6 3,oI 7 .add 6 1,oM 3 7]
abbrev bQ.r4:=[oM 8 0,oM 9 3,oK 10 8,oE 11 tBed 0 ac 10,oE 12 ac 0 aK 11,oJ 13 8 aj 12 9,oE 14 aj 0 tB 13,oL 15 tB 14,pU 16 15,oM 17 16,oT 18 0 17,pK 19 18 17,pE 20 tBed 1 ac 19 17,oT 21 3 17,oG 22 (.call false [] 16 [(.s 20),(.s 21)]) 17,oG 23 (.bin .eql (.s 22) (qI 0)) 17,oQ 24 17 23]
abbrev bQ.r5:=[oM 25 3,oM 2 25]
abbrev bQ.r6:=[pC 2 (qI (-1))]
abbrev bQ.body:=gS (gR bQ.r0 [2]) (gS (gS (gR bQ.r1 []) (.block 0 (.loop [0,3] [] (gS (gS (gR bQ.r2 [4]) (gC 5 .skip (.exit 0))) (gS (.block 1 (gS (gR bQ.r4 [8,9,10,11,12,13,14,15,16,17,18,19,20,21,22,23]) (gC 24 (gS (gR bQ.r5 [3,25]) .ret) .skip))) (gR bQ.r3 [6,7])))))) (gS (gR bQ.r6 []) .ret))
abbrev bQ:=gF 1 [.tmp 2] bQ.body
abbrev bJ.r0:=[oC 4 0]
abbrev bJ.r1:=[oM 6 1,oI 7 .lss 6 0,oM 8 7,oF 9 1 8,zB 10 .geq 9 3 8,oO 11 8 10]
abbrev bJ.r2:=[pC 4 (qI (-1))]
abbrev bJ.r3:=[oC 5 0]
abbrev bJ.r4:=[oM 12 5,oI 13 .lss 12 4]
abbrev bJ.r5:=[oM 14 5,oI 15 .add 14 1,oM 5 15]
abbrev bJ.r6:=[oM 16 0,oM 17 1,oM 18 5,oK 19 16,oE 20 tBed 0 ac 19,oE 21 ac 1 cI 20,oJ 22 3 dC 21 17,oJ 23 4 aq 22 18,oE 24 aq 0 tS 23,oL 25 tS 24,pV 26 .eql 25 (qS #[]),oM 27 26,oT 28 0 27,oT 29 1 27,oT 30 5 27,pK 31 28 27,pE 32 tBed 1 ac 31 27,pE 33 ac 1 cI 32 27,pJ 34 3 dC 33 29 27,pJ 35 4 aq 34 30 27,pE 36 aq 0 tS 35 27,pL 37 tS 36 27,oG 38 (.bin .eql (.s 37) (qS #[])) 27,oQ 39 27 38]
abbrev bJ.r7:=[oM 40 5,oM 4 40]
abbrev bJ.r8:=[pC 4 (qI (-1))]
abbrev bJ.body:=gS (gR bJ.r0 [4]) (gS (gS (gR bJ.r1 [6,7,8,9,10]) (gC 11 (gS (gR bJ.r2 []) .ret) .skip)) (gS (gS (gR bJ.r3 []) (.block 0 (.loop [0,1,5] [] (gS (gS (gR bJ.r4 [12]) (gC 13 .skip (.exit 0))) (gS (.block 1 (gS (gR bJ.r6 [16,17,18,19,20,21,22,23,24,25,26,27,28,29,30,31,32,33,34,35,36,37,38]) (gC 39 (gS (gR bJ.r7 [5,40]) .ret) .skip))) (gR bJ.r5 [14,15])))))) (gS (gR bJ.r8 []) .ret)))
abbrev bJ:=gF 2 [.tmp 4] bJ.body
abbrev bV.r0:=[oC 2 0]
abbrev bV.r1:=[oC 3 0]
abbrev bV.r2:=[oM 4 3,oI 5 .lss 4 9]
abbrev bV.r3:=[oM 6 3,oI 7 .add 6 1,oM 3 7]
abbrev bV.r4:=[oM 8 0,oK 9 8,oE 10 tBed 0 ac 9,oM 11 3,oA 12 18 [(.s 10),(.s 11)],pU 13 12,oM 14 13,oT 15 0 14,pK 16 15 14,pE 17 tBed 1 ac 16 14,oT 18 3 14,oG 19 (.call false [] 18 [(.s 17),(.s 18)]) 14,oG 20 (.un .not (.s 19)) 14,oQ 21 14 20]
abbrev bV.r5:=[oM 22 3,oM 2 22]
abbrev bV.r6:=[pC 2 (qI (-1))]
abbrev bV.body:=gS (gR bV.r0 [2]) (gS (gS (gR bV.r1 []) (.block 0 (.loop [0,3] [] (gS (gS (gR bV.r2 [4]) (gC 5 .skip (.exit 0))) (gS (.block 1 (gS (gR bV.r4 [8,9,10,11,12,13,14,15,16,17,18,19,20]) (gC 21 (gS (gR bV.r5 [3,22]) .ret) .skip))) (gR bV.r3 [6,7])))))) (gS (gR bV.r6 []) .ret))
abbrev bV:=gF 1 [.tmp 2] bV.body
abbrev dT.r0:=[pC 4 qF]
abbrev dT.r1:=[oM 8 0,oK 9 8,oE 10 tBed 0 ac 9,oM 11 0,oK 12 11,oE 13 tBed 1 ac 12,oM 14 1,oN 15 (.call false [5] 8 [(.s 10),(.s 13),(.s 14)]),oM 7 15,oZ 16 7 0,oZ 17 7 1,pN 5 ac,oS ac 5 16,oM 6 17]
abbrev dT.r2:=[oM 18 0,oL 19 ac 5,oK 20 18,oE 21 tBed 1 ac 20,oS ac 21 19]
abbrev dT.r3:=[oM 22 6,oM 4 22]
abbrev dT.body:=gS (gR dT.r0 [4]) (gS (gT dT.r1 [1,7,8,9,10,11,12,13,14,15,16,17]) (gS (gR dT.r2 [0,5,18,19,20,21]) (gS (gR dT.r3 [6,22]) .ret)))
abbrev dT:=gF 2 [.tmp 4] dT.body
end Fn
def FJ:List (Option MFun):=[none,none,some Fn.bW,none,none,none,some Fn.bQ,none,some Fn.bJ,none,some Fn.bV,none,none,some Fn.dT,none,none,none,none,none,none,none,none,none,none,none,none,none,none,none,none,none,none,none,none,none,none,none,none,none,none,none,none,none,none,none,none,none,none,none,none,none,none,none,none,none,none,none,none,none,none,none,none,none,none,none]
end Go.Mini
