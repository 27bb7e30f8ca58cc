/- laws.FnExactGateDoomed, plain. No condition. -/
import Derived.Test.YtljfmaaadnoggaaGreatDoorMw3
namespace Go.Proofs.YtljfmaaadnoggaaGreatDoor.Pu
open Go Go.RowKit Go.Proofs.YtljfmaaadnoggaaGreatDoor.cX Go.Proofs.YtljfmaaadnoggaaGreatDoor.Fn
theorem Q5 {k:Nat} {b:aE} (hk:4194304≤k) (hb:b.aF.length≤1048576):p9 k b=some (zB b):=by
 unfold p9 zB
 obtain ⟨h1,h2⟩:=zC (R:=Option (List Bool)) (S:=List Bool) (f:=fun s i=>s++[(ob b i).Ending]) (n:=b.aF.length) (B:=0) (l:=fun k c i=>iter (ts:=tU) (R:=List Bool) k (lG fun v=>some v) i b c) (J:=some)
  (fun i s=>s=(b.aF.take i).map aA.Ending)
  (fun k s _=>by simp only [iter,lG,cf,cond_false]<;>rfl)
  (fun k i s hi _ hs=>by
   refine ⟨?_,?_⟩
   ·have hl:s.length≤1048576:=by rw [hs];simp;omega
    simp only [iter,lG,b6 hi,cond_true,bF hi,bK,bH hb hi]
    rw [pt (by simp;omega) (by omega)]
    rfl
   ·rw [hs,WX hi,List.take_succ_eq_append_getElem hi,List.map_append];rfl) b.aF.length 0 k [] (by omega) (by omega) (by simp)
 rw [List.take_length] at h2
 rw [h2] at h1
 exact h1
theorem ZZ {k:Nat} {w:aH} {b:aE} (J:aH→aE→List aW→Option (List Int)) (hk:4194304*2+(b.aF.length+1)*(b.aF.length+2)≤k) (hw:w.bS.length≤1048576) (hb:gW aA.sd b.aF):
  ∃ m D,iter (ts:=kG) (R:=List Int) k (dZ J) b.aF (b.aF.length:Int) (0:Int) w b []=J w b m∧lg m D∧bP b.aF.length (zD w b) (zB b) D:=by
 have EX:=hb.1
 have OS:∀ i,jH (List.replicate b.aF.length false) i=false:=fun i=>by
  cases e:jH (List.replicate b.aF.length false) i with
  | false=>rfl
  | true=>
   have:=nX e
   rw [sW this] at e
   simp at e
 obtain ⟨m,h1,D,h2,h3,h4,h5,h6⟩:=pV (C:=List aW) (A:=Unit) (f:=fun _ _=>()) (n:=b.aF.length) (B:=4194304+(b.aF.length+1)*(b.aF.length+2))
  (l:=fun k c i=>iter (ts:=kG) (R:=List Int) k (dZ J) b.aF (b.aF.length:Int) i w b c) (J:=fun c=>J w b c)
  (fun i c _=>∃ T,lg c T∧T.length=b.aF.length∧pv b.aF.length (zD w b) T∧(∀ C,pv b.aF.length (zD w b) C→rI (zB b) C→rI T C)∧∀ j,j < i→jH (zB b) j=true→jH T j=true)
  (fun k c a _=>by simp only [iter,dZ,cf,cond_false]<;>rfl)
  (fun k i c _ hi EY hI=>by
   obtain ⟨T,g1,g2,g3,g4,g5⟩:=hI
   have e:nth (default:aA) b.aF (i:Int)=ob b i:=rfl
   have he:=SV hi
   cases hE:(ob b i).Ending with
   | false=>
    rw [hE] at he
    refine ⟨c,?_,T,g1,g2,g3,g4,fun j hj OT=>?_⟩
    ·simp only [iter,dZ,share,b6 hi,cond_true,bF hi,bK,e,hE,bH EX hi,cond_false]<;>rfl
    ·rcases Nat.lt_or_eq_of_le (Nat.lt_succ_iff.1 hj) with h | rfl
     ·exact g5 j h OT
     ·rw [he] at OT;cases OT
   | true=>
    rw [hE] at he
    have hmul:(b.aF.length-T.count true+1)*(b.aF.length+2)≤(b.aF.length+1)*(b.aF.length+2):=Nat.mul_le_mul_right _ (by omega)
    obtain ⟨c',T',k1,k2,k3⟩:=WY hw hb k k i c T hi g2 g1 (by omega) (by omega)
    refine ⟨c',?_,T',k2,k3.len,fun j q hj hq ho=>?_,fun C hC h1=>?_,fun j hj OT=>?_⟩
    ·simp only [iter,dZ,share,b6 hi,cond_true,bF hi,bK,e,hE,k1,Option.bind_some,bH EX hi]<;>rfl
    ·cases hqT:jH T q with
     | true=>exact k3.le _ (g3 j q hj hqT ho)
     | false=>exact k3.next q hq hqT j hj ho
    ·exact k3.least C hC (g4 C hC h1) (h1 i he)
    ·rcases Nat.lt_or_eq_of_le (Nat.lt_succ_iff.1 hj) with h | rfl
     ·exact k3.le _ (g5 j h OT)
     ·exact k3.here) b.aF.length 0 k [] () (by omega) (by omega)
  ⟨List.replicate b.aF.length false,SW OS,by simp,fun i k _ h=>by rw [OS k] at h;(cases h),fun C _ _ i h=>by rw [OS i] at h;(cases h),fun j hj=>by omega⟩
 exact ⟨m,D,h1,h2,h3,fun i hi=>h6 i (by have:=nX hi;rwa [sX] at this) hi,h4,h5⟩
theorem abl {k:Nat} {w:aH} {b:aE} {m:List aW} {S:List Bool} (J:aH→aE→List aW→Option (List Int)) (hk:4194304≤k) (hb:b.aF.length≤1048576) (hr:lg m S) (hS:S.length=b.aF.length):
  ∃ m',iter (ts:=fE) (R:=List Int) k (di J) b.aF (b.aF.length:Int) (0:Int) w b m=J w b m'∧lg m' (It (NT b) b.aF.length 0 S):=by
 obtain ⟨m',h1,h2⟩:=pV (C:=List aW) (A:=List Bool) (f:=NT b) (n:=b.aF.length) (B:=0)
  (l:=fun k c i=>iter (ts:=fE) (R:=List Int) k (di J) b.aF (b.aF.length:Int) i w b c) (J:=fun c=>J w b c)
  (fun i c a=>lg c a)
  (fun k c a _=>by simp only [iter,di,cf,cond_false]<;>rfl)
  (fun k i c a hi _ hI=>by
   unfold NT
   cases hh:wj b i with
   | true=>
    refine ⟨_,?_,SX hI i⟩
    unfold wj ob at hh
    simp only [iter,di,share,b6 hi,cond_true,bF hi,bK,hh,bH hb hi]<;>rfl
   | false=>
    refine ⟨c,?_,hI⟩
    unfold wj ob at hh
    simp only [iter,di,share,b6 hi,cond_true,bF hi,bK,hh,bH hb hi]<;>rfl) b.aF.length 0 k m S (by omega) (by omega) hr
 exact ⟨m',h1,h2⟩
def iG (w:aH) (b:aE):List Int:=cond (mW w b) (idxs id (C7 w b (UO w b)) 0) []
theorem GP {w:aH} {b:aE}:(UO w b).length=b.aF.length:=(M9 sX).1
theorem M_ {w:aH} {b:aE} (hb:b.sd):(iG w b).length≤1048576:=by
 unfold iG
 cases mW w b with
 | false=>simp
 | true=>exact Nat.le_trans OU (by rw [uF GP];exact hb.2.2.2.1.1)
theorem WZ {w:aH} {b:aE} (hb:b.sd):GN (mn .i64) (iG w b):=
 ⟨by have:=M_ (w:=w) hb;have:=max_eq;omega,fun n hn=>by
  unfold iG at hn
  cases h:mW w b with
  | false=>rw [h] at hn;simp at hn
  | true=>rw [h] at hn;exact SY (by rw [uF GP];have:=hb.2.2.2.1.1;omega) n hn⟩
theorem SZ {k:Nat} {w:aH} {b:aE} (hk:4194304*12≤k) (hw:w.sd) (hb:b.sd):p_ k w b=some (iG w b):=by
 unfold p_ iG
 rw [Km hk hw hb]
 cases mW w b with
 | false=>rfl
 | true=>
  rw [Q5 (by omega) hb.2.2.2.1.1]
  refine (W0 _ (by omega) hw.1.1 hb.2.2.2.1).trans ?_
  rw [FH (by omega) hw.1.1 hb.2.2.2.1 GP]
  simp only [Option.bind_some]
  rw [Ko (by omega) (by rw [uF GP];exact hb.2.2.2.1.1)]
  rfl
theorem S0 {k:Nat} {w:aH} {b:aE} (hk:4194304*12+(b.aF.length+1)*(b.aF.length+2)≤k) (hw:w.sd) (hb:b.sd):qa k w b=some (iG w b):=by
 unfold qa iG
 rw [yf (by omega) hw hb]
 cases mW w b with
 | false=>rfl
 | true=>
  simp only [Option.bind_some,Bool.not_true,cond_false,share,cond_true]
  obtain ⟨m,D,h1,h2,h3⟩:=abm (k:=k) (w:=w) (b:=b) (fun (v33:aH) (v34:aE) (v35:List aW)=>iter (ts:=gQ) (R:=List Int) k (dI fun (v60:aH) (UP:aE) (v62:List aW)=>(gp k v60 UP v62).bind fun v63=>(lj k UP v63).bind fun v64=>some v64.1) v34.aF (v34.aF.length:Int) (0:Int) v33 v34 v35) (by omega) hw.1.1 hb.2.2.2.1
  obtain ⟨m2,h4,h5⟩:=adt (k:=k) (w:=w) (b:=b) (fun (v60:aH) (UP:aE) (v62:List aW)=>(gp k v60 UP v62).bind fun v63=>(lj k UP v63).bind fun v64=>some v64.1) (by omega) hb.2.2.2.1.1 h2 h3.len
  obtain ⟨m3,h6,h7,h8⟩:=Ob (k:=k) (w:=w) (by omega) hw.1.1 hb.2.2.2.1 h5 ((Kq ..).trans h3.len)
  refine h1.trans (h4.trans ?_)
  rw [h6]
  simp only [Option.bind_some,Kr (show 4194304≤k by omega) hb.2.2.2.1.1 h7 h8]
  rw [UQ h3]
theorem Q6 {k:Nat} {w:aH} {b:aE} (hk:4194304*12+(b.aF.length+1)*(b.aF.length+2)≤k) (hw:w.sd) (hb:b.sd):nk k w b=some (iG w b):=by
 unfold nk iG
 rw [yf (by omega) hw hb]
 cases mW w b with
 | false=>rfl
 | true=>
  simp only [Option.bind_some,Bool.not_true,cond_false,share,cond_true]
  obtain ⟨m,D,h1,h2,h3⟩:=ZZ (k:=k) (w:=w) (b:=b) (fun (v33:aH) (v34:aE) (v35:List aW)=>iter (ts:=fE) (R:=List Int) k (di fun (v60:aH) (UP:aE) (v62:List aW)=>(gp k v60 UP v62).bind fun v63=>(g0 k UP v63).bind fun v64=>some v64.2) v34.aF (v34.aF.length:Int) (0:Int) v33 v34 v35) (by omega) hw.1.1 hb.2.2.2.1
  obtain ⟨m2,h4,h5⟩:=abl (k:=k) (w:=w) (b:=b) (fun (v60:aH) (UP:aE) (v62:List aW)=>(gp k v60 UP v62).bind fun v63=>(g0 k UP v63).bind fun v64=>some v64.2) (by omega) hb.2.2.2.1.1 h2 h3.len
  obtain ⟨m3,h6,h7,h8⟩:=Ob (k:=k) (w:=w) (by omega) hw.1.1 hb.2.2.2.1 h5 ((Kq ..).trans h3.len)
  refine h1.trans (h4.trans ?_)
  rw [h6]
  simp only [Option.bind_some,Iu (show 4194304≤k by omega) hb.2.2.2.1.1 h7 h8]
  rw [UQ h3]
theorem W2 (x0:aH) (x1:aE) (h0:x0.ok) (h1:x1.ok):∃ k,gR k x0 x1=some true:=by
 refine Yd.one (F:=fun k=>gR k x0 x1) ?_
 unfold gR
 simp only [share]
 obtain ⟨v,k1,k2,k3⟩:=Cf h0 (n:=1048576) (by omega) (by omega)
 refine Yd.bind k1 ?_
 by_cases c:v < 0
 ·exact Yd.cp (mB c) Yd.pure
 refine Yd.cn (eh c) ?_
 have hs:=k3 (by omega)
 obtain ⟨v',l1,l2,l3⟩:=AZ h1 (n:=v) (by omega) (by omega)
 refine Yd.bind l1 ?_
 by_cases c':v' < 0
 ·exact Yd.cp (mB c') Yd.pure
 refine Yd.cn (eh c') ?_
 have hm:=l3 (by omega)
 have hl:=abn hs
 have hbk:=YA hm
 have lr:=M_ (w:=x0) hm
 have wr:=abo (iG x0 x1)
 have E:Yd (fun k=>eZ k (iG x0 x1) (iG x0 x1)) true:=Bo (WZ hm)
 have M:Yd (fun k=>g7 k 1 (iG x0 x1)) (1+gI pW (iG x0 x1),Eb pW Q7 1 (iG x0 x1)):=Yd.ge (4194304*2) fun k hk=>wL hk lr (by omega) (by omega)
 have H:Yd (fun k=>fD k (Eb pW Q7 1 (iG x0 x1)) 1) (1+gI pW (iG x0 x1)):=Yd.ge (4194304*2) fun k hk=>Ec hk lr (by omega) (by omega)
 refine Yd.bind (hU hs) (Yd.bind (gg hm) (Yd.bind (Yd.ofE _ fun k hk=>SZ hk hs hm) ?_))
 refine Yd.bind (zE hs) (Yd.bind (xS hm) (Yd.bind (Yd.ofE _ fun k hk=>Q6 hk hs hm) (Yd.bind E (Yd.cn rfl ?_))))
 refine Yd.bind (hU hs) (Yd.bind (Cg h0) (Yd.cn rfl (Yd.bind (gg hm) (Yd.bind (A0 h1) (Yd.cn rfl ?_)))))
 refine Yd.bind (Yd.ge (4194304*8) fun k hk=>RC (by omega) hs (by omega) (by omega)) (Yd.rq (km dg) (Yd.rq (km dg) (Yd.rq (km dg) ?_)))
 refine Yd.bind (Yd.ge (4194304*8) fun k hk=>OV (by omega) hm (by simp only;omega) (by simp only;omega)) (Yd.rq (km dg) (Yd.rq (km dg) (Yd.rq (km dg) (Yd.rq (km dg) ?_))))
 refine Yd.cn (eh (by simp only;omega)) (Yd.bind E (Yd.cn rfl ?_))
 refine Yd.bind M (Yd.rq (km dg) (Yd.bind H (Yd.cn (eh (by omega)) (Yd.cn (by rw [Bool.not_eq_false'];exact Ch _) ?_))))
 refine Yd.bind (hU hs) (Yd.bind (gg hm) (Yd.bind (Yd.ofE _ fun k hk=>S0 hk hs hm) (Yd.bind E (Yd.cn rfl ?_))))
 exact Yd.bind H (Yd.cn (eh (by omega)) (Yd.cn (by rw [Bool.not_eq_false'];exact Ch _) Yd.pure))
end Go.Proofs.YtljfmaaadnoggaaGreatDoor.Pu
