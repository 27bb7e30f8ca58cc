/- The evaluator of a region whose order Go leaves open is right. No condition. -/
import Derived.Test.YtjkbbdldmdajkaaGreatDoorVW
namespace Go.Proofs.YtjkbbdldmdajkaaGreatDoor.c_
open Go Go.RowKit
variable {w w' xh:World} {F F' Bn O O' vW:Nat→Prop} {μ bD lF:Nat→Nat} {K K' EB:Nat→Prop} {ft bY:Nat→Nat→Prop} {P:Program} {R:Type}
theorem WY {up:List (Nat×Option aY)} {f:Nat→Option jV} (H0:Hp) (id:Nat) (h:id∈up.map (·.1)):Hp.dh H0 (up.map fun p=>(p.1,f p.1)) id=f id:=by
 induction up with
 | nil=>cases h
 | cons p up ih=>
  simp only [List.map_cons,Hp.dh];by_cases e:id=p.1
  ·rw [if_pos e,e]
  ·rw [if_neg e];exact ih ((List.mem_cons.1 h).resolve_left e)
theorem R6 {H H':List (Nat×aY)} (h:∀ id,fG (aT H id)=fG (aT H' id)):∀ {up:List (Nat×Option aY)} {id:Nat},id∈up.map (·.1)→aT (cD H up) id=aT (cD H' up) id
 | [],id,h'=>by cases h'
 | (i,some b)::r,id,h'=>by
  simp only [cD,aT];cases e:Nat.beq id i with
  | true=>rfl
  | false=>exact R6 h ((List.mem_cons.1 h').resolve_left (Nat.ne_of_beq_eq_false e))
 | (i,none)::r,id,h'=>by
  simp only [cD,aT];cases e:Nat.beq id i with
  | true=>simp only [Jx h r i]
  | false=>exact R6 h ((List.mem_cons.1 h').resolve_left (Nat.ne_of_beq_eq_false e))
theorem R7 {H:List (Nat×aY)}:∀ {up:List (Nat×Option aY)} {id:Nat},id ∉ up.map (·.1)→aT (cD H up) id=aT H id
 | [],id,_=>rfl
 | (i,some b)::r,id,h'=>by
  simp only [cD,aT];simp only [List.map_cons,List.mem_cons,not_or] at h';rw [cd h'.1];exact R7 h'.2
 | (i,none)::r,id,h'=>by
  simp only [cD,aT];simp only [List.map_cons,List.mem_cons,not_or] at h';rw [cd h'.1];exact R7 h'.2
theorem aaY (s:bP) (d:Option Nat) (v:TA):(s.put d v).N=s.N:=by cases d<;>rfl
theorem Jy (s:bP) (d:Option Nat) (v:TA):(s.put d v).H=s.H:=by cases d<;>rfl
theorem VT (s:bP) (d:Option Nat) (v:TA):(s.put d v).nt=s.nt:=by cases d<;>rfl
theorem VU (s:bP) (d:Option Nat) (v:TA) (t:Nat):look (s.put d v).tm t=(match OV d t with | true=>v | false=>look s.tm t):=by
 cases d with
 | none=>rfl
 | some d=>
  simp only [bP.put,look,OV];cases e:Nat.beq d t with
  | true=>rw [Nat.eq_of_beq_eq_true e];simp
  | false=>rw [cd fun h=>Nat.ne_of_beq_eq_false e h.symm]
theorem Ue {q rs:List RE} {e:RE} (h:Yz (e::q) rs):Yz q rs∧eU rs q.length=some e:=by
 obtain ⟨p,rfl⟩:=h;exact ⟨⟨p++[e],by simp⟩,by rw [T9 (by simp)];simp [eU]⟩
theorem Uf {E:Env} {bN:List CT} {ops:List Oper} {B:Array Nat} {fj:List (Nat×List Nat)} {o:Oper} {s T:bP} {q:List RE} {b:Bool} {κ:bP→Option R} {z:R} (hE:xm E bN) (xj:∀ i o,ops[i]?=some o→B.getD i 0 < 2 ^ i) (hi:Inv s ops fj T q) (YU:ops[q.length]?=some o)
  (hd:pz T o.dst=true) (hw:∀ {w F O μ K ft a},SR w F O μ K (T.mask ops B fj q.length).st ft a→Region.wanted o (yielded ⟨ops⟩ a.tmps)=b) (h:Jw E bN ops B fj o q.length T b κ=some z):
  ∃ e T',κ T'=some z∧Inv s ops fj T' (e::q)∧Qn E.P ops B fj s.st q e o∧(xn fj q.length=[]→T'.H=T.H):=by
 have o9:(match o.dst with | some t=>t.blt s.st.nt | none=>true)=true:=by
  show pz ⟨s.nt,s.N,s.tm,s.H⟩ o.dst=true;cases hdd:o.dst with
  | none=>rfl
  | some t=>rw [hdd] at hd;simp only [pz] at hd ⊢;rw [← hi.nt];exact hd
 have dT:q.length < ops.length:=(List.getElem?_eq_some_iff.1 YU).1;cases b with
 | false=>
  simp only [Jw] at h;refine ⟨⟨o.dst,.lit undef,[],T.N,0⟩,_,h,?_,?_,fun _=>Jy _ _ _⟩
  ·refine ⟨Au hi.ok (by simp only [TA.wf]),by rw [VT];exact hi.nt,⟨hi.N,by rw [aaY];rfl⟩,fun t=>?_,fun id=>?_,fun j e hj=>?_⟩
   ·rw [VU,Jy];simp only [Aw,Bool.true_and];cases OV o.dst t with
    | true=>simp only [TA.av]
    | false=>exact hi.tm t
   ·rw [Jy];simp only [y6,y5,List.any_nil,Bool.and_false];exact hi.H id
   ·simp only [eU] at hj;split at hj
    ·rename_i e1;cases hj;exact ⟨o,e1▸YU,rfl,fun id bZ=>by cases bZ⟩
    ·exact hi.Ax j e hj
  ·exact ⟨rfl,o9,(fun id bZ=>by cases bZ),_,hi.nt,hi.WW xj,hi.WX xj,.inl ⟨hw,rfl,rfl,rfl⟩⟩
 | true=>
  simp only [Jw] at h;have hMo:(T.mask ops B fj q.length).ok:=acA hi.ok;rcases VL hE hMo h with ⟨r,h1,h2,h3⟩ | ⟨r,_,_,h3⟩
  ·simp only at h3;split at h3
   ·rename_i ox;have aet:∀ id,fG (aT (T.mask ops B fj q.length).H id)=fG (aT T.H id):=fun id=>Ov id;have sZ:∀ id,fG (aT ((T.mask ops B fj q.length).next r).H id)=fG (aT (T.next r).H id):=fun id=>Jx aet r.up id;have hsa:Sub ((T.mask ops B fj q.length).next r).H (T.next r).H (T.N+r.k):=Mq sZ _;have hg:NM T r:=by
     refine ⟨fun id bZ=>?_,(jR hsa (Nat.le_refl _) _ h2.v).2,fun id l hl=>(iK hsa (Nat.le_refl _) _ (h2.box id l hl)).2⟩;rw [← sZ id,h2.sub id bZ,aet id]
    obtain ⟨rv,L3,k1,k2,k3,k4⟩:=h1;have hv:r.v.av (T.next r).H=r.v.av ((T.mask ops B fj q.length).next r).H:=(jR hsa (Nat.le_refl _) _ h2.v).1;have Rv:∀ id,id∈((r.up.map fun p=>(p.1,xk (T.next r).H p.1)):List (Nat×Option jV)).map (·.1)↔id∈r.up.map (·.1):=fun id=>by simp
    have afC:∀ id,id∈r.up.map (·.1)→id∈xn fj q.length:=fun id bZ=>by
     obtain ⟨p,hp,rfl⟩:=List.mem_map.1 bZ;have:=List.all_eq_true.1 ox p hp;obtain ⟨x,hx,hxe⟩:=List.any_eq_true.1 this;rw [← Nat.eq_of_beq_eq_true hxe];exact hx
    refine ⟨⟨o.dst,r.v.av (T.next r).H,r.up.map fun p=>(p.1,xk (T.next r).H p.1),T.N,r.k⟩,_,h3,?_,?_,fun h0=>?_⟩
    ·refine ⟨Au (Jd hi.ok hg) hg.v,by rw [VT];exact hi.nt,⟨hi.N,by rw [aaY];rfl⟩,fun t=>?_,fun id=>?_,fun j e hj=>?_⟩
     ·rw [VU,Jy];simp only [Aw,Bool.true_and];cases OV o.dst t with
      | true=>rfl
      | false=>
       show (look T.tm t).av (T.next r).H=_;rw [(jR hg.sub (Nat.le_refl _) _ (hi.ok.tm t)).1];exact hi.tm t
     ·rw [Jy];simp only [y6,Bool.true_and];cases hh:y5 (r.up.map fun p=>(p.1,xk (T.next r).H p.1)) id with
      | true=>
       have:=(Rv id).1 (uM.1 hh);exact (WY (f:=xk (T.next r).H) s.st.H id this).symm
      | false=>
       have hn:id ∉ r.up.map (·.1):=fun h=>by
        rw [uM.2 ((Rv id).2 h)] at hh;cases hh
       show xk (T.next r).H id=_;rw [← hi.H id];unfold xk;rw [show aT (T.next r).H id=aT T.H id from R7 hn];cases hb:aT T.H id with
       | none=>rfl
       | some b=>
        simp only [Option.bind_some];rw [qL hg.sub (hi.ok.H id _ hb)]
     ·simp only [eU] at hj;split at hj
      ·rename_i e1;cases hj;exact ⟨o,e1▸YU,rfl,fun id bZ=>e1▸afC id ((Rv id).1 bZ)⟩
      ·exact hi.Ax j e hj
    ·refine ⟨rfl,o9,fun id bZ=>afC id ((Rv id).1 bZ),_,hi.nt,hi.WW xj,hi.WX xj,.inr ⟨hw,rv,L3,k1,hv▸k2,fun id bZ=>(Rv id).2 (k3 id bZ),fun id b' bZ hb=>?_,VP h⟩⟩;have Pp:=(Rv id).1 bZ;rw [WY (f:=xk (T.next r).H) s.st.H id Pp] at hb;refine k4 id b' ?_;obtain ⟨c,hc,hcv,rfl⟩:=iy hb;have hc':aT ((T.mask ops B fj q.length).next r).H id=some c:=(R6 aet Pp).trans hc;rw [Kz hc' hcv]
     congr 1
     exact (qL hsa ((Jd hMo h2).H id _ hc')).symm
    ·rw [Jy];have:r.up=[]:=by
      rw [h0] at ox;cases hr:r.up with
      | nil=>rfl
      | cons p l=>rw [hr] at ox;simp [ade] at ox
     simp only [bP.next,this,cD]
   ·cases h3
  ·cases h3
theorem YB {T:bP} {ops:List Oper} {B:Array Nat} {fj:List (Nat×List Nat)} {i t:Nat} {b:Bool} (h:look (T.mask ops B fj i).tm t=.d ⟨.bool,b⟩):look T.tm t=.d ⟨.bool,b⟩∧((T.EX t b).mask ops B fj i).st=(T.mask ops B fj i).st:=by
 have h0:look T.tm t=.d ⟨.bool,b⟩:=by
  have h':look (R4 (z9 B i 0 ops) T.tm) t=.d ⟨.bool,b⟩:=h;rcases xN T.tm t (z9 B i 0 ops) with ⟨_,e⟩ | ⟨_,e⟩
  ·rw [e] at h';cases h'
  ·rw [e] at h';exact h'
 refine ⟨h0,?_⟩;simp only [bP.st,bP.mask,bP.EX]
 congr 1
 funext u
 congr 1
 rcases xN T.tm u (z9 B i 0 ops) with ⟨m1,e1⟩ | ⟨m1,e1⟩<;>rcases xN ((t,.d ⟨.bool,b⟩)::T.tm) u (z9 B i 0 ops) with ⟨m2,e2⟩ | ⟨m2,e2⟩
 ·rw [e1,e2]
 ·exact absurd m1 m2
 ·exact absurd m2 m1
 ·rw [e1,e2];simp only [look];cases e:Nat.beq u t with
  | true=>rw [Nat.eq_of_beq_eq_true e,h0]
  | false=>rfl
theorem WZ {E:Env} {bN:List CT} {ops:List Oper} {B:Array Nat} {fj:List (Nat×List Nat)} {s:bP} {κ:bP→Option R} {z:R} (hE:xm E bN) (xj:∀ i o,ops[i]?=some o→B.getD i 0 < 2 ^ i):∀ {l:List Oper} {T:bP} {q:List RE},
  R5 E bN ops B fj l q.length T κ=some z→Inv s ops fj T q→(∀ i o,l[i]?=some o→ops[q.length+i]?=some o)→
  ∃ rs Tf,κ Tf=some z∧Inv s ops fj Tf rs∧rs.length=q.length+l.length∧Yz q rs∧∀ i o,l[i]?=some o→∃ e q',eU rs (q.length+i)=some e∧q'.length=q.length+i∧Yz q' rs∧Qn E.P ops B fj s.st q' e o
 | [],T,q,h,hi,hl=>by
  simp only [R5] at h;exact ⟨q,T,h,hi,rfl,⟨[],rfl⟩,fun i o ho=>by simp at ho⟩
 | o::rest,T,q,h,hi,hl=>by
  simp only [R5] at h;have go:∀ (T0:bP) (b:Bool),Jw E bN ops B fj o q.length T0 b (fun T=>R5 E bN ops B fj rest (q.length+1) T κ)=some z→Inv s ops fj T0 q→pz T0 o.dst=true→
    (∀ {w F O μ K ft a},SR w F O μ K (T0.mask ops B fj q.length).st ft a→Region.wanted o (yielded ⟨ops⟩ a.tmps)=b)→
    ∃ rs Tf,κ Tf=some z∧Inv s ops fj Tf rs∧rs.length=q.length+(o::rest).length∧Yz q rs∧∀ i o',(o::rest)[i]?=some o'→∃ e q',eU rs (q.length+i)=some e∧q'.length=q.length+i∧Yz q' rs∧Qn E.P ops B fj s.st q' e o':=by
   intro T0 b h0 hi0 hd0 hw0;obtain ⟨e,T',h1,h2,h3,_⟩:=Uf hE xj hi0 (hl 0 o (by simp)) hd0 hw0 h0;obtain ⟨rs,Tf,k1,k2,k3,k4,k5⟩:=WZ hE xj (q:=e::q) h1 h2 fun i o' JG=>by
    have:=hl (i+1) o' (by simpa using JG);rwa [show (e::q).length+i=q.length+(i+1) by simp;omega]
   obtain ⟨k6,k7⟩:=Ue k4;refine ⟨rs,Tf,k1,k2,by rw [k3];simp;omega,k6,fun i o' JG=>?_⟩;cases i with
   | zero=>
    simp only [List.getElem?_cons_zero,Option.some.injEq] at JG;subst JG;exact ⟨e,q,k7,rfl,k6,h3⟩
   | succ i=>
    obtain ⟨e',q',m1,m2,m3,m4⟩:=k5 i o' (by simpa using JG);have e1:(e::q).length+i=q.length+(i+1):=by simp;omega
    exact ⟨e',q',e1▸m1,e1▸m2,m3,m4⟩
  split at h
  ·rename_i hd;split at h
   ·rename_i hw;exact go T true h hi hd fun hs=>qe hs hw
   ·rename_i hw;exact go T false h hi hd fun hs=>qe hs hw
   ·rename_i t b c hw;obtain ⟨hl0,hm⟩:=YB (H3 hw);cases b with
    | true=>
     refine go _ c h (hi.EX hl0) hd fun hs=>?_;rw [hm] at hs;rw [qe hs hw];cases c<;>rfl
    | false=>
     refine go _ (!c) h (hi.EX hl0) hd fun hs=>?_;rw [hm] at hs;rw [qe hs hw];cases c<;>rfl
   ·cases h
  ·cases h
theorem YC {E:Env} {bN:List CT} {ops:List Oper} {B:Array Nat} {fj:List (Nat×List Nat)} {s:bP} {κ:bP→Option R} {z:R} {m0 rid:Nat} {n0:Nat×Nat} {ro:Option Nat} {a:Act} {Q:Exit→Act→World→Prop} (hE:xm E bN) (bE:E.P.follows .mixedOrders=true) (h:VS E bN ops B fj s κ=some z)
  (ho:s.ok) (hm:m0≤s.N) (hn:Pz n0 s a) (hs:SR w F O μ (below s.N) s.st ft a) (hk:∀ s' a' w' F' O' bD bY,κ s'=some z→zh w F O μ m0 n0 s' a' w' F' O' bD bY→Q .normal a' w'):(Code.region rid ⟨ops⟩ true).wpIn (Wr ro) 0 E.P Q a w:=by
 unfold VS at h;split at h
 ·rename_i xj;have aaZ:=xj;simp only [th,Bool.and_eq_true] at xj;have hB:∀ i o,ops[i]?=some o→B.getD i 0 < 2 ^ i:=fun i o KQ=>by
   have:=(Ju xj.1 i o KQ).2.1;rwa [Nat.zero_add] at this
  have aeu:Inv s ops fj s []:=⟨ho,rfl,rfl,fun t=>rfl,fun id=>rfl,fun j e hj=>by cases hj⟩;obtain ⟨rs,Tf,k1,k2,k3,k4,k5⟩:=WZ hE hB (q:=[]) h aeu fun i o KQ=>by simpa using KQ
  have emp:jI (Array.replicate ops.length false)=fun _=>false:=by
   funext j;simp only [jI];by_cases h:j < ops.length<;>simp [h]
  have eT:∀ q:List RE,Aw (fun _=>false) s.st.tm q=s.st.tm:=fun q=>by
   induction q with
   | nil=>rfl
   | cons x q ih=>funext t;exact congrFun ih t
  have eH:∀ q:List RE,y6 (fun _=>false) s.st.H q=s.st.H:=fun q=>by
   induction q with
   | nil=>rfl
   | cons x q ih=>funext t;exact congrFun ih t
  have eK:∀ q:List RE,kD (fun _=>false) s.N q=below s.N:=fun q=>by
   induction q with
   | nil=>rfl
   | cons x q ih=>funext t;simp [kD,ih]
  have Hn:SR { w with drawn:=w.drawn+1 } F O μ (below s.N) s.st ft a:=
   { hr:=hs.hr.drew _,nt:=hs.nt,tm:=fun t=>(hs.tm t).drew _,df:=hs.df.same fun _ _=>rfl }
  refine wpIn_region_any bE ?_;refine Ou (s:=s.st) (rs:=rs) (N:=Tf.N) (m0:=m0) (X:=fun _=>false) (Φ:=fun _=>True) (Z:=fun _ _=>True) aaZ k2.N hm (by simpa using k3) (fun _ _ h _=>h) (fun i o KQ=>by
   obtain ⟨e,q,h1,h2,h3,h4⟩:=k5 i o KQ;exact ⟨e,q,by simpa using h1,by simpa using h2,h3,.inl ⟨rfl,h4⟩⟩) (w0:=w) (F0:=F) (O0:=O) (μ0:=μ) (ds0:=a.defers) (ro:=ro) (fun i o M _ h=>by cases h) (fun w' F' O' bD bY a' _ aev IA hf'=>?_) _ _ _ _ F O μ ft (by simp) (by
    unfold unl;simp [List.countP_replicate]) (by
    rw [show (⟨ops⟩:Array Oper).size=ops.length from rfl,emp];intro i hi;cases hi) ?_ (Fr.drew _) rfl trivial
  ·refine hk Tf a' w' F' O' bD bY k1 ⟨k2.ok,?_,⟨k2.nt.trans hn.1,by rw [aev];exact hn.2⟩,⟨?_,?_,fun t=>?_,IA.df⟩,hf'⟩
   ·have:s.N≤Tf.N:=by
     have key:∀ {q:List RE} {N:Nat},Y1 s.N q N→s.N≤N:=by
      intro q
      induction q with
      | nil=>intro N h;exact Nat.le_of_eq h.symm
      | cons x q ih=>intro N h;have:=ih h.1;have:=h.2;omega
     exact key k2.N
    omega
   ·have:=IA.hr;have e:(y6 (fun _=>true) s.st.H rs)=xk Tf.H:=funext fun id=>(k2.H id).symm;simp only [e] at this;exact this
   ·exact IA.nt.trans k2.nt.symm
   ·have:=IA.tm t;simp only at this;rw [← k2.tm t] at this;exact this
  ·rw [show (⟨ops⟩:Array Oper).size=ops.length from rfl,emp];have:Js s.st rs (fun _=>false)=s.st:=by simp only [Js,eT,eH]
   rw [this];have e:kD (fun _=>false) s.st.N rs=below s.N:=eK rs;rw [e];exact Hn
 ·cases h
end Go.Proofs.YtjkbbdldmdajkaaGreatDoor.c_
