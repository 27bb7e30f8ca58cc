/- The evaluator of a region whose order Go leaves open is right. No condition. -/
import Derived.Test.YtjkbbdldmdajkaaGreatDoorVW
namespace Go.Proofs.YtjkbbdldmdajkaaGreatDoor.c_
open Go Go.RowKit
variable {w w' xk:World} {F F' Bs O O' v8:Nat→Prop} {μ bC lG:Nat→Nat} {K K' EF:Nat→Prop} {ft bZ:Nat→Nat→Prop} {P:Program} {R:Type}
theorem W2 {up:List (Nat×Option aY)} {f:Nat→Option jV} (H0:Hp) (id:Nat) (h:id∈up.map (·.1)):Hp.dh H0 (up.map fun p=>(p.1,f p.1)) id=f id:=by
 induction up with
 | nil=>cases h
 | cons p up ih=>
  simp only [List.map_cons,Hp.dh];by_cases e:id=p.1
  ·rw [if_pos e,e]
  ·rw [if_neg e];exact ih ((List.mem_cons.1 h).resolve_left e)
theorem R9 {H H':List (Nat×aY)} (h:∀ id,fH (aT H id)=fH (aT H' id)):∀ {up:List (Nat×Option aY)} {id:Nat},id∈up.map (·.1)→aT (cD H up) id=aT (cD H' up) id
 | [],id,h'=>by cases h'
 | (i,some b)::r,id,h'=>by
  simp only [cD,aT];cases e:Nat.beq id i with
  | true=>rfl
  | false=>exact R9 h ((List.mem_cons.1 h').resolve_left (Nat.ne_of_beq_eq_false e))
 | (i,none)::r,id,h'=>by
  simp only [cD,aT];cases e:Nat.beq id i with
  | true=>simp only [Jy h r i]
  | false=>exact R9 h ((List.mem_cons.1 h').resolve_left (Nat.ne_of_beq_eq_false e))
theorem R_ {H:List (Nat×aY)}:∀ {up:List (Nat×Option aY)} {id:Nat},id ∉ up.map (·.1)→aT (cD H up) id=aT H id
 | [],id,_=>rfl
 | (i,some b)::r,id,h'=>by
  simp only [cD,aT];simp only [List.map_cons,List.mem_cons,not_or] at h';rw [cd h'.1];exact R_ h'.2
 | (i,none)::r,id,h'=>by
  simp only [cD,aT];simp only [List.map_cons,List.mem_cons,not_or] at h';rw [cd h'.1];exact R_ h'.2
theorem aa1 (s:bP) (d:Option Nat) (v:TA):(s.put d v).N=s.N:=by cases d<;>rfl
theorem Jz (s:bP) (d:Option Nat) (v:TA):(s.put d v).H=s.H:=by cases d<;>rfl
theorem VW (s:bP) (d:Option Nat) (v:TA):(s.put d v).nt=s.nt:=by cases d<;>rfl
theorem VX (s:bP) (d:Option Nat) (v:TA) (t:Nat):look (s.put d v).tm t=(match OX d t with | true=>v | false=>look s.tm t):=by
 cases d with
 | none=>rfl
 | some d=>
  simp only [bP.put,look,OX];cases e:Nat.beq d t with
  | true=>rw [Nat.eq_of_beq_eq_true e];simp
  | false=>rw [cd fun h=>Nat.ne_of_beq_eq_false e h.symm]
theorem Uh {q rs:List RE} {e:RE} (h:YC (e::q) rs):YC q rs∧eU rs q.length=some e:=by
 obtain ⟨p,rfl⟩:=h;exact ⟨⟨p++[e],by simp⟩,by rw [Ub (by simp)];simp [eU]⟩
theorem Ui {E:Env} {bN:List CT} {ops:List Oper} {B:Array Nat} {fj:List (Nat×List Nat)} {o:Oper} {s T:bP} {q:List RE} {b:Bool} {κ:bP→Option R} {z:R} (hE:xo E bN) (xm:∀ i o,ops[i]?=some o→B.getD i 0 < 2 ^ i) (hi:Inv s ops fj T q) (YX:ops[q.length]?=some o)
  (hd:pA T o.dst=true) (hw:∀ {w F O μ K ft a},SR w F O μ K (T.mask ops B fj q.length).st ft a→Region.wanted o (yielded ⟨ops⟩ a.tmps)=b) (h:Jx E bN ops B fj o q.length T b κ=some z):
  ∃ e T',κ T'=some z∧Inv s ops fj T' (e::q)∧Qr E.P ops B fj s.st q e o∧(xp fj q.length=[]→T'.H=T.H):=by
 have o_:(match o.dst with | some t=>t.blt s.st.nt | none=>true)=true:=by
  show pA ⟨s.nt,s.N,s.tm,s.H⟩ o.dst=true;cases hdd:o.dst with
  | none=>rfl
  | some t=>rw [hdd] at hd;simp only [pA] at hd ⊢;rw [← hi.nt];exact hd
 have dQ:q.length < ops.length:=(List.getElem?_eq_some_iff.1 YX).1;cases b with
 | false=>
  simp only [Jx] at h;refine ⟨⟨o.dst,.lit undef,[],T.N,0⟩,_,h,?_,?_,fun _=>Jz _ _ _⟩
  ·refine ⟨Ay hi.ok (by simp only [TA.wf]),by rw [VW];exact hi.nt,⟨hi.N,by rw [aa1];rfl⟩,fun t=>?_,fun id=>?_,fun j e hj=>?_⟩
   ·rw [VX,Jz];simp only [AA,Bool.true_and];cases OX o.dst t with
    | true=>simp only [TA.av]
    | false=>exact hi.tm t
   ·rw [Jz];simp only [y9,y8,List.any_nil,Bool.and_false];exact hi.H id
   ·simp only [eU] at hj;split at hj
    ·rename_i e1;cases hj;exact ⟨o,e1▸YX,rfl,fun id bY=>by cases bY⟩
    ·exact hi.AB j e hj
  ·exact ⟨rfl,o_,(fun id bY=>by cases bY),_,hi.nt,hi.WZ xm,hi.W0 xm,.inl ⟨hw,rfl,rfl,rfl⟩⟩
 | true=>
  simp only [Jx] at h;have hMo:(T.mask ops B fj q.length).ok:=acD hi.ok;rcases VO hE hMo h with ⟨r,h1,h2,h3⟩ | ⟨r,_,_,h3⟩
  ·simp only at h3;split at h3
   ·rename_i oy;have aex:∀ id,fH (aT (T.mask ops B fj q.length).H id)=fH (aT T.H id):=fun id=>Ox id;have rR:∀ id,fH (aT ((T.mask ops B fj q.length).next r).H id)=fH (aT (T.next r).H id):=fun id=>Jy aex r.up id;have hsa:Sub ((T.mask ops B fj q.length).next r).H (T.next r).H (T.N+r.k):=Mr rR _;have hg:NN T r:=by
     refine ⟨fun id bY=>?_,(jR hsa (Nat.le_refl _) _ h2.v).2,fun id l hl=>(hG hsa (Nat.le_refl _) _ (h2.box id l hl)).2⟩;rw [← rR id,h2.sub id bY,aex id]
    obtain ⟨rv,L4,k1,k2,k3,k4⟩:=h1;have hv:r.v.av (T.next r).H=r.v.av ((T.mask ops B fj q.length).next r).H:=(jR hsa (Nat.le_refl _) _ h2.v).1;have Rx:∀ id,id∈((r.up.map fun p=>(p.1,xn (T.next r).H p.1)):List (Nat×Option jV)).map (·.1)↔id∈r.up.map (·.1):=fun id=>by simp
    have afG:∀ id,id∈r.up.map (·.1)→id∈xp fj q.length:=fun id bY=>by
     obtain ⟨p,hp,rfl⟩:=List.mem_map.1 bY;have:=List.all_eq_true.1 oy p hp;obtain ⟨x,hx,hxe⟩:=List.any_eq_true.1 this;rw [← Nat.eq_of_beq_eq_true hxe];exact hx
    refine ⟨⟨o.dst,r.v.av (T.next r).H,r.up.map fun p=>(p.1,xn (T.next r).H p.1),T.N,r.k⟩,_,h3,?_,?_,fun h0=>?_⟩
    ·refine ⟨Ay (Jg hi.ok hg) hg.v,by rw [VW];exact hi.nt,⟨hi.N,by rw [aa1];rfl⟩,fun t=>?_,fun id=>?_,fun j e hj=>?_⟩
     ·rw [VX,Jz];simp only [AA,Bool.true_and];cases OX o.dst t with
      | true=>rfl
      | false=>
       show (look T.tm t).av (T.next r).H=_;rw [(jR hg.sub (Nat.le_refl _) _ (hi.ok.tm t)).1];exact hi.tm t
     ·rw [Jz];simp only [y9,Bool.true_and];cases hh:y8 (r.up.map fun p=>(p.1,xn (T.next r).H p.1)) id with
      | true=>
       have:=(Rx id).1 (uQ.1 hh);exact (W2 (f:=xn (T.next r).H) s.st.H id this).symm
      | false=>
       have hn:id ∉ r.up.map (·.1):=fun h=>by
        rw [uQ.2 ((Rx id).2 h)] at hh;cases hh
       show xn (T.next r).H id=_;rw [← hi.H id];unfold xn;rw [show aT (T.next r).H id=aT T.H id from R_ hn];cases hb:aT T.H id with
       | none=>rfl
       | some b=>
        simp only [Option.bind_some];rw [qN hg.sub (hi.ok.H id _ hb)]
     ·simp only [eU] at hj;split at hj
      ·rename_i e1;cases hj;exact ⟨o,e1▸YX,rfl,fun id bY=>e1▸afG id ((Rx id).1 bY)⟩
      ·exact hi.AB j e hj
    ·refine ⟨rfl,o_,fun id bY=>afG id ((Rx id).1 bY),_,hi.nt,hi.WZ xm,hi.W0 xm,.inr ⟨hw,rv,L4,k1,hv▸k2,fun id bY=>(Rx id).2 (k3 id bY),fun id b' bY hb=>?_,VT h⟩⟩;have Ps:=(Rx id).1 bY;rw [W2 (f:=xn (T.next r).H) s.st.H id Ps] at hb;refine k4 id b' ?_;obtain ⟨c,hc,hcv,rfl⟩:=iA hb;have hc':aT ((T.mask ops B fj q.length).next r).H id=some c:=(R9 aex Ps).trans hc;rw [KA hc' hcv]
     congr 1
     exact (qN hsa ((Jg hMo h2).H id _ hc')).symm
    ·rw [Jz];have:r.up=[]:=by
      rw [h0] at oy;cases hr:r.up with
      | nil=>rfl
      | cons p l=>rw [hr] at oy;simp [adh] at oy
     simp only [bP.next,this,cD]
   ·cases h3
  ·cases h3
theorem YE {T:bP} {ops:List Oper} {B:Array Nat} {fj:List (Nat×List Nat)} {i t:Nat} {b:Bool} (h:look (T.mask ops B fj i).tm t=.d ⟨.bool,b⟩):look T.tm t=.d ⟨.bool,b⟩∧((T.E2 t b).mask ops B fj i).st=(T.mask ops B fj i).st:=by
 have h0:look T.tm t=.d ⟨.bool,b⟩:=by
  have h':look (R7 (Ac B i 0 ops) T.tm) t=.d ⟨.bool,b⟩:=h;rcases xP T.tm t (Ac B i 0 ops) with ⟨_,e⟩ | ⟨_,e⟩
  ·rw [e] at h';cases h'
  ·rw [e] at h';exact h'
 refine ⟨h0,?_⟩;simp only [bP.st,bP.mask,bP.E2]
 congr 1
 funext u
 congr 1
 rcases xP T.tm u (Ac B i 0 ops) with ⟨m1,e1⟩ | ⟨m1,e1⟩<;>rcases xP ((t,.d ⟨.bool,b⟩)::T.tm) u (Ac B i 0 ops) with ⟨m2,e2⟩ | ⟨m2,e2⟩
 ·rw [e1,e2]
 ·exact absurd m1 m2
 ·exact absurd m2 m1
 ·rw [e1,e2];simp only [look];cases e:Nat.beq u t with
  | true=>rw [Nat.eq_of_beq_eq_true e,h0]
  | false=>rfl
theorem W3 {E:Env} {bN:List CT} {ops:List Oper} {B:Array Nat} {fj:List (Nat×List Nat)} {s:bP} {κ:bP→Option R} {z:R} (hE:xo E bN) (xm:∀ i o,ops[i]?=some o→B.getD i 0 < 2 ^ i):∀ {l:List Oper} {T:bP} {q:List RE},
  R8 E bN ops B fj l q.length T κ=some z→Inv s ops fj T q→(∀ i o,l[i]?=some o→ops[q.length+i]?=some o)→
  ∃ rs Tf,κ Tf=some z∧Inv s ops fj Tf rs∧rs.length=q.length+l.length∧YC q rs∧∀ i o,l[i]?=some o→∃ e q',eU rs (q.length+i)=some e∧q'.length=q.length+i∧YC q' rs∧Qr E.P ops B fj s.st q' e o
 | [],T,q,h,hi,hl=>by
  simp only [R8] at h;exact ⟨q,T,h,hi,rfl,⟨[],rfl⟩,fun i o ho=>by simp at ho⟩
 | o::rest,T,q,h,hi,hl=>by
  simp only [R8] at h;have go:∀ (T0:bP) (b:Bool),Jx E bN ops B fj o q.length T0 b (fun T=>R8 E bN ops B fj rest (q.length+1) T κ)=some z→Inv s ops fj T0 q→pA T0 o.dst=true→
    (∀ {w F O μ K ft a},SR w F O μ K (T0.mask ops B fj q.length).st ft a→Region.wanted o (yielded ⟨ops⟩ a.tmps)=b)→
    ∃ rs Tf,κ Tf=some z∧Inv s ops fj Tf rs∧rs.length=q.length+(o::rest).length∧YC q rs∧∀ i o',(o::rest)[i]?=some o'→∃ e q',eU rs (q.length+i)=some e∧q'.length=q.length+i∧YC q' rs∧Qr E.P ops B fj s.st q' e o':=by
   intro T0 b h0 hi0 hd0 hw0;obtain ⟨e,T',h1,h2,h3,_⟩:=Ui hE xm hi0 (hl 0 o (by simp)) hd0 hw0 h0;obtain ⟨rs,Tf,k1,k2,k3,k4,k5⟩:=W3 hE xm (q:=e::q) h1 h2 fun i o' JH=>by
    have:=hl (i+1) o' (by simpa using JH);rwa [show (e::q).length+i=q.length+(i+1) by simp;omega]
   obtain ⟨k6,k7⟩:=Uh k4;refine ⟨rs,Tf,k1,k2,by rw [k3];simp;omega,k6,fun i o' JH=>?_⟩;cases i with
   | zero=>
    simp only [List.getElem?_cons_zero,Option.some.injEq] at JH;subst JH;exact ⟨e,q,k7,rfl,k6,h3⟩
   | succ i=>
    obtain ⟨e',q',m1,m2,m3,m4⟩:=k5 i o' (by simpa using JH);have e1:(e::q).length+i=q.length+(i+1):=by simp;omega
    exact ⟨e',q',e1▸m1,e1▸m2,m3,m4⟩
  split at h
  ·rename_i hd;split at h
   ·rename_i hw;exact go T true h hi hd fun hs=>qg hs hw
   ·rename_i hw;exact go T false h hi hd fun hs=>qg hs hw
   ·rename_i t b c hw;obtain ⟨hl0,hm⟩:=YE (H6 hw);cases b with
    | true=>
     refine go _ c h (hi.E2 hl0) hd fun hs=>?_;rw [hm] at hs;rw [qg hs hw];cases c<;>rfl
    | false=>
     refine go _ (!c) h (hi.E2 hl0) hd fun hs=>?_;rw [hm] at hs;rw [qg hs hw];cases c<;>rfl
   ·cases h
  ·cases h
theorem YF {E:Env} {bN:List CT} {ops:List Oper} {B:Array Nat} {fj:List (Nat×List Nat)} {s:bP} {κ:bP→Option R} {z:R} {m0 rid:Nat} {n0:Nat×Nat} {ro:Option Nat} {a:Act} {Q:Exit→Act→World→Prop} (hE:xo E bN) (bF:E.P.follows .mixedOrders=true) (h:VV E bN ops B fj s κ=some z)
  (ho:s.ok) (hm:m0≤s.N) (hn:PC n0 s a) (hs:SR w F O μ (below s.N) s.st ft a) (hk:∀ s' a' w' F' O' bC bZ,κ s'=some z→zl w F O μ m0 n0 s' a' w' F' O' bC bZ→Q .normal a' w'):(Code.region rid ⟨ops⟩ true).wpIn (Wr ro) 0 E.P Q a w:=by
 unfold VV at h;split at h
 ·rename_i xm;have aa2:=xm;simp only [tl,Bool.and_eq_true] at xm;have hB:∀ i o,ops[i]?=some o→B.getD i 0 < 2 ^ i:=fun i o KR=>by
   have:=(Jv xm.1 i o KR).2.1;rwa [Nat.zero_add] at this
  have aey:Inv s ops fj s []:=⟨ho,rfl,rfl,fun t=>rfl,fun id=>rfl,fun j e hj=>by cases hj⟩;obtain ⟨rs,Tf,k1,k2,k3,k4,k5⟩:=W3 hE hB (q:=[]) h aey fun i o KR=>by simpa using KR
  have emp:jI (Array.replicate ops.length false)=fun _=>false:=by
   funext j;simp only [jI];by_cases h:j < ops.length<;>simp [h]
  have eT:∀ q:List RE,AA (fun _=>false) s.st.tm q=s.st.tm:=fun q=>by
   induction q with
   | nil=>rfl
   | cons x q ih=>funext t;exact congrFun ih t
  have eH:∀ q:List RE,y9 (fun _=>false) s.st.H q=s.st.H:=fun q=>by
   induction q with
   | nil=>rfl
   | cons x q ih=>funext t;exact congrFun ih t
  have eK:∀ q:List RE,kD (fun _=>false) s.N q=below s.N:=fun q=>by
   induction q with
   | nil=>rfl
   | cons x q ih=>funext t;simp [kD,ih]
  have Ht:SR { w with drawn:=w.drawn+1 } F O μ (below s.N) s.st ft a:=
   { hr:=hs.hr.drew _,nt:=hs.nt,tm:=fun t=>(hs.tm t).drew _,df:=hs.df.same fun _ _=>rfl }
  refine wpIn_region_any bF ?_;refine Ow (s:=s.st) (rs:=rs) (N:=Tf.N) (m0:=m0) (X:=fun _=>false) (Φ:=fun _=>True) (Z:=fun _ _=>True) aa2 k2.N hm (by simpa using k3) (fun _ _ h _=>h) (fun i o KR=>by
   obtain ⟨e,q,h1,h2,h3,h4⟩:=k5 i o KR;exact ⟨e,q,by simpa using h1,by simpa using h2,h3,.inl ⟨rfl,h4⟩⟩) (w0:=w) (F0:=F) (O0:=O) (μ0:=μ) (ds0:=a.defers) (ro:=ro) (fun i o M _ h=>by cases h) (fun w' F' O' bC bZ a' _ aez IC hf'=>?_) _ _ _ _ F O μ ft (by simp) (by
    unfold unl;simp [List.countP_replicate]) (by
    rw [show (⟨ops⟩:Array Oper).size=ops.length from rfl,emp];intro i hi;cases hi) ?_ (Fr.drew _) rfl trivial
  ·refine hk Tf a' w' F' O' bC bZ k1 ⟨k2.ok,?_,⟨k2.nt.trans hn.1,by rw [aez];exact hn.2⟩,⟨?_,?_,fun t=>?_,IC.df⟩,hf'⟩
   ·have:s.N≤Tf.N:=by
     have key:∀ {q:List RE} {N:Nat},Y6 s.N q N→s.N≤N:=by
      intro q
      induction q with
      | nil=>intro N h;exact Nat.le_of_eq h.symm
      | cons x q ih=>intro N h;have:=ih h.1;have:=h.2;omega
     exact key k2.N
    omega
   ·have:=IC.hr;have e:(y9 (fun _=>true) s.st.H rs)=xn Tf.H:=funext fun id=>(k2.H id).symm;simp only [e] at this;exact this
   ·exact IC.nt.trans k2.nt.symm
   ·have:=IC.tm t;simp only at this;rw [← k2.tm t] at this;exact this
  ·rw [show (⟨ops⟩:Array Oper).size=ops.length from rfl,emp];have:Js s.st rs (fun _=>false)=s.st:=by simp only [Js,eT,eH]
   rw [this];have e:kD (fun _=>false) s.st.N rs=below s.N:=eK rs;rw [e];exact Ht
 ·cases h
end Go.Proofs.YtjkbbdldmdajkaaGreatDoor.c_
