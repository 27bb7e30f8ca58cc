/- The evaluator of a region whose order Go leaves open is right. No condition. -/
import Derived.Test.YtljfmaaadnoggaaGreatDoorVW
namespace Go.Proofs.YtljfmaaadnoggaaGreatDoor.cU
open Go Go.RowKit
variable {w w' vP:World} {F F' Am O O' ux:Nat→Prop} {μ bB jV:Nat→Nat} {K K' DQ:Nat→Prop} {ft b7:Nat→Nat→Prop} {P:Program} {R:Type}
theorem Wq {up:List (Nat×Option aW)} {f:Nat→Option ju} (H0:Hp) (id:Nat) (h:id∈up.map (·.1)):Hp.c7 H0 (up.map fun p=>(p.1,f p.1)) id=f id:=by
 induction up with
 | nil=>cases h
 | cons p up ih=>
  simp only [List.map_cons,Hp.c7]
  by_cases e:id=p.1
  ·rw [if_pos e,e]
  ·rw [if_neg e]
   exact ih ((List.mem_cons.1 h).resolve_left e)
theorem Rz {H H':List (Nat×aW)} (h:∀ id,fj (aR H id)=fj (aR H' id)):∀ {up:List (Nat×Option aW)} {id:Nat},id∈up.map (·.1)→aR (cz H up) id=aR (cz H' up) id
 | [],id,h'=>by cases h'
 | (i,some b)::r,id,h'=>by
  simp only [cz,aR]
  cases e:Nat.beq id i with
  | true=>rfl
  | false=>exact Rz h ((List.mem_cons.1 h').resolve_left (Nat.ne_of_beq_eq_false e))
 | (i,none)::r,id,h'=>by
  simp only [cz,aR]
  cases e:Nat.beq id i with
  | true=>simp only [Jb h r i]
  | false=>exact Rz h ((List.mem_cons.1 h').resolve_left (Nat.ne_of_beq_eq_false e))
theorem RA {H:List (Nat×aW)}:∀ {up:List (Nat×Option aW)} {id:Nat},id ∉ up.map (·.1)→aR (cz H up) id=aR H id
 | [],id,_=>rfl
 | (i,some b)::r,id,h'=>by
  simp only [cz,aR]
  simp only [List.map_cons,List.mem_cons,not_or] at h'
  rw [ca h'.1]
  exact RA h'.2
 | (i,none)::r,id,h'=>by
  simp only [cz,aR]
  simp only [List.map_cons,List.mem_cons,not_or] at h'
  rw [ca h'.1]
  exact RA h'.2
theorem Z9 (s:bK) (d:Option Nat) (v:TA):(s.put d v).N=s.N:=by cases d<;>rfl
theorem Jc (s:bK) (d:Option Nat) (v:TA):(s.put d v).H=s.H:=by cases d<;>rfl
theorem Vn (s:bK) (d:Option Nat) (v:TA):(s.put d v).nt=s.nt:=by cases d<;>rfl
theorem Vo (s:bK) (d:Option Nat) (v:TA) (t:Nat):look (s.put d v).tm t=(match Ok d t with | true=>v | false=>look s.tm t):=by
 cases d with
 | none=>rfl
 | some d=>
  simp only [bK.put,look,Ok]
  cases e:Nat.beq d t with
  | true=>rw [Nat.eq_of_beq_eq_true e];simp
  | false=>rw [ca fun h=>Nat.ne_of_beq_eq_false e h.symm]
theorem TG {q rs:List RE} {e:RE} (h:XU (e::q) rs):XU q rs∧dU rs q.length=some e:=by
 obtain ⟨p,rfl⟩:=h
 exact ⟨⟨p++[e],by simp⟩,by rw [Tz (by simp)];simp [dU]⟩
theorem TH {E:Env} {bH:List CT} {ops:List Oper} {B:Array Nat} {eC:List (Nat×List Nat)} {o:Oper} {s T:bK} {q:List RE} {b:Bool} {κ:bK→Option R} {z:R} (hE:vT E bH) (vQ:∀ i o,ops[i]?=some o→B.getD i 0 < 2 ^ i) (hi:Inv s ops eC T q) (Yg:ops[q.length]?=some o)
  (hd:nU T o.dst=true) (hw:∀ {w F O μ K ft a},SR w F O μ K (T.mask ops B eC q.length).st ft a→Region.wanted o (yielded ⟨ops⟩ a.tmps)=b) (h:Ja E bH ops B eC o q.length T b κ=some z):
  ∃ e T',κ T'=some z∧Inv s ops eC T' (e::q)∧P2 E.P ops B eC s.st q e o∧(vU eC q.length=[]→T'.H=T.H):=by
 have Du:(match o.dst with | some t=>t.blt s.st.nt | none=>true)=true:=by
  show nU ⟨s.nt,s.N,s.tm,s.H⟩ o.dst=true
  cases hdd:o.dst with
  | none=>rfl
  | some t=>rw [hdd] at hd;simp only [nU] at hd ⊢;rw [← hi.nt];exact hd
 have dL:q.length < ops.length:=(List.getElem?_eq_some_iff.1 Yg).1
 cases b with
 | false=>
  simp only [Ja] at h
  refine ⟨⟨o.dst,.lit undef,[],T.N,0⟩,_,h,?_,?_,fun _=>Jc _ _ _⟩
  ·refine ⟨zw hi.ok (by simp only [TA.wf]),by rw [Vn];exact hi.nt,⟨hi.N,by rw [Z9];rfl⟩,fun t=>?_,fun id=>?_,fun j e hj=>?_⟩
   ·rw [Vo,Jc]
    simp only [zy,Bool.true_and]
    cases Ok o.dst t with
    | true=>simp only [TA.av]
    | false=>exact hi.tm t
   ·rw [Jc]
    simp only [xU,xT,List.any_nil,Bool.and_false]
    exact hi.H id
   ·simp only [dU] at hj
    split at hj
    ·rename_i e1
     cases hj
     exact ⟨o,e1▸Yg,rfl,fun id bY=>by cases bY⟩
    ·exact hi.zz j e hj
  ·exact ⟨rfl,Du,(fun id bY=>by cases bY),_,hi.nt,hi.Wo vQ,hi.Wp vQ,.inl ⟨hw,rfl,rfl,rfl⟩⟩
 | true=>
  simp only [Ja] at h
  have hMo:(T.mask ops B eC q.length).ok:=abD hi.ok
  rcases Vg hE hMo h with ⟨r,h1,h2,h3⟩ | ⟨r,_,_,h3⟩
  ·simp only at h3
   split at h3
   ·rename_i mC
    have adA:∀ id,fj (aR (T.mask ops B eC q.length).H id)=fj (aR T.H id):=fun id=>NS id
    have rO:∀ id,fj (aR ((T.mask ops B eC q.length).next r).H id)=fj (aR (T.next r).H id):=fun id=>Jb adA r.up id
    have hsa:Sub ((T.mask ops B eC q.length).next r).H (T.next r).H (T.N+r.k):=L9 rO _
    have hg:Ng T r:=by
     refine ⟨fun id bY=>?_,(iX hsa (Nat.le_refl _) _ h2.v).2,fun id l hl=>(g7 hsa (Nat.le_refl _) _ (h2.box id l hl)).2⟩
     rw [← rO id,h2.sub id bY,adA id]
    obtain ⟨rv,LO,k1,k2,k3,k4⟩:=h1
    have hv:r.v.av (T.next r).H=r.v.av ((T.mask ops B eC q.length).next r).H:=(iX hsa (Nat.le_refl _) _ h2.v).1
    have Q2:∀ id,id∈((r.up.map fun p=>(p.1,vS (T.next r).H p.1)):List (Nat×Option ju)).map (·.1)↔id∈r.up.map (·.1):=fun id=>by simp
    have aeJ:∀ id,id∈r.up.map (·.1)→id∈vU eC q.length:=fun id bY=>by
     obtain ⟨p,hp,rfl⟩:=List.mem_map.1 bY
     have:=List.all_eq_true.1 mC p hp
     obtain ⟨x,hx,hxe⟩:=List.any_eq_true.1 this
     rw [← Nat.eq_of_beq_eq_true hxe];exact hx
    refine ⟨⟨o.dst,r.v.av (T.next r).H,r.up.map fun p=>(p.1,vS (T.next r).H p.1),T.N,r.k⟩,_,h3,?_,?_,fun h0=>?_⟩
    ·refine ⟨zw (IS hi.ok hg) hg.v,by rw [Vn];exact hi.nt,⟨hi.N,by rw [Z9];rfl⟩,fun t=>?_,fun id=>?_,fun j e hj=>?_⟩
     ·rw [Vo,Jc]
      simp only [zy,Bool.true_and]
      cases Ok o.dst t with
      | true=>rfl
      | false=>
       show (look T.tm t).av (T.next r).H=_
       rw [(iX hg.sub (Nat.le_refl _) _ (hi.ok.tm t)).1]
       exact hi.tm t
     ·rw [Jc]
      simp only [xU,Bool.true_and]
      cases hh:xT (r.up.map fun p=>(p.1,vS (T.next r).H p.1)) id with
      | true=>
       have:=(Q2 id).1 (sU.1 hh)
       exact (Wq (f:=vS (T.next r).H) s.st.H id this).symm
      | false=>
       have hn:id ∉ r.up.map (·.1):=fun h=>by
        rw [sU.2 ((Q2 id).2 h)] at hh;cases hh
       show vS (T.next r).H id=_
       rw [← hi.H id]
       unfold vS
       rw [show aR (T.next r).H id=aR T.H id from RA hn]
       cases hb:aR T.H id with
       | none=>rfl
       | some b=>
        simp only [Option.bind_some]
        rw [o_ hg.sub (hi.ok.H id _ hb)]
     ·simp only [dU] at hj
      split at hj
      ·rename_i e1
       cases hj
       exact ⟨o,e1▸Yg,rfl,fun id bY=>e1▸aeJ id ((Q2 id).1 bY)⟩
      ·exact hi.zz j e hj
    ·refine ⟨rfl,Du,fun id bY=>aeJ id ((Q2 id).1 bY),_,hi.nt,hi.Wo vQ,hi.Wp vQ,.inr ⟨hw,rv,LO,k1,hv▸k2,fun id bY=>(Q2 id).2 (k3 id bY),fun id b' bY hb=>?_,Vk h⟩⟩
     have OQ:=(Q2 id).1 bY
     rw [Wq (f:=vS (T.next r).H) s.st.H id OQ] at hb
     refine k4 id b' ?_
     obtain ⟨c,hc,hcv,rfl⟩:=gP hb
     have hc':aR ((T.mask ops B eC q.length).next r).H id=some c:=(Rz adA OQ).trans hc
     rw [Kg hc' hcv]
     congr 1
     exact (o_ hsa ((IS hMo h2).H id _ hc')).symm
    ·rw [Jc]
     have:r.up=[]:=by
      rw [h0] at mC
      cases hr:r.up with
      | nil=>rfl
      | cons p l=>rw [hr] at mC;simp [aci] at mC
     simp only [bK.next,this,cz]
   ·cases h3
  ·cases h3
theorem XW {T:bK} {ops:List Oper} {B:Array Nat} {eC:List (Nat×List Nat)} {i t:Nat} {b:Bool} (h:look (T.mask ops B eC i).tm t=.d ⟨.bool,b⟩):look T.tm t=.d ⟨.bool,b⟩∧((T.Eb t b).mask ops B eC i).st=(T.mask ops B eC i).st:=by
 have h0:look T.tm t=.d ⟨.bool,b⟩:=by
  have h':look (Rx (zb B i 0 ops) T.tm) t=.d ⟨.bool,b⟩:=h
  rcases wu T.tm t (zb B i 0 ops) with ⟨_,e⟩ | ⟨_,e⟩
  ·rw [e] at h';cases h'
  ·rw [e] at h';exact h'
 refine ⟨h0,?_⟩
 simp only [bK.st,bK.mask,bK.Eb]
 congr 1
 funext u
 congr 1
 rcases wu T.tm u (zb B i 0 ops) with ⟨m1,e1⟩ | ⟨m1,e1⟩<;>rcases wu ((t,.d ⟨.bool,b⟩)::T.tm) u (zb B i 0 ops) with ⟨m2,e2⟩ | ⟨m2,e2⟩
 ·rw [e1,e2]
 ·exact absurd m1 m2
 ·exact absurd m2 m1
 ·rw [e1,e2]
  simp only [look]
  cases e:Nat.beq u t with
  | true=>rw [Nat.eq_of_beq_eq_true e,h0]
  | false=>rfl
theorem Ws {E:Env} {bH:List CT} {ops:List Oper} {B:Array Nat} {eC:List (Nat×List Nat)} {s:bK} {κ:bK→Option R} {z:R} (hE:vT E bH) (vQ:∀ i o,ops[i]?=some o→B.getD i 0 < 2 ^ i):∀ {l:List Oper} {T:bK} {q:List RE},
  Ry E bH ops B eC l q.length T κ=some z→Inv s ops eC T q→(∀ i o,l[i]?=some o→ops[q.length+i]?=some o)→
  ∃ rs Tf,κ Tf=some z∧Inv s ops eC Tf rs∧rs.length=q.length+l.length∧XU q rs∧∀ i o,l[i]?=some o→∃ e q',dU rs (q.length+i)=some e∧q'.length=q.length+i∧XU q' rs∧P2 E.P ops B eC s.st q' e o
 | [],T,q,h,hi,hl=>by
  simp only [Ry] at h
  exact ⟨q,T,h,hi,rfl,⟨[],rfl⟩,fun i o ho=>by simp at ho⟩
 | o::rest,T,q,h,hi,hl=>by
  simp only [Ry] at h
  have go:∀ (T0:bK) (b:Bool),Ja E bH ops B eC o q.length T0 b (fun T=>Ry E bH ops B eC rest (q.length+1) T κ)=some z→Inv s ops eC T0 q→nU T0 o.dst=true→
    (∀ {w F O μ K ft a},SR w F O μ K (T0.mask ops B eC q.length).st ft a→Region.wanted o (yielded ⟨ops⟩ a.tmps)=b)→
    ∃ rs Tf,κ Tf=some z∧Inv s ops eC Tf rs∧rs.length=q.length+(o::rest).length∧XU q rs∧∀ i o',(o::rest)[i]?=some o'→∃ e q',dU rs (q.length+i)=some e∧q'.length=q.length+i∧XU q' rs∧P2 E.P ops B eC s.st q' e o':=by
   intro T0 b h0 hi0 Z1 hw0
   obtain ⟨e,T',h1,h2,h3,_⟩:=TH hE vQ hi0 (hl 0 o (by simp)) Z1 hw0 h0
   obtain ⟨rs,Tf,k1,k2,k3,k4,k5⟩:=Ws hE vQ (q:=e::q) h1 h2 fun i o' Jl=>by
    have:=hl (i+1) o' (by simpa using Jl)
    rwa [show (e::q).length+i=q.length+(i+1) by simp;omega]
   obtain ⟨k6,k7⟩:=TG k4
   refine ⟨rs,Tf,k1,k2,by rw [k3];simp;omega,k6,fun i o' Jl=>?_⟩
   cases i with
   | zero=>
    simp only [List.getElem?_cons_zero,Option.some.injEq] at Jl
    subst Jl
    exact ⟨e,q,k7,rfl,k6,h3⟩
   | succ i=>
    obtain ⟨e',q',m1,m2,m3,m4⟩:=k5 i o' (by simpa using Jl)
    have e1:(e::q).length+i=q.length+(i+1):=by simp;omega
    exact ⟨e',q',e1▸m1,e1▸m2,m3,m4⟩
  split at h
  ·rename_i hd
   split at h
   ·rename_i hw
    exact go T true h hi hd fun hs=>oE hs hw
   ·rename_i hw
    exact go T false h hi hd fun hs=>oE hs hw
   ·rename_i t b c hw
    obtain ⟨hl0,hm⟩:=XW (Hu hw)
    cases b with
    | true=>
     refine go _ c h (hi.Eb hl0) hd fun hs=>?_
     rw [hm] at hs
     rw [oE hs hw];cases c<;>rfl
    | false=>
     refine go _ (!c) h (hi.Eb hl0) hd fun hs=>?_
     rw [hm] at hs
     rw [oE hs hw];cases c<;>rfl
   ·cases h
  ·cases h
theorem XX {E:Env} {bH:List CT} {ops:List Oper} {B:Array Nat} {eC:List (Nat×List Nat)} {s:bK} {κ:bK→Option R} {z:R} {m0 rid:Nat} {n0:Nat×Nat} {ro:Option Nat} {a:Act} {Q:Exit→Act→World→Prop} (hE:vT E bH) (bA:E.P.follows .mixedOrders=true) (h:Vm E bH ops B eC s κ=some z)
  (ho:s.ok) (hm:m0≤s.N) (hn:OY n0 s a) (hs:SR w F O μ (below s.N) s.st ft a) (hk:∀ s' a' w' F' O' bB b7,κ s'=some z→x5 w F O μ m0 n0 s' a' w' F' O' bB b7→Q .normal a' w'):(Code.region rid ⟨ops⟩ true).wpIn (Wr ro) 0 E.P Q a w:=by
 unfold Vm at h
 split at h
 ·rename_i vQ
  have Z_:=vQ
  simp only [rL,Bool.and_eq_true] at vQ
  have hB:∀ i o,ops[i]?=some o→B.getD i 0 < 2 ^ i:=fun i o KB=>by
   have:=(I9 vQ.1 i o KB).2.1
   rwa [Nat.zero_add] at this
  have adB:Inv s ops eC s []:=⟨ho,rfl,rfl,fun t=>rfl,fun id=>rfl,fun j e hj=>by cases hj⟩
  obtain ⟨rs,Tf,k1,k2,k3,k4,k5⟩:=Ws hE hB (q:=[]) h adB fun i o KB=>by simpa using KB
  have emp:iQ (Array.replicate ops.length false)=fun _=>false:=by
   funext j
   simp only [iQ]
   by_cases h:j < ops.length<;>simp [h]
  have eT:∀ q:List RE,zy (fun _=>false) s.st.tm q=s.st.tm:=fun q=>by
   induction q with
   | nil=>rfl
   | cons x q ih=>funext t;exact congrFun ih t
  have eH:∀ q:List RE,xU (fun _=>false) s.st.H q=s.st.H:=fun q=>by
   induction q with
   | nil=>rfl
   | cons x q ih=>funext t;exact congrFun ih t
  have eK:∀ q:List RE,kD (fun _=>false) s.N q=below s.N:=fun q=>by
   induction q with
   | nil=>rfl
   | cons x q ih=>funext t;simp [kD,ih]
  have J5:SR { w with drawn:=w.drawn+1 } F O μ (below s.N) s.st ft a:=
   { hr:=hs.hr.drew _,nt:=hs.nt,tm:=fun t=>(hs.tm t).drew _,df:=hs.df.same fun _ _=>rfl }
  refine wpIn_region_any bA ?_
  refine NR (s:=s.st) (rs:=rs) (N:=Tf.N) (m0:=m0) (X:=fun _=>false) (Φ:=fun _=>True) (Z:=fun _ _=>True) Z_ k2.N hm (by simpa using k3) (fun _ _ h _=>h) (fun i o KB=>by
   obtain ⟨e,q,h1,h2,h3,h4⟩:=k5 i o KB
   exact ⟨e,q,by simpa using h1,by simpa using h2,h3,.inl ⟨rfl,h4⟩⟩) (w0:=w) (F0:=F) (O0:=O) (Zs:=μ) (ds0:=a.defers) (ro:=ro) (fun i o M _ h=>by cases h) (fun w' F' O' bB b7 a' _ adC Ig hf'=>?_) _ _ _ _ F O μ ft (by simp) (by
    unfold unl
    simp [List.countP_replicate]) (by
    rw [show (⟨ops⟩:Array Oper).size=ops.length from rfl,emp];intro i hi;cases hi) ?_ (Fr.drew _) rfl trivial
  ·refine hk Tf a' w' F' O' bB b7 k1 ⟨k2.ok,?_,⟨k2.nt.trans hn.1,by rw [adC];exact hn.2⟩,⟨?_,?_,fun t=>?_,Ig.df⟩,hf'⟩
   ·have:s.N≤Tf.N:=by
     have key:∀ {q:List RE} {N:Nat},Yo s.N q N→s.N≤N:=by
      intro q
      induction q with
      | nil=>intro N h;exact Nat.le_of_eq h.symm
      | cons x q ih=>intro N h;have:=ih h.1;have:=h.2;omega
     exact key k2.N
    omega
   ·have:=Ig.hr
    have e:(xU (fun _=>true) s.st.H rs)=vS Tf.H:=funext fun id=>(k2.H id).symm
    simp only [e] at this
    exact this
   ·exact Ig.nt.trans k2.nt.symm
   ·have:=Ig.tm t
    simp only at this
    rw [← k2.tm t] at this
    exact this
  ·rw [show (⟨ops⟩:Array Oper).size=ops.length from rfl,emp]
   have:Js s.st rs (fun _=>false)=s.st:=by simp only [Js,eT,eH]
   rw [this]
   have e:kD (fun _=>false) s.st.N rs=below s.N:=eK rs
   rw [e];exact J5
 ·cases h
end Go.Proofs.YtljfmaaadnoggaaGreatDoor.cU
