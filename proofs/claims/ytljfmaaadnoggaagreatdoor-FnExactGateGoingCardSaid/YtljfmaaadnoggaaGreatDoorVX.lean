/- The evaluator of a region whose order Go leaves open is right. No condition. -/
import Derived.Test.YtljfmaaadnoggaaGreatDoorVW
namespace Go.Proofs.YtljfmaaadnoggaaGreatDoor.cX
open Go Go.RowKit
variable {w w' xW:World} {F F' Cq O O' wx:Nat→Prop} {μ bC kZ:Nat→Nat} {K K' Gg:Nat→Prop} {ft b8:Nat→Nat→Prop} {P:Program} {R:Type}
theorem ZB {up:List (Nat×Option aY)} {f:Nat→Option kq} (H0:Hp) (id:Nat) (h:id∈up.map (·.1)):Hp.c_ H0 (up.map fun p=>(p.1,f p.1)) id=f id:=by
 induction up with
 | nil=>cases h
 | cons p up ih=>
  simp only [List.map_cons,Hp.c_]
  by_cases e:id=p.1
  ·rw [if_pos e,e]
  ·rw [if_neg e]
   exact ih ((List.mem_cons.1 h).resolve_left e)
theorem Ur {H H':List (Nat×aY)} (h:∀ id,fM (aR H id)=fM (aR H' id)):∀ {up:List (Nat×Option aY)} {id:Nat},id∈up.map (·.1)→aR (cD H up) id=aR (cD H' up) id
 | [],id,h'=>by cases h'
 | (i,some b)::r,id,h'=>by
  simp only [cD,aR]
  cases e:Nat.beq id i with
  | true=>rfl
  | false=>exact Ur h ((List.mem_cons.1 h').resolve_left (Nat.ne_of_beq_eq_false e))
 | (i,none)::r,id,h'=>by
  simp only [cD,aR]
  cases e:Nat.beq id i with
  | true=>simp only [Lv h r i]
  | false=>exact Ur h ((List.mem_cons.1 h').resolve_left (Nat.ne_of_beq_eq_false e))
theorem Us {H:List (Nat×aY)}:∀ {up:List (Nat×Option aY)} {id:Nat},id ∉ up.map (·.1)→aR (cD H up) id=aR H id
 | [],id,_=>rfl
 | (i,some b)::r,id,h'=>by
  simp only [cD,aR]
  simp only [List.map_cons,List.mem_cons,not_or] at h'
  rw [cl h'.1]
  exact Us h'.2
 | (i,none)::r,id,h'=>by
  simp only [cD,aR]
  simp only [List.map_cons,List.mem_cons,not_or] at h'
  rw [cl h'.1]
  exact Us h'.2
theorem acY (s:bQ) (d:Option Nat) (v:TA):(s.put d v).N=s.N:=by cases d<;>rfl
theorem Lw (s:bQ) (d:Option Nat) (v:TA):(s.put d v).H=s.H:=by cases d<;>rfl
theorem Yo (s:bQ) (d:Option Nat) (v:TA):(s.put d v).nt=s.nt:=by cases d<;>rfl
theorem Yp (s:bQ) (d:Option Nat) (v:TA) (t:Nat):look (s.put d v).tm t=(match QU d t with | true=>v | false=>look s.tm t):=by
 cases d with
 | none=>rfl
 | some d=>
  simp only [bQ.put,look,QU]
  cases e:Nat.beq d t with
  | true=>rw [Nat.eq_of_beq_eq_true e];simp
  | false=>rw [cl fun h=>Nat.ne_of_beq_eq_false e h.symm]
theorem WA {q rs:List RE} {e:RE} (h:Suf (e::q) rs):Suf q rs∧er rs q.length=some e:=by
 obtain ⟨p,rfl⟩:=h
 exact ⟨⟨p++[e],by simp⟩,by rw [Wu (by simp)];simp [er]⟩
theorem WB {E:Env} {bM:List CT} {ops:List Oper} {B:Array Nat} {eY:List (Nat×List Nat)} {o:Oper} {s T:bQ} {q:List RE} {b:Bool} {κ:bQ→Option R} {z:R} (hE:xZ E bM) (wq:∀ i o,ops[i]?=some o→B.getD i 0 < 2 ^ i) (hi:Inv s ops eY T q) (hoi:ops[q.length]?=some o)
  (hd:pc T o.dst=true) (hw:∀ {w F O μ K ft a},SR w F O μ K (T.mask ops B eY q.length).st ft a→Region.wanted o (yielded ⟨ops⟩ a.tmps)=b) (h:Lu E bM ops B eY o q.length T b κ=some z):
  ∃ e T',κ T'=some z∧Inv s ops eY T' (e::q)∧Sx E.P ops B eY s.st q e o∧(x4 eY q.length=[]→T'.H=T.H):=by
 have Eh:(match o.dst with | some t=>t.blt s.st.nt | none=>true)=true:=by
  show pc ⟨s.nt,s.N,s.tm,s.H⟩ o.dst=true
  cases hdd:o.dst with
  | none=>rfl
  | some t=>rw [hdd] at hd;simp only [pc] at hd ⊢;rw [← hi.nt];exact hd
 have dQ:q.length < ops.length:=(List.getElem?_eq_some_iff.1 hoi).1
 cases b with
 | false=>
  simp only [Lu] at h
  refine ⟨⟨o.dst,.lit undef,[],T.N,0⟩,_,h,?_,?_,fun _=>Lw _ _ _⟩
  ·refine ⟨Bz hi.ok (by simp only [TA.wf]),by rw [Yo];exact hi.nt,⟨hi.N,by rw [acY];rfl⟩,fun t=>?_,fun id=>?_,fun j e hj=>?_⟩
   ·rw [Yp,Lw]
    simp only [BB,Bool.true_and]
    cases QU o.dst t with
    | true=>simp only [TA.av]
    | false=>exact hi.tm t
   ·rw [Lw]
    simp only [z6,z0,List.any_nil,Bool.and_false]
    exact hi.H id
   ·simp only [er] at hj
    split at hj
    ·rename_i e1
     cases hj
     exact ⟨o,e1▸hoi,rfl,fun id cb=>by cases cb⟩
    ·exact hi.BC j e hj
  ·exact ⟨rfl,Eh,(fun id cb=>by cases cb),_,hi.nt,hi.Zz wq,hi.ZA wq,.inl ⟨hw,rfl,rfl,rfl⟩⟩
 | true=>
  simp only [Lu] at h
  have hMo:(T.mask ops B eY q.length).ok:=aeu hi.ok
  rcases Yh hE hMo h with ⟨r,h1,h2,h3⟩ | ⟨r,_,_,h3⟩
  ·simp only at h3
   split at h3
   ·rename_i n5
    have agK:∀ id,fM (aR (T.mask ops B eY q.length).H id)=fM (aR T.H id):=fun id=>Qu id
    have tA:∀ id,fM (aR ((T.mask ops B eY q.length).next r).H id)=fM (aR (T.next r).H id):=fun id=>Lv agK r.up id
    have hsa:Sub ((T.mask ops B eY q.length).next r).H (T.next r).H (T.N+r.k):=Oz tA _
    have hg:PT T r:=by
     refine ⟨fun id cb=>?_,(jQ hsa (Nat.le_refl _) _ h2.v).2,fun id l hl=>(iK hsa (Nat.le_refl _) _ (h2.box id l hl)).2⟩
     rw [← tA id,h2.sub id cb,agK id]
    obtain ⟨rv,N8,k1,k2,k3,k4⟩:=h1
    have hv:r.v.av (T.next r).H=r.v.av ((T.mask ops B eY q.length).next r).H:=(jQ hsa (Nat.le_refl _) _ h2.v).1
    have TT:∀ id,id∈((r.up.map fun p=>(p.1,xX (T.next r).H p.1)):List (Nat×Option kq)).map (·.1)↔id∈r.up.map (·.1):=fun id=>by simp
    have ah3:∀ id,id∈r.up.map (·.1)→id∈x4 eY q.length:=fun id cb=>by
     obtain ⟨p,hp,rfl⟩:=List.mem_map.1 cb
     have:=List.all_eq_true.1 n5 p hp
     obtain ⟨x,hx,hxe⟩:=List.any_eq_true.1 this
     rw [← Nat.eq_of_beq_eq_true hxe];exact hx
    refine ⟨⟨o.dst,r.v.av (T.next r).H,r.up.map fun p=>(p.1,xX (T.next r).H p.1),T.N,r.k⟩,_,h3,?_,?_,fun h0=>?_⟩
    ·refine ⟨Bz (Lb hi.ok hg) hg.v,by rw [Yo];exact hi.nt,⟨hi.N,by rw [acY];rfl⟩,fun t=>?_,fun id=>?_,fun j e hj=>?_⟩
     ·rw [Yp,Lw]
      simp only [BB,Bool.true_and]
      cases QU o.dst t with
      | true=>rfl
      | false=>
       show (look T.tm t).av (T.next r).H=_
       rw [(jQ hg.sub (Nat.le_refl _) _ (hi.ok.tm t)).1]
       exact hi.tm t
     ·rw [Lw]
      simp only [z6,Bool.true_and]
      cases hh:z0 (r.up.map fun p=>(p.1,xX (T.next r).H p.1)) id with
      | true=>
       have:=(TT id).1 (uS.1 hh)
       exact (ZB (f:=xX (T.next r).H) s.st.H id this).symm
      | false=>
       have hn:id ∉ r.up.map (·.1):=fun h=>by
        rw [uS.2 ((TT id).2 h)] at hh;cases hh
       show xX (T.next r).H id=_
       rw [← hi.H id]
       unfold xX
       rw [show aR (T.next r).H id=aR T.H id from Us hn]
       cases hb:aR T.H id with
       | none=>rfl
       | some b=>
        simp only [Option.bind_some]
        rw [qy hg.sub (hi.ok.H id _ hb)]
     ·simp only [er] at hj
      split at hj
      ·rename_i e1
       cases hj
       exact ⟨o,e1▸hoi,rfl,fun id cb=>e1▸ah3 id ((TT id).1 cb)⟩
      ·exact hi.BC j e hj
    ·refine ⟨rfl,Eh,fun id cb=>ah3 id ((TT id).1 cb),_,hi.nt,hi.Zz wq,hi.ZA wq,.inr ⟨hw,rv,N8,k1,hv▸k2,fun id cb=>(TT id).2 (k3 id cb),fun id b' cb hb=>?_,Yl h⟩⟩
     have Ro:=(TT id).1 cb
     rw [ZB (f:=xX (T.next r).H) s.st.H id Ro] at hb
     refine k4 id b' ?_
     obtain ⟨c,hc,hcv,rfl⟩:=iv hb
     have hc':aR ((T.mask ops B eY q.length).next r).H id=some c:=(Ur agK Ro).trans hc
     rw [MC hc' hcv]
     congr 1
     exact (qy hsa ((Lb hMo h2).H id _ hc')).symm
    ·rw [Lw]
     have:r.up=[]:=by
      rw [h0] at n5
      cases hr:r.up with
      | nil=>rfl
      | cons p l=>rw [hr] at n5;simp [ae_] at n5
     simp only [bQ.next,this,cD]
   ·cases h3
  ·cases h3
theorem aa5 {T:bQ} {ops:List Oper} {B:Array Nat} {eY:List (Nat×List Nat)} {i t:Nat} {b:Bool} (h:look (T.mask ops B eY i).tm t=.d ⟨.bool,b⟩):look T.tm t=.d ⟨.bool,b⟩∧((T.GD t b).mask ops B eY i).st=(T.mask ops B eY i).st:=by
 have h0:look T.tm t=.d ⟨.bool,b⟩:=by
  have h':look (Up (Ba B i 0 ops) T.tm) t=.d ⟨.bool,b⟩:=h
  rcases yq T.tm t (Ba B i 0 ops) with ⟨_,e⟩ | ⟨_,e⟩
  ·rw [e] at h';cases h'
  ·rw [e] at h';exact h'
 refine ⟨h0,?_⟩
 simp only [bQ.st,bQ.mask,bQ.GD]
 congr 1
 funext u
 congr 1
 rcases yq T.tm u (Ba B i 0 ops) with ⟨m1,e1⟩ | ⟨m1,e1⟩<;>rcases yq ((t,.d ⟨.bool,b⟩)::T.tm) u (Ba B i 0 ops) with ⟨m2,e2⟩ | ⟨m2,e2⟩
 ·rw [e1,e2]
 ·exact absurd m1 m2
 ·exact absurd m2 m1
 ·rw [e1,e2]
  simp only [look]
  cases e:Nat.beq u t with
  | true=>rw [Nat.eq_of_beq_eq_true e,h0]
  | false=>rfl
theorem ZC {E:Env} {bM:List CT} {ops:List Oper} {B:Array Nat} {eY:List (Nat×List Nat)} {s:bQ} {κ:bQ→Option R} {z:R} (hE:xZ E bM) (wq:∀ i o,ops[i]?=some o→B.getD i 0 < 2 ^ i):∀ {l:List Oper} {T:bQ} {q:List RE},
  Uq E bM ops B eY l q.length T κ=some z→Inv s ops eY T q→(∀ i o,l[i]?=some o→ops[q.length+i]?=some o)→
  ∃ rs Tf,κ Tf=some z∧Inv s ops eY Tf rs∧rs.length=q.length+l.length∧Suf q rs∧∀ i o,l[i]?=some o→∃ e q',er rs (q.length+i)=some e∧q'.length=q.length+i∧Suf q' rs∧Sx E.P ops B eY s.st q' e o
 | [],T,q,h,hi,hl=>by
  simp only [Uq] at h
  exact ⟨q,T,h,hi,rfl,⟨[],rfl⟩,fun i o ho=>by simp at ho⟩
 | o::rest,T,q,h,hi,hl=>by
  simp only [Uq] at h
  have go:∀ (T0:bQ) (b:Bool),Lu E bM ops B eY o q.length T0 b (fun T=>Uq E bM ops B eY rest (q.length+1) T κ)=some z→Inv s ops eY T0 q→pc T0 o.dst=true→
    (∀ {w F O μ K ft a},SR w F O μ K (T0.mask ops B eY q.length).st ft a→Region.wanted o (yielded ⟨ops⟩ a.tmps)=b)→
    ∃ rs Tf,κ Tf=some z∧Inv s ops eY Tf rs∧rs.length=q.length+(o::rest).length∧Suf q rs∧∀ i o',(o::rest)[i]?=some o'→∃ e q',er rs (q.length+i)=some e∧q'.length=q.length+i∧Suf q' rs∧Sx E.P ops B eY s.st q' e o':=by
   intro T0 b h0 hi0 hd0 hw0
   obtain ⟨e,T',h1,h2,h3,_⟩:=WB hE wq hi0 (hl 0 o (by simp)) hd0 hw0 h0
   obtain ⟨rs,Tf,k1,k2,k3,k4,k5⟩:=ZC hE wq (q:=e::q) h1 h2 fun i o' LF=>by
    have:=hl (i+1) o' (by simpa using LF)
    rwa [show (e::q).length+i=q.length+(i+1) by simp;omega]
   obtain ⟨k6,k7⟩:=WA k4
   refine ⟨rs,Tf,k1,k2,by rw [k3];simp;omega,k6,fun i o' LF=>?_⟩
   cases i with
   | zero=>
    simp only [List.getElem?_cons_zero,Option.some.injEq] at LF
    subst LF
    exact ⟨e,q,k7,rfl,k6,h3⟩
   | succ i=>
    obtain ⟨e',q',m1,m2,m3,m4⟩:=k5 i o' (by simpa using LF)
    have e1:(e::q).length+i=q.length+(i+1):=by simp;omega
    exact ⟨e',q',e1▸m1,e1▸m2,m3,m4⟩
  split at h
  ·rename_i hd
   split at h
   ·rename_i hw
    exact go T true h hi hd fun hs=>pZ hs hw
   ·rename_i hw
    exact go T false h hi hd fun hs=>pZ hs hw
   ·rename_i t b c hw
    obtain ⟨hl0,hm⟩:=aa5 (JT hw)
    cases b with
    | true=>
     refine go _ c h (hi.GD hl0) hd fun hs=>?_
     rw [hm] at hs
     rw [pZ hs hw];cases c<;>rfl
    | false=>
     refine go _ (!c) h (hi.GD hl0) hd fun hs=>?_
     rw [hm] at hs
     rw [pZ hs hw];cases c<;>rfl
   ·cases h
  ·cases h
theorem aa6 {E:Env} {bM:List CT} {ops:List Oper} {B:Array Nat} {eY:List (Nat×List Nat)} {s:bQ} {κ:bQ→Option R} {z:R} {m0 rid:Nat} {n0:Nat×Nat} {ro:Option Nat} {a:Act} {Q:Exit→Act→World→Prop} (hE:xZ E bM) (a_:E.P.follows .mixedOrders=true) (h:Yn E bM ops B eY s κ=some z)
  (ho:s.ok) (hm:m0≤s.N) (hn:Rw n0 s a) (hs:SR w F O μ (below s.N) s.st ft a) (hk:∀ s' a' w' F' O' bC b8,κ s'=some z→Ae w F O μ m0 n0 s' a' w' F' O' bC b8→Q .normal a' w'):(Code.region rid ⟨ops⟩ true).wpIn (Wr ro) 0 E.P Q a w:=by
 unfold Yn at h
 split at h
 ·rename_i wq
  have acZ:=wq
  simp only [tw,Bool.and_eq_true] at wq
  have hB:∀ i o,ops[i]?=some o→B.getD i 0 < 2 ^ i:=fun i o MT=>by
   have:=(Ls wq.1 i o MT).2.1
   rwa [Nat.zero_add] at this
  have agL:Inv s ops eY s []:=⟨ho,rfl,rfl,fun t=>rfl,fun id=>rfl,fun j e hj=>by cases hj⟩
  obtain ⟨rs,Tf,k1,k2,k3,k4,k5⟩:=ZC hE hB (q:=[]) h agL fun i o MT=>by simpa using MT
  have emp:jG (Array.replicate ops.length false)=fun _=>false:=by
   funext j
   simp only [jG]
   by_cases h:j < ops.length<;>simp [h]
  have eT:∀ q:List RE,BB (fun _=>false) s.st.tm q=s.st.tm:=fun q=>by
   induction q with
   | nil=>rfl
   | cons x q ih=>funext t;exact congrFun ih t
  have eH:∀ q:List RE,z6 (fun _=>false) s.st.H q=s.st.H:=fun q=>by
   induction q with
   | nil=>rfl
   | cons x q ih=>funext t;exact congrFun ih t
  have eK:∀ q:List RE,kD (fun _=>false) s.N q=below s.N:=fun q=>by
   induction q with
   | nil=>rfl
   | cons x q ih=>funext t;simp [kD,ih]
  have Mp:SR { w with drawn:=w.drawn+1 } F O μ (below s.N) s.st ft a:=
   { hr:=hs.hr.drew _,nt:=hs.nt,tm:=fun t=>(hs.tm t).drew _,df:=hs.df.same fun _ _=>rfl }
  refine wpIn_region_any a_ ?_
  refine Qt (s:=s.st) (rs:=rs) (N:=Tf.N) (m0:=m0) (X:=fun _=>false) (Φ:=fun _=>True) (Z:=fun _ _=>True) acZ k2.N hm (by simpa using k3) (fun _ _ h _=>h) (fun i o MT=>by
   obtain ⟨e,q,h1,h2,h3,h4⟩:=k5 i o MT
   exact ⟨e,q,by simpa using h1,by simpa using h2,h3,.inl ⟨rfl,h4⟩⟩) (w0:=w) (F0:=F) (O0:=O) (μ0:=μ) (ds0:=a.defers) (ro:=ro) (fun i o M _ h=>by cases h) (fun w' F' O' bC b8 a' _ agM Ky hf'=>?_) _ _ _ _ F O μ ft (by simp) (by
    unfold unl
    simp [List.countP_replicate]) (by
    rw [show (⟨ops⟩:Array Oper).size=ops.length from rfl,emp];intro i hi;cases hi) ?_ (Fr.drew _) rfl trivial
  ·refine hk Tf a' w' F' O' bC b8 k1 ⟨k2.ok,?_,⟨k2.nt.trans hn.1,by rw [agM];exact hn.2⟩,⟨?_,?_,fun t=>?_,Ky.df⟩,hf'⟩
   ·have:s.N≤Tf.N:=by
     have key:∀ {q:List RE} {N:Nat},wfN s.N q N→s.N≤N:=by
      intro q
      induction q with
      | nil=>intro N h;exact Nat.le_of_eq h.symm
      | cons x q ih=>intro N h;have:=ih h.1;have:=h.2;omega
     exact key k2.N
    omega
   ·have:=Ky.hr
    have e:(z6 (fun _=>true) s.st.H rs)=xX Tf.H:=funext fun id=>(k2.H id).symm
    simp only [e] at this
    exact this
   ·exact Ky.nt.trans k2.nt.symm
   ·have:=Ky.tm t
    simp only at this
    rw [← k2.tm t] at this
    exact this
  ·rw [show (⟨ops⟩:Array Oper).size=ops.length from rfl,emp]
   have:Js s.st rs (fun _=>false)=s.st:=by simp only [Js,eT,eH]
   rw [this]
   have e:kD (fun _=>false) s.st.N rs=below s.N:=eK rs
   rw [e];exact Mp
 ·cases h
end Go.Proofs.YtljfmaaadnoggaaGreatDoor.cX
