/- The evaluator of a region whose order Go leaves open is right. No condition. -/
import Derived.Test.YtljfmaaadnoggaaVW
namespace Go.Proofs.Ytljfmaaadnoggaa.Abs
open Go Go.RowKit
variable {w w' w'':World} {F F' F'' O O' O'':Nat→Prop} {μ μ' μ'':Nat→Nat} {K K' K'':Nat→Prop} {ft ft':Nat→Nat→Prop} {P:Program} {R:Type}
theorem find_up {up:List (Nat×Option TBlk)} {f:Nat→Option Blk} (H0:Hp) (id:Nat) (h:id∈up.map (·.1)):Hp.upd H0 (up.map fun p=>(p.1,f p.1)) id=f id:=by
 induction up with
 | nil=>cases h
 | cons p up ih=>
  simp only [List.map_cons,Hp.upd]
  by_cases e:id=p.1
  ·rw [if_pos e,e]
  ·rw [if_neg e]
   exact ih ((List.mem_cons.1 h).resolve_left e)
theorem upd_two {H H':List (Nat×TBlk)} (h:∀ id,shp (lookH H id)=shp (lookH H' id)):∀ {up:List (Nat×Option TBlk)} {id:Nat},id∈up.map (·.1)→lookH (updH H up) id=lookH (updH H' up) id
 | [],id,h'=>by cases h'
 | (i,some b)::r,id,h'=>by
  simp only [updH,lookH]
  cases e:Nat.beq id i with
  | true=>rfl
  | false=>exact upd_two h ((List.mem_cons.1 h').resolve_left (Nat.ne_of_beq_eq_false e))
 | (i,none)::r,id,h'=>by
  simp only [updH,lookH]
  cases e:Nat.beq id i with
  | true=>simp only [shp_upd h r i]
  | false=>exact upd_two h ((List.mem_cons.1 h').resolve_left (Nat.ne_of_beq_eq_false e))
theorem upd_not {H:List (Nat×TBlk)}:∀ {up:List (Nat×Option TBlk)} {id:Nat},id ∉ up.map (·.1)→lookH (updH H up) id=lookH H id
 | [],id,_=>rfl
 | (i,some b)::r,id,h'=>by
  simp only [updH,lookH]
  simp only [List.map_cons,List.mem_cons,not_or] at h'
  rw [nbeq_ne h'.1]
  exact upd_not h'.2
 | (i,none)::r,id,h'=>by
  simp only [updH,lookH]
  simp only [List.map_cons,List.mem_cons,not_or] at h'
  rw [nbeq_ne h'.1]
  exact upd_not h'.2
theorem put_N (s:TSt) (d:Option Nat) (v:TA):(s.put d v).N=s.N:=by cases d<;>rfl
theorem put_H (s:TSt) (d:Option Nat) (v:TA):(s.put d v).H=s.H:=by cases d<;>rfl
theorem put_nt (s:TSt) (d:Option Nat) (v:TA):(s.put d v).nt=s.nt:=by cases d<;>rfl
theorem put_tm (s:TSt) (d:Option Nat) (v:TA) (t:Nat):look (s.put d v).tm t=(match isD d t with | true=>v | false=>look s.tm t):=by
 cases d with
 | none=>rfl
 | some d=>
  simp only [TSt.put,look,isD]
  cases e:Nat.beq d t with
  | true=>rw [Nat.eq_of_beq_eq_true e];simp
  | false=>rw [nbeq_ne fun h=>Nat.ne_of_beq_eq_false e h.symm]
theorem suf_more {q rs:List RE} {e:RE} (h:Suf (e::q) rs):Suf q rs∧reAt rs q.length=some e:=by
 obtain ⟨p,rfl⟩:=h
 exact ⟨⟨p++[e],by simp⟩,by rw [reAt_suf (by simp)];simp [reAt]⟩
theorem drOne_ok {E:Env} {cts:List CT} {ops:List Oper} {B:Array Nat} {tch:List (Nat×List Nat)} {o:Oper} {s T:TSt} {q:List RE} {b:Bool} {κ:TSt→Option R} {z:R} (hE:EnvOk E cts) (hst:∀ i o,ops[i]?=some o→B.getD i 0 < 2 ^ i) (hi:Inv s ops tch T q) (hoi:ops[q.length]?=some o)
  (hd:okDst T o.dst=true) (hw:∀ {w F O μ K ft a},SR w F O μ K (T.mask ops B tch q.length).st ft a→Region.wanted o (yielded ⟨ops⟩ a.tmps)=b) (h:drOne E cts ops B tch o q.length T b κ=some z):
  ∃ e T',κ T'=some z∧Inv s ops tch T' (e::q)∧CertI E.P ops B tch s.st q e o∧(tchOf tch q.length=[]→T'.H=T.H):=by
 have hok:(match o.dst with | some t=>t.blt s.st.nt | none=>true)=true:=by
  show okDst ⟨s.nt,s.N,s.tm,s.H⟩ o.dst=true
  cases hdd:o.dst with
  | none=>rfl
  | some t=>rw [hdd] at hd;simp only [okDst] at hd ⊢;rw [← hi.nt];exact hd
 have hlt:q.length < ops.length:=(List.getElem?_eq_some_iff.1 hoi).1
 cases b with
 | false=>
  simp only [drOne] at h
  refine ⟨⟨o.dst,.lit undef,[],T.N,0⟩,_,h,?_,?_,fun _=>put_H _ _ _⟩
  ·refine ⟨put_ok hi.ok (by simp only [TA.wf]),by rw [put_nt];exact hi.nt,⟨hi.N,by rw [put_N];rfl⟩,fun t=>?_,fun id=>?_,fun j e hj=>?_⟩
   ·rw [put_tm,put_H]
    simp only [ovT,Bool.true_and]
    cases isD o.dst t with
    | true=>simp only [TA.av]
    | false=>exact hi.tm t
   ·rw [put_H]
    simp only [ovH,hasId,List.any_nil,Bool.and_false]
    exact hi.H id
   ·simp only [reAt] at hj
    split at hj
    ·rename_i e1
     cases hj
     exact ⟨o,e1▸hoi,rfl,fun id hid=>by cases hid⟩
    ·exact hi.rec_ j e hj
  ·exact ⟨rfl,hok,(fun id hid=>by cases hid),_,hi.nt,hi.maskT hst,hi.maskH hst,.inl ⟨hw,rfl,rfl,rfl⟩⟩
 | true=>
  simp only [drOne] at h
  have hMo:(T.mask ops B tch q.length).ok:=mask_ok hi.ok
  rcases evT_ok hE hMo h with ⟨r,h1,h2,h3⟩ | ⟨r,_,_,h3⟩
  ·simp only at h3
   split at h3
   ·rename_i hall
    have hshM:∀ id,shp (lookH (T.mask ops B tch q.length).H id)=shp (lookH T.H id):=fun id=>mask_shp id
    have hsh:∀ id,shp (lookH ((T.mask ops B tch q.length).next r).H id)=shp (lookH (T.next r).H id):=fun id=>shp_upd hshM r.up id
    have hsa:Sub ((T.mask ops B tch q.length).next r).H (T.next r).H (T.N+r.k):=sub_all hsh _
    have hg:TGood T r:=by
     refine ⟨fun id hid=>?_,(av_sub hsa (Nat.le_refl _) _ h2.v).2,fun id l hl=>(avL_sub hsa (Nat.le_refl _) _ (h2.box id l hl)).2⟩
     rw [← hsh id,h2.sub id hid,hshM id]
    obtain ⟨rv,upA,k1,k2,k3,k4⟩:=h1
    have hv:r.v.av (T.next r).H=r.v.av ((T.mask ops B tch q.length).next r).H:=(av_sub hsa (Nat.le_refl _) _ h2.v).1
    have hin:∀ id,id∈((r.up.map fun p=>(p.1,hpT (T.next r).H p.1)):List (Nat×Option Blk)).map (·.1)↔id∈r.up.map (·.1):=fun id=>by simp
    have htch:∀ id,id∈r.up.map (·.1)→id∈tchOf tch q.length:=fun id hid=>by
     obtain ⟨p,hp,rfl⟩:=List.mem_map.1 hid
     have:=List.all_eq_true.1 hall p hp
     obtain ⟨x,hx,hxe⟩:=List.any_eq_true.1 this
     rw [← Nat.eq_of_beq_eq_true hxe];exact hx
    refine ⟨⟨o.dst,r.v.av (T.next r).H,r.up.map fun p=>(p.1,hpT (T.next r).H p.1),T.N,r.k⟩,_,h3,?_,?_,fun h0=>?_⟩
    ·refine ⟨put_ok (next_ok hi.ok hg) hg.v,by rw [put_nt];exact hi.nt,⟨hi.N,by rw [put_N];rfl⟩,fun t=>?_,fun id=>?_,fun j e hj=>?_⟩
     ·rw [put_tm,put_H]
      simp only [ovT,Bool.true_and]
      cases isD o.dst t with
      | true=>rfl
      | false=>
       show (look T.tm t).av (T.next r).H=_
       rw [(av_sub hg.sub (Nat.le_refl _) _ (hi.ok.tm t)).1]
       exact hi.tm t
     ·rw [put_H]
      simp only [ovH,Bool.true_and]
      cases hh:hasId (r.up.map fun p=>(p.1,hpT (T.next r).H p.1)) id with
      | true=>
       have:=(hin id).1 (hasId_iff.1 hh)
       exact (find_up (f:=hpT (T.next r).H) s.st.H id this).symm
      | false=>
       have hn:id ∉ r.up.map (·.1):=fun h=>by
        rw [hasId_iff.2 ((hin id).2 h)] at hh;cases hh
       show hpT (T.next r).H id=_
       rw [← hi.H id]
       unfold hpT
       rw [show lookH (T.next r).H id=lookH T.H id from upd_not hn]
       cases hb:lookH T.H id with
       | none=>rfl
       | some b=>
        simp only [Option.bind_some]
        rw [blk_sub hg.sub (hi.ok.H id _ hb)]
     ·simp only [reAt] at hj
      split at hj
      ·rename_i e1
       cases hj
       exact ⟨o,e1▸hoi,rfl,fun id hid=>e1▸htch id ((hin id).1 hid)⟩
      ·exact hi.rec_ j e hj
    ·refine ⟨rfl,hok,fun id hid=>htch id ((hin id).1 hid),_,hi.nt,hi.maskT hst,hi.maskH hst,.inr ⟨hw,rv,upA,k1,hv▸k2,fun id hid=>(hin id).2 (k3 id hid),fun id b' hid hb=>?_,evT_nd h⟩⟩
     have hid':=(hin id).1 hid
     rw [find_up (f:=hpT (T.next r).H) s.st.H id hid'] at hb
     refine k4 id b' ?_
     obtain ⟨c,hc,hcv,rfl⟩:=hpT_some hb
     have hc':lookH ((T.mask ops B tch q.length).next r).H id=some c:=(upd_two hshM hid').trans hc
     rw [hpT_of hc' hcv]
     congr 1
     exact (blk_sub hsa ((next_ok hMo h2).H id _ hc')).symm
    ·rw [put_H]
     have:r.up=[]:=by
      rw [h0] at hall
      cases hr:r.up with
      | nil=>rfl
      | cons p l=>rw [hr] at hall;simp [allIn] at hall
     simp only [TSt.next,this,updH]
   ·cases h3
  ·cases h3
theorem mask_know {T:TSt} {ops:List Oper} {B:Array Nat} {tch:List (Nat×List Nat)} {i t:Nat} {b:Bool} (h:look (T.mask ops B tch i).tm t=.d ⟨.bool,b⟩):look T.tm t=.d ⟨.bool,b⟩∧((T.know t b).mask ops B tch i).st=(T.mask ops B tch i).st:=by
 have h0:look T.tm t=.d ⟨.bool,b⟩:=by
  have h':look (tops (hidTs B i 0 ops) T.tm) t=.d ⟨.bool,b⟩:=h
  rcases look_tops T.tm t (hidTs B i 0 ops) with ⟨_,e⟩ | ⟨_,e⟩
  ·rw [e] at h';cases h'
  ·rw [e] at h';exact h'
 refine ⟨h0,?_⟩
 simp only [TSt.st,TSt.mask,TSt.know]
 congr 1
 funext u
 congr 1
 rcases look_tops T.tm u (hidTs B i 0 ops) with ⟨m1,e1⟩ | ⟨m1,e1⟩<;>rcases look_tops ((t,.d ⟨.bool,b⟩)::T.tm) u (hidTs B i 0 ops) with ⟨m2,e2⟩ | ⟨m2,e2⟩
 ·rw [e1,e2]
 ·exact absurd m1 m2
 ·exact absurd m2 m1
 ·rw [e1,e2]
  simp only [look]
  cases e:Nat.beq u t with
  | true=>rw [Nat.eq_of_beq_eq_true e,h0]
  | false=>rfl
theorem evDr_ok {E:Env} {cts:List CT} {ops:List Oper} {B:Array Nat} {tch:List (Nat×List Nat)} {s:TSt} {κ:TSt→Option R} {z:R} (hE:EnvOk E cts) (hst:∀ i o,ops[i]?=some o→B.getD i 0 < 2 ^ i):∀ {l:List Oper} {T:TSt} {q:List RE},
  evDr E cts ops B tch l q.length T κ=some z→Inv s ops tch T q→(∀ i o,l[i]?=some o→ops[q.length+i]?=some o)→
  ∃ rs Tf,κ Tf=some z∧Inv s ops tch Tf rs∧rs.length=q.length+l.length∧Suf q rs∧∀ i o,l[i]?=some o→∃ e q',reAt rs (q.length+i)=some e∧q'.length=q.length+i∧Suf q' rs∧CertI E.P ops B tch s.st q' e o
 | [],T,q,h,hi,hl=>by
  simp only [evDr] at h
  exact ⟨q,T,h,hi,rfl,⟨[],rfl⟩,fun i o ho=>by simp at ho⟩
 | o::rest,T,q,h,hi,hl=>by
  simp only [evDr] at h
  have go:∀ (T0:TSt) (b:Bool),drOne E cts ops B tch o q.length T0 b (fun T=>evDr E cts ops B tch rest (q.length+1) T κ)=some z→Inv s ops tch T0 q→okDst T0 o.dst=true→
    (∀ {w F O μ K ft a},SR w F O μ K (T0.mask ops B tch q.length).st ft a→Region.wanted o (yielded ⟨ops⟩ a.tmps)=b)→
    ∃ rs Tf,κ Tf=some z∧Inv s ops tch Tf rs∧rs.length=q.length+(o::rest).length∧Suf q rs∧∀ i o',(o::rest)[i]?=some o'→∃ e q',reAt rs (q.length+i)=some e∧q'.length=q.length+i∧Suf q' rs∧CertI E.P ops B tch s.st q' e o':=by
   intro T0 b h0 hi0 hd0 hw0
   obtain ⟨e,T',h1,h2,h3,_⟩:=drOne_ok hE hst hi0 (hl 0 o (by simp)) hd0 hw0 h0
   obtain ⟨rs,Tf,k1,k2,k3,k4,k5⟩:=evDr_ok hE hst (q:=e::q) h1 h2 fun i o' ho'=>by
    have:=hl (i+1) o' (by simpa using ho')
    rwa [show (e::q).length+i=q.length+(i+1) by simp;omega]
   obtain ⟨k6,k7⟩:=suf_more k4
   refine ⟨rs,Tf,k1,k2,by rw [k3];simp;omega,k6,fun i o' ho'=>?_⟩
   cases i with
   | zero=>
    simp only [List.getElem?_cons_zero,Option.some.injEq] at ho'
    subst ho'
    exact ⟨e,q,k7,rfl,k6,h3⟩
   | succ i=>
    obtain ⟨e',q',m1,m2,m3,m4⟩:=k5 i o' (by simpa using ho')
    have e1:(e::q).length+i=q.length+(i+1):=by simp;omega
    exact ⟨e',q',e1▸m1,e1▸m2,m3,m4⟩
  split at h
  ·rename_i hd
   split at h
   ·rename_i hw
    exact go T true h hi hd fun hs=>wantT_ok hs hw
   ·rename_i hw
    exact go T false h hi hd fun hs=>wantT_ok hs hw
   ·rename_i t b c hw
    obtain ⟨hl0,hm⟩:=mask_know (wantT_look hw)
    cases b with
    | true=>
     refine go _ c h (hi.know hl0) hd fun hs=>?_
     rw [hm] at hs
     rw [wantT_ok hs hw];cases c<;>rfl
    | false=>
     refine go _ (!c) h (hi.know hl0) hd fun hs=>?_
     rw [hm] at hs
     rw [wantT_ok hs hw];cases c<;>rfl
   ·cases h
  ·cases h
theorem evDraw_ok {E:Env} {cts:List CT} {ops:List Oper} {B:Array Nat} {tch:List (Nat×List Nat)} {s:TSt} {κ:TSt→Option R} {z:R} {m0 rid:Nat} {n0:Nat×Nat} {ro:Option Nat} {a:Act} {Q:Exit→Act→World→Prop} (hE:EnvOk E cts) (hmix:E.P.follows .mixedOrders=true) (h:evDraw E cts ops B tch s κ=some z)
  (ho:s.ok) (hm:m0≤s.N) (hn:NtB n0 s a) (hs:SR w F O μ (below s.N) s.st ft a) (hk:∀ s' a' w' F' O' μ' ft',κ s'=some z→Here w F O μ m0 n0 s' a' w' F' O' μ' ft'→Q .normal a' w'):(Code.region rid ⟨ops⟩ true).wpIn (Wr ro) 0 E.P Q a w:=by
 unfold evDraw at h
 split at h
 ·rename_i hst
  have hst0:=hst
  simp only [statOk,Bool.and_eq_true] at hst
  have hB:∀ i o,ops[i]?=some o→B.getD i 0 < 2 ^ i:=fun i o hio=>by
   have:=(go1_spec hst.1 i o hio).2.1
   rwa [Nat.zero_add] at this
  have inv0:Inv s ops tch s []:=⟨ho,rfl,rfl,fun t=>rfl,fun id=>rfl,fun j e hj=>by cases hj⟩
  obtain ⟨rs,Tf,k1,k2,k3,k4,k5⟩:=evDr_ok hE hB (q:=[]) h inv0 fun i o hio=>by simpa using hio
  have emp:lst (Array.replicate ops.length false)=fun _=>false:=by
   funext j
   simp only [lst]
   by_cases h:j < ops.length<;>simp [h]
  have eT:∀ q:List RE,ovT (fun _=>false) s.st.tm q=s.st.tm:=fun q=>by
   induction q with
   | nil=>rfl
   | cons x q ih=>funext t;exact congrFun ih t
  have eH:∀ q:List RE,ovH (fun _=>false) s.st.H q=s.st.H:=fun q=>by
   induction q with
   | nil=>rfl
   | cons x q ih=>funext t;exact congrFun ih t
  have eK:∀ q:List RE,kD (fun _=>false) s.N q=below s.N:=fun q=>by
   induction q with
   | nil=>rfl
   | cons x q ih=>funext t;simp [kD,ih]
  have hs0:SR { w with drawn:=w.drawn+1 } F O μ (below s.N) s.st ft a:=
   { hr:=hs.hr.drew _,nt:=hs.nt,tm:=fun t=>(hs.tm t).drew _,df:=hs.df.same fun _ _=>rfl }
  refine wpIn_region_any hmix ?_
  refine draw_any (s:=s.st) (rs:=rs) (N:=Tf.N) (m0:=m0) (X:=fun _=>false) (Φ:=fun _=>True) (Z:=fun _ _=>True) hst0 k2.N hm (by simpa using k3) (fun _ _ h _=>h) (fun i o hio=>by
   obtain ⟨e,q,h1,h2,h3,h4⟩:=k5 i o hio
   exact ⟨e,q,by simpa using h1,by simpa using h2,h3,.inl ⟨rfl,h4⟩⟩) (w0:=w) (F0:=F) (O0:=O) (μ0:=μ) (ds0:=a.defers) (ro:=ro) (fun i o M _ h=>by cases h) (fun w' F' O' μ' ft' a' _ hds' hs' hf'=>?_) _ _ _ _ F O μ ft (by simp) (by
    unfold unl
    simp [List.countP_replicate]) (by
    rw [show (⟨ops⟩:Array Oper).size=ops.length from rfl,emp];intro i hi;cases hi) ?_ (Fr.drew _) rfl trivial
  ·refine hk Tf a' w' F' O' μ' ft' k1 ⟨k2.ok,?_,⟨k2.nt.trans hn.1,by rw [hds'];exact hn.2⟩,⟨?_,?_,fun t=>?_,hs'.df⟩,hf'⟩
   ·have:s.N≤Tf.N:=by
     have key:∀ {q:List RE} {N:Nat},wfN s.N q N→s.N≤N:=by
      intro q
      induction q with
      | nil=>intro N h;exact Nat.le_of_eq h.symm
      | cons x q ih=>intro N h;have:=ih h.1;have:=h.2;omega
     exact key k2.N
    omega
   ·have:=hs'.hr
    have e:(ovH (fun _=>true) s.st.H rs)=hpT Tf.H:=funext fun id=>(k2.H id).symm
    simp only [e] at this
    exact this
   ·exact hs'.nt.trans k2.nt.symm
   ·have:=hs'.tm t
    simp only at this
    rw [← k2.tm t] at this
    exact this
  ·rw [show (⟨ops⟩:Array Oper).size=ops.length from rfl,emp]
   have:Js s.st rs (fun _=>false)=s.st:=by simp only [Js,eT,eH]
   rw [this]
   have e:kD (fun _=>false) s.st.N rs=below s.N:=eK rs
   rw [e];exact hs0
 ·cases h
end Go.Proofs.Ytljfmaaadnoggaa.Abs
