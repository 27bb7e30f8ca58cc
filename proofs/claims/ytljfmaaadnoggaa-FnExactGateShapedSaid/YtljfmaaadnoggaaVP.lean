/- Calls in the evaluator. No condition. -/
import Derived.Test.YtljfmaaadnoggaaVO
namespace Go.Proofs.Ytljfmaaadnoggaa.Abs
open Go Go.RowKit
variable {w w' w'':World} {F F' F'' O O' O'':Nat→Prop} {μ μ' μ'':Nat→Nat} {K K' K'':Nat→Prop} {ft ft':Nat→Nat→Prop} {P:Program} {R:Type}
mutual
def TA.ren (ρ:Nat→Nat):TA→TA
 | .agg cs=>.agg (trenL ρ cs)
 | .tup cs=>.tup (trenL ρ cs)
 | .ow id=>.ow (ρ id)
 | .bs id n e=>.bs (ρ id) n e
 | .bp id off=>.bp (ρ id) off
 | .rp id i off=>.rp (ρ id) i off
 | .mp id=>.mp (ρ id)
 | .ifc t a=>.ifc t (a.ren ρ)
 | .fn f xs ys=>.fn f (trenL ρ xs) (trenL ρ ys)
 | a=>a
def trenL (ρ:Nat→Nat):List TA→List TA
 | []=>[]
 | a::r=>a.ren ρ::trenL ρ r
end
theorem trenL_map (ρ:Nat→Nat):∀ l:List TA,trenL ρ l=l.map (TA.ren ρ)
 | []=>by simp [trenL]
 | a::r=>by simp [trenL,trenL_map ρ r]
def TBlk.ren (ρ:Nat→Nat):TBlk→TBlk
 | .box l=>.box (trenL ρ l)
 | .hrow t v xs i os=>.hrow t v xs i (os.map fun p=>(p.1,ρ p.2))
 | b=>b
theorem dynT_ren (ρ:Nat→Nat) (y:Dyn):(dynT y).ren ρ=dynT y:=by
 obtain ⟨t,x⟩:=y
 cases t with
 | st i=>
  simp only [dynT,TA.ren,trenL_map,List.map_map]
  exact congrArg TA.agg (List.map_congr_left fun z _=>by simp only [Function.comp,TA.ren])
 | _=>simp only [dynT,TA.ren]
mutual
theorem instP_ren (ρ:Nat→Nat):∀ (p:Pat) (l:List Dyn),instP ρ p l=(instP id p l).map fun x=>(x.1.ren ρ,x.2)
 | .any,l=>by simp only [instP,Option.map_some,TA.ren]
 | .d t,l=>by
  simp only [instP]
  cases l with
  | nil=>rfl
  | cons y l=>
   simp only
   split
   ·simp only [Option.map_some,dynT_ren]
   ·rfl
 | .agg ps,l=>by
  simp only [instP,instL_ren ρ ps l]
  cases instL id ps l with
  | none=>rfl
  | some x=>simp only [Option.map_some,TA.ren]
 | .tup ps,l=>by
  simp only [instP,instL_ren ρ ps l]
  cases instL id ps l with
  | none=>rfl
  | some x=>simp only [Option.map_some,TA.ren]
 | .ow j,l=>by simp only [instP,Option.map_some,TA.ren,id]
 | .bs j n esz,l=>by simp only [instP,Option.map_some,TA.ren,id]
 | .bp j off,l=>by simp only [instP,Option.map_some,TA.ren,id]
 | .mp j,l=>by simp only [instP,Option.map_some,TA.ren,id]
 | .fp t off,l=>by
  simp only [instP]
  cases l with
  | nil=>rfl
  | cons y l=>
   simp only
   split
   ·simp only [Option.map_some,TA.ren]
   ·rfl
 | .ifc t p,l=>by
  simp only [instP,instP_ren ρ p l]
  cases instP id p l with
  | none=>rfl
  | some x=>simp only [Option.map_some,TA.ren]
 | .fn f xs ys,l=>by
  simp only [instP,instL_ren ρ xs l]
  cases instL id xs l with
  | none=>rfl
  | some x=>
   simp only [Option.map_some,instL_ren ρ ys x.2]
   cases instL id ys x.2 with
   | none=>rfl
   | some y=>simp only [Option.map_some,TA.ren]
 | .nilI,l=>by simp only [instP,Option.map_some,TA.ren]
 | .kb b,l=>by simp only [instP,Option.map_some,TA.ren]
theorem instL_ren (ρ:Nat→Nat):∀ (ps:List Pat) (l:List Dyn),instL ρ ps l=(instL id ps l).map fun x=>(trenL ρ x.1,x.2)
 | [],l=>by simp only [instL,Option.map_some,trenL]
 | p::ps,l=>by
  simp only [instL,instP_ren ρ p l]
  cases instP id p l with
  | none=>rfl
  | some x=>
   simp only [Option.map_some,instL_ren ρ ps x.2]
   cases instL id ps x.2 with
   | none=>rfl
   | some y=>simp only [Option.map_some,trenL]
end
theorem instB_ren (ρ:Nat→Nat) (b:Bp) (l:List Dyn):instB ρ b l=(instB id b l).map fun x=>(x.1.ren ρ,x.2):=by
 cases b with
 | box ps=>
  simp only [instB,instL_ren ρ ps l]
  cases instL id ps l with
  | none=>rfl
  | some x=>simp only [Option.map_some,TBlk.ren]
 | row t v=>
  simp only [instB]
  split
  ·split
   ·simp only [Option.map_some,TBlk.ren]
   ·rfl
  ·rfl
 | dmap i=>
  simp only [instB]
  split
  ·split
   ·simp only [Option.map_some,TBlk.ren]
   ·rfl
  ·rfl
 | boxd t=>
  simp only [instB]
  split
  ·split
   ·simp only [Option.map_some,TBlk.ren,trenL_map,List.map_map]
    congr 4
   ·rfl
  ·rfl
 | gone=>rfl
theorem instBs_ren (ρ:Nat→Nat):∀ (bs:List Bp) (j:Nat) (l:List Dyn),instBs ρ bs j l=(instBs id bs j l).map fun x=>(x.1.map fun p=>(ρ p.1,p.2.ren ρ),x.2)
 | [],j,l=>by simp only [instBs,Option.map_some,List.map_nil]
 | b::r,j,l=>by
  by_cases hg:b=.gone
  ·subst hg
   simp only [instBs,instBs_ren ρ r]
  ·rw [instBs_cons hg,instBs_cons hg,instB_ren ρ b l]
   cases instB id b l with
   | none=>rfl
   | some x=>
    simp only [Option.map_some,instBs_ren ρ r]
    cases instBs id r (j+1) x.2 with
    | none=>rfl
    | some y=>simp only [Option.map_some,List.map_cons,id]
theorem instBs_keys {ρ:Nat→Nat}:∀ {bs:List Bp} {j0:Nat} {l l':List Dyn} {q:List (Nat×TBlk)},instBs ρ bs j0 l=some (q,l')→∀ p,p∈q→∃ i,i < bs.length∧p.1=ρ (j0+i)
 | [],j0,l,l',q,h,p,hp=>by simp only [instBs] at h;cases h;cases hp
 | b::r,j0,l,l',q,h,p,hp=>by
  have up:(∃ i,i < r.length∧p.1=ρ (j0+1+i))→∃ i,i < (b::r).length∧p.1=ρ (j0+i):=fun ⟨i,h1,h2⟩=>
   ⟨i+1,by simp;omega,by rw [h2];congr 1;omega⟩
  by_cases hg:b=.gone
  ·subst hg
   simp only [instBs] at h
   exact up (instBs_keys h p hp)
  ·rw [instBs_cons hg] at h
   split at h
   ·split at h
    ·rename_i q2 l3 hr
     cases h
     rcases List.mem_cons.1 hp with e | e
     ·exact ⟨0,by simp,by rw [e];rfl⟩
     ·exact up (instBs_keys hr p e)
    ·cases h
   ·cases h
theorem lookH_ren {ρ:Nat→Nat} {m:Nat} (hi:∀ j j',j < m→j' < m→ρ j=ρ j'→j=j'):∀ {q:List (Nat×TBlk)},(∀ p,p∈q→p.1 < m)→∀ {j:Nat},j < m→lookH (q.map fun p=>(ρ p.1,p.2.ren ρ)) (ρ j)=(lookH q j).map (TBlk.ren ρ)
 | [],_,j,_=>rfl
 | (i,b)::q,hq,j,hj=>by
  simp only [List.map_cons,lookH]
  have h1:i < m:=hq (i,b) (by simp)
  cases e:Nat.beq j i with
  | true=>simp only [Nat.eq_of_beq_eq_true e,Nat.beq_refl,Option.map_some]
  | false=>
   have:¬ ρ j=ρ i:=fun h=>Nat.ne_of_beq_eq_false e (hi j i hj h1 h)
   simp only [nbeq_ne this]
   exact lookH_ren hi (fun p hp=>hq p (by simp [hp])) hj
theorem rowAV_ren (ρ:Nat→Nat) (v:Bool) (j n e:Nat):(rowAV v j n e).ren ρ=rowAV v (ρ j) n e:=by
 cases v<;>simp [rowAV,AV.ren]
theorem dav_ren (ρ:Nat→Nat) (y:Dyn):(dav y).ren ρ=dav y:=by
 have leaf:∀ z:Dyn,z.t.leaf=true→(dav z).ren ρ=dav z:=by
  intro z hz
  obtain ⟨t,x⟩:=z
  cases t with
  | st=>cases hz
  | _=>simp [dav,AV.ren,slG]
 obtain ⟨t,x⟩:=y
 cases t with
 | st i=>
  simp only [dav,AV.ren,renL_map]
  have e:cc i x=(get i x).map dav:=(get_cc i x).symm
  rw [e,List.map_map]
  exact congrArg AV.agg (List.map_congr_left fun z hz=>leaf z (tget_leaf (.st i) x z hz))
 | _=>exact leaf ⟨_,x⟩ rfl
mutual
def TA.has (H:List (Nat×TBlk)):TA→Bool
 | .ow id=>(shp (lookH H id)).isSome
 | .rp id _ _=>(shp (lookH H id)).isSome
 | .agg cs=>hasL H cs
 | .tup cs=>hasL H cs
 | .ifc _ a=>a.has H
 | .fn _ xs ys=>hasL H xs&&hasL H ys
 | _=>true
def hasL (H:List (Nat×TBlk)):List TA→Bool
 | []=>true
 | a::r=>a.has H&&hasL H r
end
def TBlk.has (H:List (Nat×TBlk)):TBlk→Bool
 | .box l=>hasL H l
 | .hrow _ _ _ _ _=>false
 | _=>true
mutual
theorem av_ren {ρ:Nat→Nat} {m:Nat} {q H0 H:List (Nat×TBlk)} (h:∀ j,j < m→∀ x,shp (lookH q (ρ j))=some x→shp (lookH H0 j)=some x∧shp (lookH H (ρ j))=some x):∀ (a:TA),a.wf H0 m→(a.ren ρ).has q=true→(a.ren ρ).av H=(a.av H0).ren ρ
 | .ow j,hw,hh=>by
  simp only [TA.wf] at hw
  simp only [TA.ren,TA.has] at hh ⊢
  obtain ⟨⟨t,v,n⟩,hx⟩:=Option.isSome_iff_exists.1 hh
  obtain ⟨h1,h2⟩:=h j hw _ hx
  simp only [TA.av,h1,h2,rowAV_ren]
 | .rp j i off,hw,hh=>by
  simp only [TA.wf] at hw
  simp only [TA.ren,TA.has] at hh ⊢
  obtain ⟨⟨t,v,n⟩,hx⟩:=Option.isSome_iff_exists.1 hh
  obtain ⟨h1,h2⟩:=h j hw.1 _ hx
  simp only [TA.av,h1,h2,AV.ren]
 | .agg cs,hw,hh=>by
  simp only [TA.wf] at hw
  simp only [TA.ren,TA.has] at hh ⊢
  simp only [TA.av,AV.ren,avL_ren h cs hw hh]
 | .tup cs,hw,hh=>by
  simp only [TA.wf] at hw
  simp only [TA.ren,TA.has] at hh ⊢
  simp only [TA.av,AV.ren,avL_ren h cs hw hh]
 | .ifc t a,hw,hh=>by
  simp only [TA.wf] at hw
  simp only [TA.ren,TA.has] at hh ⊢
  simp only [TA.av,AV.ren,av_ren h a hw hh]
 | .fn f xs ys,hw,hh=>by
  simp only [TA.wf] at hw
  simp only [TA.ren,TA.has,Bool.and_eq_true] at hh ⊢
  simp only [TA.av,AV.ren,avL_ren h xs hw.1 hh.1,avL_ren h ys hw.2 hh.2]
 | .top,_,_=>by simp only [TA.ren,TA.av,AV.ren]
 | .lit v,_,_=>by simp only [TA.ren,TA.av,AV.ren]
 | .d x,_,_=>by simp only [TA.ren,TA.av,dav_ren]
 | .nils,_,_=>by simp only [TA.ren,TA.av,AV.ren]
 | .fp t x off,_,_=>by simp only [TA.ren,TA.av,AV.ren]
 | .bs id n esz,_,_=>by simp only [TA.ren,TA.av,AV.ren]
 | .bp id off,_,_=>by simp only [TA.ren,TA.av,AV.ren]
 | .mp id,_,_=>by simp only [TA.ren,TA.av,AV.ren]
theorem avL_ren {ρ:Nat→Nat} {m:Nat} {q H0 H:List (Nat×TBlk)} (h:∀ j,j < m→∀ x,shp (lookH q (ρ j))=some x→shp (lookH H0 j)=some x∧shp (lookH H (ρ j))=some x):∀ (l:List TA),wfL H0 m l→hasL q (trenL ρ l)=true→avL H (trenL ρ l)=renL ρ (avL H0 l)
 | [],_,_=>by simp only [avL,renL,trenL]
 | a::r,hw,hh=>by
  simp only [wfL] at hw
  simp only [trenL,hasL,Bool.and_eq_true] at hh
  simp only [avL,renL,trenL,av_ren h a hw.1 hh.1,avL_ren h r hw.2 hh.2]
end
theorem blk_ren {ρ:Nat→Nat} {m:Nat} {q H0 H:List (Nat×TBlk)} (h:∀ j,j < m→∀ x,shp (lookH q (ρ j))=some x→shp (lookH H0 j)=some x∧shp (lookH H (ρ j))=some x) (b:TBlk) (hw:wfL H0 m b.refs) (hh:(b.ren ρ).has q=true):(b.ren ρ).blk H=(b.blk H0).ren ρ:=by
 cases b with
 | row t v xs=>rfl
 | hid x=>simp [TBlk.ren,TBlk.blk,Blk.ren,renL]
 | dmap i l=>rfl
 | fmap t l=>rfl
 | box l=>
  simp only [TBlk.ren,TBlk.has] at hh
  simp only [TBlk.blk,TBlk.ren,Blk.ren,avL_ren h l hw hh]
 | hrow=>simp only [TBlk.ren,TBlk.has] at hh;cases hh
def sameL (H q:List (Nat×TBlk)):List Nat→Option R→Option R
 | [],x=>x
 | id::r,x=>match lookH q id with
  | none=>sameL H q r x
  | some b=>match shp (some b),shp (lookH H id) with
   | none,none=>sameL H q r x
   | some (t,v,n),some (u,v',m)=>if t=u then (match v,v' with
    | .vs,.vs=>req (leq n m) (sameL H q r x)
    | .ms,.ms=>req (leq n m) (sameL H q r x)
    | .dv,.dv=>req (leq n m) (sameL H q r x)
    | .dm,.dm=>req (leq n m) (sameL H q r x)
    | _,_=>none) else none
   | _,_=>none
theorem sameL_ok {H q:List (Nat×TBlk)} {x:Option R} {z:R}:∀ {l:List Nat},sameL H q l x=some z→x=some z∧∀ id,id∈l→∀ b,lookH q id=some b→shp (some b)=shp (lookH H id)
 | [],h=>⟨h,fun id hid=>by cases hid⟩
 | i::r,h=>by
  simp only [sameL] at h
  have fin:sameL H q r x=some z→(∀ b,lookH q i=some b→shp (some b)=shp (lookH H i))→x=some z∧∀ id,id∈i::r→∀ b,lookH q id=some b→shp (some b)=shp (lookH H id):=by
   intro hs hi
   obtain ⟨k1,k2⟩:=sameL_ok hs
   refine ⟨k1,fun id hid b hb=>?_⟩
   rcases List.mem_cons.1 hid with e | e
   ·subst e;exact hi b hb
   ·exact k2 id e b hb
  split at h
  ·rename_i hq
   exact fin h fun b hb=>by rw [hq] at hb;cases hb
  ·rename_i b hq
   split at h
   ·rename_i h1 h2
    exact fin h fun b' hb=>by rw [hq] at hb;cases hb;rw [h1,h2]
   ·rename_i t v n u v' m h1 h2
    split at h
    ·rename_i e
     subst e
     cases v<;>cases v'<;>first | (cases h;done) | skip
     all_goals
      obtain ⟨h3,h4⟩:=req_some h
      exact fin h4 fun b' hb=>by rw [hq] at hb;cases hb;rw [h1,h2,Nat.eq_of_beq_eq_true h3]
    ·cases h
   ·cases h
def idsOf (e:Xs) (n:Nat):List Nat:=(List.range n).map fun j=>(asgOf e.asc j).getD 0
def evAfter (s:TSt) (ids:List Nat) (a:Alt) (ds:List Dyn) (κ κp:TRes→Option R):Option R:=
 if Nat.ble ids.length a.bps.length&&(a.res.lt a.bps.length&&a.bps.all (Bp.lt a.bps.length)) then (match instP (rho ids s.N) a.res ds with
  | some (v,r)=>match instBs (rho ids s.N) a.bps 0 r with
   | some (q,[])=>if v.has q&&q.all fun p=>p.2.has q then sameL s.H q ids (match a.pan with
    | true=>κp ⟨v,(List.range a.bps.length).map fun j=>(rho ids s.N j,lookH q (rho ids s.N j)),a.bps.length-ids.length⟩
    | false=>κ ⟨v,(List.range a.bps.length).map fun j=>(rho ids s.N j,lookH q (rho ids s.N j)),a.bps.length-ids.length⟩) else none
   | _=>none
  | none=>none) else none
def noFz:List Nat→Bool
 | []=>true
 | _=>false
def isV:Option TBlk→Bool
 | some b=>b.vis
 | none=>false
def evCall (c:CT) (s:TSt) (as:List TA) (κ κp:TRes→Option R):Option R:=
 match extL s.H c.args as ⟨[],[]⟩ with
 | some (e1,d1)=>match extBs s.H c.bps 0 e1 with
  | some (e2,d2)=>if e2.good c.bps.length s.N&&((idsOf e2 c.bps.length).all (fun id=>isV (lookH s.H id))&&(noFz e2.fz||c.outs.all fun a=>a.res.flat&&a.bps.all Bp.flat)) then (match castTup (tysL c.args++tysB c.bps) (d1++d2) with
   | some x=>(appT _ c.F x).bind fun o=>caseO c.outs o fun a ds=>evAfter s (idsOf e2 c.bps.length) a ds κ κp
   | none=>none) else none
  | none=>none
 | none=>none
def CallOp (P:Program) (o:Oper) (s:TSt) (f:FuncId) (as:List TA):Prop:=
 (∀ (xs:Array Value) (w:World),(callFunc f xs).run P w=.ok (.enter f xs) w)→∀ {w F O μ K ft a},SR w F O μ K s.st ft a→∃ cargs:List Value,(execOp a.eval o).run P w=.ok (.enter f ⟨cargs⟩) w∧VRs w F μ K (avL s.H as) cargs
def EvP (P:Program) (o:Oper) (s:TSt) (κ:TRes→Option R) (x:R):Prop:=∃ r,TPan P o s r∧TGood s r∧κ r=some x
theorem caseO_mem {X:Type}:∀ (l:List Alt) (o:OutT l),(outOf l o).1∈l
 | [],o=>o.elim
 | [a],x=>by simp [outOf,caseO]
 | a::b::r,x=>by
  cases x with
  | inl y=>simp [outOf,caseO,sumC]
  | inr z=>exact List.mem_cons_of_mem _ (caseO_mem (X:=X) (b::r) z)
end Go.Proofs.Ytljfmaaadnoggaa.Abs
