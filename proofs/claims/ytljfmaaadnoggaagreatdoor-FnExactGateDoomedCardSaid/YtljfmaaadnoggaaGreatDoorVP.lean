/- Calls in the evaluator. No condition. -/
import Derived.Test.YtljfmaaadnoggaaGreatDoorVO
namespace Go.Proofs.YtljfmaaadnoggaaGreatDoor.cX
open Go Go.RowKit
variable {w w' xW:World} {F F' Cq O O' wx:Nat→Prop} {μ bC kZ:Nat→Nat} {K K' Gg:Nat→Prop} {ft b8:Nat→Nat→Prop} {P:Program} {R:Type}
mutual
def TA.dD (ρ:Nat→Nat):TA→TA
 | .agg cs=>.agg (wD ρ cs)
 | .ph cs=>.ph (wD ρ cs)
 | .ow id=>.ow (ρ id)
 | .bs id n e=>.bs (ρ id) n e
 | .bp id off=>.bp (ρ id) off
 | .rp id i off=>.rp (ρ id) i off
 | .mp id=>.mp (ρ id)
 | .pe t a=>.pe t (a.dD ρ)
 | .fn f xs ys=>.fn f (wD ρ xs) (wD ρ ys)
 | a=>a
def wD (ρ:Nat→Nat):List TA→List TA
 | []=>[]
 | a::r=>a.dD ρ::wD ρ r
end
theorem MK (ρ:Nat→Nat):∀ l:List TA,wD ρ l=l.map (TA.dD ρ)
 | []=>by simp [wD]
 | a::r=>by simp [wD,MK ρ r]
def aY.dD (ρ:Nat→Nat):aY→aY
 | .box l=>.box (wD ρ l)
 | .da t v xs i os=>.da t v xs i (os.map fun p=>(p.1,ρ p.2))
 | b=>b
theorem acK (ρ:Nat→Nat) (y:cI):(ET y).dD ρ=ET y:=by
 obtain ⟨t,x⟩:=y
 cases t with
 | st i=>
  simp only [ET,TA.dD,MK,List.map_map]
  exact congrArg TA.agg (List.map_congr_left fun z _=>by simp only [Function.comp,TA.dD])
 | _=>simp only [ET,TA.dD]
mutual
theorem instP_ren (ρ:Nat→Nat):∀ (p:wR) (l:List cI),instP ρ p l=(instP id p l).map fun x=>(x.1.dD ρ,x.2)
 | .any,l=>by simp only [instP,Option.map_some,TA.dD]
 | .d t,l=>by
  simp only [instP]
  cases l with
  | nil=>rfl
  | cons y l=>
   simp only
   split
   ·simp only [Option.map_some,acK]
   ·rfl
 | .agg ps,l=>by
  simp only [instP,instL_ren ρ ps l]
  cases instL id ps l with
  | none=>rfl
  | some x=>simp only [Option.map_some,TA.dD]
 | .ph ps,l=>by
  simp only [instP,instL_ren ρ ps l]
  cases instL id ps l with
  | none=>rfl
  | some x=>simp only [Option.map_some,TA.dD]
 | .ow j,l=>by simp only [instP,Option.map_some,TA.dD,id]
 | .bs j n bB,l=>by simp only [instP,Option.map_some,TA.dD,id]
 | .bp j off,l=>by simp only [instP,Option.map_some,TA.dD,id]
 | .mp j,l=>by simp only [instP,Option.map_some,TA.dD,id]
 | .fp t off,l=>by
  simp only [instP]
  cases l with
  | nil=>rfl
  | cons y l=>
   simp only
   split
   ·simp only [Option.map_some,TA.dD]
   ·rfl
 | .pe t p,l=>by
  simp only [instP,instP_ren ρ p l]
  cases instP id p l with
  | none=>rfl
  | some x=>simp only [Option.map_some,TA.dD]
 | .fn f xs ys,l=>by
  simp only [instP,instL_ren ρ xs l]
  cases instL id xs l with
  | none=>rfl
  | some x=>
   simp only [Option.map_some,instL_ren ρ ys x.2]
   cases instL id ys x.2 with
   | none=>rfl
   | some y=>simp only [Option.map_some,TA.dD]
 | .QV,l=>by simp only [instP,Option.map_some,TA.dD]
 | .kb b,l=>by simp only [instP,Option.map_some,TA.dD]
theorem instL_ren (ρ:Nat→Nat):∀ (ps:List wR) (l:List cI),instL ρ ps l=(instL id ps l).map fun x=>(wD ρ x.1,x.2)
 | [],l=>by simp only [instL,Option.map_some,wD]
 | p::ps,l=>by
  simp only [instL,instP_ren ρ p l]
  cases instP id p l with
  | none=>rfl
  | some x=>
   simp only [Option.map_some,instL_ren ρ ps x.2]
   cases instL id ps x.2 with
   | none=>rfl
   | some y=>simp only [Option.map_some,wD]
end
theorem instB_ren (ρ:Nat→Nat) (b:Bp) (l:List cI):instB ρ b l=(instB id b l).map fun x=>(x.1.dD ρ,x.2):=by
 cases b with
 | box ps=>
  simp only [instB,instL_ren ρ ps l]
  cases instL id ps l with
  | none=>rfl
  | some x=>simp only [Option.map_some,aY.dD]
 | row t v=>
  simp only [instB]
  split
  ·split
   ·simp only [Option.map_some,aY.dD]
   ·rfl
  ·rfl
 | dmap i=>
  simp only [instB]
  split
  ·split
   ·simp only [Option.map_some,aY.dD]
   ·rfl
  ·rfl
 | b_ t=>
  simp only [instB]
  split
  ·split
   ·simp only [Option.map_some,aY.dD,MK,List.map_map]
    congr 4
   ·rfl
  ·rfl
 | gone=>rfl
theorem instBs_ren (ρ:Nat→Nat):∀ (bs:List Bp) (j:Nat) (l:List cI),instBs ρ bs j l=(instBs id bs j l).map fun x=>(x.1.map fun p=>(ρ p.1,p.2.dD ρ),x.2)
 | [],j,l=>by simp only [instBs,Option.map_some,List.map_nil]
 | b::r,j,l=>by
  by_cases hg:b=.gone
  ·subst hg
   simp only [instBs,instBs_ren ρ r]
  ·rw [instBs_cons hg,instBs_cons hg,instB_ren ρ b l]
   cases instB id b l with
   | none=>rfl
   | some x=>
    simp only [Option.map_some,instBs_ren ρ r]
    cases instBs id r (j+1) x.2 with
    | none=>rfl
    | some y=>simp only [Option.map_some,List.map_cons,id]
theorem instBs_keys {ρ:Nat→Nat}:∀ {bs:List Bp} {j0:Nat} {l l':List cI} {q:List (Nat×aY)},instBs ρ bs j0 l=some (q,l')→∀ p,p∈q→∃ i,i < bs.length∧p.1=ρ (j0+i)
 | [],j0,l,l',q,h,p,hp=>by simp only [instBs] at h;cases h;cases hp
 | b::r,j0,l,l',q,h,p,hp=>by
  have up:(∃ i,i < r.length∧p.1=ρ (j0+1+i))→∃ i,i < (b::r).length∧p.1=ρ (j0+i):=fun ⟨i,h1,h2⟩=>
   ⟨i+1,by simp;omega,by rw [h2];congr 1;omega⟩
  by_cases hg:b=.gone
  ·subst hg
   simp only [instBs] at h
   exact up (instBs_keys h p hp)
  ·rw [instBs_cons hg] at h
   split at h
   ·split at h
    ·rename_i q2 l3 hr
     cases h
     rcases List.mem_cons.1 hp with e | e
     ·exact ⟨0,by simp,by rw [e];rfl⟩
     ·exact up (instBs_keys hr p e)
    ·cases h
   ·cases h
theorem Su {ρ:Nat→Nat} {m:Nat} (hi:∀ j j',j < m→j' < m→ρ j=ρ j'→j=j'):∀ {q:List (Nat×aY)},(∀ p,p∈q→p.1 < m)→∀ {j:Nat},j < m→aR (q.map fun p=>(ρ p.1,p.2.dD ρ)) (ρ j)=(aR q j).map (aY.dD ρ)
 | [],_,j,_=>rfl
 | (i,b)::q,hq,j,hj=>by
  simp only [List.map_cons,aR]
  have h1:i < m:=hq (i,b) (by simp)
  cases e:Nat.beq j i with
  | true=>simp only [Nat.eq_of_beq_eq_true e,Nat.beq_refl,Option.map_some]
  | false=>
   have:¬ ρ j=ρ i:=fun h=>Nat.ne_of_beq_eq_false e (hi j i hj h1 h)
   simp only [cl this]
   exact Su hi (fun p hp=>hq p (by simp [hp])) hj
theorem aaV (ρ:Nat→Nat) (v:Bool) (j n e:Nat):(dr v j n e).dD ρ=dr v (ρ j) n e:=by
 cases v<;>simp [dr,AV.dD]
theorem aee (ρ:Nat→Nat) (y:cI):(cN y).dD ρ=cN y:=by
 have leaf:∀ z:cI,z.t.leaf=true→(cN z).dD ρ=cN z:=by
  intro z hz
  obtain ⟨t,x⟩:=z
  cases t with
  | st=>cases hz
  | _=>simp [cN,AV.dD,FG]
 obtain ⟨t,x⟩:=y
 cases t with
 | st i=>
  simp only [cN,AV.dD,K9]
  have e:cc i x=(get i x).map cN:=(L3 i x).symm
  rw [e,List.map_map]
  exact congrArg AV.agg (List.map_congr_left fun z hz=>leaf z (Cu (.st i) x z hz))
 | _=>exact leaf ⟨_,x⟩ rfl
mutual
def TA.has (H:List (Nat×aY)):TA→Bool
 | .ow id=>(fM (aR H id)).isSome
 | .rp id _ _=>(fM (aR H id)).isSome
 | .agg cs=>Wh H cs
 | .ph cs=>Wh H cs
 | .pe _ a=>a.has H
 | .fn _ xs ys=>Wh H xs&&Wh H ys
 | _=>true
def Wh (H:List (Nat×aY)):List TA→Bool
 | []=>true
 | a::r=>a.has H&&Wh H r
end
def aY.has (H:List (Nat×aY)):aY→Bool
 | .box l=>Wh H l
 | .da _ _ _ _ _=>false
 | _=>true
mutual
theorem Ya {ρ:Nat→Nat} {m:Nat} {q H0 H:List (Nat×aY)} (h:∀ j,j < m→∀ x,fM (aR q (ρ j))=some x→fM (aR H0 j)=some x∧fM (aR H (ρ j))=some x):∀ (a:TA),a.wf H0 m→(a.dD ρ).has q=true→(a.dD ρ).av H=(a.av H0).dD ρ
 | .ow j,hw,hh=>by
  simp only [TA.wf] at hw
  simp only [TA.dD,TA.has] at hh ⊢
  obtain ⟨⟨t,v,n⟩,hx⟩:=Option.isSome_iff_exists.1 hh
  obtain ⟨h1,h2⟩:=h j hw _ hx
  simp only [TA.av,h1,h2,aaV]
 | .rp j i off,hw,hh=>by
  simp only [TA.wf] at hw
  simp only [TA.dD,TA.has] at hh ⊢
  obtain ⟨⟨t,v,n⟩,hx⟩:=Option.isSome_iff_exists.1 hh
  obtain ⟨h1,h2⟩:=h j hw.1 _ hx
  simp only [TA.av,h1,h2,AV.dD]
 | .agg cs,hw,hh=>by
  simp only [TA.wf] at hw
  simp only [TA.dD,TA.has] at hh ⊢
  simp only [TA.av,AV.dD,Ha h cs hw hh]
 | .ph cs,hw,hh=>by
  simp only [TA.wf] at hw
  simp only [TA.dD,TA.has] at hh ⊢
  simp only [TA.av,AV.dD,Ha h cs hw hh]
 | .pe t a,hw,hh=>by
  simp only [TA.wf] at hw
  simp only [TA.dD,TA.has] at hh ⊢
  simp only [TA.av,AV.dD,Ya h a hw hh]
 | .fn f xs ys,hw,hh=>by
  simp only [TA.wf] at hw
  simp only [TA.dD,TA.has,Bool.and_eq_true] at hh ⊢
  simp only [TA.av,AV.dD,Ha h xs hw.1 hh.1,Ha h ys hw.2 hh.2]
 | .top,_,_=>by simp only [TA.dD,TA.av,AV.dD]
 | .lit v,_,_=>by simp only [TA.dD,TA.av,AV.dD]
 | .d x,_,_=>by simp only [TA.dD,TA.av,aee]
 | .ff,_,_=>by simp only [TA.dD,TA.av,AV.dD]
 | .fp t x off,_,_=>by simp only [TA.dD,TA.av,AV.dD]
 | .bs id n bB,_,_=>by simp only [TA.dD,TA.av,AV.dD]
 | .bp id off,_,_=>by simp only [TA.dD,TA.av,AV.dD]
 | .mp id,_,_=>by simp only [TA.dD,TA.av,AV.dD]
theorem Ha {ρ:Nat→Nat} {m:Nat} {q H0 H:List (Nat×aY)} (h:∀ j,j < m→∀ x,fM (aR q (ρ j))=some x→fM (aR H0 j)=some x∧fM (aR H (ρ j))=some x):∀ (l:List TA),iw H0 m l→Wh q (wD ρ l)=true→dU H (wD ρ l)=JF ρ (dU H0 l)
 | [],_,_=>by simp only [dU,JF,wD]
 | a::r,hw,hh=>by
  simp only [iw] at hw
  simp only [wD,Wh,Bool.and_eq_true] at hh
  simp only [dU,JF,wD,Ya h a hw.1 hh.1,Ha h r hw.2 hh.2]
end
theorem aef {ρ:Nat→Nat} {m:Nat} {q H0 H:List (Nat×aY)} (h:∀ j,j < m→∀ x,fM (aR q (ρ j))=some x→fM (aR H0 j)=some x∧fM (aR H (ρ j))=some x) (b:aY) (hw:iw H0 m b.refs) (hh:(b.dD ρ).has q=true):(b.dD ρ).dw H=(b.dw H0).dD ρ:=by
 cases b with
 | row t v xs=>rfl
 | cb x=>simp [aY.dD,aY.dw,kq.dD,JF]
 | dmap i l=>rfl
 | VT t l=>rfl
 | box l=>
  simp only [aY.dD,aY.has] at hh
  simp only [aY.dw,aY.dD,kq.dD,Ha h l hw hh]
 | da=>simp only [aY.dD,aY.has] at hh;cases hh
def IF (H q:List (Nat×aY)):List Nat→Option R→Option R
 | [],x=>x
 | id::r,x=>match aR q id with
  | none=>IF H q r x
  | some b=>match fM (some b),fM (aR H id) with
   | none,none=>IF H q r x
   | some (t,v,n),some (u,v',m)=>if t=u then (match v,v' with
    | .vs,.vs=>bE (leq n m) (IF H q r x)
    | .ms,.ms=>bE (leq n m) (IF H q r x)
    | .dv,.dv=>bE (leq n m) (IF H q r x)
    | .dm,.dm=>bE (leq n m) (IF H q r x)
    | _,_=>none) else none
   | _,_=>none
theorem Wi {H q:List (Nat×aY)} {x:Option R} {z:R}:∀ {l:List Nat},IF H q l x=some z→x=some z∧∀ id,id∈l→∀ b,aR q id=some b→fM (some b)=fM (aR H id)
 | [],h=>⟨h,fun id cb=>by cases cb⟩
 | i::r,h=>by
  simp only [IF] at h
  have fin:IF H q r x=some z→(∀ b,aR q i=some b→fM (some b)=fM (aR H i))→x=some z∧∀ id,id∈i::r→∀ b,aR q id=some b→fM (some b)=fM (aR H id):=by
   intro hs hi
   obtain ⟨k1,k2⟩:=Wi hs
   refine ⟨k1,fun id cb b hb=>?_⟩
   rcases List.mem_cons.1 cb with e | e
   ·subst e;exact hi b hb
   ·exact k2 id e b hb
  split at h
  ·rename_i hq
   exact fin h fun b hb=>by rw [hq] at hb;cases hb
  ·rename_i b hq
   split at h
   ·rename_i h1 h2
    exact fin h fun b' hb=>by rw [hq] at hb;cases hb;rw [h1,h2]
   ·rename_i t v n u v' m h1 h2
    split at h
    ·rename_i e
     subst e
     cases v<;>cases v'<;>first | (cases h;done) | skip
     all_goals
      obtain ⟨h3,h4⟩:=gH h
      exact fin h4 fun b' hb=>by rw [hq] at hb;cases hb;rw [h1,h2,Nat.eq_of_beq_eq_true h3]
    ·cases h
   ·cases h
def uj (e:Xs) (n:Nat):List Nat:=(List.range n).map fun j=>(dR e.wB j).getD 0
def Zr (s:bQ) (ids:List Nat) (a:Alt) (ds:List cI) (κ BA:cE→Option R):Option R:=
 if Nat.ble ids.length a.c6.length&&(a.res.lt a.c6.length&&a.c6.all (Bp.lt a.c6.length)) then (match instP (oS ids s.N) a.res ds with
  | some (v,r)=>match instBs (oS ids s.N) a.c6 0 r with
   | some (q,[])=>if v.has q&&q.all fun p=>p.2.has q then IF s.H q ids (match a.MA with
    | true=>BA ⟨v,(List.range a.c6.length).map fun j=>(oS ids s.N j,aR q (oS ids s.N j)),a.c6.length-ids.length⟩
    | false=>κ ⟨v,(List.range a.c6.length).map fun j=>(oS ids s.N j,aR q (oS ids s.N j)),a.c6.length-ids.length⟩) else none
   | _=>none
  | none=>none) else none
def ajl:List Nat→Bool
 | []=>true
 | _=>false
def isV:Option aY→Bool
 | some b=>b.WT
 | none=>false
def Yb (c:CT) (s:bQ) (as:List TA) (κ BA:cE→Option R):Option R:=
 match Gy s.H c.args as ⟨[],[]⟩ with
 | some (e1,d1)=>match Gz s.H c.c6 0 e1 with
  | some (e2,d2)=>if e2.Bt c.c6.length s.N&&((uj e2 c.c6.length).all (fun id=>isV (aR s.H id))&&(ajl e2.fz||c.outs.all fun a=>a.res.flat&&a.c6.all Bp.flat)) then (match oN (ES c.args++Uh c.c6) (d1++d2) with
   | some x=>(zA _ c.F x).bind fun o=>St c.outs o fun a ds=>Zr s (uj e2 c.c6.length) a ds κ BA
   | none=>none) else none
  | none=>none
 | none=>none
def Uj (P:Program) (o:Oper) (s:bQ) (f:FuncId) (as:List TA):Prop:=
 (∀ (xs:Array Value) (w:World),(callFunc f xs).run P w=.ok (.enter f xs) w)→∀ {w F O μ K ft a},SR w F O μ K s.st ft a→∃ td:List Value,(execOp a.eval o).run P w=.ok (.enter f ⟨td⟩) w∧iR w F μ K (dU s.H as) td
def EvP (P:Program) (o:Oper) (s:bQ) (κ:cE→Option R) (x:R):Prop:=∃ r,ahL P o s r∧PT s r∧κ r=some x
theorem ML {X:Type}:∀ (l:List Alt) (o:MJ l),(oc l o).1∈l
 | [],o=>o.elim
 | [a],x=>by simp [oc,St]
 | a::b::r,x=>by
  cases x with
  | inl y=>simp [oc,St,zd]
  | inr z=>exact List.mem_cons_of_mem _ (ML (X:=X) (b::r) z)
end Go.Proofs.YtljfmaaadnoggaaGreatDoor.cX
