/- Calls in the evaluator. No condition. -/
import Derived.Test.YtjkbbdldmdajkaaGreatDoorVO
namespace Go.Proofs.YtjkbbdldmdajkaaGreatDoor.c_
open Go Go.RowKit
variable {w w' xk:World} {F F' Bs O O' v8:Nat→Prop} {μ bC lG:Nat→Nat} {K K' EF:Nat→Prop} {ft bZ:Nat→Nat→Prop} {P:Program} {R:Type}
mutual
def TA.dI (ρ:Nat→Nat):TA→TA
 | .agg cs=>.agg (ud ρ cs)
 | .rb cs off=>.rb (ud ρ cs) off
 | .nP cs=>.nP (ud ρ cs)
 | .ow id=>.ow (ρ id)
 | .bs id n e=>.bs (ρ id) n e
 | .bp id off=>.bp (ρ id) off
 | .rp id i off=>.rp (ρ id) i off
 | .mp id=>.mp (ρ id)
 | .pK t a=>.pK t (a.dI ρ)
 | .fn f xs ys=>.fn f (ud ρ xs) (ud ρ ys)
 | a=>a
def ud (ρ:Nat→Nat):List TA→List TA
 | []=>[]
 | a::r=>a.dI ρ::ud ρ r
end
theorem KI (ρ:Nat→Nat):∀ l:List TA,ud ρ l=l.map (TA.dI ρ)
 | []=>by simp [ud]
 | a::r=>by simp [ud,KI ρ r]
def aY.dI (ρ:Nat→Nat):aY→aY
 | .box l=>.box (ud ρ l)
 | .dq t v xs i os=>.dq t v xs i (os.map fun p=>(p.1,ρ p.2))
 | b=>b
theorem aaN (ρ:Nat→Nat) (y:cN):(DJ y).dI ρ=DJ y:=by
 obtain ⟨t,x⟩:=y;cases t with
 | st i=>
  simp only [DJ,TA.dI,KI,List.map_map];exact congrArg TA.agg (List.map_congr_left fun z _=>by simp only [Function.comp,TA.dI])
 | _=>simp only [DJ,TA.dI]
mutual
theorem instP_ren (ρ:Nat→Nat):∀ (p:vm) (l:List cN),instP ρ p l=(instP id p l).map fun x=>(x.1.dI ρ,x.2)
 | .any,l=>by simp only [instP,Option.map_some,TA.dI]
 | .d t,l=>by
  simp only [instP];cases l with
  | nil=>rfl
  | cons y l=>
   simp only;split
   ·simp only [Option.map_some,aaN]
   ·rfl
 | .agg ps,l=>by
  simp only [instP,instL_ren ρ ps l];cases instL id ps l with
  | none=>rfl
  | some x=>simp only [Option.map_some,TA.dI]
 | .rb ps off,l=>by
  simp only [instP,instL_ren ρ ps l];cases instL id ps l with
  | none=>rfl
  | some x=>simp only [Option.map_some,TA.dI]
 | .nP ps,l=>by
  simp only [instP,instL_ren ρ ps l];cases instL id ps l with
  | none=>rfl
  | some x=>simp only [Option.map_some,TA.dI]
 | .ow j,l=>by simp only [instP,Option.map_some,TA.dI,id]
 | .bs j n bA,l=>by simp only [instP,Option.map_some,TA.dI,id]
 | .bp j off,l=>by simp only [instP,Option.map_some,TA.dI,id]
 | .mp j,l=>by simp only [instP,Option.map_some,TA.dI,id]
 | .fp t off,l=>by
  simp only [instP];cases l with
  | nil=>rfl
  | cons y l=>
   simp only;split
   ·simp only [Option.map_some,TA.dI]
   ·rfl
 | .pK t p,l=>by
  simp only [instP,instP_ren ρ p l];cases instP id p l with
  | none=>rfl
  | some x=>simp only [Option.map_some,TA.dI]
 | .fn f xs ys,l=>by
  simp only [instP,instL_ren ρ xs l];cases instL id xs l with
  | none=>rfl
  | some x=>
   simp only [Option.map_some,instL_ren ρ ys x.2];cases instL id ys x.2 with
   | none=>rfl
   | some y=>simp only [Option.map_some,TA.dI]
 | .QH,l=>by simp only [instP,Option.map_some,TA.dI]
 | .kb b,l=>by simp only [instP,Option.map_some,TA.dI]
theorem instL_ren (ρ:Nat→Nat):∀ (ps:List vm) (l:List cN),instL ρ ps l=(instL id ps l).map fun x=>(ud ρ x.1,x.2)
 | [],l=>by simp only [instL,Option.map_some,ud]
 | p::ps,l=>by
  simp only [instL,instP_ren ρ p l];cases instP id p l with
  | none=>rfl
  | some x=>
   simp only [Option.map_some,instL_ren ρ ps x.2];cases instL id ps x.2 with
   | none=>rfl
   | some y=>simp only [Option.map_some,ud]
end
theorem instB_ren (ρ:Nat→Nat) (b:Bp) (l:List cN):instB ρ b l=(instB id b l).map fun x=>(x.1.dI ρ,x.2):=by
 cases b with
 | box ps=>
  simp only [instB,instL_ren ρ ps l];cases instL id ps l with
  | none=>rfl
  | some x=>simp only [Option.map_some,aY.dI]
 | row t v=>
  simp only [instB];split
  ·split
   ·simp only [Option.map_some,aY.dI]
   ·rfl
  ·rfl
 | dmap i=>
  simp only [instB];split
  ·split
   ·simp only [Option.map_some,aY.dI]
   ·rfl
  ·rfl
 | cQ t=>
  simp only [instB];split
  ·split
   ·simp only [Option.map_some,aY.dI,KI,List.map_map]
    congr 4
   ·rfl
  ·rfl
 | gone=>rfl
theorem instBs_ren (ρ:Nat→Nat):∀ (bs:List Bp) (j:Nat) (l:List cN),instBs ρ bs j l=(instBs id bs j l).map fun x=>(x.1.map fun p=>(ρ p.1,p.2.dI ρ),x.2)
 | [],j,l=>by simp only [instBs,Option.map_some,List.map_nil]
 | b::r,j,l=>by
  by_cases hg:b=.gone
  ·subst hg;simp only [instBs,instBs_ren ρ r]
  ·rw [instBs_cons hg,instBs_cons hg,instB_ren ρ b l];cases instB id b l with
   | none=>rfl
   | some x=>
    simp only [Option.map_some,instBs_ren ρ r];cases instBs id r (j+1) x.2 with
    | none=>rfl
    | some y=>simp only [Option.map_some,List.map_cons,id]
theorem instBs_keys {ρ:Nat→Nat}:∀ {bs:List Bp} {j0:Nat} {l l':List cN} {q:List (Nat×aY)},instBs ρ bs j0 l=some (q,l')→∀ p,p∈q→∃ i,i < bs.length∧p.1=ρ (j0+i)
 | [],j0,l,l',q,h,p,hp=>by simp only [instBs] at h;cases h;cases hp
 | b::r,j0,l,l',q,h,p,hp=>by
  have up:(∃ i,i < r.length∧p.1=ρ (j0+1+i))→∃ i,i < (b::r).length∧p.1=ρ (j0+i):=fun ⟨i,h1,h2⟩=>
   ⟨i+1,by simp;omega,by rw [h2];congr 1;omega⟩
  by_cases hg:b=.gone
  ·subst hg;simp only [instBs] at h;exact up (instBs_keys h p hp)
  ·rw [instBs_cons hg] at h;split at h
   ·split at h
    ·rename_i q2 l3 hr;cases h;rcases List.mem_cons.1 hp with e | e
     ·exact ⟨0,by simp,by rw [e];rfl⟩
     ·exact up (instBs_keys hr p e)
    ·cases h
   ·cases h
theorem Qo {ρ:Nat→Nat} {m:Nat} (hi:∀ j j',j < m→j' < m→ρ j=ρ j'→j=j'):∀ {q:List (Nat×aY)},(∀ p,p∈q→p.1 < m)→∀ {j:Nat},j < m→aT (q.map fun p=>(ρ p.1,p.2.dI ρ)) (ρ j)=(aT q j).map (aY.dI ρ)
 | [],_,j,_=>rfl
 | (i,b)::q,hq,j,hj=>by
  simp only [List.map_cons,aT];have h1:i < m:=hq (i,b) (by simp);cases e:Nat.beq j i with
  | true=>simp only [Nat.eq_of_beq_eq_true e,Nat.beq_refl,Option.map_some]
  | false=>
   have:¬ ρ j=ρ i:=fun h=>Nat.ne_of_beq_eq_false e (hi j i hj h1 h);simp only [cd this];exact Qo hi (fun p hp=>hq p (by simp [hp])) hj
theorem Ys (ρ:Nat→Nat) (v:Bool) (j n e:Nat):(du v j n e).dI ρ=du v (ρ j) n e:=by
 cases v<;>simp [du,AV.dI]
theorem acm (ρ:Nat→Nat) (y:cN):(cR y).dI ρ=cR y:=by
 have leaf:∀ z:cN,z.t.leaf=true→(cR z).dI ρ=cR z:=by
  intro z hz;obtain ⟨t,x⟩:=z;cases t with
  | st=>cases hz
  | _=>simp [cR,AV.dI,DO]
 obtain ⟨t,x⟩:=y;cases t with
 | st i=>
  simp only [cR,AV.dI,Jc];have e:cc i x=(get i x).map cR:=(J2 i x).symm;rw [e,List.map_map];exact congrArg AV.agg (List.map_congr_left fun z hz=>leaf z (Bu (.st i) x z hz))
 | _=>exact leaf ⟨_,x⟩ rfl
mutual
def TA.has (H:List (Nat×aY)):TA→Bool
 | .ow id=>(fH (aT H id)).isSome
 | .rp id _ _=>(fH (aT H id)).isSome
 | .agg cs=>R0 H cs
 | .rb cs _=>R0 H cs
 | .nP cs=>R0 H cs
 | .pK _ a=>a.has H
 | .fn _ xs ys=>R0 H xs&&R0 H ys
 | _=>true
def R0 (H:List (Nat×aY)):List TA→Bool
 | []=>true
 | a::r=>a.has H&&R0 H r
end
def aY.has (H:List (Nat×aY)):aY→Bool
 | .box l=>R0 H l
 | .dq _ _ _ _ _=>false
 | _=>true
mutual
theorem VI {ρ:Nat→Nat} {m:Nat} {q H0 H:List (Nat×aY)} (h:∀ j,j < m→∀ x,fH (aT q (ρ j))=some x→fH (aT H0 j)=some x∧fH (aT H (ρ j))=some x):∀ (a:TA),a.wf H0 m→(a.dI ρ).has q=true→(a.dI ρ).av H=(a.av H0).dI ρ
 | .ow j,hw,hh=>by
  simp only [TA.wf] at hw;simp only [TA.dI,TA.has] at hh ⊢;obtain ⟨⟨t,v,n⟩,hx⟩:=Option.isSome_iff_exists.1 hh;obtain ⟨h1,h2⟩:=h j hw _ hx;simp only [TA.av,h1,h2,Ys]
 | .rp j i off,hw,hh=>by
  simp only [TA.wf] at hw;simp only [TA.dI,TA.has] at hh ⊢;obtain ⟨⟨t,v,n⟩,hx⟩:=Option.isSome_iff_exists.1 hh;obtain ⟨h1,h2⟩:=h j hw.1 _ hx;simp only [TA.av,h1,h2,AV.dI]
 | .agg cs,hw,hh=>by
  simp only [TA.wf] at hw;simp only [TA.dI,TA.has] at hh ⊢;simp only [TA.av,AV.dI,CG h cs hw hh]
 | .rb cs off,hw,hh=>by
  simp only [TA.wf] at hw;simp only [TA.dI,TA.has] at hh ⊢;simp only [TA.av,AV.dI,CG h cs hw hh]
 | .nP cs,hw,hh=>by
  simp only [TA.wf] at hw;simp only [TA.dI,TA.has] at hh ⊢;simp only [TA.av,AV.dI,CG h cs hw hh]
 | .pK t a,hw,hh=>by
  simp only [TA.wf] at hw;simp only [TA.dI,TA.has] at hh ⊢;simp only [TA.av,AV.dI,VI h a hw hh]
 | .fn f xs ys,hw,hh=>by
  simp only [TA.wf] at hw;simp only [TA.dI,TA.has,Bool.and_eq_true] at hh ⊢;simp only [TA.av,AV.dI,CG h xs hw.1 hh.1,CG h ys hw.2 hh.2]
 | .top,_,_=>by simp only [TA.dI,TA.av,AV.dI]
 | .lit v,_,_=>by simp only [TA.dI,TA.av,AV.dI]
 | .d x,_,_=>by simp only [TA.dI,TA.av,acm]
 | .fB,_,_=>by simp only [TA.dI,TA.av,AV.dI]
 | .fp t x off,_,_=>by simp only [TA.dI,TA.av,AV.dI]
 | .bs id n bA,_,_=>by simp only [TA.dI,TA.av,AV.dI]
 | .bp id off,_,_=>by simp only [TA.dI,TA.av,AV.dI]
 | .mp id,_,_=>by simp only [TA.dI,TA.av,AV.dI]
theorem CG {ρ:Nat→Nat} {m:Nat} {q H0 H:List (Nat×aY)} (h:∀ j,j < m→∀ x,fH (aT q (ρ j))=some x→fH (aT H0 j)=some x∧fH (aT H (ρ j))=some x):∀ (l:List TA),im H0 m l→R0 q (ud ρ l)=true→dD H (ud ρ l)=Gp ρ (dD H0 l)
 | [],_,_=>by simp only [dD,Gp,ud]
 | a::r,hw,hh=>by
  simp only [im] at hw;simp only [ud,R0,Bool.and_eq_true] at hh;simp only [dD,Gp,ud,VI h a hw.1 hh.1,CG h r hw.2 hh.2]
end
theorem acn {ρ:Nat→Nat} {m:Nat} {q H0 H:List (Nat×aY)} (h:∀ j,j < m→∀ x,fH (aT q (ρ j))=some x→fH (aT H0 j)=some x∧fH (aT H (ρ j))=some x) (b:aY) (hw:im H0 m b.refs) (hh:(b.dI ρ).has q=true):(b.dI ρ).dC H=(b.dC H0).dI ρ:=by
 cases b with
 | row t v xs=>rfl
 | bY x=>simp [aY.dI,aY.dC,jV.dI,Gp]
 | dmap i l=>rfl
 | Tv t l=>rfl
 | box l=>
  simp only [aY.dI,aY.has] at hh;simp only [aY.dC,aY.dI,jV.dI,CG h l hw hh]
 | dq=>simp only [aY.dI,aY.has] at hh;cases hh
def GQ (H q:List (Nat×aY)):List Nat→Option R→Option R
 | [],x=>x
 | id::r,x=>match aT q id with
  | none=>GQ H q r x
  | some b=>match fH (some b),fH (aT H id) with
   | none,none=>GQ H q r x
   | some (t,v,n),some (u,v',m)=>if t=u then (match v,v' with
    | .vs,.vs=>aZ (leq n m) (GQ H q r x)
    | .ms,.ms=>aZ (leq n m) (GQ H q r x)
    | .dv,.dv=>aZ (leq n m) (GQ H q r x)
    | .dm,.dm=>aZ (leq n m) (GQ H q r x)
    | _,_=>none) else none
   | _,_=>none
theorem TX {H q:List (Nat×aY)} {x:Option R} {z:R}:∀ {l:List Nat},GQ H q l x=some z→x=some z∧∀ id,id∈l→∀ b,aT q id=some b→fH (some b)=fH (aT H id)
 | [],h=>⟨h,fun id bY=>by cases bY⟩
 | i::r,h=>by
  simp only [GQ] at h;have fin:GQ H q r x=some z→(∀ b,aT q i=some b→fH (some b)=fH (aT H i))→x=some z∧∀ id,id∈i::r→∀ b,aT q id=some b→fH (some b)=fH (aT H id):=by
   intro hs hi;obtain ⟨k1,k2⟩:=TX hs;refine ⟨k1,fun id bY b hb=>?_⟩;rcases List.mem_cons.1 bY with e | e
   ·subst e;exact hi b hb
   ·exact k2 id e b hb
  split at h
  ·rename_i hq;exact fin h fun b hb=>by rw [hq] at hb;cases hb
  ·rename_i b hq;split at h
   ·rename_i h1 h2;exact fin h fun b' hb=>by rw [hq] at hb;cases hb;rw [h1,h2]
   ·rename_i t v n u v' m h1 h2;split at h
    ·rename_i e;subst e;cases v<;>cases v'<;>first | (cases h;done) | skip
     all_goals
      obtain ⟨h3,h4⟩:=gg h;exact fin h4 fun b' hb=>by rw [hq] at hb;cases hb;rw [h1,h2,Nat.eq_of_beq_eq_true h3]
    ·cases h
   ·cases h
def ue (e:Xs) (n:Nat):List Nat:=(List.range n).map fun j=>(ef e.uP j).getD 0
def WQ (s:bP) (ids:List Nat) (a:Alt) (ds:List cN) (κ Az:cx→Option R):Option R:=
 if Nat.ble ids.length a.dc.length&&(a.res.lt a.dc.length&&a.dc.all (Bp.lt a.dc.length)) then (match instP (pb ids s.N) a.res ds with
  | some (v,r)=>match instBs (pb ids s.N) a.dc 0 r with
   | some (q,[])=>if v.has q&&q.all fun p=>p.2.has q then GQ s.H q ids (match a.Ky with
    | true=>Az ⟨v,(List.range a.dc.length).map fun j=>(pb ids s.N j,aT q (pb ids s.N j)),a.dc.length-ids.length⟩
    | false=>κ ⟨v,(List.range a.dc.length).map fun j=>(pb ids s.N j,aT q (pb ids s.N j)),a.dc.length-ids.length⟩) else none
   | _=>none
  | none=>none) else none
def agZ:List Nat→Bool
 | []=>true
 | _=>false
def isV:Option aY→Bool
 | some b=>b.Uy
 | none=>false
def VJ (c:CT) (s:bP) (as:List TA) (κ Az:cx→Option R):Option R:=
 match CF s.H c.args as ⟨[],[]⟩ with
 | some (e1,d1)=>match EX s.H c.dc 0 e1 with
  | some (e2,d2)=>if e2.EY c.dc.length s.N&&((ue e2 c.dc.length).all (fun id=>isV (aT s.H id))&&(agZ e2.fz||c.outs.all fun a=>a.res.flat&&a.dc.all Bp.flat)) then (match o8 (CE c.args++RY c.dc) (d1++d2) with
   | some x=>(yJ _ c.F x).bind fun o=>Qn c.outs o fun a ds=>WQ s (ue e2 c.dc.length) a ds κ Az
   | none=>none) else none
  | none=>none
 | none=>none
def R1 (P:Program) (o:Oper) (s:bP) (f:FuncId) (as:List TA):Prop:=
 (∀ (xs:Array Value) (w:World),(callFunc f xs).run P w=.ok (.enter f xs) w)→∀ {w F O μ K ft a},SR w F O μ K s.st ft a→∃ s8:List Value,(execOp a.eval o).run P w=.ok (.enter f ⟨s8⟩) w∧iL w F μ K (dD s.H as) s8
def EvP (P:Program) (o:Oper) (s:bP) (κ:cx→Option R) (x:R):Prop:=∃ r,afo P o s r∧NN s r∧κ r=some x
theorem KJ {X:Type}:∀ (l:List Alt) (o:KH l),(oE l o).1∈l
 | [],o=>o.elim
 | [a],x=>by simp [oE,Qn]
 | a::b::r,x=>by
  cases x with
  | inl y=>simp [oE,Qn,yr]
  | inr z=>exact List.mem_cons_of_mem _ (KJ (X:=X) (b::r) z)
end Go.Proofs.YtjkbbdldmdajkaaGreatDoor.c_
