/- Calls in the evaluator. No condition. -/
import Derived.Test.YtjkbbdldmdajkaaGreatDoorVO
namespace Go.Proofs.YtjkbbdldmdajkaaGreatDoor.c5
open Go Go.RowKit
variable {w w' ss:World} {F F' zT O O' uo:Nat→Prop} {μ aZ jE:Nat→Nat} {K K' C9:Nat→Prop} {ft bX:Nat→Nat→Prop} {P:Program} {R:Type}
mutual
def TA.dA (ρ:Nat→Nat):TA→TA
 | .agg cs=>.agg (te ρ cs)
 | .rb cs off=>.rb (te ρ cs) off
 | .ov cs=>.ov (te ρ cs)
 | .ow id=>.ow (ρ id)
 | .bs id n e=>.bs (ρ id) n e
 | .bp id off=>.bp (ρ id) off
 | .rp id i off=>.rp (ρ id) i off
 | .mp id=>.mp (ρ id)
 | .oR t a=>.oR t (a.dA ρ)
 | .fn f xs ys=>.fn f (te ρ xs) (te ρ ys)
 | a=>a
def te (ρ:Nat→Nat):List TA→List TA
 | []=>[]
 | a::r=>a.dA ρ::te ρ r
end
theorem J8 (ρ:Nat→Nat):∀ l:List TA,te ρ l=l.map (TA.dA ρ)
 | []=>by simp [te]
 | a::r=>by simp [te,J8 ρ r]
def aX.dA (ρ:Nat→Nat):aX→aX
 | .box l=>.box (te ρ l)
 | .de t v xs i os=>.de t v xs i (os.map fun p=>(p.1,ρ p.2))
 | b=>b
theorem aab (ρ:Nat→Nat) (y:cG):(C4 y).dA ρ=C4 y:=by
 obtain ⟨t,x⟩:=y;cases t with
 | st i=>
  simp only [C4,TA.dA,J8,List.map_map];exact congrArg TA.agg (List.map_congr_left fun z _=>by simp only [Function.comp,TA.dA])
 | _=>simp only [C4,TA.dA]
mutual
theorem instP_ren (ρ:Nat→Nat):∀ (p:sA) (l:List cG),instP ρ p l=(instP id p l).map fun x=>(x.1.dA ρ,x.2)
 | .any,l=>by simp only [instP,Option.map_some,TA.dA]
 | .d t,l=>by
  simp only [instP];cases l with
  | nil=>rfl
  | cons y l=>
   simp only;split
   ·simp only [Option.map_some,aab]
   ·rfl
 | .agg ps,l=>by
  simp only [instP,instL_ren ρ ps l];cases instL id ps l with
  | none=>rfl
  | some x=>simp only [Option.map_some,TA.dA]
 | .rb ps off,l=>by
  simp only [instP,instL_ren ρ ps l];cases instL id ps l with
  | none=>rfl
  | some x=>simp only [Option.map_some,TA.dA]
 | .ov ps,l=>by
  simp only [instP,instL_ren ρ ps l];cases instL id ps l with
  | none=>rfl
  | some x=>simp only [Option.map_some,TA.dA]
 | .ow j,l=>by simp only [instP,Option.map_some,TA.dA,id]
 | .bs j n bB,l=>by simp only [instP,Option.map_some,TA.dA,id]
 | .bp j off,l=>by simp only [instP,Option.map_some,TA.dA,id]
 | .mp j,l=>by simp only [instP,Option.map_some,TA.dA,id]
 | .fp t off,l=>by
  simp only [instP];cases l with
  | nil=>rfl
  | cons y l=>
   simp only;split
   ·simp only [Option.map_some,TA.dA]
   ·rfl
 | .oR t p,l=>by
  simp only [instP,instP_ren ρ p l];cases instP id p l with
  | none=>rfl
  | some x=>simp only [Option.map_some,TA.dA]
 | .fn f xs ys,l=>by
  simp only [instP,instL_ren ρ xs l];cases instL id xs l with
  | none=>rfl
  | some x=>
   simp only [Option.map_some,instL_ren ρ ys x.2];cases instL id ys x.2 with
   | none=>rfl
   | some y=>simp only [Option.map_some,TA.dA]
 | .Qg,l=>by simp only [instP,Option.map_some,TA.dA]
 | .kb b,l=>by simp only [instP,Option.map_some,TA.dA]
theorem instL_ren (ρ:Nat→Nat):∀ (ps:List sA) (l:List cG),instL ρ ps l=(instL id ps l).map fun x=>(te ρ x.1,x.2)
 | [],l=>by simp only [instL,Option.map_some,te]
 | p::ps,l=>by
  simp only [instL,instP_ren ρ p l];cases instP id p l with
  | none=>rfl
  | some x=>
   simp only [Option.map_some,instL_ren ρ ps x.2];cases instL id ps x.2 with
   | none=>rfl
   | some y=>simp only [Option.map_some,te]
end
theorem instB_ren (ρ:Nat→Nat) (b:Bp) (l:List cG):instB ρ b l=(instB id b l).map fun x=>(x.1.dA ρ,x.2):=by
 cases b with
 | box ps=>
  simp only [instB,instL_ren ρ ps l];cases instL id ps l with
  | none=>rfl
  | some x=>simp only [Option.map_some,aX.dA]
 | row t v=>
  simp only [instB];split
  ·split
   ·simp only [Option.map_some,aX.dA]
   ·rfl
  ·rfl
 | dmap i=>
  simp only [instB];split
  ·split
   ·simp only [Option.map_some,aX.dA]
   ·rfl
  ·rfl
 | c7 t=>
  simp only [instB];split
  ·split
   ·simp only [Option.map_some,aX.dA,J8,List.map_map]
    congr 4
   ·rfl
  ·rfl
 | gone=>rfl
theorem instBs_ren (ρ:Nat→Nat):∀ (bs:List Bp) (j:Nat) (l:List cG),instBs ρ bs j l=(instBs id bs j l).map fun x=>(x.1.map fun p=>(ρ p.1,p.2.dA ρ),x.2)
 | [],j,l=>by simp only [instBs,Option.map_some,List.map_nil]
 | b::r,j,l=>by
  by_cases hg:b=.gone
  ·subst hg;simp only [instBs,instBs_ren ρ r]
  ·rw [instBs_cons hg,instBs_cons hg,instB_ren ρ b l];cases instB id b l with
   | none=>rfl
   | some x=>
    simp only [Option.map_some,instBs_ren ρ r];cases instBs id r (j+1) x.2 with
    | none=>rfl
    | some y=>simp only [Option.map_some,List.map_cons,id]
theorem instBs_keys {ρ:Nat→Nat}:∀ {bs:List Bp} {j0:Nat} {l l':List cG} {q:List (Nat×aX)},instBs ρ bs j0 l=some (q,l')→∀ p,p∈q→∃ i,i < bs.length∧p.1=ρ (j0+i)
 | [],j0,l,l',q,h,p,hp=>by simp only [instBs] at h;cases h;cases hp
 | b::r,j0,l,l',q,h,p,hp=>by
  have up:(∃ i,i < r.length∧p.1=ρ (j0+1+i))→∃ i,i < (b::r).length∧p.1=ρ (j0+i):=fun ⟨i,h1,h2⟩=>
   ⟨i+1,by simp;omega,by rw [h2];congr 1;omega⟩
  by_cases hg:b=.gone
  ·subst hg;simp only [instBs] at h;exact up (instBs_keys h p hp)
  ·rw [instBs_cons hg] at h;split at h
   ·split at h
    ·rename_i q2 l3 hr;cases h;rcases List.mem_cons.1 hp with e | e
     ·exact ⟨0,by simp,by rw [e];rfl⟩
     ·exact up (instBs_keys hr p e)
    ·cases h
   ·cases h
theorem PW {ρ:Nat→Nat} {m:Nat} (hi:∀ j j',j < m→j' < m→ρ j=ρ j'→j=j'):∀ {q:List (Nat×aX)},(∀ p,p∈q→p.1 < m)→∀ {j:Nat},j < m→aS (q.map fun p=>(ρ p.1,p.2.dA ρ)) (ρ j)=(aS q j).map (aX.dA ρ)
 | [],_,j,_=>rfl
 | (i,b)::q,hq,j,hj=>by
  simp only [List.map_cons,aS];have h1:i < m:=hq (i,b) (by simp);cases e:Nat.beq j i with
  | true=>simp only [Nat.eq_of_beq_eq_true e,Nat.beq_refl,Option.map_some]
  | false=>
   have:¬ ρ j=ρ i:=fun h=>Nat.ne_of_beq_eq_false e (hi j i hj h1 h);simp only [cb this];exact PW hi (fun p hp=>hq p (by simp [hp])) hj
theorem X5 (ρ:Nat→Nat) (v:Bool) (j n e:Nat):(dh v j n e).dA ρ=dh v (ρ j) n e:=by
 cases v<;>simp [dh,AV.dA]
theorem abS (ρ:Nat→Nat) (y:cG):(cL y).dA ρ=cL y:=by
 have leaf:∀ z:cG,z.t.leaf=true→(cL z).dA ρ=cL z:=by
  intro z hz;obtain ⟨t,x⟩:=z;cases t with
  | st=>cases hz
  | _=>simp [cL,AV.dA,C8]
 obtain ⟨t,x⟩:=y;cases t with
 | st i=>
  simp only [cL,AV.dA,IF];have e:cc i x=(get i x).map cL:=(Jx i x).symm;rw [e,List.map_map];exact congrArg AV.agg (List.map_congr_left fun z hz=>leaf z (AM (.st i) x z hz))
 | _=>exact leaf ⟨_,x⟩ rfl
mutual
def TA.has (H:List (Nat×aX)):TA→Bool
 | .ow id=>(fv (aS H id)).isSome
 | .rp id _ _=>(fv (aS H id)).isSome
 | .agg cs=>Ro H cs
 | .rb cs _=>Ro H cs
 | .ov cs=>Ro H cs
 | .oR _ a=>a.has H
 | .fn _ xs ys=>Ro H xs&&Ro H ys
 | _=>true
def Ro (H:List (Nat×aX)):List TA→Bool
 | []=>true
 | a::r=>a.has H&&Ro H r
end
def aX.has (H:List (Nat×aX)):aX→Bool
 | .box l=>Ro H l
 | .de _ _ _ _ _=>false
 | _=>true
mutual
theorem Vf {ρ:Nat→Nat} {m:Nat} {q H0 H:List (Nat×aX)} (h:∀ j,j < m→∀ x,fv (aS q (ρ j))=some x→fv (aS H0 j)=some x∧fv (aS H (ρ j))=some x):∀ (a:TA),a.wf H0 m→(a.dA ρ).has q=true→(a.dA ρ).av H=(a.av H0).dA ρ
 | .ow j,hw,hh=>by
  simp only [TA.wf] at hw;simp only [TA.dA,TA.has] at hh ⊢;obtain ⟨⟨t,v,n⟩,hx⟩:=Option.isSome_iff_exists.1 hh;obtain ⟨h1,h2⟩:=h j hw _ hx;simp only [TA.av,h1,h2,X5]
 | .rp j i off,hw,hh=>by
  simp only [TA.wf] at hw;simp only [TA.dA,TA.has] at hh ⊢;obtain ⟨⟨t,v,n⟩,hx⟩:=Option.isSome_iff_exists.1 hh;obtain ⟨h1,h2⟩:=h j hw.1 _ hx;simp only [TA.av,h1,h2,AV.dA]
 | .agg cs,hw,hh=>by
  simp only [TA.wf] at hw;simp only [TA.dA,TA.has] at hh ⊢;simp only [TA.av,AV.dA,BZ h cs hw hh]
 | .rb cs off,hw,hh=>by
  simp only [TA.wf] at hw;simp only [TA.dA,TA.has] at hh ⊢;simp only [TA.av,AV.dA,BZ h cs hw hh]
 | .ov cs,hw,hh=>by
  simp only [TA.wf] at hw;simp only [TA.dA,TA.has] at hh ⊢;simp only [TA.av,AV.dA,BZ h cs hw hh]
 | .oR t a,hw,hh=>by
  simp only [TA.wf] at hw;simp only [TA.dA,TA.has] at hh ⊢;simp only [TA.av,AV.dA,Vf h a hw hh]
 | .fn f xs ys,hw,hh=>by
  simp only [TA.wf] at hw;simp only [TA.dA,TA.has,Bool.and_eq_true] at hh ⊢;simp only [TA.av,AV.dA,BZ h xs hw.1 hh.1,BZ h ys hw.2 hh.2]
 | .top,_,_=>by simp only [TA.dA,TA.av,AV.dA]
 | .lit v,_,_=>by simp only [TA.dA,TA.av,AV.dA]
 | .d x,_,_=>by simp only [TA.dA,TA.av,abS]
 | .fb,_,_=>by simp only [TA.dA,TA.av,AV.dA]
 | .fp t x off,_,_=>by simp only [TA.dA,TA.av,AV.dA]
 | .bs id n bB,_,_=>by simp only [TA.dA,TA.av,AV.dA]
 | .bp id off,_,_=>by simp only [TA.dA,TA.av,AV.dA]
 | .mp id,_,_=>by simp only [TA.dA,TA.av,AV.dA]
theorem BZ {ρ:Nat→Nat} {m:Nat} {q H0 H:List (Nat×aX)} (h:∀ j,j < m→∀ x,fv (aS q (ρ j))=some x→fv (aS H0 j)=some x∧fv (aS H (ρ j))=some x):∀ (l:List TA),hU H0 m l→Ro q (te ρ l)=true→di H (te ρ l)=FH ρ (di H0 l)
 | [],_,_=>by simp only [di,FH,te]
 | a::r,hw,hh=>by
  simp only [hU] at hw;simp only [te,Ro,Bool.and_eq_true] at hh;simp only [di,FH,te,Vf h a hw.1 hh.1,BZ h r hw.2 hh.2]
end
theorem abT {ρ:Nat→Nat} {m:Nat} {q H0 H:List (Nat×aX)} (h:∀ j,j < m→∀ x,fv (aS q (ρ j))=some x→fv (aS H0 j)=some x∧fv (aS H (ρ j))=some x) (b:aX) (hw:hU H0 m b.refs) (hh:(b.dA ρ).has q=true):(b.dA ρ).du H=(b.du H0).dA ρ:=by
 cases b with
 | row t v xs=>rfl
 | bZ x=>simp [aX.dA,aX.du,jz.dA,FH]
 | dmap i l=>rfl
 | SX t l=>rfl
 | box l=>
  simp only [aX.dA,aX.has] at hh;simp only [aX.du,aX.dA,jz.dA,BZ h l hw hh]
 | de=>simp only [aX.dA,aX.has] at hh;cases hh
def Gc (H q:List (Nat×aX)):List Nat→Option R→Option R
 | [],x=>x
 | id::r,x=>match aS q id with
  | none=>Gc H q r x
  | some b=>match fv (some b),fv (aS H id) with
   | none,none=>Gc H q r x
   | some (t,v,n),some (u,v',m)=>if t=u then (match v,v' with
    | .vs,.vs=>bE (leq n m) (Gc H q r x)
    | .ms,.ms=>bE (leq n m) (Gc H q r x)
    | .dv,.dv=>bE (leq n m) (Gc H q r x)
    | .dm,.dm=>bE (leq n m) (Gc H q r x)
    | _,_=>none) else none
   | _,_=>none
theorem Tq {H q:List (Nat×aX)} {x:Option R} {z:R}:∀ {l:List Nat},Gc H q l x=some z→x=some z∧∀ id,id∈l→∀ b,aS q id=some b→fv (some b)=fv (aS H id)
 | [],h=>⟨h,fun id bZ=>by cases bZ⟩
 | i::r,h=>by
  simp only [Gc] at h;have fin:Gc H q r x=some z→(∀ b,aS q i=some b→fv (some b)=fv (aS H i))→x=some z∧∀ id,id∈i::r→∀ b,aS q id=some b→fv (some b)=fv (aS H id):=by
   intro hs hi;obtain ⟨k1,k2⟩:=Tq hs;refine ⟨k1,fun id bZ b hb=>?_⟩;rcases List.mem_cons.1 bZ with e | e
   ·subst e;exact hi b hb
   ·exact k2 id e b hb
  split at h
  ·rename_i hq;exact fin h fun b hb=>by rw [hq] at hb;cases hb
  ·rename_i b hq;split at h
   ·rename_i h1 h2;exact fin h fun b' hb=>by rw [hq] at hb;cases hb;rw [h1,h2]
   ·rename_i t v n u v' m h1 h2;split at h
    ·rename_i e;subst e;cases v<;>cases v'<;>first | (cases h;done) | skip
     all_goals
      obtain ⟨h3,h4⟩:=fT h;exact fin h4 fun b' hb=>by rw [hq] at hb;cases hb;rw [h1,h2,Nat.eq_of_beq_eq_true h3]
    ·cases h
   ·cases h
def tf (e:Xs) (n:Nat):List Nat:=(List.range n).map fun j=>(dU e.tK j).getD 0
def Wu (s:bL) (ids:List Nat) (a:Alt) (ds:List cG) (κ wL:cu→Option R):Option R:=
 if Nat.ble ids.length a.cE.length&&(a.res.lt a.cE.length&&a.cE.all (Bp.lt a.cE.length)) then (match instP (oq ids s.N) a.res ds with
  | some (v,r)=>match instBs (oq ids s.N) a.cE 0 r with
   | some (q,[])=>if v.has q&&q.all fun p=>p.2.has q then Gc s.H q ids (match a.zU with
    | true=>wL ⟨v,(List.range a.cE.length).map fun j=>(oq ids s.N j,aS q (oq ids s.N j)),a.cE.length-ids.length⟩
    | false=>κ ⟨v,(List.range a.cE.length).map fun j=>(oq ids s.N j,aS q (oq ids s.N j)),a.cE.length-ids.length⟩) else none
   | _=>none
  | none=>none) else none
def ahf:List Nat→Bool
 | []=>true
 | _=>false
def isV:Option aX→Bool
 | some b=>b.T5
 | none=>false
def J9 (c:CT) (s:bL) (as:List TA) (κ wL:cu→Option R):Option R:=
 match BY s.H c.args as ⟨[],[]⟩ with
 | some (e1,d1)=>match Ei s.H c.cE 0 e1 with
  | some (e2,d2)=>if e2.vq c.cE.length s.N&&((tf e2 c.cE.length).all (fun id=>isV (aS s.H id))&&(ahf e2.fz||c.outs.all fun a=>a.res.flat&&a.cE.all Bp.flat)) then (match oj (zN c.args++NB c.cE) (d1++d2) with
   | some x=>(xQ _ c.F x).bind fun o=>PV c.outs o fun a ds=>Wu s (tf e2 c.cE.length) a ds κ wL
   | none=>none) else none
  | none=>none
 | none=>none
def Rp (P:Program) (o:Oper) (s:bL) (f:FuncId) (as:List TA):Prop:=
 (∀ (xs:Array Value) (w:World),(callFunc f xs).run P w=.ok (.enter f xs) w)→∀ {w F O μ K ft a},SR w F O μ K s.st ft a→∃ gp:List Value,(execOp a.eval o).run P w=.ok (.enter f ⟨gp⟩) w∧gZ w F μ K (di s.H as) gp
def EvP (P:Program) (o:Oper) (s:bL) (κ:cu→Option R) (x:R):Prop:=∃ r,afi P o s r∧KU s r∧κ r=some x
theorem AT {X:Type}:∀ (l:List Alt) (o:Ej l),(fU l o).1∈l
 | [],o=>o.elim
 | [a],x=>by simp [fU,PV]
 | a::b::r,x=>by
  cases x with
  | inl y=>simp [fU,PV,xA]
  | inr z=>exact List.mem_cons_of_mem _ (AT (X:=X) (b::r) z)
end Go.Proofs.YtjkbbdldmdajkaaGreatDoor.c5
