/- Calls in the evaluator. No condition. -/
import Derived.Test.YtjkbbdldmdajkaaGreatDoorVO
namespace Go.Proofs.YtjkbbdldmdajkaaGreatDoor.c_
open Go Go.RowKit
variable {w w' xh:World} {F F' Bn O O' vW:Nat→Prop} {μ bD lF:Nat→Nat} {K K' EB:Nat→Prop} {ft bY:Nat→Nat→Prop} {P:Program} {R:Type}
mutual
def TA.dH (ρ:Nat→Nat):TA→TA
 | .agg cs=>.agg (v9 ρ cs)
 | .nO cs=>.nO (v9 ρ cs)
 | .ow id=>.ow (ρ id)
 | .bs id n e=>.bs (ρ id) n e
 | .bp id off=>.bp (ρ id) off
 | .rp id i off=>.rp (ρ id) i off
 | .mp id=>.mp (ρ id)
 | .pJ t a=>.pJ t (a.dH ρ)
 | .fn f xs ys=>.fn f (v9 ρ xs) (v9 ρ ys)
 | a=>a
def v9 (ρ:Nat→Nat):List TA→List TA
 | []=>[]
 | a::r=>a.dH ρ::v9 ρ r
end
theorem KH (ρ:Nat→Nat):∀ l:List TA,v9 ρ l=l.map (TA.dH ρ)
 | []=>by simp [v9]
 | a::r=>by simp [v9,KH ρ r]
def aY.dH (ρ:Nat→Nat):aY→aY
 | .box l=>.box (v9 ρ l)
 | .dq t v xs i os=>.dq t v xs i (os.map fun p=>(p.1,ρ p.2))
 | b=>b
theorem aaK (ρ:Nat→Nat) (y:cN):(DF y).dH ρ=DF y:=by
 obtain ⟨t,x⟩:=y;cases t with
 | st i=>
  simp only [DF,TA.dH,KH,List.map_map];exact congrArg TA.agg (List.map_congr_left fun z _=>by simp only [Function.comp,TA.dH])
 | _=>simp only [DF,TA.dH]
mutual
theorem instP_ren (ρ:Nat→Nat):∀ (p:wx) (l:List cN),instP ρ p l=(instP id p l).map fun x=>(x.1.dH ρ,x.2)
 | .any,l=>by simp only [instP,Option.map_some,TA.dH]
 | .d t,l=>by
  simp only [instP];cases l with
  | nil=>rfl
  | cons y l=>
   simp only;split
   ·simp only [Option.map_some,aaK]
   ·rfl
 | .agg ps,l=>by
  simp only [instP,instL_ren ρ ps l];cases instL id ps l with
  | none=>rfl
  | some x=>simp only [Option.map_some,TA.dH]
 | .nO ps,l=>by
  simp only [instP,instL_ren ρ ps l];cases instL id ps l with
  | none=>rfl
  | some x=>simp only [Option.map_some,TA.dH]
 | .ow j,l=>by simp only [instP,Option.map_some,TA.dH,id]
 | .bs j n bA,l=>by simp only [instP,Option.map_some,TA.dH,id]
 | .bp j off,l=>by simp only [instP,Option.map_some,TA.dH,id]
 | .mp j,l=>by simp only [instP,Option.map_some,TA.dH,id]
 | .fp t off,l=>by
  simp only [instP];cases l with
  | nil=>rfl
  | cons y l=>
   simp only;split
   ·simp only [Option.map_some,TA.dH]
   ·rfl
 | .pJ t p,l=>by
  simp only [instP,instP_ren ρ p l];cases instP id p l with
  | none=>rfl
  | some x=>simp only [Option.map_some,TA.dH]
 | .fn f xs ys,l=>by
  simp only [instP,instL_ren ρ xs l];cases instL id xs l with
  | none=>rfl
  | some x=>
   simp only [Option.map_some,instL_ren ρ ys x.2];cases instL id ys x.2 with
   | none=>rfl
   | some y=>simp only [Option.map_some,TA.dH]
 | .QD,l=>by simp only [instP,Option.map_some,TA.dH]
 | .kb b,l=>by simp only [instP,Option.map_some,TA.dH]
theorem instL_ren (ρ:Nat→Nat):∀ (ps:List wx) (l:List cN),instL ρ ps l=(instL id ps l).map fun x=>(v9 ρ x.1,x.2)
 | [],l=>by simp only [instL,Option.map_some,v9]
 | p::ps,l=>by
  simp only [instL,instP_ren ρ p l];cases instP id p l with
  | none=>rfl
  | some x=>
   simp only [Option.map_some,instL_ren ρ ps x.2];cases instL id ps x.2 with
   | none=>rfl
   | some y=>simp only [Option.map_some,v9]
end
theorem instB_ren (ρ:Nat→Nat) (b:Bp) (l:List cN):instB ρ b l=(instB id b l).map fun x=>(x.1.dH ρ,x.2):=by
 cases b with
 | box ps=>
  simp only [instB,instL_ren ρ ps l];cases instL id ps l with
  | none=>rfl
  | some x=>simp only [Option.map_some,aY.dH]
 | row t v=>
  simp only [instB];split
  ·split
   ·simp only [Option.map_some,aY.dH]
   ·rfl
  ·rfl
 | dmap i=>
  simp only [instB];split
  ·split
   ·simp only [Option.map_some,aY.dH]
   ·rfl
  ·rfl
 | cQ t=>
  simp only [instB];split
  ·split
   ·simp only [Option.map_some,aY.dH,KH,List.map_map]
    congr 4
   ·rfl
  ·rfl
 | gone=>rfl
theorem instBs_ren (ρ:Nat→Nat):∀ (bs:List Bp) (j:Nat) (l:List cN),instBs ρ bs j l=(instBs id bs j l).map fun x=>(x.1.map fun p=>(ρ p.1,p.2.dH ρ),x.2)
 | [],j,l=>by simp only [instBs,Option.map_some,List.map_nil]
 | b::r,j,l=>by
  by_cases hg:b=.gone
  ·subst hg;simp only [instBs,instBs_ren ρ r]
  ·rw [instBs_cons hg,instBs_cons hg,instB_ren ρ b l];cases instB id b l with
   | none=>rfl
   | some x=>
    simp only [Option.map_some,instBs_ren ρ r];cases instBs id r (j+1) x.2 with
    | none=>rfl
    | some y=>simp only [Option.map_some,List.map_cons,id]
theorem instBs_keys {ρ:Nat→Nat}:∀ {bs:List Bp} {j0:Nat} {l l':List cN} {q:List (Nat×aY)},instBs ρ bs j0 l=some (q,l')→∀ p,p∈q→∃ i,i < bs.length∧p.1=ρ (j0+i)
 | [],j0,l,l',q,h,p,hp=>by simp only [instBs] at h;cases h;cases hp
 | b::r,j0,l,l',q,h,p,hp=>by
  have up:(∃ i,i < r.length∧p.1=ρ (j0+1+i))→∃ i,i < (b::r).length∧p.1=ρ (j0+i):=fun ⟨i,h1,h2⟩=>
   ⟨i+1,by simp;omega,by rw [h2];congr 1;omega⟩
  by_cases hg:b=.gone
  ·subst hg;simp only [instBs] at h;exact up (instBs_keys h p hp)
  ·rw [instBs_cons hg] at h;split at h
   ·split at h
    ·rename_i q2 l3 hr;cases h;rcases List.mem_cons.1 hp with e | e
     ·exact ⟨0,by simp,by rw [e];rfl⟩
     ·exact up (instBs_keys hr p e)
    ·cases h
   ·cases h
theorem Qk {ρ:Nat→Nat} {m:Nat} (hi:∀ j j',j < m→j' < m→ρ j=ρ j'→j=j'):∀ {q:List (Nat×aY)},(∀ p,p∈q→p.1 < m)→∀ {j:Nat},j < m→aT (q.map fun p=>(ρ p.1,p.2.dH ρ)) (ρ j)=(aT q j).map (aY.dH ρ)
 | [],_,j,_=>rfl
 | (i,b)::q,hq,j,hj=>by
  simp only [List.map_cons,aT];have h1:i < m:=hq (i,b) (by simp);cases e:Nat.beq j i with
  | true=>simp only [Nat.eq_of_beq_eq_true e,Nat.beq_refl,Option.map_some]
  | false=>
   have:¬ ρ j=ρ i:=fun h=>Nat.ne_of_beq_eq_false e (hi j i hj h1 h);simp only [cd this];exact Qk hi (fun p hp=>hq p (by simp [hp])) hj
theorem Yp (ρ:Nat→Nat) (v:Bool) (j n e:Nat):(du v j n e).dH ρ=du v (ρ j) n e:=by
 cases v<;>simp [du,AV.dH]
theorem aci (ρ:Nat→Nat) (y:cN):(cT y).dH ρ=cT y:=by
 have leaf:∀ z:cN,z.t.leaf=true→(cT z).dH ρ=cT z:=by
  intro z hz;obtain ⟨t,x⟩:=z;cases t with
  | st=>cases hz
  | _=>simp [cT,AV.dH,Ed]
 obtain ⟨t,x⟩:=y;cases t with
 | st i=>
  simp only [cT,AV.dH,Ja];have e:cc i x=(get i x).map cT:=(J1 i x).symm;rw [e,List.map_map];exact congrArg AV.agg (List.map_congr_left fun z hz=>leaf z (Br (.st i) x z hz))
 | _=>exact leaf ⟨_,x⟩ rfl
mutual
def TA.has (H:List (Nat×aY)):TA→Bool
 | .ow id=>(fG (aT H id)).isSome
 | .rp id _ _=>(fG (aT H id)).isSome
 | .agg cs=>TT H cs
 | .nO cs=>TT H cs
 | .pJ _ a=>a.has H
 | .fn _ xs ys=>TT H xs&&TT H ys
 | _=>true
def TT (H:List (Nat×aY)):List TA→Bool
 | []=>true
 | a::r=>a.has H&&TT H r
end
def aY.has (H:List (Nat×aY)):aY→Bool
 | .box l=>TT H l
 | .dq _ _ _ _ _=>false
 | _=>true
mutual
theorem VF {ρ:Nat→Nat} {m:Nat} {q H0 H:List (Nat×aY)} (h:∀ j,j < m→∀ x,fG (aT q (ρ j))=some x→fG (aT H0 j)=some x∧fG (aT H (ρ j))=some x):∀ (a:TA),a.wf H0 m→(a.dH ρ).has q=true→(a.dH ρ).av H=(a.av H0).dH ρ
 | .ow j,hw,hh=>by
  simp only [TA.wf] at hw;simp only [TA.dH,TA.has] at hh ⊢;obtain ⟨⟨t,v,n⟩,hx⟩:=Option.isSome_iff_exists.1 hh;obtain ⟨h1,h2⟩:=h j hw _ hx;simp only [TA.av,h1,h2,Yp]
 | .rp j i off,hw,hh=>by
  simp only [TA.wf] at hw;simp only [TA.dH,TA.has] at hh ⊢;obtain ⟨⟨t,v,n⟩,hx⟩:=Option.isSome_iff_exists.1 hh;obtain ⟨h1,h2⟩:=h j hw.1 _ hx;simp only [TA.av,h1,h2,AV.dH]
 | .agg cs,hw,hh=>by
  simp only [TA.wf] at hw;simp only [TA.dH,TA.has] at hh ⊢;simp only [TA.av,AV.dH,Fp h cs hw hh]
 | .nO cs,hw,hh=>by
  simp only [TA.wf] at hw;simp only [TA.dH,TA.has] at hh ⊢;simp only [TA.av,AV.dH,Fp h cs hw hh]
 | .pJ t a,hw,hh=>by
  simp only [TA.wf] at hw;simp only [TA.dH,TA.has] at hh ⊢;simp only [TA.av,AV.dH,VF h a hw hh]
 | .fn f xs ys,hw,hh=>by
  simp only [TA.wf] at hw;simp only [TA.dH,TA.has,Bool.and_eq_true] at hh ⊢;simp only [TA.av,AV.dH,Fp h xs hw.1 hh.1,Fp h ys hw.2 hh.2]
 | .top,_,_=>by simp only [TA.dH,TA.av,AV.dH]
 | .lit v,_,_=>by simp only [TA.dH,TA.av,AV.dH]
 | .d x,_,_=>by simp only [TA.dH,TA.av,aci]
 | .fA,_,_=>by simp only [TA.dH,TA.av,AV.dH]
 | .fp t x off,_,_=>by simp only [TA.dH,TA.av,AV.dH]
 | .bs id n bA,_,_=>by simp only [TA.dH,TA.av,AV.dH]
 | .bp id off,_,_=>by simp only [TA.dH,TA.av,AV.dH]
 | .mp id,_,_=>by simp only [TA.dH,TA.av,AV.dH]
theorem Fp {ρ:Nat→Nat} {m:Nat} {q H0 H:List (Nat×aY)} (h:∀ j,j < m→∀ x,fG (aT q (ρ j))=some x→fG (aT H0 j)=some x∧fG (aT H (ρ j))=some x):∀ (l:List TA),iz H0 m l→TT q (v9 ρ l)=true→er H (v9 ρ l)=HJ ρ (er H0 l)
 | [],_,_=>by simp only [er,HJ,v9]
 | a::r,hw,hh=>by
  simp only [iz] at hw;simp only [v9,TT,Bool.and_eq_true] at hh;simp only [er,HJ,v9,VF h a hw.1 hh.1,Fp h r hw.2 hh.2]
end
theorem acj {ρ:Nat→Nat} {m:Nat} {q H0 H:List (Nat×aY)} (h:∀ j,j < m→∀ x,fG (aT q (ρ j))=some x→fG (aT H0 j)=some x∧fG (aT H (ρ j))=some x) (b:aY) (hw:iz H0 m b.refs) (hh:(b.dH ρ).has q=true):(b.dH ρ).dC H=(b.dC H0).dH ρ:=by
 cases b with
 | row t v xs=>rfl
 | bZ x=>simp [aY.dH,aY.dC,jV.dH,HJ]
 | dmap i l=>rfl
 | Ts t l=>rfl
 | box l=>
  simp only [aY.dH,aY.has] at hh;simp only [aY.dC,aY.dH,jV.dH,Fp h l hw hh]
 | dq=>simp only [aY.dH,aY.has] at hh;cases hh
def GL (H q:List (Nat×aY)):List Nat→Option R→Option R
 | [],x=>x
 | id::r,x=>match aT q id with
  | none=>GL H q r x
  | some b=>match fG (some b),fG (aT H id) with
   | none,none=>GL H q r x
   | some (t,v,n),some (u,v',m)=>if t=u then (match v,v' with
    | .vs,.vs=>aZ (leq n m) (GL H q r x)
    | .ms,.ms=>aZ (leq n m) (GL H q r x)
    | .dv,.dv=>aZ (leq n m) (GL H q r x)
    | .dm,.dm=>aZ (leq n m) (GL H q r x)
    | _,_=>none) else none
   | _,_=>none
theorem TU {H q:List (Nat×aY)} {x:Option R} {z:R}:∀ {l:List Nat},GL H q l x=some z→x=some z∧∀ id,id∈l→∀ b,aT q id=some b→fG (some b)=fG (aT H id)
 | [],h=>⟨h,fun id bZ=>by cases bZ⟩
 | i::r,h=>by
  simp only [GL] at h;have fin:GL H q r x=some z→(∀ b,aT q i=some b→fG (some b)=fG (aT H i))→x=some z∧∀ id,id∈i::r→∀ b,aT q id=some b→fG (some b)=fG (aT H id):=by
   intro hs hi;obtain ⟨k1,k2⟩:=TU hs;refine ⟨k1,fun id bZ b hb=>?_⟩;rcases List.mem_cons.1 bZ with e | e
   ·subst e;exact hi b hb
   ·exact k2 id e b hb
  split at h
  ·rename_i hq;exact fin h fun b hb=>by rw [hq] at hb;cases hb
  ·rename_i b hq;split at h
   ·rename_i h1 h2;exact fin h fun b' hb=>by rw [hq] at hb;cases hb;rw [h1,h2]
   ·rename_i t v n u v' m h1 h2;split at h
    ·rename_i e;subst e;cases v<;>cases v'<;>first | (cases h;done) | skip
     all_goals
      obtain ⟨h3,h4⟩:=gb h;exact fin h4 fun b' hb=>by rw [hq] at hb;cases hb;rw [h1,h2,Nat.eq_of_beq_eq_true h3]
    ·cases h
   ·cases h
def ub (e:Xs) (n:Nat):List Nat:=(List.range n).map fun j=>(ec e.v7 j).getD 0
def WM (s:bP) (ids:List Nat) (a:Alt) (ds:List cN) (κ Av:cx→Option R):Option R:=
 if Nat.ble ids.length a.db.length&&(a.res.lt a.db.length&&a.db.all (Bp.lt a.db.length)) then (match instP (pa ids s.N) a.res ds with
  | some (v,r)=>match instBs (pa ids s.N) a.db 0 r with
   | some (q,[])=>if v.has q&&q.all fun p=>p.2.has q then GL s.H q ids (match a.Kx with
    | true=>Av ⟨v,(List.range a.db.length).map fun j=>(pa ids s.N j,aT q (pa ids s.N j)),a.db.length-ids.length⟩
    | false=>κ ⟨v,(List.range a.db.length).map fun j=>(pa ids s.N j,aT q (pa ids s.N j)),a.db.length-ids.length⟩) else none
   | _=>none
  | none=>none) else none
def agV:List Nat→Bool
 | []=>true
 | _=>false
def isV:Option aY→Bool
 | some b=>b.Uv
 | none=>false
def VG (c:CT) (s:bP) (as:List TA) (κ Av:cx→Option R):Option R:=
 match ES s.H c.args as ⟨[],[]⟩ with
 | some (e1,d1)=>match ET s.H c.db 0 e1 with
  | some (e2,d2)=>if e2.EU c.db.length s.N&&((ub e2 c.db.length).all (fun id=>isV (aT s.H id))&&(agV e2.fz||c.outs.all fun a=>a.res.flat&&a.db.all Bp.flat)) then (match o7 (DE c.args++RW c.db) (d1++d2) with
   | some x=>(yG _ c.F x).bind fun o=>Qj c.outs o fun a ds=>WM s (ub e2 c.db.length) a ds κ Av
   | none=>none) else none
  | none=>none
 | none=>none
def RY (P:Program) (o:Oper) (s:bP) (f:FuncId) (as:List TA):Prop:=
 (∀ (xs:Array Value) (w:World),(callFunc f xs).run P w=.ok (.enter f xs) w)→∀ {w F O μ K ft a},SR w F O μ K s.st ft a→∃ s7:List Value,(execOp a.eval o).run P w=.ok (.enter f ⟨s7⟩) w∧iU w F μ K (er s.H as) s7
def EvP (P:Program) (o:Oper) (s:bP) (κ:cx→Option R) (x:R):Prop:=∃ r,afk P o s r∧NM s r∧κ r=some x
theorem KI {X:Type}:∀ (l:List Alt) (o:KG l),(oD l o).1∈l
 | [],o=>o.elim
 | [a],x=>by simp [oD,Qj]
 | a::b::r,x=>by
  cases x with
  | inl y=>simp [oD,Qj,yo]
  | inr z=>exact List.mem_cons_of_mem _ (KI (X:=X) (b::r) z)
end Go.Proofs.YtjkbbdldmdajkaaGreatDoor.c_
