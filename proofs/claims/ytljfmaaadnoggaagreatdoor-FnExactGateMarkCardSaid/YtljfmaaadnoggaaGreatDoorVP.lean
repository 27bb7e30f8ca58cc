/- Calls in the evaluator. No condition. -/
import Derived.Test.YtljfmaaadnoggaaGreatDoorVO
namespace Go.Proofs.YtljfmaaadnoggaaGreatDoor.cU
open Go Go.RowKit
variable {w w' vP:World} {F F' Am O O' ux:Nat→Prop} {μ bB jV:Nat→Nat} {K K' DQ:Nat→Prop} {ft b7:Nat→Nat→Prop} {P:Program} {R:Type}
mutual
def TA.du (ρ:Nat→Nat):TA→TA
 | .agg cs=>.agg (uD ρ cs)
 | .n9 cs=>.n9 (uD ρ cs)
 | .ow id=>.ow (ρ id)
 | .bs id n e=>.bs (ρ id) n e
 | .bp id off=>.bp (ρ id) off
 | .rp id i off=>.rp (ρ id) i off
 | .mp id=>.mp (ρ id)
 | .nX t a=>.nX t (a.du ρ)
 | .fn f xs ys=>.fn f (uD ρ xs) (uD ρ ys)
 | a=>a
def uD (ρ:Nat→Nat):List TA→List TA
 | []=>[]
 | a::r=>a.du ρ::uD ρ r
end
theorem Kr (ρ:Nat→Nat):∀ l:List TA,uD ρ l=l.map (TA.du ρ)
 | []=>by simp [uD]
 | a::r=>by simp [uD,Kr ρ r]
def aW.du (ρ:Nat→Nat):aW→aW
 | .box l=>.box (uD ρ l)
 | .c5 t v xs i os=>.c5 t v xs i (os.map fun p=>(p.1,ρ p.2))
 | b=>b
theorem ZT (ρ:Nat→Nat) (y:cE):(CH y).du ρ=CH y:=by
 obtain ⟨t,x⟩:=y
 cases t with
 | st i=>
  simp only [CH,TA.du,Kr,List.map_map]
  exact congrArg TA.agg (List.map_congr_left fun z _=>by simp only [Function.comp,TA.du])
 | _=>simp only [CH,TA.du]
mutual
theorem instP_ren (ρ:Nat→Nat):∀ (p:uQ) (l:List cE),instP ρ p l=(instP id p l).map fun x=>(x.1.du ρ,x.2)
 | .any,l=>by simp only [instP,Option.map_some,TA.du]
 | .d t,l=>by
  simp only [instP]
  cases l with
  | nil=>rfl
  | cons y l=>
   simp only
   split
   ·simp only [Option.map_some,ZT]
   ·rfl
 | .agg ps,l=>by
  simp only [instP,instL_ren ρ ps l]
  cases instL id ps l with
  | none=>rfl
  | some x=>simp only [Option.map_some,TA.du]
 | .n9 ps,l=>by
  simp only [instP,instL_ren ρ ps l]
  cases instL id ps l with
  | none=>rfl
  | some x=>simp only [Option.map_some,TA.du]
 | .ow j,l=>by simp only [instP,Option.map_some,TA.du,id]
 | .bs j n aZ,l=>by simp only [instP,Option.map_some,TA.du,id]
 | .bp j off,l=>by simp only [instP,Option.map_some,TA.du,id]
 | .mp j,l=>by simp only [instP,Option.map_some,TA.du,id]
 | .fp t off,l=>by
  simp only [instP]
  cases l with
  | nil=>rfl
  | cons y l=>
   simp only
   split
   ·simp only [Option.map_some,TA.du]
   ·rfl
 | .nX t p,l=>by
  simp only [instP,instP_ren ρ p l]
  cases instP id p l with
  | none=>rfl
  | some x=>simp only [Option.map_some,TA.du]
 | .fn f xs ys,l=>by
  simp only [instP,instL_ren ρ xs l]
  cases instL id xs l with
  | none=>rfl
  | some x=>
   simp only [Option.map_some,instL_ren ρ ys x.2]
   cases instL id ys x.2 with
   | none=>rfl
   | some y=>simp only [Option.map_some,TA.du]
 | .Ol,l=>by simp only [instP,Option.map_some,TA.du]
 | .kb b,l=>by simp only [instP,Option.map_some,TA.du]
theorem instL_ren (ρ:Nat→Nat):∀ (ps:List uQ) (l:List cE),instL ρ ps l=(instL id ps l).map fun x=>(uD ρ x.1,x.2)
 | [],l=>by simp only [instL,Option.map_some,uD]
 | p::ps,l=>by
  simp only [instL,instP_ren ρ p l]
  cases instP id p l with
  | none=>rfl
  | some x=>
   simp only [Option.map_some,instL_ren ρ ps x.2]
   cases instL id ps x.2 with
   | none=>rfl
   | some y=>simp only [Option.map_some,uD]
end
theorem instB_ren (ρ:Nat→Nat) (b:Bp) (l:List cE):instB ρ b l=(instB id b l).map fun x=>(x.1.du ρ,x.2):=by
 cases b with
 | box ps=>
  simp only [instB,instL_ren ρ ps l]
  cases instL id ps l with
  | none=>rfl
  | some x=>simp only [Option.map_some,aW.du]
 | row t v=>
  simp only [instB]
  split
  ·split
   ·simp only [Option.map_some,aW.du]
   ·rfl
  ·rfl
 | dmap i=>
  simp only [instB]
  split
  ·split
   ·simp only [Option.map_some,aW.du]
   ·rfl
  ·rfl
 | cq t=>
  simp only [instB]
  split
  ·split
   ·simp only [Option.map_some,aW.du,Kr,List.map_map]
    congr 4
   ·rfl
  ·rfl
 | gone=>rfl
theorem instBs_ren (ρ:Nat→Nat):∀ (bs:List Bp) (j:Nat) (l:List cE),instBs ρ bs j l=(instBs id bs j l).map fun x=>(x.1.map fun p=>(ρ p.1,p.2.du ρ),x.2)
 | [],j,l=>by simp only [instBs,Option.map_some,List.map_nil]
 | b::r,j,l=>by
  by_cases hg:b=.gone
  ·subst hg
   simp only [instBs,instBs_ren ρ r]
  ·rw [instBs_cons hg,instBs_cons hg,instB_ren ρ b l]
   cases instB id b l with
   | none=>rfl
   | some x=>
    simp only [Option.map_some,instBs_ren ρ r]
    cases instBs id r (j+1) x.2 with
    | none=>rfl
    | some y=>simp only [Option.map_some,List.map_cons,id]
theorem instBs_keys {ρ:Nat→Nat}:∀ {bs:List Bp} {j0:Nat} {l l':List cE} {q:List (Nat×aW)},instBs ρ bs j0 l=some (q,l')→∀ p,p∈q→∃ i,i < bs.length∧p.1=ρ (j0+i)
 | [],j0,l,l',q,h,p,hp=>by simp only [instBs] at h;cases h;cases hp
 | b::r,j0,l,l',q,h,p,hp=>by
  have up:(∃ i,i < r.length∧p.1=ρ (j0+1+i))→∃ i,i < (b::r).length∧p.1=ρ (j0+i):=fun ⟨i,h1,h2⟩=>
   ⟨i+1,by simp;omega,by rw [h2];congr 1;omega⟩
  by_cases hg:b=.gone
  ·subst hg
   simp only [instBs] at h
   exact up (instBs_keys h p hp)
  ·rw [instBs_cons hg] at h
   split at h
   ·split at h
    ·rename_i q2 l3 hr
     cases h
     rcases List.mem_cons.1 hp with e | e
     ·exact ⟨0,by simp,by rw [e];rfl⟩
     ·exact up (instBs_keys hr p e)
    ·cases h
   ·cases h
theorem PY {ρ:Nat→Nat} {m:Nat} (hi:∀ j j',j < m→j' < m→ρ j=ρ j'→j=j'):∀ {q:List (Nat×aW)},(∀ p,p∈q→p.1 < m)→∀ {j:Nat},j < m→aR (q.map fun p=>(ρ p.1,p.2.du ρ)) (ρ j)=(aR q j).map (aW.du ρ)
 | [],_,j,_=>rfl
 | (i,b)::q,hq,j,hj=>by
  simp only [List.map_cons,aR]
  have h1:i < m:=hq (i,b) (by simp)
  cases e:Nat.beq j i with
  | true=>simp only [Nat.eq_of_beq_eq_true e,Nat.beq_refl,Option.map_some]
  | false=>
   have:¬ ρ j=ρ i:=fun h=>Nat.ne_of_beq_eq_false e (hi j i hj h1 h)
   simp only [ca this]
   exact PY hi (fun p hp=>hq p (by simp [hp])) hj
theorem XK (ρ:Nat→Nat) (v:Bool) (j n e:Nat):(dd v j n e).du ρ=dd v (ρ j) n e:=by
 cases v<;>simp [dd,AV.du]
theorem abm (ρ:Nat→Nat) (y:cE):(cK y).du ρ=cK y:=by
 have leaf:∀ z:cE,z.t.leaf=true→(cK z).du ρ=cK z:=by
  intro z hz
  obtain ⟨t,x⟩:=z
  cases t with
  | st=>cases hz
  | _=>simp [cK,AV.du,Dp]
 obtain ⟨t,x⟩:=y
 cases t with
 | st i=>
  simp only [cK,AV.du,IN]
  have e:cc i x=(get i x).map cK:=(JK i x).symm
  rw [e,List.map_map]
  exact congrArg AV.agg (List.map_congr_left fun z hz=>leaf z (Aq (.st i) x z hz))
 | _=>exact leaf ⟨_,x⟩ rfl
mutual
def TA.has (H:List (Nat×aW)):TA→Bool
 | .ow id=>(fj (aR H id)).isSome
 | .rp id _ _=>(fj (aR H id)).isSome
 | .agg cs=>Tm H cs
 | .n9 cs=>Tm H cs
 | .nX _ a=>a.has H
 | .fn _ xs ys=>Tm H xs&&Tm H ys
 | _=>true
def Tm (H:List (Nat×aW)):List TA→Bool
 | []=>true
 | a::r=>a.has H&&Tm H r
end
def aW.has (H:List (Nat×aW)):aW→Bool
 | .box l=>Tm H l
 | .c5 _ _ _ _ _=>false
 | _=>true
mutual
theorem Va {ρ:Nat→Nat} {m:Nat} {q H0 H:List (Nat×aW)} (h:∀ j,j < m→∀ x,fj (aR q (ρ j))=some x→fj (aR H0 j)=some x∧fj (aR H (ρ j))=some x):∀ (a:TA),a.wf H0 m→(a.du ρ).has q=true→(a.du ρ).av H=(a.av H0).du ρ
 | .ow j,hw,hh=>by
  simp only [TA.wf] at hw
  simp only [TA.du,TA.has] at hh ⊢
  obtain ⟨⟨t,v,n⟩,hx⟩:=Option.isSome_iff_exists.1 hh
  obtain ⟨h1,h2⟩:=h j hw _ hx
  simp only [TA.av,h1,h2,XK]
 | .rp j i off,hw,hh=>by
  simp only [TA.wf] at hw
  simp only [TA.du,TA.has] at hh ⊢
  obtain ⟨⟨t,v,n⟩,hx⟩:=Option.isSome_iff_exists.1 hh
  obtain ⟨h1,h2⟩:=h j hw.1 _ hx
  simp only [TA.av,h1,h2,AV.du]
 | .agg cs,hw,hh=>by
  simp only [TA.wf] at hw
  simp only [TA.du,TA.has] at hh ⊢
  simp only [TA.av,AV.du,EC h cs hw hh]
 | .n9 cs,hw,hh=>by
  simp only [TA.wf] at hw
  simp only [TA.du,TA.has] at hh ⊢
  simp only [TA.av,AV.du,EC h cs hw hh]
 | .nX t a,hw,hh=>by
  simp only [TA.wf] at hw
  simp only [TA.du,TA.has] at hh ⊢
  simp only [TA.av,AV.du,Va h a hw hh]
 | .fn f xs ys,hw,hh=>by
  simp only [TA.wf] at hw
  simp only [TA.du,TA.has,Bool.and_eq_true] at hh ⊢
  simp only [TA.av,AV.du,EC h xs hw.1 hh.1,EC h ys hw.2 hh.2]
 | .top,_,_=>by simp only [TA.du,TA.av,AV.du]
 | .lit v,_,_=>by simp only [TA.du,TA.av,AV.du]
 | .d x,_,_=>by simp only [TA.du,TA.av,abm]
 | .eQ,_,_=>by simp only [TA.du,TA.av,AV.du]
 | .fp t x off,_,_=>by simp only [TA.du,TA.av,AV.du]
 | .bs id n aZ,_,_=>by simp only [TA.du,TA.av,AV.du]
 | .bp id off,_,_=>by simp only [TA.du,TA.av,AV.du]
 | .mp id,_,_=>by simp only [TA.du,TA.av,AV.du]
theorem EC {ρ:Nat→Nat} {m:Nat} {q H0 H:List (Nat×aW)} (h:∀ j,j < m→∀ x,fj (aR q (ρ j))=some x→fj (aR H0 j)=some x∧fj (aR H (ρ j))=some x):∀ (l:List TA),gQ H0 m l→Tm q (uD ρ l)=true→dJ H (uD ρ l)=Hf ρ (dJ H0 l)
 | [],_,_=>by simp only [dJ,Hf,uD]
 | a::r,hw,hh=>by
  simp only [gQ] at hw
  simp only [uD,Tm,Bool.and_eq_true] at hh
  simp only [dJ,Hf,uD,Va h a hw.1 hh.1,EC h r hw.2 hh.2]
end
theorem abn {ρ:Nat→Nat} {m:Nat} {q H0 H:List (Nat×aW)} (h:∀ j,j < m→∀ x,fj (aR q (ρ j))=some x→fj (aR H0 j)=some x∧fj (aR H (ρ j))=some x) (b:aW) (hw:gQ H0 m b.refs) (hh:(b.du ρ).has q=true):(b.du ρ).di H=(b.di H0).du ρ:=by
 cases b with
 | row t v xs=>rfl
 | bY x=>simp [aW.du,aW.di,ju.du,Hf]
 | dmap i l=>rfl
 | SS t l=>rfl
 | box l=>
  simp only [aW.du,aW.has] at hh
  simp only [aW.di,aW.du,ju.du,EC h l hw hh]
 | c5=>simp only [aW.du,aW.has] at hh;cases hh
def Gb (H q:List (Nat×aW)):List Nat→Option R→Option R
 | [],x=>x
 | id::r,x=>match aR q id with
  | none=>Gb H q r x
  | some b=>match fj (some b),fj (aR H id) with
   | none,none=>Gb H q r x
   | some (t,v,n),some (u,v',m)=>if t=u then (match v,v' with
    | .vs,.vs=>bC (leq n m) (Gb H q r x)
    | .ms,.ms=>bC (leq n m) (Gb H q r x)
    | .dv,.dv=>bC (leq n m) (Gb H q r x)
    | .dm,.dm=>bC (leq n m) (Gb H q r x)
    | _,_=>none) else none
   | _,_=>none
theorem Tn {H q:List (Nat×aW)} {x:Option R} {z:R}:∀ {l:List Nat},Gb H q l x=some z→x=some z∧∀ id,id∈l→∀ b,aR q id=some b→fj (some b)=fj (aR H id)
 | [],h=>⟨h,fun id bY=>by cases bY⟩
 | i::r,h=>by
  simp only [Gb] at h
  have fin:Gb H q r x=some z→(∀ b,aR q i=some b→fj (some b)=fj (aR H i))→x=some z∧∀ id,id∈i::r→∀ b,aR q id=some b→fj (some b)=fj (aR H id):=by
   intro hs hi
   obtain ⟨k1,k2⟩:=Tn hs
   refine ⟨k1,fun id bY b hb=>?_⟩
   rcases List.mem_cons.1 bY with e | e
   ·subst e;exact hi b hb
   ·exact k2 id e b hb
  split at h
  ·rename_i hq
   exact fin h fun b hb=>by rw [hq] at hb;cases hb
  ·rename_i b hq
   split at h
   ·rename_i h1 h2
    exact fin h fun b' hb=>by rw [hq] at hb;cases hb;rw [h1,h2]
   ·rename_i t v n u v' m h1 h2
    split at h
    ·rename_i e
     subst e
     cases v<;>cases v'<;>first | (cases h;done) | skip
     all_goals
      obtain ⟨h3,h4⟩:=gh h
      exact fin h4 fun b' hb=>by rw [hq] at hb;cases hb;rw [h1,h2,Nat.eq_of_beq_eq_true h3]
    ·cases h
   ·cases h
def sw (e:Xs) (n:Nat):List Nat:=(List.range n).map fun j=>(dH e.uB j).getD 0
def Wg (s:bK) (ids:List Nat) (a:Alt) (ds:List cE) (κ zx:cC→Option R):Option R:=
 if Nat.ble ids.length a.cW.length&&(a.res.lt a.cW.length&&a.cW.all (Bp.lt a.cW.length)) then (match instP (nB ids s.N) a.res ds with
  | some (v,r)=>match instBs (nB ids s.N) a.cW 0 r with
   | some (q,[])=>if v.has q&&q.all fun p=>p.2.has q then Gb s.H q ids (match a.Ke with
    | true=>zx ⟨v,(List.range a.cW.length).map fun j=>(nB ids s.N j,aR q (nB ids s.N j)),a.cW.length-ids.length⟩
    | false=>κ ⟨v,(List.range a.cW.length).map fun j=>(nB ids s.N j,aR q (nB ids s.N j)),a.cW.length-ids.length⟩) else none
   | _=>none
  | none=>none) else none
def ago:List Nat→Bool
 | []=>true
 | _=>false
def isV:Option aW→Bool
 | some b=>b.TW
 | none=>false
def Vb (c:CT) (s:bK) (as:List TA) (κ zx:cC→Option R):Option R:=
 match D7 s.H c.args as ⟨[],[]⟩ with
 | some (e1,d1)=>match D8 s.H c.cW 0 e1 with
  | some (e2,d2)=>if e2.D9 c.cW.length s.N&&((sw e2 c.cW.length).all (fun id=>isV (aR s.H id))&&(ago e2.fz||c.outs.all fun a=>a.res.flat&&a.cW.all Bp.flat)) then (match nw (CG c.args++Rp c.cW) (d1++d2) with
   | some x=>(xy _ c.F x).bind fun o=>PX c.outs o fun a ds=>Wg s (sw e2 c.cW.length) a ds κ zx
   | none=>none) else none
  | none=>none
 | none=>none
def Rr (P:Program) (o:Oper) (s:bK) (f:FuncId) (as:List TA):Prop:=
 (∀ (xs:Array Value) (w:World),(callFunc f xs).run P w=.ok (.enter f xs) w)→∀ {w F O μ K ft a},SR w F O μ K s.st ft a→∃ ru:List Value,(execOp a.eval o).run P w=.ok (.enter f ⟨ru⟩) w∧hP w F μ K (dJ s.H as) ru
def EvP (P:Program) (o:Oper) (s:bK) (κ:cC→Option R) (x:R):Prop:=∃ r,aer P o s r∧Ng s r∧κ r=some x
theorem Kt {X:Type}:∀ (l:List Alt) (o:Kq l),(mN l o).1∈l
 | [],o=>o.elim
 | [a],x=>by simp [mN,PX]
 | a::b::r,x=>by
  cases x with
  | inl y=>simp [mN,PX,xe]
  | inr z=>exact List.mem_cons_of_mem _ (Kt (X:=X) (b::r) z)
end Go.Proofs.YtljfmaaadnoggaaGreatDoor.cU
