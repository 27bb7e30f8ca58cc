/- Calls in the evaluator: contracts with typed data. No condition. -/
import Derived.Test.YtljfmaaadnoggaaGreatDoorVN
namespace Go.Proofs.YtljfmaaadnoggaaGreatDoor.cX
open Go Go.RowKit
variable {w w' xW:World} {F F' Cq O O' wx:Nat→Prop} {μ bC kZ:Nat→Nat} {K K' Gg:Nat→Prop} {ft b8:Nat→Nat→Prop} {P:Program} {R:Type}
def aaU:List Ty→Type
 | []=>Unit
 | [t]=>t.dn
 | t::u::ts=>t.dn×aaU (u::ts)
def X_:(ts:List Ty)→aaU ts→List cI
 | [],_=>[]
 | [t],x=>[⟨t,x⟩]
 | t::u::ts,x=>⟨t,x.1⟩::X_ (u::ts) x.2
def Ss:(ts:List Ty)→List cI→Option (aaU ts)
 | [],[]=>some ()
 | [t],[⟨u,x⟩]=>if h:u=t then some (h▸x) else none
 | t::v::ts,⟨u,x⟩::l=>if h:u=t then (match Ss (v::ts) l with
  | some y=>some (h▸x,y)
  | none=>none) else none
 | _,_=>none
theorem JO:∀ {ts:List Ty} {l:List cI} {x:aaU ts},Ss ts l=some x→X_ ts x=l
 | [],[],x,_=>rfl
 | [],_::_,x,h=>by cases h
 | [t],[],x,h=>by cases h
 | [t],[⟨u,y⟩],x,h=>by
  simp only [Ss] at h
  split at h
  ·rename_i e
   subst e
   cases h
   rfl
  ·cases h
 | [t],_::_::_,x,h=>by cases h
 | t::v::ts,[],x,h=>by cases h
 | t::v::ts,⟨u,y⟩::l,x,h=>by
  simp only [Ss] at h
  split at h
  ·rename_i e
   subst e
   split at h
   ·rename_i z hz
    cases h
    simp only [X_,JO hz]
   ·cases h
  ·cases h
structure Alt where
 MA:Bool
 res:wR
 c6:List Bp
def Alt.ef (a:Alt):List Ty:=a.res.ef++Uh a.c6
def MJ:List Alt→Type
 | []=>Empty
 | [a]=>aaU a.ef
 | a::b::r=>aaU a.ef ⊕ MJ (b::r)
def zd {α β γ:Type} (s:α ⊕ β) (f:α→γ) (g:β→γ):γ:=match s with
 | .inl x=>f x
 | .inr y=>g y
def St {X:Type}:(l:List Alt)→MJ l→(Alt→List cI→X)→X
 | [a],x,f=>f a (X_ a.ef x)
 | a::b::r,x,f=>zd x (fun y=>f a (X_ a.ef y)) fun z=>St (b::r) z f
def oc (l:List Alt) (o:MJ l):Alt×List cI:=St l o Prod.mk
theorem Wg {X:Type}:∀ (l:List Alt) (o:MJ l) (f:Alt→List cI→X),St l o f=f (oc l o).1 (oc l o).2
 | [],o,f=>o.elim
 | [a],x,f=>rfl
 | a::b::r,x,f=>by
  cases x with
  | inl y=>rfl
  | inr z=>exact Wg (b::r) z f
structure CT where
 f:FuncId
 args:List wR
 c6:List Bp
 outs:List Alt
 F:Oa (ES args++Uh c6) (Option (MJ outs))
def aV (P:Program) (c:CT):Prop:=
 ∀ (x:Ad (ES c.args++Uh c.c6)) (o:MJ c.outs),zA _ c.F x=some o→
  ∀ as l H,instL id c.args (e_ _ x)=some (as,l)→instBs id c.c6 0 l=some (H,[])→
  ∀ v r H',instP id (oc c.outs o).1.res (oc c.outs o).2=some (v,r)→instBs id (oc c.outs o).1.c6 0 r=some (H',[])→
  GC P c.f c.c6.length (dU H as) (xX H) (cond (oc c.outs o).1.MA (.MA (v.av H')) (.ret (v.av H'))) (oc c.outs o).1.c6.length (xX H')
mutual
def wR.flat:wR→Bool
 | .d t=>t.flat
 | .fp _ _=>false
 | .agg ps=>NG ps
 | .ph ps=>NG ps
 | .pe _ p=>p.flat
 | .fn _ xs ys=>NG xs&&NG ys
 | _=>true
def NG:List wR→Bool
 | []=>true
 | p::r=>p.flat&&NG r
end
def Bp.flat:Bp→Bool
 | .box ps=>NG ps
 | .row t v=>v.d||t.flat
 | .dmap i=>Ty.flat (.st i)
 | .b_ t=>t.flat
 | .gone=>true
theorem Qh {y:cI} (h:y.t.flat=true):Y9 (cN y):=by
 intro w F F' μ K v hv
 obtain ⟨t,x⟩:=y
 have leaf:∀ (z:cI),(match z.t with | .sl _ | .st _=>false | _=>true)=true→∀ {v},VR w F μ K (cN z) v→VR w F' μ K (cN z) v:=by
  intro z hz v hv
  obtain ⟨t,x⟩:=z
  cases t with
  | sl=>cases hz
  | st=>cases hz
  | int k=>exact (hv.dd▸.int _ _:VR w F' μ K (.int k x) v)
  | str=>exact (hv.jD▸.str _:VR w F' μ K (.str x) v)
  | bool=>exact (hv.eR▸.bool _:VR w F' μ K (.bool x) v)
 cases t with
 | sl=>cases h
 | int=>exact leaf ⟨_,x⟩ rfl hv
 | str=>exact leaf ⟨_,x⟩ rfl hv
 | bool=>exact leaf ⟨_,x⟩ rfl hv
 | st i=>
  simp only [cN] at hv ⊢
  obtain ⟨vs,rfl,h1,h2⟩:=hv.fK
  refine .rE ⟨h1,fun k hk=>?_⟩
  have h3:=h2 k hk
  have e:cc i x=(get i x).map cN:=(L3 i x).symm
  rw [e] at h3 hk ⊢
  have Ia:k < (get i x).length:=by simpa using hk
  have e2:((get i x).map cN).getD k .top=cN ((get i x)[k]):=by simp [List.getD,Ia]
  rw [e2] at h3 ⊢
  refine leaf _ ?_ h3
  have e3:(get i x).map (·.t)=BE i:=qO i x
  have:((get i x)[k]).t∈BE i:=by rw [← e3];exact List.mem_map.2 ⟨_,List.getElem_mem Ia,rfl⟩
  exact List.all_eq_true.1 h _ this
mutual
theorem inst_nf {ρ:Nat→Nat} {H:List (Nat×aY)}:∀ {p:wR} {l l':List cI} {a:TA},instP ρ p l=some (a,l')→p.flat=true→Y9 (a.av H)
 | .any,l,l',a,h,_=>by simp only [instP] at h;cases h;simp only [TA.av];exact fun _=>.top _
 | .d t,l,l',a,h,hf=>by
  simp only [instP] at h
  split at h
  ·split at h
   ·rename_i e
    cases h
    intro hv
    rw [Ow] at hv ⊢
    simp only [wR.flat] at hf
    exact Qh (e▸hf) hv
   ·cases h
  ·cases h
 | .agg ps,l,l',a,h,hf=>by
  simp only [instP] at h
  simp only [wR.flat] at hf
  split at h
  ·rename_i as l2 hi
   cases h
   intro hv
   simp only [TA.av] at hv ⊢
   obtain ⟨vs,rfl,CN⟩:=hv.fK
   exact .rE (instL_nf hi hf CN)
  ·cases h
 | .ph ps,l,l',a,h,hf=>by
  simp only [instP] at h
  simp only [wR.flat] at hf
  split at h
  ·rename_i as l2 hi
   cases h
   intro hv
   simp only [TA.av] at hv ⊢
   obtain ⟨vs,rfl,CN⟩:=hv.KU
   exact .Nx (instL_nf hi hf CN)
  ·cases h
 | .ow j,l,l',a,h,_=>by
  simp only [instP] at h
  cases h
  intro hv
  simp only [TA.av] at hv ⊢
  cases hb:fM (aR H (ρ j)) with
  | none=>exact .top _
  | some x=>
   obtain ⟨t,v',n⟩:=x
   rw [hb] at hv
   simp only at hv ⊢
   rcases uQ hv with ⟨⟨_,rfl⟩,h2,h3⟩ | ⟨cap,sz,t',rfl,h2,cb,h4,h5,h6⟩
   ·simp only [h3,h2,dr]
    exact .xV _ _ _
   ·exact PQ cb h2 h4 h5 h6
 | .bs j n bB,l,l',a,h,_=>by
  simp only [instP] at h
  cases h
  intro hv
  simp only [TA.av] at hv ⊢
  cases hv with
  | ms _ _ _ _ cap sz t cb hc hs fL=>exact .ms _ _ _ _ cap sz t cb hc hs fL
 | .bp j off,l,l',a,h,_=>by
  simp only [instP] at h
  cases h
  intro hv
  simp only [TA.av] at hv ⊢
  cases hv with | bp _ _ cb=>exact .bp _ _ cb
 | .mp j,l,l',a,h,_=>by
  simp only [instP] at h
  cases h
  intro hv
  simp only [TA.av] at hv ⊢
  cases hv with | mp _ cb=>exact .mp _ cb
 | .fp t off,l,l',a,h,hf=>by simp only [wR.flat] at hf;cases hf
 | .pe t p,l,l',a,h,hf=>by
  simp only [instP] at h
  simp only [wR.flat] at hf
  split at h
  ·rename_i b l2 hi
   cases h
   intro hv
   simp only [TA.av] at hv ⊢
   obtain ⟨u,rfl,hu⟩:=hv.Dm
   exact .pe _ _ _ (inst_nf hi hf hu)
  ·cases h
 | .fn f xs ys,l,l',a,h,hf=>by
  simp only [instP] at h
  simp only [wR.flat,Bool.and_eq_true] at hf
  split at h
  ·rename_i as l2 hi
   split at h
   ·rename_i bs l3 hj
    cases h
    intro hv
    simp only [TA.av] at hv ⊢
    obtain ⟨vs,us,rfl,h1,h2⟩:=hv.Ms
    exact .aca (instL_nf hi hf.1 h1) (instL_nf hj hf.2 h2)
   ·cases h
  ·cases h
 | .QV,l,l',a,h,_=>by
  simp only [instP] at h
  cases h
  intro hv
  simp only [TA.av] at hv ⊢
  rw [hv.KT];exact .lit _
 | .kb b,l,l',a,h,_=>by
  simp only [instP] at h
  cases h
  intro hv
  simp only [TA.av,cN] at hv ⊢
  rw [hv.eR];exact .bool _
theorem instL_nf {ρ:Nat→Nat} {H:List (Nat×aY)}:∀ {ps:List wR} {l l':List cI} {as:List TA},instL ρ ps l=some (as,l')→NG ps=true→∀ {w F F' μ K vs},iR w F μ K (dU H as) vs→iR w F' μ K (dU H as) vs
 | [],l,l',as,h,_=>by
  simp only [instL] at h
  cases h
  intro hv
  simp only [dU] at hv ⊢
  rw [hv.iH];exact .nil
 | p::ps,l,l',as,h,hf=>by
  simp only [instL] at h
  simp only [NG,Bool.and_eq_true] at hf
  split at h
  ·rename_i a l2 hi
   split at h
   ·rename_i bs l3 hj
    cases h
    intro hv
    simp only [dU] at hv ⊢
    obtain ⟨v,r,rfl,h1,h2⟩:=hv.cons_inv
    exact .cons (inst_nf hi hf.1 h1) (instL_nf hj hf.2 h2)
   ·cases h
  ·cases h
end
theorem agC {t:Ty} {v:RV} (ht:(v.d||t.flat)=true) (xs:List t.dn):NfB (.row v.b (fg t) xs.length (bY v t xs)):=by
 intro w F F' μ K S n o hB hS
 obtain ⟨cs,t',S',h1,h2⟩:=hB
 refine ⟨cs,t',S',h1,{ h2 with cell:=fun i j hi hj=>⟨?_,(h2.cell i j hi hj).2⟩ }⟩
 have h3:=(h2.cell i j hi hj).1
 have e:bY v t xs i j=(cC t xs i j).deep:=by
  simp only [bY]
  cases hv:v.d with
  | true=>rfl
  | false=>rw [hv,Bool.false_or] at ht;exact (Sl ht xs i j).symm
 rw [e] at h3 ⊢
 exact h3.nf _ (Dy t xs i j) rfl
end Go.Proofs.YtljfmaaadnoggaaGreatDoor.cX
