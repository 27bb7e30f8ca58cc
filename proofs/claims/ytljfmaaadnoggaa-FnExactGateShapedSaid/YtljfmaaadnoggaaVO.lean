/- Calls in the evaluator: contracts with typed data. No condition. -/
import Derived.Test.YtljfmaaadnoggaaVN
namespace Go.Proofs.Ytljfmaaadnoggaa.Abs
open Go Go.RowKit
variable {w w' w'':World} {F F' F'' O O' O'':Nat→Prop} {μ μ' μ'':Nat→Nat} {K K' K'':Nat→Prop} {ft ft':Nat→Nat→Prop} {P:Program} {R:Type}
def TupR:List Ty→Type
 | []=>Unit
 | [t]=>t.dn
 | t::u::ts=>t.dn×TupR (u::ts)
def rDyn:(ts:List Ty)→TupR ts→List Dyn
 | [],_=>[]
 | [t],x=>[⟨t,x⟩]
 | t::u::ts,x=>⟨t,x.1⟩::rDyn (u::ts) x.2
def castR:(ts:List Ty)→List Dyn→Option (TupR ts)
 | [],[]=>some ()
 | [t],[⟨u,x⟩]=>if h:u=t then some (h▸x) else none
 | t::v::ts,⟨u,x⟩::l=>if h:u=t then (match castR (v::ts) l with
  | some y=>some (h▸x,y)
  | none=>none) else none
 | _,_=>none
theorem castR_some:∀ {ts:List Ty} {l:List Dyn} {x:TupR ts},castR ts l=some x→rDyn ts x=l
 | [],[],x,_=>rfl
 | [],_::_,x,h=>by cases h
 | [t],[],x,h=>by cases h
 | [t],[⟨u,y⟩],x,h=>by
  simp only [castR] at h
  split at h
  ·rename_i e
   subst e
   cases h
   rfl
  ·cases h
 | [t],_::_::_,x,h=>by cases h
 | t::v::ts,[],x,h=>by cases h
 | t::v::ts,⟨u,y⟩::l,x,h=>by
  simp only [castR] at h
  split at h
  ·rename_i e
   subst e
   split at h
   ·rename_i z hz
    cases h
    simp only [rDyn,castR_some hz]
   ·cases h
  ·cases h
structure Alt where
 pan:Bool
 res:Pat
 bps:List Bp
def Alt.tys (a:Alt):List Ty:=a.res.tys++tysB a.bps
def OutT:List Alt→Type
 | []=>Empty
 | [a]=>TupR a.tys
 | a::b::r=>TupR a.tys ⊕ OutT (b::r)
def sumC {α β γ:Type} (s:α ⊕ β) (f:α→γ) (g:β→γ):γ:=match s with
 | .inl x=>f x
 | .inr y=>g y
def caseO {X:Type}:(l:List Alt)→OutT l→(Alt→List Dyn→X)→X
 | [a],x,f=>f a (rDyn a.tys x)
 | a::b::r,x,f=>sumC x (fun y=>f a (rDyn a.tys y)) fun z=>caseO (b::r) z f
def outOf (l:List Alt) (o:OutT l):Alt×List Dyn:=caseO l o Prod.mk
theorem caseO_eq {X:Type}:∀ (l:List Alt) (o:OutT l) (f:Alt→List Dyn→X),caseO l o f=f (outOf l o).1 (outOf l o).2
 | [],o,f=>o.elim
 | [a],x,f=>rfl
 | a::b::r,x,f=>by
  cases x with
  | inl y=>rfl
  | inr z=>exact caseO_eq (b::r) z f
structure CT where
 f:FuncId
 args:List Pat
 bps:List Bp
 outs:List Alt
 F:Fn' (tysL args++tysB bps) (Option (OutT outs))
def ConOk (P:Program) (c:CT):Prop:=
 ∀ (x:Tup (tysL c.args++tysB c.bps)) (o:OutT c.outs),appT _ c.F x=some o→
  ∀ as l H,instL id c.args (tupDyn _ x)=some (as,l)→instBs id c.bps 0 l=some (H,[])→
  ∀ v r H',instP id (outOf c.outs o).1.res (outOf c.outs o).2=some (v,r)→instBs id (outOf c.outs o).1.bps 0 r=some (H',[])→
  GC P c.f c.bps.length (avL H as) (hpT H) (cond (outOf c.outs o).1.pan (.pan (v.av H')) (.ret (v.av H'))) (outOf c.outs o).1.bps.length (hpT H')
mutual
def Pat.flat:Pat→Bool
 | .d t=>t.flat
 | .fp _ _=>false
 | .agg ps=>flatL ps
 | .tup ps=>flatL ps
 | .ifc _ p=>p.flat
 | .fn _ xs ys=>flatL xs&&flatL ys
 | _=>true
def flatL:List Pat→Bool
 | []=>true
 | p::r=>p.flat&&flatL r
end
def Bp.flat:Bp→Bool
 | .box ps=>flatL ps
 | .row t v=>v.d||t.flat
 | .dmap i=>Ty.flat (.st i)
 | .boxd t=>t.flat
 | .gone=>true
theorem dav_flat {y:Dyn} (h:y.t.flat=true):NfV (dav y):=by
 intro w F F' μ K v hv
 obtain ⟨t,x⟩:=y
 have leaf:∀ (z:Dyn),(match z.t with | .sl _ | .st _=>false | _=>true)=true→∀ {v},VR w F μ K (dav z) v→VR w F' μ K (dav z) v:=by
  intro z hz v hv
  obtain ⟨t,x⟩:=z
  cases t with
  | sl=>cases hz
  | st=>cases hz
  | int k=>exact (hv.int_inv▸.int _ _:VR w F' μ K (.int k x) v)
  | str=>exact (hv.str_inv▸.str _:VR w F' μ K (.str x) v)
  | bool=>exact (hv.bool_inv▸.bool _:VR w F' μ K (.bool x) v)
 cases t with
 | sl=>cases h
 | int=>exact leaf ⟨_,x⟩ rfl hv
 | str=>exact leaf ⟨_,x⟩ rfl hv
 | bool=>exact leaf ⟨_,x⟩ rfl hv
 | st i=>
  simp only [dav] at hv ⊢
  obtain ⟨vs,rfl,h1,h2⟩:=hv.agg_inv
  refine .mkAgg ⟨h1,fun k hk=>?_⟩
  have h3:=h2 k hk
  have e:cc i x=(get i x).map dav:=(get_cc i x).symm
  rw [e] at h3 hk ⊢
  have hk':k < (get i x).length:=by simpa using hk
  have e2:((get i x).map dav).getD k .top=dav ((get i x)[k]):=by simp [List.getD,hk']
  rw [e2] at h3 ⊢
  refine leaf _ ?_ h3
  have e3:(get i x).map (·.t)=lts i:=get_ts i x
  have:((get i x)[k]).t∈lts i:=by rw [← e3];exact List.mem_map.2 ⟨_,List.getElem_mem hk',rfl⟩
  exact List.all_eq_true.1 h _ this
mutual
theorem inst_nf {ρ:Nat→Nat} {H:List (Nat×TBlk)}:∀ {p:Pat} {l l':List Dyn} {a:TA},instP ρ p l=some (a,l')→p.flat=true→NfV (a.av H)
 | .any,l,l',a,h,_=>by simp only [instP] at h;cases h;simp only [TA.av];exact fun _=>.top _
 | .d t,l,l',a,h,hf=>by
  simp only [instP] at h
  split at h
  ·split at h
   ·rename_i e
    cases h
    intro hv
    rw [dynT_av] at hv ⊢
    simp only [Pat.flat] at hf
    exact dav_flat (e▸hf) hv
   ·cases h
  ·cases h
 | .agg ps,l,l',a,h,hf=>by
  simp only [instP] at h
  simp only [Pat.flat] at hf
  split at h
  ·rename_i as l2 hi
   cases h
   intro hv
   simp only [TA.av] at hv ⊢
   obtain ⟨vs,rfl,hvs⟩:=hv.agg_inv
   exact .mkAgg (instL_nf hi hf hvs)
  ·cases h
 | .tup ps,l,l',a,h,hf=>by
  simp only [instP] at h
  simp only [Pat.flat] at hf
  split at h
  ·rename_i as l2 hi
   cases h
   intro hv
   simp only [TA.av] at hv ⊢
   obtain ⟨vs,rfl,hvs⟩:=hv.tup_inv
   exact .mkTup (instL_nf hi hf hvs)
  ·cases h
 | .ow j,l,l',a,h,_=>by
  simp only [instP] at h
  cases h
  intro hv
  simp only [TA.av] at hv ⊢
  cases hb:shp (lookH H (ρ j)) with
  | none=>exact .top _
  | some x=>
   obtain ⟨t,v',n⟩:=x
   rw [hb] at hv
   simp only at hv ⊢
   rcases rowAV_cap hv with ⟨⟨_,rfl⟩,h2,h3⟩ | ⟨cap,sz,t',rfl,h2,hid,h4,h5,h6⟩
   ·simp only [h3,h2,rowAV]
    exact .vsnil _ _ _
   ·exact rowAV_mk hid h2 h4 h5 h6
 | .bs j n esz,l,l',a,h,_=>by
  simp only [instP] at h
  cases h
  intro hv
  simp only [TA.av] at hv ⊢
  cases hv with
  | ms _ _ _ _ cap sz t hid hc hs hsz=>exact .ms _ _ _ _ cap sz t hid hc hs hsz
 | .bp j off,l,l',a,h,_=>by
  simp only [instP] at h
  cases h
  intro hv
  simp only [TA.av] at hv ⊢
  cases hv with | bp _ _ hid=>exact .bp _ _ hid
 | .mp j,l,l',a,h,_=>by
  simp only [instP] at h
  cases h
  intro hv
  simp only [TA.av] at hv ⊢
  cases hv with | mp _ hid=>exact .mp _ hid
 | .fp t off,l,l',a,h,hf=>by simp only [Pat.flat] at hf;cases hf
 | .ifc t p,l,l',a,h,hf=>by
  simp only [instP] at h
  simp only [Pat.flat] at hf
  split at h
  ·rename_i b l2 hi
   cases h
   intro hv
   simp only [TA.av] at hv ⊢
   obtain ⟨u,rfl,hu⟩:=hv.ifc_inv
   exact .ifc _ _ _ (inst_nf hi hf hu)
  ·cases h
 | .fn f xs ys,l,l',a,h,hf=>by
  simp only [instP] at h
  simp only [Pat.flat,Bool.and_eq_true] at hf
  split at h
  ·rename_i as l2 hi
   split at h
   ·rename_i bs l3 hj
    cases h
    intro hv
    simp only [TA.av] at hv ⊢
    obtain ⟨vs,us,rfl,h1,h2⟩:=hv.fn_inv
    exact .mkFn (instL_nf hi hf.1 h1) (instL_nf hj hf.2 h2)
   ·cases h
  ·cases h
 | .nilI,l,l',a,h,_=>by
  simp only [instP] at h
  cases h
  intro hv
  simp only [TA.av] at hv ⊢
  rw [hv.lit_inv];exact .lit _
 | .kb b,l,l',a,h,_=>by
  simp only [instP] at h
  cases h
  intro hv
  simp only [TA.av,dav] at hv ⊢
  rw [hv.bool_inv];exact .bool _
theorem instL_nf {ρ:Nat→Nat} {H:List (Nat×TBlk)}:∀ {ps:List Pat} {l l':List Dyn} {as:List TA},instL ρ ps l=some (as,l')→flatL ps=true→∀ {w F F' μ K vs},VRs w F μ K (avL H as) vs→VRs w F' μ K (avL H as) vs
 | [],l,l',as,h,_=>by
  simp only [instL] at h
  cases h
  intro hv
  simp only [avL] at hv ⊢
  rw [hv.nil_inv];exact .nil
 | p::ps,l,l',as,h,hf=>by
  simp only [instL] at h
  simp only [flatL,Bool.and_eq_true] at hf
  split at h
  ·rename_i a l2 hi
   split at h
   ·rename_i bs l3 hj
    cases h
    intro hv
    simp only [avL] at hv ⊢
    obtain ⟨v,r,rfl,h1,h2⟩:=hv.cons_inv
    exact .cons (inst_nf hi hf.1 h1) (instL_nf hj hf.2 h2)
   ·cases h
  ·cases h
end
theorem row_nf {t:Ty} {v:RV} (ht:(v.d||t.flat)=true) (xs:List t.dn):NfB (.row v.b (tsz t) xs.length (vcells v t xs)):=by
 intro w F F' μ K S n o hB hS
 obtain ⟨cs,t',S',h1,h2⟩:=hB
 refine ⟨cs,t',S',h1,{ h2 with cell:=fun i j hi hj=>⟨?_,(h2.cell i j hi hj).2⟩ }⟩
 have h3:=(h2.cell i j hi hj).1
 have e:vcells v t xs i j=(rcells t xs i j).deep:=by
  simp only [vcells]
  cases hv:v.d with
  | true=>rfl
  | false=>rw [hv,Bool.false_or] at ht;exact (flat_deep ht xs i j).symm
 rw [e] at h3 ⊢
 exact h3.nf _ (rcells_dat t xs i j) rfl
end Go.Proofs.Ytljfmaaadnoggaa.Abs
