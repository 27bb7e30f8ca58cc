/- Calls in the evaluator: contracts with typed data. No condition. -/
import Derived.Test.YtjkbbdldmdajkaaGreatDoorVN
namespace Go.Proofs.YtjkbbdldmdajkaaGreatDoor.c_
open Go Go.RowKit
variable {w w' xk:World} {F F' Bs O O' v8:Nat→Prop} {μ bC lG:Nat→Nat} {K K' EF:Nat→Prop} {ft bZ:Nat→Nat→Prop} {P:Program} {R:Type}
def Yr:List Ty→Type
 | []=>Unit
 | [t]=>t.dn
 | t::u::ts=>t.dn×Yr (u::ts)
def VH:(ts:List Ty)→Yr ts→List cN
 | [],_=>[]
 | [t],x=>[⟨t,x⟩]
 | t::u::ts,x=>⟨t,x.1⟩::VH (u::ts) x.2
def Qm:(ts:List Ty)→List cN→Option (Yr ts)
 | [],[]=>some ()
 | [t],[⟨u,x⟩]=>if h:u=t then some (h▸x) else none
 | t::v::ts,⟨u,x⟩::l=>if h:u=t then (match Qm (v::ts) l with
  | some y=>some (h▸x,y)
  | none=>none) else none
 | _,_=>none
theorem HZ:∀ {ts:List Ty} {l:List cN} {x:Yr ts},Qm ts l=some x→VH ts x=l
 | [],[],x,_=>rfl
 | [],_::_,x,h=>by cases h
 | [t],[],x,h=>by cases h
 | [t],[⟨u,y⟩],x,h=>by
  simp only [Qm] at h;split at h
  ·rename_i e;subst e;cases h;rfl
  ·cases h
 | [t],_::_::_,x,h=>by cases h
 | t::v::ts,[],x,h=>by cases h
 | t::v::ts,⟨u,y⟩::l,x,h=>by
  simp only [Qm] at h;split at h
  ·rename_i e;subst e;split at h
   ·rename_i z hz;cases h;simp only [VH,HZ hz]
   ·cases h
  ·cases h
structure Alt where
 Ky:Bool
 res:vm
 dc:List Bp
def Alt.eR (a:Alt):List Ty:=a.res.eR++RY a.dc
def KH:List Alt→Type
 | []=>Empty
 | [a]=>Yr a.eR
 | a::b::r=>Yr a.eR ⊕ KH (b::r)
def yr {α β γ:Type} (s:α ⊕ β) (f:α→γ) (g:β→γ):γ:=match s with
 | .inl x=>f x
 | .inr y=>g y
def Qn {X:Type}:(l:List Alt)→KH l→(Alt→List cN→X)→X
 | [a],x,f=>f a (VH a.eR x)
 | a::b::r,x,f=>yr x (fun y=>f a (VH a.eR y)) fun z=>Qn (b::r) z f
def oE (l:List Alt) (o:KH l):Alt×List cN:=Qn l o Prod.mk
theorem TW {X:Type}:∀ (l:List Alt) (o:KH l) (f:Alt→List cN→X),Qn l o f=f (oE l o).1 (oE l o).2
 | [],o,f=>o.elim
 | [a],x,f=>rfl
 | a::b::r,x,f=>by
  cases x with
  | inl y=>rfl
  | inr z=>exact TW (b::r) z f
structure CT where
 f:FuncId
 args:List vm
 dc:List Bp
 outs:List Alt
 F:L8 (CE args++RY dc) (Option (KH outs))
def aU (P:Program) (c:CT):Prop:=
 ∀ (x:zj (CE c.args++RY c.dc)) (o:KH c.outs),yJ _ c.F x=some o→
  ∀ as l H,instL id c.args (fq _ x)=some (as,l)→instBs id c.dc 0 l=some (H,[])→
  ∀ v r H',instP id (oE c.outs o).1.res (oE c.outs o).2=some (v,r)→instBs id (oE c.outs o).1.dc 0 r=some (H',[])→
  GC P c.f c.dc.length (dD H as) (xn H) (cond (oE c.outs o).1.Ky (.Ky (v.av H')) (.ret (v.av H'))) (oE c.outs o).1.dc.length (xn H')
mutual
def vm.flat:vm→Bool
 | .d t=>t.flat
 | .fp _ _=>false
 | .rb _ _=>false
 | .agg ps=>LA ps
 | .nP ps=>LA ps
 | .pK _ p=>p.flat
 | .fn _ xs ys=>LA xs&&LA ys
 | _=>true
def LA:List vm→Bool
 | []=>true
 | p::r=>p.flat&&LA r
end
def Bp.flat:Bp→Bool
 | .box ps=>LA ps
 | .row t v=>v.d||t.flat
 | .dmap i=>Ty.flat (.st i)
 | .cQ t=>t.flat
 | .gone=>true
theorem Oe {y:cN} (h:y.t.flat=true):Wv (cR y):=by
 intro w F F' μ K v hv;obtain ⟨t,x⟩:=y;have leaf:∀ (z:cN),(match z.t with | .sl _ | .st _=>false | _=>true)=true→∀ {v},VR w F μ K (cR z) v→VR w F' μ K (cR z) v:=by
  intro z hz v hv;obtain ⟨t,x⟩:=z;cases t with
  | sl=>cases hz
  | st=>cases hz
  | int k=>exact (hv.de▸.int _ _:VR w F' μ K (.int k x) v)
  | str=>exact (hv.jF▸.str _:VR w F' μ K (.str x) v)
  | bool=>exact (hv.fe▸.bool _:VR w F' μ K (.bool x) v)
 cases t with
 | sl=>cases h
 | int=>exact leaf ⟨_,x⟩ rfl hv
 | str=>exact leaf ⟨_,x⟩ rfl hv
 | bool=>exact leaf ⟨_,x⟩ rfl hv
 | st i=>
  simp only [cR] at hv ⊢;obtain ⟨vs,rfl,h1,h2⟩:=hv.fU;refine .rP ⟨h1,fun k hk=>?_⟩;have h3:=h2 k hk;have e:cc i x=(get i x).map cR:=(J2 i x).symm;rw [e] at h3 hk ⊢;have Gn:k < (get i x).length:=by simpa using hk
  have e2:((get i x).map cR).getD k .top=cR ((get i x)[k]):=by simp [List.getD,Gn]
  rw [e2] at h3 ⊢;refine leaf _ ?_ h3;have e3:(get i x).map (·.t)=AE i:=q8 i x;have:((get i x)[k]).t∈AE i:=by rw [← e3];exact List.mem_map.2 ⟨_,List.getElem_mem Gn,rfl⟩
  exact List.all_eq_true.1 h _ this
mutual
theorem inst_nf {ρ:Nat→Nat} {H:List (Nat×aY)}:∀ {p:vm} {l l':List cN} {a:TA},instP ρ p l=some (a,l')→p.flat=true→Wv (a.av H)
 | .any,l,l',a,h,_=>by simp only [instP] at h;cases h;simp only [TA.av];exact fun _=>.top _
 | .d t,l,l',a,h,hf=>by
  simp only [instP] at h;split at h
  ·split at h
   ·rename_i e;cases h;intro hv;rw [Mo] at hv ⊢;simp only [vm.flat] at hf;exact Oe (e▸hf) hv
   ·cases h
  ·cases h
 | .agg ps,l,l',a,h,hf=>by
  simp only [instP] at h;simp only [vm.flat] at hf;split at h
  ·rename_i as l2 hi;cases h;intro hv;simp only [TA.av] at hv ⊢;obtain ⟨vs,rfl,zd⟩:=hv.fU;exact .rP (instL_nf hi hf zd)
  ·cases h
 | .nP ps,l,l',a,h,hf=>by
  simp only [instP] at h;simp only [vm.flat] at hf;split at h
  ·rename_i as l2 hi;cases h;intro hv;simp only [TA.av] at hv ⊢;obtain ⟨vs,rfl,zd⟩:=hv.I1;exact .Ls (instL_nf hi hf zd)
  ·cases h
 | .ow j,l,l',a,h,_=>by
  simp only [instP] at h;cases h;intro hv;simp only [TA.av] at hv ⊢;cases hb:fH (aT H (ρ j)) with
  | none=>exact .top _
  | some x=>
   obtain ⟨t,v',n⟩:=x;rw [hb] at hv;simp only at hv ⊢;rcases rQ hv with ⟨⟨_,rfl⟩,h2,h3⟩ | ⟨cap,sz,t',rfl,h2,bY,h4,h5,h6⟩
   ·simp only [h3,h2,du];exact .s9 _ _ _
   ·exact Jb bY h2 h4 h5 h6
 | .bs j n bA,l,l',a,h,_=>by
  simp only [instP] at h;cases h;intro hv;simp only [TA.av] at hv ⊢;cases hv with
  | ms _ _ _ _ cap sz t bY hc hs fV=>exact .ms _ _ _ _ cap sz t bY hc hs fV
 | .bp j off,l,l',a,h,_=>by
  simp only [instP] at h;cases h;intro hv;simp only [TA.av] at hv ⊢;cases hv with | bp _ _ bY=>exact .bp _ _ bY
 | .mp j,l,l',a,h,_=>by
  simp only [instP] at h;cases h;intro hv;simp only [TA.av] at hv ⊢;cases hv with | mp _ bY=>exact .mp _ bY
 | .fp t off,l,l',a,h,hf=>by simp only [vm.flat] at hf;cases hf
 | .rb ps off,l,l',a,h,hf=>by simp only [vm.flat] at hf;cases hf
 | .pK t p,l,l',a,h,hf=>by
  simp only [instP] at h;simp only [vm.flat] at hf;split at h
  ·rename_i b l2 hi;cases h;intro hv;simp only [TA.av] at hv ⊢;obtain ⟨u,rfl,hu⟩:=hv.Co;exact .pK _ _ _ (inst_nf hi hf hu)
  ·cases h
 | .fn f xs ys,l,l',a,h,hf=>by
  simp only [instP] at h;simp only [vm.flat,Bool.and_eq_true] at hf;split at h
  ·rename_i as l2 hi;split at h
   ·rename_i bs l3 hj;cases h;intro hv;simp only [TA.av] at hv ⊢;obtain ⟨vs,us,rfl,h1,h2⟩:=hv.Kq;exact .aah (instL_nf hi hf.1 h1) (instL_nf hj hf.2 h2)
   ·cases h
  ·cases h
 | .QH,l,l',a,h,_=>by
  simp only [instP] at h;cases h;intro hv;simp only [TA.av] at hv ⊢;rw [hv.I0];exact .lit _
 | .kb b,l,l',a,h,_=>by
  simp only [instP] at h;cases h;intro hv;simp only [TA.av,cR] at hv ⊢;rw [hv.fe];exact .bool _
theorem instL_nf {ρ:Nat→Nat} {H:List (Nat×aY)}:∀ {ps:List vm} {l l':List cN} {as:List TA},instL ρ ps l=some (as,l')→LA ps=true→∀ {w F F' μ K vs},iL w F μ K (dD H as) vs→iL w F' μ K (dD H as) vs
 | [],l,l',as,h,_=>by
  simp only [instL] at h;cases h;intro hv;simp only [dD] at hv ⊢;rw [hv.iK];exact .nil
 | p::ps,l,l',as,h,hf=>by
  simp only [instL] at h;simp only [LA,Bool.and_eq_true] at hf;split at h
  ·rename_i a l2 hi;split at h
   ·rename_i bs l3 hj;cases h;intro hv;simp only [dD] at hv ⊢;obtain ⟨v,r,rfl,h1,h2⟩:=hv.cons_inv;exact .cons (inst_nf hi hf.1 h1) (instL_nf hj hf.2 h2)
   ·cases h
  ·cases h
end
theorem aeo {t:Ty} {v:RV} (ht:(v.d||t.flat)=true) (xs:List t.dn):NfB (.row v.b (fy t) xs.length (bV v t xs)):=by
 intro w F F' μ K S n o hB hS;obtain ⟨cs,t',S',h1,h2⟩:=hB;refine ⟨cs,t',S',h1,{ h2 with cell:=fun i j hi hj=>⟨?_,(h2.cell i j hi hj).2⟩ }⟩;have h3:=(h2.cell i j hi hj).1;have e:bV v t xs i j=(cC t xs i j).deep:=by
  simp only [bV];cases hv:v.d with
  | true=>rfl
  | false=>rw [hv,Bool.false_or] at ht;exact (Qf ht xs i j).symm
 rw [e] at h3 ⊢;exact h3.nf _ (Cy t xs i j) rfl
end Go.Proofs.YtjkbbdldmdajkaaGreatDoor.c_
