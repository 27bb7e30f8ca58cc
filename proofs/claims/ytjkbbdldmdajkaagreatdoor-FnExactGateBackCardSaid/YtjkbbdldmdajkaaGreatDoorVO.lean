/- Calls in the evaluator: contracts with typed data. No condition. -/
import Derived.Test.YtjkbbdldmdajkaaGreatDoorVN
namespace Go.Proofs.YtjkbbdldmdajkaaGreatDoor.c_
open Go Go.RowKit
variable {w w' xh:World} {F F' Bn O O' vW:Nat→Prop} {μ bD lF:Nat→Nat} {K K' EB:Nat→Prop} {ft bY:Nat→Nat→Prop} {P:Program} {R:Type}
def Yo:List Ty→Type
 | []=>Unit
 | [t]=>t.dn
 | t::u::ts=>t.dn×Yo (u::ts)
def VE:(ts:List Ty)→Yo ts→List cN
 | [],_=>[]
 | [t],x=>[⟨t,x⟩]
 | t::u::ts,x=>⟨t,x.1⟩::VE (u::ts) x.2
def Qi:(ts:List Ty)→List cN→Option (Yo ts)
 | [],[]=>some ()
 | [t],[⟨u,x⟩]=>if h:u=t then some (h▸x) else none
 | t::v::ts,⟨u,x⟩::l=>if h:u=t then (match Qi (v::ts) l with
  | some y=>some (h▸x,y)
  | none=>none) else none
 | _,_=>none
theorem HU:∀ {ts:List Ty} {l:List cN} {x:Yo ts},Qi ts l=some x→VE ts x=l
 | [],[],x,_=>rfl
 | [],_::_,x,h=>by cases h
 | [t],[],x,h=>by cases h
 | [t],[⟨u,y⟩],x,h=>by
  simp only [Qi] at h;split at h
  ·rename_i e;subst e;cases h;rfl
  ·cases h
 | [t],_::_::_,x,h=>by cases h
 | t::v::ts,[],x,h=>by cases h
 | t::v::ts,⟨u,y⟩::l,x,h=>by
  simp only [Qi] at h;split at h
  ·rename_i e;subst e;split at h
   ·rename_i z hz;cases h;simp only [VE,HU hz]
   ·cases h
  ·cases h
structure Alt where
 Kx:Bool
 res:wx
 db:List Bp
def Alt.eR (a:Alt):List Ty:=a.res.eR++RW a.db
def KG:List Alt→Type
 | []=>Empty
 | [a]=>Yo a.eR
 | a::b::r=>Yo a.eR ⊕ KG (b::r)
def yo {α β γ:Type} (s:α ⊕ β) (f:α→γ) (g:β→γ):γ:=match s with
 | .inl x=>f x
 | .inr y=>g y
def Qj {X:Type}:(l:List Alt)→KG l→(Alt→List cN→X)→X
 | [a],x,f=>f a (VE a.eR x)
 | a::b::r,x,f=>yo x (fun y=>f a (VE a.eR y)) fun z=>Qj (b::r) z f
def oD (l:List Alt) (o:KG l):Alt×List cN:=Qj l o Prod.mk
theorem TS {X:Type}:∀ (l:List Alt) (o:KG l) (f:Alt→List cN→X),Qj l o f=f (oD l o).1 (oD l o).2
 | [],o,f=>o.elim
 | [a],x,f=>rfl
 | a::b::r,x,f=>by
  cases x with
  | inl y=>rfl
  | inr z=>exact TS (b::r) z f
structure CT where
 f:FuncId
 args:List wx
 db:List Bp
 outs:List Alt
 F:L7 (DE args++RW db) (Option (KG outs))
def aU (P:Program) (c:CT):Prop:=
 ∀ (x:zf (DE c.args++RW c.db)) (o:KG c.outs),yG _ c.F x=some o→
  ∀ as l H,instL id c.args (fo _ x)=some (as,l)→instBs id c.db 0 l=some (H,[])→
  ∀ v r H',instP id (oD c.outs o).1.res (oD c.outs o).2=some (v,r)→instBs id (oD c.outs o).1.db 0 r=some (H',[])→
  GC P c.f c.db.length (er H as) (xk H) (cond (oD c.outs o).1.Kx (.Kx (v.av H')) (.ret (v.av H'))) (oD c.outs o).1.db.length (xk H')
mutual
def wx.flat:wx→Bool
 | .d t=>t.flat
 | .fp _ _=>false
 | .agg ps=>Lz ps
 | .nO ps=>Lz ps
 | .pJ _ p=>p.flat
 | .fn _ xs ys=>Lz xs&&Lz ys
 | _=>true
def Lz:List wx→Bool
 | []=>true
 | p::r=>p.flat&&Lz r
end
def Bp.flat:Bp→Bool
 | .box ps=>Lz ps
 | .row t v=>v.d||t.flat
 | .dmap i=>Ty.flat (.st i)
 | .cQ t=>t.flat
 | .gone=>true
theorem Oc {y:cN} (h:y.t.flat=true):Ws (cT y):=by
 intro w F F' μ K v hv;obtain ⟨t,x⟩:=y;have leaf:∀ (z:cN),(match z.t with | .sl _ | .st _=>false | _=>true)=true→∀ {v},VR w F μ K (cT z) v→VR w F' μ K (cT z) v:=by
  intro z hz v hv;obtain ⟨t,x⟩:=z;cases t with
  | sl=>cases hz
  | st=>cases hz
  | int k=>exact (hv.dd▸.int _ _:VR w F' μ K (.int k x) v)
  | str=>exact (hv.jF▸.str _:VR w F' μ K (.str x) v)
  | bool=>exact (hv.fe▸.bool _:VR w F' μ K (.bool x) v)
 cases t with
 | sl=>cases h
 | int=>exact leaf ⟨_,x⟩ rfl hv
 | str=>exact leaf ⟨_,x⟩ rfl hv
 | bool=>exact leaf ⟨_,x⟩ rfl hv
 | st i=>
  simp only [cT] at hv ⊢;obtain ⟨vs,rfl,h1,h2⟩:=hv.fS;refine .rO ⟨h1,fun k hk=>?_⟩;have h3:=h2 k hk;have e:cc i x=(get i x).map cT:=(J1 i x).symm;rw [e] at h3 hk ⊢;have Gi:k < (get i x).length:=by simpa using hk
  have e2:((get i x).map cT).getD k .top=cT ((get i x)[k]):=by simp [List.getD,Gi]
  rw [e2] at h3 ⊢;refine leaf _ ?_ h3;have e3:(get i x).map (·.t)=Az i:=qZ i x;have:((get i x)[k]).t∈Az i:=by rw [← e3];exact List.mem_map.2 ⟨_,List.getElem_mem Gi,rfl⟩
  exact List.all_eq_true.1 h _ this
mutual
theorem inst_nf {ρ:Nat→Nat} {H:List (Nat×aY)}:∀ {p:wx} {l l':List cN} {a:TA},instP ρ p l=some (a,l')→p.flat=true→Ws (a.av H)
 | .any,l,l',a,h,_=>by simp only [instP] at h;cases h;simp only [TA.av];exact fun _=>.top _
 | .d t,l,l',a,h,hf=>by
  simp only [instP] at h;split at h
  ·split at h
   ·rename_i e;cases h;intro hv;rw [Mn] at hv ⊢;simp only [wx.flat] at hf;exact Oc (e▸hf) hv
   ·cases h
  ·cases h
 | .agg ps,l,l',a,h,hf=>by
  simp only [instP] at h;simp only [wx.flat] at hf;split at h
  ·rename_i as l2 hi;cases h;intro hv;simp only [TA.av] at hv ⊢;obtain ⟨vs,rfl,BM⟩:=hv.fS;exact .rO (instL_nf hi hf BM)
  ·cases h
 | .nO ps,l,l',a,h,hf=>by
  simp only [instP] at h;simp only [wx.flat] at hf;split at h
  ·rename_i as l2 hi;cases h;intro hv;simp only [TA.av] at hv ⊢;obtain ⟨vs,rfl,BM⟩:=hv.IZ;exact .Lr (instL_nf hi hf BM)
  ·cases h
 | .ow j,l,l',a,h,_=>by
  simp only [instP] at h;cases h;intro hv;simp only [TA.av] at hv ⊢;cases hb:fG (aT H (ρ j)) with
  | none=>exact .top _
  | some x=>
   obtain ⟨t,v',n⟩:=x;rw [hb] at hv;simp only at hv ⊢;rcases rP hv with ⟨⟨_,rfl⟩,h2,h3⟩ | ⟨cap,sz,t',rfl,h2,bZ,h4,h5,h6⟩
   ·simp only [h3,h2,du];exact .s8 _ _ _
   ·exact I_ bZ h2 h4 h5 h6
 | .bs j n bA,l,l',a,h,_=>by
  simp only [instP] at h;cases h;intro hv;simp only [TA.av] at hv ⊢;cases hv with
  | ms _ _ _ _ cap sz t bZ hc hs fT=>exact .ms _ _ _ _ cap sz t bZ hc hs fT
 | .bp j off,l,l',a,h,_=>by
  simp only [instP] at h;cases h;intro hv;simp only [TA.av] at hv ⊢;cases hv with | bp _ _ bZ=>exact .bp _ _ bZ
 | .mp j,l,l',a,h,_=>by
  simp only [instP] at h;cases h;intro hv;simp only [TA.av] at hv ⊢;cases hv with | mp _ bZ=>exact .mp _ bZ
 | .fp t off,l,l',a,h,hf=>by simp only [wx.flat] at hf;cases hf
 | .pJ t p,l,l',a,h,hf=>by
  simp only [instP] at h;simp only [wx.flat] at hf;split at h
  ·rename_i b l2 hi;cases h;intro hv;simp only [TA.av] at hv ⊢;obtain ⟨u,rfl,hu⟩:=hv.Cn;exact .pJ _ _ _ (inst_nf hi hf hu)
  ·cases h
 | .fn f xs ys,l,l',a,h,hf=>by
  simp only [instP] at h;simp only [wx.flat,Bool.and_eq_true] at hf;split at h
  ·rename_i as l2 hi;split at h
   ·rename_i bs l3 hj;cases h;intro hv;simp only [TA.av] at hv ⊢;obtain ⟨vs,us,rfl,h1,h2⟩:=hv.Ko;exact .aad (instL_nf hi hf.1 h1) (instL_nf hj hf.2 h2)
   ·cases h
  ·cases h
 | .QD,l,l',a,h,_=>by
  simp only [instP] at h;cases h;intro hv;simp only [TA.av] at hv ⊢;rw [hv.IY];exact .lit _
 | .kb b,l,l',a,h,_=>by
  simp only [instP] at h;cases h;intro hv;simp only [TA.av,cT] at hv ⊢;rw [hv.fe];exact .bool _
theorem instL_nf {ρ:Nat→Nat} {H:List (Nat×aY)}:∀ {ps:List wx} {l l':List cN} {as:List TA},instL ρ ps l=some (as,l')→Lz ps=true→∀ {w F F' μ K vs},iU w F μ K (er H as) vs→iU w F' μ K (er H as) vs
 | [],l,l',as,h,_=>by
  simp only [instL] at h;cases h;intro hv;simp only [er] at hv ⊢;rw [hv.iJ];exact .nil
 | p::ps,l,l',as,h,hf=>by
  simp only [instL] at h;simp only [Lz,Bool.and_eq_true] at hf;split at h
  ·rename_i a l2 hi;split at h
   ·rename_i bs l3 hj;cases h;intro hv;simp only [er] at hv ⊢;obtain ⟨v,r,rfl,h1,h2⟩:=hv.cons_inv;exact .cons (inst_nf hi hf.1 h1) (instL_nf hj hf.2 h2)
   ·cases h
  ·cases h
end
theorem aek {t:Ty} {v:RV} (ht:(v.d||t.flat)=true) (xs:List t.dn):NfB (.row v.b (fx t) xs.length (bV v t xs)):=by
 intro w F F' μ K S n o hB hS;obtain ⟨cs,t',S',h1,h2⟩:=hB;refine ⟨cs,t',S',h1,{ h2 with cell:=fun i j hi hj=>⟨?_,(h2.cell i j hi hj).2⟩ }⟩;have h3:=(h2.cell i j hi hj).1;have e:bV v t xs i j=(cC t xs i j).deep:=by
  simp only [bV];cases hv:v.d with
  | true=>rfl
  | false=>rw [hv,Bool.false_or] at ht;exact (Qb ht xs i j).symm
 rw [e] at h3 ⊢;exact h3.nf _ (Cx t xs i j) rfl
end Go.Proofs.YtjkbbdldmdajkaaGreatDoor.c_
