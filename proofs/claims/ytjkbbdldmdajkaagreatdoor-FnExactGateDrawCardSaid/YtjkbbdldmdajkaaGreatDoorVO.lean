/- Calls in the evaluator: contracts with typed data. No condition. -/
import Derived.Test.YtjkbbdldmdajkaaGreatDoorVN
namespace Go.Proofs.YtjkbbdldmdajkaaGreatDoor.c5
open Go Go.RowKit
variable {w w' ss:World} {F F' zT O O' uo:Nat→Prop} {μ aZ jE:Nat→Nat} {K K' C9:Nat→Prop} {ft bX:Nat→Nat→Prop} {P:Program} {R:Type}
def X4:List Ty→Type
 | []=>Unit
 | [t]=>t.dn
 | t::u::ts=>t.dn×X4 (u::ts)
def Ve:(ts:List Ty)→X4 ts→List cG
 | [],_=>[]
 | [t],x=>[⟨t,x⟩]
 | t::u::ts,x=>⟨t,x.1⟩::Ve (u::ts) x.2
def PU:(ts:List Ty)→List cG→Option (X4 ts)
 | [],[]=>some ()
 | [t],[⟨u,x⟩]=>if h:u=t then some (h▸x) else none
 | t::v::ts,⟨u,x⟩::l=>if h:u=t then (match PU (v::ts) l with
  | some y=>some (h▸x,y)
  | none=>none) else none
 | _,_=>none
theorem Hj:∀ {ts:List Ty} {l:List cG} {x:X4 ts},PU ts l=some x→Ve ts x=l
 | [],[],x,_=>rfl
 | [],_::_,x,h=>by cases h
 | [t],[],x,h=>by cases h
 | [t],[⟨u,y⟩],x,h=>by
  simp only [PU] at h;split at h
  ·rename_i e;subst e;cases h;rfl
  ·cases h
 | [t],_::_::_,x,h=>by cases h
 | t::v::ts,[],x,h=>by cases h
 | t::v::ts,⟨u,y⟩::l,x,h=>by
  simp only [PU] at h;split at h
  ·rename_i e;subst e;split at h
   ·rename_i z hz;cases h;simp only [Ve,Hj hz]
   ·cases h
  ·cases h
structure Alt where
 zU:Bool
 res:sA
 cE:List Bp
def Alt.ey (a:Alt):List Ty:=a.res.ey++NB a.cE
def Ej:List Alt→Type
 | []=>Empty
 | [a]=>X4 a.ey
 | a::b::r=>X4 a.ey ⊕ Ej (b::r)
def xA {α β γ:Type} (s:α ⊕ β) (f:α→γ) (g:β→γ):γ:=match s with
 | .inl x=>f x
 | .inr y=>g y
def PV {X:Type}:(l:List Alt)→Ej l→(Alt→List cG→X)→X
 | [a],x,f=>f a (Ve a.ey x)
 | a::b::r,x,f=>xA x (fun y=>f a (Ve a.ey y)) fun z=>PV (b::r) z f
def fU (l:List Alt) (o:Ej l):Alt×List cG:=PV l o Prod.mk
theorem Tp {X:Type}:∀ (l:List Alt) (o:Ej l) (f:Alt→List cG→X),PV l o f=f (fU l o).1 (fU l o).2
 | [],o,f=>o.elim
 | [a],x,f=>rfl
 | a::b::r,x,f=>by
  cases x with
  | inl y=>rfl
  | inr z=>exact Tp (b::r) z f
structure CT where
 f:FuncId
 args:List sA
 cE:List Bp
 outs:List Alt
 F:LA (zN args++NB cE) (Option (Ej outs))
def ad6 (C:Nc) (P:Program) (c:CT):Prop:=
 ∀ (x:xP (zN c.args++NB c.cE)) (o:Ej c.outs),xQ _ c.F x=some o→
  ∀ as l H,instL id c.args (ew _ x)=some (as,l)→instBs id c.cE 0 l=some (H,[])→
  ∀ v r H',instP id (fU c.outs o).1.res (fU c.outs o).2=some (v,r)→instBs id (fU c.outs o).1.cE 0 r=some (H',[])→
  GCm C P c.f c.cE.length (di H as) (sx H) (cond (fU c.outs o).1.zU (.zU (v.av H')) (.ret (v.av H'))) (fU c.outs o).1.cE.length (sx H')
def aV (P:Program) (c:CT):Prop:=ad6 (Calls P) P c
mutual
def sA.flat:sA→Bool
 | .d t=>t.flat
 | .fp _ _=>false
 | .rb _ _=>false
 | .agg ps=>KZ ps
 | .ov ps=>KZ ps
 | .oR _ p=>p.flat
 | .fn _ xs ys=>KZ xs&&KZ ys
 | _=>true
def KZ:List sA→Bool
 | []=>true
 | p::r=>p.flat&&KZ r
end
def Bp.flat:Bp→Bool
 | .box ps=>KZ ps
 | .row t v=>v.d||t.flat
 | .dmap i=>Ty.flat (.st i)
 | .c7 t=>t.flat
 | .gone=>true
theorem NG {y:cG} (h:y.t.flat=true):Wa (cL y):=by
 intro w F F' μ K v hv;obtain ⟨t,x⟩:=y;have leaf:∀ (z:cG),(match z.t with | .sl _ | .st _=>false | _=>true)=true→∀ {v},VR w F μ K (cL z) v→VR w F' μ K (cL z) v:=by
  intro z hz v hv;obtain ⟨t,x⟩:=z;cases t with
  | sl=>cases hz
  | st=>cases hz
  | int k=>exact (hv.c8▸.int _ _:VR w F' μ K (.int k x) v)
  | str=>exact (hv.jn▸.str _:VR w F' μ K (.str x) v)
  | bool=>exact (hv.eR▸.bool _:VR w F' μ K (.bool x) v)
 cases t with
 | sl=>cases h
 | int=>exact leaf ⟨_,x⟩ rfl hv
 | str=>exact leaf ⟨_,x⟩ rfl hv
 | bool=>exact leaf ⟨_,x⟩ rfl hv
 | st i=>
  simp only [cL] at hv ⊢;obtain ⟨vs,rfl,h1,h2⟩:=hv.fH;refine .qO ⟨h1,fun k hk=>?_⟩;have h3:=h2 k hk;have e:cc i x=(get i x).map cL:=(Jx i x).symm;rw [e] at h3 hk ⊢;have FG:k < (get i x).length:=by simpa using hk
  have e2:((get i x).map cL).getD k .top=cL ((get i x)[k]):=by simp [List.getD,FG]
  rw [e2] at h3 ⊢;refine leaf _ ?_ h3;have e3:(get i x).map (·.t)=zS i:=qd i x;have:((get i x)[k]).t∈zS i:=by rw [← e3];exact List.mem_map.2 ⟨_,List.getElem_mem FG,rfl⟩
  exact List.all_eq_true.1 h _ this
mutual
theorem inst_nf {ρ:Nat→Nat} {H:List (Nat×aX)}:∀ {p:sA} {l l':List cG} {a:TA},instP ρ p l=some (a,l')→p.flat=true→Wa (a.av H)
 | .any,l,l',a,h,_=>by simp only [instP] at h;cases h;simp only [TA.av];exact fun _=>.top _
 | .d t,l,l',a,h,hf=>by
  simp only [instP] at h;split at h
  ·split at h
   ·rename_i e;cases h;intro hv;rw [LV] at hv ⊢;simp only [sA.flat] at hf;exact NG (e▸hf) hv
   ·cases h
  ·cases h
 | .agg ps,l,l',a,h,hf=>by
  simp only [instP] at h;simp only [sA.flat] at hf;split at h
  ·rename_i as l2 hi;cases h;intro hv;simp only [TA.av] at hv ⊢;obtain ⟨vs,rfl,wJ⟩:=hv.fH;exact .qO (instL_nf hi hf wJ)
  ·cases h
 | .ov ps,l,l',a,h,hf=>by
  simp only [instP] at h;simp only [sA.flat] at hf;split at h
  ·rename_i as l2 hi;cases h;intro hv;simp only [TA.av] at hv ⊢;obtain ⟨vs,rfl,wJ⟩:=hv.It;exact .KR (instL_nf hi hf wJ)
  ·cases h
 | .ow j,l,l',a,h,_=>by
  simp only [instP] at h;cases h;intro hv;simp only [TA.av] at hv ⊢;cases hb:fv (aS H (ρ j)) with
  | none=>exact .top _
  | some x=>
   obtain ⟨t,v',n⟩:=x;rw [hb] at hv;simp only at hv ⊢;rcases qP hv with ⟨⟨_,rfl⟩,h2,h3⟩ | ⟨cap,sz,t',rfl,h2,bZ,h4,h5,h6⟩
   ·simp only [h3,h2,dh];exact .sb _ _ _
   ·exact IE bZ h2 h4 h5 h6
 | .bs j n bB,l,l',a,h,_=>by
  simp only [instP] at h;cases h;intro hv;simp only [TA.av] at hv ⊢;cases hv with
  | ms _ _ _ _ cap sz t bZ hc hs fh=>exact .ms _ _ _ _ cap sz t bZ hc hs fh
 | .bp j off,l,l',a,h,_=>by
  simp only [instP] at h;cases h;intro hv;simp only [TA.av] at hv ⊢;cases hv with | bp _ _ bZ=>exact .bp _ _ bZ
 | .mp j,l,l',a,h,_=>by
  simp only [instP] at h;cases h;intro hv;simp only [TA.av] at hv ⊢;cases hv with | mp _ bZ=>exact .mp _ bZ
 | .fp t off,l,l',a,h,hf=>by simp only [sA.flat] at hf;cases hf
 | .rb ps off,l,l',a,h,hf=>by simp only [sA.flat] at hf;cases hf
 | .oR t p,l,l',a,h,hf=>by
  simp only [instP] at h;simp only [sA.flat] at hf;split at h
  ·rename_i b l2 hi;cases h;intro hv;simp only [TA.av] at hv ⊢;obtain ⟨u,rfl,hu⟩:=hv.BH;exact .oR _ _ _ (inst_nf hi hf hu)
  ·cases h
 | .fn f xs ys,l,l',a,h,hf=>by
  simp only [instP] at h;simp only [sA.flat,Bool.and_eq_true] at hf;split at h
  ·rename_i as l2 hi;split at h
   ·rename_i bs l3 hj;cases h;intro hv;simp only [TA.av] at hv ⊢;obtain ⟨vs,us,rfl,h1,h2⟩:=hv.G7;exact .ZB (instL_nf hi hf.1 h1) (instL_nf hj hf.2 h2)
   ·cases h
  ·cases h
 | .Qg,l,l',a,h,_=>by
  simp only [instP] at h;cases h;intro hv;simp only [TA.av] at hv ⊢;rw [hv.Ir];exact .lit _
 | .kb b,l,l',a,h,_=>by
  simp only [instP] at h;cases h;intro hv;simp only [TA.av,cL] at hv ⊢;rw [hv.eR];exact .bool _
theorem instL_nf {ρ:Nat→Nat} {H:List (Nat×aX)}:∀ {ps:List sA} {l l':List cG} {as:List TA},instL ρ ps l=some (as,l')→KZ ps=true→∀ {w F F' μ K vs},gZ w F μ K (di H as) vs→gZ w F' μ K (di H as) vs
 | [],l,l',as,h,_=>by
  simp only [instL] at h;cases h;intro hv;simp only [di] at hv ⊢;rw [hv.gY];exact .nil
 | p::ps,l,l',as,h,hf=>by
  simp only [instL] at h;simp only [KZ,Bool.and_eq_true] at hf;split at h
  ·rename_i a l2 hi;split at h
   ·rename_i bs l3 hj;cases h;intro hv;simp only [di] at hv ⊢;obtain ⟨v,r,rfl,h1,h2⟩:=hv.cons_inv;exact .cons (inst_nf hi hf.1 h1) (instL_nf hj hf.2 h2)
   ·cases h
  ·cases h
end
theorem ad7 {t:Ty} {v:RV} (ht:(v.d||t.flat)=true) (xs:List t.dn):NfB (.row v.b (ff t) xs.length (bV v t xs)):=by
 intro w F F' μ K S n o hB hS;obtain ⟨cs,t',S',h1,h2⟩:=hB;refine ⟨cs,t',S',h1,{ h2 with cell:=fun i j hi hj=>⟨?_,(h2.cell i j hi hj).2⟩ }⟩;have h3:=(h2.cell i j hi hj).1;have e:bV v t xs i j=(cz t xs i j).deep:=by
  simp only [bV];cases hv:v.d with
  | true=>rfl
  | false=>rw [hv,Bool.false_or] at ht;exact (PM ht xs i j).symm
 rw [e] at h3 ⊢;exact h3.nf _ (BS t xs i j) rfl
end Go.Proofs.YtjkbbdldmdajkaaGreatDoor.c5
