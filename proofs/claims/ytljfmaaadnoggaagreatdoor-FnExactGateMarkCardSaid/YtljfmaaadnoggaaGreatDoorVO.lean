/- Calls in the evaluator: contracts with typed data. No condition. -/
import Derived.Test.YtljfmaaadnoggaaGreatDoorVN
namespace Go.Proofs.YtljfmaaadnoggaaGreatDoor.cU
open Go Go.RowKit
variable {w w' vP:World} {F F' Am O O' ux:Nat→Prop} {μ bB jV:Nat→Nat} {K K' DQ:Nat→Prop} {ft b7:Nat→Nat→Prop} {P:Program} {R:Type}
def XJ:List Ty→Type
 | []=>Unit
 | [t]=>t.dn
 | t::u::ts=>t.dn×XJ (u::ts)
def U_:(ts:List Ty)→XJ ts→List cE
 | [],_=>[]
 | [t],x=>[⟨t,x⟩]
 | t::u::ts,x=>⟨t,x.1⟩::U_ (u::ts) x.2
def PW:(ts:List Ty)→List cE→Option (XJ ts)
 | [],[]=>some ()
 | [t],[⟨u,x⟩]=>if h:u=t then some (h▸x) else none
 | t::v::ts,⟨u,x⟩::l=>if h:u=t then (match PW (v::ts) l with
  | some y=>some (h▸x,y)
  | none=>none) else none
 | _,_=>none
theorem Ho:∀ {ts:List Ty} {l:List cE} {x:XJ ts},PW ts l=some x→U_ ts x=l
 | [],[],x,_=>rfl
 | [],_::_,x,h=>by cases h
 | [t],[],x,h=>by cases h
 | [t],[⟨u,y⟩],x,h=>by
  simp only [PW] at h
  split at h
  ·rename_i e
   subst e
   cases h
   rfl
  ·cases h
 | [t],_::_::_,x,h=>by cases h
 | t::v::ts,[],x,h=>by cases h
 | t::v::ts,⟨u,y⟩::l,x,h=>by
  simp only [PW] at h
  split at h
  ·rename_i e
   subst e
   split at h
   ·rename_i z hz
    cases h
    simp only [U_,Ho hz]
   ·cases h
  ·cases h
structure Alt where
 Ke:Bool
 res:uQ
 cW:List Bp
def Alt.dR (a:Alt):List Ty:=a.res.dR++Rp a.cW
def Kq:List Alt→Type
 | []=>Empty
 | [a]=>XJ a.dR
 | a::b::r=>XJ a.dR ⊕ Kq (b::r)
def xe {α β γ:Type} (s:α ⊕ β) (f:α→γ) (g:β→γ):γ:=match s with
 | .inl x=>f x
 | .inr y=>g y
def PX {X:Type}:(l:List Alt)→Kq l→(Alt→List cE→X)→X
 | [a],x,f=>f a (U_ a.dR x)
 | a::b::r,x,f=>xe x (fun y=>f a (U_ a.dR y)) fun z=>PX (b::r) z f
def mN (l:List Alt) (o:Kq l):Alt×List cE:=PX l o Prod.mk
theorem Tl {X:Type}:∀ (l:List Alt) (o:Kq l) (f:Alt→List cE→X),PX l o f=f (mN l o).1 (mN l o).2
 | [],o,f=>o.elim
 | [a],x,f=>rfl
 | a::b::r,x,f=>by
  cases x with
  | inl y=>rfl
  | inr z=>exact Tl (b::r) z f
structure CT where
 f:FuncId
 args:List uQ
 cW:List Bp
 outs:List Alt
 F:LQ (CG args++Rp cW) (Option (Kq outs))
def aU (P:Program) (c:CT):Prop:=
 ∀ (x:x4 (CG c.args++Rp c.cW)) (o:Kq c.outs),xy _ c.F x=some o→
  ∀ as l H,instL id c.args (eG _ x)=some (as,l)→instBs id c.cW 0 l=some (H,[])→
  ∀ v r H',instP id (mN c.outs o).1.res (mN c.outs o).2=some (v,r)→instBs id (mN c.outs o).1.cW 0 r=some (H',[])→
  GC P c.f c.cW.length (dJ H as) (vS H) (cond (mN c.outs o).1.Ke (.Ke (v.av H')) (.ret (v.av H'))) (mN c.outs o).1.cW.length (vS H')
mutual
def uQ.flat:uQ→Bool
 | .d t=>t.flat
 | .fp _ _=>false
 | .agg ps=>Ln ps
 | .n9 ps=>Ln ps
 | .nX _ p=>p.flat
 | .fn _ xs ys=>Ln xs&&Ln ys
 | _=>true
def Ln:List uQ→Bool
 | []=>true
 | p::r=>p.flat&&Ln r
end
def Bp.flat:Bp→Bool
 | .box ps=>Ln ps
 | .row t v=>v.d||t.flat
 | .dmap i=>Ty.flat (.st i)
 | .cq t=>t.flat
 | .gone=>true
theorem NG {y:cE} (h:y.t.flat=true):VY (cK y):=by
 intro w F F' μ K v hv
 obtain ⟨t,x⟩:=y
 have leaf:∀ (z:cE),(match z.t with | .sl _ | .st _=>false | _=>true)=true→∀ {v},VR w F μ K (cK z) v→VR w F' μ K (cK z) v:=by
  intro z hz v hv
  obtain ⟨t,x⟩:=z
  cases t with
  | sl=>cases hz
  | st=>cases hz
  | int k=>exact (hv.c_▸.int _ _:VR w F' μ K (.int k x) v)
  | str=>exact (hv.iM▸.str _:VR w F' μ K (.str x) v)
  | bool=>exact (hv.ey▸.bool _:VR w F' μ K (.bool x) v)
 cases t with
 | sl=>cases h
 | int=>exact leaf ⟨_,x⟩ rfl hv
 | str=>exact leaf ⟨_,x⟩ rfl hv
 | bool=>exact leaf ⟨_,x⟩ rfl hv
 | st i=>
  simp only [cK] at hv ⊢
  obtain ⟨vs,rfl,h1,h2⟩:=hv.fh
  refine .pY ⟨h1,fun k hk=>?_⟩
  have h3:=h2 k hk
  have e:cc i x=(get i x).map cK:=(JK i x).symm
  rw [e] at h3 hk ⊢
  have FC:k < (get i x).length:=by simpa using hk
  have e2:((get i x).map cK).getD k .top=cK ((get i x)[k]):=by simp [List.getD,FC]
  rw [e2] at h3 ⊢
  refine leaf _ ?_ h3
  have e3:(get i x).map (·.t)=Ag i:=pr i x
  have:((get i x)[k]).t∈Ag i:=by rw [← e3];exact List.mem_map.2 ⟨_,List.getElem_mem FC,rfl⟩
  exact List.all_eq_true.1 h _ this
mutual
theorem inst_nf {ρ:Nat→Nat} {H:List (Nat×aW)}:∀ {p:uQ} {l l':List cE} {a:TA},instP ρ p l=some (a,l')→p.flat=true→VY (a.av H)
 | .any,l,l',a,h,_=>by simp only [instP] at h;cases h;simp only [TA.av];exact fun _=>.top _
 | .d t,l,l',a,h,hf=>by
  simp only [instP] at h
  split at h
  ·split at h
   ·rename_i e
    cases h
    intro hv
    rw [L6] at hv ⊢
    simp only [uQ.flat] at hf
    exact NG (e▸hf) hv
   ·cases h
  ·cases h
 | .agg ps,l,l',a,h,hf=>by
  simp only [instP] at h
  simp only [uQ.flat] at hf
  split at h
  ·rename_i as l2 hi
   cases h
   intro hv
   simp only [TA.av] at hv ⊢
   obtain ⟨vs,rfl,AM⟩:=hv.fh
   exact .pY (instL_nf hi hf AM)
  ·cases h
 | .n9 ps,l,l',a,h,hf=>by
  simp only [instP] at h
  simp only [uQ.flat] at hf
  split at h
  ·rename_i as l2 hi
   cases h
   intro hv
   simp only [TA.av] at hv ⊢
   obtain ⟨vs,rfl,AM⟩:=hv.IB
   exact .Le (instL_nf hi hf AM)
  ·cases h
 | .ow j,l,l',a,h,_=>by
  simp only [instP] at h
  cases h
  intro hv
  simp only [TA.av] at hv ⊢
  cases hb:fj (aR H (ρ j)) with
  | none=>exact .top _
  | some x=>
   obtain ⟨t,v',n⟩:=x
   rw [hb] at hv
   simp only at hv ⊢
   rcases sS hv with ⟨⟨_,rfl⟩,h2,h3⟩ | ⟨cap,sz,t',rfl,h2,bY,h4,h5,h6⟩
   ·simp only [h3,h2,dd]
    exact .vO _ _ _
   ·exact Nc bY h2 h4 h5 h6
 | .bs j n aZ,l,l',a,h,_=>by
  simp only [instP] at h
  cases h
  intro hv
  simp only [TA.av] at hv ⊢
  cases hv with
  | ms _ _ _ _ cap sz t bY hc hs fw=>exact .ms _ _ _ _ cap sz t bY hc hs fw
 | .bp j off,l,l',a,h,_=>by
  simp only [instP] at h
  cases h
  intro hv
  simp only [TA.av] at hv ⊢
  cases hv with | bp _ _ bY=>exact .bp _ _ bY
 | .mp j,l,l',a,h,_=>by
  simp only [instP] at h
  cases h
  intro hv
  simp only [TA.av] at hv ⊢
  cases hv with | mp _ bY=>exact .mp _ bY
 | .fp t off,l,l',a,h,hf=>by simp only [uQ.flat] at hf;cases hf
 | .nX t p,l,l',a,h,hf=>by
  simp only [instP] at h
  simp only [uQ.flat] at hf
  split at h
  ·rename_i b l2 hi
   cases h
   intro hv
   simp only [TA.av] at hv ⊢
   obtain ⟨u,rfl,hu⟩:=hv.Bf
   exact .nX _ _ _ (inst_nf hi hf hu)
  ·cases h
 | .fn f xs ys,l,l',a,h,hf=>by
  simp only [instP] at h
  simp only [uQ.flat,Bool.and_eq_true] at hf
  split at h
  ·rename_i as l2 hi
   split at h
   ·rename_i bs l3 hj
    cases h
    intro hv
    simp only [TA.av] at hv ⊢
    obtain ⟨vs,us,rfl,h1,h2⟩:=hv.J7
    exact .Zg (instL_nf hi hf.1 h1) (instL_nf hj hf.2 h2)
   ·cases h
  ·cases h
 | .Ol,l,l',a,h,_=>by
  simp only [instP] at h
  cases h
  intro hv
  simp only [TA.av] at hv ⊢
  rw [hv.IA];exact .lit _
 | .kb b,l,l',a,h,_=>by
  simp only [instP] at h
  cases h
  intro hv
  simp only [TA.av,cK] at hv ⊢
  rw [hv.ey];exact .bool _
theorem instL_nf {ρ:Nat→Nat} {H:List (Nat×aW)}:∀ {ps:List uQ} {l l':List cE} {as:List TA},instL ρ ps l=some (as,l')→Ln ps=true→∀ {w F F' μ K vs},hP w F μ K (dJ H as) vs→hP w F' μ K (dJ H as) vs
 | [],l,l',as,h,_=>by
  simp only [instL] at h
  cases h
  intro hv
  simp only [dJ] at hv ⊢
  rw [hv.gY];exact .nil
 | p::ps,l,l',as,h,hf=>by
  simp only [instL] at h
  simp only [Ln,Bool.and_eq_true] at hf
  split at h
  ·rename_i a l2 hi
   split at h
   ·rename_i bs l3 hj
    cases h
    intro hv
    simp only [dJ] at hv ⊢
    obtain ⟨v,r,rfl,h1,h2⟩:=hv.cons_inv
    exact .cons (inst_nf hi hf.1 h1) (instL_nf hj hf.2 h2)
   ·cases h
  ·cases h
end
theorem adr {t:Ty} {v:RV} (ht:(v.d||t.flat)=true) (xs:List t.dn):NfB (.row v.b (eR t) xs.length (bU v t xs)):=by
 intro w F F' μ K S n o hB hS
 obtain ⟨cs,t',S',h1,h2⟩:=hB
 refine ⟨cs,t',S',h1,{ h2 with cell:=fun i j hi hj=>⟨?_,(h2.cell i j hi hj).2⟩ }⟩
 have h3:=(h2.cell i j hi hj).1
 have e:bU v t xs i j=(cy t xs i j).deep:=by
  simp only [bU]
  cases hv:v.d with
  | true=>rfl
  | false=>rw [hv,Bool.false_or] at ht;exact (PQ ht xs i j).symm
 rw [e] at h3 ⊢
 exact h3.nf _ (Br t xs i j) rfl
end Go.Proofs.YtljfmaaadnoggaaGreatDoor.cU
