/- Abstract values with typed data; states; patterns of frames; what a pattern reads out of a state, and what it makes. No condition. -/
import Derived.Test.YtljfmaaadnoggaaFnTy
namespace Go.Proofs.Ytljfmaaadnoggaa.Abs
open Go Go.RowKit
inductive TA where
 | top
 | lit (v:Value)
 | d (x:Dyn)
 | nils
 | agg (cs:List TA)
 | tup (cs:List TA)
 | fp (t:Ty) (x:t.dn) (off:Nat)
 | ow (id:Nat)
 | bs (id n esz:Nat)
 | bp (id off:Nat)
 | rp (id:Nat) (i:Int) (off:Nat)
 | mp (id:Nat)
 | ifc (t:TypeId) (a:TA)
 | fn (f:Fn) (xs ys:List TA)
instance:Inhabited TA:=⟨.top⟩
inductive RV where
 | ms
 | vs
 | dm
 | dv
 deriving DecidableEq
def RV.b:RV→Bool
 | .vs | .dv=>true
 | _=>false
def RV.d:RV→Bool
 | .dm | .dv=>true
 | _=>false
inductive TBlk where
 | box (l:List TA)
 | row (t:Ty) (v:RV) (xs:List t.dn)
 | hrow (t:Ty) (v:RV) (xs:List t.dn) (i:Int) (os:List (Nat×Nat))
 | hid (x:Option (Ty×RV×Nat))
 | dmap (i:Nat) (l:List (C i))
 | fmap (t:Ty) (l:List (t.dn×FuncId))
def shp:Option TBlk→Option (Ty×RV×Nat)
 | some (.row t v xs)=>some (t,v,xs.length)
 | some (.hrow t v xs _ _)=>some (t,v,xs.length)
 | some (.hid x)=>x
 | _=>none
structure TSt where
 nt:Nat
 N:Nat
 tm:List (Nat×TA)
 H:List (Nat×TBlk)
def look:List (Nat×TA)→Nat→TA
 | [],_=>.top
 | (i,v)::r,t=>match Nat.beq t i with
  | true=>v
  | false=>look r t
def lookH:List (Nat×TBlk)→Nat→Option TBlk
 | [],_=>none
 | (i,v)::r,t=>match Nat.beq t i with
  | true=>some v
  | false=>lookH r t
def updH (H:List (Nat×TBlk)):List (Nat×Option TBlk)→List (Nat×TBlk)
 | []=>H
 | (i,some b)::r=>(i,b)::updH H r
 | (i,none)::r=>(i,.hid (shp (lookH (updH H r) i)))::updH H r
def cst:Value→TA
 | .bool b=>.d ⟨.bool,b⟩
 | .int k n=>.d ⟨.int k,n⟩
 | .string s=>.d ⟨.str,s.data.toList⟩
 | .slice none 0 0=>.nils
 | .func f ⟨[]⟩ ⟨[]⟩=>.fn f [] []
 | .agg ⟨[]⟩=>.agg []
 | v=>.lit v
def TSt.val (s:TSt):Operand→TA
 | .tmp t=>look s.tm t
 | .const v=>cst v
 | .func f=>.fn (.func f) [] []
 | .global _=>.top
mutual
def TA.av (H:List (Nat×TBlk)):TA→AV
 | .top=>.top
 | .lit v=>.lit v
 | .d x=>dav x
 | .nils=>.nils
 | .agg cs=>.agg (avL H cs)
 | .tup cs=>.tup (avL H cs)
 | .fp t x off=>.fp (tsz t) (fun j=>(tcells t x).getD j .top) off
 | .ow id=>match shp (lookH H id) with
  | some (t,v,n)=>rowAV v.b id n (tsz t)
  | none=>.top
 | .bs id n esz=>.ms id 0 n esz
 | .bp id off=>.bp id off
 | .rp id i off=>match shp (lookH H id) with
  | some (t,_,_)=>.rp id (tsz t) i.toNat off
  | none=>.top
 | .mp id=>.mp id
 | .ifc t a=>.ifc t (a.av H)
 | .fn f xs ys=>.fn f (avL H xs) (avL H ys)
def avL (H:List (Nat×TBlk)):List TA→List AV
 | []=>[]
 | a::r=>a.av H::avL H r
end
theorem avL_map (H:List (Nat×TBlk)):∀ l:List TA,avL H l=l.map (TA.av H)
 | []=>by simp [avL]
 | a::r=>by simp [avL,avL_map H r]
def rcells (t:Ty) (xs:List t.dn):Nat→Nat→AV:=fun i j=>(tcells t (xs.getD i t.df)).getD j .top
def pairA:List Dyn→AV×AV
 | [x]=>(dav x,.agg [])
 | x::y::_=>(dav x,dav y)
 | []=>(.top,.top)
def pairK:Nat→List Dyn→AV×AV
 | 0,l=>pairA l
 | n+1,l=>(.agg ((l.take (n+1)).map dav),match l.drop (n+1) with
  | y::_=>dav y
  | []=>.agg [])
def vcells (v:RV) (t:Ty) (xs:List t.dn):Nat→Nat→AV:=fun i j=>match v.d with
 | true=>(rcells t xs i j).deep
 | false=>rcells t xs i j
def holOf:List (Nat×Nat)→Nat→Option Nat
 | [],_=>none
 | (i,x)::r,j=>match Nat.beq j i with
  | true=>some x
  | false=>holOf r j
def hcells (H:List (Nat×TBlk)) (v:RV) (t:Ty) (xs:List t.dn) (i:Int) (os:List (Nat×Nat)):Nat→Nat→AV:=fun i' j=>if i'=i.toNat then (match holOf os j with
 | some id=>(TA.ow id).av H
 | none=>vcells v t xs i' j) else vcells v t xs i' j
def TBlk.refs:TBlk→List TA
 | .box l=>l
 | .hrow _ _ _ _ os=>os.map fun p=>.ow p.2
 | _=>[]
def TBlk.blk (H:List (Nat×TBlk)):TBlk→Blk
 | .box l=>.box (avL H l)
 | .row t v xs=>.row v.b (tsz t) xs.length (vcells v t xs)
 | .hrow t v xs i os=>.hrow v.b (tsz t) xs.length (hcells H v t xs i os)
 | .hid _=>.box []
 | .dmap i l=>.map (l.map fun x=>pairK (kar i) (get i x))
 | .fmap t l=>.map (l.map fun x=>(dav ⟨t,x.1⟩,.fn (.func x.2) [] []))
def TBlk.vis:TBlk→Bool
 | .hid _=>false
 | _=>true
def hpT (H:List (Nat×TBlk)):Hp:=fun id=>(lookH H id).bind fun b=>match b.vis with
 | true=>some (b.blk H)
 | false=>none
theorem hpT_of {H:List (Nat×TBlk)} {id:Nat} {b:TBlk} (h:lookH H id=some b) (hv:b.vis=true):hpT H id=some (b.blk H):=by
 simp [hpT,h,hv]
theorem hpT_some {H:List (Nat×TBlk)} {id:Nat} {B:Blk} (h:hpT H id=some B):∃ b,lookH H id=some b∧b.vis=true∧B=b.blk H:=by
 unfold hpT at h
 cases e:lookH H id with
 | none=>rw [e] at h;cases h
 | some b=>
  rw [e] at h
  cases hv:b.vis with
  | false=>simp [hv] at h
  | true=>
   simp only [Option.bind_some,hv,Option.some.injEq] at h
   exact ⟨b,rfl,hv,h.symm⟩
def TSt.st (s:TSt):SSt:=⟨s.nt,s.N,fun t=>(look s.tm t).av s.H,hpT s.H⟩
mutual
def TA.wf (H:List (Nat×TBlk)) (N:Nat):TA→Prop
 | .ow id=>id < N
 | .rp id i _=>id < N∧∀ t v n,shp (lookH H id)=some (t,v,n)→i.toNat < n
 | .agg cs=>wfL H N cs
 | .tup cs=>wfL H N cs
 | .ifc _ a=>a.wf H N
 | .fn _ xs ys=>wfL H N xs∧wfL H N ys
 | _=>True
def wfL (H:List (Nat×TBlk)) (N:Nat):List TA→Prop
 | []=>True
 | a::r=>a.wf H N∧wfL H N r
end
theorem wfL_iff {H:List (Nat×TBlk)} {N:Nat}:∀ {l:List TA},wfL H N l↔∀ a,a∈l→a.wf H N
 | []=>by simp [wfL]
 | a::r=>by simp [wfL,wfL_iff (l:=r)]
structure TSt.ok (s:TSt):Prop where
 tm:∀ t,(look s.tm t).wf s.H s.N
 H:∀ id b,lookH s.H id=some b→wfL s.H s.N b.refs
def tget:(t:Ty)→t.dn→List Dyn
 | .st i,x=>get i x
 | .int k,x=>[⟨.int k,x⟩]
 | .str,x=>[⟨.str,x⟩]
 | .bool,x=>[⟨.bool,x⟩]
 | .sl t,x=>[⟨.sl t,x⟩]
def tlts:Ty→List Ty
 | .st i=>lts i
 | t=>[t]
def bld (t:Ty) (l:List Dyn):Option t.dn:=match t with
 | .st i=>match castTup (lts i) l with
  | some y=>some (appT (lts i) (con i) y)
  | none=>none
 | .int k=>match castTup [.int k] l with
  | some y=>some y.1
  | none=>none
 | .str=>match castTup [.str] l with
  | some y=>some y.1
  | none=>none
 | .bool=>match castTup [.bool] l with
  | some y=>some y.1
  | none=>none
 | .sl t=>match castTup [.sl t] l with
  | some y=>some y.1
  | none=>none
theorem bld_some {t:Ty} {l:List Dyn} {x:t.dn} (h:bld t l=some x):tget t x=l:=by
 cases t with
 | st i=>
  simp only [bld] at h
  split at h
  ·rename_i y hy
   cases h
   exact (get_con i y).trans (castTup_some hy)
  ·cases h
 | _=>
  simp only [bld] at h
  split at h
  ·rename_i y hy
   cases h
   exact castTup_some hy
  ·cases h
theorem tget_cells:∀ (t:Ty) (x:t.dn),(tget t x).map dav=tcells t x
 | .st i,x=>get_cc i x
 | .int _,_=>rfl
 | .str,_=>rfl
 | .bool,_=>rfl
 | .sl _,_=>rfl
theorem tget_length (t:Ty) (x:t.dn):(tget t x).length=tsz t:=by
 cases t with
 | st i=>exact csz_get i x
 | _=>rfl
theorem tcells_length (t:Ty) (x:t.dn):(tcells t x).length=tsz t:=by rw [← tget_cells,List.length_map,tget_length]
def Ty.leaf:Ty→Bool
 | .st _=>false
 | _=>true
theorem tget_leaf (t:Ty) (x:t.dn) (y:Dyn) (h:y∈tget t x):y.t.leaf=true:=by
 cases t with
 | st i=>
  have:=get_leaf i x y h
  generalize ht:y.t=u at this
  cases u<;>first | rfl | exact absurd rfl (this _)
 | _=>simp only [tget,List.mem_singleton] at h;subst h;rfl
theorem fs_clo {w:World} {F:Nat→Prop} {μ:Nat→Nat} {K:Nat→Prop} {esz n:Nat} {e:Nat→Nat→AV} {v:Value} (h:VR w F μ K (.fs esz n e) v):VR w F μ NoK (.fs esz n e) v:=by
 cases h with
 | fs _ _ _ b o cap u hF hc hu hv=>exact .fs _ _ _ b o cap u hF hc hu hv
 | fsnil=>exact .fsnil _ _ _ _
theorem fs_one {w:World} {F:Nat→Prop} {μ:Nat→Nat} {K:Nat→Prop} {esz n:Nat} {e:Nat→Nat→AV} {v:Value} (h:VR w F μ K (.fs esz n e) v):v.oneCell'=true:=by
 cases h<;>rfl
theorem dav_clo {y:Dyn} (h:y.t.leaf=true):Clo (dav y):=by
 intro w F μ K v hv
 obtain ⟨t,x⟩:=y
 cases t with
 | st i=>simp [Ty.leaf] at h
 | int k=>exact (hv.int_inv▸.int _ _:VR w F μ NoK (.int k x) v)
 | str=>exact (hv.str_inv▸.str _:VR w F μ NoK (.str x) v)
 | bool=>exact (hv.bool_inv▸.bool _:VR w F μ NoK (.bool x) v)
 | sl t=>exact fs_clo hv
theorem dav_one {y:Dyn} (h:y.t.leaf=true):One (dav y):=by
 intro w F μ K v hv
 obtain ⟨t,x⟩:=y
 cases t with
 | st i=>simp [Ty.leaf] at h
 | int k=>rw [hv.int_inv];rfl
 | str=>rw [hv.str_inv];rfl
 | bool=>rw [hv.bool_inv];rfl
 | sl t=>exact fs_one hv
theorem dav_noos {y:Dyn}:(dav y).isOs=false:=by
 obtain ⟨t,x⟩:=y
 cases t<;>rfl
theorem dav_dat:∀ (a:AV) (y:Dyn),y.t.leaf=true→a=dav y→a.dat
 | .fs esz n e,y,hl,h=>by
  obtain ⟨t,x⟩:=y
  cases t with
  | sl t=>
   simp only [dav,slG,AV.fs.injEq] at h
   obtain ⟨_,_,h3⟩:=h
   simp only [AV.dat]
   intro i j
   have h4:e i j=(tcells t (List.getD x i t.df)).getD j .top:=by rw [h3]
   have hr:∀ (b:AV),b=(tcells t (List.getD x i t.df)).getD j .top→b.dat∨∃ z:Dyn,z.t.leaf=true∧b=dav z:=fun b hb=>by
    rw [← tget_cells] at hb
    simp only [List.getD,List.getElem?_map] at hb
    cases hz:(tget t (List.getD x i t.df))[j]? with
    | none=>simp only [List.getD] at hz;rw [hz] at hb;exact .inl (by rw [hb];trivial)
    | some z=>simp only [List.getD] at hz;rw [hz] at hb;exact .inr ⟨z,tget_leaf _ _ z (List.mem_of_getElem? hz),hb⟩
   rcases hr _ h4 with k | ⟨z,k1,k2⟩
   ·exact k
   ·exact dav_dat (e i j) z k1 k2
  | st=>cases hl
  | _=>simp only [dav] at h;cases h
 | .int _ _,_,_,_=>trivial
 | .bool _,_,_,_=>trivial
 | .str _,_,_,_=>trivial
 | .top,_,_,_=>trivial
 | .lit _,y,hl,h=>by obtain ⟨t,x⟩:=y;cases t<;>simp [dav,slG,Ty.leaf] at h hl
 | .nils,y,hl,h=>by obtain ⟨t,x⟩:=y;cases t<;>simp [dav,slG,Ty.leaf] at h hl
 | .agg _,y,hl,h=>by obtain ⟨t,x⟩:=y;cases t<;>simp [dav,slG,Ty.leaf] at h hl
 | .tup _,y,hl,h=>by obtain ⟨t,x⟩:=y;cases t<;>simp [dav,slG,Ty.leaf] at h hl
 | .fp _ _ _,y,hl,h=>by obtain ⟨t,x⟩:=y;cases t<;>simp [dav,slG,Ty.leaf] at h hl
 | .os _ _ _,y,hl,h=>by obtain ⟨t,x⟩:=y;cases t<;>simp [dav,slG,Ty.leaf] at h hl
 | .ms _ _ _ _,y,hl,h=>by obtain ⟨t,x⟩:=y;cases t<;>simp [dav,slG,Ty.leaf] at h hl
 | .vs _ _ _,y,hl,h=>by obtain ⟨t,x⟩:=y;cases t<;>simp [dav,slG,Ty.leaf] at h hl
 | .bp _ _,y,hl,h=>by obtain ⟨t,x⟩:=y;cases t<;>simp [dav,slG,Ty.leaf] at h hl
 | .rp _ _ _ _,y,hl,h=>by obtain ⟨t,x⟩:=y;cases t<;>simp [dav,slG,Ty.leaf] at h hl
 | .mp _,y,hl,h=>by obtain ⟨t,x⟩:=y;cases t<;>simp [dav,slG,Ty.leaf] at h hl
 | .ifc _ _,y,hl,h=>by obtain ⟨t,x⟩:=y;cases t<;>simp [dav,slG,Ty.leaf] at h hl
 | .fn _ _ _,y,hl,h=>by obtain ⟨t,x⟩:=y;cases t<;>simp [dav,slG,Ty.leaf] at h hl
 | .wh _ _,y,hl,h=>by obtain ⟨t,x⟩:=y;cases t<;>simp [dav,slG,Ty.leaf] at h hl
def Ty.flat:Ty→Bool
 | .sl _=>false
 | .st i=>(lts i).all fun t=>match t with
  | .sl _ | .st _=>false
  | _=>true
 | _=>true
def Ty.isSl:Ty→Bool
 | .sl _=>true
 | _=>false
def kindOf (u:Ty):RV:=match u.flat with
 | true=>.vs
 | false=>.dv
def slIn (t:Ty) (off n:Nat):Bool:=(((tlts t).drop off).take n).any Ty.isSl
theorem dav_deep {y:Dyn} (h:y.t.isSl=false):(dav y).deep=dav y:=by
 obtain ⟨t,x⟩:=y
 cases t with
 | sl=>cases h
 | _=>rfl
theorem tget_tlts (t:Ty) (x:t.dn):(tget t x).map (·.t)=tlts t:=by
 cases t with
 | st i=>exact get_ts i x
 | _=>rfl
theorem rcells_at (t:Ty) (xs:List t.dn) (i j:Nat):rcells t xs i j=match (tget t (xs.getD i t.df))[j]? with
  | some y=>dav y
  | none=>.top:=by
 simp only [rcells]
 rw [← tget_cells]
 simp only [List.getD,List.getElem?_map]
 cases (tget t ((xs[i]?).getD t.df))[j]?<;>rfl
theorem vcells_plain {v:RV} {t:Ty} {xs:List t.dn} {i off n k:Nat} (h:v.d=true→slIn t off n=false) (hk:k < n):vcells v t xs i (off+k)=rcells t xs i (off+k):=by
 unfold vcells
 cases hv:v.d with
 | false=>rfl
 | true=>
  have h:=h hv
  simp only
  rw [rcells_at]
  cases hz:(tget t (xs.getD i t.df))[off+k]? with
  | none=>rfl
  | some y=>
   refine dav_deep ?_
   have h2:(tlts t)[off+k]?=some y.t:=by rw [← tget_tlts t (xs.getD i t.df),List.getElem?_map,hz];rfl
   have h3:y.t∈((tlts t).drop off).take n:=by
    refine List.mem_of_getElem? (i:=k) ?_
    rw [List.getElem?_take,if_pos hk,List.getElem?_drop];exact h2
   have:=(List.any_eq_false.1 h) _ h3
   simpa using this
theorem rcells_noos (t:Ty) (xs:List t.dn) (i j:Nat):(rcells t xs i j).isOs=false:=by
 rw [rcells_at]
 cases (tget t (xs.getD i t.df))[j]? with
 | none=>rfl
 | some y=>exact dav_noos
theorem flat_deep {t:Ty} (h:t.flat=true) (xs:List t.dn) (i j:Nat):(rcells t xs i j).deep=rcells t xs i j:=by
 rw [rcells_at]
 cases hz:(tget t (xs.getD i t.df))[j]? with
 | none=>rfl
 | some y=>
  refine dav_deep ?_
  have h2:(tlts t)[j]?=some y.t:=by rw [← tget_tlts t (xs.getD i t.df),List.getElem?_map,hz];rfl
  have h3:=List.mem_of_getElem? h2
  cases t with
  | sl=>cases h
  | st i=>
   simp only [Ty.flat,List.all_eq_true] at h
   have:=h _ h3
   generalize y.t=u at this
   cases u<;>first | rfl | cases this
  | _=>simp only [tlts,List.mem_singleton] at h3;rw [h3];rfl
theorem rcells_dat (t:Ty) (xs:List t.dn) (i j:Nat):(rcells t xs i j).dat:=by
 simp only [rcells]
 rw [← tget_cells]
 simp only [List.getD,List.getElem?_map]
 cases hz:(tget t ((xs[i]?).getD t.df))[j]? with
 | none=>trivial
 | some z=>exact dav_dat _ z (tget_leaf _ _ z (List.mem_of_getElem? hz)) rfl
theorem tcells_noos (t:Ty) (x:t.dn) (j:Nat):((tcells t x).getD j .top).isOs=false:=by
 rw [← tget_cells]
 simp only [List.getD,List.getElem?_map]
 cases (tget t x)[j]? with
 | none=>rfl
 | some y=>exact dav_noos
def leafD (t:Ty):TA→Option Dyn
 | .d x=>if x.t=t then (if x.t.leaf then some x else none) else none
 | .nils=>match t with
  | .sl u=>some ⟨.sl u,[]⟩
  | _=>none
 | _=>none
theorem leafD_some {t:Ty} {a:TA} {y:Dyn} (h:leafD t a=some y):y.t=t∧y.t.leaf=true∧∀ H,Imp (a.av H) (dav y):=by
 unfold leafD at h
 split at h
 ·split at h
  ·split at h
   ·cases h;exact ⟨‹_›,‹_›,fun H=>by simp only [TA.av];exact Imp.refl _⟩
   ·cases h
  ·cases h
 ·split at h
  ·cases h;exact ⟨rfl,rfl,fun H=>by simp only [TA.av,dav,slG,List.length_nil];exact Imp.nils _ _⟩
  ·cases h
 ·cases h
def leafDs:List Ty→List TA→Option (List Dyn)
 | [],[]=>some []
 | t::ts,a::l=>match leafD t a,leafDs ts l with
  | some y,some r=>some (y::r)
  | _,_=>none
 | _,_=>none
theorem leafDs_some:∀ {ts:List Ty} {l:List TA} {r:List Dyn},leafDs ts l=some r→r.length=l.length∧r.map (·.t)=ts∧(∀ y,y∈r→y.t.leaf=true)∧∀ H k,k < l.length→Imp ((l.getD k .top).av H) ((r.map dav).getD k .top)
 | [],[],r,h=>by cases h;exact ⟨rfl,rfl,(fun y hy=>by cases hy),(fun H k hk=>by cases hk)⟩
 | [],_::_,r,h=>by cases h
 | _::_,[],r,h=>by cases h
 | t::ts,a::l,r,h=>by
  simp only [leafDs] at h
  split at h
  ·rename_i y r' hy hr
   cases h
   obtain ⟨h1,h2,h3⟩:=leafD_some hy
   obtain ⟨k1,k2,k3,k4⟩:=leafDs_some hr
   refine ⟨by simp [k1],by simp [h1,k2],fun z hz=>?_,fun H k hk=>?_⟩
   ·rcases List.mem_cons.1 hz with e | e
    ·rw [e];exact h2
    ·exact k3 z e
   ·cases k with
    | zero=>exact fun hv=>h3 H hv
    | succ k=>exact fun hv=>k4 H k (by simpa using hk) hv
  ·cases h
end Go.Proofs.Ytljfmaaadnoggaa.Abs
