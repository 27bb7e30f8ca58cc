/- Abstract values with typed data; states; patterns of frames; what a pattern reads out of a state, and what it makes. No condition. -/
import Derived.Test.YtjkbbdldmdajkaaGreatDoorFnTy
set_option linter.unusedSimpArgs false
set_option linter.unusedVariables false
namespace Go.Proofs.YtjkbbdldmdajkaaGreatDoor.c_
open Go Go.RowKit
inductive TA where
 | top
 | lit (v:Value)
 | d (x:cN)
 | fB
 | agg (cs:List TA)
 | nP (cs:List TA)
 | fp (t:Ty) (x:t.dn) (off:Nat)
 | rb (cs:List TA) (off:Nat)
 | ow (id:Nat)
 | bs (id n bA:Nat)
 | bp (id off:Nat)
 | rp (id:Nat) (i:Int) (off:Nat)
 | mp (id:Nat)
 | pK (t:TypeId) (a:TA)
 | fn (f:Fn) (xs ys:List TA)
instance:Inhabited TA:=⟨.top⟩
inductive RV where
 | ms
 | vs
 | dm
 | dv
 deriving DecidableEq
def RV.b:RV→Bool
 | .vs | .dv=>true
 | _=>false
def RV.d:RV→Bool
 | .dm | .dv=>true
 | _=>false
inductive aY where
 | box (l:List TA)
 | row (t:Ty) (v:RV) (xs:List t.dn)
 | dq (t:Ty) (v:RV) (xs:List t.dn) (i:Int) (os:List (Nat×Nat))
 | bY (x:Option (Ty×RV×Nat))
 | dmap (i:Nat) (l:List (C i))
 | Tv (t:Ty) (l:List (t.dn×FuncId))
def fH:Option aY→Option (Ty×RV×Nat)
 | some (.row t v xs)=>some (t,v,xs.length)
 | some (.dq t v xs _ _)=>some (t,v,xs.length)
 | some (.bY x)=>x
 | _=>none
structure bP where
 nt:Nat
 N:Nat
 tm:List (Nat×TA)
 H:List (Nat×aY)
def look:List (Nat×TA)→Nat→TA
 | [],_=>.top
 | (i,v)::r,t=>match Nat.beq t i with
  | true=>v
  | false=>look r t
def aT:List (Nat×aY)→Nat→Option aY
 | [],_=>none
 | (i,v)::r,t=>match Nat.beq t i with
  | true=>some v
  | false=>aT r t
def cD (H:List (Nat×aY)):List (Nat×Option aY)→List (Nat×aY)
 | []=>H
 | (i,some b)::r=>(i,b)::cD H r
 | (i,none)::r=>(i,.bY (fH (aT (cD H r) i)))::cD H r
def cst:Value→TA
 | .bool b=>.d ⟨.bool,b⟩
 | .int k n=>.d ⟨.int k,n⟩
 | .string s=>.d ⟨.str,s.data.toList⟩
 | .slice none 0 0=>.fB
 | .func f ⟨[]⟩ ⟨[]⟩=>.fn f [] []
 | .agg ⟨[]⟩=>.agg []
 | v=>.lit v
def bP.val (s:bP):Operand→TA
 | .tmp t=>look s.tm t
 | .const v=>cst v
 | .func f=>.fn (.func f) [] []
 | .global _=>.top
mutual
def TA.av (H:List (Nat×aY)):TA→AV
 | .top=>.top
 | .lit v=>.lit v
 | .d x=>cR x
 | .fB=>.fB
 | .agg cs=>.agg (dD H cs)
 | .nP cs=>.nP (dD H cs)
 | .fp t x off=>.fp (fy t) (fun j=>(sW t x).getD j .top) off
 | .rb cs off=>.rb (dD H cs) off
 | .ow id=>match fH (aT H id) with
  | some (t,v,n)=>du v.b id n (fy t)
  | none=>.top
 | .bs id n bA=>.ms id 0 n bA
 | .bp id off=>.bp id off
 | .rp id i off=>match fH (aT H id) with
  | some (t,_,_)=>.rp id (fy t) i.toNat off
  | none=>.top
 | .mp id=>.mp id
 | .pK t a=>.pK t (a.av H)
 | .fn f xs ys=>.fn f (dD H xs) (dD H ys)
def dD (H:List (Nat×aY)):List TA→List AV
 | []=>[]
 | a::r=>a.av H::dD H r
end
theorem c7 (H:List (Nat×aY)):∀ l:List TA,dD H l=l.map (TA.av H)
 | []=>by simp [dD]
 | a::r=>by simp [dD,c7 H r]
def cC (t:Ty) (xs:List t.dn):Nat→Nat→AV:=fun i j=>(sW t (xs.getD i t.df)).getD j .top
def ua:List cN→AV×AV
 | [x]=>(cR x,.agg [])
 | x::y::_=>(cR x,cR y)
 | []=>(.top,.top)
def dd:Nat→List cN→AV×AV
 | 0,l=>ua l
 | n+1,l=>(.agg ((l.take (n+1)).map cR),match l.drop (n+1) with
  | y::_=>cR y
  | []=>.agg [])
def bV (v:RV) (t:Ty) (xs:List t.dn):Nat→Nat→AV:=fun i j=>match v.d with
 | true=>(cC t xs i j).deep
 | false=>cC t xs i j
def ub:List (Nat×Nat)→Nat→Option Nat
 | [],_=>none
 | (i,x)::r,j=>match Nat.beq j i with
  | true=>some x
  | false=>ub r j
def te (H:List (Nat×aY)) (v:RV) (t:Ty) (xs:List t.dn) (i:Int) (os:List (Nat×Nat)):Nat→Nat→AV:=fun i' j=>if i'=i.toNat then (match ub os j with
 | some id=>(TA.ow id).av H
 | none=>bV v t xs i' j) else bV v t xs i' j
def aY.refs:aY→List TA
 | .box l=>l
 | .dq _ _ _ _ os=>os.map fun p=>.ow p.2
 | _=>[]
def aY.dC (H:List (Nat×aY)):aY→jV
 | .box l=>.box (dD H l)
 | .row t v xs=>.row v.b (fy t) xs.length (bV v t xs)
 | .dq t v xs i os=>.dq v.b (fy t) xs.length (te H v t xs i os)
 | .bY _=>.box []
 | .dmap i l=>.map (l.map fun x=>dd (JG i) (get i x))
 | .Tv t l=>.map (l.map fun x=>(cR ⟨t,x.1⟩,.fn (.func x.2) [] []))
def aY.Uy:aY→Bool
 | .bY _=>false
 | _=>true
def xn (H:List (Nat×aY)):Hp:=fun id=>(aT H id).bind fun b=>match b.Uy with
 | true=>some (b.dC H)
 | false=>none
theorem KA {H:List (Nat×aY)} {id:Nat} {b:aY} (h:aT H id=some b) (hv:b.Uy=true):xn H id=some (b.dC H):=by
 simp [xn,h,hv]
theorem iA {H:List (Nat×aY)} {id:Nat} {B:jV} (h:xn H id=some B):∃ b,aT H id=some b∧b.Uy=true∧B=b.dC H:=by
 unfold xn at h;cases e:aT H id with
 | none=>rw [e] at h;cases h
 | some b=>
  rw [e] at h;cases hv:b.Uy with
  | false=>simp [hv] at h
  | true=>
   simp only [Option.bind_some,hv,Option.some.injEq] at h;exact ⟨b,rfl,hv,h.symm⟩
def bP.st (s:bP):fT:=⟨s.nt,s.N,fun t=>(look s.tm t).av s.H,xn s.H⟩
mutual
def TA.wf (H:List (Nat×aY)) (N:Nat):TA→Prop
 | .ow id=>id < N
 | .rp id i _=>id < N∧∀ t v n,fH (aT H id)=some (t,v,n)→i.toNat < n
 | .agg cs=>im H N cs
 | .rb cs _=>im H N cs
 | .nP cs=>im H N cs
 | .pK _ a=>a.wf H N
 | .fn _ xs ys=>im H N xs∧im H N ys
 | _=>True
def im (H:List (Nat×aY)) (N:Nat):List TA→Prop
 | []=>True
 | a::r=>a.wf H N∧im H N r
end
theorem db {H:List (Nat×aY)} {N:Nat}:∀ {l:List TA},im H N l↔∀ a,a∈l→a.wf H N
 | []=>by simp [im]
 | a::r=>by simp [im,db (l:=r)]
structure bP.ok (s:bP):Prop where
 tm:∀ t,(look s.tm t).wf s.H s.N
 H:∀ id b,aT s.H id=some b→im s.H s.N b.refs
def ew:(t:Ty)→t.dn→List cN
 | .st i,x=>get i x
 | .int k,x=>[⟨.int k,x⟩]
 | .str,x=>[⟨.str,x⟩]
 | .bool,x=>[⟨.bool,x⟩]
 | .sl t,x=>[⟨.sl t,x⟩]
def Gr:Ty→List Ty
 | .st i=>AE i
 | t=>[t]
def Mg (t:Ty) (l:List cN):Option t.dn:=match t with
 | .st i=>match o8 (AE i) l with
  | some y=>some (yJ (AE i) (con i) y)
  | none=>none
 | .int k=>match o8 [.int k] l with
  | some y=>some y.1
  | none=>none
 | .str=>match o8 [.str] l with
  | some y=>some y.1
  | none=>none
 | .bool=>match o8 [.bool] l with
  | some y=>some y.1
  | none=>none
 | .sl t=>match o8 [.sl t] l with
  | some y=>some y.1
  | none=>none
theorem ff {t:Ty} {l:List cN} {x:t.dn} (h:Mg t l=some x):ew t x=l:=by
 cases t with
 | st i=>
  simp only [Mg] at h;split at h
  ·rename_i y hy;cases h;exact (abr i y).trans (ml hy)
  ·cases h
 | _=>
  simp only [Mg] at h;split at h
  ·rename_i y hy;cases h;exact ml hy
  ·cases h
theorem fJ:∀ (t:Ty) (x:t.dn),(ew t x).map cR=sW t x
 | .st i,x=>J2 i x
 | .int _,_=>rfl
 | .str,_=>rfl
 | .bool,_=>rfl
 | .sl _,_=>rfl
theorem fo (t:Ty) (x:t.dn):(ew t x).length=fy t:=by
 cases t with
 | st i=>exact abt i x
 | _=>rfl
theorem abp (t:Ty) (x:t.dn):(sW t x).length=fy t:=by rw [← fJ,List.length_map,fo]
def Ty.leaf:Ty→Bool
 | .st _=>false
 | _=>true
theorem Bu (t:Ty) (x:t.dn) (y:cN) (h:y∈ew t x):y.t.leaf=true:=by
 cases t with
 | st i=>
  have:=Zb i x y h;generalize ht:y.t=u at this;cases u<;>first | rfl | exact absurd rfl (this _)
 | _=>simp only [ew,List.mem_singleton] at h;subst h;rfl
theorem aeg {w:World} {F:Nat→Prop} {μ:Nat→Nat} {K:Nat→Prop} {bA n:Nat} {e:Nat→Nat→AV} {v:Value} (h:VR w F μ K (.fs bA n e) v):VR w F μ Dc (.fs bA n e) v:=by
 cases h with
 | fs _ _ _ b o cap u hF hc hu hv=>exact .fs _ _ _ b o cap u hF hc hu hv
 | v7=>exact .v7 _ _ _ _
theorem aeh {w:World} {F:Nat→Prop} {μ:Nat→Nat} {K:Nat→Prop} {bA n:Nat} {e:Nat→Nat→AV} {v:Value} (h:VR w F μ K (.fs bA n e) v):v.oneCell'=true:=by
 cases h<;>rfl
theorem vk {y:cN} (h:y.t.leaf=true):Qb (cR y):=by
 intro w F μ K v hv;obtain ⟨t,x⟩:=y;cases t with
 | st i=>simp [Ty.leaf] at h
 | int k=>exact (hv.de▸.int _ _:VR w F μ Dc (.int k x) v)
 | str=>exact (hv.jF▸.str _:VR w F μ Dc (.str x) v)
 | bool=>exact (hv.fe▸.bool _:VR w F μ Dc (.bool x) v)
 | sl t=>exact aeg hv
theorem Jd {y:cN} (h:y.t.leaf=true):One (cR y):=by
 intro w F μ K v hv;obtain ⟨t,x⟩:=y;cases t with
 | st i=>simp [Ty.leaf] at h
 | int k=>rw [hv.de];rfl
 | str=>rw [hv.jF];rfl
 | bool=>rw [hv.fe];rfl
 | sl t=>exact aeh hv
theorem Je {y:cN}:(cR y).Kw=false:=by
 obtain ⟨t,x⟩:=y;cases t<;>rfl
theorem Ww:∀ (a:AV) (y:cN),y.t.leaf=true→a=cR y→a.U_
 | .fs bA n e,y,hl,h=>by
  obtain ⟨t,x⟩:=y;cases t with
  | sl t=>
   simp only [cR,DO,AV.fs.injEq] at h;obtain ⟨_,_,h3⟩:=h;simp only [AV.U_];intro i j;have h4:e i j=(sW t (List.getD x i t.df)).getD j .top:=by rw [h3]
   have hr:∀ (b:AV),b=(sW t (List.getD x i t.df)).getD j .top→b.U_∨∃ z:cN,z.t.leaf=true∧b=cR z:=fun b hb=>by
    rw [← fJ] at hb;simp only [List.getD,List.getElem?_map] at hb;cases hz:(ew t (List.getD x i t.df))[j]? with
    | none=>simp only [List.getD] at hz;rw [hz] at hb;exact .inl (by rw [hb];trivial)
    | some z=>simp only [List.getD] at hz;rw [hz] at hb;exact .inr ⟨z,Bu _ _ z (List.mem_of_getElem? hz),hb⟩
   rcases hr _ h4 with k | ⟨z,k1,k2⟩
   ·exact k
   ·exact Ww (e i j) z k1 k2
  | st=>cases hl
  | _=>simp only [cR] at h;cases h
 | .int _ _,_,_,_=>trivial
 | .bool _,_,_,_=>trivial
 | .str _,_,_,_=>trivial
 | .top,_,_,_=>trivial
 | .lit _,y,hl,h=>by obtain ⟨t,x⟩:=y;cases t<;>simp [cR,DO,Ty.leaf] at h hl
 | .fB,y,hl,h=>by obtain ⟨t,x⟩:=y;cases t<;>simp [cR,DO,Ty.leaf] at h hl
 | .agg _,y,hl,h=>by obtain ⟨t,x⟩:=y;cases t<;>simp [cR,DO,Ty.leaf] at h hl
 | .nP _,y,hl,h=>by obtain ⟨t,x⟩:=y;cases t<;>simp [cR,DO,Ty.leaf] at h hl
 | .fp _ _ _,y,hl,h=>by obtain ⟨t,x⟩:=y;cases t<;>simp [cR,DO,Ty.leaf] at h hl
 | .rb _ _,y,hl,h=>by obtain ⟨t,x⟩:=y;cases t<;>simp [cR,DO,Ty.leaf] at h hl
 | .os _ _ _,y,hl,h=>by obtain ⟨t,x⟩:=y;cases t<;>simp [cR,DO,Ty.leaf] at h hl
 | .ms _ _ _ _,y,hl,h=>by obtain ⟨t,x⟩:=y;cases t<;>simp [cR,DO,Ty.leaf] at h hl
 | .vs _ _ _,y,hl,h=>by obtain ⟨t,x⟩:=y;cases t<;>simp [cR,DO,Ty.leaf] at h hl
 | .bp _ _,y,hl,h=>by obtain ⟨t,x⟩:=y;cases t<;>simp [cR,DO,Ty.leaf] at h hl
 | .rp _ _ _ _,y,hl,h=>by obtain ⟨t,x⟩:=y;cases t<;>simp [cR,DO,Ty.leaf] at h hl
 | .mp _,y,hl,h=>by obtain ⟨t,x⟩:=y;cases t<;>simp [cR,DO,Ty.leaf] at h hl
 | .pK _ _,y,hl,h=>by obtain ⟨t,x⟩:=y;cases t<;>simp [cR,DO,Ty.leaf] at h hl
 | .fn _ _ _,y,hl,h=>by obtain ⟨t,x⟩:=y;cases t<;>simp [cR,DO,Ty.leaf] at h hl
 | .wh _ _,y,hl,h=>by obtain ⟨t,x⟩:=y;cases t<;>simp [cR,DO,Ty.leaf] at h hl
def Ty.flat:Ty→Bool
 | .sl _=>false
 | .st i=>(AE i).all fun t=>match t with
  | .sl _ | .st _=>false
  | _=>true
 | _=>true
def Ty.LZ:Ty→Bool
 | .sl _=>true
 | _=>false
def kindOf (u:Ty):RV:=match u.flat with
 | true=>.vs
 | false=>.dv
def Yb (t:Ty) (off n:Nat):Bool:=(((Gr t).drop off).take n).any Ty.LZ
theorem ET {y:cN} (h:y.t.LZ=false):(cR y).deep=cR y:=by
 obtain ⟨t,x⟩:=y;cases t with
 | sl=>cases h
 | _=>rfl
theorem Qe (t:Ty) (x:t.dn):(ew t x).map (·.t)=Gr t:=by
 cases t with
 | st i=>exact q8 i x
 | _=>rfl
theorem pc (t:Ty) (xs:List t.dn) (i j:Nat):cC t xs i j=match (ew t (xs.getD i t.df))[j]? with
  | some y=>cR y
  | none=>.top:=by
 simp only [cC];rw [← fJ];simp only [List.getD,List.getElem?_map];cases (ew t ((xs[i]?).getD t.df))[j]?<;>rfl
theorem Cx {v:RV} {t:Ty} {xs:List t.dn} {i off n k:Nat} (h:v.d=true→Yb t off n=false) (hk:k < n):bV v t xs i (off+k)=cC t xs i (off+k):=by
 unfold bV;cases hv:v.d with
 | false=>rfl
 | true=>
  have h:=h hv;simp only;rw [pc];cases hz:(ew t (xs.getD i t.df))[off+k]? with
  | none=>rfl
  | some y=>
   refine ET ?_;have h2:(Gr t)[off+k]?=some y.t:=by rw [← Qe t (xs.getD i t.df),List.getElem?_map,hz];rfl
   have h3:y.t∈((Gr t).drop off).take n:=by
    refine List.mem_of_getElem? (i:=k) ?_;rw [List.getElem?_take,if_pos hk,List.getElem?_drop];exact h2
   have:=(List.any_eq_false.1 h) _ h3;simpa using this
theorem EU (t:Ty) (xs:List t.dn) (i j:Nat):(cC t xs i j).Kw=false:=by
 rw [pc];cases (ew t (xs.getD i t.df))[j]? with
 | none=>rfl
 | some y=>exact Je
theorem Qf {t:Ty} (h:t.flat=true) (xs:List t.dn) (i j:Nat):(cC t xs i j).deep=cC t xs i j:=by
 rw [pc];cases hz:(ew t (xs.getD i t.df))[j]? with
 | none=>rfl
 | some y=>
  refine ET ?_;have h2:(Gr t)[j]?=some y.t:=by rw [← Qe t (xs.getD i t.df),List.getElem?_map,hz];rfl
  have h3:=List.mem_of_getElem? h2;cases t with
  | sl=>cases h
  | st i=>
   simp only [Ty.flat,List.all_eq_true] at h;have:=h _ h3;generalize y.t=u at this;cases u<;>first | rfl | cases this
  | _=>simp only [Gr,List.mem_singleton] at h3;rw [h3];rfl
theorem Cy (t:Ty) (xs:List t.dn) (i j:Nat):(cC t xs i j).U_:=by
 simp only [cC];rw [← fJ];simp only [List.getD,List.getElem?_map];cases hz:(ew t ((xs[i]?).getD t.df))[j]? with
 | none=>trivial
 | some z=>exact Ww _ z (Bu _ _ z (List.mem_of_getElem? hz)) rfl
theorem Lv (t:Ty) (x:t.dn) (j:Nat):((sW t x).getD j .top).Kw=false:=by
 rw [← fJ];simp only [List.getD,List.getElem?_map];cases (ew t x)[j]? with
 | none=>rfl
 | some y=>exact Je
def uc (t:Ty):TA→Option cN
 | .d x=>if x.t=t then (if x.t.leaf then some x else none) else none
 | .fB=>match t with
  | .sl u=>some ⟨.sl u,[]⟩
  | _=>none
 | _=>none
theorem iB {t:Ty} {a:TA} {y:cN} (h:uc t a=some y):y.t=t∧y.t.leaf=true∧∀ H,il (a.av H) (cR y):=by
 unfold uc at h;split at h
 ·split at h
  ·split at h
   ·cases h;exact ⟨‹_›,‹_›,fun H=>by simp only [TA.av];exact il.refl _⟩
   ·cases h
  ·cases h
 ·split at h
  ·cases h;exact ⟨rfl,rfl,fun H=>by simp only [TA.av,cR,DO,List.length_nil];exact il.fB _ _⟩
  ·cases h
 ·cases h
def tf:List Ty→List TA→Option (List cN)
 | [],[]=>some []
 | t::ts,a::l=>match uc t a,tf ts l with
  | some y,some r=>some (y::r)
  | _,_=>none
 | _,_=>none
theorem oB:∀ {ts:List Ty} {l:List TA} {r:List cN},tf ts l=some r→r.length=l.length∧r.map (·.t)=ts∧(∀ y,y∈r→y.t.leaf=true)∧∀ H k,k < l.length→il ((l.getD k .top).av H) ((r.map cR).getD k .top)
 | [],[],r,h=>by cases h;exact ⟨rfl,rfl,(fun y hy=>by cases hy),(fun H k hk=>by cases hk)⟩
 | [],_::_,r,h=>by cases h
 | _::_,[],r,h=>by cases h
 | t::ts,a::l,r,h=>by
  simp only [tf] at h;split at h
  ·rename_i y r' hy hr;cases h;obtain ⟨h1,h2,h3⟩:=iB hy;obtain ⟨k1,k2,k3,k4⟩:=oB hr;refine ⟨by simp [k1],by simp [h1,k2],fun z hz=>?_,fun H k hk=>?_⟩
   ·rcases List.mem_cons.1 hz with e | e
    ·rw [e];exact h2
    ·exact k3 z e
   ·cases k with
    | zero=>exact fun hv=>h3 H hv
    | succ k=>exact fun hv=>k4 H k (by simpa using hk) hv
  ·cases h
end Go.Proofs.YtjkbbdldmdajkaaGreatDoor.c_
