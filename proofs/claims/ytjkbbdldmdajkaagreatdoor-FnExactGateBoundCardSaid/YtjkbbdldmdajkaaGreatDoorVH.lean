/- Abstract values with typed data; states; patterns of frames; what a pattern reads out of a state, and what it makes. No condition. -/
import Derived.Test.YtjkbbdldmdajkaaGreatDoorFnTy
set_option linter.unusedSimpArgs false
set_option linter.unusedVariables false
namespace Go.Proofs.YtjkbbdldmdajkaaGreatDoor.c_
open Go Go.RowKit
inductive TA where
 | top
 | lit (v:Value)
 | d (x:cN)
 | fA
 | agg (cs:List TA)
 | nO (cs:List TA)
 | fp (t:Ty) (x:t.dn) (off:Nat)
 | ow (id:Nat)
 | bs (id n bA:Nat)
 | bp (id off:Nat)
 | rp (id:Nat) (i:Int) (off:Nat)
 | mp (id:Nat)
 | pJ (t:TypeId) (a:TA)
 | fn (f:Fn) (xs ys:List TA)
instance:Inhabited TA:=⟨.top⟩
inductive RV where
 | ms
 | vs
 | dm
 | dv
 deriving DecidableEq
def RV.b:RV→Bool
 | .vs | .dv=>true
 | _=>false
def RV.d:RV→Bool
 | .dm | .dv=>true
 | _=>false
inductive aY where
 | box (l:List TA)
 | row (t:Ty) (v:RV) (xs:List t.dn)
 | dq (t:Ty) (v:RV) (xs:List t.dn) (i:Int) (os:List (Nat×Nat))
 | bZ (x:Option (Ty×RV×Nat))
 | dmap (i:Nat) (l:List (C i))
 | Ts (t:Ty) (l:List (t.dn×FuncId))
def fG:Option aY→Option (Ty×RV×Nat)
 | some (.row t v xs)=>some (t,v,xs.length)
 | some (.dq t v xs _ _)=>some (t,v,xs.length)
 | some (.bZ x)=>x
 | _=>none
structure bP where
 nt:Nat
 N:Nat
 tm:List (Nat×TA)
 H:List (Nat×aY)
def look:List (Nat×TA)→Nat→TA
 | [],_=>.top
 | (i,v)::r,t=>match Nat.beq t i with
  | true=>v
  | false=>look r t
def aT:List (Nat×aY)→Nat→Option aY
 | [],_=>none
 | (i,v)::r,t=>match Nat.beq t i with
  | true=>some v
  | false=>aT r t
def cD (H:List (Nat×aY)):List (Nat×Option aY)→List (Nat×aY)
 | []=>H
 | (i,some b)::r=>(i,b)::cD H r
 | (i,none)::r=>(i,.bZ (fG (aT (cD H r) i)))::cD H r
def cst:Value→TA
 | .bool b=>.d ⟨.bool,b⟩
 | .int k n=>.d ⟨.int k,n⟩
 | .string s=>.d ⟨.str,s.data.toList⟩
 | .slice none 0 0=>.fA
 | .func f ⟨[]⟩ ⟨[]⟩=>.fn f [] []
 | .agg ⟨[]⟩=>.agg []
 | v=>.lit v
def bP.val (s:bP):Operand→TA
 | .tmp t=>look s.tm t
 | .const v=>cst v
 | .func f=>.fn (.func f) [] []
 | .global _=>.top
mutual
def TA.av (H:List (Nat×aY)):TA→AV
 | .top=>.top
 | .lit v=>.lit v
 | .d x=>cT x
 | .fA=>.fA
 | .agg cs=>.agg (er H cs)
 | .nO cs=>.nO (er H cs)
 | .fp t x off=>.fp (fx t) (fun j=>(sU t x).getD j .top) off
 | .ow id=>match fG (aT H id) with
  | some (t,v,n)=>du v.b id n (fx t)
  | none=>.top
 | .bs id n bA=>.ms id 0 n bA
 | .bp id off=>.bp id off
 | .rp id i off=>match fG (aT H id) with
  | some (t,_,_)=>.rp id (fx t) i.toNat off
  | none=>.top
 | .mp id=>.mp id
 | .pJ t a=>.pJ t (a.av H)
 | .fn f xs ys=>.fn f (er H xs) (er H ys)
def er (H:List (Nat×aY)):List TA→List AV
 | []=>[]
 | a::r=>a.av H::er H r
end
theorem c7 (H:List (Nat×aY)):∀ l:List TA,er H l=l.map (TA.av H)
 | []=>by simp [er]
 | a::r=>by simp [er,c7 H r]
def cC (t:Ty) (xs:List t.dn):Nat→Nat→AV:=fun i j=>(sU t (xs.getD i t.df)).getD j .top
def tZ:List cN→AV×AV
 | [x]=>(cT x,.agg [])
 | x::y::_=>(cT x,cT y)
 | []=>(.top,.top)
def dc:Nat→List cN→AV×AV
 | 0,l=>tZ l
 | n+1,l=>(.agg ((l.take (n+1)).map cT),match l.drop (n+1) with
  | y::_=>cT y
  | []=>.agg [])
def bV (v:RV) (t:Ty) (xs:List t.dn):Nat→Nat→AV:=fun i j=>match v.d with
 | true=>(cC t xs i j).deep
 | false=>cC t xs i j
def t_:List (Nat×Nat)→Nat→Option Nat
 | [],_=>none
 | (i,x)::r,j=>match Nat.beq j i with
  | true=>some x
  | false=>t_ r j
def td (H:List (Nat×aY)) (v:RV) (t:Ty) (xs:List t.dn) (i:Int) (os:List (Nat×Nat)):Nat→Nat→AV:=fun i' j=>if i'=i.toNat then (match t_ os j with
 | some id=>(TA.ow id).av H
 | none=>bV v t xs i' j) else bV v t xs i' j
def aY.refs:aY→List TA
 | .box l=>l
 | .dq _ _ _ _ os=>os.map fun p=>.ow p.2
 | _=>[]
def aY.dC (H:List (Nat×aY)):aY→jV
 | .box l=>.box (er H l)
 | .row t v xs=>.row v.b (fx t) xs.length (bV v t xs)
 | .dq t v xs i os=>.dq v.b (fx t) xs.length (td H v t xs i os)
 | .bZ _=>.box []
 | .dmap i l=>.map (l.map fun x=>dc (JF i) (get i x))
 | .Ts t l=>.map (l.map fun x=>(cT ⟨t,x.1⟩,.fn (.func x.2) [] []))
def aY.Uv:aY→Bool
 | .bZ _=>false
 | _=>true
def xk (H:List (Nat×aY)):Hp:=fun id=>(aT H id).bind fun b=>match b.Uv with
 | true=>some (b.dC H)
 | false=>none
theorem Kz {H:List (Nat×aY)} {id:Nat} {b:aY} (h:aT H id=some b) (hv:b.Uv=true):xk H id=some (b.dC H):=by
 simp [xk,h,hv]
theorem iy {H:List (Nat×aY)} {id:Nat} {B:jV} (h:xk H id=some B):∃ b,aT H id=some b∧b.Uv=true∧B=b.dC H:=by
 unfold xk at h;cases e:aT H id with
 | none=>rw [e] at h;cases h
 | some b=>
  rw [e] at h;cases hv:b.Uv with
  | false=>simp [hv] at h
  | true=>
   simp only [Option.bind_some,hv,Option.some.injEq] at h;exact ⟨b,rfl,hv,h.symm⟩
def bP.st (s:bP):fU:=⟨s.nt,s.N,fun t=>(look s.tm t).av s.H,xk s.H⟩
mutual
def TA.wf (H:List (Nat×aY)) (N:Nat):TA→Prop
 | .ow id=>id < N
 | .rp id i _=>id < N∧∀ t v n,fG (aT H id)=some (t,v,n)→i.toNat < n
 | .agg cs=>iz H N cs
 | .nO cs=>iz H N cs
 | .pJ _ a=>a.wf H N
 | .fn _ xs ys=>iz H N xs∧iz H N ys
 | _=>True
def iz (H:List (Nat×aY)) (N:Nat):List TA→Prop
 | []=>True
 | a::r=>a.wf H N∧iz H N r
end
theorem dg {H:List (Nat×aY)} {N:Nat}:∀ {l:List TA},iz H N l↔∀ a,a∈l→a.wf H N
 | []=>by simp [iz]
 | a::r=>by simp [iz,dg (l:=r)]
structure bP.ok (s:bP):Prop where
 tm:∀ t,(look s.tm t).wf s.H s.N
 H:∀ id b,aT s.H id=some b→iz s.H s.N b.refs
def ew:(t:Ty)→t.dn→List cN
 | .st i,x=>get i x
 | .int k,x=>[⟨.int k,x⟩]
 | .str,x=>[⟨.str,x⟩]
 | .bool,x=>[⟨.bool,x⟩]
 | .sl t,x=>[⟨.sl t,x⟩]
def Gl:Ty→List Ty
 | .st i=>Az i
 | t=>[t]
def Mf (t:Ty) (l:List cN):Option t.dn:=match t with
 | .st i=>match o7 (Az i) l with
  | some y=>some (yG (Az i) (con i) y)
  | none=>none
 | .int k=>match o7 [.int k] l with
  | some y=>some y.1
  | none=>none
 | .str=>match o7 [.str] l with
  | some y=>some y.1
  | none=>none
 | .bool=>match o7 [.bool] l with
  | some y=>some y.1
  | none=>none
 | .sl t=>match o7 [.sl t] l with
  | some y=>some y.1
  | none=>none
theorem ff {t:Ty} {l:List cN} {x:t.dn} (h:Mf t l=some x):ew t x=l:=by
 cases t with
 | st i=>
  simp only [Mf] at h;split at h
  ·rename_i y hy;cases h;exact (abo i y).trans (mj hy)
  ·cases h
 | _=>
  simp only [Mf] at h;split at h
  ·rename_i y hy;cases h;exact mj hy
  ·cases h
theorem fH:∀ (t:Ty) (x:t.dn),(ew t x).map cT=sU t x
 | .st i,x=>J1 i x
 | .int _,_=>rfl
 | .str,_=>rfl
 | .bool,_=>rfl
 | .sl _,_=>rfl
theorem fm (t:Ty) (x:t.dn):(ew t x).length=fx t:=by
 cases t with
 | st i=>exact abp i x
 | _=>rfl
theorem abm (t:Ty) (x:t.dn):(sU t x).length=fx t:=by rw [← fH,List.length_map,fm]
def Ty.leaf:Ty→Bool
 | .st _=>false
 | _=>true
theorem Br (t:Ty) (x:t.dn) (y:cN) (h:y∈ew t x):y.t.leaf=true:=by
 cases t with
 | st i=>
  have:=Y8 i x y h;generalize ht:y.t=u at this;cases u<;>first | rfl | exact absurd rfl (this _)
 | _=>simp only [ew,List.mem_singleton] at h;subst h;rfl
theorem aec {w:World} {F:Nat→Prop} {μ:Nat→Nat} {K:Nat→Prop} {bA n:Nat} {e:Nat→Nat→AV} {v:Value} (h:VR w F μ K (.fs bA n e) v):VR w F μ C8 (.fs bA n e) v:=by
 cases h with
 | fs _ _ _ b o cap u hF hc hu hv=>exact .fs _ _ _ b o cap u hF hc hu hv
 | vV=>exact .vV _ _ _ _
theorem aed {w:World} {F:Nat→Prop} {μ:Nat→Nat} {K:Nat→Prop} {bA n:Nat} {e:Nat→Nat→AV} {v:Value} (h:VR w F μ K (.fs bA n e) v):v.oneCell'=true:=by
 cases h<;>rfl
theorem vg {y:cN} (h:y.t.leaf=true):P8 (cT y):=by
 intro w F μ K v hv;obtain ⟨t,x⟩:=y;cases t with
 | st i=>simp [Ty.leaf] at h
 | int k=>exact (hv.dd▸.int _ _:VR w F μ C8 (.int k x) v)
 | str=>exact (hv.jF▸.str _:VR w F μ C8 (.str x) v)
 | bool=>exact (hv.fe▸.bool _:VR w F μ C8 (.bool x) v)
 | sl t=>exact aec hv
theorem Jb {y:cN} (h:y.t.leaf=true):One (cT y):=by
 intro w F μ K v hv;obtain ⟨t,x⟩:=y;cases t with
 | st i=>simp [Ty.leaf] at h
 | int k=>rw [hv.dd];rfl
 | str=>rw [hv.jF];rfl
 | bool=>rw [hv.fe];rfl
 | sl t=>exact aed hv
theorem Jc {y:cN}:(cT y).Kv=false:=by
 obtain ⟨t,x⟩:=y;cases t<;>rfl
theorem Wt:∀ (a:AV) (y:cN),y.t.leaf=true→a=cT y→a.U7
 | .fs bA n e,y,hl,h=>by
  obtain ⟨t,x⟩:=y;cases t with
  | sl t=>
   simp only [cT,Ed,AV.fs.injEq] at h;obtain ⟨_,_,h3⟩:=h;simp only [AV.U7];intro i j;have h4:e i j=(sU t (List.getD x i t.df)).getD j .top:=by rw [h3]
   have hr:∀ (b:AV),b=(sU t (List.getD x i t.df)).getD j .top→b.U7∨∃ z:cN,z.t.leaf=true∧b=cT z:=fun b hb=>by
    rw [← fH] at hb;simp only [List.getD,List.getElem?_map] at hb;cases hz:(ew t (List.getD x i t.df))[j]? with
    | none=>simp only [List.getD] at hz;rw [hz] at hb;exact .inl (by rw [hb];trivial)
    | some z=>simp only [List.getD] at hz;rw [hz] at hb;exact .inr ⟨z,Br _ _ z (List.mem_of_getElem? hz),hb⟩
   rcases hr _ h4 with k | ⟨z,k1,k2⟩
   ·exact k
   ·exact Wt (e i j) z k1 k2
  | st=>cases hl
  | _=>simp only [cT] at h;cases h
 | .int _ _,_,_,_=>trivial
 | .bool _,_,_,_=>trivial
 | .str _,_,_,_=>trivial
 | .top,_,_,_=>trivial
 | .lit _,y,hl,h=>by obtain ⟨t,x⟩:=y;cases t<;>simp [cT,Ed,Ty.leaf] at h hl
 | .fA,y,hl,h=>by obtain ⟨t,x⟩:=y;cases t<;>simp [cT,Ed,Ty.leaf] at h hl
 | .agg _,y,hl,h=>by obtain ⟨t,x⟩:=y;cases t<;>simp [cT,Ed,Ty.leaf] at h hl
 | .nO _,y,hl,h=>by obtain ⟨t,x⟩:=y;cases t<;>simp [cT,Ed,Ty.leaf] at h hl
 | .fp _ _ _,y,hl,h=>by obtain ⟨t,x⟩:=y;cases t<;>simp [cT,Ed,Ty.leaf] at h hl
 | .os _ _ _,y,hl,h=>by obtain ⟨t,x⟩:=y;cases t<;>simp [cT,Ed,Ty.leaf] at h hl
 | .ms _ _ _ _,y,hl,h=>by obtain ⟨t,x⟩:=y;cases t<;>simp [cT,Ed,Ty.leaf] at h hl
 | .vs _ _ _,y,hl,h=>by obtain ⟨t,x⟩:=y;cases t<;>simp [cT,Ed,Ty.leaf] at h hl
 | .bp _ _,y,hl,h=>by obtain ⟨t,x⟩:=y;cases t<;>simp [cT,Ed,Ty.leaf] at h hl
 | .rp _ _ _ _,y,hl,h=>by obtain ⟨t,x⟩:=y;cases t<;>simp [cT,Ed,Ty.leaf] at h hl
 | .mp _,y,hl,h=>by obtain ⟨t,x⟩:=y;cases t<;>simp [cT,Ed,Ty.leaf] at h hl
 | .pJ _ _,y,hl,h=>by obtain ⟨t,x⟩:=y;cases t<;>simp [cT,Ed,Ty.leaf] at h hl
 | .fn _ _ _,y,hl,h=>by obtain ⟨t,x⟩:=y;cases t<;>simp [cT,Ed,Ty.leaf] at h hl
 | .wh _ _,y,hl,h=>by obtain ⟨t,x⟩:=y;cases t<;>simp [cT,Ed,Ty.leaf] at h hl
def Ty.flat:Ty→Bool
 | .sl _=>false
 | .st i=>(Az i).all fun t=>match t with
  | .sl _ | .st _=>false
  | _=>true
 | _=>true
def Ty.LY:Ty→Bool
 | .sl _=>true
 | _=>false
def kindOf (u:Ty):RV:=match u.flat with
 | true=>.vs
 | false=>.dv
def X9 (t:Ty) (off n:Nat):Bool:=(((Gl t).drop off).take n).any Ty.LY
theorem EN {y:cN} (h:y.t.LY=false):(cT y).deep=cT y:=by
 obtain ⟨t,x⟩:=y;cases t with
 | sl=>cases h
 | _=>rfl
theorem Qa (t:Ty) (x:t.dn):(ew t x).map (·.t)=Gl t:=by
 cases t with
 | st i=>exact qZ i x
 | _=>rfl
theorem pb (t:Ty) (xs:List t.dn) (i j:Nat):cC t xs i j=match (ew t (xs.getD i t.df))[j]? with
  | some y=>cT y
  | none=>.top:=by
 simp only [cC];rw [← fH];simp only [List.getD,List.getElem?_map];cases (ew t ((xs[i]?).getD t.df))[j]?<;>rfl
theorem Cw {v:RV} {t:Ty} {xs:List t.dn} {i off n k:Nat} (h:v.d=true→X9 t off n=false) (hk:k < n):bV v t xs i (off+k)=cC t xs i (off+k):=by
 unfold bV;cases hv:v.d with
 | false=>rfl
 | true=>
  have h:=h hv;simp only;rw [pb];cases hz:(ew t (xs.getD i t.df))[off+k]? with
  | none=>rfl
  | some y=>
   refine EN ?_;have h2:(Gl t)[off+k]?=some y.t:=by rw [← Qa t (xs.getD i t.df),List.getElem?_map,hz];rfl
   have h3:y.t∈((Gl t).drop off).take n:=by
    refine List.mem_of_getElem? (i:=k) ?_;rw [List.getElem?_take,if_pos hk,List.getElem?_drop];exact h2
   have:=(List.any_eq_false.1 h) _ h3;simpa using this
theorem EO (t:Ty) (xs:List t.dn) (i j:Nat):(cC t xs i j).Kv=false:=by
 rw [pb];cases (ew t (xs.getD i t.df))[j]? with
 | none=>rfl
 | some y=>exact Jc
theorem Qb {t:Ty} (h:t.flat=true) (xs:List t.dn) (i j:Nat):(cC t xs i j).deep=cC t xs i j:=by
 rw [pb];cases hz:(ew t (xs.getD i t.df))[j]? with
 | none=>rfl
 | some y=>
  refine EN ?_;have h2:(Gl t)[j]?=some y.t:=by rw [← Qa t (xs.getD i t.df),List.getElem?_map,hz];rfl
  have h3:=List.mem_of_getElem? h2;cases t with
  | sl=>cases h
  | st i=>
   simp only [Ty.flat,List.all_eq_true] at h;have:=h _ h3;generalize y.t=u at this;cases u<;>first | rfl | cases this
  | _=>simp only [Gl,List.mem_singleton] at h3;rw [h3];rfl
theorem Cx (t:Ty) (xs:List t.dn) (i j:Nat):(cC t xs i j).U7:=by
 simp only [cC];rw [← fH];simp only [List.getD,List.getElem?_map];cases hz:(ew t ((xs[i]?).getD t.df))[j]? with
 | none=>trivial
 | some z=>exact Wt _ z (Br _ _ z (List.mem_of_getElem? hz)) rfl
theorem Lu (t:Ty) (x:t.dn) (j:Nat):((sU t x).getD j .top).Kv=false:=by
 rw [← fH];simp only [List.getD,List.getElem?_map];cases (ew t x)[j]? with
 | none=>rfl
 | some y=>exact Jc
def ua (t:Ty):TA→Option cN
 | .d x=>if x.t=t then (if x.t.leaf then some x else none) else none
 | .fA=>match t with
  | .sl u=>some ⟨.sl u,[]⟩
  | _=>none
 | _=>none
theorem iA {t:Ty} {a:TA} {y:cN} (h:ua t a=some y):y.t=t∧y.t.leaf=true∧∀ H,ik (a.av H) (cT y):=by
 unfold ua at h;split at h
 ·split at h
  ·split at h
   ·cases h;exact ⟨‹_›,‹_›,fun H=>by simp only [TA.av];exact ik.refl _⟩
   ·cases h
  ·cases h
 ·split at h
  ·cases h;exact ⟨rfl,rfl,fun H=>by simp only [TA.av,cT,Ed,List.length_nil];exact ik.fA _ _⟩
  ·cases h
 ·cases h
def te:List Ty→List TA→Option (List cN)
 | [],[]=>some []
 | t::ts,a::l=>match ua t a,te ts l with
  | some y,some r=>some (y::r)
  | _,_=>none
 | _,_=>none
theorem oA:∀ {ts:List Ty} {l:List TA} {r:List cN},te ts l=some r→r.length=l.length∧r.map (·.t)=ts∧(∀ y,y∈r→y.t.leaf=true)∧∀ H k,k < l.length→ik ((l.getD k .top).av H) ((r.map cT).getD k .top)
 | [],[],r,h=>by cases h;exact ⟨rfl,rfl,(fun y hy=>by cases hy),(fun H k hk=>by cases hk)⟩
 | [],_::_,r,h=>by cases h
 | _::_,[],r,h=>by cases h
 | t::ts,a::l,r,h=>by
  simp only [te] at h;split at h
  ·rename_i y r' hy hr;cases h;obtain ⟨h1,h2,h3⟩:=iA hy;obtain ⟨k1,k2,k3,k4⟩:=oA hr;refine ⟨by simp [k1],by simp [h1,k2],fun z hz=>?_,fun H k hk=>?_⟩
   ·rcases List.mem_cons.1 hz with e | e
    ·rw [e];exact h2
    ·exact k3 z e
   ·cases k with
    | zero=>exact fun hv=>h3 H hv
    | succ k=>exact fun hv=>k4 H k (by simpa using hk) hv
  ·cases h
end Go.Proofs.YtjkbbdldmdajkaaGreatDoor.c_
