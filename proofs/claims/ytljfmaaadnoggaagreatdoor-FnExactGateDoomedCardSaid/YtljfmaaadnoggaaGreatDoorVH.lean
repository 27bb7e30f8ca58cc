/- Abstract values with typed data; states; patterns of frames; what a pattern reads out of a state, and what it makes. No condition. -/
import Derived.Test.YtljfmaaadnoggaaGreatDoorFnTy
namespace Go.Proofs.YtljfmaaadnoggaaGreatDoor.cX
open Go Go.RowKit
inductive TA where
 | top
 | lit (v:Value)
 | d (x:cI)
 | ff
 | agg (cs:List TA)
 | ph (cs:List TA)
 | fp (t:Ty) (x:t.dn) (off:Nat)
 | ow (id:Nat)
 | bs (id n bB:Nat)
 | bp (id off:Nat)
 | rp (id:Nat) (i:Int) (off:Nat)
 | mp (id:Nat)
 | pe (t:TypeId) (a:TA)
 | fn (f:Fn) (xs ys:List TA)
instance:Inhabited TA:=⟨.top⟩
inductive RV where
 | ms
 | vs
 | dm
 | dv
 deriving DecidableEq
def RV.b:RV→Bool
 | .vs | .dv=>true
 | _=>false
def RV.d:RV→Bool
 | .dm | .dv=>true
 | _=>false
inductive aY where
 | box (l:List TA)
 | row (t:Ty) (v:RV) (xs:List t.dn)
 | da (t:Ty) (v:RV) (xs:List t.dn) (i:Int) (os:List (Nat×Nat))
 | cb (x:Option (Ty×RV×Nat))
 | dmap (i:Nat) (l:List (C i))
 | VT (t:Ty) (l:List (t.dn×FuncId))
def fM:Option aY→Option (Ty×RV×Nat)
 | some (.row t v xs)=>some (t,v,xs.length)
 | some (.da t v xs _ _)=>some (t,v,xs.length)
 | some (.cb x)=>x
 | _=>none
structure bQ where
 nt:Nat
 N:Nat
 tm:List (Nat×TA)
 H:List (Nat×aY)
def look:List (Nat×TA)→Nat→TA
 | [],_=>.top
 | (i,v)::r,t=>match Nat.beq t i with
  | true=>v
  | false=>look r t
def aR:List (Nat×aY)→Nat→Option aY
 | [],_=>none
 | (i,v)::r,t=>match Nat.beq t i with
  | true=>some v
  | false=>aR r t
def cD (H:List (Nat×aY)):List (Nat×Option aY)→List (Nat×aY)
 | []=>H
 | (i,some b)::r=>(i,b)::cD H r
 | (i,none)::r=>(i,.cb (fM (aR (cD H r) i)))::cD H r
def cst:Value→TA
 | .bool b=>.d ⟨.bool,b⟩
 | .int k n=>.d ⟨.int k,n⟩
 | .string s=>.d ⟨.str,s.data.toList⟩
 | .slice none 0 0=>.ff
 | .func f ⟨[]⟩ ⟨[]⟩=>.fn f [] []
 | .agg ⟨[]⟩=>.agg []
 | v=>.lit v
def bQ.val (s:bQ):Operand→TA
 | .tmp t=>look s.tm t
 | .const v=>cst v
 | .func f=>.fn (.func f) [] []
 | .global _=>.top
mutual
def TA.av (H:List (Nat×aY)):TA→AV
 | .top=>.top
 | .lit v=>.lit v
 | .d x=>cN x
 | .ff=>.ff
 | .agg cs=>.agg (dU H cs)
 | .ph cs=>.ph (dU H cs)
 | .fp t x off=>.fp (fg t) (fun j=>(sV t x).getD j .top) off
 | .ow id=>match fM (aR H id) with
  | some (t,v,n)=>dr v.b id n (fg t)
  | none=>.top
 | .bs id n bB=>.ms id 0 n bB
 | .bp id off=>.bp id off
 | .rp id i off=>match fM (aR H id) with
  | some (t,_,_)=>.rp id (fg t) i.toNat off
  | none=>.top
 | .mp id=>.mp id
 | .pe t a=>.pe t (a.av H)
 | .fn f xs ys=>.fn f (dU H xs) (dU H ys)
def dU (H:List (Nat×aY)):List TA→List AV
 | []=>[]
 | a::r=>a.av H::dU H r
end
theorem cV (H:List (Nat×aY)):∀ l:List TA,dU H l=l.map (TA.av H)
 | []=>by simp [dU]
 | a::r=>by simp [dU,cV H r]
def cC (t:Ty) (xs:List t.dn):Nat→Nat→AV:=fun i j=>(sV t (xs.getD i t.df)).getD j .top
def ug:List cI→AV×AV
 | [x]=>(cN x,.agg [])
 | x::y::_=>(cN x,cN y)
 | []=>(.top,.top)
def c5:Nat→List cI→AV×AV
 | 0,l=>ug l
 | n+1,l=>(.agg ((l.take (n+1)).map cN),match l.drop (n+1) with
  | y::_=>cN y
  | []=>.agg [])
def bY (v:RV) (t:Ty) (xs:List t.dn):Nat→Nat→AV:=fun i j=>match v.d with
 | true=>(cC t xs i j).deep
 | false=>cC t xs i j
def uh:List (Nat×Nat)→Nat→Option Nat
 | [],_=>none
 | (i,x)::r,j=>match Nat.beq j i with
  | true=>some x
  | false=>uh r j
def tp (H:List (Nat×aY)) (v:RV) (t:Ty) (xs:List t.dn) (i:Int) (os:List (Nat×Nat)):Nat→Nat→AV:=fun i' j=>if i'=i.toNat then (match uh os j with
 | some id=>(TA.ow id).av H
 | none=>bY v t xs i' j) else bY v t xs i' j
def aY.refs:aY→List TA
 | .box l=>l
 | .da _ _ _ _ os=>os.map fun p=>.ow p.2
 | _=>[]
def aY.dw (H:List (Nat×aY)):aY→kq
 | .box l=>.box (dU H l)
 | .row t v xs=>.row v.b (fg t) xs.length (bY v t xs)
 | .da t v xs i os=>.da v.b (fg t) xs.length (tp H v t xs i os)
 | .cb _=>.box []
 | .dmap i l=>.map (l.map fun x=>c5 (LD i) (get i x))
 | .VT t l=>.map (l.map fun x=>(cN ⟨t,x.1⟩,.fn (.func x.2) [] []))
def aY.WT:aY→Bool
 | .cb _=>false
 | _=>true
def xX (H:List (Nat×aY)):Hp:=fun id=>(aR H id).bind fun b=>match b.WT with
 | true=>some (b.dw H)
 | false=>none
theorem MC {H:List (Nat×aY)} {id:Nat} {b:aY} (h:aR H id=some b) (hv:b.WT=true):xX H id=some (b.dw H):=by
 simp [xX,h,hv]
theorem iv {H:List (Nat×aY)} {id:Nat} {B:kq} (h:xX H id=some B):∃ b,aR H id=some b∧b.WT=true∧B=b.dw H:=by
 unfold xX at h
 cases e:aR H id with
 | none=>rw [e] at h;cases h
 | some b=>
  rw [e] at h
  cases hv:b.WT with
  | false=>simp [hv] at h
  | true=>
   simp only [Option.bind_some,hv,Option.some.injEq] at h
   exact ⟨b,rfl,hv,h.symm⟩
def bQ.st (s:bQ):fU:=⟨s.nt,s.N,fun t=>(look s.tm t).av s.H,xX s.H⟩
mutual
def TA.wf (H:List (Nat×aY)) (N:Nat):TA→Prop
 | .ow id=>id < N
 | .rp id i _=>id < N∧∀ t v n,fM (aR H id)=some (t,v,n)→i.toNat < n
 | .agg cs=>iw H N cs
 | .ph cs=>iw H N cs
 | .pe _ a=>a.wf H N
 | .fn _ xs ys=>iw H N xs∧iw H N ys
 | _=>True
def iw (H:List (Nat×aY)) (N:Nat):List TA→Prop
 | []=>True
 | a::r=>a.wf H N∧iw H N r
end
theorem c8 {H:List (Nat×aY)} {N:Nat}:∀ {l:List TA},iw H N l↔∀ a,a∈l→a.wf H N
 | []=>by simp [iw]
 | a::r=>by simp [iw,c8 (l:=r)]
structure bQ.ok (s:bQ):Prop where
 tm:∀ t,(look s.tm t).wf s.H s.N
 H:∀ id b,aR s.H id=some b→iw s.H s.N b.refs
def dV:(t:Ty)→t.dn→List cI
 | .st i,x=>get i x
 | .int k,x=>[⟨.int k,x⟩]
 | .str,x=>[⟨.str,x⟩]
 | .bool,x=>[⟨.bool,x⟩]
 | .sl t,x=>[⟨.sl t,x⟩]
def Ie:Ty→List Ty
 | .st i=>BE i
 | t=>[t]
def Ok (t:Ty) (l:List cI):Option t.dn:=match t with
 | .st i=>match oN (BE i) l with
  | some y=>some (zA (BE i) (con i) y)
  | none=>none
 | .int k=>match oN [.int k] l with
  | some y=>some y.1
  | none=>none
 | .str=>match oN [.str] l with
  | some y=>some y.1
  | none=>none
 | .bool=>match oN [.bool] l with
  | some y=>some y.1
  | none=>none
 | .sl t=>match oN [.sl t] l with
  | some y=>some y.1
  | none=>none
theorem eU {t:Ty} {l:List cI} {x:t.dn} (h:Ok t l=some x):dV t x=l:=by
 cases t with
 | st i=>
  simp only [Ok] at h
  split at h
  ·rename_i y hy
   cases h
   exact (adr i y).trans (l8 hy)
  ·cases h
 | _=>
  simp only [Ok] at h
  split at h
  ·rename_i y hy
   cases h
   exact l8 hy
  ·cases h
theorem fx:∀ (t:Ty) (x:t.dn),(dV t x).map cN=sV t x
 | .st i,x=>L3 i x
 | .int _,_=>rfl
 | .str,_=>rfl
 | .bool,_=>rfl
 | .sl _,_=>rfl
theorem e9 (t:Ty) (x:t.dn):(dV t x).length=fg t:=by
 cases t with
 | st i=>exact ads i x
 | _=>rfl
theorem adp (t:Ty) (x:t.dn):(sV t x).length=fg t:=by rw [← fx,List.length_map,e9]
def Ty.leaf:Ty→Bool
 | .st _=>false
 | _=>true
theorem Cu (t:Ty) (x:t.dn) (y:cI) (h:y∈dV t x):y.t.leaf=true:=by
 cases t with
 | st i=>
  have:=abk i x y h
  generalize ht:y.t=u at this
  cases u<;>first | rfl | exact absurd rfl (this _)
 | _=>simp only [dV,List.mem_singleton] at h;subst h;rfl
theorem agu {w:World} {F:Nat→Prop} {μ:Nat→Nat} {K:Nat→Prop} {bB n:Nat} {e:Nat→Nat→AV} {v:Value} (h:VR w F μ K (.fs bB n e) v):VR w F μ Ei (.fs bB n e) v:=by
 cases h with
 | fs _ _ _ b o cap u hF hc hu hv=>exact .fs _ _ _ b o cap u hF hc hu hv
 | wv=>exact .wv _ _ _ _
theorem agv {w:World} {F:Nat→Prop} {μ:Nat→Nat} {K:Nat→Prop} {bB n:Nat} {e:Nat→Nat→AV} {v:Value} (h:VR w F μ K (.fs bB n e) v):v.oneCell'=true:=by
 cases h<;>rfl
theorem vo {y:cI} (h:y.t.leaf=true):Sh (cN y):=by
 intro w F μ K v hv
 obtain ⟨t,x⟩:=y
 cases t with
 | st i=>simp [Ty.leaf] at h
 | int k=>exact (hv.dd▸.int _ _:VR w F μ Ei (.int k x) v)
 | str=>exact (hv.jD▸.str _:VR w F μ Ei (.str x) v)
 | bool=>exact (hv.eR▸.bool _:VR w F μ Ei (.bool x) v)
 | sl t=>exact agu hv
theorem K_ {y:cI} (h:y.t.leaf=true):One (cN y):=by
 intro w F μ K v hv
 obtain ⟨t,x⟩:=y
 cases t with
 | st i=>simp [Ty.leaf] at h
 | int k=>rw [hv.dd];rfl
 | str=>rw [hv.jD];rfl
 | bool=>rw [hv.eR];rfl
 | sl t=>exact agv hv
theorem La {y:cI}:(cN y).My=false:=by
 obtain ⟨t,x⟩:=y
 cases t<;>rfl
theorem Y_:∀ (a:AV) (y:cI),y.t.leaf=true→a=cN y→a.XA
 | .fs bB n e,y,hl,h=>by
  obtain ⟨t,x⟩:=y
  cases t with
  | sl t=>
   simp only [cN,FG,AV.fs.injEq] at h
   obtain ⟨_,_,h3⟩:=h
   simp only [AV.XA]
   intro i j
   have h4:e i j=(sV t (List.getD x i t.df)).getD j .top:=by rw [h3]
   have hr:∀ (b:AV),b=(sV t (List.getD x i t.df)).getD j .top→b.XA∨∃ z:cI,z.t.leaf=true∧b=cN z:=fun b hb=>by
    rw [← fx] at hb
    simp only [List.getD,List.getElem?_map] at hb
    cases hz:(dV t (List.getD x i t.df))[j]? with
    | none=>simp only [List.getD] at hz;rw [hz] at hb;exact .inl (by rw [hb];trivial)
    | some z=>simp only [List.getD] at hz;rw [hz] at hb;exact .inr ⟨z,Cu _ _ z (List.mem_of_getElem? hz),hb⟩
   rcases hr _ h4 with k | ⟨z,k1,k2⟩
   ·exact k
   ·exact Y_ (e i j) z k1 k2
  | st=>cases hl
  | _=>simp only [cN] at h;cases h
 | .int _ _,_,_,_=>trivial
 | .bool _,_,_,_=>trivial
 | .str _,_,_,_=>trivial
 | .top,_,_,_=>trivial
 | .lit _,y,hl,h=>by obtain ⟨t,x⟩:=y;cases t<;>simp [cN,FG,Ty.leaf] at h hl
 | .ff,y,hl,h=>by obtain ⟨t,x⟩:=y;cases t<;>simp [cN,FG,Ty.leaf] at h hl
 | .agg _,y,hl,h=>by obtain ⟨t,x⟩:=y;cases t<;>simp [cN,FG,Ty.leaf] at h hl
 | .ph _,y,hl,h=>by obtain ⟨t,x⟩:=y;cases t<;>simp [cN,FG,Ty.leaf] at h hl
 | .fp _ _ _,y,hl,h=>by obtain ⟨t,x⟩:=y;cases t<;>simp [cN,FG,Ty.leaf] at h hl
 | .os _ _ _,y,hl,h=>by obtain ⟨t,x⟩:=y;cases t<;>simp [cN,FG,Ty.leaf] at h hl
 | .ms _ _ _ _,y,hl,h=>by obtain ⟨t,x⟩:=y;cases t<;>simp [cN,FG,Ty.leaf] at h hl
 | .vs _ _ _,y,hl,h=>by obtain ⟨t,x⟩:=y;cases t<;>simp [cN,FG,Ty.leaf] at h hl
 | .bp _ _,y,hl,h=>by obtain ⟨t,x⟩:=y;cases t<;>simp [cN,FG,Ty.leaf] at h hl
 | .rp _ _ _ _,y,hl,h=>by obtain ⟨t,x⟩:=y;cases t<;>simp [cN,FG,Ty.leaf] at h hl
 | .mp _,y,hl,h=>by obtain ⟨t,x⟩:=y;cases t<;>simp [cN,FG,Ty.leaf] at h hl
 | .pe _ _,y,hl,h=>by obtain ⟨t,x⟩:=y;cases t<;>simp [cN,FG,Ty.leaf] at h hl
 | .fn _ _ _,y,hl,h=>by obtain ⟨t,x⟩:=y;cases t<;>simp [cN,FG,Ty.leaf] at h hl
 | .wh _ _,y,hl,h=>by obtain ⟨t,x⟩:=y;cases t<;>simp [cN,FG,Ty.leaf] at h hl
def Ty.flat:Ty→Bool
 | .sl _=>false
 | .st i=>(BE i).all fun t=>match t with
  | .sl _ | .st _=>false
  | _=>true
 | _=>true
def Ty.N3:Ty→Bool
 | .sl _=>true
 | _=>false
def kindOf (u:Ty):RV:=match u.flat with
 | true=>.vs
 | false=>.dv
def aaG (t:Ty) (off n:Nat):Bool:=(((Ie t).drop off).take n).any Ty.N3
theorem Gs {y:cI} (h:y.t.N3=false):(cN y).deep=cN y:=by
 obtain ⟨t,x⟩:=y
 cases t with
 | sl=>cases h
 | _=>rfl
theorem Sk (t:Ty) (x:t.dn):(dV t x).map (·.t)=Ie t:=by
 cases t with
 | st i=>exact qO i x
 | _=>rfl
theorem oT (t:Ty) (xs:List t.dn) (i j:Nat):cC t xs i j=match (dV t (xs.getD i t.df))[j]? with
  | some y=>cN y
  | none=>.top:=by
 simp only [cC]
 rw [← fx]
 simp only [List.getD,List.getElem?_map]
 cases (dV t ((xs[i]?).getD t.df))[j]?<;>rfl
theorem Dx {v:RV} {t:Ty} {xs:List t.dn} {i off n k:Nat} (h:v.d=true→aaG t off n=false) (hk:k < n):bY v t xs i (off+k)=cC t xs i (off+k):=by
 unfold bY
 cases hv:v.d with
 | false=>rfl
 | true=>
  have h:=h hv
  simp only
  rw [oT]
  cases hz:(dV t (xs.getD i t.df))[off+k]? with
  | none=>rfl
  | some y=>
   refine Gs ?_
   have h2:(Ie t)[off+k]?=some y.t:=by rw [← Sk t (xs.getD i t.df),List.getElem?_map,hz];rfl
   have h3:y.t∈((Ie t).drop off).take n:=by
    refine List.mem_of_getElem? (i:=k) ?_
    rw [List.getElem?_take,if_pos hk,List.getElem?_drop];exact h2
   have:=(List.any_eq_false.1 h) _ h3
   simpa using this
theorem Gt (t:Ty) (xs:List t.dn) (i j:Nat):(cC t xs i j).My=false:=by
 rw [oT]
 cases (dV t (xs.getD i t.df))[j]? with
 | none=>rfl
 | some y=>exact La
theorem Sl {t:Ty} (h:t.flat=true) (xs:List t.dn) (i j:Nat):(cC t xs i j).deep=cC t xs i j:=by
 rw [oT]
 cases hz:(dV t (xs.getD i t.df))[j]? with
 | none=>rfl
 | some y=>
  refine Gs ?_
  have h2:(Ie t)[j]?=some y.t:=by rw [← Sk t (xs.getD i t.df),List.getElem?_map,hz];rfl
  have h3:=List.mem_of_getElem? h2
  cases t with
  | sl=>cases h
  | st i=>
   simp only [Ty.flat,List.all_eq_true] at h
   have:=h _ h3
   generalize y.t=u at this
   cases u<;>first | rfl | cases this
  | _=>simp only [Ie,List.mem_singleton] at h3;rw [h3];rfl
theorem Dy (t:Ty) (xs:List t.dn) (i j:Nat):(cC t xs i j).XA:=by
 simp only [cC]
 rw [← fx]
 simp only [List.getD,List.getElem?_map]
 cases hz:(dV t ((xs[i]?).getD t.df))[j]? with
 | none=>trivial
 | some z=>exact Y_ _ z (Cu _ _ z (List.mem_of_getElem? hz)) rfl
theorem NA (t:Ty) (x:t.dn) (j:Nat):((sV t x).getD j .top).My=false:=by
 rw [← fx]
 simp only [List.getD,List.getElem?_map]
 cases (dV t x)[j]? with
 | none=>rfl
 | some y=>exact La
def ui (t:Ty):TA→Option cI
 | .d x=>if x.t=t then (if x.t.leaf then some x else none) else none
 | .ff=>match t with
  | .sl u=>some ⟨.sl u,[]⟩
  | _=>none
 | _=>none
theorem ix {t:Ty} {a:TA} {y:cI} (h:ui t a=some y):y.t=t∧y.t.leaf=true∧∀ H,iu (a.av H) (cN y):=by
 unfold ui at h
 split at h
 ·split at h
  ·split at h
   ·cases h;exact ⟨‹_›,‹_›,fun H=>by simp only [TA.av];exact iu.refl _⟩
   ·cases h
  ·cases h
 ·split at h
  ·cases h;exact ⟨rfl,rfl,fun H=>by simp only [TA.av,cN,FG,List.length_nil];exact iu.ff _ _⟩
  ·cases h
 ·cases h
def tq:List Ty→List TA→Option (List cI)
 | [],[]=>some []
 | t::ts,a::l=>match ui t a,tq ts l with
  | some y,some r=>some (y::r)
  | _,_=>none
 | _,_=>none
theorem n9:∀ {ts:List Ty} {l:List TA} {r:List cI},tq ts l=some r→r.length=l.length∧r.map (·.t)=ts∧(∀ y,y∈r→y.t.leaf=true)∧∀ H k,k < l.length→iu ((l.getD k .top).av H) ((r.map cN).getD k .top)
 | [],[],r,h=>by cases h;exact ⟨rfl,rfl,(fun y hy=>by cases hy),(fun H k hk=>by cases hk)⟩
 | [],_::_,r,h=>by cases h
 | _::_,[],r,h=>by cases h
 | t::ts,a::l,r,h=>by
  simp only [tq] at h
  split at h
  ·rename_i y r' hy hr
   cases h
   obtain ⟨h1,h2,h3⟩:=ix hy
   obtain ⟨k1,k2,k3,k4⟩:=n9 hr
   refine ⟨by simp [k1],by simp [h1,k2],fun z hz=>?_,fun H k hk=>?_⟩
   ·rcases List.mem_cons.1 hz with e | e
    ·rw [e];exact h2
    ·exact k3 z e
   ·cases k with
    | zero=>exact fun hv=>h3 H hv
    | succ k=>exact fun hv=>k4 H k (by simpa using hk) hv
  ·cases h
end Go.Proofs.YtljfmaaadnoggaaGreatDoor.cX
