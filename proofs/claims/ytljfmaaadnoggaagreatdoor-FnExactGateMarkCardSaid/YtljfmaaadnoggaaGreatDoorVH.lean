/- Abstract values with typed data; states; patterns of frames; what a pattern reads out of a state, and what it makes. No condition. -/
import Derived.Test.YtljfmaaadnoggaaGreatDoorFnTy
namespace Go.Proofs.YtljfmaaadnoggaaGreatDoor.cU
open Go Go.RowKit
inductive TA where
 | top
 | lit (v:Value)
 | d (x:cE)
 | eQ
 | agg (cs:List TA)
 | n9 (cs:List TA)
 | fp (t:Ty) (x:t.dn) (off:Nat)
 | ow (id:Nat)
 | bs (id n aZ:Nat)
 | bp (id off:Nat)
 | rp (id:Nat) (i:Int) (off:Nat)
 | mp (id:Nat)
 | nX (t:TypeId) (a:TA)
 | fn (f:Fn) (xs ys:List TA)
instance:Inhabited TA:=⟨.top⟩
inductive RV where
 | ms
 | vs
 | dm
 | dv
 deriving DecidableEq
def RV.b:RV→Bool
 | .vs | .dv=>true
 | _=>false
def RV.d:RV→Bool
 | .dm | .dv=>true
 | _=>false
inductive aW where
 | box (l:List TA)
 | row (t:Ty) (v:RV) (xs:List t.dn)
 | c5 (t:Ty) (v:RV) (xs:List t.dn) (i:Int) (os:List (Nat×Nat))
 | bY (x:Option (Ty×RV×Nat))
 | dmap (i:Nat) (l:List (C i))
 | SS (t:Ty) (l:List (t.dn×FuncId))
def fj:Option aW→Option (Ty×RV×Nat)
 | some (.row t v xs)=>some (t,v,xs.length)
 | some (.c5 t v xs _ _)=>some (t,v,xs.length)
 | some (.bY x)=>x
 | _=>none
structure bK where
 nt:Nat
 N:Nat
 tm:List (Nat×TA)
 H:List (Nat×aW)
def look:List (Nat×TA)→Nat→TA
 | [],_=>.top
 | (i,v)::r,t=>match Nat.beq t i with
  | true=>v
  | false=>look r t
def aR:List (Nat×aW)→Nat→Option aW
 | [],_=>none
 | (i,v)::r,t=>match Nat.beq t i with
  | true=>some v
  | false=>aR r t
def cz (H:List (Nat×aW)):List (Nat×Option aW)→List (Nat×aW)
 | []=>H
 | (i,some b)::r=>(i,b)::cz H r
 | (i,none)::r=>(i,.bY (fj (aR (cz H r) i)))::cz H r
def cst:Value→TA
 | .bool b=>.d ⟨.bool,b⟩
 | .int k n=>.d ⟨.int k,n⟩
 | .string s=>.d ⟨.str,s.data.toList⟩
 | .slice none 0 0=>.eQ
 | .func f ⟨[]⟩ ⟨[]⟩=>.fn f [] []
 | .agg ⟨[]⟩=>.agg []
 | v=>.lit v
def bK.val (s:bK):Operand→TA
 | .tmp t=>look s.tm t
 | .const v=>cst v
 | .func f=>.fn (.func f) [] []
 | .global _=>.top
mutual
def TA.av (H:List (Nat×aW)):TA→AV
 | .top=>.top
 | .lit v=>.lit v
 | .d x=>cK x
 | .eQ=>.eQ
 | .agg cs=>.agg (dJ H cs)
 | .n9 cs=>.n9 (dJ H cs)
 | .fp t x off=>.fp (eR t) (fun j=>(rk t x).getD j .top) off
 | .ow id=>match fj (aR H id) with
  | some (t,v,n)=>dd v.b id n (eR t)
  | none=>.top
 | .bs id n aZ=>.ms id 0 n aZ
 | .bp id off=>.bp id off
 | .rp id i off=>match fj (aR H id) with
  | some (t,_,_)=>.rp id (eR t) i.toNat off
  | none=>.top
 | .mp id=>.mp id
 | .nX t a=>.nX t (a.av H)
 | .fn f xs ys=>.fn f (dJ H xs) (dJ H ys)
def dJ (H:List (Nat×aW)):List TA→List AV
 | []=>[]
 | a::r=>a.av H::dJ H r
end
theorem cR (H:List (Nat×aW)):∀ l:List TA,dJ H l=l.map (TA.av H)
 | []=>by simp [dJ]
 | a::r=>by simp [dJ,cR H r]
def cy (t:Ty) (xs:List t.dn):Nat→Nat→AV:=fun i j=>(rk t (xs.getD i t.df)).getD j .top
def vR:List cE→AV×AV
 | [x]=>(cK x,.agg [])
 | x::y::_=>(cK x,cK y)
 | []=>(.top,.top)
def cY:Nat→List cE→AV×AV
 | 0,l=>vR l
 | n+1,l=>(.agg ((l.take (n+1)).map cK),match l.drop (n+1) with
  | y::_=>cK y
  | []=>.agg [])
def bU (v:RV) (t:Ty) (xs:List t.dn):Nat→Nat→AV:=fun i j=>match v.d with
 | true=>(cy t xs i j).deep
 | false=>cy t xs i j
def su:List (Nat×Nat)→Nat→Option Nat
 | [],_=>none
 | (i,x)::r,j=>match Nat.beq j i with
  | true=>some x
  | false=>su r j
def rF (H:List (Nat×aW)) (v:RV) (t:Ty) (xs:List t.dn) (i:Int) (os:List (Nat×Nat)):Nat→Nat→AV:=fun i' j=>if i'=i.toNat then (match su os j with
 | some id=>(TA.ow id).av H
 | none=>bU v t xs i' j) else bU v t xs i' j
def aW.refs:aW→List TA
 | .box l=>l
 | .c5 _ _ _ _ os=>os.map fun p=>.ow p.2
 | _=>[]
def aW.di (H:List (Nat×aW)):aW→ju
 | .box l=>.box (dJ H l)
 | .row t v xs=>.row v.b (eR t) xs.length (bU v t xs)
 | .c5 t v xs i os=>.c5 v.b (eR t) xs.length (rF H v t xs i os)
 | .bY _=>.box []
 | .dmap i l=>.map (l.map fun x=>cY (KR i) (get i x))
 | .SS t l=>.map (l.map fun x=>(cK ⟨t,x.1⟩,.fn (.func x.2) [] []))
def aW.TW:aW→Bool
 | .bY _=>false
 | _=>true
def vS (H:List (Nat×aW)):Hp:=fun id=>(aR H id).bind fun b=>match b.TW with
 | true=>some (b.di H)
 | false=>none
theorem Kg {H:List (Nat×aW)} {id:Nat} {b:aW} (h:aR H id=some b) (hv:b.TW=true):vS H id=some (b.di H):=by
 simp [vS,h,hv]
theorem gP {H:List (Nat×aW)} {id:Nat} {B:ju} (h:vS H id=some B):∃ b,aR H id=some b∧b.TW=true∧B=b.di H:=by
 unfold vS at h
 cases e:aR H id with
 | none=>rw [e] at h;cases h
 | some b=>
  rw [e] at h
  cases hv:b.TW with
  | false=>simp [hv] at h
  | true=>
   simp only [Option.bind_some,hv,Option.some.injEq] at h
   exact ⟨b,rfl,hv,h.symm⟩
def bK.st (s:bK):fy:=⟨s.nt,s.N,fun t=>(look s.tm t).av s.H,vS s.H⟩
mutual
def TA.wf (H:List (Nat×aW)) (N:Nat):TA→Prop
 | .ow id=>id < N
 | .rp id i _=>id < N∧∀ t v n,fj (aR H id)=some (t,v,n)→i.toNat < n
 | .agg cs=>gQ H N cs
 | .n9 cs=>gQ H N cs
 | .nX _ a=>a.wf H N
 | .fn _ xs ys=>gQ H N xs∧gQ H N ys
 | _=>True
def gQ (H:List (Nat×aW)) (N:Nat):List TA→Prop
 | []=>True
 | a::r=>a.wf H N∧gQ H N r
end
theorem cZ {H:List (Nat×aW)} {N:Nat}:∀ {l:List TA},gQ H N l↔∀ a,a∈l→a.wf H N
 | []=>by simp [gQ]
 | a::r=>by simp [gQ,cZ (l:=r)]
structure bK.ok (s:bK):Prop where
 tm:∀ t,(look s.tm t).wf s.H s.N
 H:∀ id b,aR s.H id=some b→gQ s.H s.N b.refs
def dK:(t:Ty)→t.dn→List cE
 | .st i,x=>get i x
 | .int k,x=>[⟨.int k,x⟩]
 | .str,x=>[⟨.str,x⟩]
 | .bool,x=>[⟨.bool,x⟩]
 | .sl t,x=>[⟨.sl t,x⟩]
def FF:Ty→List Ty
 | .st i=>Ag i
 | t=>[t]
def LY (t:Ty) (l:List cE):Option t.dn:=match t with
 | .st i=>match nw (Ag i) l with
  | some y=>some (xy (Ag i) (con i) y)
  | none=>none
 | .int k=>match nw [.int k] l with
  | some y=>some y.1
  | none=>none
 | .str=>match nw [.str] l with
  | some y=>some y.1
  | none=>none
 | .bool=>match nw [.bool] l with
  | some y=>some y.1
  | none=>none
 | .sl t=>match nw [.sl t] l with
  | some y=>some y.1
  | none=>none
theorem ez {t:Ty} {l:List cE} {x:t.dn} (h:LY t l=some x):dK t x=l:=by
 cases t with
 | st i=>
  simp only [LY] at h
  split at h
  ·rename_i y hy
   cases h
   exact (aaz i y).trans (kK hy)
  ·cases h
 | _=>
  simp only [LY] at h
  split at h
  ·rename_i y hy
   cases h
   exact kK hy
  ·cases h
theorem e_:∀ (t:Ty) (x:t.dn),(dK t x).map cK=rk t x
 | .st i,x=>JK i x
 | .int _,_=>rfl
 | .str,_=>rfl
 | .bool,_=>rfl
 | .sl _,_=>rfl
theorem eE (t:Ty) (x:t.dn):(dK t x).length=eR t:=by
 cases t with
 | st i=>exact aaA i x
 | _=>rfl
theorem aaw (t:Ty) (x:t.dn):(rk t x).length=eR t:=by rw [← e_,List.length_map,eE]
def Ty.leaf:Ty→Bool
 | .st _=>false
 | _=>true
theorem Aq (t:Ty) (x:t.dn) (y:cE) (h:y∈dK t x):y.t.leaf=true:=by
 cases t with
 | st i=>
  have:=Yu i x y h
  generalize ht:y.t=u at this
  cases u<;>first | rfl | exact absurd rfl (this _)
 | _=>simp only [dK,List.mem_singleton] at h;subst h;rfl
theorem adj {w:World} {F:Nat→Prop} {μ:Nat→Nat} {K:Nat→Prop} {aZ n:Nat} {e:Nat→Nat→AV} {v:Value} (h:VR w F μ K (.fs aZ n e) v):VR w F μ B_ (.fs aZ n e) v:=by
 cases h with
 | fs _ _ _ b o cap u hF hc hu hv=>exact .fs _ _ _ b o cap u hF hc hu hv
 | uw=>exact .uw _ _ _ _
theorem adk {w:World} {F:Nat→Prop} {μ:Nat→Nat} {K:Nat→Prop} {aZ n:Nat} {e:Nat→Nat→AV} {v:Value} (h:VR w F μ K (.fs aZ n e) v):v.oneCell'=true:=by
 cases h<;>rfl
theorem tw {y:cE} (h:y.t.leaf=true):PL (cK y):=by
 intro w F μ K v hv
 obtain ⟨t,x⟩:=y
 cases t with
 | st i=>simp [Ty.leaf] at h
 | int k=>exact (hv.c_▸.int _ _:VR w F μ B_ (.int k x) v)
 | str=>exact (hv.iM▸.str _:VR w F μ B_ (.str x) v)
 | bool=>exact (hv.ey▸.bool _:VR w F μ B_ (.bool x) v)
 | sl t=>exact adj hv
theorem IP {y:cE} (h:y.t.leaf=true):One (cK y):=by
 intro w F μ K v hv
 obtain ⟨t,x⟩:=y
 cases t with
 | st i=>simp [Ty.leaf] at h
 | int k=>rw [hv.c_];rfl
 | str=>rw [hv.iM];rfl
 | bool=>rw [hv.ey];rfl
 | sl t=>exact adk hv
theorem IQ {y:cE}:(cK y).Kc=false:=by
 obtain ⟨t,x⟩:=y
 cases t<;>rfl
theorem VZ:∀ (a:AV) (y:cE),y.t.leaf=true→a=cK y→a.UA
 | .fs aZ n e,y,hl,h=>by
  obtain ⟨t,x⟩:=y
  cases t with
  | sl t=>
   simp only [cK,Dp,AV.fs.injEq] at h
   obtain ⟨_,_,h3⟩:=h
   simp only [AV.UA]
   intro i j
   have h4:e i j=(rk t (List.getD x i t.df)).getD j .top:=by rw [h3]
   have hr:∀ (b:AV),b=(rk t (List.getD x i t.df)).getD j .top→b.UA∨∃ z:cE,z.t.leaf=true∧b=cK z:=fun b hb=>by
    rw [← e_] at hb
    simp only [List.getD,List.getElem?_map] at hb
    cases hz:(dK t (List.getD x i t.df))[j]? with
    | none=>simp only [List.getD] at hz;rw [hz] at hb;exact .inl (by rw [hb];trivial)
    | some z=>simp only [List.getD] at hz;rw [hz] at hb;exact .inr ⟨z,Aq _ _ z (List.mem_of_getElem? hz),hb⟩
   rcases hr _ h4 with k | ⟨z,k1,k2⟩
   ·exact k
   ·exact VZ (e i j) z k1 k2
  | st=>cases hl
  | _=>simp only [cK] at h;cases h
 | .int _ _,_,_,_=>trivial
 | .bool _,_,_,_=>trivial
 | .str _,_,_,_=>trivial
 | .top,_,_,_=>trivial
 | .lit _,y,hl,h=>by obtain ⟨t,x⟩:=y;cases t<;>simp [cK,Dp,Ty.leaf] at h hl
 | .eQ,y,hl,h=>by obtain ⟨t,x⟩:=y;cases t<;>simp [cK,Dp,Ty.leaf] at h hl
 | .agg _,y,hl,h=>by obtain ⟨t,x⟩:=y;cases t<;>simp [cK,Dp,Ty.leaf] at h hl
 | .n9 _,y,hl,h=>by obtain ⟨t,x⟩:=y;cases t<;>simp [cK,Dp,Ty.leaf] at h hl
 | .fp _ _ _,y,hl,h=>by obtain ⟨t,x⟩:=y;cases t<;>simp [cK,Dp,Ty.leaf] at h hl
 | .os _ _ _,y,hl,h=>by obtain ⟨t,x⟩:=y;cases t<;>simp [cK,Dp,Ty.leaf] at h hl
 | .ms _ _ _ _,y,hl,h=>by obtain ⟨t,x⟩:=y;cases t<;>simp [cK,Dp,Ty.leaf] at h hl
 | .vs _ _ _,y,hl,h=>by obtain ⟨t,x⟩:=y;cases t<;>simp [cK,Dp,Ty.leaf] at h hl
 | .bp _ _,y,hl,h=>by obtain ⟨t,x⟩:=y;cases t<;>simp [cK,Dp,Ty.leaf] at h hl
 | .rp _ _ _ _,y,hl,h=>by obtain ⟨t,x⟩:=y;cases t<;>simp [cK,Dp,Ty.leaf] at h hl
 | .mp _,y,hl,h=>by obtain ⟨t,x⟩:=y;cases t<;>simp [cK,Dp,Ty.leaf] at h hl
 | .nX _ _,y,hl,h=>by obtain ⟨t,x⟩:=y;cases t<;>simp [cK,Dp,Ty.leaf] at h hl
 | .fn _ _ _,y,hl,h=>by obtain ⟨t,x⟩:=y;cases t<;>simp [cK,Dp,Ty.leaf] at h hl
 | .wh _ _,y,hl,h=>by obtain ⟨t,x⟩:=y;cases t<;>simp [cK,Dp,Ty.leaf] at h hl
def Ty.flat:Ty→Bool
 | .sl _=>false
 | .st i=>(Ag i).all fun t=>match t with
  | .sl _ | .st _=>false
  | _=>true
 | _=>true
def Ty.LJ:Ty→Bool
 | .sl _=>true
 | _=>false
def kindOf (u:Ty):RV:=match u.flat with
 | true=>.vs
 | false=>.dv
def Xu (t:Ty) (off n:Nat):Bool:=(((FF t).drop off).take n).any Ty.LJ
theorem D0 {y:cE} (h:y.t.LJ=false):(cK y).deep=cK y:=by
 obtain ⟨t,x⟩:=y
 cases t with
 | sl=>cases h
 | _=>rfl
theorem PO (t:Ty) (x:t.dn):(dK t x).map (·.t)=FF t:=by
 cases t with
 | st i=>exact pr i x
 | _=>rfl
theorem nC (t:Ty) (xs:List t.dn) (i j:Nat):cy t xs i j=match (dK t (xs.getD i t.df))[j]? with
  | some y=>cK y
  | none=>.top:=by
 simp only [cy]
 rw [← e_]
 simp only [List.getD,List.getElem?_map]
 cases (dK t ((xs[i]?).getD t.df))[j]?<;>rfl
theorem Bq {v:RV} {t:Ty} {xs:List t.dn} {i off n k:Nat} (h:v.d=true→Xu t off n=false) (hk:k < n):bU v t xs i (off+k)=cy t xs i (off+k):=by
 unfold bU
 cases hv:v.d with
 | false=>rfl
 | true=>
  have h:=h hv
  simp only
  rw [nC]
  cases hz:(dK t (xs.getD i t.df))[off+k]? with
  | none=>rfl
  | some y=>
   refine D0 ?_
   have h2:(FF t)[off+k]?=some y.t:=by rw [← PO t (xs.getD i t.df),List.getElem?_map,hz];rfl
   have h3:y.t∈((FF t).drop off).take n:=by
    refine List.mem_of_getElem? (i:=k) ?_
    rw [List.getElem?_take,if_pos hk,List.getElem?_drop];exact h2
   have:=(List.any_eq_false.1 h) _ h3
   simpa using this
theorem D3 (t:Ty) (xs:List t.dn) (i j:Nat):(cy t xs i j).Kc=false:=by
 rw [nC]
 cases (dK t (xs.getD i t.df))[j]? with
 | none=>rfl
 | some y=>exact IQ
theorem PQ {t:Ty} (h:t.flat=true) (xs:List t.dn) (i j:Nat):(cy t xs i j).deep=cy t xs i j:=by
 rw [nC]
 cases hz:(dK t (xs.getD i t.df))[j]? with
 | none=>rfl
 | some y=>
  refine D0 ?_
  have h2:(FF t)[j]?=some y.t:=by rw [← PO t (xs.getD i t.df),List.getElem?_map,hz];rfl
  have h3:=List.mem_of_getElem? h2
  cases t with
  | sl=>cases h
  | st i=>
   simp only [Ty.flat,List.all_eq_true] at h
   have:=h _ h3
   generalize y.t=u at this
   cases u<;>first | rfl | cases this
  | _=>simp only [FF,List.mem_singleton] at h3;rw [h3];rfl
theorem Br (t:Ty) (xs:List t.dn) (i j:Nat):(cy t xs i j).UA:=by
 simp only [cy]
 rw [← e_]
 simp only [List.getD,List.getElem?_map]
 cases hz:(dK t ((xs[i]?).getD t.df))[j]? with
 | none=>trivial
 | some z=>exact VZ _ z (Aq _ _ z (List.mem_of_getElem? hz)) rfl
theorem Lh (t:Ty) (x:t.dn) (j:Nat):((rk t x).getD j .top).Kc=false:=by
 rw [← e_]
 simp only [List.getD,List.getElem?_map]
 cases (dK t x)[j]? with
 | none=>rfl
 | some y=>exact IQ
def sv (t:Ty):TA→Option cE
 | .d x=>if x.t=t then (if x.t.leaf then some x else none) else none
 | .eQ=>match t with
  | .sl u=>some ⟨.sl u,[]⟩
  | _=>none
 | _=>none
theorem gR {t:Ty} {a:TA} {y:cE} (h:sv t a=some y):y.t=t∧y.t.leaf=true∧∀ H,gZ (a.av H) (cK y):=by
 unfold sv at h
 split at h
 ·split at h
  ·split at h
   ·cases h;exact ⟨‹_›,‹_›,fun H=>by simp only [TA.av];exact gZ.refl _⟩
   ·cases h
  ·cases h
 ·split at h
  ·cases h;exact ⟨rfl,rfl,fun H=>by simp only [TA.av,cK,Dp,List.length_nil];exact gZ.eQ _ _⟩
  ·cases h
 ·cases h
def rG:List Ty→List TA→Option (List cE)
 | [],[]=>some []
 | t::ts,a::l=>match sv t a,rG ts l with
  | some y,some r=>some (y::r)
  | _,_=>none
 | _,_=>none
theorem mJ:∀ {ts:List Ty} {l:List TA} {r:List cE},rG ts l=some r→r.length=l.length∧r.map (·.t)=ts∧(∀ y,y∈r→y.t.leaf=true)∧∀ H k,k < l.length→gZ ((l.getD k .top).av H) ((r.map cK).getD k .top)
 | [],[],r,h=>by cases h;exact ⟨rfl,rfl,(fun y hy=>by cases hy),(fun H k hk=>by cases hk)⟩
 | [],_::_,r,h=>by cases h
 | _::_,[],r,h=>by cases h
 | t::ts,a::l,r,h=>by
  simp only [rG] at h
  split at h
  ·rename_i y r' hy hr
   cases h
   obtain ⟨h1,h2,h3⟩:=gR hy
   obtain ⟨k1,k2,k3,k4⟩:=mJ hr
   refine ⟨by simp [k1],by simp [h1,k2],fun z hz=>?_,fun H k hk=>?_⟩
   ·rcases List.mem_cons.1 hz with e | e
    ·rw [e];exact h2
    ·exact k3 z e
   ·cases k with
    | zero=>exact fun hv=>h3 H hv
    | succ k=>exact fun hv=>k4 H k (by simpa using hk) hv
  ·cases h
end Go.Proofs.YtljfmaaadnoggaaGreatDoor.cU
