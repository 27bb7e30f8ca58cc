/- Abstract values with typed data; states; patterns of frames; what a pattern reads out of a state, and what it makes. No condition. -/
import Derived.Test.YtjkbbdldmdajkaaGreatDoorFnTy
set_option linter.unusedSimpArgs false
set_option linter.unusedVariables false
namespace Go.Proofs.YtjkbbdldmdajkaaGreatDoor.c5
open Go Go.RowKit
inductive TA where
 | top
 | lit (v:Value)
 | d (x:cG)
 | fb
 | agg (cs:List TA)
 | ov (cs:List TA)
 | fp (t:Ty) (x:t.dn) (off:Nat)
 | rb (cs:List TA) (off:Nat)
 | ow (id:Nat)
 | bs (id n bB:Nat)
 | bp (id off:Nat)
 | rp (id:Nat) (i:Int) (off:Nat)
 | mp (id:Nat)
 | oR (t:TypeId) (a:TA)
 | fn (f:Fn) (xs ys:List TA)
instance:Inhabited TA:=⟨.top⟩
inductive RV where
 | ms
 | vs
 | dm
 | dv
 deriving DecidableEq
def RV.b:RV→Bool
 | .vs | .dv=>true
 | _=>false
def RV.d:RV→Bool
 | .dm | .dv=>true
 | _=>false
inductive aX where
 | box (l:List TA)
 | row (t:Ty) (v:RV) (xs:List t.dn)
 | de (t:Ty) (v:RV) (xs:List t.dn) (i:Int) (os:List (Nat×Nat))
 | bZ (x:Option (Ty×RV×Nat))
 | dmap (i:Nat) (l:List (C i))
 | SX (t:Ty) (l:List (t.dn×FuncId))
def fv:Option aX→Option (Ty×RV×Nat)
 | some (.row t v xs)=>some (t,v,xs.length)
 | some (.de t v xs _ _)=>some (t,v,xs.length)
 | some (.bZ x)=>x
 | _=>none
structure bL where
 nt:Nat
 N:Nat
 tm:List (Nat×TA)
 H:List (Nat×aX)
def look:List (Nat×TA)→Nat→TA
 | [],_=>.top
 | (i,v)::r,t=>match Nat.beq t i with
  | true=>v
  | false=>look r t
def aS:List (Nat×aX)→Nat→Option aX
 | [],_=>none
 | (i,v)::r,t=>match Nat.beq t i with
  | true=>some v
  | false=>aS r t
def cA (H:List (Nat×aX)):List (Nat×Option aX)→List (Nat×aX)
 | []=>H
 | (i,some b)::r=>(i,b)::cA H r
 | (i,none)::r=>(i,.bZ (fv (aS (cA H r) i)))::cA H r
def cst:Value→TA
 | .bool b=>.d ⟨.bool,b⟩
 | .int k n=>.d ⟨.int k,n⟩
 | .string s=>.d ⟨.str,s.data.toList⟩
 | .slice none 0 0=>.fb
 | .func f ⟨[]⟩ ⟨[]⟩=>.fn f [] []
 | .agg ⟨[]⟩=>.agg []
 | v=>.lit v
def bL.val (s:bL):Operand→TA
 | .tmp t=>look s.tm t
 | .const v=>cst v
 | .func f=>.fn (.func f) [] []
 | .global _=>.top
mutual
def TA.av (H:List (Nat×aX)):TA→AV
 | .top=>.top
 | .lit v=>.lit v
 | .d x=>cL x
 | .fb=>.fb
 | .agg cs=>.agg (di H cs)
 | .ov cs=>.ov (di H cs)
 | .fp t x off=>.fp (ff t) (fun j=>(r9 t x).getD j .top) off
 | .rb cs off=>.rb (di H cs) off
 | .ow id=>match fv (aS H id) with
  | some (t,v,n)=>dh v.b id n (ff t)
  | none=>.top
 | .bs id n bB=>.ms id 0 n bB
 | .bp id off=>.bp id off
 | .rp id i off=>match fv (aS H id) with
  | some (t,_,_)=>.rp id (ff t) i.toNat off
  | none=>.top
 | .mp id=>.mp id
 | .oR t a=>.oR t (a.av H)
 | .fn f xs ys=>.fn f (di H xs) (di H ys)
def di (H:List (Nat×aX)):List TA→List AV
 | []=>[]
 | a::r=>a.av H::di H r
end
theorem cW (H:List (Nat×aX)):∀ l:List TA,di H l=l.map (TA.av H)
 | []=>by simp [di]
 | a::r=>by simp [di,cW H r]
def cz (t:Ty) (xs:List t.dn):Nat→Nat→AV:=fun i j=>(r9 t (xs.getD i t.df)).getD j .top
def s_:List cG→AV×AV
 | [x]=>(cL x,.agg [])
 | x::y::_=>(cL x,cL y)
 | []=>(.top,.top)
def c6:Nat→List cG→AV×AV
 | 0,l=>s_ l
 | n+1,l=>(.agg ((l.take (n+1)).map cL),match l.drop (n+1) with
  | y::_=>cL y
  | []=>.agg [])
def bV (v:RV) (t:Ty) (xs:List t.dn):Nat→Nat→AV:=fun i j=>match v.d with
 | true=>(cz t xs i j).deep
 | false=>cz t xs i j
def tb:List (Nat×Nat)→Nat→Option Nat
 | [],_=>none
 | (i,x)::r,j=>match Nat.beq j i with
  | true=>some x
  | false=>tb r j
def sg (H:List (Nat×aX)) (v:RV) (t:Ty) (xs:List t.dn) (i:Int) (os:List (Nat×Nat)):Nat→Nat→AV:=fun i' j=>if i'=i.toNat then (match tb os j with
 | some id=>(TA.ow id).av H
 | none=>bV v t xs i' j) else bV v t xs i' j
def aX.refs:aX→List TA
 | .box l=>l
 | .de _ _ _ _ os=>os.map fun p=>.ow p.2
 | _=>[]
def aX.du (H:List (Nat×aX)):aX→jz
 | .box l=>.box (di H l)
 | .row t v xs=>.row v.b (ff t) xs.length (bV v t xs)
 | .de t v xs i os=>.de v.b (ff t) xs.length (sg H v t xs i os)
 | .bZ _=>.box []
 | .dmap i l=>.map (l.map fun x=>c6 (I9 i) (get i x))
 | .SX t l=>.map (l.map fun x=>(cL ⟨t,x.1⟩,.fn (.func x.2) [] []))
def aX.T5:aX→Bool
 | .bZ _=>false
 | _=>true
def sx (H:List (Nat×aX)):Hp:=fun id=>(aS H id).bind fun b=>match b.T5 with
 | true=>some (b.du H)
 | false=>none
theorem J2 {H:List (Nat×aX)} {id:Nat} {b:aX} (h:aS H id=some b) (hv:b.T5=true):sx H id=some (b.du H):=by
 simp [sx,h,hv]
theorem ij {H:List (Nat×aX)} {id:Nat} {B:jz} (h:sx H id=some B):∃ b,aS H id=some b∧b.T5=true∧B=b.du H:=by
 unfold sx at h;cases e:aS H id with
 | none=>rw [e] at h;cases h
 | some b=>
  rw [e] at h;cases hv:b.T5 with
  | false=>simp [hv] at h
  | true=>
   simp only [Option.bind_some,hv,Option.some.injEq] at h;exact ⟨b,rfl,hv,h.symm⟩
def bL.st (s:bL):fG:=⟨s.nt,s.N,fun t=>(look s.tm t).av s.H,sx s.H⟩
mutual
def TA.wf (H:List (Nat×aX)) (N:Nat):TA→Prop
 | .ow id=>id < N
 | .rp id i _=>id < N∧∀ t v n,fv (aS H id)=some (t,v,n)→i.toNat < n
 | .agg cs=>hU H N cs
 | .rb cs _=>hU H N cs
 | .ov cs=>hU H N cs
 | .oR _ a=>a.wf H N
 | .fn _ xs ys=>hU H N xs∧hU H N ys
 | _=>True
def hU (H:List (Nat×aX)) (N:Nat):List TA→Prop
 | []=>True
 | a::r=>a.wf H N∧hU H N r
end
theorem cZ {H:List (Nat×aX)} {N:Nat}:∀ {l:List TA},hU H N l↔∀ a,a∈l→a.wf H N
 | []=>by simp [hU]
 | a::r=>by simp [hU,cZ (l:=r)]
structure bL.ok (s:bL):Prop where
 tm:∀ t,(look s.tm t).wf s.H s.N
 H:∀ id b,aS s.H id=some b→hU s.H s.N b.refs
def dZ:(t:Ty)→t.dn→List cG
 | .st i,x=>get i x
 | .int k,x=>[⟨.int k,x⟩]
 | .str,x=>[⟨.str,x⟩]
 | .bool,x=>[⟨.bool,x⟩]
 | .sl t,x=>[⟨.sl t,x⟩]
def FI:Ty→List Ty
 | .st i=>zS i
 | t=>[t]
def LL (t:Ty) (l:List cG):Option t.dn:=match t with
 | .st i=>match oj (zS i) l with
  | some y=>some (xQ (zS i) (con i) y)
  | none=>none
 | .int k=>match oj [.int k] l with
  | some y=>some y.1
  | none=>none
 | .str=>match oj [.str] l with
  | some y=>some y.1
  | none=>none
 | .bool=>match oj [.bool] l with
  | some y=>some y.1
  | none=>none
 | .sl t=>match oj [.sl t] l with
  | some y=>some y.1
  | none=>none
theorem eU {t:Ty} {l:List cG} {x:t.dn} (h:LL t l=some x):dZ t x=l:=by
 cases t with
 | st i=>
  simp only [LL] at h;split at h
  ·rename_i y hy;cases h;exact (aaW i y).trans (lO hy)
  ·cases h
 | _=>
  simp only [LL] at h;split at h
  ·rename_i y hy;cases h;exact lO hy
  ·cases h
theorem fw:∀ (t:Ty) (x:t.dn),(dZ t x).map cL=r9 t x
 | .st i,x=>Jx i x
 | .int _,_=>rfl
 | .str,_=>rfl
 | .bool,_=>rfl
 | .sl _,_=>rfl
theorem fa (t:Ty) (x:t.dn):(dZ t x).length=ff t:=by
 cases t with
 | st i=>exact aaX i x
 | _=>rfl
theorem aaT (t:Ty) (x:t.dn):(r9 t x).length=ff t:=by rw [← fw,List.length_map,fa]
def Ty.leaf:Ty→Bool
 | .st _=>false
 | _=>true
theorem AM (t:Ty) (x:t.dn) (y:cG) (h:y∈dZ t x):y.t.leaf=true:=by
 cases t with
 | st i=>
  have:=YR i x y h;generalize ht:y.t=u at this;cases u<;>first | rfl | exact absurd rfl (this _)
 | _=>simp only [dZ,List.mem_singleton] at h;subst h;rfl
theorem adY {w:World} {F:Nat→Prop} {μ:Nat→Nat} {K:Nat→Prop} {bB n:Nat} {e:Nat→Nat→AV} {v:Value} (h:VR w F μ K (.fs bB n e) v):VR w F μ Cv (.fs bB n e) v:=by
 cases h with
 | fs _ _ _ b o cap u hF hc hu hv=>exact .fs _ _ _ b o cap u hF hc hu hv
 | u_=>exact .u_ _ _ _ _
theorem adZ {w:World} {F:Nat→Prop} {μ:Nat→Nat} {K:Nat→Prop} {bB n:Nat} {e:Nat→Nat→AV} {v:Value} (h:VR w F μ K (.fs bB n e) v):v.oneCell'=true:=by
 cases h<;>rfl
theorem uq {y:cG} (h:y.t.leaf=true):PI (cL y):=by
 intro w F μ K v hv;obtain ⟨t,x⟩:=y;cases t with
 | st i=>simp [Ty.leaf] at h
 | int k=>exact (hv.c8▸.int _ _:VR w F μ Cv (.int k x) v)
 | str=>exact (hv.jn▸.str _:VR w F μ Cv (.str x) v)
 | bool=>exact (hv.eR▸.bool _:VR w F μ Cv (.bool x) v)
 | sl t=>exact adY hv
theorem IG {y:cG} (h:y.t.leaf=true):One (cL y):=by
 intro w F μ K v hv;obtain ⟨t,x⟩:=y;cases t with
 | st i=>simp [Ty.leaf] at h
 | int k=>rw [hv.c8];rfl
 | str=>rw [hv.jn];rfl
 | bool=>rw [hv.eR];rfl
 | sl t=>exact adZ hv
theorem IH {y:cG}:(cL y).JZ=false:=by
 obtain ⟨t,x⟩:=y;cases t<;>rfl
theorem Wb:∀ (a:AV) (y:cG),y.t.leaf=true→a=cL y→a.UH
 | .fs bB n e,y,hl,h=>by
  obtain ⟨t,x⟩:=y;cases t with
  | sl t=>
   simp only [cL,C8,AV.fs.injEq] at h;obtain ⟨_,_,h3⟩:=h;simp only [AV.UH];intro i j;have h4:e i j=(r9 t (List.getD x i t.df)).getD j .top:=by rw [h3]
   have hr:∀ (b:AV),b=(r9 t (List.getD x i t.df)).getD j .top→b.UH∨∃ z:cG,z.t.leaf=true∧b=cL z:=fun b hb=>by
    rw [← fw] at hb;simp only [List.getD,List.getElem?_map] at hb;cases hz:(dZ t (List.getD x i t.df))[j]? with
    | none=>simp only [List.getD] at hz;rw [hz] at hb;exact .inl (by rw [hb];trivial)
    | some z=>simp only [List.getD] at hz;rw [hz] at hb;exact .inr ⟨z,AM _ _ z (List.mem_of_getElem? hz),hb⟩
   rcases hr _ h4 with k | ⟨z,k1,k2⟩
   ·exact k
   ·exact Wb (e i j) z k1 k2
  | st=>cases hl
  | _=>simp only [cL] at h;cases h
 | .int _ _,_,_,_=>trivial
 | .bool _,_,_,_=>trivial
 | .str _,_,_,_=>trivial
 | .top,_,_,_=>trivial
 | .lit _,y,hl,h=>by obtain ⟨t,x⟩:=y;cases t<;>simp [cL,C8,Ty.leaf] at h hl
 | .fb,y,hl,h=>by obtain ⟨t,x⟩:=y;cases t<;>simp [cL,C8,Ty.leaf] at h hl
 | .agg _,y,hl,h=>by obtain ⟨t,x⟩:=y;cases t<;>simp [cL,C8,Ty.leaf] at h hl
 | .ov _,y,hl,h=>by obtain ⟨t,x⟩:=y;cases t<;>simp [cL,C8,Ty.leaf] at h hl
 | .fp _ _ _,y,hl,h=>by obtain ⟨t,x⟩:=y;cases t<;>simp [cL,C8,Ty.leaf] at h hl
 | .rb _ _,y,hl,h=>by obtain ⟨t,x⟩:=y;cases t<;>simp [cL,C8,Ty.leaf] at h hl
 | .os _ _ _,y,hl,h=>by obtain ⟨t,x⟩:=y;cases t<;>simp [cL,C8,Ty.leaf] at h hl
 | .ms _ _ _ _,y,hl,h=>by obtain ⟨t,x⟩:=y;cases t<;>simp [cL,C8,Ty.leaf] at h hl
 | .vs _ _ _,y,hl,h=>by obtain ⟨t,x⟩:=y;cases t<;>simp [cL,C8,Ty.leaf] at h hl
 | .bp _ _,y,hl,h=>by obtain ⟨t,x⟩:=y;cases t<;>simp [cL,C8,Ty.leaf] at h hl
 | .rp _ _ _ _,y,hl,h=>by obtain ⟨t,x⟩:=y;cases t<;>simp [cL,C8,Ty.leaf] at h hl
 | .mp _,y,hl,h=>by obtain ⟨t,x⟩:=y;cases t<;>simp [cL,C8,Ty.leaf] at h hl
 | .oR _ _,y,hl,h=>by obtain ⟨t,x⟩:=y;cases t<;>simp [cL,C8,Ty.leaf] at h hl
 | .fn _ _ _,y,hl,h=>by obtain ⟨t,x⟩:=y;cases t<;>simp [cL,C8,Ty.leaf] at h hl
 | .wh _ _,y,hl,h=>by obtain ⟨t,x⟩:=y;cases t<;>simp [cL,C8,Ty.leaf] at h hl
def Ty.flat:Ty→Bool
 | .sl _=>false
 | .st i=>(zS i).all fun t=>match t with
  | .sl _ | .st _=>false
  | _=>true
 | _=>true
def Ty.Lq:Ty→Bool
 | .sl _=>true
 | _=>false
def kindOf (u:Ty):RV:=match u.flat with
 | true=>.vs
 | false=>.dv
def XO (t:Ty) (off n:Nat):Bool:=(((FI t).drop off).take n).any Ty.Lq
theorem Ed {y:cG} (h:y.t.Lq=false):(cL y).deep=cL y:=by
 obtain ⟨t,x⟩:=y;cases t with
 | sl=>cases h
 | _=>rfl
theorem PL (t:Ty) (x:t.dn):(dZ t x).map (·.t)=FI t:=by
 cases t with
 | st i=>exact qd i x
 | _=>rfl
theorem ot (t:Ty) (xs:List t.dn) (i j:Nat):cz t xs i j=match (dZ t (xs.getD i t.df))[j]? with
  | some y=>cL y
  | none=>.top:=by
 simp only [cz];rw [← fw];simp only [List.getD,List.getElem?_map];cases (dZ t ((xs[i]?).getD t.df))[j]?<;>rfl
theorem BR {v:RV} {t:Ty} {xs:List t.dn} {i off n k:Nat} (h:v.d=true→XO t off n=false) (hk:k < n):bV v t xs i (off+k)=cz t xs i (off+k):=by
 unfold bV;cases hv:v.d with
 | false=>rfl
 | true=>
  have h:=h hv;simp only;rw [ot];cases hz:(dZ t (xs.getD i t.df))[off+k]? with
  | none=>rfl
  | some y=>
   refine Ed ?_;have h2:(FI t)[off+k]?=some y.t:=by rw [← PL t (xs.getD i t.df),List.getElem?_map,hz];rfl
   have h3:y.t∈((FI t).drop off).take n:=by
    refine List.mem_of_getElem? (i:=k) ?_;rw [List.getElem?_take,if_pos hk,List.getElem?_drop];exact h2
   have:=(List.any_eq_false.1 h) _ h3;simpa using this
theorem Ee (t:Ty) (xs:List t.dn) (i j:Nat):(cz t xs i j).JZ=false:=by
 rw [ot];cases (dZ t (xs.getD i t.df))[j]? with
 | none=>rfl
 | some y=>exact IH
theorem PM {t:Ty} (h:t.flat=true) (xs:List t.dn) (i j:Nat):(cz t xs i j).deep=cz t xs i j:=by
 rw [ot];cases hz:(dZ t (xs.getD i t.df))[j]? with
 | none=>rfl
 | some y=>
  refine Ed ?_;have h2:(FI t)[j]?=some y.t:=by rw [← PL t (xs.getD i t.df),List.getElem?_map,hz];rfl
  have h3:=List.mem_of_getElem? h2;cases t with
  | sl=>cases h
  | st i=>
   simp only [Ty.flat,List.all_eq_true] at h;have:=h _ h3;generalize y.t=u at this;cases u<;>first | rfl | cases this
  | _=>simp only [FI,List.mem_singleton] at h3;rw [h3];rfl
theorem BS (t:Ty) (xs:List t.dn) (i j:Nat):(cz t xs i j).UH:=by
 simp only [cz];rw [← fw];simp only [List.getD,List.getElem?_map];cases hz:(dZ t ((xs[i]?).getD t.df))[j]? with
 | none=>trivial
 | some z=>exact Wb _ z (AM _ _ z (List.mem_of_getElem? hz)) rfl
theorem KT (t:Ty) (x:t.dn) (j:Nat):((r9 t x).getD j .top).JZ=false:=by
 rw [← fw];simp only [List.getD,List.getElem?_map];cases (dZ t x)[j]? with
 | none=>rfl
 | some y=>exact IH
def td (t:Ty):TA→Option cG
 | .d x=>if x.t=t then (if x.t.leaf then some x else none) else none
 | .fb=>match t with
  | .sl u=>some ⟨.sl u,[]⟩
  | _=>none
 | _=>none
theorem ik {t:Ty} {a:TA} {y:cG} (h:td t a=some y):y.t=t∧y.t.leaf=true∧∀ H,g8 (a.av H) (cL y):=by
 unfold td at h;split at h
 ·split at h
  ·split at h
   ·cases h;exact ⟨‹_›,‹_›,fun H=>by simp only [TA.av];exact g8.refl _⟩
   ·cases h
  ·cases h
 ·split at h
  ·cases h;exact ⟨rfl,rfl,fun H=>by simp only [TA.av,cL,C8,List.length_nil];exact g8.fb _ _⟩
  ·cases h
 ·cases h
def si:List Ty→List TA→Option (List cG)
 | [],[]=>some []
 | t::ts,a::l=>match td t a,si ts l with
  | some y,some r=>some (y::r)
  | _,_=>none
 | _,_=>none
theorem nK:∀ {ts:List Ty} {l:List TA} {r:List cG},si ts l=some r→r.length=l.length∧r.map (·.t)=ts∧(∀ y,y∈r→y.t.leaf=true)∧∀ H k,k < l.length→g8 ((l.getD k .top).av H) ((r.map cL).getD k .top)
 | [],[],r,h=>by cases h;exact ⟨rfl,rfl,(fun y hy=>by cases hy),(fun H k hk=>by cases hk)⟩
 | [],_::_,r,h=>by cases h
 | _::_,[],r,h=>by cases h
 | t::ts,a::l,r,h=>by
  simp only [si] at h;split at h
  ·rename_i y r' hy hr;cases h;obtain ⟨h1,h2,h3⟩:=ik hy;obtain ⟨k1,k2,k3,k4⟩:=nK hr;refine ⟨by simp [k1],by simp [h1,k2],fun z hz=>?_,fun H k hk=>?_⟩
   ·rcases List.mem_cons.1 hz with e | e
    ·rw [e];exact h2
    ·exact k3 z e
   ·cases k with
    | zero=>exact fun hv=>h3 H hv
    | succ k=>exact fun hv=>k4 H k (by simpa using hk) hv
  ·cases h
end Go.Proofs.YtjkbbdldmdajkaaGreatDoor.c5
