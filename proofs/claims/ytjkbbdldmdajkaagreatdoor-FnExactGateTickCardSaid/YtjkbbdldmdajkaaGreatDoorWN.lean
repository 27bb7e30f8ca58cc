/- The evaluator of maps. No condition. -/
import Derived.Test.YtjkbbdldmdajkaaGreatDoorWM
set_option linter.unusedSimpArgs false
set_option linter.unusedVariables false
namespace Go.Proofs.YtjkbbdldmdajkaaGreatDoor.c_
open Go Go.RowKit
variable {w w' xk:World} {F F' Bs O O' v8:Nat→Prop} {μ bC lG:Nat→Nat} {K K' EF:Nat→Prop} {ft bZ:Nat→Nat→Prop} {P:Program} {R:Type}
def J6 {α:Type} (p:α→Bool) (l:List α):Bool:=(l.findIdx? p).isSome
def nN {α β:Type} (p:α→Bool) (f:α→β) (d:β) (l:List α):β:=match l.find? p with
 | some y=>f y
 | none=>d
def acY {α:Type} (p:α→Bool) (l:List α):List α:=match l.findIdx? p with
 | some j=>l.eraseIdx j
 | none=>l
def pB {α:Type} (p:α→Bool) (l:List α) (x:α):List α:=match l.findIdx? p with
 | some j=>l.set j x
 | none=>l++[x]
def keq:(t:Ty)→t.dn→t.dn→Bool
 | .int _,a,b=>bH a b
 | .str,a,b=>seq a b
 | _,_,_=>false
def Gv:TypeDesc→Ty→Bool
 | .int _,.int _=>true
 | .string,.str=>true
 | _,_=>false
theorem FA {d:TypeDesc} {q:Ty} (h:Gv d q=true) (k:q.dn):(∀ kt,P.underlying kt=some d→BK P kt (cR ⟨q,k⟩)=true)∧Qb (cR ⟨q,k⟩)∧∀ k',Eo (cR ⟨q,k⟩) (cR ⟨q,k'⟩)=some (keq q k k'):=by
 cases q with
 | int kk=>exact ⟨fun kt ht=>by simp only [cR,BK,ht];cases d<;>simp [Gv] at h;rfl,vk rfl,fun k'=>by simp [cR,Eo,eq1,keq]⟩
 | str=>exact ⟨fun kt ht=>by simp only [cR,BK,ht];cases d<;>simp [Gv] at h;rfl,vk rfl,fun k'=>by simp [cR,Eo,eq1,keq]⟩
 | bool=>cases d<;>simp [Gv] at h
 | sl=>cases d<;>simp [Gv] at h
 | st=>cases d<;>simp [Gv] at h
def rS (i:Nat) (q:Ty) (k:q.dn) (y:C i):Bool:=match get i y with
 | ⟨t,a⟩::_=>if h:t=q then keq q k (h▸a) else false
 | []=>false
def aeR (i:Nat) (v:Ty) (y:C i):v.dn:=match get i y with
 | _::⟨t,a⟩::_=>if h:t=v then h▸a else v.df
 | _=>v.df
theorem OQ {i:Nat} {q:Ty} {r:List Ty} (hl:AE i=q::r) (y:C i):∃ a rest,get i y=⟨q,a⟩::rest∧rest.map (·.t)=r:=by
 have h:=q8 i y;rw [hl] at h
 match hg:get i y,h with
 | ⟨t,a⟩::rest,h=>
  simp only [List.map_cons,List.cons.injEq] at h;obtain ⟨h1,h2⟩:=h;subst h1;exact ⟨a,rest,rfl,h2⟩
theorem acZ {i:Nat} {q:Ty} {a k:q.dn} {rest:List cN} {y:C i} (h:get i y=⟨q,a⟩::rest):rS i q k y=keq q k a:=by
 unfold rS;rw [h];simp
theorem ac0 (l:List cN) (x:cN):(ua (x::l)).1=cR x:=by cases l<;>rfl
theorem xS {d:TypeDesc} {i:Nat} {q:Ty} {r:List Ty} (hl:AE i=q::r) (hd:Gv d q=true) (k:q.dn):∀ (l:List (C i)) (n:Nat),lJ (cR ⟨q,k⟩) (l.map fun x=>ua (get i x)) n=some ((l.findIdx? (rS i q k)).map (n+·))
 | [],n=>rfl
 | y::l,n=>by
  obtain ⟨a,rest,h1,h2⟩:=OQ hl y;simp only [List.map_cons,lJ,List.findIdx?_cons];rw [h1,ac0,(FA (P:=default) hd k).2.2 a,acZ h1,xS hl hd k l (n+1)];cases keq q k a with
  | true=>simp
  | false=>
   simp only [Bool.false_eq_true,if_false,Option.map_map]
   congr 2
   funext j;simp only [Function.comp];omega
def YK:cN→cN→Bool
 | ⟨.int _,a⟩,⟨.int _,b⟩=>bH a b
 | ⟨.str,a⟩,⟨.str,b⟩=>seq a b
 | _,_=>false
def Sj:List cN→List cN→Bool
 | [x],[y]=>YK x y
 | x::r,y::s=>YK x y&&Sj r s
 | _,_=>true
def V5 (P:Program):List Field→Nat→List Ty→Bool
 | [],_,[]=>true
 | f::fs,i,t::r=>(f.name != "_"&&(Nat.beq f.offset i&&(Nat.beq (P.cellsOf f.type) 1&&(match P.underlying f.type with
  | some d=>Gv d t
  | none=>false))))&&V5 P fs (i+1) r
 | _,_,_=>false
theorem aeS {d:TypeDesc} {x:cN} (h:Gv d x.t=true):E7 d (cR x)=true:=by
 obtain ⟨t,a⟩:=x;cases t<;>cases d<;>simp [Gv] at h<;>rfl
theorem Xi {P:Program}:∀ {fs:List Field} {i:Nat} {l:List cN},V5 P fs i (l.map (·.t))=true→JF P fs i (l.map cR)=true
 | [],_,[],_=>rfl
 | [],_,_::_,h=>by cases h
 | _::_,_,[],h=>by cases h
 | f::fs,i,x::l,h=>by
  simp only [List.map_cons,V5,Bool.and_eq_true] at h;obtain ⟨⟨h1,h2,h3,h4⟩,h5⟩:=h;simp only [List.map_cons,JF,Bool.and_eq_true];refine ⟨⟨h1,h2,h3,?_⟩,Xi h5⟩;split at h4
  ·rename_i d hd;rw [hd];exact aeS h4
  ·cases h4
theorem Xj {P:Program}:∀ {fs:List Field} {i:Nat} {l m:List cN},V5 P fs i (l.map (·.t))=true→m.map (·.t)=l.map (·.t)→eqL (l.map cR) (m.map cR)=some (Sj l m)
 | _,_,[],[],_,_=>rfl
 | _,_,[],_::_,_,h=>by cases h
 | _,_,_::_,[],_,h=>by cases h
 | [],_,_::_,_::_,h,_=>by cases h
 | f::fs,i,⟨t,a⟩::l,⟨u,b⟩::m,h,e=>by
  simp only [List.map_cons,List.cons.injEq] at e;obtain ⟨rfl,e⟩:=e;simp only [List.map_cons,V5,Bool.and_eq_true] at h;obtain ⟨⟨_,_,_,h4⟩,h5⟩:=h;have ih:=Xj (m:=m) h5 e;split at h4
  ·rename_i d hd;have k1:eq1 (cR ⟨u,a⟩) (cR ⟨u,b⟩)=some (YK ⟨u,a⟩ ⟨u,b⟩):=by
    cases u<;>cases d<;>simp [Gv] at h4<;>simp [cR,eq1,YK]
   simp only [List.map_cons,eqL,k1,ih];cases l with
   | nil=>
    cases m with
    | nil=>simp [Sj]
    | cons=>cases e
   | cons x l=>
    cases m with
    | nil=>cases e
    | cons y m=>simp [Sj]
  ·cases h4
def Up (P:Program) (kt:TypeId) (j:Nat):Bool:=match P.underlying kt with
 | some (.struct fs)=>!P.stoodInHeld kt&&V5 P fs.toList 0 (AE j)
 | _=>false
theorem JC {P:Program} {kt:TypeId} {j:Nat} (h:Up P kt j=true):∃ fs,P.underlying kt=some (.struct fs)∧P.stoodInHeld kt=false∧V5 P fs.toList 0 (AE j)=true:=by
 unfold Up at h;split at h
 ·rename_i fs YW;simp only [Bool.and_eq_true,Bool.not_eq_true'] at h;exact ⟨fs,YW,h.1,h.2⟩
 ·cases h
theorem KZ (j:Nat) (x:C j):cR ⟨.st j,x⟩=.agg ((get j x).map cR):=by
 show AV.agg (cc j x)=_;rw [J2]
theorem abm {j:Nat} {x:C j} {y:cN} (hy:y∈get j x):y.t.leaf=true:=Bu (.st j) x y hy
theorem ac1 {l:List cN} (h:∀ y,y∈l→y.t.leaf=true):Qb (.agg (l.map cR)):=by
 intro w F μ K v hv;obtain ⟨vs,rfl,zd⟩:=hv.fU;refine .rP ⟨zd.1,fun i hi=>?_⟩;have di:i < l.length:=by simpa using hi
 have e:(l.map cR).getD i .top=cR l[i]:=by simp [List.getD,di]
 have:=zd.2 i hi;rw [e] at this ⊢;exact vk (h _ (List.getElem_mem di)) this
theorem JD {P:Program} {kt:TypeId} {j:Nat} (h:Up P kt j=true) (k:C j):BK P kt (cR ⟨.st j,k⟩)=true∧Qb (cR ⟨.st j,k⟩)∧∀ m:List cN,m.map (·.t)=AE j→Eo (cR ⟨.st j,k⟩) (.agg (m.map cR))=some (Sj (get j k) m):=by
 obtain ⟨fs,h1,h2,h3⟩:=JC h;rw [KZ];refine ⟨?_,ac1 fun y hy=>abm hy,fun m hm=>?_⟩
 ·simp only [BK,h1,h2,Bool.not_false,Bool.true_and];exact Xi (by rw [q8];exact h3)
 ·exact Xj (by rw [q8];exact h3) (by rw [q8];exact hm)
def gF (i j n:Nat) (k:C j) (y:C i):Bool:=Sj (get j k) ((get i y).take n)
def BH (i n:Nat) (v:Ty) (y:C i):v.dn:=match (get i y).drop n with
 | ⟨t,a⟩::_=>if h:t=v then h▸a else v.df
 | []=>v.df
theorem Xd {i j n:Nat} (h:(AE i).take n=AE j) (y:C i):((get i y).take n).map (·.t)=AE j:=by
 rw [List.map_take,q8,h]
theorem BJ {P:Program} {kt:TypeId} {i j n:Nat} (hl:(AE i).take (n+1)=AE j) (hd:Up P kt j=true) (k:C j):∀ (l:List (C i)) (m:Nat),lJ (cR ⟨.st j,k⟩) (l.map fun x=>dd (n+1) (get i x)) m=some ((l.findIdx? (gF i j (n+1) k)).map (m+·))
 | [],m=>rfl
 | y::l,m=>by
  simp only [List.map_cons,lJ,List.findIdx?_cons];have e:(dd (n+1) (get i y)).1=.agg (((get i y).take (n+1)).map cR):=rfl;rw [e,(JD hd k).2.2 _ (Xd hl y),BJ hl hd k l (m+1)];show (match some (gF i j (n+1) k y) with | some true=>_ | some false=>_ | none=>_)=_;cases gF i j (n+1) k y with
  | true=>simp
  | false=>
   simp only [Bool.false_eq_true,if_false,Option.map_map]
   congr 2
   funext q;simp only [Function.comp];omega
def GU (ok:Bool) (v:TA) (b:Bool):TA:=match ok with
 | true=>.nP [v,.d ⟨.bool,b⟩]
 | false=>v
theorem BM (ok:Bool) (v:TA) (b:Bool) (H:List (Nat×aY)):(GU ok v b).av H=OP ok (v.av H) b:=by
 cases ok<;>simp [GU,OP,TA.av,dD,cR]
theorem BN {ok:Bool} {v:TA} {b:Bool} {H:List (Nat×aY)} {N:Nat} (h:v.wf H N):(GU ok v b).wf H N:=by
 cases ok with
 | false=>exact h
 | true=>simp only [GU,TA.wf,im];exact ⟨h,trivial,trivial⟩
def zvT (P:Program) (t:TypeId):Option TA:=match P.info? t with
 | some i=>match i.zero with
  | some z=>match z with
   | .agg ⟨_::_⟩=>none
   | z=>some (cst z)
  | none=>none
 | none=>none
theorem OK {t:TypeId} {a:TA} (h:zvT P t=some a) (H:List (Nat×aY)) (N:Nat):zvA P t=some (a.av H)∧a.wf H N:=by
 unfold zvT at h;unfold zvA;split at h
 ·rename_i i hi;split at h
  ·rename_i z hz;split at h
   ·cases h
   ·rename_i qL;cases h;rw [hi];simp only [hz,NM];refine ⟨?_,aay H N z⟩
    congr 1
    unfold zv;split
    ·rename_i cs;cases cs with
     | nil=>rfl
     | cons a r=>exact absurd rfl (qL a r)
    ·rfl
  ·cases h
 ·cases h
def KO (E:Env) (s:bP) (t:TypeId) (κ:cx→Option R):Option R:=match (E.mp.find? fun p=>Nat.beq p.1 t) with
 | some p=>κ ⟨.mp s.N,[(s.N,some (.dmap p.2 []))],1⟩
 | none=>match E.P.underlying t with
  | some (.map kt _)=>match L5 E.tc kt with
   | some q=>κ ⟨.mp s.N,[(s.N,some (.Tv q []))],1⟩
   | none=>none
  | _=>none
theorem R3 {E:Env} {o:Oper} {s:bP} {κ:cx→Option R} {z:R} {t:TypeId} (ho:o.op=.makeMap t none) (hs:s.ok) (h:KO E s t κ=some z):wg E.P o s κ z:=by
 unfold KO at h;split at h
 ·exact hJ hs h (OO (N:=s.N) ho) nL (by simp only [TA.av];exact (@il.refl _)) (by simp only [TA.wf]) (by simp only [aY.dC,List.map_nil];exact eQ.refl _) (fun l' e=>by cases e)
 ·split at h
  ·split at h
   ·exact hJ hs h (OO (N:=s.N) ho) nL (by simp only [TA.av];exact (@il.refl _)) (by simp only [TA.wf]) (by simp only [aY.dC,List.map_nil];exact eQ.refl _) (fun l' e=>by cases e)
   ·cases h
  ·cases h
def Xk {t:Ty} (k:t.dn) (κ:Option FuncId→Option R):List (t.dn×FuncId)→Option R
 | []=>κ none
 | p::r=>cond (keq t k p.1) (κ (some p.2)) (Xk k κ r)
theorem Uw {d:TypeDesc} {q:Ty} {k:q.dn} (hd:Gv d q=true) {κ:Option FuncId→Option R} {z:R}:∀ {l:List (q.dn×FuncId)} {n:Nat},Xk k κ l=some z→
  (lJ (cR ⟨q,k⟩) (l.map fun x=>(cR ⟨q,x.1⟩,AV.fn (.func x.2) [] [])) n=some none∧κ none=some z)∨
  ∃ j,n≤j∧lJ (cR ⟨q,k⟩) (l.map fun x=>(cR ⟨q,x.1⟩,AV.fn (.func x.2) [] [])) n=some (some j)∧∃ p,l[j-n]?=some p∧κ (some p.2)=some z
 | [],n,h=>.inl ⟨rfl,h⟩
 | p::r,n,h=>by
  simp only [Xk] at h;simp only [List.map_cons,lJ,(FA (P:=default) hd k).2.2];cases e:keq q k p.1 with
  | true=>
   rw [e] at h;exact .inr ⟨n,Nat.le_refl _,rfl,p,by simp,h⟩
  | false=>
   rw [e] at h;rcases Uw hd (n:=n+1) h with ⟨h1,h2⟩ | ⟨j,h0,h1,p',h2,h3⟩
   ·exact .inl ⟨h1,h2⟩
   ·exact .inr ⟨j,by omega,h1,p',by rw [show j-n=(j-(n+1))+1 by omega];simpa using h2,h3⟩
def YI (E:Env) (kt:TypeId) (cs:List TA):Option ((j:Nat)×C j):=match L5 E.tc kt with
 | some (.st j)=>match tf (AE j) cs with
  | some ds=>match Mg (.st j) ds with
   | some kk=>some ⟨j,kk⟩
   | none=>none
  | none=>none
 | _=>none
theorem Ms {E:Env} {kt:TypeId} {cs:List TA} {j:Nat} {kk:C j} (h:YI E kt cs=some ⟨j,kk⟩) (H:List (Nat×aY)):il ((TA.agg cs).av H) (cR ⟨.st j,kk⟩):=by
 unfold YI at h;split at h
 ·rename_i j' _;split at h
  ·rename_i ds tt;split at h
   ·rename_i kk' hb;cases h;obtain ⟨d1,d2,d3,d4⟩:=oB tt;intro w F μ K v hv;simp only [TA.av] at hv;obtain ⟨vs,rfl,zd⟩:=hv.fU;have e:get j kk=ds:=ff hb;rw [KZ,e];refine .rP ⟨by have:=zd.1;rw [bB] at this;simp [d1,this],fun k hk=>?_⟩;have Gn:k < cs.length:=by simpa [d1] using hk
    have:=zd.2 k (by rw [bB];exact Gn);rw [dx _ _ _ Gn] at this;exact d4 H k Gn this
   ·cases h
  ·cases h
 ·cases h
def Mu (E:Env) (s:bP) (id:Nat) (kt:TypeId) (zt:TA) (j:Nat) (kk:C j) (ok:Bool) (κ:cx→Option R):Option R:=match Up E.P kt j with
 | false=>none
 | true=>match aT s.H id with
  | some (.dmap i l)=>match JG i with
   | 0=>none
   | n+1=>match decEq ((AE i).take (n+1)) (AE j) with
    | .isFalse _=>none
    | .isTrue _=>match (AE i).drop (n+1) with
     | []=>match zt with
      | .agg []=>κ ⟨GU ok (.agg []) (J6 (gF i j (n+1) kk) l),[],0⟩
      | _=>none
     | [v]=>match uc v zt with
      | some ⟨v',z⟩=>match decEq v' v with
       | .isTrue e=>κ ⟨GU ok (.d ⟨v,nN (gF i j (n+1) kk) (BH i (n+1) v) (e▸z) l⟩) (J6 (gF i j (n+1) kk) l),[],0⟩
       | .isFalse _=>none
      | none=>none
     | _=>none
  | _=>none
def Om (E:Env) (s:bP) (t:TypeId) (x k:TA) (ok:Bool) (κ:cx→Option R):Option R:=match x,k,E.P.underlying t with
 | .mp id,.d ⟨q,kk⟩,some (.map kt et)=>match E.P.underlying kt,zvT E.P et with
  | some d,some zt=>match Gv d q with
   | true=>match aT s.H id with
    | some (.dmap i l)=>match JG i with
     | _+1=>none
     | 0=>match AE i with
     | [q']=>match decEq q' q with
      | .isTrue _=>match zt with
       | .agg []=>κ ⟨GU ok (.agg []) (J6 (rS i q kk) l),[],0⟩
       | _=>none
      | .isFalse _=>none
     | [q',v]=>match decEq q' q with
      | .isTrue _=>match uc v zt with
       | some ⟨v',z⟩=>match decEq v' v with
        | .isTrue e=>κ ⟨GU ok (.d ⟨v,nN (rS i q kk) (aeR i v) (e▸z) l⟩) (J6 (rS i q kk) l),[],0⟩
        | .isFalse _=>none
       | none=>none
      | .isFalse _=>none
     | _=>none
    | some (.Tv q' l)=>match decEq q' q with
     | .isTrue e=>Xk kk (fun r=>match r with
      | some f=>κ ⟨GU ok (.fn (.func f) [] []) true,[],0⟩
      | none=>κ ⟨GU ok zt false,[],0⟩) (e▸l:List (q.dn×FuncId))
     | .isFalse _=>none
    | _=>none
   | false=>match (⟨q,kk⟩:cN) with
    | ⟨.st j,k'⟩=>Mu E s id kt zt j k' ok κ
    | _=>none
  | _,_=>none
 | .mp id,.agg cs,some (.map kt et)=>match zvT E.P et,YI E kt cs with
  | some zt,some ⟨j,k'⟩=>Mu E s id kt zt j k' ok κ
  | _,_=>none
 | _,_,_=>none
theorem QE {ok:Bool} {a b:AV} {c:Bool} (h:il a b):il (OP ok a c) (OP ok b c):=by
 cases ok with
 | false=>exact h
 | true=>
  intro w F μ K v hv;obtain ⟨vs,rfl,zd⟩:=hv.I1;obtain ⟨v1,r,rfl,h1,h2⟩:=zd.cons_inv;exact .Ls (.cons (h h1) h2)
theorem BI {α:Type} {p:α→Bool}:∀ {l:List α},(l.findIdx? p=none∧l.find? p=none)∨∃ j y,l.findIdx? p=some j∧l[j]?=some y∧l.find? p=some y∧p y=true
 | []=>.inl ⟨rfl,rfl⟩
 | x::l=>by
  simp only [List.findIdx?_cons,List.find?_cons];cases e:p x with
  | true=>exact .inr ⟨0,x,by simp,by simp,rfl,e⟩
  | false=>
   rcases BI (p:=p) (l:=l) with ⟨h1,h2⟩ | ⟨j,y,h1,h2,h3,h4⟩
   ·exact .inl ⟨by simp [h1],h2⟩
   ·exact .inr ⟨j+1,y,by simp [h1],by simpa using h2,h3,h4⟩
theorem OR {E:Env} {o:Oper} {s:bP} {κ:cx→Option R} {z:R} {t kt et:TypeId} {x k:Operand} {ok:Bool} {id j:Nat} {kk:C j} {zt:TA} (ho:o.op=.lookup t x k ok) (hx:s.val x=.mp id) (h2:ee s.st k (cR ⟨.st j,kk⟩))
  (ht:E.P.underlying t=some (.map kt et)) (Tt:zvA E.P et=some (zt.av s.H)) (h:Mu E s id kt zt j kk ok κ=some z):wg E.P o s κ z:=by
 unfold Mu at h;split at h
 ·cases h
 ·rename_i Sz;obtain ⟨fs,DL,_,_⟩:=JC Sz;have L7:=JD Sz kk;have h1:ee s.st x (.mp id):=bX hx;split at h
  ·rename_i i l hl;split at h
   ·cases h
   ·rename_i n hn;have hH:s.st.H id=some (.map (l.map fun x=>dd (n+1) (get i x))):=by
     have h9:s.st.H id=some (.map (l.map fun x=>dd (JG i) (get i x))):=dF hl;rw [hn] at h9;exact h9
    split at h
    ·cases h
    ·rename_i OJ _;have hf:=BJ OJ Sz kk l 0;have m_:=BL ho h1 hH h2 ht DL L7.1 hf Tt;split at h
     ·rename_i hdr;split at h
      ·refine kK h m_ ?_ (BN (by simp only [TA.wf,im]));rw [BM];simp only [TA.av,dD,J6];show il (Af ok (.agg []) _ ((l.findIdx? (gF i j (n+1) kk)).map (0+·))) _;rcases BI (p:=gF i j (n+1) kk) (l:=l) with ⟨k1,k2⟩ | ⟨q,y,k1,k2,k3,k4⟩
       ·rw [k1];exact (@il.refl _)
       ·rw [k1];have hd0:(get i y).drop (n+1)=[]:=by
         have:=congrArg (List.drop (n+1)) (q8 i y);rw [hdr,← List.map_drop] at this;exact List.map_eq_nil_iff.1 this
        have m4:((l.map fun x=>dd (n+1) (get i x)).getD (0+q) (.top,.top)).2=.agg []:=by
         simp [List.getD,k2,dd,hd0]
        simp only [Option.map_some,Option.isSome_some,Af,m4];exact (@il.refl _)
      ·cases h
     ·rename_i v hdr;split at h
      ·rename_i v' z' Xa;split at h
       ·rename_i e _;subst e;refine kK h m_ ?_ (BN (by simp only [TA.wf]));rw [BM];simp only [TA.av,J6,nN];show il (Af ok (zt.av s.H) _ ((l.findIdx? (gF i j (n+1) kk)).map (0+·))) _;rcases BI (p:=gF i j (n+1) kk) (l:=l) with ⟨k1,k2⟩ | ⟨q,y,k1,k2,k3,k4⟩
        ·rw [k1,k2];exact QE ((iB Xa).2.2 s.H)
        ·rw [k1,k3];have hd0:((get i y).drop (n+1)).map (·.t)=[v']:=by
          rw [List.map_drop,q8,hdr]
         obtain ⟨b,hb⟩:∃ b:v'.dn,(get i y).drop (n+1)=[⟨v',b⟩]:=by
          match hg:(get i y).drop (n+1),hd0 with
          | [⟨t',b⟩],h0=>
           simp only [List.map_cons,List.map_nil,List.cons.injEq,and_true] at h0;subst h0;exact ⟨b,rfl⟩
         have m4:((l.map fun x=>dd (n+1) (get i x)).getD (0+q) (.top,.top)).2=cR ⟨v',b⟩:=by
          simp [List.getD,k2,dd,hb]
         have m5:BH i (n+1) v' y=b:=by
          unfold BH;rw [hb];simp
         simp only [Option.map_some,Option.isSome_some,Af,m4,m5];exact (@il.refl _)
       ·cases h
      ·cases h
     ·cases h
  ·cases h
theorem T4 {E:Env} {o:Oper} {s:bP} {κ:cx→Option R} {z:R} {t:TypeId} {x k:Operand} {ok:Bool} (ho:o.op=.lookup t x k ok) (hs:s.ok) (h:Om E s t (s.val x) (s.val k) ok κ=some z):wg E.P o s κ z:=by
 unfold Om at h;split at h
 ·rename_i id q kk kt et hx hk ht;split at h
  ·rename_i d zt DL hz;split at h
   ·rename_i hd;obtain ⟨Tt,hz2⟩:=OK hz s.H s.N;have h1:ee s.st x (.mp id):=bX hx;have h2:ee s.st k (cR ⟨q,kk⟩):=bX hk;have L7:=FA (P:=E.P) hd kk;split at h
    ·rename_i i l hl;split at h
     ·cases h
     rename_i Qk;have hH:s.st.H id=some (.map (l.map fun x=>ua (get i x))):=by
      have h9:s.st.H id=some (.map (l.map fun x=>dd (JG i) (get i x))):=dF hl;rw [Qk] at h9;exact h9
     split at h
     ·rename_i q' OJ;split at h
      ·rename_i e _;subst e;split at h
       ·have hf:=xS OJ hd kk l 0;have m_:=BL ho h1 hH h2 ht DL (L7.1 _ DL) hf Tt;refine kK h m_ ?_ (BN (by simp only [TA.wf,im]));rw [BM];simp only [TA.av,dD,J6];show il (Af ok (.agg []) _ ((l.findIdx? (rS i q' kk)).map (0+·))) _;rcases BI (p:=rS i q' kk) (l:=l) with ⟨k1,k2⟩ | ⟨j,y,k1,k2,k3,k4⟩
        ·rw [k1];exact (@il.refl _)
        ·rw [k1];obtain ⟨a,rest,m1,m2⟩:=OQ OJ y;have m3:rest=[]:=by simpa using m2
         have m4:((l.map fun x=>ua (get i x)).getD (0+j) (.top,.top)).2=.agg []:=by
          simp [List.getD,k2,m1,m3,ua]
         simp only [Option.map_some,Option.isSome_some,Af,m4];exact (@il.refl _)
       ·cases h
      ·cases h
     ·rename_i q' v OJ;split at h
      ·rename_i e _;subst e;split at h
       ·rename_i v' z' Xa;split at h
        ·rename_i e _;subst e;have hf:=xS OJ hd kk l 0;have m_:=BL ho h1 hH h2 ht DL (L7.1 _ DL) hf Tt;refine kK h m_ ?_ (BN (by simp only [TA.wf]));rw [BM];simp only [TA.av,J6,nN];show il (Af ok (zt.av s.H) _ ((l.findIdx? (rS i q' kk)).map (0+·))) _;rcases BI (p:=rS i q' kk) (l:=l) with ⟨k1,k2⟩ | ⟨j,y,k1,k2,k3,k4⟩
         ·rw [k1,k2];exact QE ((iB Xa).2.2 s.H)
         ·rw [k1,k3];obtain ⟨a,rest,m1,m2⟩:=OQ OJ y
          match rest,m2 with
          | [⟨t',b⟩],m2=>
           simp only [List.map_cons,List.map_nil,List.cons.injEq,and_true] at m2;subst m2;have m4:((l.map fun x=>ua (get i x)).getD (0+j) (.top,.top)).2=cR ⟨t',b⟩:=by
            simp [List.getD,k2,m1,ua]
           have m5:aeR i t' y=b:=by
            unfold aeR;rw [m1];simp
           simp only [Option.map_some,Option.isSome_some,Af,m4,m5];exact (@il.refl _)
        ·cases h
       ·cases h
      ·cases h
     ·cases h
    ·rename_i q' l hl;split at h
     ·rename_i e _;subst e;have hH:s.st.H id=some (.map (l.map fun x=>(cR ⟨q',x.1⟩,AV.fn (.func x.2) [] []))):=dF hl;rcases Uw hd (n:=0) h with ⟨k1,k2⟩ | ⟨j,_,k1,p,k2,k3⟩
      ·have m_:=BL ho h1 hH h2 ht DL (L7.1 _ DL) k1 Tt;exact kK k2 m_ (by rw [BM];exact (@il.refl _)) (BN hz2)
      ·have m_:=BL ho h1 hH h2 ht DL (L7.1 _ DL) k1 Tt;refine kK k3 m_ ?_ (BN (by simp only [TA.wf,im];exact ⟨trivial,trivial⟩));rw [BM];rw [Nat.sub_zero] at k2;have m4:((l.map fun x=>(cR ⟨q',x.1⟩,AV.fn (.func x.2) [] [])).getD j (.top,.top)).2=.fn (.func p.2) [] []:=by
        simp [List.getD,k2]
       simp only [Af,m4,TA.av,dD];exact (@il.refl _)
     ·cases h
    ·cases h
   ·split at h
    ·rename_i j k' hq;obtain ⟨rfl,hq2⟩:=cN.mk.inj hq;have hq3:=eq_of_heq hq2;subst hq3;exact OR ho hx (bX hk) ht (OK hz s.H s.N).1 h
    ·cases h
  ·cases h
 ·rename_i id cs kt et hx hk ht;split at h
  ·rename_i zt j k' hz hkg;exact OR ho hx (fun {w F O μ K ft act} hs=>Ms hkg s.H (hk▸gE s k hs)) ht (OK hz s.H s.N).1 h
  ·cases h
 ·cases h
def ac2 {t:Ty} (k:t.dn) (f:FuncId) (κ:List (t.dn×FuncId)→Option R):List (t.dn×FuncId)→Option R
 | []=>κ [(k,f)]
 | p::r=>cond (keq t k p.1) (κ ((k,f)::r)) (ac2 k f (fun l=>κ (p::l)) r)
theorem Xl {d:TypeDesc} {q:Ty} {k:q.dn} {f:FuncId} (hd:Gv d q=true) {z:R}:∀ {l:List (q.dn×FuncId)} {n:Nat} {κ:List (q.dn×FuncId)→Option R},ac2 k f κ l=some z→
  ∃ r l',lJ (cR ⟨q,k⟩) (l.map fun x=>(cR ⟨q,x.1⟩,AV.fn (.func x.2) [] [])) n=some (r.map (n+·))∧κ l'=some z∧
   (l'.map fun x=>(cR ⟨q,x.1⟩,AV.fn (.func x.2) [] []))=p9 (l.map fun x=>(cR ⟨q,x.1⟩,AV.fn (.func x.2) [] [])) (cR ⟨q,k⟩) (.fn (.func f) [] []) r
 | [],n,κ,h=>⟨none,_,rfl,h,rfl⟩
 | p::r,n,κ,h=>by
  simp only [ac2] at h;simp only [List.map_cons,lJ,(FA (P:=default) hd k).2.2];cases e:keq q k p.1 with
  | true=>
   rw [e] at h;exact ⟨some 0,_,rfl,h,by simp [p9]⟩
  | false=>
   rw [e] at h;obtain ⟨r',l',h1,h2,h3⟩:=Xl hd (n:=n+1) h;refine ⟨r'.map (·+1),p::l',?_,h2,?_⟩
   ·simp only [h1,Option.map_map]
    congr 2
    funext j;simp only [Function.comp];omega
   ·simp only [List.map_cons,h3];cases r'<;>simp [p9]
def Sl (E:Env) (s:bP) (id:Nat) (kt:TypeId) (j:Nat) (kk:C j) (x:TA) (κ:cx→Option R):Option R:=match Up E.P kt j with
 | false=>none
 | true=>match aT s.H id with
  | some (.dmap i l)=>match JG i with
   | 0=>none
   | n+1=>match decEq ((AE i).take (n+1)) (AE j) with
    | .isFalse _=>none
    | .isTrue _=>match (AE i).drop (n+1) with
     | []=>match x with
      | .agg []=>match Mg (.st i) (get j kk) with
       | some y=>κ ⟨.lit undef,[(id,some (.dmap i (pB (gF i j (n+1) kk) l y)))],0⟩
       | none=>none
      | _=>none
     | [v]=>match uc v x with
      | some y0=>match Mg (.st i) (get j kk++[y0]) with
       | some y=>κ ⟨.lit undef,[(id,some (.dmap i (pB (gF i j (n+1) kk) l y)))],0⟩
       | none=>none
      | none=>none
     | _=>none
  | _=>none
def Jr (E:Env) (s:bP) (t:TypeId) (m k x:TA) (κ:cx→Option R):Option R:=match m,k,E.P.underlying t with
 | .mp id,.d ⟨q,kk⟩,some (.map kt _)=>match E.P.underlying kt with
  | some d=>match Gv d q with
   | true=>match aT s.H id with
    | some (.dmap i l)=>match JG i with
     | _+1=>none
     | 0=>match AE i with
     | [q']=>match decEq q' q,x with
      | .isTrue _,.agg []=>match Mg (.st i) [⟨q,kk⟩] with
       | some y=>κ ⟨.lit undef,[(id,some (.dmap i (pB (rS i q kk) l y)))],0⟩
       | none=>none
      | _,_=>none
     | [q',v]=>match decEq q' q,uc v x with
      | .isTrue _,some y0=>match Mg (.st i) [⟨q,kk⟩,y0] with
       | some y=>κ ⟨.lit undef,[(id,some (.dmap i (pB (rS i q kk) l y)))],0⟩
       | none=>none
      | _,_=>none
     | _=>none
    | some (.Tv q' l)=>match decEq q' q,x with
     | .isTrue e,.fn (.func f) [] []=>ac2 kk f (fun l'=>κ ⟨.lit undef,[(id,some (.Tv q l'))],0⟩) (e▸l:List (q.dn×FuncId))
     | _,_=>none
    | _=>none
   | false=>match (⟨q,kk⟩:cN) with
    | ⟨.st j,k'⟩=>Sl E s id kt j k' x κ
    | _=>none
  | none=>none
 | .mp id,.agg cs,some (.map kt _)=>match YI E kt cs with
  | some ⟨j,k'⟩=>Sl E s id kt j k' x κ
  | none=>none
 | _,_,_=>none
theorem CN {H:List (Nat×aY)} {N rU:Nat} {b b0:aY} (hb:aT H rU=some b0) (h1:fH (some b)=none) (h0:fH (some b0)=none):Sub H (cD H [(rU,some b)]) N:=xG (L:=[]) fun _=>by rw [hb,h1,h0]
theorem Ux {i:Nat} {q:Ty} {kk:q.dn} {l:List (C i)} {y:C i} {ka va:AV} (hy:ua (get i y)=(ka,va)):
  (pB (rS i q kk) l y).map (fun x=>ua (get i x))=p9 (l.map fun x=>ua (get i x)) ka va (l.findIdx? (rS i q kk)):=by
 unfold pB;cases l.findIdx? (rS i q kk) with
 | none=>simp [p9,hy]
 | some j=>simp [p9,List.map_set,hy]
theorem K3 {i j n:Nat} {kk:C j} {l:List (C i)} {y:C i} {ka va:AV} (hy:dd (n+1) (get i y)=(ka,va)):
  (pB (gF i j (n+1) kk) l y).map (fun x=>dd (n+1) (get i x))=p9 (l.map fun x=>dd (n+1) (get i x)) ka va (l.findIdx? (gF i j (n+1) kk)):=by
 unfold pB;cases l.findIdx? (gF i j (n+1) kk) with
 | none=>simp [p9,hy]
 | some j=>simp [p9,List.map_set,hy]
theorem QF {E:Env} {o:Oper} {s:bP} {κ:cx→Option R} {z:R} {t kt et:TypeId} {m k x:Operand} {id j:Nat} {kk:C j} (ho:o.op=.mapUpdate t m k x∨o.op=.insert t m k x) (hs:s.ok) (hm:s.val m=.mp id) (h2:ee s.st k (cR ⟨.st j,kk⟩))
  (ht:E.P.underlying t=some (.map kt et)) (h:Sl E s id kt j kk (s.val x) κ=some z):wg E.P o s κ z:=by
 unfold Sl at h;split at h
 ·cases h
 ·rename_i Sz;obtain ⟨fs,DL,_,_⟩:=JC Sz;have L7:=JD Sz kk;have h1:ee s.st m (.mp id):=bX hm;split at h
  ·rename_i i l hl;split at h
   ·cases h
   ·rename_i n hn;have hH:s.st.H id=some (.map (l.map fun x=>dd (n+1) (get i x))):=by
     have h9:s.st.H id=some (.map (l.map fun x=>dd (JG i) (get i x))):=dF hl;rw [hn] at h9;exact h9
    split at h
    ·cases h
    ·rename_i OJ _;have hf:=BJ OJ Sz kk l 0;have hlen:(get j kk).length=(AE j).length:=by
      have:=congrArg List.length (q8 j kk);simpa using this
     split at h
     ·rename_i hdr;split at h
      ·rename_i hx;split at h
       ·rename_i y hy;have h3:=@bX s x _ hx;simp only [TA.av,dD] at h3;have m_:=tn (r:=(l.findIdx? (gF i j (n+1) kk))) ho h1 hH h2 h3 (fun {w F μ K v} hv=>by obtain ⟨vs,rfl,zd⟩:=hv.fU;rw [zd.iK];exact .rP .nil) L7.2.1 ht DL L7.1
         (by rw [hf];cases l.findIdx? (gF i j (n+1) kk)<;>simp)
        have hg:get i y=get j kk:=ff hy;have hle:(get j kk).length≤n+1:=by
         rw [hlen,← OJ];simp;omega
        have hp:dd (n+1) (get i y)=(cR ⟨.st j,kk⟩,.agg []):=by
         rw [KZ,hg];simp only [dd,List.take_of_length_le hle,List.drop_eq_nil_of_le hle]
        refine hJ (k:=0) hs h m_ (CN hl rfl rfl) (by simp only [TA.av];exact (@il.refl _)) (by simp only [TA.wf]) ?_ (fun l' e=>by cases e);simp only [aY.dC,hn];exact (K3 (kk:=kk) (l:=l) hp)▸eQ.refl _
       ·cases h
      ·cases h
     ·rename_i v hdr;split at h
      ·rename_i y0 Xa;split at h
       ·rename_i y hy;obtain ⟨l1,l2,l3⟩:=iB Xa;have h3:ee s.st x (cR y0):=fun {w F O μ K ft act} gh=>l3 s.H (gE s x gh);have m_:=tn (r:=(l.findIdx? (gF i j (n+1) kk))) ho h1 hH h2 h3 (vk l2) L7.2.1 ht DL L7.1
         (by rw [hf];cases l.findIdx? (gF i j (n+1) kk)<;>simp)
        have hg:get i y=get j kk++[y0]:=ff hy;have hle:(get j kk).length=n+1:=by
         have e1:=congrArg List.length hdr;simp only [List.length_drop,List.length_singleton] at e1;rw [hlen,← OJ,List.length_take];omega
        have hp:dd (n+1) (get i y)=(cR ⟨.st j,kk⟩,cR y0):=by
         rw [KZ,hg];simp only [dd,← hle,List.take_left,List.drop_left]
        refine hJ (k:=0) hs h m_ (CN hl rfl rfl) (by simp only [TA.av];exact (@il.refl _)) (by simp only [TA.wf]) ?_ (fun l' e=>by cases e);simp only [aY.dC,hn];exact (K3 (kk:=kk) (l:=l) hp)▸eQ.refl _
       ·cases h
      ·cases h
     ·cases h
  ·cases h
theorem LB {E:Env} {o:Oper} {s:bP} {κ:cx→Option R} {z:R} {t:TypeId} {m k x:Operand} (ho:o.op=.mapUpdate t m k x∨o.op=.insert t m k x) (hs:s.ok) (h:Jr E s t (s.val m) (s.val k) (s.val x) κ=some z):wg E.P o s κ z:=by
 unfold Jr at h;split at h
 ·rename_i id q kk kt et hm hk ht;split at h
  ·rename_i d DL;split at h
   ·rename_i hd;have h1:ee s.st m (.mp id):=bX hm;have h2:ee s.st k (cR ⟨q,kk⟩):=bX hk;have L7:=FA (P:=E.P) hd kk;split at h
    ·rename_i i l hl;split at h
     ·cases h
     rename_i Qk;have hH:s.st.H id=some (.map (l.map fun x=>ua (get i x))):=by
      have h9:s.st.H id=some (.map (l.map fun x=>dd (JG i) (get i x))):=dF hl;rw [Qk] at h9;exact h9
     split at h
     ·rename_i q' OJ;split at h
      ·rename_i e _ hx;subst e;split at h
       ·rename_i y hy;have h3:=@bX s x _ hx;simp only [TA.av,dD] at h3;have hf:=xS OJ hd kk l 0;have m_:=tn (r:=(l.findIdx? (rS i q' kk))) ho h1 hH h2 h3 (fun {w F μ K v} hv=>by obtain ⟨vs,rfl,zd⟩:=hv.fU;rw [zd.iK];exact .rP .nil) L7.2.1 ht DL (L7.1 _ DL)
         (by rw [hf];cases l.findIdx? (rS i q' kk)<;>simp)
        have hp:ua (get i y)=(cR ⟨q',kk⟩,.agg []):=by
         have:get i y=[⟨q',kk⟩]:=ff hy;rw [this];rfl
        refine hJ (k:=0) hs h m_ (CN hl rfl rfl) (by simp only [TA.av];exact (@il.refl _)) (by simp only [TA.wf]) ?_ (fun l' e=>by cases e);simp only [aY.dC,Qk];exact (Ux (kk:=kk) (l:=l) hp)▸eQ.refl _
       ·cases h
      ·cases h
     ·rename_i q' v OJ;split at h
      ·rename_i e y0 _ Xa;subst e;split at h
       ·rename_i y hy;obtain ⟨l1,l2,l3⟩:=iB Xa;have hf:=xS OJ hd kk l 0;have h3:ee s.st x (cR y0):=fun {w F O μ K ft act} gh=>l3 s.H (gE s x gh);have m_:=tn (r:=(l.findIdx? (rS i q' kk))) ho h1 hH h2 h3 (vk l2) L7.2.1 ht DL (L7.1 _ DL)
         (by rw [hf];cases l.findIdx? (rS i q' kk)<;>simp)
        have hp:ua (get i y)=(cR ⟨q',kk⟩,cR y0):=by
         have:get i y=[⟨q',kk⟩,y0]:=ff hy;rw [this];rfl
        refine hJ (k:=0) hs h m_ (CN hl rfl rfl) (by simp only [TA.av];exact (@il.refl _)) (by simp only [TA.wf]) ?_ (fun l' e=>by cases e);simp only [aY.dC,Qk];exact (Ux (kk:=kk) (l:=l) hp)▸eQ.refl _
       ·cases h
      ·cases h
     ·cases h
    ·rename_i q' l hl;split at h
     ·rename_i e f _ hx;subst e;have hH:s.st.H id=some (.map (l.map fun x=>(cR ⟨q',x.1⟩,AV.fn (.func x.2) [] []))):=dF hl;have h3:=@bX s x _ hx;simp only [TA.av,dD] at h3;obtain ⟨r,l',k1,k2,k3⟩:=Xl hd (n:=0) h;have m_:=tn (r:=r) ho h1 hH h2 h3 (fun {w F μ K v} hv=>by
       obtain ⟨vs,us,rfl,a1,a2⟩:=hv.Kq;rw [a1.iK,a2.iK];exact .aah .nil .nil) L7.2.1 ht DL (L7.1 _ DL) (by rw [k1];cases r<;>simp)
      refine hJ (k:=0) hs k2 m_ (CN hl rfl rfl) (by simp only [TA.av];exact (@il.refl _)) (by simp only [TA.wf]) ?_ (fun l' e=>by cases e);simp only [aY.dC,k3];exact eQ.refl _
     ·cases h
    ·cases h
   ·split at h
    ·rename_i j k' hq;obtain ⟨rfl,hq2⟩:=cN.mk.inj hq;have hq3:=eq_of_heq hq2;subst hq3;exact QF ho hs hm (bX hk) ht h
    ·cases h
  ·cases h
 ·rename_i id cs kt et hm hk ht;split at h
  ·rename_i j k' hkg;exact QF ho hs hm (fun {w F O μ K ft act} hs=>Ms hkg s.H (hk▸gE s k hs)) ht h
  ·cases h
 ·cases h
def On (E:Env) (s:bP) (t:TypeId) (m k:TA) (κ:cx→Option R):Option R:=match m,k,E.P.underlying t with
 | .mp id,.d ⟨q,kk⟩,some (.map kt _)=>match E.P.underlying kt with
  | some d=>match Gv d q with
   | true=>match aT s.H id with
    | some (.dmap i l)=>match JG i with
     | _+1=>none
     | 0=>match AE i with
     | q'::_=>match decEq q' q with
      | .isTrue _=>κ ⟨.top,[(id,some (.dmap i (acY (rS i q kk) l)))],0⟩
      | .isFalse _=>none
     | []=>none
    | _=>none
   | false=>none
  | none=>none
 | _,_,_=>none
theorem abn {α β:Type} {p:α→Bool} {f:α→β} {l:List α}:(acY p l).map f=match l.findIdx? p with
  | none=>l.map f
  | some j=>(l.map f).eraseIdx j:=by
 unfold acY;cases l.findIdx? p with
 | none=>rfl
 | some j=>
  simp only;refine List.ext_getElem? fun i=>?_;simp only [List.getElem?_map,List.getElem?_eraseIdx];split<;>rfl
theorem T5 {E:Env} {o:Oper} {s:bP} {κ:cx→Option R} {z:R} {t u:TypeId} {m k:Operand} (ho:o.op=.call ⟨.builtin .delete,#[m,k],#[t,u]⟩) (hs:s.ok) (h:On E s t (s.val m) (s.val k) κ=some z):wg E.P o s κ z:=by
 unfold On at h;split at h
 ·rename_i id q kk kt et hm hk ht;split at h
  ·rename_i d DL;split at h
   ·rename_i hd;have h1:ee s.st m (.mp id):=bX hm;have h2:ee s.st k (cR ⟨q,kk⟩):=bX hk;have L7:=FA (P:=E.P) hd kk;split at h
    ·rename_i i l hl;split at h
     ·cases h
     rename_i Qk;have hH:s.st.H id=some (.map (l.map fun x=>ua (get i x))):=by
      have h9:s.st.H id=some (.map (l.map fun x=>dd (JG i) (get i x))):=dF hl;rw [Qk] at h9;exact h9
     split at h
     ·rename_i q' r OJ;split at h
      ·rename_i e _;subst e;have m_:=YR (r:=(l.findIdx? (rS i q' kk))) ho h1 hH h2 ht DL (L7.1 _ DL)
        (by rw [xS OJ hd kk l 0];cases l.findIdx? (rS i q' kk)<;>simp)
       refine hJ (k:=0) hs h m_ (CN hl rfl rfl) (by simp only [TA.av];exact (@il.refl _)) (by simp only [TA.wf]) ?_ (fun l' e=>by cases e);simp only [aY.dC,Qk];have e:(acY (rS i q' kk) l).map (fun x=>dd 0 (get i x))=abl (l.map fun x=>ua (get i x)) (l.findIdx? (rS i q' kk)):=by
        rw [abn];cases l.findIdx? (rS i q' kk)<;>rfl
       exact e▸eQ.refl _
      ·cases h
     ·cases h
    ·cases h
   ·cases h
  ·cases h
 ·cases h
end Go.Proofs.YtjkbbdldmdajkaaGreatDoor.c_
