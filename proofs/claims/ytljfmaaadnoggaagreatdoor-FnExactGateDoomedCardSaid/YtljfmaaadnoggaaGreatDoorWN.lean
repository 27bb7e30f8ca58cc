/- The evaluator of maps. No condition. -/
import Derived.Test.YtljfmaaadnoggaaGreatDoorWM
set_option linter.unusedSimpArgs false
set_option linter.unusedVariables false
namespace Go.Proofs.YtljfmaaadnoggaaGreatDoor.cX
open Go Go.RowKit
variable {w w' xW:World} {F F' Cq O O' wx:Nat→Prop} {μ bC kZ:Nat→Nat} {K K' Gg:Nat→Prop} {ft b8:Nat→Nat→Prop} {P:Program} {R:Type}
def L7 {α:Type} (p:α→Bool) (l:List α):Bool:=(l.findIdx? p).isSome
def ja {α β:Type} (p:α→Bool) (f:α→β) (d:β) (l:List α):β:=match l.find? p with
 | some y=>f y
 | none=>d
def LI {α:Type} (p:α→Bool) (l:List α):List α:=match l.findIdx? p with
 | some j=>l.eraseIdx j
 | none=>l
def lb {α:Type} (p:α→Bool) (l:List α) (x:α):List α:=match l.findIdx? p with
 | some j=>l.set j x
 | none=>l++[x]
def keq:(t:Ty)→t.dn→t.dn→Bool
 | .int _,a,b=>bL a b
 | .str,a,b=>seq a b
 | _,_,_=>false
def Ij:TypeDesc→Ty→Bool
 | .int _,.int _=>true
 | .string,.str=>true
 | _,_=>false
theorem Hg {d:TypeDesc} {q:Ty} (h:Ij d q=true) (k:q.dn):(∀ kt,P.underlying kt=some d→CI P kt (cN ⟨q,k⟩)=true)∧Sh (cN ⟨q,k⟩)∧∀ k',FN (cN ⟨q,k⟩) (cN ⟨q,k'⟩)=some (keq q k k'):=by
 cases q with
 | int kk=>exact ⟨fun kt ht=>by simp only [cN,CI,ht];cases d<;>simp [Ij] at h;rfl,vo rfl,fun k'=>by simp [cN,FN,eq1,keq]⟩
 | str=>exact ⟨fun kt ht=>by simp only [cN,CI,ht];cases d<;>simp [Ij] at h;rfl,vo rfl,fun k'=>by simp [cN,FN,eq1,keq]⟩
 | bool=>cases d<;>simp [Ij] at h
 | sl=>cases d<;>simp [Ij] at h
 | st=>cases d<;>simp [Ij] at h
def rF (i:Nat) (q:Ty) (k:q.dn) (y:C i):Bool:=match get i y with
 | ⟨t,a⟩::_=>if h:t=q then keq q k (h▸a) else false
 | []=>false
def ag4 (i:Nat) (v:Ty) (y:C i):v.dn:=match get i y with
 | _::⟨t,a⟩::_=>if h:t=v then h▸a else v.df
 | _=>v.df
theorem QN {i:Nat} {q:Ty} {r:List Ty} (hl:BE i=q::r) (y:C i):∃ a rest,get i y=⟨q,a⟩::rest∧rest.map (·.t)=r:=by
 have h:=qO i y
 rw [hl] at h
 match hg:get i y,h with
 | ⟨t,a⟩::rest,h=>
  simp only [List.map_cons,List.cons.injEq] at h
  obtain ⟨h1,h2⟩:=h
  subst h1
  exact ⟨a,rest,rfl,h2⟩
theorem aeP {i:Nat} {q:Ty} {a k:q.dn} {rest:List cI} {y:C i} (h:get i y=⟨q,a⟩::rest):rF i q k y=keq q k a:=by
 unfold rF
 rw [h]
 simp
theorem aeQ (l:List cI) (x:cI):(ug (x::l)).1=cN x:=by cases l<;>rfl
theorem yt {d:TypeDesc} {i:Nat} {q:Ty} {r:List Ty} (hl:BE i=q::r) (hd:Ij d q=true) (k:q.dn):∀ (l:List (C i)) (n:Nat),la (cN ⟨q,k⟩) (l.map fun x=>ug (get i x)) n=some ((l.findIdx? (rF i q k)).map (n+·))
 | [],n=>rfl
 | y::l,n=>by
  obtain ⟨a,rest,h1,h2⟩:=QN hl y
  simp only [List.map_cons,la,List.findIdx?_cons]
  rw [h1,aeQ,(Hg (P:=default) hd k).2.2 a,aeP h1,yt hl hd k l (n+1)]
  cases keq q k a with
  | true=>simp
  | false=>
   simp only [Bool.false_eq_true,if_false,Option.map_map]
   congr 2
   funext j
   simp only [Function.comp]
   omega
def aba:cI→cI→Bool
 | ⟨.int _,a⟩,⟨.int _,b⟩=>bL a b
 | ⟨.str,a⟩,⟨.str,b⟩=>seq a b
 | _,_=>false
def UC:List cI→List cI→Bool
 | [x],[y]=>aba x y
 | x::r,y::s=>aba x y&&UC r s
 | _,_=>true
def Yx (P:Program):List Field→Nat→List Ty→Bool
 | [],_,[]=>true
 | f::fs,i,t::r=>(f.name != "_"&&(Nat.beq f.offset i&&(Nat.beq (P.cellsOf f.type) 1&&(match P.underlying f.type with
  | some d=>Ij d t
  | none=>false))))&&Yx P fs (i+1) r
 | _,_,_=>false
theorem ag5 {d:TypeDesc} {x:cI} (h:Ij d x.t=true):GK d (cN x)=true:=by
 obtain ⟨t,a⟩:=x
 cases t<;>cases d<;>simp [Ij] at h<;>rfl
theorem ZS {P:Program}:∀ {fs:List Field} {i:Nat} {l:List cI},Yx P fs i (l.map (·.t))=true→LC P fs i (l.map cN)=true
 | [],_,[],_=>rfl
 | [],_,_::_,h=>by cases h
 | _::_,_,[],h=>by cases h
 | f::fs,i,x::l,h=>by
  simp only [List.map_cons,Yx,Bool.and_eq_true] at h
  obtain ⟨⟨h1,h2,h3,h4⟩,h5⟩:=h
  simp only [List.map_cons,LC,Bool.and_eq_true]
  refine ⟨⟨h1,h2,h3,?_⟩,ZS h5⟩
  split at h4
  ·rename_i d hd
   rw [hd]
   exact ag5 h4
  ·cases h4
theorem ZT {P:Program}:∀ {fs:List Field} {i:Nat} {l m:List cI},Yx P fs i (l.map (·.t))=true→m.map (·.t)=l.map (·.t)→eqL (l.map cN) (m.map cN)=some (UC l m)
 | _,_,[],[],_,_=>rfl
 | _,_,[],_::_,_,h=>by cases h
 | _,_,_::_,[],_,h=>by cases h
 | [],_,_::_,_::_,h,_=>by cases h
 | f::fs,i,⟨t,a⟩::l,⟨u,b⟩::m,h,e=>by
  simp only [List.map_cons,List.cons.injEq] at e
  obtain ⟨rfl,e⟩:=e
  simp only [List.map_cons,Yx,Bool.and_eq_true] at h
  obtain ⟨⟨_,_,_,h4⟩,h5⟩:=h
  have ih:=ZT (m:=m) h5 e
  split at h4
  ·rename_i d hd
   have k1:eq1 (cN ⟨u,a⟩) (cN ⟨u,b⟩)=some (aba ⟨u,a⟩ ⟨u,b⟩):=by
    cases u<;>cases d<;>simp [Ij] at h4<;>simp [cN,eq1,aba]
   simp only [List.map_cons,eqL,k1,ih]
   cases l with
   | nil=>
    cases m with
    | nil=>simp [UC]
    | cons=>cases e
   | cons x l=>
    cases m with
    | nil=>cases e
    | cons y m=>simp [UC]
  ·cases h4
def WJ (P:Program) (kt:TypeId) (j:Nat):Bool:=match P.underlying kt with
 | some (.struct fs)=>!P.stoodInHeld kt&&Yx P fs.toList 0 (BE j)
 | _=>false
theorem Lz {P:Program} {kt:TypeId} {j:Nat} (h:WJ P kt j=true):∃ fs,P.underlying kt=some (.struct fs)∧P.stoodInHeld kt=false∧Yx P fs.toList 0 (BE j)=true:=by
 unfold WJ at h
 split at h
 ·rename_i fs hfs
  simp only [Bool.and_eq_true,Bool.not_eq_true'] at h
  exact ⟨fs,hfs,h.1,h.2⟩
 ·cases h
theorem M1 (j:Nat) (x:C j):cN ⟨.st j,x⟩=.agg ((get j x).map cN):=by
 show AV.agg (cc j x)=_
 rw [L3]
theorem adm {j:Nat} {x:C j} {y:cI} (hy:y∈get j x):y.t.leaf=true:=Cu (.st j) x y hy
theorem aeR {l:List cI} (h:∀ y,y∈l→y.t.leaf=true):Sh (.agg (l.map cN)):=by
 intro w F μ K v hv
 obtain ⟨vs,rfl,CN⟩:=hv.fK
 refine .rE ⟨CN.1,fun i hi=>?_⟩
 have c9:i < l.length:=by simpa using hi
 have e:(l.map cN).getD i .top=cN l[i]:=by simp [List.getD,c9]
 have:=CN.2 i hi
 rw [e] at this ⊢
 exact vo (h _ (List.getElem_mem c9)) this
theorem LA {P:Program} {kt:TypeId} {j:Nat} (h:WJ P kt j=true) (k:C j):CI P kt (cN ⟨.st j,k⟩)=true∧Sh (cN ⟨.st j,k⟩)∧∀ m:List cI,m.map (·.t)=BE j→FN (cN ⟨.st j,k⟩) (.agg (m.map cN))=some (UC (get j k) m):=by
 obtain ⟨fs,h1,h2,h3⟩:=Lz h
 rw [M1]
 refine ⟨?_,aeR fun y hy=>adm hy,fun m hm=>?_⟩
 ·simp only [CI,h1,h2,Bool.not_false,Bool.true_and]
  exact ZS (by rw [qO];exact h3)
 ·exact ZT (by rw [qO];exact h3) (by rw [qO];exact hm)
def gk (i j n:Nat) (k:C j) (y:C i):Bool:=UC (get j k) ((get i y).take n)
def CF (i n:Nat) (v:Ty) (y:C i):v.dn:=match (get i y).drop n with
 | ⟨t,a⟩::_=>if h:t=v then h▸a else v.df
 | []=>v.df
theorem ZN {i j n:Nat} (h:(BE i).take n=BE j) (y:C i):((get i y).take n).map (·.t)=BE j:=by
 rw [List.map_take,qO,h]
theorem CH {P:Program} {kt:TypeId} {i j n:Nat} (hl:(BE i).take (n+1)=BE j) (hd:WJ P kt j=true) (k:C j):∀ (l:List (C i)) (m:Nat),la (cN ⟨.st j,k⟩) (l.map fun x=>c5 (n+1) (get i x)) m=some ((l.findIdx? (gk i j (n+1) k)).map (m+·))
 | [],m=>rfl
 | y::l,m=>by
  simp only [List.map_cons,la,List.findIdx?_cons]
  have e:(c5 (n+1) (get i y)).1=.agg (((get i y).take (n+1)).map cN):=rfl
  rw [e,(LA hd k).2.2 _ (ZN hl y),CH hl hd k l (m+1)]
  show (match some (gk i j (n+1) k y) with | some true=>_ | some false=>_ | none=>_)=_
  cases gk i j (n+1) k y with
  | true=>simp
  | false=>
   simp only [Bool.false_eq_true,if_false,Option.map_map]
   congr 2
   funext q
   simp only [Function.comp]
   omega
def II (ok:Bool) (v:TA) (b:Bool):TA:=match ok with
 | true=>.ph [v,.d ⟨.bool,b⟩]
 | false=>v
theorem CL (ok:Bool) (v:TA) (b:Bool) (H:List (Nat×aY)):(II ok v b).av H=QM ok (v.av H) b:=by
 cases ok<;>simp [II,QM,TA.av,dU,cN]
theorem CM {ok:Bool} {v:TA} {b:Bool} {H:List (Nat×aY)} {N:Nat} (h:v.wf H N):(II ok v b).wf H N:=by
 cases ok with
 | false=>exact h
 | true=>simp only [II,TA.wf,iw];exact ⟨h,trivial,trivial⟩
def zvT (P:Program) (t:TypeId):Option TA:=match P.info? t with
 | some i=>match i.zero with
  | some z=>match z with
   | .agg ⟨_::_⟩=>none
   | z=>some (cst z)
  | none=>none
 | none=>none
theorem QH {t:TypeId} {a:TA} (h:zvT P t=some a) (H:List (Nat×aY)) (N:Nat):zvA P t=some (a.av H)∧a.wf H N:=by
 unfold zvT at h
 unfold zvA
 split at h
 ·rename_i i hi
  split at h
  ·rename_i z hz
   split at h
   ·cases h
   ·rename_i pw
    cases h
    rw [hi]
    simp only [hz,PS]
    refine ⟨?_,acu H N z⟩
    congr 1
    unfold zv
    split
    ·rename_i cs
     cases cs with
     | nil=>rfl
     | cons a r=>exact absurd rfl (pw a r)
    ·rfl
  ·cases h
 ·cases h
def MQ (E:Env) (s:bQ) (t:TypeId) (κ:cE→Option R):Option R:=match (E.mp.find? fun p=>Nat.beq p.1 t) with
 | some p=>κ ⟨.mp s.N,[(s.N,some (.dmap p.2 []))],1⟩
 | none=>match E.P.underlying t with
  | some (.map kt _)=>match PX E.tc kt with
   | some q=>κ ⟨.mp s.N,[(s.N,some (.VT q []))],1⟩
   | none=>none
  | _=>none
theorem Ul {E:Env} {o:Oper} {s:bQ} {κ:cE→Option R} {z:R} {t:TypeId} (ho:o.op=.makeMap t none) (hs:s.ok) (h:MQ E s t κ=some z):xY E.P o s κ z:=by
 unfold MQ at h
 split at h
 ·exact iL hs h (QL (N:=s.N) ho) oU (by simp only [TA.av];exact (@iu.refl _)) (by simp only [TA.wf]) (by simp only [aY.dw,List.map_nil];exact eV.refl _) (fun l' e=>by cases e)
 ·split at h
  ·split at h
   ·exact iL hs h (QL (N:=s.N) ho) oU (by simp only [TA.av];exact (@iu.refl _)) (by simp only [TA.wf]) (by simp only [aY.dw,List.map_nil];exact eV.refl _) (fun l' e=>by cases e)
   ·cases h
  ·cases h
def ZU {t:Ty} (k:t.dn) (κ:Option FuncId→Option R):List (t.dn×FuncId)→Option R
 | []=>κ none
 | p::r=>cond (keq t k p.1) (κ (some p.2)) (ZU k κ r)
theorem WR {d:TypeDesc} {q:Ty} {k:q.dn} (hd:Ij d q=true) {κ:Option FuncId→Option R} {z:R}:∀ {l:List (q.dn×FuncId)} {n:Nat},ZU k κ l=some z→
  (la (cN ⟨q,k⟩) (l.map fun x=>(cN ⟨q,x.1⟩,AV.fn (.func x.2) [] [])) n=some none∧κ none=some z)∨
  ∃ j,n≤j∧la (cN ⟨q,k⟩) (l.map fun x=>(cN ⟨q,x.1⟩,AV.fn (.func x.2) [] [])) n=some (some j)∧∃ p,l[j-n]?=some p∧κ (some p.2)=some z
 | [],n,h=>.inl ⟨rfl,h⟩
 | p::r,n,h=>by
  simp only [ZU] at h
  simp only [List.map_cons,la,(Hg (P:=default) hd k).2.2]
  cases e:keq q k p.1 with
  | true=>
   rw [e] at h
   exact .inr ⟨n,Nat.le_refl _,rfl,p,by simp,h⟩
  | false=>
   rw [e] at h
   rcases WR hd (n:=n+1) h with ⟨h1,h2⟩ | ⟨j,h0,h1,p',h2,h3⟩
   ·exact .inl ⟨h1,h2⟩
   ·exact .inr ⟨j,by omega,h1,p',by rw [show j-n=(j-(n+1))+1 by omega];simpa using h2,h3⟩
def aa9 (E:Env) (kt:TypeId) (cs:List TA):Option ((j:Nat)×C j):=match PX E.tc kt with
 | some (.st j)=>match tq (BE j) cs with
  | some ds=>match Ok (.st j) ds with
   | some kk=>some ⟨j,kk⟩
   | none=>none
  | none=>none
 | _=>none
theorem OA {E:Env} {kt:TypeId} {cs:List TA} {j:Nat} {kk:C j} (h:aa9 E kt cs=some ⟨j,kk⟩) (H:List (Nat×aY)):iu ((TA.agg cs).av H) (cN ⟨.st j,kk⟩):=by
 unfold aa9 at h
 split at h
 ·rename_i j' _
  split at h
  ·rename_i ds tC
   split at h
   ·rename_i kk' hb
    cases h
    obtain ⟨d1,d2,d3,d4⟩:=n9 tC
    intro w F μ K v hv
    simp only [TA.av] at hv
    obtain ⟨vs,rfl,CN⟩:=hv.fK
    have e:get j kk=ds:=eU hb
    rw [M1,e]
    refine .rE ⟨by have:=CN.1;rw [bI] at this;simp [d1,this],fun k hk=>?_⟩
    have Ia:k < cs.length:=by simpa [d1] using hk
    have:=CN.2 k (by rw [bI];exact Ia)
    rw [dH _ _ _ Ia] at this
    exact d4 H k Ia this
   ·cases h
  ·cases h
 ·cases h
def OC (E:Env) (s:bQ) (id:Nat) (kt:TypeId) (zt:TA) (j:Nat) (kk:C j) (ok:Bool) (κ:cE→Option R):Option R:=match WJ E.P kt j with
 | false=>none
 | true=>match aR s.H id with
  | some (.dmap i l)=>match LD i with
   | 0=>none
   | n+1=>match decEq ((BE i).take (n+1)) (BE j) with
    | .isFalse _=>none
    | .isTrue _=>match (BE i).drop (n+1) with
     | []=>match zt with
      | .agg []=>κ ⟨II ok (.agg []) (L7 (gk i j (n+1) kk) l),[],0⟩
      | _=>none
     | [v]=>match ui v zt with
      | some ⟨v',z⟩=>match decEq v' v with
       | .isTrue e=>κ ⟨II ok (.d ⟨v,ja (gk i j (n+1) kk) (CF i (n+1) v) (e▸z) l⟩) (L7 (gk i j (n+1) kk) l),[],0⟩
       | .isFalse _=>none
      | none=>none
     | _=>none
  | _=>none
def Qn (E:Env) (s:bQ) (t:TypeId) (x k:TA) (ok:Bool) (κ:cE→Option R):Option R:=match x,k,E.P.underlying t with
 | .mp id,.d ⟨q,kk⟩,some (.map kt et)=>match E.P.underlying kt,zvT E.P et with
  | some d,some zt=>match Ij d q with
   | true=>match aR s.H id with
    | some (.dmap i l)=>match LD i with
     | _+1=>none
     | 0=>match BE i with
     | [q']=>match decEq q' q with
      | .isTrue _=>match zt with
       | .agg []=>κ ⟨II ok (.agg []) (L7 (rF i q kk) l),[],0⟩
       | _=>none
      | .isFalse _=>none
     | [q',v]=>match decEq q' q with
      | .isTrue _=>match ui v zt with
       | some ⟨v',z⟩=>match decEq v' v with
        | .isTrue e=>κ ⟨II ok (.d ⟨v,ja (rF i q kk) (ag4 i v) (e▸z) l⟩) (L7 (rF i q kk) l),[],0⟩
        | .isFalse _=>none
       | none=>none
      | .isFalse _=>none
     | _=>none
    | some (.VT q' l)=>match decEq q' q with
     | .isTrue e=>ZU kk (fun r=>match r with
      | some f=>κ ⟨II ok (.fn (.func f) [] []) true,[],0⟩
      | none=>κ ⟨II ok zt false,[],0⟩) (e▸l:List (q.dn×FuncId))
     | .isFalse _=>none
    | _=>none
   | false=>match (⟨q,kk⟩:cI) with
    | ⟨.st j,k'⟩=>OC E s id kt zt j k' ok κ
    | _=>none
  | _,_=>none
 | .mp id,.agg cs,some (.map kt et)=>match zvT E.P et,aa9 E kt cs with
  | some zt,some ⟨j,k'⟩=>OC E s id kt zt j k' ok κ
  | _,_=>none
 | _,_,_=>none
theorem SK {ok:Bool} {a b:AV} {c:Bool} (h:iu a b):iu (QM ok a c) (QM ok b c):=by
 cases ok with
 | false=>exact h
 | true=>
  intro w F μ K v hv
  obtain ⟨vs,rfl,CN⟩:=hv.KU
  obtain ⟨v1,r,rfl,h1,h2⟩:=CN.cons_inv
  exact .Nx (.cons (h h1) h2)
theorem CG {α:Type} {p:α→Bool}:∀ {l:List α},(l.findIdx? p=none∧l.find? p=none)∨∃ j y,l.findIdx? p=some j∧l[j]?=some y∧l.find? p=some y∧p y=true
 | []=>.inl ⟨rfl,rfl⟩
 | x::l=>by
  simp only [List.findIdx?_cons,List.find?_cons]
  cases e:p x with
  | true=>exact .inr ⟨0,x,by simp,by simp,rfl,e⟩
  | false=>
   rcases CG (p:=p) (l:=l) with ⟨h1,h2⟩ | ⟨j,y,h1,h2,h3,h4⟩
   ·exact .inl ⟨by simp [h1],h2⟩
   ·exact .inr ⟨j+1,y,by simp [h1],by simpa using h2,h3,h4⟩
theorem QO {E:Env} {o:Oper} {s:bQ} {κ:cE→Option R} {z:R} {t kt et:TypeId} {x k:Operand} {ok:Bool} {id j:Nat} {kk:C j} {zt:TA} (ho:o.op=.lookup t x k ok) (hx:s.val x=.mp id) (h2:ec s.st k (cN ⟨.st j,kk⟩))
  (ht:E.P.underlying t=some (.map kt et)) (VQ:zvA E.P et=some (zt.av s.H)) (h:OC E s id kt zt j kk ok κ=some z):xY E.P o s κ z:=by
 unfold OC at h
 split at h
 ·cases h
 ·rename_i U1
  obtain ⟨fs,EV,_,_⟩:=Lz U1
  have N_:=LA U1 kk
  have h1:ec s.st x (.mp id):=b9 hx
  split at h
  ·rename_i i l hl
   split at h
   ·cases h
   ·rename_i n hn
    have hH:s.st.H id=some (.map (l.map fun x=>c5 (n+1) (get i x))):=by
     have h9:s.st.H id=some (.map (l.map fun x=>c5 (LD i) (get i x))):=dz hl
     rw [hn] at h9
     exact h9
    split at h
    ·cases h
    ·rename_i QG _
     have hf:=CH QG U1 kk l 0
     have nA:=CK ho h1 hH h2 ht EV N_.1 hf VQ
     split at h
     ·rename_i hdr
      split at h
      ·refine kr h nA ?_ (CM (by simp only [TA.wf,iw]))
       rw [CL]
       simp only [TA.av,dU,L7]
       show iu (Bd ok (.agg []) _ ((l.findIdx? (gk i j (n+1) kk)).map (0+·))) _
       rcases CG (p:=gk i j (n+1) kk) (l:=l) with ⟨k1,k2⟩ | ⟨q,y,k1,k2,k3,k4⟩
       ·rw [k1];exact (@iu.refl _)
       ·rw [k1]
        have hd0:(get i y).drop (n+1)=[]:=by
         have:=congrArg (List.drop (n+1)) (qO i y)
         rw [hdr,← List.map_drop] at this
         exact List.map_eq_nil_iff.1 this
        have m4:((l.map fun x=>c5 (n+1) (get i x)).getD (0+q) (.top,.top)).2=.agg []:=by
         simp [List.getD,k2,c5,hd0]
        simp only [Option.map_some,Option.isSome_some,Bd,m4]
        exact (@iu.refl _)
      ·cases h
     ·rename_i v hdr
      split at h
      ·rename_i v' z' ZK
       split at h
       ·rename_i e _
        subst e
        refine kr h nA ?_ (CM (by simp only [TA.wf]))
        rw [CL]
        simp only [TA.av,L7,ja]
        show iu (Bd ok (zt.av s.H) _ ((l.findIdx? (gk i j (n+1) kk)).map (0+·))) _
        rcases CG (p:=gk i j (n+1) kk) (l:=l) with ⟨k1,k2⟩ | ⟨q,y,k1,k2,k3,k4⟩
        ·rw [k1,k2]
         exact SK ((ix ZK).2.2 s.H)
        ·rw [k1,k3]
         have hd0:((get i y).drop (n+1)).map (·.t)=[v']:=by
          rw [List.map_drop,qO,hdr]
         obtain ⟨b,hb⟩:∃ b:v'.dn,(get i y).drop (n+1)=[⟨v',b⟩]:=by
          match hg:(get i y).drop (n+1),hd0 with
          | [⟨t',b⟩],h0=>
           simp only [List.map_cons,List.map_nil,List.cons.injEq,and_true] at h0
           subst h0
           exact ⟨b,rfl⟩
         have m4:((l.map fun x=>c5 (n+1) (get i x)).getD (0+q) (.top,.top)).2=cN ⟨v',b⟩:=by
          simp [List.getD,k2,c5,hb]
         have m5:CF i (n+1) v' y=b:=by
          unfold CF
          rw [hb]
          simp
         simp only [Option.map_some,Option.isSome_some,Bd,m4,m5]
         exact (@iu.refl _)
       ·cases h
      ·cases h
     ·cases h
  ·cases h
theorem Wl {E:Env} {o:Oper} {s:bQ} {κ:cE→Option R} {z:R} {t:TypeId} {x k:Operand} {ok:Bool} (ho:o.op=.lookup t x k ok) (hs:s.ok) (h:Qn E s t (s.val x) (s.val k) ok κ=some z):xY E.P o s κ z:=by
 unfold Qn at h
 split at h
 ·rename_i id q kk kt et hx hk ht
  split at h
  ·rename_i d zt EV hz
   split at h
   ·rename_i hd
    obtain ⟨VQ,hz2⟩:=QH hz s.H s.N
    have h1:ec s.st x (.mp id):=b9 hx
    have h2:ec s.st k (cN ⟨q,kk⟩):=b9 hk
    have N_:=Hg (P:=E.P) hd kk
    split at h
    ·rename_i i l hl
     split at h
     ·cases h
     rename_i Sq
     have hH:s.st.H id=some (.map (l.map fun x=>ug (get i x))):=by
      have h9:s.st.H id=some (.map (l.map fun x=>c5 (LD i) (get i x))):=dz hl
      rw [Sq] at h9
      exact h9
     split at h
     ·rename_i q' QG
      split at h
      ·rename_i e _
       subst e
       split at h
       ·have hf:=yt QG hd kk l 0
        have nA:=CK ho h1 hH h2 ht EV (N_.1 _ EV) hf VQ
        refine kr h nA ?_ (CM (by simp only [TA.wf,iw]))
        rw [CL]
        simp only [TA.av,dU,L7]
        show iu (Bd ok (.agg []) _ ((l.findIdx? (rF i q' kk)).map (0+·))) _
        rcases CG (p:=rF i q' kk) (l:=l) with ⟨k1,k2⟩ | ⟨j,y,k1,k2,k3,k4⟩
        ·rw [k1];exact (@iu.refl _)
        ·rw [k1]
         obtain ⟨a,rest,m1,m2⟩:=QN QG y
         have m3:rest=[]:=by simpa using m2
         have m4:((l.map fun x=>ug (get i x)).getD (0+j) (.top,.top)).2=.agg []:=by
          simp [List.getD,k2,m1,m3,ug]
         simp only [Option.map_some,Option.isSome_some,Bd,m4]
         exact (@iu.refl _)
       ·cases h
      ·cases h
     ·rename_i q' v QG
      split at h
      ·rename_i e _
       subst e
       split at h
       ·rename_i v' z' ZK
        split at h
        ·rename_i e _
         subst e
         have hf:=yt QG hd kk l 0
         have nA:=CK ho h1 hH h2 ht EV (N_.1 _ EV) hf VQ
         refine kr h nA ?_ (CM (by simp only [TA.wf]))
         rw [CL]
         simp only [TA.av,L7,ja]
         show iu (Bd ok (zt.av s.H) _ ((l.findIdx? (rF i q' kk)).map (0+·))) _
         rcases CG (p:=rF i q' kk) (l:=l) with ⟨k1,k2⟩ | ⟨j,y,k1,k2,k3,k4⟩
         ·rw [k1,k2]
          exact SK ((ix ZK).2.2 s.H)
         ·rw [k1,k3]
          obtain ⟨a,rest,m1,m2⟩:=QN QG y
          match rest,m2 with
          | [⟨t',b⟩],m2=>
           simp only [List.map_cons,List.map_nil,List.cons.injEq,and_true] at m2
           subst m2
           have m4:((l.map fun x=>ug (get i x)).getD (0+j) (.top,.top)).2=cN ⟨t',b⟩:=by
            simp [List.getD,k2,m1,ug]
           have m5:ag4 i t' y=b:=by
            unfold ag4
            rw [m1]
            simp
           simp only [Option.map_some,Option.isSome_some,Bd,m4,m5]
           exact (@iu.refl _)
        ·cases h
       ·cases h
      ·cases h
     ·cases h
    ·rename_i q' l hl
     split at h
     ·rename_i e _
      subst e
      have hH:s.st.H id=some (.map (l.map fun x=>(cN ⟨q',x.1⟩,AV.fn (.func x.2) [] []))):=dz hl
      rcases WR hd (n:=0) h with ⟨k1,k2⟩ | ⟨j,_,k1,p,k2,k3⟩
      ·have nA:=CK ho h1 hH h2 ht EV (N_.1 _ EV) k1 VQ
       exact kr k2 nA (by rw [CL];exact (@iu.refl _)) (CM hz2)
      ·have nA:=CK ho h1 hH h2 ht EV (N_.1 _ EV) k1 VQ
       refine kr k3 nA ?_ (CM (by simp only [TA.wf,iw];exact ⟨trivial,trivial⟩))
       rw [CL]
       rw [Nat.sub_zero] at k2
       have m4:((l.map fun x=>(cN ⟨q',x.1⟩,AV.fn (.func x.2) [] [])).getD j (.top,.top)).2=.fn (.func p.2) [] []:=by
        simp [List.getD,k2]
       simp only [Bd,m4,TA.av,dU]
       exact (@iu.refl _)
     ·cases h
    ·cases h
   ·split at h
    ·rename_i j k' hq
     obtain ⟨rfl,hq2⟩:=cI.mk.inj hq
     have hq3:=eq_of_heq hq2
     subst hq3
     exact QO ho hx (b9 hk) ht (QH hz s.H s.N).1 h
    ·cases h
  ·cases h
 ·rename_i id cs kt et hx hk ht
  split at h
  ·rename_i zt j k' hz hkg
   exact QO ho hx (fun {w F O μ K ft act} hs=>OA hkg s.H (hk▸gj s k hs)) ht (QH hz s.H s.N).1 h
  ·cases h
 ·cases h
def aeS {t:Ty} (k:t.dn) (f:FuncId) (κ:List (t.dn×FuncId)→Option R):List (t.dn×FuncId)→Option R
 | []=>κ [(k,f)]
 | p::r=>cond (keq t k p.1) (κ ((k,f)::r)) (aeS k f (fun l=>κ (p::l)) r)
theorem ZV {d:TypeDesc} {q:Ty} {k:q.dn} {f:FuncId} (hd:Ij d q=true) {z:R}:∀ {l:List (q.dn×FuncId)} {n:Nat} {κ:List (q.dn×FuncId)→Option R},aeS k f κ l=some z→
  ∃ r l',la (cN ⟨q,k⟩) (l.map fun x=>(cN ⟨q,x.1⟩,AV.fn (.func x.2) [] [])) n=some (r.map (n+·))∧κ l'=some z∧
   (l'.map fun x=>(cN ⟨q,x.1⟩,AV.fn (.func x.2) [] []))=pX (l.map fun x=>(cN ⟨q,x.1⟩,AV.fn (.func x.2) [] [])) (cN ⟨q,k⟩) (.fn (.func f) [] []) r
 | [],n,κ,h=>⟨none,_,rfl,h,rfl⟩
 | p::r,n,κ,h=>by
  simp only [aeS] at h
  simp only [List.map_cons,la,(Hg (P:=default) hd k).2.2]
  cases e:keq q k p.1 with
  | true=>
   rw [e] at h
   exact ⟨some 0,_,rfl,h,by simp [pX]⟩
  | false=>
   rw [e] at h
   obtain ⟨r',l',h1,h2,h3⟩:=ZV hd (n:=n+1) h
   refine ⟨r'.map (·+1),p::l',?_,h2,?_⟩
   ·simp only [h1,Option.map_map]
    congr 2
    funext j
    simp only [Function.comp]
    omega
   ·simp only [List.map_cons,h3]
    cases r'<;>simp [pX]
def UE (E:Env) (s:bQ) (id:Nat) (kt:TypeId) (j:Nat) (kk:C j) (x:TA) (κ:cE→Option R):Option R:=match WJ E.P kt j with
 | false=>none
 | true=>match aR s.H id with
  | some (.dmap i l)=>match LD i with
   | 0=>none
   | n+1=>match decEq ((BE i).take (n+1)) (BE j) with
    | .isFalse _=>none
    | .isTrue _=>match (BE i).drop (n+1) with
     | []=>match x with
      | .agg []=>match Ok (.st i) (get j kk) with
       | some y=>κ ⟨.lit undef,[(id,some (.dmap i (lb (gk i j (n+1) kk) l y)))],0⟩
       | none=>none
      | _=>none
     | [v]=>match ui v x with
      | some y0=>match Ok (.st i) (get j kk++[y0]) with
       | some y=>κ ⟨.lit undef,[(id,some (.dmap i (lb (gk i j (n+1) kk) l y)))],0⟩
       | none=>none
      | none=>none
     | _=>none
  | _=>none
def Ln (E:Env) (s:bQ) (t:TypeId) (m k x:TA) (κ:cE→Option R):Option R:=match m,k,E.P.underlying t with
 | .mp id,.d ⟨q,kk⟩,some (.map kt _)=>match E.P.underlying kt with
  | some d=>match Ij d q with
   | true=>match aR s.H id with
    | some (.dmap i l)=>match LD i with
     | _+1=>none
     | 0=>match BE i with
     | [q']=>match decEq q' q,x with
      | .isTrue _,.agg []=>match Ok (.st i) [⟨q,kk⟩] with
       | some y=>κ ⟨.lit undef,[(id,some (.dmap i (lb (rF i q kk) l y)))],0⟩
       | none=>none
      | _,_=>none
     | [q',v]=>match decEq q' q,ui v x with
      | .isTrue _,some y0=>match Ok (.st i) [⟨q,kk⟩,y0] with
       | some y=>κ ⟨.lit undef,[(id,some (.dmap i (lb (rF i q kk) l y)))],0⟩
       | none=>none
      | _,_=>none
     | _=>none
    | some (.VT q' l)=>match decEq q' q,x with
     | .isTrue e,.fn (.func f) [] []=>aeS kk f (fun l'=>κ ⟨.lit undef,[(id,some (.VT q l'))],0⟩) (e▸l:List (q.dn×FuncId))
     | _,_=>none
    | _=>none
   | false=>match (⟨q,kk⟩:cI) with
    | ⟨.st j,k'⟩=>UE E s id kt j k' x κ
    | _=>none
  | none=>none
 | .mp id,.agg cs,some (.map kt _)=>match aa9 E kt cs with
  | some ⟨j,k'⟩=>UE E s id kt j k' x κ
  | none=>none
 | _,_,_=>none
theorem DJ {H:List (Nat×aY)} {N rJ:Nat} {b b0:aY} (hb:aR H rJ=some b0) (h1:fM (some b)=none) (h0:fM (some b0)=none):Sub H (cD H [(rJ,some b)]) N:=A8 (L:=[]) fun _=>by rw [hb,h1,h0]
theorem WS {i:Nat} {q:Ty} {kk:q.dn} {l:List (C i)} {y:C i} {ka va:AV} (hy:ug (get i y)=(ka,va)):
  (lb (rF i q kk) l y).map (fun x=>ug (get i x))=pX (l.map fun x=>ug (get i x)) ka va (l.findIdx? (rF i q kk)):=by
 unfold lb
 cases l.findIdx? (rF i q kk) with
 | none=>simp [pX,hy]
 | some j=>simp [pX,List.map_set,hy]
theorem M3 {i j n:Nat} {kk:C j} {l:List (C i)} {y:C i} {ka va:AV} (hy:c5 (n+1) (get i y)=(ka,va)):
  (lb (gk i j (n+1) kk) l y).map (fun x=>c5 (n+1) (get i x))=pX (l.map fun x=>c5 (n+1) (get i x)) ka va (l.findIdx? (gk i j (n+1) kk)):=by
 unfold lb
 cases l.findIdx? (gk i j (n+1) kk) with
 | none=>simp [pX,hy]
 | some j=>simp [pX,List.map_set,hy]
theorem SL {E:Env} {o:Oper} {s:bQ} {κ:cE→Option R} {z:R} {t kt et:TypeId} {m k x:Operand} {id j:Nat} {kk:C j} (ho:o.op=.mapUpdate t m k x∨o.op=.insert t m k x) (hs:s.ok) (hm:s.val m=.mp id) (h2:ec s.st k (cN ⟨.st j,kk⟩))
  (ht:E.P.underlying t=some (.map kt et)) (h:UE E s id kt j kk (s.val x) κ=some z):xY E.P o s κ z:=by
 unfold UE at h
 split at h
 ·cases h
 ·rename_i U1
  obtain ⟨fs,EV,_,_⟩:=Lz U1
  have N_:=LA U1 kk
  have h1:ec s.st m (.mp id):=b9 hm
  split at h
  ·rename_i i l hl
   split at h
   ·cases h
   ·rename_i n hn
    have hH:s.st.H id=some (.map (l.map fun x=>c5 (n+1) (get i x))):=by
     have h9:s.st.H id=some (.map (l.map fun x=>c5 (LD i) (get i x))):=dz hl
     rw [hn] at h9
     exact h9
    split at h
    ·cases h
    ·rename_i QG _
     have hf:=CH QG U1 kk l 0
     have hlen:(get j kk).length=(BE j).length:=by
      have:=congrArg List.length (qO j kk)
      simpa using this
     split at h
     ·rename_i hdr
      split at h
      ·rename_i hx
       split at h
       ·rename_i y hy
        have h3:=@b9 s x _ hx
        simp only [TA.av,dU] at h3
        have nA:=tx (r:=(l.findIdx? (gk i j (n+1) kk))) ho h1 hH h2 h3 (fun {w F μ K v} hv=>by obtain ⟨vs,rfl,CN⟩:=hv.fK;rw [CN.iH];exact .rE .nil) N_.2.1 ht EV N_.1
         (by rw [hf];cases l.findIdx? (gk i j (n+1) kk)<;>simp)
        have hg:get i y=get j kk:=eU hy
        have hle:(get j kk).length≤n+1:=by
         rw [hlen,← QG];simp;omega
        have hp:c5 (n+1) (get i y)=(cN ⟨.st j,kk⟩,.agg []):=by
         rw [M1,hg]
         simp only [c5,List.take_of_length_le hle,List.drop_eq_nil_of_le hle]
        refine iL (k:=0) hs h nA (DJ hl rfl rfl) (by simp only [TA.av];exact (@iu.refl _)) (by simp only [TA.wf]) ?_ (fun l' e=>by cases e)
        simp only [aY.dw,hn]
        exact (M3 (kk:=kk) (l:=l) hp)▸eV.refl _
       ·cases h
      ·cases h
     ·rename_i v hdr
      split at h
      ·rename_i y0 ZK
       split at h
       ·rename_i y hy
        obtain ⟨l1,l2,l3⟩:=ix ZK
        have h3:ec s.st x (cN y0):=fun {w F O μ K ft act} iJ=>l3 s.H (gj s x iJ)
        have nA:=tx (r:=(l.findIdx? (gk i j (n+1) kk))) ho h1 hH h2 h3 (vo l2) N_.2.1 ht EV N_.1
         (by rw [hf];cases l.findIdx? (gk i j (n+1) kk)<;>simp)
        have hg:get i y=get j kk++[y0]:=eU hy
        have hle:(get j kk).length=n+1:=by
         have e1:=congrArg List.length hdr
         simp only [List.length_drop,List.length_singleton] at e1
         rw [hlen,← QG,List.length_take];omega
        have hp:c5 (n+1) (get i y)=(cN ⟨.st j,kk⟩,cN y0):=by
         rw [M1,hg]
         simp only [c5,← hle,List.take_left,List.drop_left]
        refine iL (k:=0) hs h nA (DJ hl rfl rfl) (by simp only [TA.av];exact (@iu.refl _)) (by simp only [TA.wf]) ?_ (fun l' e=>by cases e)
        simp only [aY.dw,hn]
        exact (M3 (kk:=kk) (l:=l) hp)▸eV.refl _
       ·cases h
      ·cases h
     ·cases h
  ·cases h
theorem NH {E:Env} {o:Oper} {s:bQ} {κ:cE→Option R} {z:R} {t:TypeId} {m k x:Operand} (ho:o.op=.mapUpdate t m k x∨o.op=.insert t m k x) (hs:s.ok) (h:Ln E s t (s.val m) (s.val k) (s.val x) κ=some z):xY E.P o s κ z:=by
 unfold Ln at h
 split at h
 ·rename_i id q kk kt et hm hk ht
  split at h
  ·rename_i d EV
   split at h
   ·rename_i hd
    have h1:ec s.st m (.mp id):=b9 hm
    have h2:ec s.st k (cN ⟨q,kk⟩):=b9 hk
    have N_:=Hg (P:=E.P) hd kk
    split at h
    ·rename_i i l hl
     split at h
     ·cases h
     rename_i Sq
     have hH:s.st.H id=some (.map (l.map fun x=>ug (get i x))):=by
      have h9:s.st.H id=some (.map (l.map fun x=>c5 (LD i) (get i x))):=dz hl
      rw [Sq] at h9
      exact h9
     split at h
     ·rename_i q' QG
      split at h
      ·rename_i e _ hx
       subst e
       split at h
       ·rename_i y hy
        have h3:=@b9 s x _ hx
        simp only [TA.av,dU] at h3
        have hf:=yt QG hd kk l 0
        have nA:=tx (r:=(l.findIdx? (rF i q' kk))) ho h1 hH h2 h3 (fun {w F μ K v} hv=>by obtain ⟨vs,rfl,CN⟩:=hv.fK;rw [CN.iH];exact .rE .nil) N_.2.1 ht EV (N_.1 _ EV)
         (by rw [hf];cases l.findIdx? (rF i q' kk)<;>simp)
        have hp:ug (get i y)=(cN ⟨q',kk⟩,.agg []):=by
         have:get i y=[⟨q',kk⟩]:=eU hy
         rw [this];rfl
        refine iL (k:=0) hs h nA (DJ hl rfl rfl) (by simp only [TA.av];exact (@iu.refl _)) (by simp only [TA.wf]) ?_ (fun l' e=>by cases e)
        simp only [aY.dw,Sq]
        exact (WS (kk:=kk) (l:=l) hp)▸eV.refl _
       ·cases h
      ·cases h
     ·rename_i q' v QG
      split at h
      ·rename_i e y0 _ ZK
       subst e
       split at h
       ·rename_i y hy
        obtain ⟨l1,l2,l3⟩:=ix ZK
        have hf:=yt QG hd kk l 0
        have h3:ec s.st x (cN y0):=fun {w F O μ K ft act} iJ=>l3 s.H (gj s x iJ)
        have nA:=tx (r:=(l.findIdx? (rF i q' kk))) ho h1 hH h2 h3 (vo l2) N_.2.1 ht EV (N_.1 _ EV)
         (by rw [hf];cases l.findIdx? (rF i q' kk)<;>simp)
        have hp:ug (get i y)=(cN ⟨q',kk⟩,cN y0):=by
         have:get i y=[⟨q',kk⟩,y0]:=eU hy
         rw [this];rfl
        refine iL (k:=0) hs h nA (DJ hl rfl rfl) (by simp only [TA.av];exact (@iu.refl _)) (by simp only [TA.wf]) ?_ (fun l' e=>by cases e)
        simp only [aY.dw,Sq]
        exact (WS (kk:=kk) (l:=l) hp)▸eV.refl _
       ·cases h
      ·cases h
     ·cases h
    ·rename_i q' l hl
     split at h
     ·rename_i e f _ hx
      subst e
      have hH:s.st.H id=some (.map (l.map fun x=>(cN ⟨q',x.1⟩,AV.fn (.func x.2) [] []))):=dz hl
      have h3:=@b9 s x _ hx
      simp only [TA.av,dU] at h3
      obtain ⟨r,l',k1,k2,k3⟩:=ZV hd (n:=0) h
      have nA:=tx (r:=r) ho h1 hH h2 h3 (fun {w F μ K v} hv=>by
       obtain ⟨vs,us,rfl,a1,a2⟩:=hv.Ms
       rw [a1.iH,a2.iH];exact .aca .nil .nil) N_.2.1 ht EV (N_.1 _ EV) (by rw [k1];cases r<;>simp)
      refine iL (k:=0) hs k2 nA (DJ hl rfl rfl) (by simp only [TA.av];exact (@iu.refl _)) (by simp only [TA.wf]) ?_ (fun l' e=>by cases e)
      simp only [aY.dw,k3]
      exact eV.refl _
     ·cases h
    ·cases h
   ·split at h
    ·rename_i j k' hq
     obtain ⟨rfl,hq2⟩:=cI.mk.inj hq
     have hq3:=eq_of_heq hq2
     subst hq3
     exact SL ho hs hm (b9 hk) ht h
    ·cases h
  ·cases h
 ·rename_i id cs kt et hm hk ht
  split at h
  ·rename_i j k' hkg
   exact SL ho hs hm (fun {w F O μ K ft act} hs=>OA hkg s.H (hk▸gj s k hs)) ht h
  ·cases h
 ·cases h
def Qo (E:Env) (s:bQ) (t:TypeId) (m k:TA) (κ:cE→Option R):Option R:=match m,k,E.P.underlying t with
 | .mp id,.d ⟨q,kk⟩,some (.map kt _)=>match E.P.underlying kt with
  | some d=>match Ij d q with
   | true=>match aR s.H id with
    | some (.dmap i l)=>match LD i with
     | _+1=>none
     | 0=>match BE i with
     | q'::_=>match decEq q' q with
      | .isTrue _=>κ ⟨.top,[(id,some (.dmap i (LI (rF i q kk) l)))],0⟩
      | .isFalse _=>none
     | []=>none
    | _=>none
   | false=>none
  | none=>none
 | _,_,_=>none
theorem adn {α β:Type} {p:α→Bool} {f:α→β} {l:List α}:(LI p l).map f=match l.findIdx? p with
  | none=>l.map f
  | some j=>(l.map f).eraseIdx j:=by
 unfold LI
 cases l.findIdx? p with
 | none=>rfl
 | some j=>
  simp only
  refine List.ext_getElem? fun i=>?_
  simp only [List.getElem?_map,List.getElem?_eraseIdx]
  split<;>rfl
theorem Wm {E:Env} {o:Oper} {s:bQ} {κ:cE→Option R} {z:R} {t u:TypeId} {m k:Operand} (ho:o.op=.call ⟨.builtin .delete,#[m,k],#[t,u]⟩) (hs:s.ok) (h:Qo E s t (s.val m) (s.val k) κ=some z):xY E.P o s κ z:=by
 unfold Qo at h
 split at h
 ·rename_i id q kk kt et hm hk ht
  split at h
  ·rename_i d EV
   split at h
   ·rename_i hd
    have h1:ec s.st m (.mp id):=b9 hm
    have h2:ec s.st k (cN ⟨q,kk⟩):=b9 hk
    have N_:=Hg (P:=E.P) hd kk
    split at h
    ·rename_i i l hl
     split at h
     ·cases h
     rename_i Sq
     have hH:s.st.H id=some (.map (l.map fun x=>ug (get i x))):=by
      have h9:s.st.H id=some (.map (l.map fun x=>c5 (LD i) (get i x))):=dz hl
      rw [Sq] at h9
      exact h9
     split at h
     ·rename_i q' r QG
      split at h
      ·rename_i e _
       subst e
       have nA:=abg (r:=(l.findIdx? (rF i q' kk))) ho h1 hH h2 ht EV (N_.1 _ EV)
        (by rw [yt QG hd kk l 0];cases l.findIdx? (rF i q' kk)<;>simp)
       refine iL (k:=0) hs h nA (DJ hl rfl rfl) (by simp only [TA.av];exact (@iu.refl _)) (by simp only [TA.wf]) ?_ (fun l' e=>by cases e)
       simp only [aY.dw,Sq]
       have e:(LI (rF i q' kk) l).map (fun x=>c5 0 (get i x))=adl (l.map fun x=>ug (get i x)) (l.findIdx? (rF i q' kk)):=by
        rw [adn]
        cases l.findIdx? (rF i q' kk)<;>rfl
       exact e▸eV.refl _
      ·cases h
     ·cases h
    ·cases h
   ·cases h
  ·cases h
 ·cases h
end Go.Proofs.YtljfmaaadnoggaaGreatDoor.cX
