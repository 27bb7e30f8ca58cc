/- The evaluator of maps. No condition. -/
import Derived.Test.YtljfmaaadnoggaaGreatDoorWM
set_option linter.unusedSimpArgs false
set_option linter.unusedVariables false
namespace Go.Proofs.YtljfmaaadnoggaaGreatDoor.cU
open Go Go.RowKit
variable {w w' vP:World} {F F' Am O O' ux:Nat→Prop} {μ bB jV:Nat→Nat} {K K' DQ:Nat→Prop} {ft b7:Nat→Nat→Prop} {P:Program} {R:Type}
def JQ {α:Type} (p:α→Bool) (l:List α):Bool:=(l.findIdx? p).isSome
def l8 {α β:Type} (p:α→Bool) (f:α→β) (d:β) (l:List α):β:=match l.find? p with
 | some y=>f y
 | none=>d
def nV {α:Type} (p:α→Bool) (l:List α) (x:α):List α:=match l.findIdx? p with
 | some j=>l.set j x
 | none=>l++[x]
def keq:(t:Ty)→t.dn→t.dn→Bool
 | .int _,a,b=>bM a b
 | .str,a,b=>seq a b
 | _,_,_=>false
def HD:TypeDesc→Ty→Bool
 | .int _,.int _=>true
 | .string,.str=>true
 | _,_=>false
theorem Jk {d:TypeDesc} {q:Ty} (h:HD d q=true) (k:q.dn):(∀ kt,P.underlying kt=some d→BD P kt (cK ⟨q,k⟩)=true)∧PL (cK ⟨q,k⟩)∧∀ k',Dw (cK ⟨q,k⟩) (cK ⟨q,k'⟩)=some (keq q k k'):=by
 cases q with
 | int kk=>exact ⟨fun kt ht=>by simp only [cK,BD,ht];cases d<;>simp [HD] at h;rfl,tw rfl,fun k'=>by simp [cK,Dw,eq1,keq]⟩
 | str=>exact ⟨fun kt ht=>by simp only [cK,BD,ht];cases d<;>simp [HD] at h;rfl,tw rfl,fun k'=>by simp [cK,Dw,eq1,keq]⟩
 | bool=>cases d<;>simp [HD] at h
 | sl=>cases d<;>simp [HD] at h
 | st=>cases d<;>simp [HD] at h
def wb (i:Nat) (q:Ty) (k:q.dn) (y:C i):Bool:=match get i y with
 | ⟨t,a⟩::_=>if h:t=q then keq q k (h▸a) else false
 | []=>false
def adU (i:Nat) (v:Ty) (y:C i):v.dn:=match get i y with
 | _::⟨t,a⟩::_=>if h:t=v then h▸a else v.df
 | _=>v.df
theorem Oc {i:Nat} {q:Ty} {r:List Ty} (hl:Ag i=q::r) (y:C i):∃ a rest,get i y=⟨q,a⟩::rest∧rest.map (·.t)=r:=by
 have h:=pr i y
 rw [hl] at h
 match hg:get i y,h with
 | ⟨t,a⟩::rest,h=>
  simp only [List.map_cons,List.cons.injEq] at h
  obtain ⟨h1,h2⟩:=h
  subst h1
  exact ⟨a,rest,rfl,h2⟩
theorem abY {i:Nat} {q:Ty} {a k:q.dn} {rest:List cE} {y:C i} (h:get i y=⟨q,a⟩::rest):wb i q k y=keq q k a:=by
 unfold wb
 rw [h]
 simp
theorem abZ (l:List cE) (x:cE):(vR (x::l)).1=cK x:=by cases l<;>rfl
theorem AI {d:TypeDesc} {i:Nat} {q:Ty} {r:List Ty} (hl:Ag i=q::r) (hd:HD d q=true) (k:q.dn):∀ (l:List (C i)) (n:Nat),kN (cK ⟨q,k⟩) (l.map fun x=>vR (get i x)) n=some ((l.findIdx? (wb i q k)).map (n+·))
 | [],n=>rfl
 | y::l,n=>by
  obtain ⟨a,rest,h1,h2⟩:=Oc hl y
  simp only [List.map_cons,kN,List.findIdx?_cons]
  rw [h1,abZ,(Jk (P:=default) hd k).2.2 a,abY h1,AI hl hd k l (n+1)]
  cases keq q k a with
  | true=>simp
  | false=>
   simp only [Bool.false_eq_true,if_false,Option.map_map]
   congr 2
   funext j
   simp only [Function.comp]
   omega
def X3:cE→cE→Bool
 | ⟨.int _,a⟩,⟨.int _,b⟩=>bM a b
 | ⟨.str,a⟩,⟨.str,b⟩=>seq a b
 | _,_=>false
def RL:List cE→List cE→Bool
 | [x],[y]=>X3 x y
 | x::r,y::s=>X3 x y&&RL r s
 | _,_=>true
def Vw (P:Program):List Field→Nat→List Ty→Bool
 | [],_,[]=>true
 | f::fs,i,t::r=>(f.name != "_"&&(Nat.beq f.offset i&&(Nat.beq (P.cellsOf f.type) 1&&(match P.underlying f.type with
  | some d=>HD d t
  | none=>false))))&&Vw P fs (i+1) r
 | _,_,_=>false
theorem adV {d:TypeDesc} {x:cE} (h:HD d x.t=true):Eh d (cK x)=true:=by
 obtain ⟨t,a⟩:=x
 cases t<;>cases d<;>simp [HD] at h<;>rfl
theorem WJ {P:Program}:∀ {fs:List Field} {i:Nat} {l:List cE},Vw P fs i (l.map (·.t))=true→Jj P fs i (l.map cK)=true
 | [],_,[],_=>rfl
 | [],_,_::_,h=>by cases h
 | _::_,_,[],h=>by cases h
 | f::fs,i,x::l,h=>by
  simp only [List.map_cons,Vw,Bool.and_eq_true] at h
  obtain ⟨⟨h1,h2,h3,h4⟩,h5⟩:=h
  simp only [List.map_cons,Jj,Bool.and_eq_true]
  refine ⟨⟨h1,h2,h3,?_⟩,WJ h5⟩
  split at h4
  ·rename_i d hd
   rw [hd]
   exact adV h4
  ·cases h4
theorem WK {P:Program}:∀ {fs:List Field} {i:Nat} {l m:List cE},Vw P fs i (l.map (·.t))=true→m.map (·.t)=l.map (·.t)→eqL (l.map cK) (m.map cK)=some (RL l m)
 | _,_,[],[],_,_=>rfl
 | _,_,[],_::_,_,h=>by cases h
 | _,_,_::_,[],_,h=>by cases h
 | [],_,_::_,_::_,h,_=>by cases h
 | f::fs,i,⟨t,a⟩::l,⟨u,b⟩::m,h,e=>by
  simp only [List.map_cons,List.cons.injEq] at e
  obtain ⟨rfl,e⟩:=e
  simp only [List.map_cons,Vw,Bool.and_eq_true] at h
  obtain ⟨⟨_,_,_,h4⟩,h5⟩:=h
  have ih:=WK (m:=m) h5 e
  split at h4
  ·rename_i d hd
   have k1:eq1 (cK ⟨u,a⟩) (cK ⟨u,b⟩)=some (X3 ⟨u,a⟩ ⟨u,b⟩):=by
    cases u<;>cases d<;>simp [HD] at h4<;>simp [cK,eq1,X3]
   simp only [List.map_cons,eqL,k1,ih]
   cases l with
   | nil=>
    cases m with
    | nil=>simp [RL]
    | cons=>cases e
   | cons x l=>
    cases m with
    | nil=>cases e
    | cons y m=>simp [RL]
  ·cases h4
def TO (P:Program) (kt:TypeId) (j:Nat):Bool:=match P.underlying kt with
 | some (.struct fs)=>!P.stoodInHeld kt&&Vw P fs.toList 0 (Ag j)
 | _=>false
theorem Jg {P:Program} {kt:TypeId} {j:Nat} (h:TO P kt j=true):∃ fs,P.underlying kt=some (.struct fs)∧P.stoodInHeld kt=false∧Vw P fs.toList 0 (Ag j)=true:=by
 unfold TO at h
 split at h
 ·rename_i fs Yf
  simp only [Bool.and_eq_true,Bool.not_eq_true'] at h
  exact ⟨fs,Yf,h.1,h.2⟩
 ·cases h
theorem KJ (j:Nat) (x:C j):cK ⟨.st j,x⟩=.agg ((get j x).map cK):=by
 show AV.agg (cc j x)=_
 rw [JK]
theorem aau {j:Nat} {x:C j} {y:cE} (hy:y∈get j x):y.t.leaf=true:=Aq (.st j) x y hy
theorem ab0 {l:List cE} (h:∀ y,y∈l→y.t.leaf=true):PL (.agg (l.map cK)):=by
 intro w F μ K v hv
 obtain ⟨vs,rfl,AM⟩:=hv.fh
 refine .pY ⟨AM.1,fun i hi=>?_⟩
 have c8:i < l.length:=by simpa using hi
 have e:(l.map cK).getD i .top=cK l[i]:=by simp [List.getD,c8]
 have:=AM.2 i hi
 rw [e] at this ⊢
 exact tw (h _ (List.getElem_mem c8)) this
theorem Jh {P:Program} {kt:TypeId} {j:Nat} (h:TO P kt j=true) (k:C j):BD P kt (cK ⟨.st j,k⟩)=true∧PL (cK ⟨.st j,k⟩)∧∀ m:List cE,m.map (·.t)=Ag j→Dw (cK ⟨.st j,k⟩) (.agg (m.map cK))=some (RL (get j k) m):=by
 obtain ⟨fs,h1,h2,h3⟩:=Jg h
 rw [KJ]
 refine ⟨?_,ab0 fun y hy=>aau hy,fun m hm=>?_⟩
 ·simp only [BD,h1,h2,Bool.not_false,Bool.true_and]
  exact WJ (by rw [pr];exact h3)
 ·exact WK (by rw [pr];exact h3) (by rw [pr];exact hm)
def fR (i j n:Nat) (k:C j) (y:C i):Bool:=RL (get j k) ((get i y).take n)
def AD (i n:Nat) (v:Ty) (y:C i):v.dn:=match (get i y).drop n with
 | ⟨t,a⟩::_=>if h:t=v then h▸a else v.df
 | []=>v.df
theorem WD {i j n:Nat} (h:(Ag i).take n=Ag j) (y:C i):((get i y).take n).map (·.t)=Ag j:=by
 rw [List.map_take,pr,h]
theorem AF {P:Program} {kt:TypeId} {i j n:Nat} (hl:(Ag i).take (n+1)=Ag j) (hd:TO P kt j=true) (k:C j):∀ (l:List (C i)) (m:Nat),kN (cK ⟨.st j,k⟩) (l.map fun x=>cY (n+1) (get i x)) m=some ((l.findIdx? (fR i j (n+1) k)).map (m+·))
 | [],m=>rfl
 | y::l,m=>by
  simp only [List.map_cons,kN,List.findIdx?_cons]
  have e:(cY (n+1) (get i y)).1=.agg (((get i y).take (n+1)).map cK):=rfl
  rw [e,(Jh hd k).2.2 _ (WD hl y),AF hl hd k l (m+1)]
  show (match some (fR i j (n+1) k y) with | some true=>_ | some false=>_ | none=>_)=_
  cases fR i j (n+1) k y with
  | true=>simp
  | false=>
   simp only [Bool.false_eq_true,if_false,Option.map_map]
   congr 2
   funext q
   simp only [Function.comp]
   omega
def Gf (ok:Bool) (v:TA) (b:Bool):TA:=match ok with
 | true=>.n9 [v,.d ⟨.bool,b⟩]
 | false=>v
theorem AJ (ok:Bool) (v:TA) (b:Bool) (H:List (Nat×aW)):(Gf ok v b).av H=Ob ok (v.av H) b:=by
 cases ok<;>simp [Gf,Ob,TA.av,dJ,cK]
theorem AK {ok:Bool} {v:TA} {b:Bool} {H:List (Nat×aW)} {N:Nat} (h:v.wf H N):(Gf ok v b).wf H N:=by
 cases ok with
 | false=>exact h
 | true=>simp only [Gf,TA.wf,gQ];exact ⟨h,trivial,trivial⟩
def zvT (P:Program) (t:TypeId):Option TA:=match P.info? t with
 | some i=>match i.zero with
  | some z=>match z with
   | .agg ⟨_::_⟩=>none
   | z=>some (cst z)
  | none=>none
 | none=>none
theorem N7 {t:TypeId} {a:TA} (h:zvT P t=some a) (H:List (Nat×aW)) (N:Nat):zvA P t=some (a.av H)∧a.wf H N:=by
 unfold zvT at h
 unfold zvA
 split at h
 ·rename_i i hi
  split at h
  ·rename_i z hz
   split at h
   ·cases h
   ·rename_i o8
    cases h
    rw [hi]
    simp only [hz,Nf]
    refine ⟨?_,ZB H N z⟩
    congr 1
    unfold zv
    split
    ·rename_i cs
     cases cs with
     | nil=>rfl
     | cons a r=>exact absurd rfl (o8 a r)
    ·rfl
  ·cases h
 ·cases h
def Ky (E:Env) (s:bK) (t:TypeId) (κ:cC→Option R):Option R:=match (E.mp.find? fun p=>Nat.beq p.1 t) with
 | some p=>κ ⟨.mp s.N,[(s.N,some (.dmap p.2 []))],1⟩
 | none=>match E.P.underlying t with
  | some (.map kt _)=>match Nk E.tc kt with
   | some q=>κ ⟨.mp s.N,[(s.N,some (.SS q []))],1⟩
   | none=>none
  | _=>none
theorem Rt {E:Env} {o:Oper} {s:bK} {κ:cC→Option R} {z:R} {t:TypeId} (ho:o.op=.makeMap t none) (hs:s.ok) (h:Ky E s t κ=some z):we E.P o s κ z:=by
 unfold Ky at h
 split at h
 ·exact iO hs h (Oa (N:=s.N) ho) nD (by simp only [TA.av];exact (@gZ.refl _)) (by simp only [TA.wf]) (by simp only [aW.di,List.map_nil];exact eD.refl _) (fun l' e=>by cases e)
 ·split at h
  ·split at h
   ·exact iO hs h (Oa (N:=s.N) ho) nD (by simp only [TA.av];exact (@gZ.refl _)) (by simp only [TA.wf]) (by simp only [aW.di,List.map_nil];exact eD.refl _) (fun l' e=>by cases e)
   ·cases h
  ·cases h
def WL {t:Ty} (k:t.dn) (κ:Option FuncId→Option R):List (t.dn×FuncId)→Option R
 | []=>κ none
 | p::r=>cond (keq t k p.1) (κ (some p.2)) (WL k κ r)
theorem TU {d:TypeDesc} {q:Ty} {k:q.dn} (hd:HD d q=true) {κ:Option FuncId→Option R} {z:R}:∀ {l:List (q.dn×FuncId)} {n:Nat},WL k κ l=some z→
  (kN (cK ⟨q,k⟩) (l.map fun x=>(cK ⟨q,x.1⟩,AV.fn (.func x.2) [] [])) n=some none∧κ none=some z)∨
  ∃ j,n≤j∧kN (cK ⟨q,k⟩) (l.map fun x=>(cK ⟨q,x.1⟩,AV.fn (.func x.2) [] [])) n=some (some j)∧∃ p,l[j-n]?=some p∧κ (some p.2)=some z
 | [],n,h=>.inl ⟨rfl,h⟩
 | p::r,n,h=>by
  simp only [WL] at h
  simp only [List.map_cons,kN,(Jk (P:=default) hd k).2.2]
  cases e:keq q k p.1 with
  | true=>
   rw [e] at h
   exact .inr ⟨n,Nat.le_refl _,rfl,p,by simp,h⟩
  | false=>
   rw [e] at h
   rcases TU hd (n:=n+1) h with ⟨h1,h2⟩ | ⟨j,h0,h1,p',h2,h3⟩
   ·exact .inl ⟨h1,h2⟩
   ·exact .inr ⟨j,by omega,h1,p',by rw [show j-n=(j-(n+1))+1 by omega];simpa using h2,h3⟩
def X0 (E:Env) (kt:TypeId) (cs:List TA):Option ((j:Nat)×C j):=match Nk E.tc kt with
 | some (.st j)=>match rG (Ag j) cs with
  | some ds=>match LY (.st j) ds with
   | some kk=>some ⟨j,kk⟩
   | none=>none
  | none=>none
 | _=>none
theorem L_ {E:Env} {kt:TypeId} {cs:List TA} {j:Nat} {kk:C j} (h:X0 E kt cs=some ⟨j,kk⟩) (H:List (Nat×aW)):gZ ((TA.agg cs).av H) (cK ⟨.st j,kk⟩):=by
 unfold X0 at h
 split at h
 ·rename_i j' _
  split at h
  ·rename_i ds rR
   split at h
   ·rename_i kk' hb
    cases h
    obtain ⟨d1,d2,d3,d4⟩:=mJ rR
    intro w F μ K v hv
    simp only [TA.av] at hv
    obtain ⟨vs,rfl,AM⟩:=hv.fh
    have e:get j kk=ds:=ez hb
    rw [KJ,e]
    refine .pY ⟨by have:=AM.1;rw [bE] at this;simp [d1,this],fun k hk=>?_⟩
    have FC:k < cs.length:=by simpa [d1] using hk
    have:=AM.2 k (by rw [bE];exact FC)
    rw [dy _ _ _ FC] at this
    exact d4 H k FC this
   ·cases h
  ·cases h
 ·cases h
def Ma (E:Env) (s:bK) (id:Nat) (kt:TypeId) (zt:TA) (j:Nat) (kk:C j) (ok:Bool) (κ:cC→Option R):Option R:=match TO E.P kt j with
 | false=>none
 | true=>match aR s.H id with
  | some (.dmap i l)=>match KR i with
   | 0=>none
   | n+1=>match decEq ((Ag i).take (n+1)) (Ag j) with
    | .isFalse _=>none
    | .isTrue _=>match (Ag i).drop (n+1) with
     | []=>match zt with
      | .agg []=>κ ⟨Gf ok (.agg []) (JQ (fR i j (n+1) kk) l),[],0⟩
      | _=>none
     | [v]=>match sv v zt with
      | some ⟨v',z⟩=>match decEq v' v with
       | .isTrue e=>κ ⟨Gf ok (.d ⟨v,l8 (fR i j (n+1) kk) (AD i (n+1) v) (e▸z) l⟩) (JQ (fR i j (n+1) kk) l),[],0⟩
       | .isFalse _=>none
      | none=>none
     | _=>none
  | _=>none
def NM (E:Env) (s:bK) (t:TypeId) (x k:TA) (ok:Bool) (κ:cC→Option R):Option R:=match x,k,E.P.underlying t with
 | .mp id,.d ⟨q,kk⟩,some (.map kt et)=>match E.P.underlying kt,zvT E.P et with
  | some d,some zt=>match HD d q with
   | true=>match aR s.H id with
    | some (.dmap i l)=>match KR i with
     | _+1=>none
     | 0=>match Ag i with
     | [q']=>match decEq q' q with
      | .isTrue _=>match zt with
       | .agg []=>κ ⟨Gf ok (.agg []) (JQ (wb i q kk) l),[],0⟩
       | _=>none
      | .isFalse _=>none
     | [q',v]=>match decEq q' q with
      | .isTrue _=>match sv v zt with
       | some ⟨v',z⟩=>match decEq v' v with
        | .isTrue e=>κ ⟨Gf ok (.d ⟨v,l8 (wb i q kk) (adU i v) (e▸z) l⟩) (JQ (wb i q kk) l),[],0⟩
        | .isFalse _=>none
       | none=>none
      | .isFalse _=>none
     | _=>none
    | some (.SS q' l)=>match decEq q' q with
     | .isTrue e=>WL kk (fun r=>match r with
      | some f=>κ ⟨Gf ok (.fn (.func f) [] []) true,[],0⟩
      | none=>κ ⟨Gf ok zt false,[],0⟩) (e▸l:List (q.dn×FuncId))
     | .isFalse _=>none
    | _=>none
   | false=>match (⟨q,kk⟩:cE) with
    | ⟨.st j,k'⟩=>Ma E s id kt zt j k' ok κ
    | _=>none
  | _,_=>none
 | .mp id,.agg cs,some (.map kt et)=>match zvT E.P et,X0 E kt cs with
  | some zt,some ⟨j,k'⟩=>Ma E s id kt zt j k' ok κ
  | _,_=>none
 | _,_,_=>none
theorem Qe {ok:Bool} {a b:AV} {c:Bool} (h:gZ a b):gZ (Ob ok a c) (Ob ok b c):=by
 cases ok with
 | false=>exact h
 | true=>
  intro w F μ K v hv
  obtain ⟨vs,rfl,AM⟩:=hv.IB
  obtain ⟨v1,r,rfl,h1,h2⟩:=AM.cons_inv
  exact .Le (.cons (h h1) h2)
theorem AE {α:Type} {p:α→Bool}:∀ {l:List α},(l.findIdx? p=none∧l.find? p=none)∨∃ j y,l.findIdx? p=some j∧l[j]?=some y∧l.find? p=some y∧p y=true
 | []=>.inl ⟨rfl,rfl⟩
 | x::l=>by
  simp only [List.findIdx?_cons,List.find?_cons]
  cases e:p x with
  | true=>exact .inr ⟨0,x,by simp,by simp,rfl,e⟩
  | false=>
   rcases AE (p:=p) (l:=l) with ⟨h1,h2⟩ | ⟨j,y,h1,h2,h3,h4⟩
   ·exact .inl ⟨by simp [h1],h2⟩
   ·exact .inr ⟨j+1,y,by simp [h1],by simpa using h2,h3,h4⟩
theorem Od {E:Env} {o:Oper} {s:bK} {κ:cC→Option R} {z:R} {t kt et:TypeId} {x k:Operand} {ok:Bool} {id j:Nat} {kk:C j} {zt:TA} (ho:o.op=.lookup t x k ok) (hx:s.val x=.mp id) (h2:dT s.st k (cK ⟨.st j,kk⟩))
  (ht:E.P.underlying t=some (.map kt et)) (SQ:zvA E.P et=some (zt.av s.H)) (h:Ma E s id kt zt j kk ok κ=some z):we E.P o s κ z:=by
 unfold Ma at h
 split at h
 ·cases h
 ·rename_i R8
  obtain ⟨fs,Ge,_,_⟩:=Jg R8
  have N6:=Jh R8 kk
  have h1:dT s.st x (.mp id):=b8 hx
  split at h
  ·rename_i i l hl
   split at h
   ·cases h
   ·rename_i n hn
    have hH:s.st.H id=some (.map (l.map fun x=>cY (n+1) (get i x))):=by
     have h9:s.st.H id=some (.map (l.map fun x=>cY (KR i) (get i x))):=dz hl
     rw [hn] at h9
     exact h9
    split at h
    ·cases h
    ·rename_i O8 _
     have hf:=AF O8 R8 kk l 0
     have mO:=AH ho h1 hH h2 ht Ge N6.1 hf SQ
     split at h
     ·rename_i hdr
      split at h
      ·refine jv h mO ?_ (AK (by simp only [TA.wf,gQ]))
       rw [AJ]
       simp only [TA.av,dJ,JQ]
       show gZ (ze ok (.agg []) _ ((l.findIdx? (fR i j (n+1) kk)).map (0+·))) _
       rcases AE (p:=fR i j (n+1) kk) (l:=l) with ⟨k1,k2⟩ | ⟨q,y,k1,k2,k3,k4⟩
       ·rw [k1];exact (@gZ.refl _)
       ·rw [k1]
        have Z1:(get i y).drop (n+1)=[]:=by
         have:=congrArg (List.drop (n+1)) (pr i y)
         rw [hdr,← List.map_drop] at this
         exact List.map_eq_nil_iff.1 this
        have m4:((l.map fun x=>cY (n+1) (get i x)).getD (0+q) (.top,.top)).2=.agg []:=by
         simp [List.getD,k2,cY,Z1]
        simp only [Option.map_some,Option.isSome_some,ze,m4]
        exact (@gZ.refl _)
      ·cases h
     ·rename_i v hdr
      split at h
      ·rename_i v' z' WA
       split at h
       ·rename_i e _
        subst e
        refine jv h mO ?_ (AK (by simp only [TA.wf]))
        rw [AJ]
        simp only [TA.av,JQ,l8]
        show gZ (ze ok (zt.av s.H) _ ((l.findIdx? (fR i j (n+1) kk)).map (0+·))) _
        rcases AE (p:=fR i j (n+1) kk) (l:=l) with ⟨k1,k2⟩ | ⟨q,y,k1,k2,k3,k4⟩
        ·rw [k1,k2]
         exact Qe ((gR WA).2.2 s.H)
        ·rw [k1,k3]
         have Z1:((get i y).drop (n+1)).map (·.t)=[v']:=by
          rw [List.map_drop,pr,hdr]
         obtain ⟨b,hb⟩:∃ b:v'.dn,(get i y).drop (n+1)=[⟨v',b⟩]:=by
          match hg:(get i y).drop (n+1),Z1 with
          | [⟨t',b⟩],h0=>
           simp only [List.map_cons,List.map_nil,List.cons.injEq,and_true] at h0
           subst h0
           exact ⟨b,rfl⟩
         have m4:((l.map fun x=>cY (n+1) (get i x)).getD (0+q) (.top,.top)).2=cK ⟨v',b⟩:=by
          simp [List.getD,k2,cY,hb]
         have m5:AD i (n+1) v' y=b:=by
          unfold AD
          rw [hb]
          simp
         simp only [Option.map_some,Option.isSome_some,ze,m4,m5]
         exact (@gZ.refl _)
       ·cases h
      ·cases h
     ·cases h
  ·cases h
theorem Tr {E:Env} {o:Oper} {s:bK} {κ:cC→Option R} {z:R} {t:TypeId} {x k:Operand} {ok:Bool} (ho:o.op=.lookup t x k ok) (hs:s.ok) (h:NM E s t (s.val x) (s.val k) ok κ=some z):we E.P o s κ z:=by
 unfold NM at h
 split at h
 ·rename_i id q kk kt et hx hk ht
  split at h
  ·rename_i d zt Ge hz
   split at h
   ·rename_i hd
    obtain ⟨SQ,hz2⟩:=N7 hz s.H s.N
    have h1:dT s.st x (.mp id):=b8 hx
    have h2:dT s.st k (cK ⟨q,kk⟩):=b8 hk
    have N6:=Jk (P:=E.P) hd kk
    split at h
    ·rename_i i l hl
     split at h
     ·cases h
     rename_i S_
     have hH:s.st.H id=some (.map (l.map fun x=>vR (get i x))):=by
      have h9:s.st.H id=some (.map (l.map fun x=>cY (KR i) (get i x))):=dz hl
      rw [S_] at h9
      exact h9
     split at h
     ·rename_i q' O8
      split at h
      ·rename_i e _
       subst e
       split at h
       ·have hf:=AI O8 hd kk l 0
        have mO:=AH ho h1 hH h2 ht Ge (N6.1 _ Ge) hf SQ
        refine jv h mO ?_ (AK (by simp only [TA.wf,gQ]))
        rw [AJ]
        simp only [TA.av,dJ,JQ]
        show gZ (ze ok (.agg []) _ ((l.findIdx? (wb i q' kk)).map (0+·))) _
        rcases AE (p:=wb i q' kk) (l:=l) with ⟨k1,k2⟩ | ⟨j,y,k1,k2,k3,k4⟩
        ·rw [k1];exact (@gZ.refl _)
        ·rw [k1]
         obtain ⟨a,rest,m1,m2⟩:=Oc O8 y
         have m3:rest=[]:=by simpa using m2
         have m4:((l.map fun x=>vR (get i x)).getD (0+j) (.top,.top)).2=.agg []:=by
          simp [List.getD,k2,m1,m3,vR]
         simp only [Option.map_some,Option.isSome_some,ze,m4]
         exact (@gZ.refl _)
       ·cases h
      ·cases h
     ·rename_i q' v O8
      split at h
      ·rename_i e _
       subst e
       split at h
       ·rename_i v' z' WA
        split at h
        ·rename_i e _
         subst e
         have hf:=AI O8 hd kk l 0
         have mO:=AH ho h1 hH h2 ht Ge (N6.1 _ Ge) hf SQ
         refine jv h mO ?_ (AK (by simp only [TA.wf]))
         rw [AJ]
         simp only [TA.av,JQ,l8]
         show gZ (ze ok (zt.av s.H) _ ((l.findIdx? (wb i q' kk)).map (0+·))) _
         rcases AE (p:=wb i q' kk) (l:=l) with ⟨k1,k2⟩ | ⟨j,y,k1,k2,k3,k4⟩
         ·rw [k1,k2]
          exact Qe ((gR WA).2.2 s.H)
         ·rw [k1,k3]
          obtain ⟨a,rest,m1,m2⟩:=Oc O8 y
          match rest,m2 with
          | [⟨t',b⟩],m2=>
           simp only [List.map_cons,List.map_nil,List.cons.injEq,and_true] at m2
           subst m2
           have m4:((l.map fun x=>vR (get i x)).getD (0+j) (.top,.top)).2=cK ⟨t',b⟩:=by
            simp [List.getD,k2,m1,vR]
           have m5:adU i t' y=b:=by
            unfold adU
            rw [m1]
            simp
           simp only [Option.map_some,Option.isSome_some,ze,m4,m5]
           exact (@gZ.refl _)
        ·cases h
       ·cases h
      ·cases h
     ·cases h
    ·rename_i q' l hl
     split at h
     ·rename_i e _
      subst e
      have hH:s.st.H id=some (.map (l.map fun x=>(cK ⟨q',x.1⟩,AV.fn (.func x.2) [] []))):=dz hl
      rcases TU hd (n:=0) h with ⟨k1,k2⟩ | ⟨j,_,k1,p,k2,k3⟩
      ·have mO:=AH ho h1 hH h2 ht Ge (N6.1 _ Ge) k1 SQ
       exact jv k2 mO (by rw [AJ];exact (@gZ.refl _)) (AK hz2)
      ·have mO:=AH ho h1 hH h2 ht Ge (N6.1 _ Ge) k1 SQ
       refine jv k3 mO ?_ (AK (by simp only [TA.wf,gQ];exact ⟨trivial,trivial⟩))
       rw [AJ]
       rw [Nat.sub_zero] at k2
       have m4:((l.map fun x=>(cK ⟨q',x.1⟩,AV.fn (.func x.2) [] [])).getD j (.top,.top)).2=.fn (.func p.2) [] []:=by
        simp [List.getD,k2]
       simp only [ze,m4,TA.av,dJ]
       exact (@gZ.refl _)
     ·cases h
    ·cases h
   ·split at h
    ·rename_i j k' hq
     obtain ⟨rfl,hq2⟩:=cE.mk.inj hq
     have hq3:=eq_of_heq hq2
     subst hq3
     exact Od ho hx (b8 hk) ht (N7 hz s.H s.N).1 h
    ·cases h
  ·cases h
 ·rename_i id cs kt et hx hk ht
  split at h
  ·rename_i zt j k' hz hkg
   exact Od ho hx (fun {w F O μ K ft act} hs=>L_ hkg s.H (hk▸fQ s k hs)) ht (N7 hz s.H s.N).1 h
  ·cases h
 ·cases h
def ab1 {t:Ty} (k:t.dn) (f:FuncId) (κ:List (t.dn×FuncId)→Option R):List (t.dn×FuncId)→Option R
 | []=>κ [(k,f)]
 | p::r=>cond (keq t k p.1) (κ ((k,f)::r)) (ab1 k f (fun l=>κ (p::l)) r)
theorem WM {d:TypeDesc} {q:Ty} {k:q.dn} {f:FuncId} (hd:HD d q=true) {z:R}:∀ {l:List (q.dn×FuncId)} {n:Nat} {κ:List (q.dn×FuncId)→Option R},ab1 k f κ l=some z→
  ∃ r l',kN (cK ⟨q,k⟩) (l.map fun x=>(cK ⟨q,x.1⟩,AV.fn (.func x.2) [] [])) n=some (r.map (n+·))∧κ l'=some z∧
   (l'.map fun x=>(cK ⟨q,x.1⟩,AV.fn (.func x.2) [] []))=oC (l.map fun x=>(cK ⟨q,x.1⟩,AV.fn (.func x.2) [] [])) (cK ⟨q,k⟩) (.fn (.func f) [] []) r
 | [],n,κ,h=>⟨none,_,rfl,h,rfl⟩
 | p::r,n,κ,h=>by
  simp only [ab1] at h
  simp only [List.map_cons,kN,(Jk (P:=default) hd k).2.2]
  cases e:keq q k p.1 with
  | true=>
   rw [e] at h
   exact ⟨some 0,_,rfl,h,by simp [oC]⟩
  | false=>
   rw [e] at h
   obtain ⟨r',l',h1,h2,h3⟩:=WM hd (n:=n+1) h
   refine ⟨r'.map (·+1),p::l',?_,h2,?_⟩
   ·simp only [h1,Option.map_map]
    congr 2
    funext j
    simp only [Function.comp]
    omega
   ·simp only [List.map_cons,h3]
    cases r'<;>simp [oC]
def RO (E:Env) (s:bK) (id:Nat) (kt:TypeId) (j:Nat) (kk:C j) (x:TA) (κ:cC→Option R):Option R:=match TO E.P kt j with
 | false=>none
 | true=>match aR s.H id with
  | some (.dmap i l)=>match KR i with
   | 0=>none
   | n+1=>match decEq ((Ag i).take (n+1)) (Ag j) with
    | .isFalse _=>none
    | .isTrue _=>match (Ag i).drop (n+1) with
     | []=>match x with
      | .agg []=>match LY (.st i) (get j kk) with
       | some y=>κ ⟨.lit undef,[(id,some (.dmap i (nV (fR i j (n+1) kk) l y)))],0⟩
       | none=>none
      | _=>none
     | [v]=>match sv v x with
      | some y0=>match LY (.st i) (get j kk++[y0]) with
       | some y=>κ ⟨.lit undef,[(id,some (.dmap i (nV (fR i j (n+1) kk) l y)))],0⟩
       | none=>none
      | none=>none
     | _=>none
  | _=>none
def I5 (E:Env) (s:bK) (t:TypeId) (m k x:TA) (κ:cC→Option R):Option R:=match m,k,E.P.underlying t with
 | .mp id,.d ⟨q,kk⟩,some (.map kt _)=>match E.P.underlying kt with
  | some d=>match HD d q with
   | true=>match aR s.H id with
    | some (.dmap i l)=>match KR i with
     | _+1=>none
     | 0=>match Ag i with
     | [q']=>match decEq q' q,x with
      | .isTrue _,.agg []=>match LY (.st i) [⟨q,kk⟩] with
       | some y=>κ ⟨.lit undef,[(id,some (.dmap i (nV (wb i q kk) l y)))],0⟩
       | none=>none
      | _,_=>none
     | [q',v]=>match decEq q' q,sv v x with
      | .isTrue _,some y0=>match LY (.st i) [⟨q,kk⟩,y0] with
       | some y=>κ ⟨.lit undef,[(id,some (.dmap i (nV (wb i q kk) l y)))],0⟩
       | none=>none
      | _,_=>none
     | _=>none
    | some (.SS q' l)=>match decEq q' q,x with
     | .isTrue e,.fn (.func f) [] []=>ab1 kk f (fun l'=>κ ⟨.lit undef,[(id,some (.SS q l'))],0⟩) (e▸l:List (q.dn×FuncId))
     | _,_=>none
    | _=>none
   | false=>match (⟨q,kk⟩:cE) with
    | ⟨.st j,k'⟩=>RO E s id kt j k' x κ
    | _=>none
  | none=>none
 | .mp id,.agg cs,some (.map kt _)=>match X0 E kt cs with
  | some ⟨j,k'⟩=>RO E s id kt j k' x κ
  | none=>none
 | _,_,_=>none
theorem EG {H:List (Nat×aW)} {N p4:Nat} {b b0:aW} (hb:aR H p4=some b0) (h1:fj (some b)=none) (h0:fj (some b0)=none):Sub H (cz H [(p4,some b)]) N:=y8 (L:=[]) fun _=>by rw [hb,h1,h0]
theorem TV {i:Nat} {q:Ty} {kk:q.dn} {l:List (C i)} {y:C i} {ka va:AV} (hy:vR (get i y)=(ka,va)):
  (nV (wb i q kk) l y).map (fun x=>vR (get i x))=oC (l.map fun x=>vR (get i x)) ka va (l.findIdx? (wb i q kk)):=by
 unfold nV
 cases l.findIdx? (wb i q kk) with
 | none=>simp [oC,hy]
 | some j=>simp [oC,List.map_set,hy]
theorem KK {i j n:Nat} {kk:C j} {l:List (C i)} {y:C i} {ka va:AV} (hy:cY (n+1) (get i y)=(ka,va)):
  (nV (fR i j (n+1) kk) l y).map (fun x=>cY (n+1) (get i x))=oC (l.map fun x=>cY (n+1) (get i x)) ka va (l.findIdx? (fR i j (n+1) kk)):=by
 unfold nV
 cases l.findIdx? (fR i j (n+1) kk) with
 | none=>simp [oC,hy]
 | some j=>simp [oC,List.map_set,hy]
theorem Qf {E:Env} {o:Oper} {s:bK} {κ:cC→Option R} {z:R} {t kt et:TypeId} {m k x:Operand} {id j:Nat} {kk:C j} (ho:o.op=.mapUpdate t m k x∨o.op=.insert t m k x) (hs:s.ok) (hm:s.val m=.mp id) (h2:dT s.st k (cK ⟨.st j,kk⟩))
  (ht:E.P.underlying t=some (.map kt et)) (h:RO E s id kt j kk (s.val x) κ=some z):we E.P o s κ z:=by
 unfold RO at h
 split at h
 ·cases h
 ·rename_i R8
  obtain ⟨fs,Ge,_,_⟩:=Jg R8
  have N6:=Jh R8 kk
  have h1:dT s.st m (.mp id):=b8 hm
  split at h
  ·rename_i i l hl
   split at h
   ·cases h
   ·rename_i n hn
    have hH:s.st.H id=some (.map (l.map fun x=>cY (n+1) (get i x))):=by
     have h9:s.st.H id=some (.map (l.map fun x=>cY (KR i) (get i x))):=dz hl
     rw [hn] at h9
     exact h9
    split at h
    ·cases h
    ·rename_i O8 _
     have hf:=AF O8 R8 kk l 0
     have hlen:(get j kk).length=(Ag j).length:=by
      have:=congrArg List.length (pr j kk)
      simpa using this
     split at h
     ·rename_i hdr
      split at h
      ·rename_i hx
       split at h
       ·rename_i y hy
        have h3:=@b8 s x _ hx
        simp only [TA.av,dJ] at h3
        have mO:=rM (r:=(l.findIdx? (fR i j (n+1) kk))) ho h1 hH h2 h3 (fun {w F μ K v} hv=>by obtain ⟨vs,rfl,AM⟩:=hv.fh;rw [AM.gY];exact .pY .nil) N6.2.1 ht Ge N6.1
         (by rw [hf];cases l.findIdx? (fR i j (n+1) kk)<;>simp)
        have hg:get i y=get j kk:=ez hy
        have hle:(get j kk).length≤n+1:=by
         rw [hlen,← O8];simp;omega
        have hp:cY (n+1) (get i y)=(cK ⟨.st j,kk⟩,.agg []):=by
         rw [KJ,hg]
         simp only [cY,List.take_of_length_le hle,List.drop_eq_nil_of_le hle]
        refine iO (k:=0) hs h mO (EG hl rfl rfl) (by simp only [TA.av];exact (@gZ.refl _)) (by simp only [TA.wf]) ?_ (fun l' e=>by cases e)
        simp only [aW.di,hn]
        exact (KK (kk:=kk) (l:=l) hp)▸eD.refl _
       ·cases h
      ·cases h
     ·rename_i v hdr
      split at h
      ·rename_i y0 WA
       split at h
       ·rename_i y hy
        obtain ⟨l1,l2,l3⟩:=gR WA
        have h3:dT s.st x (cK y0):=fun {w F O μ K ft act} g6=>l3 s.H (fQ s x g6)
        have mO:=rM (r:=(l.findIdx? (fR i j (n+1) kk))) ho h1 hH h2 h3 (tw l2) N6.2.1 ht Ge N6.1
         (by rw [hf];cases l.findIdx? (fR i j (n+1) kk)<;>simp)
        have hg:get i y=get j kk++[y0]:=ez hy
        have hle:(get j kk).length=n+1:=by
         have e1:=congrArg List.length hdr
         simp only [List.length_drop,List.length_singleton] at e1
         rw [hlen,← O8,List.length_take];omega
        have hp:cY (n+1) (get i y)=(cK ⟨.st j,kk⟩,cK y0):=by
         rw [KJ,hg]
         simp only [cY,← hle,List.take_left,List.drop_left]
        refine iO (k:=0) hs h mO (EG hl rfl rfl) (by simp only [TA.av];exact (@gZ.refl _)) (by simp only [TA.wf]) ?_ (fun l' e=>by cases e)
        simp only [aW.di,hn]
        exact (KK (kk:=kk) (l:=l) hp)▸eD.refl _
       ·cases h
      ·cases h
     ·cases h
  ·cases h
theorem Lo {E:Env} {o:Oper} {s:bK} {κ:cC→Option R} {z:R} {t:TypeId} {m k x:Operand} (ho:o.op=.mapUpdate t m k x∨o.op=.insert t m k x) (hs:s.ok) (h:I5 E s t (s.val m) (s.val k) (s.val x) κ=some z):we E.P o s κ z:=by
 unfold I5 at h
 split at h
 ·rename_i id q kk kt et hm hk ht
  split at h
  ·rename_i d Ge
   split at h
   ·rename_i hd
    have h1:dT s.st m (.mp id):=b8 hm
    have h2:dT s.st k (cK ⟨q,kk⟩):=b8 hk
    have N6:=Jk (P:=E.P) hd kk
    split at h
    ·rename_i i l hl
     split at h
     ·cases h
     rename_i S_
     have hH:s.st.H id=some (.map (l.map fun x=>vR (get i x))):=by
      have h9:s.st.H id=some (.map (l.map fun x=>cY (KR i) (get i x))):=dz hl
      rw [S_] at h9
      exact h9
     split at h
     ·rename_i q' O8
      split at h
      ·rename_i e _ hx
       subst e
       split at h
       ·rename_i y hy
        have h3:=@b8 s x _ hx
        simp only [TA.av,dJ] at h3
        have hf:=AI O8 hd kk l 0
        have mO:=rM (r:=(l.findIdx? (wb i q' kk))) ho h1 hH h2 h3 (fun {w F μ K v} hv=>by obtain ⟨vs,rfl,AM⟩:=hv.fh;rw [AM.gY];exact .pY .nil) N6.2.1 ht Ge (N6.1 _ Ge)
         (by rw [hf];cases l.findIdx? (wb i q' kk)<;>simp)
        have hp:vR (get i y)=(cK ⟨q',kk⟩,.agg []):=by
         have:get i y=[⟨q',kk⟩]:=ez hy
         rw [this];rfl
        refine iO (k:=0) hs h mO (EG hl rfl rfl) (by simp only [TA.av];exact (@gZ.refl _)) (by simp only [TA.wf]) ?_ (fun l' e=>by cases e)
        simp only [aW.di,S_]
        exact (TV (kk:=kk) (l:=l) hp)▸eD.refl _
       ·cases h
      ·cases h
     ·rename_i q' v O8
      split at h
      ·rename_i e y0 _ WA
       subst e
       split at h
       ·rename_i y hy
        obtain ⟨l1,l2,l3⟩:=gR WA
        have hf:=AI O8 hd kk l 0
        have h3:dT s.st x (cK y0):=fun {w F O μ K ft act} g6=>l3 s.H (fQ s x g6)
        have mO:=rM (r:=(l.findIdx? (wb i q' kk))) ho h1 hH h2 h3 (tw l2) N6.2.1 ht Ge (N6.1 _ Ge)
         (by rw [hf];cases l.findIdx? (wb i q' kk)<;>simp)
        have hp:vR (get i y)=(cK ⟨q',kk⟩,cK y0):=by
         have:get i y=[⟨q',kk⟩,y0]:=ez hy
         rw [this];rfl
        refine iO (k:=0) hs h mO (EG hl rfl rfl) (by simp only [TA.av];exact (@gZ.refl _)) (by simp only [TA.wf]) ?_ (fun l' e=>by cases e)
        simp only [aW.di,S_]
        exact (TV (kk:=kk) (l:=l) hp)▸eD.refl _
       ·cases h
      ·cases h
     ·cases h
    ·rename_i q' l hl
     split at h
     ·rename_i e f _ hx
      subst e
      have hH:s.st.H id=some (.map (l.map fun x=>(cK ⟨q',x.1⟩,AV.fn (.func x.2) [] []))):=dz hl
      have h3:=@b8 s x _ hx
      simp only [TA.av,dJ] at h3
      obtain ⟨r,l',k1,k2,k3⟩:=WM hd (n:=0) h
      have mO:=rM (r:=r) ho h1 hH h2 h3 (fun {w F μ K v} hv=>by
       obtain ⟨vs,us,rfl,a1,a2⟩:=hv.J7
       rw [a1.gY,a2.gY];exact .Zg .nil .nil) N6.2.1 ht Ge (N6.1 _ Ge) (by rw [k1];cases r<;>simp)
      refine iO (k:=0) hs k2 mO (EG hl rfl rfl) (by simp only [TA.av];exact (@gZ.refl _)) (by simp only [TA.wf]) ?_ (fun l' e=>by cases e)
      simp only [aW.di,k3]
      exact eD.refl _
     ·cases h
    ·cases h
   ·split at h
    ·rename_i j k' hq
     obtain ⟨rfl,hq2⟩:=cE.mk.inj hq
     have hq3:=eq_of_heq hq2
     subst hq3
     exact Qf ho hs hm (b8 hk) ht h
    ·cases h
  ·cases h
 ·rename_i id cs kt et hm hk ht
  split at h
  ·rename_i j k' hkg
   exact Qf ho hs hm (fun {w F O μ K ft act} hs=>L_ hkg s.H (hk▸fQ s k hs)) ht h
  ·cases h
 ·cases h
end Go.Proofs.YtljfmaaadnoggaaGreatDoor.cU
