/- The evaluator of maps. No condition. -/
import Derived.Test.YtjkbbdldmdajkaaGreatDoorWM
set_option linter.unusedSimpArgs false
set_option linter.unusedVariables false
namespace Go.Proofs.YtjkbbdldmdajkaaGreatDoor.c_
open Go Go.RowKit
variable {w w' xh:World} {F F' Bn O O' vW:Nat→Prop} {μ bD lF:Nat→Nat} {K K' EB:Nat→Prop} {ft bY:Nat→Nat→Prop} {P:Program} {R:Type}
def J5 {α:Type} (p:α→Bool) (l:List α):Bool:=(l.findIdx? p).isSome
def nM {α β:Type} (p:α→Bool) (f:α→β) (d:β) (l:List α):β:=match l.find? p with
 | some y=>f y
 | none=>d
def acV {α:Type} (p:α→Bool) (l:List α):List α:=match l.findIdx? p with
 | some j=>l.eraseIdx j
 | none=>l
def pA {α:Type} (p:α→Bool) (l:List α) (x:α):List α:=match l.findIdx? p with
 | some j=>l.set j x
 | none=>l++[x]
def keq:(t:Ty)→t.dn→t.dn→Bool
 | .int _,a,b=>bH a b
 | .str,a,b=>seq a b
 | _,_,_=>false
def Gq:TypeDesc→Ty→Bool
 | .int _,.int _=>true
 | .string,.str=>true
 | _,_=>false
theorem Fv {d:TypeDesc} {q:Ty} (h:Gq d q=true) (k:q.dn):(∀ kt,P.underlying kt=some d→BH P kt (cT ⟨q,k⟩)=true)∧P8 (cT ⟨q,k⟩)∧∀ k',Ek (cT ⟨q,k⟩) (cT ⟨q,k'⟩)=some (keq q k k'):=by
 cases q with
 | int kk=>exact ⟨fun kt ht=>by simp only [cT,BH,ht];cases d<;>simp [Gq] at h;rfl,vg rfl,fun k'=>by simp [cT,Ek,eq1,keq]⟩
 | str=>exact ⟨fun kt ht=>by simp only [cT,BH,ht];cases d<;>simp [Gq] at h;rfl,vg rfl,fun k'=>by simp [cT,Ek,eq1,keq]⟩
 | bool=>cases d<;>simp [Gq] at h
 | sl=>cases d<;>simp [Gq] at h
 | st=>cases d<;>simp [Gq] at h
def rQ (i:Nat) (q:Ty) (k:q.dn) (y:C i):Bool:=match get i y with
 | ⟨t,a⟩::_=>if h:t=q then keq q k (h▸a) else false
 | []=>false
def aeN (i:Nat) (v:Ty) (y:C i):v.dn:=match get i y with
 | _::⟨t,a⟩::_=>if h:t=v then h▸a else v.df
 | _=>v.df
theorem OO {i:Nat} {q:Ty} {r:List Ty} (hl:Az i=q::r) (y:C i):∃ a rest,get i y=⟨q,a⟩::rest∧rest.map (·.t)=r:=by
 have h:=qZ i y;rw [hl] at h
 match hg:get i y,h with
 | ⟨t,a⟩::rest,h=>
  simp only [List.map_cons,List.cons.injEq] at h;obtain ⟨h1,h2⟩:=h;subst h1;exact ⟨a,rest,rfl,h2⟩
theorem acW {i:Nat} {q:Ty} {a k:q.dn} {rest:List cN} {y:C i} (h:get i y=⟨q,a⟩::rest):rQ i q k y=keq q k a:=by
 unfold rQ;rw [h];simp
theorem acX (l:List cN) (x:cN):(tZ (x::l)).1=cT x:=by cases l<;>rfl
theorem xP {d:TypeDesc} {i:Nat} {q:Ty} {r:List Ty} (hl:Az i=q::r) (hd:Gq d q=true) (k:q.dn):∀ (l:List (C i)) (n:Nat),lI (cT ⟨q,k⟩) (l.map fun x=>tZ (get i x)) n=some ((l.findIdx? (rQ i q k)).map (n+·))
 | [],n=>rfl
 | y::l,n=>by
  obtain ⟨a,rest,h1,h2⟩:=OO hl y;simp only [List.map_cons,lI,List.findIdx?_cons];rw [h1,acX,(Fv (P:=default) hd k).2.2 a,acW h1,xP hl hd k l (n+1)];cases keq q k a with
  | true=>simp
  | false=>
   simp only [Bool.false_eq_true,if_false,Option.map_map]
   congr 2
   funext j;simp only [Function.comp];omega
def YH:cN→cN→Bool
 | ⟨.int _,a⟩,⟨.int _,b⟩=>bH a b
 | ⟨.str,a⟩,⟨.str,b⟩=>seq a b
 | _,_=>false
def Sg:List cN→List cN→Bool
 | [x],[y]=>YH x y
 | x::r,y::s=>YH x y&&Sg r s
 | _,_=>true
def V2 (P:Program):List Field→Nat→List Ty→Bool
 | [],_,[]=>true
 | f::fs,i,t::r=>(f.name != "_"&&(Nat.beq f.offset i&&(Nat.beq (P.cellsOf f.type) 1&&(match P.underlying f.type with
  | some d=>Gq d t
  | none=>false))))&&V2 P fs (i+1) r
 | _,_,_=>false
theorem aeO {d:TypeDesc} {x:cN} (h:Gq d x.t=true):E1 d (cT x)=true:=by
 obtain ⟨t,a⟩:=x;cases t<;>cases d<;>simp [Gq] at h<;>rfl
theorem Xf {P:Program}:∀ {fs:List Field} {i:Nat} {l:List cN},V2 P fs i (l.map (·.t))=true→JE P fs i (l.map cT)=true
 | [],_,[],_=>rfl
 | [],_,_::_,h=>by cases h
 | _::_,_,[],h=>by cases h
 | f::fs,i,x::l,h=>by
  simp only [List.map_cons,V2,Bool.and_eq_true] at h;obtain ⟨⟨h1,h2,h3,h4⟩,h5⟩:=h;simp only [List.map_cons,JE,Bool.and_eq_true];refine ⟨⟨h1,h2,h3,?_⟩,Xf h5⟩;split at h4
  ·rename_i d hd;rw [hd];exact aeO h4
  ·cases h4
theorem Xg {P:Program}:∀ {fs:List Field} {i:Nat} {l m:List cN},V2 P fs i (l.map (·.t))=true→m.map (·.t)=l.map (·.t)→eqL (l.map cT) (m.map cT)=some (Sg l m)
 | _,_,[],[],_,_=>rfl
 | _,_,[],_::_,_,h=>by cases h
 | _,_,_::_,[],_,h=>by cases h
 | [],_,_::_,_::_,h,_=>by cases h
 | f::fs,i,⟨t,a⟩::l,⟨u,b⟩::m,h,e=>by
  simp only [List.map_cons,List.cons.injEq] at e;obtain ⟨rfl,e⟩:=e;simp only [List.map_cons,V2,Bool.and_eq_true] at h;obtain ⟨⟨_,_,_,h4⟩,h5⟩:=h;have ih:=Xg (m:=m) h5 e;split at h4
  ·rename_i d hd;have k1:eq1 (cT ⟨u,a⟩) (cT ⟨u,b⟩)=some (YH ⟨u,a⟩ ⟨u,b⟩):=by
    cases u<;>cases d<;>simp [Gq] at h4<;>simp [cT,eq1,YH]
   simp only [List.map_cons,eqL,k1,ih];cases l with
   | nil=>
    cases m with
    | nil=>simp [Sg]
    | cons=>cases e
   | cons x l=>
    cases m with
    | nil=>cases e
    | cons y m=>simp [Sg]
  ·cases h4
def Um (P:Program) (kt:TypeId) (j:Nat):Bool:=match P.underlying kt with
 | some (.struct fs)=>!P.stoodInHeld kt&&V2 P fs.toList 0 (Az j)
 | _=>false
theorem JB {P:Program} {kt:TypeId} {j:Nat} (h:Um P kt j=true):∃ fs,P.underlying kt=some (.struct fs)∧P.stoodInHeld kt=false∧V2 P fs.toList 0 (Az j)=true:=by
 unfold Um at h;split at h
 ·rename_i fs YT;simp only [Bool.and_eq_true,Bool.not_eq_true'] at h;exact ⟨fs,YT,h.1,h.2⟩
 ·cases h
theorem KY (j:Nat) (x:C j):cT ⟨.st j,x⟩=.agg ((get j x).map cT):=by
 show AV.agg (cc j x)=_;rw [J1]
theorem abj {j:Nat} {x:C j} {y:cN} (hy:y∈get j x):y.t.leaf=true:=Br (.st j) x y hy
theorem acY {l:List cN} (h:∀ y,y∈l→y.t.leaf=true):P8 (.agg (l.map cT)):=by
 intro w F μ K v hv;obtain ⟨vs,rfl,BM⟩:=hv.fS;refine .rO ⟨BM.1,fun i hi=>?_⟩;have di:i < l.length:=by simpa using hi
 have e:(l.map cT).getD i .top=cT l[i]:=by simp [List.getD,di]
 have:=BM.2 i hi;rw [e] at this ⊢;exact vg (h _ (List.getElem_mem di)) this
theorem JC {P:Program} {kt:TypeId} {j:Nat} (h:Um P kt j=true) (k:C j):BH P kt (cT ⟨.st j,k⟩)=true∧P8 (cT ⟨.st j,k⟩)∧∀ m:List cN,m.map (·.t)=Az j→Ek (cT ⟨.st j,k⟩) (.agg (m.map cT))=some (Sg (get j k) m):=by
 obtain ⟨fs,h1,h2,h3⟩:=JB h;rw [KY];refine ⟨?_,acY fun y hy=>abj hy,fun m hm=>?_⟩
 ·simp only [BH,h1,h2,Bool.not_false,Bool.true_and];exact Xf (by rw [qZ];exact h3)
 ·exact Xg (by rw [qZ];exact h3) (by rw [qZ];exact hm)
def gD (i j n:Nat) (k:C j) (y:C i):Bool:=Sg (get j k) ((get i y).take n)
def BE (i n:Nat) (v:Ty) (y:C i):v.dn:=match (get i y).drop n with
 | ⟨t,a⟩::_=>if h:t=v then h▸a else v.df
 | []=>v.df
theorem Xa {i j n:Nat} (h:(Az i).take n=Az j) (y:C i):((get i y).take n).map (·.t)=Az j:=by
 rw [List.map_take,qZ,h]
theorem BG {P:Program} {kt:TypeId} {i j n:Nat} (hl:(Az i).take (n+1)=Az j) (hd:Um P kt j=true) (k:C j):∀ (l:List (C i)) (m:Nat),lI (cT ⟨.st j,k⟩) (l.map fun x=>dc (n+1) (get i x)) m=some ((l.findIdx? (gD i j (n+1) k)).map (m+·))
 | [],m=>rfl
 | y::l,m=>by
  simp only [List.map_cons,lI,List.findIdx?_cons];have e:(dc (n+1) (get i y)).1=.agg (((get i y).take (n+1)).map cT):=rfl;rw [e,(JC hd k).2.2 _ (Xa hl y),BG hl hd k l (m+1)];show (match some (gD i j (n+1) k y) with | some true=>_ | some false=>_ | none=>_)=_;cases gD i j (n+1) k y with
  | true=>simp
  | false=>
   simp only [Bool.false_eq_true,if_false,Option.map_map]
   congr 2
   funext q;simp only [Function.comp];omega
def GO (ok:Bool) (v:TA) (b:Bool):TA:=match ok with
 | true=>.nO [v,.d ⟨.bool,b⟩]
 | false=>v
theorem BK (ok:Bool) (v:TA) (b:Bool) (H:List (Nat×aY)):(GO ok v b).av H=ON ok (v.av H) b:=by
 cases ok<;>simp [GO,ON,TA.av,er,cT]
theorem BL {ok:Bool} {v:TA} {b:Bool} {H:List (Nat×aY)} {N:Nat} (h:v.wf H N):(GO ok v b).wf H N:=by
 cases ok with
 | false=>exact h
 | true=>simp only [GO,TA.wf,iz];exact ⟨h,trivial,trivial⟩
def zvT (P:Program) (t:TypeId):Option TA:=match P.info? t with
 | some i=>match i.zero with
  | some z=>match z with
   | .agg ⟨_::_⟩=>none
   | z=>some (cst z)
  | none=>none
 | none=>none
theorem OI {t:TypeId} {a:TA} (h:zvT P t=some a) (H:List (Nat×aY)) (N:Nat):zvA P t=some (a.av H)∧a.wf H N:=by
 unfold zvT at h;unfold zvA;split at h
 ·rename_i i hi;split at h
  ·rename_i z hz;split at h
   ·cases h
   ·rename_i qJ;cases h;rw [hi];simp only [hz,NL];refine ⟨?_,aau H N z⟩
    congr 1
    unfold zv;split
    ·rename_i cs;cases cs with
     | nil=>rfl
     | cons a r=>exact absurd rfl (qJ a r)
    ·rfl
  ·cases h
 ·cases h
def KN (E:Env) (s:bP) (t:TypeId) (κ:cx→Option R):Option R:=match (E.mp.find? fun p=>Nat.beq p.1 t) with
 | some p=>κ ⟨.mp s.N,[(s.N,some (.dmap p.2 []))],1⟩
 | none=>match E.P.underlying t with
  | some (.map kt _)=>match L4 E.tc kt with
   | some q=>κ ⟨.mp s.N,[(s.N,some (.Ts q []))],1⟩
   | none=>none
  | _=>none
theorem R0 {E:Env} {o:Oper} {s:bP} {κ:cx→Option R} {z:R} {t:TypeId} (ho:o.op=.makeMap t none) (hs:s.ok) (h:KN E s t κ=some z):wa E.P o s κ z:=by
 unfold KN at h;split at h
 ·exact g_ hs h (OM (N:=s.N) ho) nK (by simp only [TA.av];exact (@ik.refl _)) (by simp only [TA.wf]) (by simp only [aY.dC,List.map_nil];exact eQ.refl _) (fun l' e=>by cases e)
 ·split at h
  ·split at h
   ·exact g_ hs h (OM (N:=s.N) ho) nK (by simp only [TA.av];exact (@ik.refl _)) (by simp only [TA.wf]) (by simp only [aY.dC,List.map_nil];exact eQ.refl _) (fun l' e=>by cases e)
   ·cases h
  ·cases h
def Xh {t:Ty} (k:t.dn) (κ:Option FuncId→Option R):List (t.dn×FuncId)→Option R
 | []=>κ none
 | p::r=>cond (keq t k p.1) (κ (some p.2)) (Xh k κ r)
theorem Ut {d:TypeDesc} {q:Ty} {k:q.dn} (hd:Gq d q=true) {κ:Option FuncId→Option R} {z:R}:∀ {l:List (q.dn×FuncId)} {n:Nat},Xh k κ l=some z→
  (lI (cT ⟨q,k⟩) (l.map fun x=>(cT ⟨q,x.1⟩,AV.fn (.func x.2) [] [])) n=some none∧κ none=some z)∨
  ∃ j,n≤j∧lI (cT ⟨q,k⟩) (l.map fun x=>(cT ⟨q,x.1⟩,AV.fn (.func x.2) [] [])) n=some (some j)∧∃ p,l[j-n]?=some p∧κ (some p.2)=some z
 | [],n,h=>.inl ⟨rfl,h⟩
 | p::r,n,h=>by
  simp only [Xh] at h;simp only [List.map_cons,lI,(Fv (P:=default) hd k).2.2];cases e:keq q k p.1 with
  | true=>
   rw [e] at h;exact .inr ⟨n,Nat.le_refl _,rfl,p,by simp,h⟩
  | false=>
   rw [e] at h;rcases Ut hd (n:=n+1) h with ⟨h1,h2⟩ | ⟨j,h0,h1,p',h2,h3⟩
   ·exact .inl ⟨h1,h2⟩
   ·exact .inr ⟨j,by omega,h1,p',by rw [show j-n=(j-(n+1))+1 by omega];simpa using h2,h3⟩
def YF (E:Env) (kt:TypeId) (cs:List TA):Option ((j:Nat)×C j):=match L4 E.tc kt with
 | some (.st j)=>match te (Az j) cs with
  | some ds=>match Mf (.st j) ds with
   | some kk=>some ⟨j,kk⟩
   | none=>none
  | none=>none
 | _=>none
theorem Mr {E:Env} {kt:TypeId} {cs:List TA} {j:Nat} {kk:C j} (h:YF E kt cs=some ⟨j,kk⟩) (H:List (Nat×aY)):ik ((TA.agg cs).av H) (cT ⟨.st j,kk⟩):=by
 unfold YF at h;split at h
 ·rename_i j' _;split at h
  ·rename_i ds tq;split at h
   ·rename_i kk' hb;cases h;obtain ⟨d1,d2,d3,d4⟩:=oA tq;intro w F μ K v hv;simp only [TA.av] at hv;obtain ⟨vs,rfl,BM⟩:=hv.fS;have e:get j kk=ds:=ff hb;rw [KY,e];refine .rO ⟨by have:=BM.1;rw [bG] at this;simp [d1,this],fun k hk=>?_⟩;have Gi:k < cs.length:=by simpa [d1] using hk
    have:=BM.2 k (by rw [bG];exact Gi);rw [dO _ _ _ Gi] at this;exact d4 H k Gi this
   ·cases h
  ·cases h
 ·cases h
def Mt (E:Env) (s:bP) (id:Nat) (kt:TypeId) (zt:TA) (j:Nat) (kk:C j) (ok:Bool) (κ:cx→Option R):Option R:=match Um E.P kt j with
 | false=>none
 | true=>match aT s.H id with
  | some (.dmap i l)=>match JF i with
   | 0=>none
   | n+1=>match decEq ((Az i).take (n+1)) (Az j) with
    | .isFalse _=>none
    | .isTrue _=>match (Az i).drop (n+1) with
     | []=>match zt with
      | .agg []=>κ ⟨GO ok (.agg []) (J5 (gD i j (n+1) kk) l),[],0⟩
      | _=>none
     | [v]=>match ua v zt with
      | some ⟨v',z⟩=>match decEq v' v with
       | .isTrue e=>κ ⟨GO ok (.d ⟨v,nM (gD i j (n+1) kk) (BE i (n+1) v) (e▸z) l⟩) (J5 (gD i j (n+1) kk) l),[],0⟩
       | .isFalse _=>none
      | none=>none
     | _=>none
  | _=>none
def Ok (E:Env) (s:bP) (t:TypeId) (x k:TA) (ok:Bool) (κ:cx→Option R):Option R:=match x,k,E.P.underlying t with
 | .mp id,.d ⟨q,kk⟩,some (.map kt et)=>match E.P.underlying kt,zvT E.P et with
  | some d,some zt=>match Gq d q with
   | true=>match aT s.H id with
    | some (.dmap i l)=>match JF i with
     | _+1=>none
     | 0=>match Az i with
     | [q']=>match decEq q' q with
      | .isTrue _=>match zt with
       | .agg []=>κ ⟨GO ok (.agg []) (J5 (rQ i q kk) l),[],0⟩
       | _=>none
      | .isFalse _=>none
     | [q',v]=>match decEq q' q with
      | .isTrue _=>match ua v zt with
       | some ⟨v',z⟩=>match decEq v' v with
        | .isTrue e=>κ ⟨GO ok (.d ⟨v,nM (rQ i q kk) (aeN i v) (e▸z) l⟩) (J5 (rQ i q kk) l),[],0⟩
        | .isFalse _=>none
       | none=>none
      | .isFalse _=>none
     | _=>none
    | some (.Ts q' l)=>match decEq q' q with
     | .isTrue e=>Xh kk (fun r=>match r with
      | some f=>κ ⟨GO ok (.fn (.func f) [] []) true,[],0⟩
      | none=>κ ⟨GO ok zt false,[],0⟩) (e▸l:List (q.dn×FuncId))
     | .isFalse _=>none
    | _=>none
   | false=>match (⟨q,kk⟩:cN) with
    | ⟨.st j,k'⟩=>Mt E s id kt zt j k' ok κ
    | _=>none
  | _,_=>none
 | .mp id,.agg cs,some (.map kt et)=>match zvT E.P et,YF E kt cs with
  | some zt,some ⟨j,k'⟩=>Mt E s id kt zt j k' ok κ
  | _,_=>none
 | _,_,_=>none
theorem QA {ok:Bool} {a b:AV} {c:Bool} (h:ik a b):ik (ON ok a c) (ON ok b c):=by
 cases ok with
 | false=>exact h
 | true=>
  intro w F μ K v hv;obtain ⟨vs,rfl,BM⟩:=hv.IZ;obtain ⟨v1,r,rfl,h1,h2⟩:=BM.cons_inv;exact .Lr (.cons (h h1) h2)
theorem BF {α:Type} {p:α→Bool}:∀ {l:List α},(l.findIdx? p=none∧l.find? p=none)∨∃ j y,l.findIdx? p=some j∧l[j]?=some y∧l.find? p=some y∧p y=true
 | []=>.inl ⟨rfl,rfl⟩
 | x::l=>by
  simp only [List.findIdx?_cons,List.find?_cons];cases e:p x with
  | true=>exact .inr ⟨0,x,by simp,by simp,rfl,e⟩
  | false=>
   rcases BF (p:=p) (l:=l) with ⟨h1,h2⟩ | ⟨j,y,h1,h2,h3,h4⟩
   ·exact .inl ⟨by simp [h1],h2⟩
   ·exact .inr ⟨j+1,y,by simp [h1],by simpa using h2,h3,h4⟩
theorem OP {E:Env} {o:Oper} {s:bP} {κ:cx→Option R} {z:R} {t kt et:TypeId} {x k:Operand} {ok:Bool} {id j:Nat} {kk:C j} {zt:TA} (ho:o.op=.lookup t x k ok) (hx:s.val x=.mp id) (h2:ee s.st k (cT ⟨.st j,kk⟩))
  (ht:E.P.underlying t=some (.map kt et)) (Tq:zvA E.P et=some (zt.av s.H)) (h:Mt E s id kt zt j kk ok κ=some z):wa E.P o s κ z:=by
 unfold Mt at h;split at h
 ·cases h
 ·rename_i Sw;obtain ⟨fs,DH,_,_⟩:=JB Sw;have L6:=JC Sw kk;have h1:ee s.st x (.mp id):=bX hx;split at h
  ·rename_i i l hl;split at h
   ·cases h
   ·rename_i n hn;have hH:s.st.H id=some (.map (l.map fun x=>dc (n+1) (get i x))):=by
     have h9:s.st.H id=some (.map (l.map fun x=>dc (JF i) (get i x))):=dG hl;rw [hn] at h9;exact h9
    split at h
    ·cases h
    ·rename_i OH _;have hf:=BG OH Sw kk l 0;have m9:=BJ ho h1 hH h2 ht DH L6.1 hf Tq;split at h
     ·rename_i hdr;split at h
      ·refine kJ h m9 ?_ (BL (by simp only [TA.wf,iz]));rw [BK];simp only [TA.av,er,J5];show ik (Ab ok (.agg []) _ ((l.findIdx? (gD i j (n+1) kk)).map (0+·))) _;rcases BF (p:=gD i j (n+1) kk) (l:=l) with ⟨k1,k2⟩ | ⟨q,y,k1,k2,k3,k4⟩
       ·rw [k1];exact (@ik.refl _)
       ·rw [k1];have hd0:(get i y).drop (n+1)=[]:=by
         have:=congrArg (List.drop (n+1)) (qZ i y);rw [hdr,← List.map_drop] at this;exact List.map_eq_nil_iff.1 this
        have m4:((l.map fun x=>dc (n+1) (get i x)).getD (0+q) (.top,.top)).2=.agg []:=by
         simp [List.getD,k2,dc,hd0]
        simp only [Option.map_some,Option.isSome_some,Ab,m4];exact (@ik.refl _)
      ·cases h
     ·rename_i v hdr;split at h
      ·rename_i v' z' W8;split at h
       ·rename_i e _;subst e;refine kJ h m9 ?_ (BL (by simp only [TA.wf]));rw [BK];simp only [TA.av,J5,nM];show ik (Ab ok (zt.av s.H) _ ((l.findIdx? (gD i j (n+1) kk)).map (0+·))) _;rcases BF (p:=gD i j (n+1) kk) (l:=l) with ⟨k1,k2⟩ | ⟨q,y,k1,k2,k3,k4⟩
        ·rw [k1,k2];exact QA ((iA W8).2.2 s.H)
        ·rw [k1,k3];have hd0:((get i y).drop (n+1)).map (·.t)=[v']:=by
          rw [List.map_drop,qZ,hdr]
         obtain ⟨b,hb⟩:∃ b:v'.dn,(get i y).drop (n+1)=[⟨v',b⟩]:=by
          match hg:(get i y).drop (n+1),hd0 with
          | [⟨t',b⟩],h0=>
           simp only [List.map_cons,List.map_nil,List.cons.injEq,and_true] at h0;subst h0;exact ⟨b,rfl⟩
         have m4:((l.map fun x=>dc (n+1) (get i x)).getD (0+q) (.top,.top)).2=cT ⟨v',b⟩:=by
          simp [List.getD,k2,dc,hb]
         have m5:BE i (n+1) v' y=b:=by
          unfold BE;rw [hb];simp
         simp only [Option.map_some,Option.isSome_some,Ab,m4,m5];exact (@ik.refl _)
       ·cases h
      ·cases h
     ·cases h
  ·cases h
theorem TZ {E:Env} {o:Oper} {s:bP} {κ:cx→Option R} {z:R} {t:TypeId} {x k:Operand} {ok:Bool} (ho:o.op=.lookup t x k ok) (hs:s.ok) (h:Ok E s t (s.val x) (s.val k) ok κ=some z):wa E.P o s κ z:=by
 unfold Ok at h;split at h
 ·rename_i id q kk kt et hx hk ht;split at h
  ·rename_i d zt DH hz;split at h
   ·rename_i hd;obtain ⟨Tq,hz2⟩:=OI hz s.H s.N;have h1:ee s.st x (.mp id):=bX hx;have h2:ee s.st k (cT ⟨q,kk⟩):=bX hk;have L6:=Fv (P:=E.P) hd kk;split at h
    ·rename_i i l hl;split at h
     ·cases h
     rename_i Qg;have hH:s.st.H id=some (.map (l.map fun x=>tZ (get i x))):=by
      have h9:s.st.H id=some (.map (l.map fun x=>dc (JF i) (get i x))):=dG hl;rw [Qg] at h9;exact h9
     split at h
     ·rename_i q' OH;split at h
      ·rename_i e _;subst e;split at h
       ·have hf:=xP OH hd kk l 0;have m9:=BJ ho h1 hH h2 ht DH (L6.1 _ DH) hf Tq;refine kJ h m9 ?_ (BL (by simp only [TA.wf,iz]));rw [BK];simp only [TA.av,er,J5];show ik (Ab ok (.agg []) _ ((l.findIdx? (rQ i q' kk)).map (0+·))) _;rcases BF (p:=rQ i q' kk) (l:=l) with ⟨k1,k2⟩ | ⟨j,y,k1,k2,k3,k4⟩
        ·rw [k1];exact (@ik.refl _)
        ·rw [k1];obtain ⟨a,rest,m1,m2⟩:=OO OH y;have m3:rest=[]:=by simpa using m2
         have m4:((l.map fun x=>tZ (get i x)).getD (0+j) (.top,.top)).2=.agg []:=by
          simp [List.getD,k2,m1,m3,tZ]
         simp only [Option.map_some,Option.isSome_some,Ab,m4];exact (@ik.refl _)
       ·cases h
      ·cases h
     ·rename_i q' v OH;split at h
      ·rename_i e _;subst e;split at h
       ·rename_i v' z' W8;split at h
        ·rename_i e _;subst e;have hf:=xP OH hd kk l 0;have m9:=BJ ho h1 hH h2 ht DH (L6.1 _ DH) hf Tq;refine kJ h m9 ?_ (BL (by simp only [TA.wf]));rw [BK];simp only [TA.av,J5,nM];show ik (Ab ok (zt.av s.H) _ ((l.findIdx? (rQ i q' kk)).map (0+·))) _;rcases BF (p:=rQ i q' kk) (l:=l) with ⟨k1,k2⟩ | ⟨j,y,k1,k2,k3,k4⟩
         ·rw [k1,k2];exact QA ((iA W8).2.2 s.H)
         ·rw [k1,k3];obtain ⟨a,rest,m1,m2⟩:=OO OH y
          match rest,m2 with
          | [⟨t',b⟩],m2=>
           simp only [List.map_cons,List.map_nil,List.cons.injEq,and_true] at m2;subst m2;have m4:((l.map fun x=>tZ (get i x)).getD (0+j) (.top,.top)).2=cT ⟨t',b⟩:=by
            simp [List.getD,k2,m1,tZ]
           have m5:aeN i t' y=b:=by
            unfold aeN;rw [m1];simp
           simp only [Option.map_some,Option.isSome_some,Ab,m4,m5];exact (@ik.refl _)
        ·cases h
       ·cases h
      ·cases h
     ·cases h
    ·rename_i q' l hl;split at h
     ·rename_i e _;subst e;have hH:s.st.H id=some (.map (l.map fun x=>(cT ⟨q',x.1⟩,AV.fn (.func x.2) [] []))):=dG hl;rcases Ut hd (n:=0) h with ⟨k1,k2⟩ | ⟨j,_,k1,p,k2,k3⟩
      ·have m9:=BJ ho h1 hH h2 ht DH (L6.1 _ DH) k1 Tq;exact kJ k2 m9 (by rw [BK];exact (@ik.refl _)) (BL hz2)
      ·have m9:=BJ ho h1 hH h2 ht DH (L6.1 _ DH) k1 Tq;refine kJ k3 m9 ?_ (BL (by simp only [TA.wf,iz];exact ⟨trivial,trivial⟩));rw [BK];rw [Nat.sub_zero] at k2;have m4:((l.map fun x=>(cT ⟨q',x.1⟩,AV.fn (.func x.2) [] [])).getD j (.top,.top)).2=.fn (.func p.2) [] []:=by
        simp [List.getD,k2]
       simp only [Ab,m4,TA.av,er];exact (@ik.refl _)
     ·cases h
    ·cases h
   ·split at h
    ·rename_i j k' hq;obtain ⟨rfl,hq2⟩:=cN.mk.inj hq;have hq3:=eq_of_heq hq2;subst hq3;exact OP ho hx (bX hk) ht (OI hz s.H s.N).1 h
    ·cases h
  ·cases h
 ·rename_i id cs kt et hx hk ht;split at h
  ·rename_i zt j k' hz hkg;exact OP ho hx (fun {w F O μ K ft act} hs=>Mr hkg s.H (hk▸gC s k hs)) ht (OI hz s.H s.N).1 h
  ·cases h
 ·cases h
def acZ {t:Ty} (k:t.dn) (f:FuncId) (κ:List (t.dn×FuncId)→Option R):List (t.dn×FuncId)→Option R
 | []=>κ [(k,f)]
 | p::r=>cond (keq t k p.1) (κ ((k,f)::r)) (acZ k f (fun l=>κ (p::l)) r)
theorem Xi {d:TypeDesc} {q:Ty} {k:q.dn} {f:FuncId} (hd:Gq d q=true) {z:R}:∀ {l:List (q.dn×FuncId)} {n:Nat} {κ:List (q.dn×FuncId)→Option R},acZ k f κ l=some z→
  ∃ r l',lI (cT ⟨q,k⟩) (l.map fun x=>(cT ⟨q,x.1⟩,AV.fn (.func x.2) [] [])) n=some (r.map (n+·))∧κ l'=some z∧
   (l'.map fun x=>(cT ⟨q,x.1⟩,AV.fn (.func x.2) [] []))=p8 (l.map fun x=>(cT ⟨q,x.1⟩,AV.fn (.func x.2) [] [])) (cT ⟨q,k⟩) (.fn (.func f) [] []) r
 | [],n,κ,h=>⟨none,_,rfl,h,rfl⟩
 | p::r,n,κ,h=>by
  simp only [acZ] at h;simp only [List.map_cons,lI,(Fv (P:=default) hd k).2.2];cases e:keq q k p.1 with
  | true=>
   rw [e] at h;exact ⟨some 0,_,rfl,h,by simp [p8]⟩
  | false=>
   rw [e] at h;obtain ⟨r',l',h1,h2,h3⟩:=Xi hd (n:=n+1) h;refine ⟨r'.map (·+1),p::l',?_,h2,?_⟩
   ·simp only [h1,Option.map_map]
    congr 2
    funext j;simp only [Function.comp];omega
   ·simp only [List.map_cons,h3];cases r'<;>simp [p8]
def Si (E:Env) (s:bP) (id:Nat) (kt:TypeId) (j:Nat) (kk:C j) (x:TA) (κ:cx→Option R):Option R:=match Um E.P kt j with
 | false=>none
 | true=>match aT s.H id with
  | some (.dmap i l)=>match JF i with
   | 0=>none
   | n+1=>match decEq ((Az i).take (n+1)) (Az j) with
    | .isFalse _=>none
    | .isTrue _=>match (Az i).drop (n+1) with
     | []=>match x with
      | .agg []=>match Mf (.st i) (get j kk) with
       | some y=>κ ⟨.lit undef,[(id,some (.dmap i (pA (gD i j (n+1) kk) l y)))],0⟩
       | none=>none
      | _=>none
     | [v]=>match ua v x with
      | some y0=>match Mf (.st i) (get j kk++[y0]) with
       | some y=>κ ⟨.lit undef,[(id,some (.dmap i (pA (gD i j (n+1) kk) l y)))],0⟩
       | none=>none
      | none=>none
     | _=>none
  | _=>none
def Jp (E:Env) (s:bP) (t:TypeId) (m k x:TA) (κ:cx→Option R):Option R:=match m,k,E.P.underlying t with
 | .mp id,.d ⟨q,kk⟩,some (.map kt _)=>match E.P.underlying kt with
  | some d=>match Gq d q with
   | true=>match aT s.H id with
    | some (.dmap i l)=>match JF i with
     | _+1=>none
     | 0=>match Az i with
     | [q']=>match decEq q' q,x with
      | .isTrue _,.agg []=>match Mf (.st i) [⟨q,kk⟩] with
       | some y=>κ ⟨.lit undef,[(id,some (.dmap i (pA (rQ i q kk) l y)))],0⟩
       | none=>none
      | _,_=>none
     | [q',v]=>match decEq q' q,ua v x with
      | .isTrue _,some y0=>match Mf (.st i) [⟨q,kk⟩,y0] with
       | some y=>κ ⟨.lit undef,[(id,some (.dmap i (pA (rQ i q kk) l y)))],0⟩
       | none=>none
      | _,_=>none
     | _=>none
    | some (.Ts q' l)=>match decEq q' q,x with
     | .isTrue e,.fn (.func f) [] []=>acZ kk f (fun l'=>κ ⟨.lit undef,[(id,some (.Ts q l'))],0⟩) (e▸l:List (q.dn×FuncId))
     | _,_=>none
    | _=>none
   | false=>match (⟨q,kk⟩:cN) with
    | ⟨.st j,k'⟩=>Si E s id kt j k' x κ
    | _=>none
  | none=>none
 | .mp id,.agg cs,some (.map kt _)=>match YF E kt cs with
  | some ⟨j,k'⟩=>Si E s id kt j k' x κ
  | none=>none
 | _,_,_=>none
theorem CI {H:List (Nat×aY)} {N rS:Nat} {b b0:aY} (hb:aT H rS=some b0) (h1:fG (some b)=none) (h0:fG (some b0)=none):Sub H (cD H [(rS,some b)]) N:=xE (L:=[]) fun _=>by rw [hb,h1,h0]
theorem Uu {i:Nat} {q:Ty} {kk:q.dn} {l:List (C i)} {y:C i} {ka va:AV} (hy:tZ (get i y)=(ka,va)):
  (pA (rQ i q kk) l y).map (fun x=>tZ (get i x))=p8 (l.map fun x=>tZ (get i x)) ka va (l.findIdx? (rQ i q kk)):=by
 unfold pA;cases l.findIdx? (rQ i q kk) with
 | none=>simp [p8,hy]
 | some j=>simp [p8,List.map_set,hy]
theorem KZ {i j n:Nat} {kk:C j} {l:List (C i)} {y:C i} {ka va:AV} (hy:dc (n+1) (get i y)=(ka,va)):
  (pA (gD i j (n+1) kk) l y).map (fun x=>dc (n+1) (get i x))=p8 (l.map fun x=>dc (n+1) (get i x)) ka va (l.findIdx? (gD i j (n+1) kk)):=by
 unfold pA;cases l.findIdx? (gD i j (n+1) kk) with
 | none=>simp [p8,hy]
 | some j=>simp [p8,List.map_set,hy]
theorem QB {E:Env} {o:Oper} {s:bP} {κ:cx→Option R} {z:R} {t kt et:TypeId} {m k x:Operand} {id j:Nat} {kk:C j} (ho:o.op=.mapUpdate t m k x∨o.op=.insert t m k x) (hs:s.ok) (hm:s.val m=.mp id) (h2:ee s.st k (cT ⟨.st j,kk⟩))
  (ht:E.P.underlying t=some (.map kt et)) (h:Si E s id kt j kk (s.val x) κ=some z):wa E.P o s κ z:=by
 unfold Si at h;split at h
 ·cases h
 ·rename_i Sw;obtain ⟨fs,DH,_,_⟩:=JB Sw;have L6:=JC Sw kk;have h1:ee s.st m (.mp id):=bX hm;split at h
  ·rename_i i l hl;split at h
   ·cases h
   ·rename_i n hn;have hH:s.st.H id=some (.map (l.map fun x=>dc (n+1) (get i x))):=by
     have h9:s.st.H id=some (.map (l.map fun x=>dc (JF i) (get i x))):=dG hl;rw [hn] at h9;exact h9
    split at h
    ·cases h
    ·rename_i OH _;have hf:=BG OH Sw kk l 0;have hlen:(get j kk).length=(Az j).length:=by
      have:=congrArg List.length (qZ j kk);simpa using this
     split at h
     ·rename_i hdr;split at h
      ·rename_i hx;split at h
       ·rename_i y hy;have h3:=@bX s x _ hx;simp only [TA.av,er] at h3;have m9:=tj (r:=(l.findIdx? (gD i j (n+1) kk))) ho h1 hH h2 h3 (fun {w F μ K v} hv=>by obtain ⟨vs,rfl,BM⟩:=hv.fS;rw [BM.iJ];exact .rO .nil) L6.2.1 ht DH L6.1
         (by rw [hf];cases l.findIdx? (gD i j (n+1) kk)<;>simp)
        have hg:get i y=get j kk:=ff hy;have hle:(get j kk).length≤n+1:=by
         rw [hlen,← OH];simp;omega
        have hp:dc (n+1) (get i y)=(cT ⟨.st j,kk⟩,.agg []):=by
         rw [KY,hg];simp only [dc,List.take_of_length_le hle,List.drop_eq_nil_of_le hle]
        refine g_ (k:=0) hs h m9 (CI hl rfl rfl) (by simp only [TA.av];exact (@ik.refl _)) (by simp only [TA.wf]) ?_ (fun l' e=>by cases e);simp only [aY.dC,hn];exact (KZ (kk:=kk) (l:=l) hp)▸eQ.refl _
       ·cases h
      ·cases h
     ·rename_i v hdr;split at h
      ·rename_i y0 W8;split at h
       ·rename_i y hy;obtain ⟨l1,l2,l3⟩:=iA W8;have h3:ee s.st x (cT y0):=fun {w F O μ K ft act} gf=>l3 s.H (gC s x gf);have m9:=tj (r:=(l.findIdx? (gD i j (n+1) kk))) ho h1 hH h2 h3 (vg l2) L6.2.1 ht DH L6.1
         (by rw [hf];cases l.findIdx? (gD i j (n+1) kk)<;>simp)
        have hg:get i y=get j kk++[y0]:=ff hy;have hle:(get j kk).length=n+1:=by
         have e1:=congrArg List.length hdr;simp only [List.length_drop,List.length_singleton] at e1;rw [hlen,← OH,List.length_take];omega
        have hp:dc (n+1) (get i y)=(cT ⟨.st j,kk⟩,cT y0):=by
         rw [KY,hg];simp only [dc,← hle,List.take_left,List.drop_left]
        refine g_ (k:=0) hs h m9 (CI hl rfl rfl) (by simp only [TA.av];exact (@ik.refl _)) (by simp only [TA.wf]) ?_ (fun l' e=>by cases e);simp only [aY.dC,hn];exact (KZ (kk:=kk) (l:=l) hp)▸eQ.refl _
       ·cases h
      ·cases h
     ·cases h
  ·cases h
theorem LA {E:Env} {o:Oper} {s:bP} {κ:cx→Option R} {z:R} {t:TypeId} {m k x:Operand} (ho:o.op=.mapUpdate t m k x∨o.op=.insert t m k x) (hs:s.ok) (h:Jp E s t (s.val m) (s.val k) (s.val x) κ=some z):wa E.P o s κ z:=by
 unfold Jp at h;split at h
 ·rename_i id q kk kt et hm hk ht;split at h
  ·rename_i d DH;split at h
   ·rename_i hd;have h1:ee s.st m (.mp id):=bX hm;have h2:ee s.st k (cT ⟨q,kk⟩):=bX hk;have L6:=Fv (P:=E.P) hd kk;split at h
    ·rename_i i l hl;split at h
     ·cases h
     rename_i Qg;have hH:s.st.H id=some (.map (l.map fun x=>tZ (get i x))):=by
      have h9:s.st.H id=some (.map (l.map fun x=>dc (JF i) (get i x))):=dG hl;rw [Qg] at h9;exact h9
     split at h
     ·rename_i q' OH;split at h
      ·rename_i e _ hx;subst e;split at h
       ·rename_i y hy;have h3:=@bX s x _ hx;simp only [TA.av,er] at h3;have hf:=xP OH hd kk l 0;have m9:=tj (r:=(l.findIdx? (rQ i q' kk))) ho h1 hH h2 h3 (fun {w F μ K v} hv=>by obtain ⟨vs,rfl,BM⟩:=hv.fS;rw [BM.iJ];exact .rO .nil) L6.2.1 ht DH (L6.1 _ DH)
         (by rw [hf];cases l.findIdx? (rQ i q' kk)<;>simp)
        have hp:tZ (get i y)=(cT ⟨q',kk⟩,.agg []):=by
         have:get i y=[⟨q',kk⟩]:=ff hy;rw [this];rfl
        refine g_ (k:=0) hs h m9 (CI hl rfl rfl) (by simp only [TA.av];exact (@ik.refl _)) (by simp only [TA.wf]) ?_ (fun l' e=>by cases e);simp only [aY.dC,Qg];exact (Uu (kk:=kk) (l:=l) hp)▸eQ.refl _
       ·cases h
      ·cases h
     ·rename_i q' v OH;split at h
      ·rename_i e y0 _ W8;subst e;split at h
       ·rename_i y hy;obtain ⟨l1,l2,l3⟩:=iA W8;have hf:=xP OH hd kk l 0;have h3:ee s.st x (cT y0):=fun {w F O μ K ft act} gf=>l3 s.H (gC s x gf);have m9:=tj (r:=(l.findIdx? (rQ i q' kk))) ho h1 hH h2 h3 (vg l2) L6.2.1 ht DH (L6.1 _ DH)
         (by rw [hf];cases l.findIdx? (rQ i q' kk)<;>simp)
        have hp:tZ (get i y)=(cT ⟨q',kk⟩,cT y0):=by
         have:get i y=[⟨q',kk⟩,y0]:=ff hy;rw [this];rfl
        refine g_ (k:=0) hs h m9 (CI hl rfl rfl) (by simp only [TA.av];exact (@ik.refl _)) (by simp only [TA.wf]) ?_ (fun l' e=>by cases e);simp only [aY.dC,Qg];exact (Uu (kk:=kk) (l:=l) hp)▸eQ.refl _
       ·cases h
      ·cases h
     ·cases h
    ·rename_i q' l hl;split at h
     ·rename_i e f _ hx;subst e;have hH:s.st.H id=some (.map (l.map fun x=>(cT ⟨q',x.1⟩,AV.fn (.func x.2) [] []))):=dG hl;have h3:=@bX s x _ hx;simp only [TA.av,er] at h3;obtain ⟨r,l',k1,k2,k3⟩:=Xi hd (n:=0) h;have m9:=tj (r:=r) ho h1 hH h2 h3 (fun {w F μ K v} hv=>by
       obtain ⟨vs,us,rfl,a1,a2⟩:=hv.Ko;rw [a1.iJ,a2.iJ];exact .aad .nil .nil) L6.2.1 ht DH (L6.1 _ DH) (by rw [k1];cases r<;>simp)
      refine g_ (k:=0) hs k2 m9 (CI hl rfl rfl) (by simp only [TA.av];exact (@ik.refl _)) (by simp only [TA.wf]) ?_ (fun l' e=>by cases e);simp only [aY.dC,k3];exact eQ.refl _
     ·cases h
    ·cases h
   ·split at h
    ·rename_i j k' hq;obtain ⟨rfl,hq2⟩:=cN.mk.inj hq;have hq3:=eq_of_heq hq2;subst hq3;exact QB ho hs hm (bX hk) ht h
    ·cases h
  ·cases h
 ·rename_i id cs kt et hm hk ht;split at h
  ·rename_i j k' hkg;exact QB ho hs hm (fun {w F O μ K ft act} hs=>Mr hkg s.H (hk▸gC s k hs)) ht h
  ·cases h
 ·cases h
def Ol (E:Env) (s:bP) (t:TypeId) (m k:TA) (κ:cx→Option R):Option R:=match m,k,E.P.underlying t with
 | .mp id,.d ⟨q,kk⟩,some (.map kt _)=>match E.P.underlying kt with
  | some d=>match Gq d q with
   | true=>match aT s.H id with
    | some (.dmap i l)=>match JF i with
     | _+1=>none
     | 0=>match Az i with
     | q'::_=>match decEq q' q with
      | .isTrue _=>κ ⟨.top,[(id,some (.dmap i (acV (rQ i q kk) l)))],0⟩
      | .isFalse _=>none
     | []=>none
    | _=>none
   | false=>none
  | none=>none
 | _,_,_=>none
theorem abk {α β:Type} {p:α→Bool} {f:α→β} {l:List α}:(acV p l).map f=match l.findIdx? p with
  | none=>l.map f
  | some j=>(l.map f).eraseIdx j:=by
 unfold acV;cases l.findIdx? p with
 | none=>rfl
 | some j=>
  simp only;refine List.ext_getElem? fun i=>?_;simp only [List.getElem?_map,List.getElem?_eraseIdx];split<;>rfl
theorem T2 {E:Env} {o:Oper} {s:bP} {κ:cx→Option R} {z:R} {t u:TypeId} {m k:Operand} (ho:o.op=.call ⟨.builtin .delete,#[m,k],#[t,u]⟩) (hs:s.ok) (h:Ol E s t (s.val m) (s.val k) κ=some z):wa E.P o s κ z:=by
 unfold Ol at h;split at h
 ·rename_i id q kk kt et hm hk ht;split at h
  ·rename_i d DH;split at h
   ·rename_i hd;have h1:ee s.st m (.mp id):=bX hm;have h2:ee s.st k (cT ⟨q,kk⟩):=bX hk;have L6:=Fv (P:=E.P) hd kk;split at h
    ·rename_i i l hl;split at h
     ·cases h
     rename_i Qg;have hH:s.st.H id=some (.map (l.map fun x=>tZ (get i x))):=by
      have h9:s.st.H id=some (.map (l.map fun x=>dc (JF i) (get i x))):=dG hl;rw [Qg] at h9;exact h9
     split at h
     ·rename_i q' r OH;split at h
      ·rename_i e _;subst e;have m9:=YO (r:=(l.findIdx? (rQ i q' kk))) ho h1 hH h2 ht DH (L6.1 _ DH)
        (by rw [xP OH hd kk l 0];cases l.findIdx? (rQ i q' kk)<;>simp)
       refine g_ (k:=0) hs h m9 (CI hl rfl rfl) (by simp only [TA.av];exact (@ik.refl _)) (by simp only [TA.wf]) ?_ (fun l' e=>by cases e);simp only [aY.dC,Qg];have e:(acV (rQ i q' kk) l).map (fun x=>dc 0 (get i x))=abi (l.map fun x=>tZ (get i x)) (l.findIdx? (rQ i q' kk)):=by
        rw [abk];cases l.findIdx? (rQ i q' kk)<;>rfl
       exact e▸eQ.refl _
      ·cases h
     ·cases h
    ·cases h
   ·cases h
  ·cases h
 ·cases h
end Go.Proofs.YtjkbbdldmdajkaaGreatDoor.c_
