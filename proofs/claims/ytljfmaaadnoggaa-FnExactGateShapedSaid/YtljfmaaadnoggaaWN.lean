/- The evaluator of maps. No condition. -/
import Derived.Test.YtljfmaaadnoggaaWM
set_option linter.unusedSimpArgs false
set_option linter.unusedVariables false
namespace Go.Proofs.Ytljfmaaadnoggaa.Abs
open Go Go.RowKit
variable {w w' w'':World} {F F' F'' O O' O'':Nat→Prop} {μ μ' μ'':Nat→Nat} {K K' K'':Nat→Prop} {ft ft':Nat→Nat→Prop} {P:Program} {R:Type}
def mhas {α:Type} (p:α→Bool) (l:List α):Bool:=(l.findIdx? p).isSome
def mget {α β:Type} (p:α→Bool) (f:α→β) (d:β) (l:List α):β:=match l.find? p with
 | some y=>f y
 | none=>d
def mput {α:Type} (p:α→Bool) (l:List α) (x:α):List α:=match l.findIdx? p with
 | some j=>l.set j x
 | none=>l++[x]
def keq:(t:Ty)→t.dn→t.dn→Bool
 | .int _,a,b=>ieq a b
 | .str,a,b=>seq a b
 | _,_,_=>false
def keyT:TypeDesc→Ty→Bool
 | .int _,.int _=>true
 | .string,.str=>true
 | _,_=>false
theorem keyT_ok {d:TypeDesc} {q:Ty} (h:keyT d q=true) (k:q.dn):(∀ kt,P.underlying kt=some d→keyK P kt (dav ⟨q,k⟩)=true)∧Clo (dav ⟨q,k⟩)∧∀ k',eqA (dav ⟨q,k⟩) (dav ⟨q,k'⟩)=some (keq q k k'):=by
 cases q with
 | int kk=>exact ⟨fun kt ht=>by simp only [dav,keyK,ht];cases d<;>simp [keyT] at h;rfl,dav_clo rfl,fun k'=>by simp [dav,eqA,eq1,keq]⟩
 | str=>exact ⟨fun kt ht=>by simp only [dav,keyK,ht];cases d<;>simp [keyT] at h;rfl,dav_clo rfl,fun k'=>by simp [dav,eqA,eq1,keq]⟩
 | bool=>cases d<;>simp [keyT] at h
 | sl=>cases d<;>simp [keyT] at h
 | st=>cases d<;>simp [keyT] at h
def keyP (i:Nat) (q:Ty) (k:q.dn) (y:C i):Bool:=match get i y with
 | ⟨t,a⟩::_=>if h:t=q then keq q k (h▸a) else false
 | []=>false
def valP (i:Nat) (v:Ty) (y:C i):v.dn:=match get i y with
 | _::⟨t,a⟩::_=>if h:t=v then h▸a else v.df
 | _=>v.df
theorem pair_key {i:Nat} {q:Ty} {r:List Ty} (hl:lts i=q::r) (y:C i):∃ a rest,get i y=⟨q,a⟩::rest∧rest.map (·.t)=r:=by
 have h:=get_ts i y
 rw [hl] at h
 match hg:get i y,h with
 | ⟨t,a⟩::rest,h=>
  simp only [List.map_cons,List.cons.injEq] at h
  obtain ⟨h1,h2⟩:=h
  subst h1
  exact ⟨a,rest,rfl,h2⟩
theorem keyP_eq {i:Nat} {q:Ty} {a k:q.dn} {rest:List Dyn} {y:C i} (h:get i y=⟨q,a⟩::rest):keyP i q k y=keq q k a:=by
 unfold keyP
 rw [h]
 simp
theorem pairA_1 (l:List Dyn) (x:Dyn):(pairA (x::l)).1=dav x:=by cases l<;>rfl
theorem find_dmap {d:TypeDesc} {i:Nat} {q:Ty} {r:List Ty} (hl:lts i=q::r) (hd:keyT d q=true) (k:q.dn):∀ (l:List (C i)) (n:Nat),findAV (dav ⟨q,k⟩) (l.map fun x=>pairA (get i x)) n=some ((l.findIdx? (keyP i q k)).map (n+·))
 | [],n=>rfl
 | y::l,n=>by
  obtain ⟨a,rest,h1,h2⟩:=pair_key hl y
  simp only [List.map_cons,findAV,List.findIdx?_cons]
  rw [h1,pairA_1,(keyT_ok (P:=default) hd k).2.2 a,keyP_eq h1,find_dmap hl hd k l (n+1)]
  cases keq q k a with
  | true=>simp
  | false=>
   simp only [Bool.false_eq_true,if_false,Option.map_map]
   congr 2
   funext j
   simp only [Function.comp]
   omega
def keqD:Dyn→Dyn→Bool
 | ⟨.int _,a⟩,⟨.int _,b⟩=>ieq a b
 | ⟨.str,a⟩,⟨.str,b⟩=>seq a b
 | _,_=>false
def keqL:List Dyn→List Dyn→Bool
 | [x],[y]=>keqD x y
 | x::r,y::s=>keqD x y&&keqL r s
 | _,_=>true
def fldT (P:Program):List Field→Nat→List Ty→Bool
 | [],_,[]=>true
 | f::fs,i,t::r=>(f.name != "_"&&(Nat.beq f.offset i&&(Nat.beq (P.cellsOf f.type) 1&&(match P.underlying f.type with
  | some d=>keyT d t
  | none=>false))))&&fldT P fs (i+1) r
 | _,_,_=>false
theorem keyT_1 {d:TypeDesc} {x:Dyn} (h:keyT d x.t=true):key1 d (dav x)=true:=by
 obtain ⟨t,a⟩:=x
 cases t<;>cases d<;>simp [keyT] at h<;>rfl
theorem fldT_ok {P:Program}:∀ {fs:List Field} {i:Nat} {l:List Dyn},fldT P fs i (l.map (·.t))=true→fldOk P fs i (l.map dav)=true
 | [],_,[],_=>rfl
 | [],_,_::_,h=>by cases h
 | _::_,_,[],h=>by cases h
 | f::fs,i,x::l,h=>by
  simp only [List.map_cons,fldT,Bool.and_eq_true] at h
  obtain ⟨⟨h1,h2,h3,h4⟩,h5⟩:=h
  simp only [List.map_cons,fldOk,Bool.and_eq_true]
  refine ⟨⟨h1,h2,h3,?_⟩,fldT_ok h5⟩
  split at h4
  ·rename_i d hd
   rw [hd]
   exact keyT_1 h4
  ·cases h4
theorem fldT_eq {P:Program}:∀ {fs:List Field} {i:Nat} {l m:List Dyn},fldT P fs i (l.map (·.t))=true→m.map (·.t)=l.map (·.t)→eqL (l.map dav) (m.map dav)=some (keqL l m)
 | _,_,[],[],_,_=>rfl
 | _,_,[],_::_,_,h=>by cases h
 | _,_,_::_,[],_,h=>by cases h
 | [],_,_::_,_::_,h,_=>by cases h
 | f::fs,i,⟨t,a⟩::l,⟨u,b⟩::m,h,e=>by
  simp only [List.map_cons,List.cons.injEq] at e
  obtain ⟨rfl,e⟩:=e
  simp only [List.map_cons,fldT,Bool.and_eq_true] at h
  obtain ⟨⟨_,_,_,h4⟩,h5⟩:=h
  have ih:=fldT_eq (m:=m) h5 e
  split at h4
  ·rename_i d hd
   have k1:eq1 (dav ⟨u,a⟩) (dav ⟨u,b⟩)=some (keqD ⟨u,a⟩ ⟨u,b⟩):=by
    cases u<;>cases d<;>simp [keyT] at h4<;>simp [dav,eq1,keqD]
   simp only [List.map_cons,eqL,k1,ih]
   cases l with
   | nil=>
    cases m with
    | nil=>simp [keqL]
    | cons=>cases e
   | cons x l=>
    cases m with
    | nil=>cases e
    | cons y m=>simp [keqL]
  ·cases h4
def keyS (P:Program) (kt:TypeId) (j:Nat):Bool:=match P.underlying kt with
 | some (.struct fs)=>!P.stoodInHeld kt&&fldT P fs.toList 0 (lts j)
 | _=>false
theorem keyS_fs {P:Program} {kt:TypeId} {j:Nat} (h:keyS P kt j=true):∃ fs,P.underlying kt=some (.struct fs)∧P.stoodInHeld kt=false∧fldT P fs.toList 0 (lts j)=true:=by
 unfold keyS at h
 split at h
 ·rename_i fs hfs
  simp only [Bool.and_eq_true,Bool.not_eq_true'] at h
  exact ⟨fs,hfs,h.1,h.2⟩
 ·cases h
theorem dav_st (j:Nat) (x:C j):dav ⟨.st j,x⟩=.agg ((get j x).map dav):=by
 show AV.agg (cc j x)=_
 rw [get_cc]
theorem leaf_get {j:Nat} {x:C j} {y:Dyn} (hy:y∈get j x):y.t.leaf=true:=tget_leaf (.st j) x y hy
theorem clo_agg {l:List Dyn} (h:∀ y,y∈l→y.t.leaf=true):Clo (.agg (l.map dav)):=by
 intro w F μ K v hv
 obtain ⟨vs,rfl,hvs⟩:=hv.agg_inv
 refine .mkAgg ⟨hvs.1,fun i hi=>?_⟩
 have hi':i < l.length:=by simpa using hi
 have e:(l.map dav).getD i .top=dav l[i]:=by simp [List.getD,hi']
 have:=hvs.2 i hi
 rw [e] at this ⊢
 exact dav_clo (h _ (List.getElem_mem hi')) this
theorem keyS_ok {P:Program} {kt:TypeId} {j:Nat} (h:keyS P kt j=true) (k:C j):keyK P kt (dav ⟨.st j,k⟩)=true∧Clo (dav ⟨.st j,k⟩)∧∀ m:List Dyn,m.map (·.t)=lts j→eqA (dav ⟨.st j,k⟩) (.agg (m.map dav))=some (keqL (get j k) m):=by
 obtain ⟨fs,h1,h2,h3⟩:=keyS_fs h
 rw [dav_st]
 refine ⟨?_,clo_agg fun y hy=>leaf_get hy,fun m hm=>?_⟩
 ·simp only [keyK,h1,h2,Bool.not_false,Bool.true_and]
  exact fldT_ok (by rw [get_ts];exact h3)
 ·exact fldT_eq (by rw [get_ts];exact h3) (by rw [get_ts];exact hm)
def keyPS (i j n:Nat) (k:C j) (y:C i):Bool:=keqL (get j k) ((get i y).take n)
def valPS (i n:Nat) (v:Ty) (y:C i):v.dn:=match (get i y).drop n with
 | ⟨t,a⟩::_=>if h:t=v then h▸a else v.df
 | []=>v.df
theorem take_ts {i j n:Nat} (h:(lts i).take n=lts j) (y:C i):((get i y).take n).map (·.t)=lts j:=by
 rw [List.map_take,get_ts,h]
theorem find_smap {P:Program} {kt:TypeId} {i j n:Nat} (hl:(lts i).take (n+1)=lts j) (hd:keyS P kt j=true) (k:C j):∀ (l:List (C i)) (m:Nat),findAV (dav ⟨.st j,k⟩) (l.map fun x=>pairK (n+1) (get i x)) m=some ((l.findIdx? (keyPS i j (n+1) k)).map (m+·))
 | [],m=>rfl
 | y::l,m=>by
  simp only [List.map_cons,findAV,List.findIdx?_cons]
  have e:(pairK (n+1) (get i y)).1=.agg (((get i y).take (n+1)).map dav):=rfl
  rw [e,(keyS_ok hd k).2.2 _ (take_ts hl y),find_smap hl hd k l (m+1)]
  show (match some (keyPS i j (n+1) k y) with | some true=>_ | some false=>_ | none=>_)=_
  cases keyPS i j (n+1) k y with
  | true=>simp
  | false=>
   simp only [Bool.false_eq_true,if_false,Option.map_map]
   congr 2
   funext q
   simp only [Function.comp]
   omega
def lookT (ok:Bool) (v:TA) (b:Bool):TA:=match ok with
 | true=>.tup [v,.d ⟨.bool,b⟩]
 | false=>v
theorem lookT_av (ok:Bool) (v:TA) (b:Bool) (H:List (Nat×TBlk)):(lookT ok v b).av H=lookR ok (v.av H) b:=by
 cases ok<;>simp [lookT,lookR,TA.av,avL,dav]
theorem lookT_wf {ok:Bool} {v:TA} {b:Bool} {H:List (Nat×TBlk)} {N:Nat} (h:v.wf H N):(lookT ok v b).wf H N:=by
 cases ok with
 | false=>exact h
 | true=>simp only [lookT,TA.wf,wfL];exact ⟨h,trivial,trivial⟩
def zvT (P:Program) (t:TypeId):Option TA:=match P.info? t with
 | some i=>match i.zero with
  | some z=>match z with
   | .agg ⟨_::_⟩=>none
   | z=>some (cst z)
  | none=>none
 | none=>none
theorem zvT_ok {t:TypeId} {a:TA} (h:zvT P t=some a) (H:List (Nat×TBlk)) (N:Nat):zvA P t=some (a.av H)∧a.wf H N:=by
 unfold zvT at h
 unfold zvA
 split at h
 ·rename_i i hi
  split at h
  ·rename_i z hz
   split at h
   ·cases h
   ·rename_i hne
    cases h
    rw [hi]
    simp only [hz,cst_av]
    refine ⟨?_,cst_wf H N z⟩
    congr 1
    unfold zv
    split
    ·rename_i cs
     cases cs with
     | nil=>rfl
     | cons a r=>exact absurd rfl (hne a r)
    ·rfl
  ·cases h
 ·cases h
def evMakeMap (E:Env) (s:TSt) (t:TypeId) (κ:TRes→Option R):Option R:=match (E.mp.find? fun p=>Nat.beq p.1 t) with
 | some p=>κ ⟨.mp s.N,[(s.N,some (.dmap p.2 []))],1⟩
 | none=>match E.P.underlying t with
  | some (.map kt _)=>match tyOf E.tc kt with
   | some q=>κ ⟨.mp s.N,[(s.N,some (.fmap q []))],1⟩
   | none=>none
  | _=>none
theorem evMakeMap_ok {E:Env} {o:Oper} {s:TSt} {κ:TRes→Option R} {z:R} {t:TypeId} (ho:o.op=.makeMap t none) (hs:s.ok) (h:evMakeMap E s t κ=some z):EvR E.P o s κ z:=by
 unfold evMakeMap at h
 split at h
 ·exact evr_put hs h (op_makeMap (N:=s.N) ho) sub_new (by simp only [TA.av];exact (@Imp.refl _)) (by simp only [TA.wf]) (by simp only [TBlk.blk,List.map_nil];exact BImp.refl _) (fun l' e=>by cases e)
 ·split at h
  ·split at h
   ·exact evr_put hs h (op_makeMap (N:=s.N) ho) sub_new (by simp only [TA.av];exact (@Imp.refl _)) (by simp only [TA.wf]) (by simp only [TBlk.blk,List.map_nil];exact BImp.refl _) (fun l' e=>by cases e)
   ·cases h
  ·cases h
def lookF {t:Ty} (k:t.dn) (κ:Option FuncId→Option R):List (t.dn×FuncId)→Option R
 | []=>κ none
 | p::r=>cond (keq t k p.1) (κ (some p.2)) (lookF k κ r)
theorem lookF_ok {d:TypeDesc} {q:Ty} {k:q.dn} (hd:keyT d q=true) {κ:Option FuncId→Option R} {z:R}:∀ {l:List (q.dn×FuncId)} {n:Nat},lookF k κ l=some z→
  (findAV (dav ⟨q,k⟩) (l.map fun x=>(dav ⟨q,x.1⟩,AV.fn (.func x.2) [] [])) n=some none∧κ none=some z)∨
  ∃ j,n≤j∧findAV (dav ⟨q,k⟩) (l.map fun x=>(dav ⟨q,x.1⟩,AV.fn (.func x.2) [] [])) n=some (some j)∧∃ p,l[j-n]?=some p∧κ (some p.2)=some z
 | [],n,h=>.inl ⟨rfl,h⟩
 | p::r,n,h=>by
  simp only [lookF] at h
  simp only [List.map_cons,findAV,(keyT_ok (P:=default) hd k).2.2]
  cases e:keq q k p.1 with
  | true=>
   rw [e] at h
   exact .inr ⟨n,Nat.le_refl _,rfl,p,by simp,h⟩
  | false=>
   rw [e] at h
   rcases lookF_ok hd (n:=n+1) h with ⟨h1,h2⟩ | ⟨j,h0,h1,p',h2,h3⟩
   ·exact .inl ⟨h1,h2⟩
   ·exact .inr ⟨j,by omega,h1,p',by rw [show j-n=(j-(n+1))+1 by omega];simpa using h2,h3⟩
def keyG (E:Env) (kt:TypeId) (cs:List TA):Option ((j:Nat)×C j):=match tyOf E.tc kt with
 | some (.st j)=>match leafDs (lts j) cs with
  | some ds=>match bld (.st j) ds with
   | some kk=>some ⟨j,kk⟩
   | none=>none
  | none=>none
 | _=>none
theorem keyG_ok {E:Env} {kt:TypeId} {cs:List TA} {j:Nat} {kk:C j} (h:keyG E kt cs=some ⟨j,kk⟩) (H:List (Nat×TBlk)):Imp ((TA.agg cs).av H) (dav ⟨.st j,kk⟩):=by
 unfold keyG at h
 split at h
 ·rename_i j' _
  split at h
  ·rename_i ds hds
   split at h
   ·rename_i kk' hb
    cases h
    obtain ⟨d1,d2,d3,d4⟩:=leafDs_some hds
    intro w F μ K v hv
    simp only [TA.av] at hv
    obtain ⟨vs,rfl,hvs⟩:=hv.agg_inv
    have e:get j kk=ds:=bld_some hb
    rw [dav_st,e]
    refine .mkAgg ⟨by have:=hvs.1;rw [avL_length] at this;simp [d1,this],fun k hk=>?_⟩
    have hk':k < cs.length:=by simpa [d1] using hk
    have:=hvs.2 k (by rw [avL_length];exact hk')
    rw [avL_getD _ _ _ hk'] at this
    exact d4 H k hk' this
   ·cases h
  ·cases h
 ·cases h
def evLookS (E:Env) (s:TSt) (id:Nat) (kt:TypeId) (zt:TA) (j:Nat) (kk:C j) (ok:Bool) (κ:TRes→Option R):Option R:=match keyS E.P kt j with
 | false=>none
 | true=>match lookH s.H id with
  | some (.dmap i l)=>match kar i with
   | 0=>none
   | n+1=>match decEq ((lts i).take (n+1)) (lts j) with
    | .isFalse _=>none
    | .isTrue _=>match (lts i).drop (n+1) with
     | []=>match zt with
      | .agg []=>κ ⟨lookT ok (.agg []) (mhas (keyPS i j (n+1) kk) l),[],0⟩
      | _=>none
     | [v]=>match leafD v zt with
      | some ⟨v',z⟩=>match decEq v' v with
       | .isTrue e=>κ ⟨lookT ok (.d ⟨v,mget (keyPS i j (n+1) kk) (valPS i (n+1) v) (e▸z) l⟩) (mhas (keyPS i j (n+1) kk) l),[],0⟩
       | .isFalse _=>none
      | none=>none
     | _=>none
  | _=>none
def evLookup (E:Env) (s:TSt) (t:TypeId) (x k:TA) (ok:Bool) (κ:TRes→Option R):Option R:=match x,k,E.P.underlying t with
 | .mp id,.d ⟨q,kk⟩,some (.map kt et)=>match E.P.underlying kt,zvT E.P et with
  | some d,some zt=>match keyT d q with
   | true=>match lookH s.H id with
    | some (.dmap i l)=>match kar i with
     | _+1=>none
     | 0=>match lts i with
     | [q']=>match decEq q' q with
      | .isTrue _=>match zt with
       | .agg []=>κ ⟨lookT ok (.agg []) (mhas (keyP i q kk) l),[],0⟩
       | _=>none
      | .isFalse _=>none
     | [q',v]=>match decEq q' q with
      | .isTrue _=>match leafD v zt with
       | some ⟨v',z⟩=>match decEq v' v with
        | .isTrue e=>κ ⟨lookT ok (.d ⟨v,mget (keyP i q kk) (valP i v) (e▸z) l⟩) (mhas (keyP i q kk) l),[],0⟩
        | .isFalse _=>none
       | none=>none
      | .isFalse _=>none
     | _=>none
    | some (.fmap q' l)=>match decEq q' q with
     | .isTrue e=>lookF kk (fun r=>match r with
      | some f=>κ ⟨lookT ok (.fn (.func f) [] []) true,[],0⟩
      | none=>κ ⟨lookT ok zt false,[],0⟩) (e▸l:List (q.dn×FuncId))
     | .isFalse _=>none
    | _=>none
   | false=>match (⟨q,kk⟩:Dyn) with
    | ⟨.st j,k'⟩=>evLookS E s id kt zt j k' ok κ
    | _=>none
  | _,_=>none
 | .mp id,.agg cs,some (.map kt et)=>match zvT E.P et,keyG E kt cs with
  | some zt,some ⟨j,k'⟩=>evLookS E s id kt zt j k' ok κ
  | _,_=>none
 | _,_,_=>none
theorem lookR_imp {ok:Bool} {a b:AV} {c:Bool} (h:Imp a b):Imp (lookR ok a c) (lookR ok b c):=by
 cases ok with
 | false=>exact h
 | true=>
  intro w F μ K v hv
  obtain ⟨vs,rfl,hvs⟩:=hv.tup_inv
  obtain ⟨v1,r,rfl,h1,h2⟩:=hvs.cons_inv
  exact .mkTup (.cons (h h1) h2)
theorem find_idx {α:Type} {p:α→Bool}:∀ {l:List α},(l.findIdx? p=none∧l.find? p=none)∨∃ j y,l.findIdx? p=some j∧l[j]?=some y∧l.find? p=some y∧p y=true
 | []=>.inl ⟨rfl,rfl⟩
 | x::l=>by
  simp only [List.findIdx?_cons,List.find?_cons]
  cases e:p x with
  | true=>exact .inr ⟨0,x,by simp,by simp,rfl,e⟩
  | false=>
   rcases find_idx (p:=p) (l:=l) with ⟨h1,h2⟩ | ⟨j,y,h1,h2,h3,h4⟩
   ·exact .inl ⟨by simp [h1],h2⟩
   ·exact .inr ⟨j+1,y,by simp [h1],by simpa using h2,h3,h4⟩
theorem evLookS_ok {E:Env} {o:Oper} {s:TSt} {κ:TRes→Option R} {z:R} {t kt et:TypeId} {x k:Operand} {ok:Bool} {id j:Nat} {kk:C j} {zt:TA} (ho:o.op=.lookup t x k ok) (hx:s.val x=.mp id) (h2:Opd s.st k (dav ⟨.st j,kk⟩))
  (ht:E.P.underlying t=some (.map kt et)) (hz1:zvA E.P et=some (zt.av s.H)) (h:evLookS E s id kt zt j kk ok κ=some z):EvR E.P o s κ z:=by
 unfold evLookS at h
 split at h
 ·cases h
 ·rename_i hks
  obtain ⟨fs,hkt,_,_⟩:=keyS_fs hks
  have hkd:=keyS_ok hks kk
  have h1:Opd s.st x (.mp id):=opd_at hx
  split at h
  ·rename_i i l hl
   split at h
   ·cases h
   ·rename_i n hn
    have hH:s.st.H id=some (.map (l.map fun x=>pairK (n+1) (get i x))):=by
     have h9:s.st.H id=some (.map (l.map fun x=>pairK (kar i) (get i x))):=st_at hl
     rw [hn] at h9
     exact h9
    split at h
    ·cases h
    ·rename_i hts _
     have hf:=find_smap hts hks kk l 0
     have hop:=op_lookup ho h1 hH h2 ht hkt hkd.1 hf hz1
     split at h
     ·rename_i hdr
      split at h
      ·refine evr_val h hop ?_ (lookT_wf (by simp only [TA.wf,wfL]))
       rw [lookT_av]
       simp only [TA.av,avL,mhas]
       show Imp (lookV ok (.agg []) _ ((l.findIdx? (keyPS i j (n+1) kk)).map (0+·))) _
       rcases find_idx (p:=keyPS i j (n+1) kk) (l:=l) with ⟨k1,k2⟩ | ⟨q,y,k1,k2,k3,k4⟩
       ·rw [k1];exact (@Imp.refl _)
       ·rw [k1]
        have hd0:(get i y).drop (n+1)=[]:=by
         have:=congrArg (List.drop (n+1)) (get_ts i y)
         rw [hdr,← List.map_drop] at this
         exact List.map_eq_nil_iff.1 this
        have m4:((l.map fun x=>pairK (n+1) (get i x)).getD (0+q) (.top,.top)).2=.agg []:=by
         simp [List.getD,k2,pairK,hd0]
        simp only [Option.map_some,Option.isSome_some,lookV,m4]
        exact (@Imp.refl _)
      ·cases h
     ·rename_i v hdr
      split at h
      ·rename_i v' z' hlf
       split at h
       ·rename_i e _
        subst e
        refine evr_val h hop ?_ (lookT_wf (by simp only [TA.wf]))
        rw [lookT_av]
        simp only [TA.av,mhas,mget]
        show Imp (lookV ok (zt.av s.H) _ ((l.findIdx? (keyPS i j (n+1) kk)).map (0+·))) _
        rcases find_idx (p:=keyPS i j (n+1) kk) (l:=l) with ⟨k1,k2⟩ | ⟨q,y,k1,k2,k3,k4⟩
        ·rw [k1,k2]
         exact lookR_imp ((leafD_some hlf).2.2 s.H)
        ·rw [k1,k3]
         have hd0:((get i y).drop (n+1)).map (·.t)=[v']:=by
          rw [List.map_drop,get_ts,hdr]
         obtain ⟨b,hb⟩:∃ b:v'.dn,(get i y).drop (n+1)=[⟨v',b⟩]:=by
          match hg:(get i y).drop (n+1),hd0 with
          | [⟨t',b⟩],h0=>
           simp only [List.map_cons,List.map_nil,List.cons.injEq,and_true] at h0
           subst h0
           exact ⟨b,rfl⟩
         have m4:((l.map fun x=>pairK (n+1) (get i x)).getD (0+q) (.top,.top)).2=dav ⟨v',b⟩:=by
          simp [List.getD,k2,pairK,hb]
         have m5:valPS i (n+1) v' y=b:=by
          unfold valPS
          rw [hb]
          simp
         simp only [Option.map_some,Option.isSome_some,lookV,m4,m5]
         exact (@Imp.refl _)
       ·cases h
      ·cases h
     ·cases h
  ·cases h
theorem evLookup_ok {E:Env} {o:Oper} {s:TSt} {κ:TRes→Option R} {z:R} {t:TypeId} {x k:Operand} {ok:Bool} (ho:o.op=.lookup t x k ok) (hs:s.ok) (h:evLookup E s t (s.val x) (s.val k) ok κ=some z):EvR E.P o s κ z:=by
 unfold evLookup at h
 split at h
 ·rename_i id q kk kt et hx hk ht
  split at h
  ·rename_i d zt hkt hz
   split at h
   ·rename_i hd
    obtain ⟨hz1,hz2⟩:=zvT_ok hz s.H s.N
    have h1:Opd s.st x (.mp id):=opd_at hx
    have h2:Opd s.st k (dav ⟨q,kk⟩):=opd_at hk
    have hkd:=keyT_ok (P:=E.P) hd kk
    split at h
    ·rename_i i l hl
     split at h
     ·cases h
     rename_i hk0
     have hH:s.st.H id=some (.map (l.map fun x=>pairA (get i x))):=by
      have h9:s.st.H id=some (.map (l.map fun x=>pairK (kar i) (get i x))):=st_at hl
      rw [hk0] at h9
      exact h9
     split at h
     ·rename_i q' hts
      split at h
      ·rename_i e _
       subst e
       split at h
       ·have hf:=find_dmap hts hd kk l 0
        have hop:=op_lookup ho h1 hH h2 ht hkt (hkd.1 _ hkt) hf hz1
        refine evr_val h hop ?_ (lookT_wf (by simp only [TA.wf,wfL]))
        rw [lookT_av]
        simp only [TA.av,avL,mhas]
        show Imp (lookV ok (.agg []) _ ((l.findIdx? (keyP i q' kk)).map (0+·))) _
        rcases find_idx (p:=keyP i q' kk) (l:=l) with ⟨k1,k2⟩ | ⟨j,y,k1,k2,k3,k4⟩
        ·rw [k1];exact (@Imp.refl _)
        ·rw [k1]
         obtain ⟨a,rest,m1,m2⟩:=pair_key hts y
         have m3:rest=[]:=by simpa using m2
         have m4:((l.map fun x=>pairA (get i x)).getD (0+j) (.top,.top)).2=.agg []:=by
          simp [List.getD,k2,m1,m3,pairA]
         simp only [Option.map_some,Option.isSome_some,lookV,m4]
         exact (@Imp.refl _)
       ·cases h
      ·cases h
     ·rename_i q' v hts
      split at h
      ·rename_i e _
       subst e
       split at h
       ·rename_i v' z' hlf
        split at h
        ·rename_i e _
         subst e
         have hf:=find_dmap hts hd kk l 0
         have hop:=op_lookup ho h1 hH h2 ht hkt (hkd.1 _ hkt) hf hz1
         refine evr_val h hop ?_ (lookT_wf (by simp only [TA.wf]))
         rw [lookT_av]
         simp only [TA.av,mhas,mget]
         show Imp (lookV ok (zt.av s.H) _ ((l.findIdx? (keyP i q' kk)).map (0+·))) _
         rcases find_idx (p:=keyP i q' kk) (l:=l) with ⟨k1,k2⟩ | ⟨j,y,k1,k2,k3,k4⟩
         ·rw [k1,k2]
          exact lookR_imp ((leafD_some hlf).2.2 s.H)
         ·rw [k1,k3]
          obtain ⟨a,rest,m1,m2⟩:=pair_key hts y
          match rest,m2 with
          | [⟨t',b⟩],m2=>
           simp only [List.map_cons,List.map_nil,List.cons.injEq,and_true] at m2
           subst m2
           have m4:((l.map fun x=>pairA (get i x)).getD (0+j) (.top,.top)).2=dav ⟨t',b⟩:=by
            simp [List.getD,k2,m1,pairA]
           have m5:valP i t' y=b:=by
            unfold valP
            rw [m1]
            simp
           simp only [Option.map_some,Option.isSome_some,lookV,m4,m5]
           exact (@Imp.refl _)
        ·cases h
       ·cases h
      ·cases h
     ·cases h
    ·rename_i q' l hl
     split at h
     ·rename_i e _
      subst e
      have hH:s.st.H id=some (.map (l.map fun x=>(dav ⟨q',x.1⟩,AV.fn (.func x.2) [] []))):=st_at hl
      rcases lookF_ok hd (n:=0) h with ⟨k1,k2⟩ | ⟨j,_,k1,p,k2,k3⟩
      ·have hop:=op_lookup ho h1 hH h2 ht hkt (hkd.1 _ hkt) k1 hz1
       exact evr_val k2 hop (by rw [lookT_av];exact (@Imp.refl _)) (lookT_wf hz2)
      ·have hop:=op_lookup ho h1 hH h2 ht hkt (hkd.1 _ hkt) k1 hz1
       refine evr_val k3 hop ?_ (lookT_wf (by simp only [TA.wf,wfL];exact ⟨trivial,trivial⟩))
       rw [lookT_av]
       rw [Nat.sub_zero] at k2
       have m4:((l.map fun x=>(dav ⟨q',x.1⟩,AV.fn (.func x.2) [] [])).getD j (.top,.top)).2=.fn (.func p.2) [] []:=by
        simp [List.getD,k2]
       simp only [lookV,m4,TA.av,avL]
       exact (@Imp.refl _)
     ·cases h
    ·cases h
   ·split at h
    ·rename_i j k' hq
     obtain ⟨rfl,hq2⟩:=Dyn.mk.inj hq
     have hq3:=eq_of_heq hq2
     subst hq3
     exact evLookS_ok ho hx (opd_at hk) ht (zvT_ok hz s.H s.N).1 h
    ·cases h
  ·cases h
 ·rename_i id cs kt et hx hk ht
  split at h
  ·rename_i zt j k' hz hkg
   exact evLookS_ok ho hx (fun {w F O μ K ft act} hs=>keyG_ok hkg s.H (hk▸opd_val s k hs)) ht (zvT_ok hz s.H s.N).1 h
  ·cases h
 ·cases h
def updF {t:Ty} (k:t.dn) (f:FuncId) (κ:List (t.dn×FuncId)→Option R):List (t.dn×FuncId)→Option R
 | []=>κ [(k,f)]
 | p::r=>cond (keq t k p.1) (κ ((k,f)::r)) (updF k f (fun l=>κ (p::l)) r)
theorem updF_ok {d:TypeDesc} {q:Ty} {k:q.dn} {f:FuncId} (hd:keyT d q=true) {z:R}:∀ {l:List (q.dn×FuncId)} {n:Nat} {κ:List (q.dn×FuncId)→Option R},updF k f κ l=some z→
  ∃ r l',findAV (dav ⟨q,k⟩) (l.map fun x=>(dav ⟨q,x.1⟩,AV.fn (.func x.2) [] [])) n=some (r.map (n+·))∧κ l'=some z∧
   (l'.map fun x=>(dav ⟨q,x.1⟩,AV.fn (.func x.2) [] []))=putA (l.map fun x=>(dav ⟨q,x.1⟩,AV.fn (.func x.2) [] [])) (dav ⟨q,k⟩) (.fn (.func f) [] []) r
 | [],n,κ,h=>⟨none,_,rfl,h,rfl⟩
 | p::r,n,κ,h=>by
  simp only [updF] at h
  simp only [List.map_cons,findAV,(keyT_ok (P:=default) hd k).2.2]
  cases e:keq q k p.1 with
  | true=>
   rw [e] at h
   exact ⟨some 0,_,rfl,h,by simp [putA]⟩
  | false=>
   rw [e] at h
   obtain ⟨r',l',h1,h2,h3⟩:=updF_ok hd (n:=n+1) h
   refine ⟨r'.map (·+1),p::l',?_,h2,?_⟩
   ·simp only [h1,Option.map_map]
    congr 2
    funext j
    simp only [Function.comp]
    omega
   ·simp only [List.map_cons,h3]
    cases r'<;>simp [putA]
def evUpdS (E:Env) (s:TSt) (id:Nat) (kt:TypeId) (j:Nat) (kk:C j) (x:TA) (κ:TRes→Option R):Option R:=match keyS E.P kt j with
 | false=>none
 | true=>match lookH s.H id with
  | some (.dmap i l)=>match kar i with
   | 0=>none
   | n+1=>match decEq ((lts i).take (n+1)) (lts j) with
    | .isFalse _=>none
    | .isTrue _=>match (lts i).drop (n+1) with
     | []=>match x with
      | .agg []=>match bld (.st i) (get j kk) with
       | some y=>κ ⟨.lit undef,[(id,some (.dmap i (mput (keyPS i j (n+1) kk) l y)))],0⟩
       | none=>none
      | _=>none
     | [v]=>match leafD v x with
      | some y0=>match bld (.st i) (get j kk++[y0]) with
       | some y=>κ ⟨.lit undef,[(id,some (.dmap i (mput (keyPS i j (n+1) kk) l y)))],0⟩
       | none=>none
      | none=>none
     | _=>none
  | _=>none
def evMapUpd (E:Env) (s:TSt) (t:TypeId) (m k x:TA) (κ:TRes→Option R):Option R:=match m,k,E.P.underlying t with
 | .mp id,.d ⟨q,kk⟩,some (.map kt _)=>match E.P.underlying kt with
  | some d=>match keyT d q with
   | true=>match lookH s.H id with
    | some (.dmap i l)=>match kar i with
     | _+1=>none
     | 0=>match lts i with
     | [q']=>match decEq q' q,x with
      | .isTrue _,.agg []=>match bld (.st i) [⟨q,kk⟩] with
       | some y=>κ ⟨.lit undef,[(id,some (.dmap i (mput (keyP i q kk) l y)))],0⟩
       | none=>none
      | _,_=>none
     | [q',v]=>match decEq q' q,leafD v x with
      | .isTrue _,some y0=>match bld (.st i) [⟨q,kk⟩,y0] with
       | some y=>κ ⟨.lit undef,[(id,some (.dmap i (mput (keyP i q kk) l y)))],0⟩
       | none=>none
      | _,_=>none
     | _=>none
    | some (.fmap q' l)=>match decEq q' q,x with
     | .isTrue e,.fn (.func f) [] []=>updF kk f (fun l'=>κ ⟨.lit undef,[(id,some (.fmap q l'))],0⟩) (e▸l:List (q.dn×FuncId))
     | _,_=>none
    | _=>none
   | false=>match (⟨q,kk⟩:Dyn) with
    | ⟨.st j,k'⟩=>evUpdS E s id kt j k' x κ
    | _=>none
  | none=>none
 | .mp id,.agg cs,some (.map kt _)=>match keyG E kt cs with
  | some ⟨j,k'⟩=>evUpdS E s id kt j k' x κ
  | none=>none
 | _,_,_=>none
theorem sub_map {H:List (Nat×TBlk)} {N id0:Nat} {b b0:TBlk} (hb:lookH H id0=some b0) (h1:shp (some b)=none) (h0:shp (some b0)=none):Sub H (updH H [(id0,some b)]) N:=sub_put (L:=[]) fun _=>by rw [hb,h1,h0]
theorem mput_map {i:Nat} {q:Ty} {kk:q.dn} {l:List (C i)} {y:C i} {ka va:AV} (hy:pairA (get i y)=(ka,va)):
  (mput (keyP i q kk) l y).map (fun x=>pairA (get i x))=putA (l.map fun x=>pairA (get i x)) ka va (l.findIdx? (keyP i q kk)):=by
 unfold mput
 cases l.findIdx? (keyP i q kk) with
 | none=>simp [putA,hy]
 | some j=>simp [putA,List.map_set,hy]
theorem mput_mapS {i j n:Nat} {kk:C j} {l:List (C i)} {y:C i} {ka va:AV} (hy:pairK (n+1) (get i y)=(ka,va)):
  (mput (keyPS i j (n+1) kk) l y).map (fun x=>pairK (n+1) (get i x))=putA (l.map fun x=>pairK (n+1) (get i x)) ka va (l.findIdx? (keyPS i j (n+1) kk)):=by
 unfold mput
 cases l.findIdx? (keyPS i j (n+1) kk) with
 | none=>simp [putA,hy]
 | some j=>simp [putA,List.map_set,hy]
theorem evUpdS_ok {E:Env} {o:Oper} {s:TSt} {κ:TRes→Option R} {z:R} {t kt et:TypeId} {m k x:Operand} {id j:Nat} {kk:C j} (ho:o.op=.mapUpdate t m k x∨o.op=.insert t m k x) (hs:s.ok) (hm:s.val m=.mp id) (h2:Opd s.st k (dav ⟨.st j,kk⟩))
  (ht:E.P.underlying t=some (.map kt et)) (h:evUpdS E s id kt j kk (s.val x) κ=some z):EvR E.P o s κ z:=by
 unfold evUpdS at h
 split at h
 ·cases h
 ·rename_i hks
  obtain ⟨fs,hkt,_,_⟩:=keyS_fs hks
  have hkd:=keyS_ok hks kk
  have h1:Opd s.st m (.mp id):=opd_at hm
  split at h
  ·rename_i i l hl
   split at h
   ·cases h
   ·rename_i n hn
    have hH:s.st.H id=some (.map (l.map fun x=>pairK (n+1) (get i x))):=by
     have h9:s.st.H id=some (.map (l.map fun x=>pairK (kar i) (get i x))):=st_at hl
     rw [hn] at h9
     exact h9
    split at h
    ·cases h
    ·rename_i hts _
     have hf:=find_smap hts hks kk l 0
     have hlen:(get j kk).length=(lts j).length:=by
      have:=congrArg List.length (get_ts j kk)
      simpa using this
     split at h
     ·rename_i hdr
      split at h
      ·rename_i hx
       split at h
       ·rename_i y hy
        have h3:=@opd_at s x _ hx
        simp only [TA.av,avL] at h3
        have hop:=op_mapUpdate (r:=(l.findIdx? (keyPS i j (n+1) kk))) ho h1 hH h2 h3 (fun {w F μ K v} hv=>by obtain ⟨vs,rfl,hvs⟩:=hv.agg_inv;rw [hvs.nil_inv];exact .mkAgg .nil) hkd.2.1 ht hkt hkd.1
         (by rw [hf];cases l.findIdx? (keyPS i j (n+1) kk)<;>simp)
        have hg:get i y=get j kk:=bld_some hy
        have hle:(get j kk).length≤n+1:=by
         rw [hlen,← hts];simp;omega
        have hp:pairK (n+1) (get i y)=(dav ⟨.st j,kk⟩,.agg []):=by
         rw [dav_st,hg]
         simp only [pairK,List.take_of_length_le hle,List.drop_eq_nil_of_le hle]
        refine evr_put (k:=0) hs h hop (sub_map hl rfl rfl) (by simp only [TA.av];exact (@Imp.refl _)) (by simp only [TA.wf]) ?_ (fun l' e=>by cases e)
        simp only [TBlk.blk,hn]
        exact (mput_mapS (kk:=kk) (l:=l) hp)▸BImp.refl _
       ·cases h
      ·cases h
     ·rename_i v hdr
      split at h
      ·rename_i y0 hlf
       split at h
       ·rename_i y hy
        obtain ⟨l1,l2,l3⟩:=leafD_some hlf
        have h3:Opd s.st x (dav y0):=fun {w F O μ K ft act} hsr=>l3 s.H (opd_val s x hsr)
        have hop:=op_mapUpdate (r:=(l.findIdx? (keyPS i j (n+1) kk))) ho h1 hH h2 h3 (dav_clo l2) hkd.2.1 ht hkt hkd.1
         (by rw [hf];cases l.findIdx? (keyPS i j (n+1) kk)<;>simp)
        have hg:get i y=get j kk++[y0]:=bld_some hy
        have hle:(get j kk).length=n+1:=by
         have e1:=congrArg List.length hdr
         simp only [List.length_drop,List.length_singleton] at e1
         rw [hlen,← hts,List.length_take];omega
        have hp:pairK (n+1) (get i y)=(dav ⟨.st j,kk⟩,dav y0):=by
         rw [dav_st,hg]
         simp only [pairK,← hle,List.take_left,List.drop_left]
        refine evr_put (k:=0) hs h hop (sub_map hl rfl rfl) (by simp only [TA.av];exact (@Imp.refl _)) (by simp only [TA.wf]) ?_ (fun l' e=>by cases e)
        simp only [TBlk.blk,hn]
        exact (mput_mapS (kk:=kk) (l:=l) hp)▸BImp.refl _
       ·cases h
      ·cases h
     ·cases h
  ·cases h
theorem evMapUpd_ok {E:Env} {o:Oper} {s:TSt} {κ:TRes→Option R} {z:R} {t:TypeId} {m k x:Operand} (ho:o.op=.mapUpdate t m k x∨o.op=.insert t m k x) (hs:s.ok) (h:evMapUpd E s t (s.val m) (s.val k) (s.val x) κ=some z):EvR E.P o s κ z:=by
 unfold evMapUpd at h
 split at h
 ·rename_i id q kk kt et hm hk ht
  split at h
  ·rename_i d hkt
   split at h
   ·rename_i hd
    have h1:Opd s.st m (.mp id):=opd_at hm
    have h2:Opd s.st k (dav ⟨q,kk⟩):=opd_at hk
    have hkd:=keyT_ok (P:=E.P) hd kk
    split at h
    ·rename_i i l hl
     split at h
     ·cases h
     rename_i hk0
     have hH:s.st.H id=some (.map (l.map fun x=>pairA (get i x))):=by
      have h9:s.st.H id=some (.map (l.map fun x=>pairK (kar i) (get i x))):=st_at hl
      rw [hk0] at h9
      exact h9
     split at h
     ·rename_i q' hts
      split at h
      ·rename_i e _ hx
       subst e
       split at h
       ·rename_i y hy
        have h3:=@opd_at s x _ hx
        simp only [TA.av,avL] at h3
        have hf:=find_dmap hts hd kk l 0
        have hop:=op_mapUpdate (r:=(l.findIdx? (keyP i q' kk))) ho h1 hH h2 h3 (fun {w F μ K v} hv=>by obtain ⟨vs,rfl,hvs⟩:=hv.agg_inv;rw [hvs.nil_inv];exact .mkAgg .nil) hkd.2.1 ht hkt (hkd.1 _ hkt)
         (by rw [hf];cases l.findIdx? (keyP i q' kk)<;>simp)
        have hp:pairA (get i y)=(dav ⟨q',kk⟩,.agg []):=by
         have:get i y=[⟨q',kk⟩]:=bld_some hy
         rw [this];rfl
        refine evr_put (k:=0) hs h hop (sub_map hl rfl rfl) (by simp only [TA.av];exact (@Imp.refl _)) (by simp only [TA.wf]) ?_ (fun l' e=>by cases e)
        simp only [TBlk.blk,hk0]
        exact (mput_map (kk:=kk) (l:=l) hp)▸BImp.refl _
       ·cases h
      ·cases h
     ·rename_i q' v hts
      split at h
      ·rename_i e y0 _ hlf
       subst e
       split at h
       ·rename_i y hy
        obtain ⟨l1,l2,l3⟩:=leafD_some hlf
        have hf:=find_dmap hts hd kk l 0
        have h3:Opd s.st x (dav y0):=fun {w F O μ K ft act} hsr=>l3 s.H (opd_val s x hsr)
        have hop:=op_mapUpdate (r:=(l.findIdx? (keyP i q' kk))) ho h1 hH h2 h3 (dav_clo l2) hkd.2.1 ht hkt (hkd.1 _ hkt)
         (by rw [hf];cases l.findIdx? (keyP i q' kk)<;>simp)
        have hp:pairA (get i y)=(dav ⟨q',kk⟩,dav y0):=by
         have:get i y=[⟨q',kk⟩,y0]:=bld_some hy
         rw [this];rfl
        refine evr_put (k:=0) hs h hop (sub_map hl rfl rfl) (by simp only [TA.av];exact (@Imp.refl _)) (by simp only [TA.wf]) ?_ (fun l' e=>by cases e)
        simp only [TBlk.blk,hk0]
        exact (mput_map (kk:=kk) (l:=l) hp)▸BImp.refl _
       ·cases h
      ·cases h
     ·cases h
    ·rename_i q' l hl
     split at h
     ·rename_i e f _ hx
      subst e
      have hH:s.st.H id=some (.map (l.map fun x=>(dav ⟨q',x.1⟩,AV.fn (.func x.2) [] []))):=st_at hl
      have h3:=@opd_at s x _ hx
      simp only [TA.av,avL] at h3
      obtain ⟨r,l',k1,k2,k3⟩:=updF_ok hd (n:=0) h
      have hop:=op_mapUpdate (r:=r) ho h1 hH h2 h3 (fun {w F μ K v} hv=>by
       obtain ⟨vs,us,rfl,a1,a2⟩:=hv.fn_inv
       rw [a1.nil_inv,a2.nil_inv];exact .mkFn .nil .nil) hkd.2.1 ht hkt (hkd.1 _ hkt) (by rw [k1];cases r<;>simp)
      refine evr_put (k:=0) hs k2 hop (sub_map hl rfl rfl) (by simp only [TA.av];exact (@Imp.refl _)) (by simp only [TA.wf]) ?_ (fun l' e=>by cases e)
      simp only [TBlk.blk,k3]
      exact BImp.refl _
     ·cases h
    ·cases h
   ·split at h
    ·rename_i j k' hq
     obtain ⟨rfl,hq2⟩:=Dyn.mk.inj hq
     have hq3:=eq_of_heq hq2
     subst hq3
     exact evUpdS_ok ho hs hm (opd_at hk) ht h
    ·cases h
  ·cases h
 ·rename_i id cs kt et hm hk ht
  split at h
  ·rename_i j k' hkg
   exact evUpdS_ok ho hs hm (fun {w F O μ K ft act} hs=>keyG_ok hkg s.H (hk▸opd_val s k hs)) ht h
  ·cases h
 ·cases h
end Go.Proofs.Ytljfmaaadnoggaa.Abs
