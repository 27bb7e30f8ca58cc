/- The evaluator of maps. No condition. -/
import Derived.Test.YtjkbbdldmdajkaaGreatDoorWM
set_option linter.unusedSimpArgs false
set_option linter.unusedVariables false
namespace Go.Proofs.YtjkbbdldmdajkaaGreatDoor.c5
open Go Go.RowKit
variable {w w' ss:World} {F F' zT O O' uo:Nat→Prop} {μ aZ jE:Nat→Nat} {K K' C9:Nat→Prop} {ft bX:Nat→Nat→Prop} {P:Program} {R:Type}
def JC {α:Type} (p:α→Bool) (l:List α):Bool:=(l.findIdx? p).isSome
def m7 {α β:Type} (p:α→Bool) (f:α→β) (d:β) (l:List α):β:=match l.find? p with
 | some y=>f y
 | none=>d
def acw {α:Type} (p:α→Bool) (l:List α):List α:=match l.findIdx? p with
 | some j=>l.eraseIdx j
 | none=>l
def oM {α:Type} (p:α→Bool) (l:List α) (x:α):List α:=match l.findIdx? p with
 | some j=>l.set j x
 | none=>l++[x]
def keq:(t:Ty)→t.dn→t.dn→Bool
 | .int _,a,b=>bI a b
 | .str,a,b=>seq a b
 | _,_,_=>false
def FM:TypeDesc→Ty→Bool
 | .int _,.int _=>true
 | .string,.str=>true
 | _,_=>false
theorem EV {d:TypeDesc} {q:Ty} (h:FM d q=true) (k:q.dn):(∀ kt,P.underlying kt=some d→A3 P kt (cL ⟨q,k⟩)=true)∧PI (cL ⟨q,k⟩)∧∀ k',DL (cL ⟨q,k⟩) (cL ⟨q,k'⟩)=some (keq q k k'):=by
 cases q with
 | int kk=>exact ⟨fun kt ht=>by simp only [cL,A3,ht];cases d<;>simp [FM] at h;rfl,uq rfl,fun k'=>by simp [cL,DL,eq1,keq]⟩
 | str=>exact ⟨fun kt ht=>by simp only [cL,A3,ht];cases d<;>simp [FM] at h;rfl,uq rfl,fun k'=>by simp [cL,DL,eq1,keq]⟩
 | bool=>cases d<;>simp [FM] at h
 | sl=>cases d<;>simp [FM] at h
 | st=>cases d<;>simp [FM] at h
def qR (i:Nat) (q:Ty) (k:q.dn) (y:C i):Bool:=match get i y with
 | ⟨t,a⟩::_=>if h:t=q then keq q k (h▸a) else false
 | []=>false
def aeA (i:Nat) (v:Ty) (y:C i):v.dn:=match get i y with
 | _::⟨t,a⟩::_=>if h:t=v then h▸a else v.df
 | _=>v.df
theorem Og {i:Nat} {q:Ty} {r:List Ty} (hl:zS i=q::r) (y:C i):∃ a rest,get i y=⟨q,a⟩::rest∧rest.map (·.t)=r:=by
 have h:=qd i y;rw [hl] at h
 match hg:get i y,h with
 | ⟨t,a⟩::rest,h=>
  simp only [List.map_cons,List.cons.injEq] at h;obtain ⟨h1,h2⟩:=h;subst h1;exact ⟨a,rest,rfl,h2⟩
theorem acx {i:Nat} {q:Ty} {a k:q.dn} {rest:List cG} {y:C i} (h:get i y=⟨q,a⟩::rest):qR i q k y=keq q k a:=by
 unfold qR;rw [h];simp
theorem acy (l:List cG) (x:cG):(s_ (x::l)).1=cL x:=by cases l<;>rfl
theorem wW {d:TypeDesc} {i:Nat} {q:Ty} {r:List Ty} (hl:zS i=q::r) (hd:FM d q=true) (k:q.dn):∀ (l:List (C i)) (n:Nat),kV (cL ⟨q,k⟩) (l.map fun x=>s_ (get i x)) n=some ((l.findIdx? (qR i q k)).map (n+·))
 | [],n=>rfl
 | y::l,n=>by
  obtain ⟨a,rest,h1,h2⟩:=Og hl y;simp only [List.map_cons,kV,List.findIdx?_cons];rw [h1,acy,(EV (P:=default) hd k).2.2 a,acx h1,wW hl hd k l (n+1)];cases keq q k a with
  | true=>simp
  | false=>
   simp only [Bool.false_eq_true,if_false,Option.map_map]
   congr 2
   funext j;simp only [Function.comp];omega
def Yr:cG→cG→Bool
 | ⟨.int _,a⟩,⟨.int _,b⟩=>bI a b
 | ⟨.str,a⟩,⟨.str,b⟩=>seq a b
 | _,_=>false
def RJ:List cG→List cG→Bool
 | [x],[y]=>Yr x y
 | x::r,y::s=>Yr x y&&RJ r s
 | _,_=>true
def VF (P:Program):List Field→Nat→List Ty→Bool
 | [],_,[]=>true
 | f::fs,i,t::r=>(f.name != "_"&&(Nat.beq f.offset i&&(Nat.beq (P.cellsOf f.type) 1&&(match P.underlying f.type with
  | some d=>FM d t
  | none=>false))))&&VF P fs (i+1) r
 | _,_,_=>false
theorem aeB {d:TypeDesc} {x:cG} (h:FM d x.t=true):Ew d (cL x)=true:=by
 obtain ⟨t,a⟩:=x;cases t<;>cases d<;>simp [FM] at h<;>rfl
theorem W0 {P:Program}:∀ {fs:List Field} {i:Nat} {l:List cG},VF P fs i (l.map (·.t))=true→I8 P fs i (l.map cL)=true
 | [],_,[],_=>rfl
 | [],_,_::_,h=>by cases h
 | _::_,_,[],h=>by cases h
 | f::fs,i,x::l,h=>by
  simp only [List.map_cons,VF,Bool.and_eq_true] at h;obtain ⟨⟨h1,h2,h3,h4⟩,h5⟩:=h;simp only [List.map_cons,I8,Bool.and_eq_true];refine ⟨⟨h1,h2,h3,?_⟩,W0 h5⟩;split at h4
  ·rename_i d hd;rw [hd];exact aeB h4
  ·cases h4
theorem W2 {P:Program}:∀ {fs:List Field} {i:Nat} {l m:List cG},VF P fs i (l.map (·.t))=true→m.map (·.t)=l.map (·.t)→eqL (l.map cL) (m.map cL)=some (RJ l m)
 | _,_,[],[],_,_=>rfl
 | _,_,[],_::_,_,h=>by cases h
 | _,_,_::_,[],_,h=>by cases h
 | [],_,_::_,_::_,h,_=>by cases h
 | f::fs,i,⟨t,a⟩::l,⟨u,b⟩::m,h,e=>by
  simp only [List.map_cons,List.cons.injEq] at e;obtain ⟨rfl,e⟩:=e;simp only [List.map_cons,VF,Bool.and_eq_true] at h;obtain ⟨⟨_,_,_,h4⟩,h5⟩:=h;have ih:=W2 (m:=m) h5 e;split at h4
  ·rename_i d hd;have k1:eq1 (cL ⟨u,a⟩) (cL ⟨u,b⟩)=some (Yr ⟨u,a⟩ ⟨u,b⟩):=by
    cases u<;>cases d<;>simp [FM] at h4<;>simp [cL,eq1,Yr]
   simp only [List.map_cons,eqL,k1,ih];cases l with
   | nil=>
    cases m with
    | nil=>simp [RJ]
    | cons=>cases e
   | cons x l=>
    cases m with
    | nil=>cases e
    | cons y m=>simp [RJ]
  ·cases h4
def TU (P:Program) (kt:TypeId) (j:Nat):Bool:=match P.underlying kt with
 | some (.struct fs)=>!P.stoodInHeld kt&&VF P fs.toList 0 (zS j)
 | _=>false
theorem I5 {P:Program} {kt:TypeId} {j:Nat} (h:TU P kt j=true):∃ fs,P.underlying kt=some (.struct fs)∧P.stoodInHeld kt=false∧VF P fs.toList 0 (zS j)=true:=by
 unfold TU at h;split at h
 ·rename_i fs YC;simp only [Bool.and_eq_true,Bool.not_eq_true'] at h;exact ⟨fs,YC,h.1,h.2⟩
 ·cases h
theorem Kq (j:Nat) (x:C j):cL ⟨.st j,x⟩=.agg ((get j x).map cL):=by
 show AV.agg (cc j x)=_;rw [Jx]
theorem aaQ {j:Nat} {x:C j} {y:cG} (hy:y∈get j x):y.t.leaf=true:=AM (.st j) x y hy
theorem acz {l:List cG} (h:∀ y,y∈l→y.t.leaf=true):PI (.agg (l.map cL)):=by
 intro w F μ K v hv;obtain ⟨vs,rfl,wJ⟩:=hv.fH;refine .qO ⟨wJ.1,fun i hi=>?_⟩;have da:i < l.length:=by simpa using hi
 have e:(l.map cL).getD i .top=cL l[i]:=by simp [List.getD,da]
 have:=wJ.2 i hi;rw [e] at this ⊢;exact uq (h _ (List.getElem_mem da)) this
theorem I6 {P:Program} {kt:TypeId} {j:Nat} (h:TU P kt j=true) (k:C j):A3 P kt (cL ⟨.st j,k⟩)=true∧PI (cL ⟨.st j,k⟩)∧∀ m:List cG,m.map (·.t)=zS j→DL (cL ⟨.st j,k⟩) (.agg (m.map cL))=some (RJ (get j k) m):=by
 obtain ⟨fs,h1,h2,h3⟩:=I5 h;rw [Kq];refine ⟨?_,acz fun y hy=>aaQ hy,fun m hm=>?_⟩
 ·simp only [A3,h1,h2,Bool.not_false,Bool.true_and];exact W0 (by rw [qd];exact h3)
 ·exact W2 (by rw [qd];exact h3) (by rw [qd];exact hm)
def gv (i j n:Nat) (k:C j) (y:C i):Bool:=RJ (get j k) ((get i y).take n)
def A0 (i n:Nat) (v:Ty) (y:C i):v.dn:=match (get i y).drop n with
 | ⟨t,a⟩::_=>if h:t=v then h▸a else v.df
 | []=>v.df
theorem WV {i j n:Nat} (h:(zS i).take n=zS j) (y:C i):((get i y).take n).map (·.t)=zS j:=by
 rw [List.map_take,qd,h]
theorem A2 {P:Program} {kt:TypeId} {i j n:Nat} (hl:(zS i).take (n+1)=zS j) (hd:TU P kt j=true) (k:C j):∀ (l:List (C i)) (m:Nat),kV (cL ⟨.st j,k⟩) (l.map fun x=>c6 (n+1) (get i x)) m=some ((l.findIdx? (gv i j (n+1) k)).map (m+·))
 | [],m=>rfl
 | y::l,m=>by
  simp only [List.map_cons,kV,List.findIdx?_cons];have e:(c6 (n+1) (get i y)).1=.agg (((get i y).take (n+1)).map cL):=rfl;rw [e,(I6 hd k).2.2 _ (WV hl y),A2 hl hd k l (m+1)];show (match some (gv i j (n+1) k y) with | some true=>_ | some false=>_ | none=>_)=_;cases gv i j (n+1) k y with
  | true=>simp
  | false=>
   simp only [Bool.false_eq_true,if_false,Option.map_map]
   congr 2
   funext q;simp only [Function.comp];omega
def Ge (ok:Bool) (v:TA) (b:Bool):TA:=match ok with
 | true=>.ov [v,.d ⟨.bool,b⟩]
 | false=>v
theorem A5 (ok:Bool) (v:TA) (b:Bool) (H:List (Nat×aX)):(Ge ok v b).av H=Of ok (v.av H) b:=by
 cases ok<;>simp [Ge,Of,TA.av,di,cL]
theorem A6 {ok:Bool} {v:TA} {b:Bool} {H:List (Nat×aX)} {N:Nat} (h:v.wf H N):(Ge ok v b).wf H N:=by
 cases ok with
 | false=>exact h
 | true=>simp only [Ge,TA.wf,hU];exact ⟨h,trivial,trivial⟩
def zvT (P:Program) (t:TypeId):Option TA:=match P.info? t with
 | some i=>match i.zero with
  | some z=>match z with
   | .agg ⟨_::_⟩=>none
   | z=>some (cst z)
  | none=>none
 | none=>none
theorem Oa {t:TypeId} {a:TA} (h:zvT P t=some a) (H:List (Nat×aX)) (N:Nat):zvA P t=some (a.av H)∧a.wf H N:=by
 unfold zvT at h;unfold zvA;split at h
 ·rename_i i hi;split at h
  ·rename_i z hz;split at h
   ·cases h
   ·rename_i oV;cases h;rw [hi];simp only [hz,Nd];refine ⟨?_,ZW H N z⟩
    congr 1
    unfold zv;split
    ·rename_i cs;cases cs with
     | nil=>rfl
     | cons a r=>exact absurd rfl (oV a r)
    ·rfl
  ·cases h
 ·cases h
def Kc (E:Env) (s:bL) (t:TypeId) (κ:cu→Option R):Option R:=match (E.mp.find? fun p=>Nat.beq p.1 t) with
 | some p=>κ ⟨.mp s.N,[(s.N,some (.dmap p.2 []))],1⟩
 | none=>match E.P.underlying t with
  | some (.map kt _)=>match Lw E.tc kt with
   | some q=>κ ⟨.mp s.N,[(s.N,some (.SX q []))],1⟩
   | none=>none
  | _=>none
theorem Rr {E:Env} {o:Oper} {s:bL} {κ:cu→Option R} {z:R} {t:TypeId} (ho:o.op=.makeMap t none) (hs:s.ok) (h:Kc E s t κ=some z):vh E.P o s κ z:=by
 unfold Kc at h;split at h
 ·exact g6 hs h (Oe (N:=s.N) ho) mZ (by simp only [TA.av];exact (@g8.refl _)) (by simp only [TA.wf]) (by simp only [aX.du,List.map_nil];exact eg.refl _) (fun l' e=>by cases e)
 ·split at h
  ·split at h
   ·exact g6 hs h (Oe (N:=s.N) ho) mZ (by simp only [TA.av];exact (@g8.refl _)) (by simp only [TA.wf]) (by simp only [aX.du,List.map_nil];exact eg.refl _) (fun l' e=>by cases e)
   ·cases h
  ·cases h
def W3 {t:Ty} (k:t.dn) (κ:Option FuncId→Option R):List (t.dn×FuncId)→Option R
 | []=>κ none
 | p::r=>cond (keq t k p.1) (κ (some p.2)) (W3 k κ r)
theorem T3 {d:TypeDesc} {q:Ty} {k:q.dn} (hd:FM d q=true) {κ:Option FuncId→Option R} {z:R}:∀ {l:List (q.dn×FuncId)} {n:Nat},W3 k κ l=some z→
  (kV (cL ⟨q,k⟩) (l.map fun x=>(cL ⟨q,x.1⟩,AV.fn (.func x.2) [] [])) n=some none∧κ none=some z)∨
  ∃ j,n≤j∧kV (cL ⟨q,k⟩) (l.map fun x=>(cL ⟨q,x.1⟩,AV.fn (.func x.2) [] [])) n=some (some j)∧∃ p,l[j-n]?=some p∧κ (some p.2)=some z
 | [],n,h=>.inl ⟨rfl,h⟩
 | p::r,n,h=>by
  simp only [W3] at h;simp only [List.map_cons,kV,(EV (P:=default) hd k).2.2];cases e:keq q k p.1 with
  | true=>
   rw [e] at h;exact .inr ⟨n,Nat.le_refl _,rfl,p,by simp,h⟩
  | false=>
   rw [e] at h;rcases T3 hd (n:=n+1) h with ⟨h1,h2⟩ | ⟨j,h0,h1,p',h2,h3⟩
   ·exact .inl ⟨h1,h2⟩
   ·exact .inr ⟨j,by omega,h1,p',by rw [show j-n=(j-(n+1))+1 by omega];simpa using h2,h3⟩
def Yp (E:Env) (kt:TypeId) (cs:List TA):Option ((j:Nat)×C j):=match Lw E.tc kt with
 | some (.st j)=>match si (zS j) cs with
  | some ds=>match LL (.st j) ds with
   | some kk=>some ⟨j,kk⟩
   | none=>none
  | none=>none
 | _=>none
theorem L1 {E:Env} {kt:TypeId} {cs:List TA} {j:Nat} {kk:C j} (h:Yp E kt cs=some ⟨j,kk⟩) (H:List (Nat×aX)):g8 ((TA.agg cs).av H) (cL ⟨.st j,kk⟩):=by
 unfold Yp at h;split at h
 ·rename_i j' _;split at h
  ·rename_i ds sy;split at h
   ·rename_i kk' hb;cases h;obtain ⟨d1,d2,d3,d4⟩:=nK sy;intro w F μ K v hv;simp only [TA.av] at hv;obtain ⟨vs,rfl,wJ⟩:=hv.fH;have e:get j kk=ds:=eU hb;rw [Kq,e];refine .qO ⟨by have:=wJ.1;rw [bC] at this;simp [d1,this],fun k hk=>?_⟩;have FG:k < cs.length:=by simpa [d1] using hk
    have:=wJ.2 k (by rw [bC];exact FG);rw [dq _ _ _ FG] at this;exact d4 H k FG this
   ·cases h
  ·cases h
 ·cases h
def L3 (E:Env) (s:bL) (id:Nat) (kt:TypeId) (zt:TA) (j:Nat) (kk:C j) (ok:Bool) (κ:cu→Option R):Option R:=match TU E.P kt j with
 | false=>none
 | true=>match aS s.H id with
  | some (.dmap i l)=>match I9 i with
   | 0=>none
   | n+1=>match decEq ((zS i).take (n+1)) (zS j) with
    | .isFalse _=>none
    | .isTrue _=>match (zS i).drop (n+1) with
     | []=>match zt with
      | .agg []=>κ ⟨Ge ok (.agg []) (JC (gv i j (n+1) kk) l),[],0⟩
      | _=>none
     | [v]=>match td v zt with
      | some ⟨v',z⟩=>match decEq v' v with
       | .isTrue e=>κ ⟨Ge ok (.d ⟨v,m7 (gv i j (n+1) kk) (A0 i (n+1) v) (e▸z) l⟩) (JC (gv i j (n+1) kk) l),[],0⟩
       | .isFalse _=>none
      | none=>none
     | _=>none
  | _=>none
def NO (E:Env) (s:bL) (t:TypeId) (x k:TA) (ok:Bool) (κ:cu→Option R):Option R:=match x,k,E.P.underlying t with
 | .mp id,.d ⟨q,kk⟩,some (.map kt et)=>match E.P.underlying kt,zvT E.P et with
  | some d,some zt=>match FM d q with
   | true=>match aS s.H id with
    | some (.dmap i l)=>match I9 i with
     | _+1=>none
     | 0=>match zS i with
     | [q']=>match decEq q' q with
      | .isTrue _=>match zt with
       | .agg []=>κ ⟨Ge ok (.agg []) (JC (qR i q kk) l),[],0⟩
       | _=>none
      | .isFalse _=>none
     | [q',v]=>match decEq q' q with
      | .isTrue _=>match td v zt with
       | some ⟨v',z⟩=>match decEq v' v with
        | .isTrue e=>κ ⟨Ge ok (.d ⟨v,m7 (qR i q kk) (aeA i v) (e▸z) l⟩) (JC (qR i q kk) l),[],0⟩
        | .isFalse _=>none
       | none=>none
      | .isFalse _=>none
     | _=>none
    | some (.SX q' l)=>match decEq q' q with
     | .isTrue e=>W3 kk (fun r=>match r with
      | some f=>κ ⟨Ge ok (.fn (.func f) [] []) true,[],0⟩
      | none=>κ ⟨Ge ok zt false,[],0⟩) (e▸l:List (q.dn×FuncId))
     | .isFalse _=>none
    | _=>none
   | false=>match (⟨q,kk⟩:cG) with
    | ⟨.st j,k'⟩=>L3 E s id kt zt j k' ok κ
    | _=>none
  | _,_=>none
 | .mp id,.agg cs,some (.map kt et)=>match zvT E.P et,Yp E kt cs with
  | some zt,some ⟨j,k'⟩=>L3 E s id kt zt j k' ok κ
  | _,_=>none
 | _,_,_=>none
theorem Qd {ok:Bool} {a b:AV} {c:Bool} (h:g8 a b):g8 (Of ok a c) (Of ok b c):=by
 cases ok with
 | false=>exact h
 | true=>
  intro w F μ K v hv;obtain ⟨vs,rfl,wJ⟩:=hv.It;obtain ⟨v1,r,rfl,h1,h2⟩:=wJ.cons_inv;exact .KR (.cons (h h1) h2)
theorem A1 {α:Type} {p:α→Bool}:∀ {l:List α},(l.findIdx? p=none∧l.find? p=none)∨∃ j y,l.findIdx? p=some j∧l[j]?=some y∧l.find? p=some y∧p y=true
 | []=>.inl ⟨rfl,rfl⟩
 | x::l=>by
  simp only [List.findIdx?_cons,List.find?_cons];cases e:p x with
  | true=>exact .inr ⟨0,x,by simp,by simp,rfl,e⟩
  | false=>
   rcases A1 (p:=p) (l:=l) with ⟨h1,h2⟩ | ⟨j,y,h1,h2,h3,h4⟩
   ·exact .inl ⟨by simp [h1],h2⟩
   ·exact .inr ⟨j+1,y,by simp [h1],by simpa using h2,h3,h4⟩
theorem Oh {E:Env} {o:Oper} {s:bL} {κ:cu→Option R} {z:R} {t kt et:TypeId} {x k:Operand} {ok:Bool} {id j:Nat} {kk:C j} {zt:TA} (ho:o.op=.lookup t x k ok) (hx:s.val x=.mp id) (h2:dT s.st k (cL ⟨.st j,kk⟩))
  (ht:E.P.underlying t=some (.map kt et)) (SV:zvA E.P et=some (zt.av s.H)) (h:L3 E s id kt zt j kk ok κ=some z):vh E.P o s κ z:=by
 unfold L3 at h;split at h
 ·cases h
 ·rename_i R1;obtain ⟨fs,C6,_,_⟩:=I5 R1;have Lz:=I6 R1 kk;have h1:dT s.st x (.mp id):=bY hx;split at h
  ·rename_i i l hl;split at h
   ·cases h
   ·rename_i n hn;have hH:s.st.H id=some (.map (l.map fun x=>c6 (n+1) (get i x))):=by
     have h9:s.st.H id=some (.map (l.map fun x=>c6 (I9 i) (get i x))):=dx hl;rw [hn] at h9;exact h9
    split at h
    ·cases h
    ·rename_i N_ _;have hf:=A2 N_ R1 kk l 0;have lX:=A4 ho h1 hH h2 ht C6 Lz.1 hf SV;split at h
     ·rename_i hdr;split at h
      ·refine kh h lX ?_ (A6 (by simp only [TA.wf,hU]));rw [A5];simp only [TA.av,di,JC];show g8 (zq ok (.agg []) _ ((l.findIdx? (gv i j (n+1) kk)).map (0+·))) _;rcases A1 (p:=gv i j (n+1) kk) (l:=l) with ⟨k1,k2⟩ | ⟨q,y,k1,k2,k3,k4⟩
       ·rw [k1];exact (@g8.refl _)
       ·rw [k1];have hd0:(get i y).drop (n+1)=[]:=by
         have:=congrArg (List.drop (n+1)) (qd i y);rw [hdr,← List.map_drop] at this;exact List.map_eq_nil_iff.1 this
        have m4:((l.map fun x=>c6 (n+1) (get i x)).getD (0+q) (.top,.top)).2=.agg []:=by
         simp [List.getD,k2,c6,hd0]
        simp only [Option.map_some,Option.isSome_some,zq,m4];exact (@g8.refl _)
      ·cases h
     ·rename_i v hdr;split at h
      ·rename_i v' z' WS;split at h
       ·rename_i e _;subst e;refine kh h lX ?_ (A6 (by simp only [TA.wf]));rw [A5];simp only [TA.av,JC,m7];show g8 (zq ok (zt.av s.H) _ ((l.findIdx? (gv i j (n+1) kk)).map (0+·))) _;rcases A1 (p:=gv i j (n+1) kk) (l:=l) with ⟨k1,k2⟩ | ⟨q,y,k1,k2,k3,k4⟩
        ·rw [k1,k2];exact Qd ((ik WS).2.2 s.H)
        ·rw [k1,k3];have hd0:((get i y).drop (n+1)).map (·.t)=[v']:=by
          rw [List.map_drop,qd,hdr]
         obtain ⟨b,hb⟩:∃ b:v'.dn,(get i y).drop (n+1)=[⟨v',b⟩]:=by
          match hg:(get i y).drop (n+1),hd0 with
          | [⟨t',b⟩],h0=>
           simp only [List.map_cons,List.map_nil,List.cons.injEq,and_true] at h0;subst h0;exact ⟨b,rfl⟩
         have m4:((l.map fun x=>c6 (n+1) (get i x)).getD (0+q) (.top,.top)).2=cL ⟨v',b⟩:=by
          simp [List.getD,k2,c6,hb]
         have m5:A0 i (n+1) v' y=b:=by
          unfold A0;rw [hb];simp
         simp only [Option.map_some,Option.isSome_some,zq,m4,m5];exact (@g8.refl _)
       ·cases h
      ·cases h
     ·cases h
  ·cases h
theorem Tx {E:Env} {o:Oper} {s:bL} {κ:cu→Option R} {z:R} {t:TypeId} {x k:Operand} {ok:Bool} (ho:o.op=.lookup t x k ok) (hs:s.ok) (h:NO E s t (s.val x) (s.val k) ok κ=some z):vh E.P o s κ z:=by
 unfold NO at h;split at h
 ·rename_i id q kk kt et hx hk ht;split at h
  ·rename_i d zt C6 hz;split at h
   ·rename_i hd;obtain ⟨SV,hz2⟩:=Oa hz s.H s.N;have h1:dT s.st x (.mp id):=bY hx;have h2:dT s.st k (cL ⟨q,kk⟩):=bY hk;have Lz:=EV (P:=E.P) hd kk;split at h
    ·rename_i i l hl;split at h
     ·cases h
     rename_i PS;have hH:s.st.H id=some (.map (l.map fun x=>s_ (get i x))):=by
      have h9:s.st.H id=some (.map (l.map fun x=>c6 (I9 i) (get i x))):=dx hl;rw [PS] at h9;exact h9
     split at h
     ·rename_i q' N_;split at h
      ·rename_i e _;subst e;split at h
       ·have hf:=wW N_ hd kk l 0;have lX:=A4 ho h1 hH h2 ht C6 (Lz.1 _ C6) hf SV;refine kh h lX ?_ (A6 (by simp only [TA.wf,hU]));rw [A5];simp only [TA.av,di,JC];show g8 (zq ok (.agg []) _ ((l.findIdx? (qR i q' kk)).map (0+·))) _;rcases A1 (p:=qR i q' kk) (l:=l) with ⟨k1,k2⟩ | ⟨j,y,k1,k2,k3,k4⟩
        ·rw [k1];exact (@g8.refl _)
        ·rw [k1];obtain ⟨a,rest,m1,m2⟩:=Og N_ y;have m3:rest=[]:=by simpa using m2
         have m4:((l.map fun x=>s_ (get i x)).getD (0+j) (.top,.top)).2=.agg []:=by
          simp [List.getD,k2,m1,m3,s_]
         simp only [Option.map_some,Option.isSome_some,zq,m4];exact (@g8.refl _)
       ·cases h
      ·cases h
     ·rename_i q' v N_;split at h
      ·rename_i e _;subst e;split at h
       ·rename_i v' z' WS;split at h
        ·rename_i e _;subst e;have hf:=wW N_ hd kk l 0;have lX:=A4 ho h1 hH h2 ht C6 (Lz.1 _ C6) hf SV;refine kh h lX ?_ (A6 (by simp only [TA.wf]));rw [A5];simp only [TA.av,JC,m7];show g8 (zq ok (zt.av s.H) _ ((l.findIdx? (qR i q' kk)).map (0+·))) _;rcases A1 (p:=qR i q' kk) (l:=l) with ⟨k1,k2⟩ | ⟨j,y,k1,k2,k3,k4⟩
         ·rw [k1,k2];exact Qd ((ik WS).2.2 s.H)
         ·rw [k1,k3];obtain ⟨a,rest,m1,m2⟩:=Og N_ y
          match rest,m2 with
          | [⟨t',b⟩],m2=>
           simp only [List.map_cons,List.map_nil,List.cons.injEq,and_true] at m2;subst m2;have m4:((l.map fun x=>s_ (get i x)).getD (0+j) (.top,.top)).2=cL ⟨t',b⟩:=by
            simp [List.getD,k2,m1,s_]
           have m5:aeA i t' y=b:=by
            unfold aeA;rw [m1];simp
           simp only [Option.map_some,Option.isSome_some,zq,m4,m5];exact (@g8.refl _)
        ·cases h
       ·cases h
      ·cases h
     ·cases h
    ·rename_i q' l hl;split at h
     ·rename_i e _;subst e;have hH:s.st.H id=some (.map (l.map fun x=>(cL ⟨q',x.1⟩,AV.fn (.func x.2) [] []))):=dx hl;rcases T3 hd (n:=0) h with ⟨k1,k2⟩ | ⟨j,_,k1,p,k2,k3⟩
      ·have lX:=A4 ho h1 hH h2 ht C6 (Lz.1 _ C6) k1 SV;exact kh k2 lX (by rw [A5];exact (@g8.refl _)) (A6 hz2)
      ·have lX:=A4 ho h1 hH h2 ht C6 (Lz.1 _ C6) k1 SV;refine kh k3 lX ?_ (A6 (by simp only [TA.wf,hU];exact ⟨trivial,trivial⟩));rw [A5];rw [Nat.sub_zero] at k2;have m4:((l.map fun x=>(cL ⟨q',x.1⟩,AV.fn (.func x.2) [] [])).getD j (.top,.top)).2=.fn (.func p.2) [] []:=by
        simp [List.getD,k2]
       simp only [zq,m4,TA.av,di];exact (@g8.refl _)
     ·cases h
    ·cases h
   ·split at h
    ·rename_i j k' hq;obtain ⟨rfl,hq2⟩:=cG.mk.inj hq;have hq3:=eq_of_heq hq2;subst hq3;exact Oh ho hx (bY hk) ht (Oa hz s.H s.N).1 h
    ·cases h
  ·cases h
 ·rename_i id cs kt et hx hk ht;split at h
  ·rename_i zt j k' hz hkg;exact Oh ho hx (fun {w F O μ K ft act} hs=>L1 hkg s.H (hk▸gu s k hs)) ht (Oa hz s.H s.N).1 h
  ·cases h
 ·cases h
def acA {t:Ty} (k:t.dn) (f:FuncId) (κ:List (t.dn×FuncId)→Option R):List (t.dn×FuncId)→Option R
 | []=>κ [(k,f)]
 | p::r=>cond (keq t k p.1) (κ ((k,f)::r)) (acA k f (fun l=>κ (p::l)) r)
theorem W4 {d:TypeDesc} {q:Ty} {k:q.dn} {f:FuncId} (hd:FM d q=true) {z:R}:∀ {l:List (q.dn×FuncId)} {n:Nat} {κ:List (q.dn×FuncId)→Option R},acA k f κ l=some z→
  ∃ r l',kV (cL ⟨q,k⟩) (l.map fun x=>(cL ⟨q,x.1⟩,AV.fn (.func x.2) [] [])) n=some (r.map (n+·))∧κ l'=some z∧
   (l'.map fun x=>(cL ⟨q,x.1⟩,AV.fn (.func x.2) [] []))=pn (l.map fun x=>(cL ⟨q,x.1⟩,AV.fn (.func x.2) [] [])) (cL ⟨q,k⟩) (.fn (.func f) [] []) r
 | [],n,κ,h=>⟨none,_,rfl,h,rfl⟩
 | p::r,n,κ,h=>by
  simp only [acA] at h;simp only [List.map_cons,kV,(EV (P:=default) hd k).2.2];cases e:keq q k p.1 with
  | true=>
   rw [e] at h;exact ⟨some 0,_,rfl,h,by simp [pn]⟩
  | false=>
   rw [e] at h;obtain ⟨r',l',h1,h2,h3⟩:=W4 hd (n:=n+1) h;refine ⟨r'.map (·+1),p::l',?_,h2,?_⟩
   ·simp only [h1,Option.map_map]
    congr 2
    funext j;simp only [Function.comp];omega
   ·simp only [List.map_cons,h3];cases r'<;>simp [pn]
def RL (E:Env) (s:bL) (id:Nat) (kt:TypeId) (j:Nat) (kk:C j) (x:TA) (κ:cu→Option R):Option R:=match TU E.P kt j with
 | false=>none
 | true=>match aS s.H id with
  | some (.dmap i l)=>match I9 i with
   | 0=>none
   | n+1=>match decEq ((zS i).take (n+1)) (zS j) with
    | .isFalse _=>none
    | .isTrue _=>match (zS i).drop (n+1) with
     | []=>match x with
      | .agg []=>match LL (.st i) (get j kk) with
       | some y=>κ ⟨.lit undef,[(id,some (.dmap i (oM (gv i j (n+1) kk) l y)))],0⟩
       | none=>none
      | _=>none
     | [v]=>match td v x with
      | some y0=>match LL (.st i) (get j kk++[y0]) with
       | some y=>κ ⟨.lit undef,[(id,some (.dmap i (oM (gv i j (n+1) kk) l y)))],0⟩
       | none=>none
      | none=>none
     | _=>none
  | _=>none
def IU (E:Env) (s:bL) (t:TypeId) (m k x:TA) (κ:cu→Option R):Option R:=match m,k,E.P.underlying t with
 | .mp id,.d ⟨q,kk⟩,some (.map kt _)=>match E.P.underlying kt with
  | some d=>match FM d q with
   | true=>match aS s.H id with
    | some (.dmap i l)=>match I9 i with
     | _+1=>none
     | 0=>match zS i with
     | [q']=>match decEq q' q,x with
      | .isTrue _,.agg []=>match LL (.st i) [⟨q,kk⟩] with
       | some y=>κ ⟨.lit undef,[(id,some (.dmap i (oM (qR i q kk) l y)))],0⟩
       | none=>none
      | _,_=>none
     | [q',v]=>match decEq q' q,td v x with
      | .isTrue _,some y0=>match LL (.st i) [⟨q,kk⟩,y0] with
       | some y=>κ ⟨.lit undef,[(id,some (.dmap i (oM (qR i q kk) l y)))],0⟩
       | none=>none
      | _,_=>none
     | _=>none
    | some (.SX q' l)=>match decEq q' q,x with
     | .isTrue e,.fn (.func f) [] []=>acA kk f (fun l'=>κ ⟨.lit undef,[(id,some (.SX q l'))],0⟩) (e▸l:List (q.dn×FuncId))
     | _,_=>none
    | _=>none
   | false=>match (⟨q,kk⟩:cG) with
    | ⟨.st j,k'⟩=>RL E s id kt j k' x κ
    | _=>none
  | none=>none
 | .mp id,.agg cs,some (.map kt _)=>match Yp E kt cs with
  | some ⟨j,k'⟩=>RL E s id kt j k' x κ
  | none=>none
 | _,_,_=>none
theorem B6 {H:List (Nat×aX)} {N qT:Nat} {b b0:aX} (hb:aS H qT=some b0) (h1:fv (some b)=none) (h0:fv (some b0)=none):Sub H (cA H [(qT,some b)]) N:=wK (L:=[]) fun _=>by rw [hb,h1,h0]
theorem T4 {i:Nat} {q:Ty} {kk:q.dn} {l:List (C i)} {y:C i} {ka va:AV} (hy:s_ (get i y)=(ka,va)):
  (oM (qR i q kk) l y).map (fun x=>s_ (get i x))=pn (l.map fun x=>s_ (get i x)) ka va (l.findIdx? (qR i q kk)):=by
 unfold oM;cases l.findIdx? (qR i q kk) with
 | none=>simp [pn,hy]
 | some j=>simp [pn,List.map_set,hy]
theorem Kr {i j n:Nat} {kk:C j} {l:List (C i)} {y:C i} {ka va:AV} (hy:c6 (n+1) (get i y)=(ka,va)):
  (oM (gv i j (n+1) kk) l y).map (fun x=>c6 (n+1) (get i x))=pn (l.map fun x=>c6 (n+1) (get i x)) ka va (l.findIdx? (gv i j (n+1) kk)):=by
 unfold oM;cases l.findIdx? (gv i j (n+1) kk) with
 | none=>simp [pn,hy]
 | some j=>simp [pn,List.map_set,hy]
theorem Qe {E:Env} {o:Oper} {s:bL} {κ:cu→Option R} {z:R} {t kt et:TypeId} {m k x:Operand} {id j:Nat} {kk:C j} (ho:o.op=.mapUpdate t m k x∨o.op=.insert t m k x) (hs:s.ok) (hm:s.val m=.mp id) (h2:dT s.st k (cL ⟨.st j,kk⟩))
  (ht:E.P.underlying t=some (.map kt et)) (h:RL E s id kt j kk (s.val x) κ=some z):vh E.P o s κ z:=by
 unfold RL at h;split at h
 ·cases h
 ·rename_i R1;obtain ⟨fs,C6,_,_⟩:=I5 R1;have Lz:=I6 R1 kk;have h1:dT s.st m (.mp id):=bY hm;split at h
  ·rename_i i l hl;split at h
   ·cases h
   ·rename_i n hn;have hH:s.st.H id=some (.map (l.map fun x=>c6 (n+1) (get i x))):=by
     have h9:s.st.H id=some (.map (l.map fun x=>c6 (I9 i) (get i x))):=dx hl;rw [hn] at h9;exact h9
    split at h
    ·cases h
    ·rename_i N_ _;have hf:=A2 N_ R1 kk l 0;have hlen:(get j kk).length=(zS j).length:=by
      have:=congrArg List.length (qd j kk);simpa using this
     split at h
     ·rename_i hdr;split at h
      ·rename_i hx;split at h
       ·rename_i y hy;have h3:=@bY s x _ hx;simp only [TA.av,di] at h3;have lX:=so (r:=(l.findIdx? (gv i j (n+1) kk))) ho h1 hH h2 h3 (fun {w F μ K v} hv=>by obtain ⟨vs,rfl,wJ⟩:=hv.fH;rw [wJ.gY];exact .qO .nil) Lz.2.1 ht C6 Lz.1
         (by rw [hf];cases l.findIdx? (gv i j (n+1) kk)<;>simp)
        have hg:get i y=get j kk:=eU hy;have hle:(get j kk).length≤n+1:=by
         rw [hlen,← N_];simp;omega
        have hp:c6 (n+1) (get i y)=(cL ⟨.st j,kk⟩,.agg []):=by
         rw [Kq,hg];simp only [c6,List.take_of_length_le hle,List.drop_eq_nil_of_le hle]
        refine g6 (k:=0) hs h lX (B6 hl rfl rfl) (by simp only [TA.av];exact (@g8.refl _)) (by simp only [TA.wf]) ?_ (fun l' e=>by cases e);simp only [aX.du,hn];exact (Kr (kk:=kk) (l:=l) hp)▸eg.refl _
       ·cases h
      ·cases h
     ·rename_i v hdr;split at h
      ·rename_i y0 WS;split at h
       ·rename_i y hy;obtain ⟨l1,l2,l3⟩:=ik WS;have h3:dT s.st x (cL y0):=fun {w F O μ K ft act} fJ=>l3 s.H (gu s x fJ);have lX:=so (r:=(l.findIdx? (gv i j (n+1) kk))) ho h1 hH h2 h3 (uq l2) Lz.2.1 ht C6 Lz.1
         (by rw [hf];cases l.findIdx? (gv i j (n+1) kk)<;>simp)
        have hg:get i y=get j kk++[y0]:=eU hy;have hle:(get j kk).length=n+1:=by
         have e1:=congrArg List.length hdr;simp only [List.length_drop,List.length_singleton] at e1;rw [hlen,← N_,List.length_take];omega
        have hp:c6 (n+1) (get i y)=(cL ⟨.st j,kk⟩,cL y0):=by
         rw [Kq,hg];simp only [c6,← hle,List.take_left,List.drop_left]
        refine g6 (k:=0) hs h lX (B6 hl rfl rfl) (by simp only [TA.av];exact (@g8.refl _)) (by simp only [TA.wf]) ?_ (fun l' e=>by cases e);simp only [aX.du,hn];exact (Kr (kk:=kk) (l:=l) hp)▸eg.refl _
       ·cases h
      ·cases h
     ·cases h
  ·cases h
theorem K3 {E:Env} {o:Oper} {s:bL} {κ:cu→Option R} {z:R} {t:TypeId} {m k x:Operand} (ho:o.op=.mapUpdate t m k x∨o.op=.insert t m k x) (hs:s.ok) (h:IU E s t (s.val m) (s.val k) (s.val x) κ=some z):vh E.P o s κ z:=by
 unfold IU at h;split at h
 ·rename_i id q kk kt et hm hk ht;split at h
  ·rename_i d C6;split at h
   ·rename_i hd;have h1:dT s.st m (.mp id):=bY hm;have h2:dT s.st k (cL ⟨q,kk⟩):=bY hk;have Lz:=EV (P:=E.P) hd kk;split at h
    ·rename_i i l hl;split at h
     ·cases h
     rename_i PS;have hH:s.st.H id=some (.map (l.map fun x=>s_ (get i x))):=by
      have h9:s.st.H id=some (.map (l.map fun x=>c6 (I9 i) (get i x))):=dx hl;rw [PS] at h9;exact h9
     split at h
     ·rename_i q' N_;split at h
      ·rename_i e _ hx;subst e;split at h
       ·rename_i y hy;have h3:=@bY s x _ hx;simp only [TA.av,di] at h3;have hf:=wW N_ hd kk l 0;have lX:=so (r:=(l.findIdx? (qR i q' kk))) ho h1 hH h2 h3 (fun {w F μ K v} hv=>by obtain ⟨vs,rfl,wJ⟩:=hv.fH;rw [wJ.gY];exact .qO .nil) Lz.2.1 ht C6 (Lz.1 _ C6)
         (by rw [hf];cases l.findIdx? (qR i q' kk)<;>simp)
        have hp:s_ (get i y)=(cL ⟨q',kk⟩,.agg []):=by
         have:get i y=[⟨q',kk⟩]:=eU hy;rw [this];rfl
        refine g6 (k:=0) hs h lX (B6 hl rfl rfl) (by simp only [TA.av];exact (@g8.refl _)) (by simp only [TA.wf]) ?_ (fun l' e=>by cases e);simp only [aX.du,PS];exact (T4 (kk:=kk) (l:=l) hp)▸eg.refl _
       ·cases h
      ·cases h
     ·rename_i q' v N_;split at h
      ·rename_i e y0 _ WS;subst e;split at h
       ·rename_i y hy;obtain ⟨l1,l2,l3⟩:=ik WS;have hf:=wW N_ hd kk l 0;have h3:dT s.st x (cL y0):=fun {w F O μ K ft act} fJ=>l3 s.H (gu s x fJ);have lX:=so (r:=(l.findIdx? (qR i q' kk))) ho h1 hH h2 h3 (uq l2) Lz.2.1 ht C6 (Lz.1 _ C6)
         (by rw [hf];cases l.findIdx? (qR i q' kk)<;>simp)
        have hp:s_ (get i y)=(cL ⟨q',kk⟩,cL y0):=by
         have:get i y=[⟨q',kk⟩,y0]:=eU hy;rw [this];rfl
        refine g6 (k:=0) hs h lX (B6 hl rfl rfl) (by simp only [TA.av];exact (@g8.refl _)) (by simp only [TA.wf]) ?_ (fun l' e=>by cases e);simp only [aX.du,PS];exact (T4 (kk:=kk) (l:=l) hp)▸eg.refl _
       ·cases h
      ·cases h
     ·cases h
    ·rename_i q' l hl;split at h
     ·rename_i e f _ hx;subst e;have hH:s.st.H id=some (.map (l.map fun x=>(cL ⟨q',x.1⟩,AV.fn (.func x.2) [] []))):=dx hl;have h3:=@bY s x _ hx;simp only [TA.av,di] at h3;obtain ⟨r,l',k1,k2,k3⟩:=W4 hd (n:=0) h;have lX:=so (r:=r) ho h1 hH h2 h3 (fun {w F μ K v} hv=>by
       obtain ⟨vs,us,rfl,a1,a2⟩:=hv.G7;rw [a1.gY,a2.gY];exact .ZB .nil .nil) Lz.2.1 ht C6 (Lz.1 _ C6) (by rw [k1];cases r<;>simp)
      refine g6 (k:=0) hs k2 lX (B6 hl rfl rfl) (by simp only [TA.av];exact (@g8.refl _)) (by simp only [TA.wf]) ?_ (fun l' e=>by cases e);simp only [aX.du,k3];exact eg.refl _
     ·cases h
    ·cases h
   ·split at h
    ·rename_i j k' hq;obtain ⟨rfl,hq2⟩:=cG.mk.inj hq;have hq3:=eq_of_heq hq2;subst hq3;exact Qe ho hs hm (bY hk) ht h
    ·cases h
  ·cases h
 ·rename_i id cs kt et hm hk ht;split at h
  ·rename_i j k' hkg;exact Qe ho hs hm (fun {w F O μ K ft act} hs=>L1 hkg s.H (hk▸gu s k hs)) ht h
  ·cases h
 ·cases h
def NP (E:Env) (s:bL) (t:TypeId) (m k:TA) (κ:cu→Option R):Option R:=match m,k,E.P.underlying t with
 | .mp id,.d ⟨q,kk⟩,some (.map kt _)=>match E.P.underlying kt with
  | some d=>match FM d q with
   | true=>match aS s.H id with
    | some (.dmap i l)=>match I9 i with
     | _+1=>none
     | 0=>match zS i with
     | q'::_=>match decEq q' q with
      | .isTrue _=>κ ⟨.top,[(id,some (.dmap i (acw (qR i q kk) l)))],0⟩
      | .isFalse _=>none
     | []=>none
    | _=>none
   | false=>none
  | none=>none
 | _,_,_=>none
theorem aaR {α β:Type} {p:α→Bool} {f:α→β} {l:List α}:(acw p l).map f=match l.findIdx? p with
  | none=>l.map f
  | some j=>(l.map f).eraseIdx j:=by
 unfold acw;cases l.findIdx? p with
 | none=>rfl
 | some j=>
  simp only;refine List.ext_getElem? fun i=>?_;simp only [List.getElem?_map,List.getElem?_eraseIdx];split<;>rfl
theorem Tz {E:Env} {o:Oper} {s:bL} {κ:cu→Option R} {z:R} {t u:TypeId} {m k:Operand} (ho:o.op=.call ⟨.builtin .delete,#[m,k],#[t,u]⟩) (hs:s.ok) (h:NP E s t (s.val m) (s.val k) κ=some z):vh E.P o s κ z:=by
 unfold NP at h;split at h
 ·rename_i id q kk kt et hm hk ht;split at h
  ·rename_i d C6;split at h
   ·rename_i hd;have h1:dT s.st m (.mp id):=bY hm;have h2:dT s.st k (cL ⟨q,kk⟩):=bY hk;have Lz:=EV (P:=E.P) hd kk;split at h
    ·rename_i i l hl;split at h
     ·cases h
     rename_i PS;have hH:s.st.H id=some (.map (l.map fun x=>s_ (get i x))):=by
      have h9:s.st.H id=some (.map (l.map fun x=>c6 (I9 i) (get i x))):=dx hl;rw [PS] at h9;exact h9
     split at h
     ·rename_i q' r N_;split at h
      ·rename_i e _;subst e;have lX:=Yx (r:=(l.findIdx? (qR i q' kk))) ho h1 hH h2 ht C6 (Lz.1 _ C6)
        (by rw [wW N_ hd kk l 0];cases l.findIdx? (qR i q' kk)<;>simp)
       refine g6 (k:=0) hs h lX (B6 hl rfl rfl) (by simp only [TA.av];exact (@g8.refl _)) (by simp only [TA.wf]) ?_ (fun l' e=>by cases e);simp only [aX.du,PS];have e:(acw (qR i q' kk) l).map (fun x=>c6 0 (get i x))=aaP (l.map fun x=>s_ (get i x)) (l.findIdx? (qR i q' kk)):=by
        rw [aaR];cases l.findIdx? (qR i q' kk)<;>rfl
       exact e▸eg.refl _
      ·cases h
     ·cases h
    ·cases h
   ·cases h
  ·cases h
 ·cases h
end Go.Proofs.YtjkbbdldmdajkaaGreatDoor.c5
