/- The evaluator of operations: memory: loads, stores, variables, rows; that it is sound. No condition. -/
import Derived.Test.YtjkbbdldmdajkaaGreatDoorVJ
set_option linter.unusedSimpArgs false
set_option linter.unusedVariables false
namespace Go.Proofs.YtjkbbdldmdajkaaGreatDoor.c_
open Go Go.RowKit
variable {w w' xk:World} {F F' Bs O O' v8:Nat→Prop} {μ bC lG:Nat→Nat} {K K' EF:Nat→Prop} {ft bZ:Nat→Nat→Prop} {P:Program} {R:Type}
def rdT (H:List (Nat×aY)) (a:TA) (n:Nat):Option (List TA):=
 match a with
 | .fp t x off=>if (off+n).ble (fy t) then some ((((ew t x).drop off).take n).map .d) else none
 | .rb cs off=>if (off+n).ble cs.length then some ((cs.drop off).take n) else none
 | .bp id off=>match aT H id with
  | some (.box l)=>if (off+n).ble l.length then some ((l.drop off).take n) else none
  | _=>none
 | .rp id i off=>match aT H id with
  | some (.row t v xs)=>if (off+n).ble (fy t)&&!(v.d&&Yb t off n) then some ((((ew t (nth t.df xs i)).drop off).take n).map .d) else none
  | some (.dq t v xs _ os)=>if (off+n).ble (fy t)&&(!(v.d&&Yb t off n)&&(List.range n).all fun k=>(ub os (off+k)).isNone) then some ((((ew t (nth t.df xs i)).drop off).take n).map .d) else none
  | _=>none
 | _=>none
theorem Vu {l:List cN} {off n k:Nat} (hk:k < n) (h:off+n≤l.length):((((l.drop off).take n).map TA.d).getD k .top)=.d (l[off+k]'(by omega)):=by
 simp [List.getD,hk,List.getElem?_take,List.getElem?_drop,show off+k < l.length by omega]
theorem HS {t:Ty} {x:t.dn} {k:Nat} (h:k < (ew t x).length):(sW t x).getD k .top=cR ((ew t x)[k]):=by
 rw [← fJ];simp [List.getD,h]
theorem getD_eq (l:List TA) (k:Nat) (h:k < l.length):l.getD k .top=l[k]:=by simp [List.getD,h]
theorem CA {n:Nat} {c:Nat→AV} {H:List (Nat×aY)} {l:List TA} (hl:l.length=n) (h:∀ k,k < n→c k=(l.getD k .top).av H):(List.range n).map c=dD H l:=by
 rw [c7];refine List.ext_getElem (by simp [hl]) fun k h1 h2=>?_;have hk:k < l.length:=by simpa using h2
 simp only [List.getElem_map,List.getElem_range];rw [h k (by omega),getD_eq _ _ hk]
theorem RJ {s:bP} (hs:s.ok) {x:Operand} {n:Nat} {l:List TA} (h:rdT s.H (s.val x) n=some l):l.length=n∧im s.H s.N l∧∃ c,Rdb s.st x n c∧∀ k,k < n→c k=(l.getD k .top).av s.H:=by
 unfold rdT at h;split at h
 ·rename_i t y off hx;split at h
  ·rename_i hb;have hb:=Nat.le_of_ble_eq_true hb;cases h;have hlen:=fo t y;refine ⟨by simp [hlen];omega,db.2 fun a ha=>?_,_,ad7 (@bX s x _ hx) hb,fun k hk=>?_⟩
   ·obtain ⟨d,_,rfl⟩:=List.mem_map.1 ha;simp only [TA.wf]
   ·rw [Vu hk (by omega)];simp only [TA.av];exact HS (by omega)
  ·cases h
 ·rename_i cs off hx;split at h
  ·rename_i hb;have hb:=Nat.le_of_ble_eq_true hb;cases h;have hw:=gf hs x;rw [hx] at hw;simp only [TA.wf] at hw;have h1:=@bX s x _ hx;simp only [TA.av] at h1;refine ⟨by simp;omega,db.2 fun a ha=>db.1 hw a (List.mem_of_mem_drop (List.mem_of_mem_take ha)),_,ad8 h1 (by rw [bB];exact hb),fun k hk=>?_⟩;rw [dx _ _ _ (by omega)]
   congr 1
   simp [List.getD,hk,List.getElem?_take,List.getElem?_drop]
  ·cases h
 ·rename_i id off hx;split at h
  ·rename_i l0 hl0;split at h
   ·rename_i hb;have hb:=Nat.le_of_ble_eq_true hb;cases h;have hw:im s.H s.N l0:=hs.H id _ hl0;have h1:=@bX s x _ hx;simp only [TA.av] at h1;refine ⟨by simp;omega,db.2 fun a ha=>db.1 hw a (List.mem_of_mem_drop (List.mem_of_mem_take ha)),_,ad9 (l:=dD s.H l0) h1 (dF hl0) (by rw [bB];exact hb),fun k hk=>?_⟩;rw [dx _ _ _ (by omega)]
    congr 1
    simp [List.getD,hk,List.getElem?_take,List.getElem?_drop]
   ·cases h
  ·cases h
 ·rename_i id i off hx;split at h
  ·rename_i t v xs hb0;split at h
   ·rename_i hb;simp only [Bool.and_eq_true,Bool.not_eq_true'] at hb;have hp:v.d=true→Yb t off n=false:=fun h=>by have:=hb.2;rw [h,Bool.true_and] at this;exact this
    have hb:=Nat.le_of_ble_eq_true hb.1;cases h;have hw:=gf hs x;rw [hx] at hw;simp only [TA.wf] at hw;have hi:=hw.2 t v xs.length (by rw [hb0];rfl);have hlen:=fo t (nth t.df xs i);have h1:=@bX s x _ hx;simp only [TA.av,hb0] at h1;refine ⟨by simp [hlen];omega,db.2 fun a ha=>?_,_,ad_ (v:=v.b) (e:=bV v t xs) (m:=xs.length) h1 (dF hb0) hi hb (fun k hk=>by rw [Cx hp hk];exact EU _ _ _ _),fun k hk=>?_⟩
    ·obtain ⟨d,_,rfl⟩:=List.mem_map.1 ha;simp only [TA.wf]
    ·rw [Vu hk (by omega),Cx hp hk];simp only [TA.av];exact HS (t:=t) (x:=nth t.df xs i) (by omega)
   ·cases h
  ·rename_i t v xs i0 os hb0;split at h
   ·rename_i hb;simp only [Bool.and_eq_true,Bool.not_eq_true'] at hb;have hp:v.d=true→Yb t off n=false:=fun h=>by have:=hb.2.1;rw [h,Bool.true_and] at this;exact this
    have hno:∀ k,k < n→ub os (off+k)=none:=fun k hk=>by
     have:=List.all_eq_true.1 hb.2.2 k (List.mem_range.2 hk);simpa using this
    have hb:=Nat.le_of_ble_eq_true hb.1;cases h;have hw:=gf hs x;rw [hx] at hw;simp only [TA.wf] at hw;have hi:=hw.2 t v xs.length (by rw [hb0];rfl);have hlen:=fo t (nth t.df xs i);have h1:=@bX s x _ hx;simp only [TA.av,hb0] at h1;have hc:∀ k,k < n→te s.H v t xs i0 os i.toNat (off+k)=cC t xs i.toNat (off+k):=fun k hk=>by
     simp only [te,hno k hk,Cx hp hk,ite_self]
    refine ⟨by simp [hlen];omega,db.2 fun a ha=>?_,_,ab0 (v:=v.b) (e:=te s.H v t xs i0 os) (m:=xs.length) h1 (dF hb0) hi hb (fun k hk=>by rw [hc k hk];exact EU _ _ _ _),fun k hk=>?_⟩
    ·obtain ⟨d,_,rfl⟩:=List.mem_map.1 ha;simp only [TA.wf]
    ·rw [Vu hk (by omega),hc k hk];simp only [TA.av];exact HS (t:=t) (x:=nth t.df xs i) (by omega)
   ·cases h
  ·cases h
 ·cases h
def RK (P:Program) (H:List (Nat×aY)) (t:TypeId) (x:TA) (κ:cx→Option R):Option R:=
 match P.underlying t,P.info? t with
 | some d,some i=>if I3 d then (match rdT H x i.size with
   | some l=>κ ⟨.agg l,[],0⟩
   | none=>none) else (match rdT H x 1 with
   | some [a]=>κ ⟨a,[],0⟩
   | _=>none)
 | _,_=>none
theorem Qi {o:Oper} {s:bP} {κ:cx→Option R} {z:R} {x:Operand} {t:TypeId} (ho:o.op=.load t x) (hs:s.ok) (h:RK P s.H t (s.val x) κ=some z):wg P o s κ z:=by
 unfold RK at h;split at h
 ·rename_i d i hd hi;split at h
  ·rename_i ha;split at h
   ·rename_i l hl;obtain ⟨h1,h2,c,h3,h4⟩:=RJ hs hl;refine tg h ?_ (by simp only [TA.wf];exact h2);have:=Tn (P:=P) ho hd hi ha h3;rw [CA h1 h4] at this;simpa only [TA.av] using this
   ·cases h
  ·rename_i ha;split at h
   ·rename_i a hl;obtain ⟨h1,h2,c,h3,h4⟩:=RJ hs hl;simp only [im] at h2;have:=Tp (P:=P) ho hd (by simpa using ha) h3;rw [h4 0 (by omega)] at this;exact tg h this h2.1
   ·cases h
 ·cases h
def TC (P:Program) (t:TypeId) (cs:List TA) (off:Nat):Option TA:=
 match P.underlying t,P.info? t with
 | some d,some i=>if I3 d then some (.agg ((cs.drop off).take i.size)) else if off.blt cs.length then some (cs.getD off .top) else none
 | _,_=>none
def RL (P:Program) (t:TypeId) (x:TA) (k:Nat) (κ:cx→Option R):Option R:=
 match x,I5 P t k with
 | .agg l,some f=>match TC P f.type l f.offset with
  | some r=>κ ⟨r,[],0⟩
  | none=>none
 | _,_=>none
theorem Vv {o:Oper} {s:bP} {κ:cx→Option R} {z:R} {x:Operand} {t:TypeId} {k:Nat} (ho:o.op=.field t x k) (hs:s.ok) (h:RL P t (s.val x) k κ=some z):wg P o s κ z:=by
 unfold RL at h;split at h
 ·rename_i l f hx hf;split at h
  ·rename_i r hr;have h1:=@bX s x _ hx;simp only [TA.av] at h1;have hw:=gf hs x;rw [hx] at hw;simp only [TA.wf] at hw;unfold TC at hr;split at hr
   ·rename_i d i hd hi;split at hr
    ·rename_i ha;cases hr;refine kK h (Tq ho h1 hf (r:=.agg (((dD s.H l).drop f.offset).take i.size)) (by simp only [EL,hd,hi,ha,if_true])) ?_ ?_
     ·simp only [TA.av,c7,List.map_take,List.map_drop];exact il.refl _
     ·simp only [TA.wf];exact db.2 fun a ha=>db.1 hw a (List.mem_of_mem_drop (List.mem_of_mem_take ha))
    ·rename_i ha;split at hr
     ·rename_i dQ;cases hr;have aan:f.offset < l.length:=Nat.le_of_ble_eq_true (by simpa [Nat.blt] using dQ);refine kK h (Tq ho h1 hf (r:=(dD s.H l).getD f.offset .top) (by simp only [EL,hd,hi,if_neg ha];rw [if_pos (by rw [bB];exact dQ)])) ?_ (Cz hw _);rw [dx _ _ _ aan];exact il.refl _
     ·cases hr
   ·cases hr
  ·cases h
 ·cases h
def aax (H:List (Nat×aY)):TA→Bool
 | .top | .agg _ | .nP _=>false
 | .lit v=>v.oneCell'
 | .d y=>y.t.leaf
 | .ow id=>match aT H id with
  | some (.row _ _ _)=>true
  | _=>false
 | .rp id _ _=>match aT H id with
  | some (.row _ _ _)=>true
  | _=>false
 | _=>true
theorem WC {H:List (Nat×aY)} {a:TA} (h:aax H a=true):One (a.av H):=by
 intro w F μ K v hv;cases a with
 | top=>cases h
 | agg=>cases h
 | nP=>cases h
 | lit u=>simp only [TA.av] at hv;rw [hv.I0];exact h
 | d y=>simp only [TA.av] at hv;exact Jd h hv
 | fB=>simp only [TA.av] at hv;rw [hv.qd];rfl
 | fp t x off=>simp only [TA.av] at hv;cases hv;rfl
 | rb cs off=>simp only [TA.av] at hv;cases hv;rfl
 | ow id=>
  simp only [aax] at h;split at h
  ·rename_i t v' xs hb;simp only [TA.av,hb] at hv;rcases rQ hv with ⟨⟨_,rfl⟩,_⟩ | ⟨cap,sz,t,rfl,_⟩<;>rfl
  ·cases h
 | bs id n bA=>simp only [TA.av] at hv;cases hv;rfl
 | bp id off=>simp only [TA.av] at hv;cases hv;rfl
 | rp id i off=>
  simp only [aax] at h;split at h
  ·rename_i t v' xs hb;simp only [TA.av,hb] at hv;cases hv;rfl
  ·cases h
 | mp id=>simp only [TA.av] at hv;cases hv;rfl
 | pK t a=>simp only [TA.av] at hv;cases hv;rfl
 | fn f xs ys=>simp only [TA.av] at hv;cases hv;rfl
def CB (H:List (Nat×aY)):TA→Option (List TA)
 | .agg cs=>some cs
 | a=>if aax H a then some [a] else none
theorem y6 {H:List (Nat×aY)} {N:Nat} {a:TA} {l:List TA} (h:CB H a=some l) (hw:a.wf H N):Cu (a.av H) (dD H l)∧im H N l:=by
 unfold CB at h;split at h
 ·cases h;simp only [TA.wf] at hw;exact ⟨by simp only [TA.av];exact Vi _,hw⟩
 ·split at h
  ·rename_i h1;cases h;exact ⟨by simp only [dD];exact Vj (WC h1),by simp only [im];exact ⟨hw,trivial⟩⟩
  ·cases h
theorem qe (H:List (Nat×aY)) (rU:Nat) (b:aY) (id:Nat):aT (cD H [(rU,some b)]) id=if id=rU then some b else aT H id:=by
 simp only [cD,aT];cases e:Nat.beq id rU with
 | true=>rw [if_pos (Nat.eq_of_beq_eq_true e)]
 | false=>rw [if_neg (Nat.ne_of_beq_eq_false e)]
theorem nL {H:List (Nat×aY)} {N:Nat} {b:aY}:Sub H (cD H [(N,some b)]) N:=xG (L:=[]) fun h=>absurd h (by omega)
theorem WD {H:List (Nat×aY)} {N rU:Nat} {l l0:List TA} (hb:aT H rU=some (.box l0)):Sub H (cD H [(rU,some (.box l))]) N:=xG (L:=[]) fun _=>by rw [hb];rfl
theorem WE {H:List (Nat×aY)} {N rU:Nat} {t:Ty} {v:RV} {xs xs':List t.dn} (hb:aT H rU=some (.row t v xs)) (hl:xs.length=xs'.length):Sub H (cD H [(rU,some (.row t v xs'))]) N:=
 xG (L:=[]) fun _=>by rw [hb];simp only [fH,hl]
def aY.isH:aY→Bool
 | .dq _ _ _ _ _=>true
 | _=>false
theorem hJ {o:Oper} {s:bP} {κ:cx→Option R} {z:R} {rv:AV} {v:TA} {rU k:Nat} {b:aY} {B:jV} (hs:s.ok) (hk:κ ⟨v,[(rU,some b)],k⟩=some z) (h:dr P o s.st ⟨rv,[(rU,some B)],List.range' s.N k⟩)
  (jO:Sub s.H (cD s.H [(rU,some b)]) s.N) (hv:il rv (v.av (cD s.H [(rU,some b)]))) (hw:v.wf (cD s.H [(rU,some b)]) (s.N+k)) (hB:eQ B (b.dC (cD s.H [(rU,some b)])))
  (hbw:∀ l,b=.box l→im s.H s.N l) (hnh:b.isH=false:=by rfl):wg P o s κ z:=by
 refine ⟨⟨v,[(rU,some b)],k⟩,RD (L:=[]) hs h jO hv hB,⟨jO,hw,fun id l hl=>?_⟩,hk⟩;simp only [List.mem_singleton,Prod.mk.injEq,Option.some.injEq] at hl;have hr:im s.H s.N b.refs:=by
  cases b with
  | box l=>exact hbw l rfl
  | dq=>cases hnh
  | _=>simp only [aY.refs,im]
 rw [hl.2];exact (hG jO (Nat.le_add_right _ _) _ hr).2
theorem Jh {H H':List (Nat×aY)} {N:Nat} {l:List TA} (h:Sub H H' N) (hw:im H N l):eQ (.box (dD H l)) ((aY.box l).dC H'):=by
 simp only [aY.dC,(hG h (Nat.le_refl _) l hw).1];exact eQ.refl _
def WG (s:bP) (x:TA) (κ:cx→Option R):Option R:=
 match CB s.H x with
 | some l=>κ ⟨.bp s.N 0,[(s.N,some (.box l))],1⟩
 | none=>none
theorem TD {o:Oper} {s:bP} {κ:cx→Option R} {z:R} {x:Operand} {t:TypeId} (ho:o.op=.box t x) (hs:s.ok) (h:WG s (s.val x) κ=some z):wg P o s κ z:=by
 unfold WG at h;split at h
 ·rename_i l hl;obtain ⟨h1,h2⟩:=y6 hl (gf hs x);exact hJ hs h (aeb (N:=s.N) ho (gE s x) h1) nL (by simp only [TA.av];exact il.refl _) (by simp only [TA.wf]) (Jh (N:=s.N) nL h2) (fun l' e=>by cases e;exact h2)
 ·cases h
def Dd (P:Program) (t:TypeId):Option (List TA):=
 match P.info? t with
 | some i=>match i.zero with
  | some z=>some (z.cells.toList.map cst)
  | none=>none
 | none=>none
theorem aay (H:List (Nat×aY)) (N:Nat) (v:Value):(cst v).wf H N:=by
 unfold cst;split<;>simp [TA.wf,im]
theorem qf {t:TypeId} {l:List TA} (h:Dd P t=some l) (H:List (Nat×aY)) (N:Nat):z_ P t=some (dD H l)∧im H N l:=by
 unfold Dd at h;unfold z_;split at h
 ·rename_i i hi;split at h
  ·rename_i z hz;cases h;refine ⟨?_,db.2 fun a ha=>?_⟩
   ·rw [hi];simp only [hz,c7,List.map_map,Option.some.injEq];exact List.map_congr_left fun v _=>(NM H v).symm
   ·obtain ⟨v,_,rfl⟩:=List.mem_map.1 ha;exact aay H N v
  ·cases h
 ·cases h
def Mi (P:Program) (s:bP) (t:TypeId) (κ:cx→Option R):Option R:=
 match Dd P t with
 | some l=>κ ⟨.bp s.N 0,[(s.N,some (.box l))],1⟩
 | none=>none
theorem NW {o:Oper} {s:bP} {κ:cx→Option R} {z:R} {t:TypeId} (ho:o.op=.alloc t) (hs:s.ok) (h:Mi P s t κ=some z):wg P o s κ z:=by
 unfold Mi at h;split at h
 ·rename_i l hl;obtain ⟨h1,h2⟩:=qf hl s.H s.N;exact hJ hs h (Ts (N:=s.N) ho h1) nL (by simp only [TA.av];exact il.refl _) (by simp only [TA.wf]) (Jh (N:=s.N) nL h2) (fun l' e=>by cases e;exact h2)
 ·cases h
theorem TE {α β:Type} (f:α→β) (l:List α) (o:Nat) (r:List α):(zk l o r).map f=zk (l.map f) o (r.map f):=by
 induction r generalizing l o with
 | nil=>rfl
 | cons x r ih=>simp only [zk,List.map_cons,ih,List.map_set]
theorem TF {α:Type} {l:List α} {o:Nat} {r:List α} {a:α} (h:a∈zk l o r):a∈l∨a∈r:=by
 induction r generalizing l o with
 | nil=>exact .inl h
 | cons x r ih=>
  simp only [zk] at h;rcases ih h with h | h
  ·rcases List.mem_or_eq_of_mem_set h with h | h
   ·exact .inl h
   ·exact .inr (by simp [h])
  ·exact .inr (by simp [h])
def EW:TA→Bool
 | .d y=>y.t.leaf
 | .fB=>true
 | _=>false
theorem y7 {H:List (Nat×aY)} {a:TA} (h:EW a=true):Qb (a.av H):=by
 unfold EW at h;split at h
 ·simp only [TA.av];exact fun hv=>vk h hv
 ·simp only [TA.av];exact fun hv=>by rw [hv.qd];exact .fB
 ·cases h
theorem CC {t:Ty} {a:TA} {y:cN} (h:uc t a=some y):EW a=true:=by
 unfold uc at h;split at h
 ·split at h
  ·split at h
   ·rename_i h1;exact h1
   ·cases h
  ·cases h
 ·rfl
 ·cases h
theorem vl:∀ {ts:List Ty} {l:List TA} {r:List cN},tf ts l=some r→∀ a,a∈l→EW a≠false
 | [],[],r,h,a,ha=>by cases ha
 | [],_::_,r,h,_,_=>by cases h
 | _::_,[],r,h,a,ha=>by cases ha
 | t::ts,b::l,r,h,a,ha=>by
  simp only [tf] at h;split at h
  ·rename_i y r' hy hr;rcases List.mem_cons.1 ha with e | e
   ·rw [e,CC hy];simp
   ·exact vl hr a e
  ·cases h
def bD {α:Type} (xs:List α) (i:Int) (f:α→α):List α:=xs.modify i.toNat f
def ab8 (u:Ty) (off n:Nat) (ds:List cN) (x:u.dn):u.dn:=match Mg u (((ew u x).take off)++(ds++(ew u x).drop (off+n))) with
 | some y=>y
 | none=>x
def Sto {α:Type} (d:α) (xs:List α) (i:Int) (e:α) (ys:List α):Prop:=ys.length=xs.length∧∀ i',i' < xs.length→ys.getD i' d=if i'=i.toNat then e else xs.getD i' d
theorem WH {α:Type} {d:α} {xs:List α} {i:Int} {e:α}:Sto d xs i e (oJ xs i e):=⟨by simp [oJ],fun i' di=>by
 unfold oJ;by_cases e1:i'=i.toNat
 ·subst e1;simp [List.getD,di]
 ·rw [if_neg e1];simp [List.getD,List.getElem?_set_ne (Ne.symm e1)]⟩
theorem RM {α:Type} {d:α} {xs:List α} {i:Int} {e:α} {f:α→α} (h:f (nth d xs i)=e):Sto d xs i e (bD xs i f):=⟨by simp [bD],fun i' di=>by
 unfold bD;by_cases e1:i'=i.toNat
 ·subst e1;rw [if_pos rfl,← h];simp [List.getD,nth,List.getElem?_modify,di]
 ·rw [if_neg e1];simp [List.getD,List.getElem?_modify,Ne.symm e1]⟩
def Mj (P:Program) (H:List (Nat×aY)) (t:TypeId) (x y:TA) (κ:cx→Option R):Option R:=
 match P.info? t,CB H y with
 | some ti,some l=>if Nat.beq l.length ti.size then (match x with
  | .bp id off=>match aT H id with
   | some (.box l0)=>if (off+l.length).ble l0.length&&l.all (aax H) then κ ⟨.lit undef,[(id,some (.box (zk l0 off l)))],0⟩ else none
   | _=>none
  | .rp id i off=>match aT H id with
   | some (.row u v xs)=>if (off+l.length).ble (fy u)&&!v.d then (match tf (((Gr u).drop off).take l.length) l with
    | some ds=>match Mg u (((ew u (nth u.df xs i)).take off)++(ds++(ew u (nth u.df xs i)).drop (off+l.length))) with
     | some e=>match Nat.beq l.length (fy u) with
      | true=>κ ⟨.lit undef,[(id,some (.row u v (oJ xs i e)))],0⟩
      | false=>κ ⟨.lit undef,[(id,some (.row u v (bD xs i (ab8 u off l.length ds))))],0⟩
     | none=>none
    | none=>none) else none
   | _=>none
  | _=>none) else none
 | _,_=>none
theorem NX {o:Oper} {s:bP} {κ:cx→Option R} {z:R} {x y:Operand} {t:TypeId} (ho:o.op=.store t x y) (hs:s.ok) (h:Mj P s.H t (s.val x) (s.val y) κ=some z):wg P o s κ z:=by
 unfold Mj at h;split at h
 ·rename_i ti l hi hl;obtain ⟨hc,hw⟩:=y6 hl (gf hs y);split at h
  ·rename_i fV;have fV:=Nat.eq_of_beq_eq_true fV;split at h
   ·rename_i id off hx;split at h
    ·rename_i l0 hb;split at h
     ·rename_i hc2;simp only [Bool.and_eq_true] at hc2;have hle:=Nat.le_of_ble_eq_true hc2.1;have h1:=@bX s x _ hx;simp only [TA.av] at h1;have NF:∀ b,b∈dD s.H l→One b:=fun b cl=>by
       rw [c7] at cl;obtain ⟨a,ha,rfl⟩:=List.mem_map.1 cl;exact WC (List.all_eq_true.1 hc2.2 a ha)
      have m_:=Rw (P:=P) (l0:=dD s.H l0) ho hi h1 (gE s y) hc NF (by rw [bB];exact fV) (dF hb) (by rw [bB,bB];exact hle);have hw2:im s.H s.N (zk l0 off l):=db.2 fun a ha=>(TF ha).elim (db.1 (hs.H id _ hb) a) (db.1 hw a);have e:zk (dD s.H l0) off (dD s.H l)=dD s.H (zk l0 off l):=by rw [c7,c7,c7,TE]
      rw [e] at m_;exact hJ hs h m_ (WD hb) (by simp only [TA.av];exact il.refl _) (by simp only [TA.wf]) (Jh (N:=s.N) (WD hb) hw2) (fun l' e=>by cases e;exact hw2)
     ·cases h
    ·cases h
   ·rename_i id i off hx;split at h
    ·rename_i u v xs hb;split at h
     ·rename_i hle;simp only [Bool.and_eq_true,Bool.not_eq_true'] at hle;have hvd:=hle.2;have hle:=Nat.le_of_ble_eq_true hle.1;have hvc:∀ ys:List u.dn,bV v u ys=cC u ys:=fun ys=>by funext i j;simp only [bV,hvd]
      split at h
      ·rename_i ds tt;split at h
       ·rename_i e he;obtain ⟨ys,Pv,h⟩:∃ ys,Sto u.df xs i e ys∧κ ⟨.lit undef,[(id,some (.row u v ys))],0⟩=some z:=by
         split at h
         ·exact ⟨_,WH,h⟩
         ·exact ⟨_,RM (by simp only [ab8,he]),h⟩
        obtain ⟨d1,d2,d3,d4⟩:=oB tt;have hwx:=gf hs x;rw [hx] at hwx;simp only [TA.wf] at hwx;have dQ:=hwx.2 u v xs.length (by rw [hb];rfl);have h1:=@bX s x _ hx;simp only [TA.av,hb] at h1;have hlen:=fo u (nth u.df xs i);have hce:∀ j,(sW u e).getD j .top=((((ew u (nth u.df xs i)).take off)++(ds++(ew u (nth u.df xs i)).drop (off+l.length))).map cR).getD j .top:=fun j=>by
         rw [← fJ,ff he]
        have TG:=Pv.2;have m_:=Ry (P:=P) (v:=v.b) (m:=xs.length) (e:=cC u xs) (e':=cC u ys) ho hi h1 (gE s y) hc
         (fun b cl=>by
          rw [c7] at cl;obtain ⟨a,ha,rfl⟩:=List.mem_map.1 cl;obtain ⟨k,hk,rfl⟩:=List.getElem_of_mem ha;intro w F μ K v' I4;have hv2:VR w F μ K ((l.getD k .top).av s.H) v':=by rw [getD_eq _ _ hk];exact I4
          have hk2:k < ds.length:=by omega
          have h5:(ds.map cR).getD k .top=cR ds[k]:=by simp [List.getD,hk2]
          exact Jd (d3 _ (List.getElem_mem hk2)) (h5▸d4 s.H k hk hv2))
         (fun b cl=>by
          rw [c7] at cl;obtain ⟨a,ha,rfl⟩:=List.mem_map.1 cl;cases TH:EW a with
          | true=>exact y7 TH
          | false=>
           exfalso;exact vl tt a ha TH)
         (by rw [bB];exact fV) (by rw [dF hb];simp only [aY.dC,hvc]) dQ (by rw [bB];exact hle)
         (fun k hk=>by
          rw [bB] at hk;rw [dx _ _ _ hk];simp only [cC];rw [TG _ dQ,if_pos rfl,hce];have h6:((((ew u (nth u.df xs i)).take off)++(ds++(ew u (nth u.df xs i)).drop (off+l.length))).map cR).getD (off+k) .top=(ds.map cR).getD k .top:=by
           have h7:((ew u (nth u.df xs i)).take off).length=off:=by simp [hlen];omega
           simp only [List.getD,List.map_append];rw [List.getElem?_append_right (by simp only [List.length_map,h7];omega)];simp only [List.length_map,h7];rw [show off+k-off=k by omega,List.getElem?_append_left (by simp only [List.length_map];omega)]
          rw [h6];intro w1 F1 KC K1 v1 JI;exact d4 s.H k hk JI)
         (fun i' j' di mR hn=>by
          rw [bB] at hn;simp only [cC];rw [TG _ di];split
          ·rename_i e1;subst e1;have hxe:xs.getD i.toNat u.df=nth u.df xs i:=rfl;rw [hce,hxe,← fJ];have h7:((ew u (nth u.df xs i)).take off).length=off:=by simp [hlen];omega
           simp only [List.getD,List.map_append];by_cases h8:j' < off
           ·rw [List.getElem?_append_left (by simp only [List.length_map,h7];exact h8)];simp [h8]
           ·have h9:off+l.length≤j':=by omega
            rw [List.getElem?_append_right (by simp only [List.length_map,h7];omega)];simp only [List.length_map,h7];rw [List.getElem?_append_right (by simp only [List.length_map];omega)];simp only [List.length_map,List.getElem?_map,List.getElem?_drop]
            congr 3;omega
          ·rfl)
        refine hJ (B:=.row v.b (fy u) xs.length (cC u ys)) hs h m_ (WE hb Pv.1.symm) (by simp only [TA.av];exact il.refl _) (by simp only [TA.wf]) ?_ (fun l' e=>by cases e);simp only [aY.dC,hvc];rw [Pv.1];exact eQ.refl _
       ·cases h
      ·cases h
     ·cases h
    ·cases h
   ·cases h
  ·cases h
 ·cases h
end Go.Proofs.YtjkbbdldmdajkaaGreatDoor.c_
