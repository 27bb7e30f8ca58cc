/- The evaluator of operations: memory: loads, stores, variables, rows; that it is sound. No condition. -/
import Derived.Test.YtjkbbdldmdajkaaGreatDoorVJ
set_option linter.unusedSimpArgs false
set_option linter.unusedVariables false
namespace Go.Proofs.YtjkbbdldmdajkaaGreatDoor.c_
open Go Go.RowKit
variable {w w' xh:World} {F F' Bn O O' vW:Nat→Prop} {μ bD lF:Nat→Nat} {K K' EB:Nat→Prop} {ft bY:Nat→Nat→Prop} {P:Program} {R:Type}
def rdT (H:List (Nat×aY)) (a:TA) (n:Nat):Option (List TA):=
 match a with
 | .fp t x off=>if (off+n).ble (fx t) then some ((((ew t x).drop off).take n).map .d) else none
 | .bp id off=>match aT H id with
  | some (.box l)=>if (off+n).ble l.length then some ((l.drop off).take n) else none
  | _=>none
 | .rp id i off=>match aT H id with
  | some (.row t v xs)=>if (off+n).ble (fx t)&&!(v.d&&X9 t off n) then some ((((ew t (nth t.df xs i)).drop off).take n).map .d) else none
  | some (.dq t v xs _ os)=>if (off+n).ble (fx t)&&(!(v.d&&X9 t off n)&&(List.range n).all fun k=>(t_ os (off+k)).isNone) then some ((((ew t (nth t.df xs i)).drop off).take n).map .d) else none
  | _=>none
 | _=>none
theorem Vr {l:List cN} {off n k:Nat} (hk:k < n) (h:off+n≤l.length):((((l.drop off).take n).map TA.d).getD k .top)=.d (l[off+k]'(by omega)):=by
 simp [List.getD,hk,List.getElem?_take,List.getElem?_drop,show off+k < l.length by omega]
theorem HN {t:Ty} {x:t.dn} {k:Nat} (h:k < (ew t x).length):(sU t x).getD k .top=cT ((ew t x)[k]):=by
 rw [← fH];simp [List.getD,h]
theorem getD_eq (l:List TA) (k:Nat) (h:k < l.length):l.getD k .top=l[k]:=by simp [List.getD,h]
theorem Cz {n:Nat} {c:Nat→AV} {H:List (Nat×aY)} {l:List TA} (hl:l.length=n) (h:∀ k,k < n→c k=(l.getD k .top).av H):(List.range n).map c=er H l:=by
 rw [c7];refine List.ext_getElem (by simp [hl]) fun k h1 h2=>?_;have hk:k < l.length:=by simpa using h2
 simp only [List.getElem_map,List.getElem_range];rw [h k (by omega),getD_eq _ _ hk]
theorem RH {s:bP} (hs:s.ok) {x:Operand} {n:Nat} {l:List TA} (h:rdT s.H (s.val x) n=some l):l.length=n∧iz s.H s.N l∧∃ c,Rdb s.st x n c∧∀ k,k < n→c k=(l.getD k .top).av s.H:=by
 unfold rdT at h;split at h
 ·rename_i t y off hx;split at h
  ·rename_i hb;have hb:=Nat.le_of_ble_eq_true hb;cases h;have hlen:=fm t y;refine ⟨by simp [hlen];omega,dg.2 fun a ha=>?_,_,ad4 (@bX s x _ hx) hb,fun k hk=>?_⟩
   ·obtain ⟨d,_,rfl⟩:=List.mem_map.1 ha;simp only [TA.wf]
   ·rw [Vr hk (by omega)];simp only [TA.av];exact HN (by omega)
  ·cases h
 ·rename_i id off hx;split at h
  ·rename_i l0 hl0;split at h
   ·rename_i hb;have hb:=Nat.le_of_ble_eq_true hb;cases h;have hw:iz s.H s.N l0:=hs.H id _ hl0;have h1:=@bX s x _ hx;simp only [TA.av] at h1;refine ⟨by simp;omega,dg.2 fun a ha=>dg.1 hw a (List.mem_of_mem_drop (List.mem_of_mem_take ha)),_,ad5 (l:=er s.H l0) h1 (dG hl0) (by rw [bG];exact hb),fun k hk=>?_⟩;rw [dO _ _ _ (by omega)]
    congr 1
    simp [List.getD,hk,List.getElem?_take,List.getElem?_drop]
   ·cases h
  ·cases h
 ·rename_i id i off hx;split at h
  ·rename_i t v xs hb0;split at h
   ·rename_i hb;simp only [Bool.and_eq_true,Bool.not_eq_true'] at hb;have hp:v.d=true→X9 t off n=false:=fun h=>by have:=hb.2;rw [h,Bool.true_and] at this;exact this
    have hb:=Nat.le_of_ble_eq_true hb.1;cases h;have hw:=gH hs x;rw [hx] at hw;simp only [TA.wf] at hw;have hi:=hw.2 t v xs.length (by rw [hb0];rfl);have hlen:=fm t (nth t.df xs i);have h1:=@bX s x _ hx;simp only [TA.av,hb0] at h1;refine ⟨by simp [hlen];omega,dg.2 fun a ha=>?_,_,ad6 (v:=v.b) (e:=bV v t xs) (m:=xs.length) h1 (dG hb0) hi hb (fun k hk=>by rw [Cw hp hk];exact EO _ _ _ _),fun k hk=>?_⟩
    ·obtain ⟨d,_,rfl⟩:=List.mem_map.1 ha;simp only [TA.wf]
    ·rw [Vr hk (by omega),Cw hp hk];simp only [TA.av];exact HN (t:=t) (x:=nth t.df xs i) (by omega)
   ·cases h
  ·rename_i t v xs i0 os hb0;split at h
   ·rename_i hb;simp only [Bool.and_eq_true,Bool.not_eq_true'] at hb;have hp:v.d=true→X9 t off n=false:=fun h=>by have:=hb.2.1;rw [h,Bool.true_and] at this;exact this
    have hno:∀ k,k < n→t_ os (off+k)=none:=fun k hk=>by
     have:=List.all_eq_true.1 hb.2.2 k (List.mem_range.2 hk);simpa using this
    have hb:=Nat.le_of_ble_eq_true hb.1;cases h;have hw:=gH hs x;rw [hx] at hw;simp only [TA.wf] at hw;have hi:=hw.2 t v xs.length (by rw [hb0];rfl);have hlen:=fm t (nth t.df xs i);have h1:=@bX s x _ hx;simp only [TA.av,hb0] at h1;have hc:∀ k,k < n→td s.H v t xs i0 os i.toNat (off+k)=cC t xs i.toNat (off+k):=fun k hk=>by
     simp only [td,hno k hk,Cw hp hk,ite_self]
    refine ⟨by simp [hlen];omega,dg.2 fun a ha=>?_,_,abX (v:=v.b) (e:=td s.H v t xs i0 os) (m:=xs.length) h1 (dG hb0) hi hb (fun k hk=>by rw [hc k hk];exact EO _ _ _ _),fun k hk=>?_⟩
    ·obtain ⟨d,_,rfl⟩:=List.mem_map.1 ha;simp only [TA.wf]
    ·rw [Vr hk (by omega),hc k hk];simp only [TA.av];exact HN (t:=t) (x:=nth t.df xs i) (by omega)
   ·cases h
  ·cases h
 ·cases h
def RI (P:Program) (H:List (Nat×aY)) (t:TypeId) (x:TA) (κ:cx→Option R):Option R:=
 match P.underlying t,P.info? t with
 | some d,some i=>if I1 d then (match rdT H x i.size with
   | some l=>κ ⟨.agg l,[],0⟩
   | none=>none) else (match rdT H x 1 with
   | some [a]=>κ ⟨a,[],0⟩
   | _=>none)
 | _,_=>none
theorem Qe {o:Oper} {s:bP} {κ:cx→Option R} {z:R} {x:Operand} {t:TypeId} (ho:o.op=.load t x) (hs:s.ok) (h:RI P s.H t (s.val x) κ=some z):wa P o s κ z:=by
 unfold RI at h;split at h
 ·rename_i d i hd hi;split at h
  ·rename_i ha;split at h
   ·rename_i l hl;obtain ⟨h1,h2,c,h3,h4⟩:=RH hs hl;refine tf h ?_ (by simp only [TA.wf];exact h2);have:=Tk (P:=P) ho hd hi ha h3;rw [Cz h1 h4] at this;simpa only [TA.av] using this
   ·cases h
  ·rename_i ha;split at h
   ·rename_i a hl;obtain ⟨h1,h2,c,h3,h4⟩:=RH hs hl;simp only [iz] at h2;have:=Tl (P:=P) ho hd (by simpa using ha) h3;rw [h4 0 (by omega)] at this;exact tf h this h2.1
   ·cases h
 ·cases h
def Tx (P:Program) (t:TypeId) (cs:List TA) (off:Nat):Option TA:=
 match P.underlying t,P.info? t with
 | some d,some i=>if I1 d then some (.agg ((cs.drop off).take i.size)) else if off.blt cs.length then some (cs.getD off .top) else none
 | _,_=>none
def RJ (P:Program) (t:TypeId) (x:TA) (k:Nat) (κ:cx→Option R):Option R:=
 match x,I3 P t k with
 | .agg l,some f=>match Tx P f.type l f.offset with
  | some r=>κ ⟨r,[],0⟩
  | none=>none
 | _,_=>none
theorem Vs {o:Oper} {s:bP} {κ:cx→Option R} {z:R} {x:Operand} {t:TypeId} {k:Nat} (ho:o.op=.field t x k) (hs:s.ok) (h:RJ P t (s.val x) k κ=some z):wa P o s κ z:=by
 unfold RJ at h;split at h
 ·rename_i l f hx hf;split at h
  ·rename_i r hr;have h1:=@bX s x _ hx;simp only [TA.av] at h1;have hw:=gH hs x;rw [hx] at hw;simp only [TA.wf] at hw;unfold Tx at hr;split at hr
   ·rename_i d i hd hi;split at hr
    ·rename_i ha;cases hr;refine kJ h (Tm ho h1 hf (r:=.agg (((er s.H l).drop f.offset).take i.size)) (by simp only [EH,hd,hi,ha,if_true])) ?_ ?_
     ·simp only [TA.av,c7,List.map_take,List.map_drop];exact ik.refl _
     ·simp only [TA.wf];exact dg.2 fun a ha=>dg.1 hw a (List.mem_of_mem_drop (List.mem_of_mem_take ha))
    ·rename_i ha;split at hr
     ·rename_i dT;cases hr;have aaj:f.offset < l.length:=Nat.le_of_ble_eq_true (by simpa [Nat.blt] using dT);refine kJ h (Tm ho h1 hf (r:=(er s.H l).getD f.offset .top) (by simp only [EH,hd,hi,if_neg ha];rw [if_pos (by rw [bG];exact dT)])) ?_ (Cy hw _);rw [dO _ _ _ aaj];exact ik.refl _
     ·cases hr
   ·cases hr
  ·cases h
 ·cases h
def aat (H:List (Nat×aY)):TA→Bool
 | .top | .agg _ | .nO _=>false
 | .lit v=>v.oneCell'
 | .d y=>y.t.leaf
 | .ow id=>match aT H id with
  | some (.row _ _ _)=>true
  | _=>false
 | .rp id _ _=>match aT H id with
  | some (.row _ _ _)=>true
  | _=>false
 | _=>true
theorem Wz {H:List (Nat×aY)} {a:TA} (h:aat H a=true):One (a.av H):=by
 intro w F μ K v hv;cases a with
 | top=>cases h
 | agg=>cases h
 | nO=>cases h
 | lit u=>simp only [TA.av] at hv;rw [hv.IY];exact h
 | d y=>simp only [TA.av] at hv;exact Jb h hv
 | fA=>simp only [TA.av] at hv;rw [hv.qa];rfl
 | fp t x off=>simp only [TA.av] at hv;cases hv;rfl
 | ow id=>
  simp only [aat] at h;split at h
  ·rename_i t v' xs hb;simp only [TA.av,hb] at hv;rcases rP hv with ⟨⟨_,rfl⟩,_⟩ | ⟨cap,sz,t,rfl,_⟩<;>rfl
  ·cases h
 | bs id n bA=>simp only [TA.av] at hv;cases hv;rfl
 | bp id off=>simp only [TA.av] at hv;cases hv;rfl
 | rp id i off=>
  simp only [aat] at h;split at h
  ·rename_i t v' xs hb;simp only [TA.av,hb] at hv;cases hv;rfl
  ·cases h
 | mp id=>simp only [TA.av] at hv;cases hv;rfl
 | pJ t a=>simp only [TA.av] at hv;cases hv;rfl
 | fn f xs ys=>simp only [TA.av] at hv;cases hv;rfl
def CA (H:List (Nat×aY)):TA→Option (List TA)
 | .agg cs=>some cs
 | a=>if aat H a then some [a] else none
theorem yY {H:List (Nat×aY)} {N:Nat} {a:TA} {l:List TA} (h:CA H a=some l) (hw:a.wf H N):Ct (a.av H) (er H l)∧iz H N l:=by
 unfold CA at h;split at h
 ·cases h;simp only [TA.wf] at hw;exact ⟨by simp only [TA.av];exact Vf _,hw⟩
 ·split at h
  ·rename_i h1;cases h;exact ⟨by simp only [er];exact Vg (Wz h1),by simp only [iz];exact ⟨hw,trivial⟩⟩
  ·cases h
theorem qc (H:List (Nat×aY)) (rS:Nat) (b:aY) (id:Nat):aT (cD H [(rS,some b)]) id=if id=rS then some b else aT H id:=by
 simp only [cD,aT];cases e:Nat.beq id rS with
 | true=>rw [if_pos (Nat.eq_of_beq_eq_true e)]
 | false=>rw [if_neg (Nat.ne_of_beq_eq_false e)]
theorem nK {H:List (Nat×aY)} {N:Nat} {b:aY}:Sub H (cD H [(N,some b)]) N:=xE (L:=[]) fun h=>absurd h (by omega)
theorem WA {H:List (Nat×aY)} {N rS:Nat} {l l0:List TA} (hb:aT H rS=some (.box l0)):Sub H (cD H [(rS,some (.box l))]) N:=xE (L:=[]) fun _=>by rw [hb];rfl
theorem WB {H:List (Nat×aY)} {N rS:Nat} {t:Ty} {v:RV} {xs xs':List t.dn} (hb:aT H rS=some (.row t v xs)) (hl:xs.length=xs'.length):Sub H (cD H [(rS,some (.row t v xs'))]) N:=
 xE (L:=[]) fun _=>by rw [hb];simp only [fG,hl]
def aY.isH:aY→Bool
 | .dq _ _ _ _ _=>true
 | _=>false
theorem g_ {o:Oper} {s:bP} {κ:cx→Option R} {z:R} {rv:AV} {v:TA} {rS k:Nat} {b:aY} {B:jV} (hs:s.ok) (hk:κ ⟨v,[(rS,some b)],k⟩=some z) (h:dr P o s.st ⟨rv,[(rS,some B)],List.range' s.N k⟩)
  (jO:Sub s.H (cD s.H [(rS,some b)]) s.N) (hv:ik rv (v.av (cD s.H [(rS,some b)]))) (hw:v.wf (cD s.H [(rS,some b)]) (s.N+k)) (hB:eQ B (b.dC (cD s.H [(rS,some b)])))
  (hbw:∀ l,b=.box l→iz s.H s.N l) (hnh:b.isH=false:=by rfl):wa P o s κ z:=by
 refine ⟨⟨v,[(rS,some b)],k⟩,RB (L:=[]) hs h jO hv hB,⟨jO,hw,fun id l hl=>?_⟩,hk⟩;simp only [List.mem_singleton,Prod.mk.injEq,Option.some.injEq] at hl;have hr:iz s.H s.N b.refs:=by
  cases b with
  | box l=>exact hbw l rfl
  | dq=>cases hnh
  | _=>simp only [aY.refs,iz]
 rw [hl.2];exact (iK jO (Nat.le_add_right _ _) _ hr).2
theorem Je {H H':List (Nat×aY)} {N:Nat} {l:List TA} (h:Sub H H' N) (hw:iz H N l):eQ (.box (er H l)) ((aY.box l).dC H'):=by
 simp only [aY.dC,(iK h (Nat.le_refl _) l hw).1];exact eQ.refl _
def WC (s:bP) (x:TA) (κ:cx→Option R):Option R:=
 match CA s.H x with
 | some l=>κ ⟨.bp s.N 0,[(s.N,some (.box l))],1⟩
 | none=>none
theorem Tz {o:Oper} {s:bP} {κ:cx→Option R} {z:R} {x:Operand} {t:TypeId} (ho:o.op=.box t x) (hs:s.ok) (h:WC s (s.val x) κ=some z):wa P o s κ z:=by
 unfold WC at h;split at h
 ·rename_i l hl;obtain ⟨h1,h2⟩:=yY hl (gH hs x);exact g_ hs h (ad8 (N:=s.N) ho (gC s x) h1) nK (by simp only [TA.av];exact ik.refl _) (by simp only [TA.wf]) (Je (N:=s.N) nK h2) (fun l' e=>by cases e;exact h2)
 ·cases h
def C9 (P:Program) (t:TypeId):Option (List TA):=
 match P.info? t with
 | some i=>match i.zero with
  | some z=>some (z.cells.toList.map cst)
  | none=>none
 | none=>none
theorem aau (H:List (Nat×aY)) (N:Nat) (v:Value):(cst v).wf H N:=by
 unfold cst;split<;>simp [TA.wf,iz]
theorem qd {t:TypeId} {l:List TA} (h:C9 P t=some l) (H:List (Nat×aY)) (N:Nat):z6 P t=some (er H l)∧iz H N l:=by
 unfold C9 at h;unfold z6;split at h
 ·rename_i i hi;split at h
  ·rename_i z hz;cases h;refine ⟨?_,dg.2 fun a ha=>?_⟩
   ·rw [hi];simp only [hz,c7,List.map_map,Option.some.injEq];exact List.map_congr_left fun v _=>(NL H v).symm
   ·obtain ⟨v,_,rfl⟩:=List.mem_map.1 ha;exact aau H N v
  ·cases h
 ·cases h
def Mh (P:Program) (s:bP) (t:TypeId) (κ:cx→Option R):Option R:=
 match C9 P t with
 | some l=>κ ⟨.bp s.N 0,[(s.N,some (.box l))],1⟩
 | none=>none
theorem NV {o:Oper} {s:bP} {κ:cx→Option R} {z:R} {t:TypeId} (ho:o.op=.alloc t) (hs:s.ok) (h:Mh P s t κ=some z):wa P o s κ z:=by
 unfold Mh at h;split at h
 ·rename_i l hl;obtain ⟨h1,h2⟩:=qd hl s.H s.N;exact g_ hs h (Tp (N:=s.N) ho h1) nK (by simp only [TA.av];exact ik.refl _) (by simp only [TA.wf]) (Je (N:=s.N) nK h2) (fun l' e=>by cases e;exact h2)
 ·cases h
theorem TB {α β:Type} (f:α→β) (l:List α) (o:Nat) (r:List α):(zg l o r).map f=zg (l.map f) o (r.map f):=by
 induction r generalizing l o with
 | nil=>rfl
 | cons x r ih=>simp only [zg,List.map_cons,ih,List.map_set]
theorem TC {α:Type} {l:List α} {o:Nat} {r:List α} {a:α} (h:a∈zg l o r):a∈l∨a∈r:=by
 induction r generalizing l o with
 | nil=>exact .inl h
 | cons x r ih=>
  simp only [zg] at h;rcases ih h with h | h
  ·rcases List.mem_or_eq_of_mem_set h with h | h
   ·exact .inl h
   ·exact .inr (by simp [h])
  ·exact .inr (by simp [h])
def ER:TA→Bool
 | .d y=>y.t.leaf
 | .fA=>true
 | _=>false
theorem yZ {H:List (Nat×aY)} {a:TA} (h:ER a=true):P8 (a.av H):=by
 unfold ER at h;split at h
 ·simp only [TA.av];exact fun hv=>vg h hv
 ·simp only [TA.av];exact fun hv=>by rw [hv.qa];exact .fA
 ·cases h
theorem CB {t:Ty} {a:TA} {y:cN} (h:ua t a=some y):ER a=true:=by
 unfold ua at h;split at h
 ·split at h
  ·split at h
   ·rename_i h1;exact h1
   ·cases h
  ·cases h
 ·rfl
 ·cases h
theorem vh:∀ {ts:List Ty} {l:List TA} {r:List cN},te ts l=some r→∀ a,a∈l→ER a≠false
 | [],[],r,h,a,ha=>by cases ha
 | [],_::_,r,h,_,_=>by cases h
 | _::_,[],r,h,a,ha=>by cases ha
 | t::ts,b::l,r,h,a,ha=>by
  simp only [te] at h;split at h
  ·rename_i y r' hy hr;rcases List.mem_cons.1 ha with e | e
   ·rw [e,CB hy];simp
   ·exact vh hr a e
  ·cases h
def bB {α:Type} (xs:List α) (i:Int) (f:α→α):List α:=xs.modify i.toNat f
def ab5 (u:Ty) (off n:Nat) (ds:List cN) (x:u.dn):u.dn:=match Mf u (((ew u x).take off)++(ds++(ew u x).drop (off+n))) with
 | some y=>y
 | none=>x
def Sto {α:Type} (d:α) (xs:List α) (i:Int) (e:α) (ys:List α):Prop:=ys.length=xs.length∧∀ i',i' < xs.length→ys.getD i' d=if i'=i.toNat then e else xs.getD i' d
theorem WD {α:Type} {d:α} {xs:List α} {i:Int} {e:α}:Sto d xs i e (oI xs i e):=⟨by simp [oI],fun i' di=>by
 unfold oI;by_cases e1:i'=i.toNat
 ·subst e1;simp [List.getD,di]
 ·rw [if_neg e1];simp [List.getD,List.getElem?_set_ne (Ne.symm e1)]⟩
theorem RK {α:Type} {d:α} {xs:List α} {i:Int} {e:α} {f:α→α} (h:f (nth d xs i)=e):Sto d xs i e (bB xs i f):=⟨by simp [bB],fun i' di=>by
 unfold bB;by_cases e1:i'=i.toNat
 ·subst e1;rw [if_pos rfl,← h];simp [List.getD,nth,List.getElem?_modify,di]
 ·rw [if_neg e1];simp [List.getD,List.getElem?_modify,Ne.symm e1]⟩
def Mi (P:Program) (H:List (Nat×aY)) (t:TypeId) (x y:TA) (κ:cx→Option R):Option R:=
 match P.info? t,CA H y with
 | some ti,some l=>if Nat.beq l.length ti.size then (match x with
  | .bp id off=>match aT H id with
   | some (.box l0)=>if (off+l.length).ble l0.length&&l.all (aat H) then κ ⟨.lit undef,[(id,some (.box (zg l0 off l)))],0⟩ else none
   | _=>none
  | .rp id i off=>match aT H id with
   | some (.row u v xs)=>if (off+l.length).ble (fx u)&&!v.d then (match te (((Gl u).drop off).take l.length) l with
    | some ds=>match Mf u (((ew u (nth u.df xs i)).take off)++(ds++(ew u (nth u.df xs i)).drop (off+l.length))) with
     | some e=>match Nat.beq l.length (fx u) with
      | true=>κ ⟨.lit undef,[(id,some (.row u v (oI xs i e)))],0⟩
      | false=>κ ⟨.lit undef,[(id,some (.row u v (bB xs i (ab5 u off l.length ds))))],0⟩
     | none=>none
    | none=>none) else none
   | _=>none
  | _=>none) else none
 | _,_=>none
theorem NW {o:Oper} {s:bP} {κ:cx→Option R} {z:R} {x y:Operand} {t:TypeId} (ho:o.op=.store t x y) (hs:s.ok) (h:Mi P s.H t (s.val x) (s.val y) κ=some z):wa P o s κ z:=by
 unfold Mi at h;split at h
 ·rename_i ti l hi hl;obtain ⟨hc,hw⟩:=yY hl (gH hs y);split at h
  ·rename_i fT;have fT:=Nat.eq_of_beq_eq_true fT;split at h
   ·rename_i id off hx;split at h
    ·rename_i l0 hb;split at h
     ·rename_i hc2;simp only [Bool.and_eq_true] at hc2;have hle:=Nat.le_of_ble_eq_true hc2.1;have h1:=@bX s x _ hx;simp only [TA.av] at h1;have ND:∀ b,b∈er s.H l→One b:=fun b cl=>by
       rw [c7] at cl;obtain ⟨a,ha,rfl⟩:=List.mem_map.1 cl;exact Wz (List.all_eq_true.1 hc2.2 a ha)
      have m9:=Ru (P:=P) (l0:=er s.H l0) ho hi h1 (gC s y) hc ND (by rw [bG];exact fT) (dG hb) (by rw [bG,bG];exact hle);have hw2:iz s.H s.N (zg l0 off l):=dg.2 fun a ha=>(TC ha).elim (dg.1 (hs.H id _ hb) a) (dg.1 hw a);have e:zg (er s.H l0) off (er s.H l)=er s.H (zg l0 off l):=by rw [c7,c7,c7,TB]
      rw [e] at m9;exact g_ hs h m9 (WA hb) (by simp only [TA.av];exact ik.refl _) (by simp only [TA.wf]) (Je (N:=s.N) (WA hb) hw2) (fun l' e=>by cases e;exact hw2)
     ·cases h
    ·cases h
   ·rename_i id i off hx;split at h
    ·rename_i u v xs hb;split at h
     ·rename_i hle;simp only [Bool.and_eq_true,Bool.not_eq_true'] at hle;have hvd:=hle.2;have hle:=Nat.le_of_ble_eq_true hle.1;have hvc:∀ ys:List u.dn,bV v u ys=cC u ys:=fun ys=>by funext i j;simp only [bV,hvd]
      split at h
      ·rename_i ds tq;split at h
       ·rename_i e he;obtain ⟨ys,Pr,h⟩:∃ ys,Sto u.df xs i e ys∧κ ⟨.lit undef,[(id,some (.row u v ys))],0⟩=some z:=by
         split at h
         ·exact ⟨_,WD,h⟩
         ·exact ⟨_,RK (by simp only [ab5,he]),h⟩
        obtain ⟨d1,d2,d3,d4⟩:=oA tq;have hwx:=gH hs x;rw [hx] at hwx;simp only [TA.wf] at hwx;have dT:=hwx.2 u v xs.length (by rw [hb];rfl);have h1:=@bX s x _ hx;simp only [TA.av,hb] at h1;have hlen:=fm u (nth u.df xs i);have hce:∀ j,(sU u e).getD j .top=((((ew u (nth u.df xs i)).take off)++(ds++(ew u (nth u.df xs i)).drop (off+l.length))).map cT).getD j .top:=fun j=>by
         rw [← fH,ff he]
        have TD:=Pr.2;have m9:=Rw (P:=P) (v:=v.b) (m:=xs.length) (e:=cC u xs) (e':=cC u ys) ho hi h1 (gC s y) hc
         (fun b cl=>by
          rw [c7] at cl;obtain ⟨a,ha,rfl⟩:=List.mem_map.1 cl;obtain ⟨k,hk,rfl⟩:=List.getElem_of_mem ha;intro w F μ K v' I2;have hv2:VR w F μ K ((l.getD k .top).av s.H) v':=by rw [getD_eq _ _ hk];exact I2
          have hk2:k < ds.length:=by omega
          have h5:(ds.map cT).getD k .top=cT ds[k]:=by simp [List.getD,hk2]
          exact Jb (d3 _ (List.getElem_mem hk2)) (h5▸d4 s.H k hk hv2))
         (fun b cl=>by
          rw [c7] at cl;obtain ⟨a,ha,rfl⟩:=List.mem_map.1 cl;cases TE:ER a with
          | true=>exact yZ TE
          | false=>
           exfalso;exact vh tq a ha TE)
         (by rw [bG];exact fT) (by rw [dG hb];simp only [aY.dC,hvc]) dT (by rw [bG];exact hle)
         (fun k hk=>by
          rw [bG] at hk;rw [dO _ _ _ hk];simp only [cC];rw [TD _ dT,if_pos rfl,hce];have h6:((((ew u (nth u.df xs i)).take off)++(ds++(ew u (nth u.df xs i)).drop (off+l.length))).map cT).getD (off+k) .top=(ds.map cT).getD k .top:=by
           have h7:((ew u (nth u.df xs i)).take off).length=off:=by simp [hlen];omega
           simp only [List.getD,List.map_append];rw [List.getElem?_append_right (by simp only [List.length_map,h7];omega)];simp only [List.length_map,h7];rw [show off+k-off=k by omega,List.getElem?_append_left (by simp only [List.length_map];omega)]
          rw [h6];intro w1 F1 KB K1 v1 JH;exact d4 s.H k hk JH)
         (fun i' j' di mQ hn=>by
          rw [bG] at hn;simp only [cC];rw [TD _ di];split
          ·rename_i e1;subst e1;have hxe:xs.getD i.toNat u.df=nth u.df xs i:=rfl;rw [hce,hxe,← fH];have h7:((ew u (nth u.df xs i)).take off).length=off:=by simp [hlen];omega
           simp only [List.getD,List.map_append];by_cases h8:j' < off
           ·rw [List.getElem?_append_left (by simp only [List.length_map,h7];exact h8)];simp [h8]
           ·have h9:off+l.length≤j':=by omega
            rw [List.getElem?_append_right (by simp only [List.length_map,h7];omega)];simp only [List.length_map,h7];rw [List.getElem?_append_right (by simp only [List.length_map];omega)];simp only [List.length_map,List.getElem?_map,List.getElem?_drop]
            congr 3;omega
          ·rfl)
        refine g_ (B:=.row v.b (fx u) xs.length (cC u ys)) hs h m9 (WB hb Pr.1.symm) (by simp only [TA.av];exact ik.refl _) (by simp only [TA.wf]) ?_ (fun l' e=>by cases e);simp only [aY.dC,hvc];rw [Pr.1];exact eQ.refl _
       ·cases h
      ·cases h
     ·cases h
    ·cases h
   ·cases h
  ·cases h
 ·cases h
end Go.Proofs.YtjkbbdldmdajkaaGreatDoor.c_
