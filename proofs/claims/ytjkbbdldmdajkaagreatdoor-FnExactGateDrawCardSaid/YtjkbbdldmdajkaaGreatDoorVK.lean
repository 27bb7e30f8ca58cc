/- The evaluator of operations: memory: loads, stores, variables, rows; that it is sound. No condition. -/
import Derived.Test.YtjkbbdldmdajkaaGreatDoorVJ
set_option linter.unusedSimpArgs false
set_option linter.unusedVariables false
namespace Go.Proofs.YtjkbbdldmdajkaaGreatDoor.c5
open Go Go.RowKit
variable {w w' ss:World} {F F' zT O O' uo:Nat→Prop} {μ aZ jE:Nat→Nat} {K K' C9:Nat→Prop} {ft bX:Nat→Nat→Prop} {P:Program} {R:Type}
def rdT (H:List (Nat×aX)) (a:TA) (n:Nat):Option (List TA):=
 match a with
 | .fp t x off=>if (off+n).ble (ff t) then some ((((dZ t x).drop off).take n).map .d) else none
 | .rb cs off=>if (off+n).ble cs.length then some ((cs.drop off).take n) else none
 | .bp id off=>match aS H id with
  | some (.box l)=>if (off+n).ble l.length then some ((l.drop off).take n) else none
  | _=>none
 | .rp id i off=>match aS H id with
  | some (.row t v xs)=>if (off+n).ble (ff t)&&!(v.d&&XO t off n) then some ((((dZ t (nth t.df xs i)).drop off).take n).map .d) else none
  | some (.de t v xs _ os)=>if (off+n).ble (ff t)&&(!(v.d&&XO t off n)&&(List.range n).all fun k=>(tb os (off+k)).isNone) then some ((((dZ t (nth t.df xs i)).drop off).take n).map .d) else none
  | _=>none
 | _=>none
theorem U2 {l:List cG} {off n k:Nat} (hk:k < n) (h:off+n≤l.length):((((l.drop off).take n).map TA.d).getD k .top)=.d (l[off+k]'(by omega)):=by
 simp [List.getD,hk,List.getElem?_take,List.getElem?_drop,show off+k < l.length by omega]
theorem Hd {t:Ty} {x:t.dn} {k:Nat} (h:k < (dZ t x).length):(r9 t x).getD k .top=cL ((dZ t x)[k]):=by
 rw [← fw];simp [List.getD,h]
theorem getD_eq (l:List TA) (k:Nat) (h:k < l.length):l.getD k .top=l[k]:=by simp [List.getD,h]
theorem BU {n:Nat} {c:Nat→AV} {H:List (Nat×aX)} {l:List TA} (hl:l.length=n) (h:∀ k,k < n→c k=(l.getD k .top).av H):(List.range n).map c=di H l:=by
 rw [cW];refine List.ext_getElem (by simp [hl]) fun k h1 h2=>?_;have hk:k < l.length:=by simpa using h2
 simp only [List.getElem_map,List.getElem_range];rw [h k (by omega),getD_eq _ _ hk]
theorem Q9 {s:bL} (hs:s.ok) {x:Operand} {n:Nat} {l:List TA} (h:rdT s.H (s.val x) n=some l):l.length=n∧hU s.H s.N l∧∃ c,Rdb s.st x n c∧∀ k,k < n→c k=(l.getD k .top).av s.H:=by
 unfold rdT at h;split at h
 ·rename_i t y off hx;split at h
  ·rename_i hb;have hb:=Nat.le_of_ble_eq_true hb;cases h;have hlen:=fa t y;refine ⟨by simp [hlen];omega,cZ.2 fun a ha=>?_,_,adO (@bY s x _ hx) hb,fun k hk=>?_⟩
   ·obtain ⟨d,_,rfl⟩:=List.mem_map.1 ha;simp only [TA.wf]
   ·rw [U2 hk (by omega)];simp only [TA.av];exact Hd (by omega)
  ·cases h
 ·rename_i cs off hx;split at h
  ·rename_i hb;have hb:=Nat.le_of_ble_eq_true hb;cases h;have hw:=fS hs x;rw [hx] at hw;simp only [TA.wf] at hw;have h1:=@bY s x _ hx;simp only [TA.av] at h1;refine ⟨by simp;omega,cZ.2 fun a ha=>cZ.1 hw a (List.mem_of_mem_drop (List.mem_of_mem_take ha)),_,adP h1 (by rw [bC];exact hb),fun k hk=>?_⟩;rw [dq _ _ _ (by omega)]
   congr 1
   simp [List.getD,hk,List.getElem?_take,List.getElem?_drop]
  ·cases h
 ·rename_i id off hx;split at h
  ·rename_i l0 hl0;split at h
   ·rename_i hb;have hb:=Nat.le_of_ble_eq_true hb;cases h;have hw:hU s.H s.N l0:=hs.H id _ hl0;have h1:=@bY s x _ hx;simp only [TA.av] at h1;refine ⟨by simp;omega,cZ.2 fun a ha=>cZ.1 hw a (List.mem_of_mem_drop (List.mem_of_mem_take ha)),_,adQ (l:=di s.H l0) h1 (dx hl0) (by rw [bC];exact hb),fun k hk=>?_⟩;rw [dq _ _ _ (by omega)]
    congr 1
    simp [List.getD,hk,List.getElem?_take,List.getElem?_drop]
   ·cases h
  ·cases h
 ·rename_i id i off hx;split at h
  ·rename_i t v xs hb0;split at h
   ·rename_i hb;simp only [Bool.and_eq_true,Bool.not_eq_true'] at hb;have hp:v.d=true→XO t off n=false:=fun h=>by have:=hb.2;rw [h,Bool.true_and] at this;exact this
    have hb:=Nat.le_of_ble_eq_true hb.1;cases h;have hw:=fS hs x;rw [hx] at hw;simp only [TA.wf] at hw;have hi:=hw.2 t v xs.length (by rw [hb0];rfl);have hlen:=fa t (nth t.df xs i);have h1:=@bY s x _ hx;simp only [TA.av,hb0] at h1;refine ⟨by simp [hlen];omega,cZ.2 fun a ha=>?_,_,adR (v:=v.b) (e:=bV v t xs) (m:=xs.length) h1 (dx hb0) hi hb (fun k hk=>by rw [BR hp hk];exact Ee _ _ _ _),fun k hk=>?_⟩
    ·obtain ⟨d,_,rfl⟩:=List.mem_map.1 ha;simp only [TA.wf]
    ·rw [U2 hk (by omega),BR hp hk];simp only [TA.av];exact Hd (t:=t) (x:=nth t.df xs i) (by omega)
   ·cases h
  ·rename_i t v xs i0 os hb0;split at h
   ·rename_i hb;simp only [Bool.and_eq_true,Bool.not_eq_true'] at hb;have hp:v.d=true→XO t off n=false:=fun h=>by have:=hb.2.1;rw [h,Bool.true_and] at this;exact this
    have hno:∀ k,k < n→tb os (off+k)=none:=fun k hk=>by
     have:=List.all_eq_true.1 hb.2.2 k (List.mem_range.2 hk);simpa using this
    have hb:=Nat.le_of_ble_eq_true hb.1;cases h;have hw:=fS hs x;rw [hx] at hw;simp only [TA.wf] at hw;have hi:=hw.2 t v xs.length (by rw [hb0];rfl);have hlen:=fa t (nth t.df xs i);have h1:=@bY s x _ hx;simp only [TA.av,hb0] at h1;have hc:∀ k,k < n→sg s.H v t xs i0 os i.toNat (off+k)=cz t xs i.toNat (off+k):=fun k hk=>by
     simp only [sg,hno k hk,BR hp hk,ite_self]
    refine ⟨by simp [hlen];omega,cZ.2 fun a ha=>?_,_,abw (v:=v.b) (e:=sg s.H v t xs i0 os) (m:=xs.length) h1 (dx hb0) hi hb (fun k hk=>by rw [hc k hk];exact Ee _ _ _ _),fun k hk=>?_⟩
    ·obtain ⟨d,_,rfl⟩:=List.mem_map.1 ha;simp only [TA.wf]
    ·rw [U2 hk (by omega),hc k hk];simp only [TA.av];exact Hd (t:=t) (x:=nth t.df xs i) (by omega)
   ·cases h
  ·cases h
 ·cases h
def Q_ (P:Program) (H:List (Nat×aX)) (t:TypeId) (x:TA) (κ:cu→Option R):Option R:=
 match P.underlying t,P.info? t with
 | some d,some i=>if Iv d then (match rdT H x i.size with
   | some l=>κ ⟨.agg l,[],0⟩
   | none=>none) else (match rdT H x 1 with
   | some [a]=>κ ⟨a,[],0⟩
   | _=>none)
 | _,_=>none
theorem PQ {o:Oper} {s:bL} {κ:cu→Option R} {z:R} {x:Operand} {t:TypeId} (ho:o.op=.load t x) (hs:s.ok) (h:Q_ P s.H t (s.val x) κ=some z):vh P o s κ z:=by
 unfold Q_ at h;split at h
 ·rename_i d i hd hi;split at h
  ·rename_i ha;split at h
   ·rename_i l hl;obtain ⟨h1,h2,c,h3,h4⟩:=Q9 hs hl;refine sj h ?_ (by simp only [TA.wf];exact h2);have:=SO (P:=P) ho hd hi ha h3;rw [BU h1 h4] at this;simpa only [TA.av] using this
   ·cases h
  ·rename_i ha;split at h
   ·rename_i a hl;obtain ⟨h1,h2,c,h3,h4⟩:=Q9 hs hl;simp only [hU] at h2;have:=SP (P:=P) ho hd (by simpa using ha) h3;rw [h4 0 (by omega)] at this;exact sj h this h2.1
   ·cases h
 ·cases h
def S5 (P:Program) (t:TypeId) (cs:List TA) (off:Nat):Option TA:=
 match P.underlying t,P.info? t with
 | some d,some i=>if Iv d then some (.agg ((cs.drop off).take i.size)) else if off.blt cs.length then some (cs.getD off .top) else none
 | _,_=>none
def Ra (P:Program) (t:TypeId) (x:TA) (k:Nat) (κ:cu→Option R):Option R:=
 match x,Ix P t k with
 | .agg l,some f=>match S5 P f.type l f.offset with
  | some r=>κ ⟨r,[],0⟩
  | none=>none
 | _,_=>none
theorem U3 {o:Oper} {s:bL} {κ:cu→Option R} {z:R} {x:Operand} {t:TypeId} {k:Nat} (ho:o.op=.field t x k) (hs:s.ok) (h:Ra P t (s.val x) k κ=some z):vh P o s κ z:=by
 unfold Ra at h;split at h
 ·rename_i l f hx hf;split at h
  ·rename_i r hr;have h1:=@bY s x _ hx;simp only [TA.av] at h1;have hw:=fS hs x;rw [hx] at hw;simp only [TA.wf] at hw;unfold S5 at hr;split at hr
   ·rename_i d i hd hi;split at hr
    ·rename_i ha;cases hr;refine kh h (SQ ho h1 hf (r:=.agg (((di s.H l).drop f.offset).take i.size)) (by simp only [D8,hd,hi,ha,if_true])) ?_ ?_
     ·simp only [TA.av,cW,List.map_take,List.map_drop];exact g8.refl _
     ·simp only [TA.wf];exact cZ.2 fun a ha=>cZ.1 hw a (List.mem_of_mem_drop (List.mem_of_mem_take ha))
    ·rename_i ha;split at hr
     ·rename_i dY;cases hr;have ZH:f.offset < l.length:=Nat.le_of_ble_eq_true (by simpa [Nat.blt] using dY);refine kh h (SQ ho h1 hf (r:=(di s.H l).getD f.offset .top) (by simp only [D8,hd,hi,if_neg ha];rw [if_pos (by rw [bC];exact dY)])) ?_ (BT hw _);rw [dq _ _ _ ZH];exact g8.refl _
     ·cases hr
   ·cases hr
  ·cases h
 ·cases h
def ZV (H:List (Nat×aX)):TA→Bool
 | .top | .agg _ | .ov _=>false
 | .lit v=>v.oneCell'
 | .d y=>y.t.leaf
 | .ow id=>match aS H id with
  | some (.row _ _ _)=>true
  | _=>false
 | .rp id _ _=>match aS H id with
  | some (.row _ _ _)=>true
  | _=>false
 | _=>true
theorem Wg {H:List (Nat×aX)} {a:TA} (h:ZV H a=true):One (a.av H):=by
 intro w F μ K v hv;cases a with
 | top=>cases h
 | agg=>cases h
 | ov=>cases h
 | lit u=>simp only [TA.av] at hv;rw [hv.Ir];exact h
 | d y=>simp only [TA.av] at hv;exact IG h hv
 | fb=>simp only [TA.av] at hv;rw [hv.pr];rfl
 | fp t x off=>simp only [TA.av] at hv;cases hv;rfl
 | rb cs off=>simp only [TA.av] at hv;cases hv;rfl
 | ow id=>
  simp only [ZV] at h;split at h
  ·rename_i t v' xs hb;simp only [TA.av,hb] at hv;rcases qP hv with ⟨⟨_,rfl⟩,_⟩ | ⟨cap,sz,t,rfl,_⟩<;>rfl
  ·cases h
 | bs id n bB=>simp only [TA.av] at hv;cases hv;rfl
 | bp id off=>simp only [TA.av] at hv;cases hv;rfl
 | rp id i off=>
  simp only [ZV] at h;split at h
  ·rename_i t v' xs hb;simp only [TA.av,hb] at hv;cases hv;rfl
  ·cases h
 | mp id=>simp only [TA.av] at hv;cases hv;rfl
 | oR t a=>simp only [TA.av] at hv;cases hv;rfl
 | fn f xs ys=>simp only [TA.av] at hv;cases hv;rfl
def BV (H:List (Nat×aX)):TA→Option (List TA)
 | .agg cs=>some cs
 | a=>if ZV H a then some [a] else none
theorem yf {H:List (Nat×aX)} {N:Nat} {a:TA} {l:List TA} (h:BV H a=some l) (hw:a.wf H N):BN (a.av H) (di H l)∧hU H N l:=by
 unfold BV at h;split at h
 ·cases h;simp only [TA.wf] at hw;exact ⟨by simp only [TA.av];exact UP _,hw⟩
 ·split at h
  ·rename_i h1;cases h;exact ⟨by simp only [di];exact UQ (Wg h1),by simp only [hU];exact ⟨hw,trivial⟩⟩
  ·cases h
theorem pt (H:List (Nat×aX)) (qT:Nat) (b:aX) (id:Nat):aS (cA H [(qT,some b)]) id=if id=qT then some b else aS H id:=by
 simp only [cA,aS];cases e:Nat.beq id qT with
 | true=>rw [if_pos (Nat.eq_of_beq_eq_true e)]
 | false=>rw [if_neg (Nat.ne_of_beq_eq_false e)]
theorem mZ {H:List (Nat×aX)} {N:Nat} {b:aX}:Sub H (cA H [(N,some b)]) N:=wK (L:=[]) fun h=>absurd h (by omega)
theorem Wh {H:List (Nat×aX)} {N qT:Nat} {l l0:List TA} (hb:aS H qT=some (.box l0)):Sub H (cA H [(qT,some (.box l))]) N:=wK (L:=[]) fun _=>by rw [hb];rfl
theorem Wi {H:List (Nat×aX)} {N qT:Nat} {t:Ty} {v:RV} {xs ZU:List t.dn} (hb:aS H qT=some (.row t v xs)) (hl:xs.length=ZU.length):Sub H (cA H [(qT,some (.row t v ZU))]) N:=
 wK (L:=[]) fun _=>by rw [hb];simp only [fv,hl]
def aX.isH:aX→Bool
 | .de _ _ _ _ _=>true
 | _=>false
theorem g6 {o:Oper} {s:bL} {κ:cu→Option R} {z:R} {rv:AV} {v:TA} {qT k:Nat} {b:aX} {B:jz} (hs:s.ok) (hk:κ ⟨v,[(qT,some b)],k⟩=some z) (h:dg P o s.st ⟨rv,[(qT,some B)],List.range' s.N k⟩)
  (jx:Sub s.H (cA s.H [(qT,some b)]) s.N) (hv:g8 rv (v.av (cA s.H [(qT,some b)]))) (hw:v.wf (cA s.H [(qT,some b)]) (s.N+k)) (hB:eg B (b.du (cA s.H [(qT,some b)])))
  (hbw:∀ l,b=.box l→hU s.H s.N l) (hnh:b.isH=false:=by rfl):vh P o s κ z:=by
 refine ⟨⟨v,[(qT,some b)],k⟩,Q5 (L:=[]) hs h jx hv hB,⟨jx,hw,fun id l hl=>?_⟩,hk⟩;simp only [List.mem_singleton,Prod.mk.injEq,Option.some.injEq] at hl;have hr:hU s.H s.N b.refs:=by
  cases b with
  | box l=>exact hbw l rfl
  | de=>cases hnh
  | _=>simp only [aX.refs,hU]
 rw [hl.2];exact (g0 jx (Nat.le_add_right _ _) _ hr).2
theorem II {H H':List (Nat×aX)} {N:Nat} {l:List TA} (h:Sub H H' N) (hw:hU H N l):eg (.box (di H l)) ((aX.box l).du H'):=by
 simp only [aX.du,(g0 h (Nat.le_refl _) l hw).1];exact eg.refl _
def Wj (s:bL) (x:TA) (κ:cu→Option R):Option R:=
 match BV s.H x with
 | some l=>κ ⟨.bp s.N 0,[(s.N,some (.box l))],1⟩
 | none=>none
theorem S6 {o:Oper} {s:bL} {κ:cu→Option R} {z:R} {x:Operand} {t:TypeId} (ho:o.op=.box t x) (hs:s.ok) (h:Wj s (s.val x) κ=some z):vh P o s κ z:=by
 unfold Wj at h;split at h
 ·rename_i l hl;obtain ⟨h1,h2⟩:=yf hl (fS hs x);exact g6 hs h (adT (N:=s.N) ho (gu s x) h1) mZ (by simp only [TA.av];exact g8.refl _) (by simp only [TA.wf]) (II (N:=s.N) mZ h2) (fun l' e=>by cases e;exact h2)
 ·cases h
def Cw (P:Program) (t:TypeId):Option (List TA):=
 match P.info? t with
 | some i=>match i.zero with
  | some z=>some (z.cells.toList.map cst)
  | none=>none
 | none=>none
theorem ZW (H:List (Nat×aX)) (N:Nat) (v:Value):(cst v).wf H N:=by
 unfold cst;split<;>simp [TA.wf,hU]
theorem pv {t:TypeId} {l:List TA} (h:Cw P t=some l) (H:List (Nat×aX)) (N:Nat):zk P t=some (di H l)∧hU H N l:=by
 unfold Cw at h;unfold zk;split at h
 ·rename_i i hi;split at h
  ·rename_i z hz;cases h;refine ⟨?_,cZ.2 fun a ha=>?_⟩
   ·rw [hi];simp only [hz,cW,List.map_map,Option.some.injEq];exact List.map_congr_left fun v _=>(Nd H v).symm
   ·obtain ⟨v,_,rfl⟩:=List.mem_map.1 ha;exact ZW H N v
  ·cases h
 ·cases h
def LO (P:Program) (s:bL) (t:TypeId) (κ:cu→Option R):Option R:=
 match Cw P t with
 | some l=>κ ⟨.bp s.N 0,[(s.N,some (.box l))],1⟩
 | none=>none
theorem No {o:Oper} {s:bL} {κ:cu→Option R} {z:R} {t:TypeId} (ho:o.op=.alloc t) (hs:s.ok) (h:LO P s t κ=some z):vh P o s κ z:=by
 unfold LO at h;split at h
 ·rename_i l hl;obtain ⟨h1,h2⟩:=pv hl s.H s.N;exact g6 hs h (SU (N:=s.N) ho h1) mZ (by simp only [TA.av];exact g8.refl _) (by simp only [TA.wf]) (II (N:=s.N) mZ h2) (fun l' e=>by cases e;exact h2)
 ·cases h
theorem S7 {α β:Type} (f:α→β) (l:List α) (o:Nat) (r:List α):(BO l o r).map f=BO (l.map f) o (r.map f):=by
 induction r generalizing l o with
 | nil=>rfl
 | cons x r ih=>simp only [BO,List.map_cons,ih,List.map_set]
theorem S8 {α:Type} {l:List α} {o:Nat} {r:List α} {a:α} (h:a∈BO l o r):a∈l∨a∈r:=by
 induction r generalizing l o with
 | nil=>exact .inl h
 | cons x r ih=>
  simp only [BO] at h;rcases ih h with h | h
  ·rcases List.mem_or_eq_of_mem_set h with h | h
   ·exact .inl h
   ·exact .inr (by simp [h])
  ·exact .inr (by simp [h])
def Eg:TA→Bool
 | .d y=>y.t.leaf
 | .fb=>true
 | _=>false
theorem yg {H:List (Nat×aX)} {a:TA} (h:Eg a=true):PI (a.av H):=by
 unfold Eg at h;split at h
 ·simp only [TA.av];exact fun hv=>uq h hv
 ·simp only [TA.av];exact fun hv=>by rw [hv.pr];exact .fb
 ·cases h
theorem BW {t:Ty} {a:TA} {y:cG} (h:td t a=some y):Eg a=true:=by
 unfold td at h;split at h
 ·split at h
  ·split at h
   ·rename_i h1;exact h1
   ·cases h
  ·cases h
 ·rfl
 ·cases h
theorem uv:∀ {ts:List Ty} {l:List TA} {r:List cG},si ts l=some r→∀ a,a∈l→Eg a≠false
 | [],[],r,h,a,ha=>by cases ha
 | [],_::_,r,h,_,_=>by cases h
 | _::_,[],r,h,a,ha=>by cases ha
 | t::ts,b::l,r,h,a,ha=>by
  simp only [si] at h;split at h
  ·rename_i y r' hy hr;rcases List.mem_cons.1 ha with e | e
   ·rw [e,BW hy];simp
   ·exact uv hr a e
  ·cases h
def bA {α:Type} (xs:List α) (i:Int) (f:α→α):List α:=xs.modify i.toNat f
def abF (u:Ty) (off n:Nat) (ds:List cG) (x:u.dn):u.dn:=match LL u (((dZ u x).take off)++(ds++(dZ u x).drop (off+n))) with
 | some y=>y
 | none=>x
def Sto {α:Type} (d:α) (xs:List α) (i:Int) (e:α) (ys:List α):Prop:=ys.length=xs.length∧∀ i',i' < xs.length→ys.getD i' d=if i'=i.toNat then e else xs.getD i' d
theorem Wk {α:Type} {d:α} {xs:List α} {i:Int} {e:α}:Sto d xs i e (nQ xs i e):=⟨by simp [nQ],fun i' da=>by
 unfold nQ;by_cases e1:i'=i.toNat
 ·subst e1;simp [List.getD,da]
 ·rw [if_neg e1];simp [List.getD,List.getElem?_set_ne (Ne.symm e1)]⟩
theorem Rb {α:Type} {d:α} {xs:List α} {i:Int} {e:α} {f:α→α} (h:f (nth d xs i)=e):Sto d xs i e (bA xs i f):=⟨by simp [bA],fun i' da=>by
 unfold bA;by_cases e1:i'=i.toNat
 ·subst e1;rw [if_pos rfl,← h];simp [List.getD,nth,List.getElem?_modify,da]
 ·rw [if_neg e1];simp [List.getD,List.getElem?_modify,Ne.symm e1]⟩
def LP (P:Program) (H:List (Nat×aX)) (t:TypeId) (x y:TA) (κ:cu→Option R):Option R:=
 match P.info? t,BV H y with
 | some ti,some l=>if Nat.beq l.length ti.size then (match x with
  | .bp id off=>match aS H id with
   | some (.box l0)=>if (off+l.length).ble l0.length&&l.all (ZV H) then κ ⟨.lit undef,[(id,some (.box (BO l0 off l)))],0⟩ else none
   | _=>none
  | .rp id i off=>match aS H id with
   | some (.row u v xs)=>if (off+l.length).ble (ff u)&&!v.d then (match si (((FI u).drop off).take l.length) l with
    | some ds=>match LL u (((dZ u (nth u.df xs i)).take off)++(ds++(dZ u (nth u.df xs i)).drop (off+l.length))) with
     | some e=>match Nat.beq l.length (ff u) with
      | true=>κ ⟨.lit undef,[(id,some (.row u v (nQ xs i e)))],0⟩
      | false=>κ ⟨.lit undef,[(id,some (.row u v (bA xs i (abF u off l.length ds))))],0⟩
     | none=>none
    | none=>none) else none
   | _=>none
  | _=>none) else none
 | _,_=>none
theorem Np {o:Oper} {s:bL} {κ:cu→Option R} {z:R} {x y:Operand} {t:TypeId} (ho:o.op=.store t x y) (hs:s.ok) (h:LP P s.H t (s.val x) (s.val y) κ=some z):vh P o s κ z:=by
 unfold LP at h;split at h
 ·rename_i ti l hi hl;obtain ⟨hc,hw⟩:=yf hl (fS hs y);split at h
  ·rename_i fh;have fh:=Nat.eq_of_beq_eq_true fh;split at h
   ·rename_i id off hx;split at h
    ·rename_i l0 hb;split at h
     ·rename_i hc2;simp only [Bool.and_eq_true] at hc2;have hle:=Nat.le_of_ble_eq_true hc2.1;have h1:=@bY s x _ hx;simp only [TA.av] at h1;have M6:∀ b,b∈di s.H l→One b:=fun b ck=>by
       rw [cW] at ck;obtain ⟨a,ha,rfl⟩:=List.mem_map.1 ck;exact Wg (List.all_eq_true.1 hc2.2 a ha)
      have lX:=QZ (P:=P) (l0:=di s.H l0) ho hi h1 (gu s y) hc M6 (by rw [bC];exact fh) (dx hb) (by rw [bC,bC];exact hle);have hw2:hU s.H s.N (BO l0 off l):=cZ.2 fun a ha=>(S8 ha).elim (cZ.1 (hs.H id _ hb) a) (cZ.1 hw a);have e:BO (di s.H l0) off (di s.H l)=di s.H (BO l0 off l):=by rw [cW,cW,cW,S7]
      rw [e] at lX;exact g6 hs h lX (Wh hb) (by simp only [TA.av];exact g8.refl _) (by simp only [TA.wf]) (II (N:=s.N) (Wh hb) hw2) (fun l' e=>by cases e;exact hw2)
     ·cases h
    ·cases h
   ·rename_i id i off hx;split at h
    ·rename_i u v xs hb;split at h
     ·rename_i hle;simp only [Bool.and_eq_true,Bool.not_eq_true'] at hle;have hvd:=hle.2;have hle:=Nat.le_of_ble_eq_true hle.1;have hvc:∀ ys:List u.dn,bV v u ys=cz u ys:=fun ys=>by funext i j;simp only [bV,hvd]
      split at h
      ·rename_i ds sy;split at h
       ·rename_i e he;obtain ⟨ys,OS,h⟩:∃ ys,Sto u.df xs i e ys∧κ ⟨.lit undef,[(id,some (.row u v ys))],0⟩=some z:=by
         split at h
         ·exact ⟨_,Wk,h⟩
         ·exact ⟨_,Rb (by simp only [abF,he]),h⟩
        obtain ⟨d1,d2,d3,d4⟩:=nK sy;have hwx:=fS hs x;rw [hx] at hwx;simp only [TA.wf] at hwx;have dY:=hwx.2 u v xs.length (by rw [hb];rfl);have h1:=@bY s x _ hx;simp only [TA.av,hb] at h1;have hlen:=fa u (nth u.df xs i);have hce:∀ j,(r9 u e).getD j .top=((((dZ u (nth u.df xs i)).take off)++(ds++(dZ u (nth u.df xs i)).drop (off+l.length))).map cL).getD j .top:=fun j=>by
         rw [← fw,eU he]
        have S9:=OS.2;have lX:=Q0 (P:=P) (v:=v.b) (m:=xs.length) (e:=cz u xs) (e':=cz u ys) ho hi h1 (gu s y) hc
         (fun b ck=>by
          rw [cW] at ck;obtain ⟨a,ha,rfl⟩:=List.mem_map.1 ck;obtain ⟨k,hk,rfl⟩:=List.getElem_of_mem ha;intro w F μ K v' Iw;have hv2:VR w F μ K ((l.getD k .top).av s.H) v':=by rw [getD_eq _ _ hk];exact Iw
          have hk2:k < ds.length:=by omega
          have h5:(ds.map cL).getD k .top=cL ds[k]:=by simp [List.getD,hk2]
          exact IG (d3 _ (List.getElem_mem hk2)) (h5▸d4 s.H k hk hv2))
         (fun b ck=>by
          rw [cW] at ck;obtain ⟨a,ha,rfl⟩:=List.mem_map.1 ck;cases S_:Eg a with
          | true=>exact yg S_
          | false=>
           exfalso;exact uv sy a ha S_)
         (by rw [bC];exact fh) (by rw [dx hb];simp only [aX.du,hvc]) dY (by rw [bC];exact hle)
         (fun k hk=>by
          rw [bC] at hk;rw [dq _ _ _ hk];simp only [cz];rw [S9 _ dY,if_pos rfl,hce];have h6:((((dZ u (nth u.df xs i)).take off)++(ds++(dZ u (nth u.df xs i)).drop (off+l.length))).map cL).getD (off+k) .top=(ds.map cL).getD k .top:=by
           have h7:((dZ u (nth u.df xs i)).take off).length=off:=by simp [hlen];omega
           simp only [List.getD,List.map_append];rw [List.getElem?_append_right (by simp only [List.length_map,h7];omega)];simp only [List.length_map,h7];rw [show off+k-off=k by omega,List.getElem?_append_left (by simp only [List.length_map];omega)]
          rw [h6];intro w1 F1 Hz K1 v1 Ja;exact d4 s.H k hk Ja)
         (fun i' j' da mi hn=>by
          rw [bC] at hn;simp only [cz];rw [S9 _ da];split
          ·rename_i e1;subst e1;have hxe:xs.getD i.toNat u.df=nth u.df xs i:=rfl;rw [hce,hxe,← fw];have h7:((dZ u (nth u.df xs i)).take off).length=off:=by simp [hlen];omega
           simp only [List.getD,List.map_append];by_cases h8:j' < off
           ·rw [List.getElem?_append_left (by simp only [List.length_map,h7];exact h8)];simp [h8]
           ·have h9:off+l.length≤j':=by omega
            rw [List.getElem?_append_right (by simp only [List.length_map,h7];omega)];simp only [List.length_map,h7];rw [List.getElem?_append_right (by simp only [List.length_map];omega)];simp only [List.length_map,List.getElem?_map,List.getElem?_drop]
            congr 3;omega
          ·rfl)
        refine g6 (B:=.row v.b (ff u) xs.length (cz u ys)) hs h lX (Wi hb OS.1.symm) (by simp only [TA.av];exact g8.refl _) (by simp only [TA.wf]) ?_ (fun l' e=>by cases e);simp only [aX.du,hvc];rw [OS.1];exact eg.refl _
       ·cases h
      ·cases h
     ·cases h
    ·cases h
   ·cases h
  ·cases h
 ·cases h
end Go.Proofs.YtjkbbdldmdajkaaGreatDoor.c5
