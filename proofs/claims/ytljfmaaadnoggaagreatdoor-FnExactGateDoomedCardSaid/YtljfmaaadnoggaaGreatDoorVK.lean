/- The evaluator of operations: memory: loads, stores, variables, rows; that it is sound. No condition. -/
import Derived.Test.YtljfmaaadnoggaaGreatDoorVJ
set_option linter.unusedSimpArgs false
set_option linter.unusedVariables false
namespace Go.Proofs.YtljfmaaadnoggaaGreatDoor.cX
open Go Go.RowKit
variable {w w' xW:World} {F F' Cq O O' wx:Nat→Prop} {μ bC kZ:Nat→Nat} {K K' Gg:Nat→Prop} {ft b8:Nat→Nat→Prop} {P:Program} {R:Type}
def rdT (H:List (Nat×aY)) (a:TA) (n:Nat):Option (List TA):=
 match a with
 | .fp t x off=>if (off+n).ble (fg t) then some ((((dV t x).drop off).take n).map .d) else none
 | .bp id off=>match aR H id with
  | some (.box l)=>if (off+n).ble l.length then some ((l.drop off).take n) else none
  | _=>none
 | .rp id i off=>match aR H id with
  | some (.row t v xs)=>if (off+n).ble (fg t)&&!(v.d&&aaG t off n) then some ((((dV t (nth t.df xs i)).drop off).take n).map .d) else none
  | some (.da t v xs _ os)=>if (off+n).ble (fg t)&&(!(v.d&&aaG t off n)&&(List.range n).all fun k=>(uh os (off+k)).isNone) then some ((((dV t (nth t.df xs i)).drop off).take n).map .d) else none
  | _=>none
 | _=>none
theorem XW {l:List cI} {off n k:Nat} (hk:k < n) (h:off+n≤l.length):((((l.drop off).take n).map TA.d).getD k .top)=.d (l[off+k]'(by omega)):=by
 simp [List.getD,hk,List.getElem?_take,List.getElem?_drop,show off+k < l.length by omega]
theorem JJ {t:Ty} {x:t.dn} {k:Nat} (h:k < (dV t x).length):(sV t x).getD k .top=cN ((dV t x)[k]):=by
 rw [← fx];simp [List.getD,h]
theorem getD_eq (l:List TA) (k:Nat) (h:k < l.length):l.getD k .top=l[k]:=by simp [List.getD,h]
theorem DA {n:Nat} {c:Nat→AV} {H:List (Nat×aY)} {l:List TA} (hl:l.length=n) (h:∀ k,k < n→c k=(l.getD k .top).av H):(List.range n).map c=dU H l:=by
 rw [cV]
 refine List.ext_getElem (by simp [hl]) fun k h1 h2=>?_
 have hk:k < l.length:=by simpa using h2
 simp only [List.getElem_map,List.getElem_range]
 rw [h k (by omega),getD_eq _ _ hk]
theorem T4 {s:bQ} (hs:s.ok) {x:Operand} {n:Nat} {l:List TA} (h:rdT s.H (s.val x) n=some l):l.length=n∧iw s.H s.N l∧∃ c,Rdb s.st x n c∧∀ k,k < n→c k=(l.getD k .top).av s.H:=by
 unfold rdT at h
 split at h
 ·rename_i t y off hx
  split at h
  ·rename_i hb
   have hb:=Nat.le_of_ble_eq_true hb
   cases h
   have hlen:=e9 t y
   refine ⟨by simp [hlen];omega,c8.2 fun a ha=>?_,_,agm (@b9 s x _ hx) hb,fun k hk=>?_⟩
   ·obtain ⟨d,_,rfl⟩:=List.mem_map.1 ha
    simp only [TA.wf]
   ·rw [XW hk (by omega)]
    simp only [TA.av]
    exact JJ (by omega)
  ·cases h
 ·rename_i id off hx
  split at h
  ·rename_i l0 hl0
   split at h
   ·rename_i hb
    have hb:=Nat.le_of_ble_eq_true hb
    cases h
    have hw:iw s.H s.N l0:=hs.H id _ hl0
    have h1:=@b9 s x _ hx
    simp only [TA.av] at h1
    refine ⟨by simp;omega,c8.2 fun a ha=>c8.1 hw a (List.mem_of_mem_drop (List.mem_of_mem_take ha)),_,agn (l:=dU s.H l0) h1 (dz hl0) (by rw [bI];exact hb),fun k hk=>?_⟩
    rw [dH _ _ _ (by omega)]
    congr 1
    simp [List.getD,hk,List.getElem?_take,List.getElem?_drop]
   ·cases h
  ·cases h
 ·rename_i id i off hx
  split at h
  ·rename_i t v xs hb0
   split at h
   ·rename_i hb
    simp only [Bool.and_eq_true,Bool.not_eq_true'] at hb
    have hp:v.d=true→aaG t off n=false:=fun h=>by have:=hb.2;rw [h,Bool.true_and] at this;exact this
    have hb:=Nat.le_of_ble_eq_true hb.1
    cases h
    have hw:=gy hs x
    rw [hx] at hw
    simp only [TA.wf] at hw
    have hi:=hw.2 t v xs.length (by rw [hb0];rfl)
    have hlen:=e9 t (nth t.df xs i)
    have h1:=@b9 s x _ hx
    simp only [TA.av,hb0] at h1
    refine ⟨by simp [hlen];omega,c8.2 fun a ha=>?_,_,ago (v:=v.b) (e:=bY v t xs) (m:=xs.length) h1 (dz hb0) hi hb (fun k hk=>by rw [Dx hp hk];exact Gt _ _ _ _),fun k hk=>?_⟩
    ·obtain ⟨d,_,rfl⟩:=List.mem_map.1 ha
     simp only [TA.wf]
    ·rw [XW hk (by omega),Dx hp hk]
     simp only [TA.av]
     exact JJ (t:=t) (x:=nth t.df xs i) (by omega)
   ·cases h
  ·rename_i t v xs i0 os hb0
   split at h
   ·rename_i hb
    simp only [Bool.and_eq_true,Bool.not_eq_true'] at hb
    have hp:v.d=true→aaG t off n=false:=fun h=>by have:=hb.2.1;rw [h,Bool.true_and] at this;exact this
    have hno:∀ k,k < n→uh os (off+k)=none:=fun k hk=>by
     have:=List.all_eq_true.1 hb.2.2 k (List.mem_range.2 hk)
     simpa using this
    have hb:=Nat.le_of_ble_eq_true hb.1
    cases h
    have hw:=gy hs x
    rw [hx] at hw
    simp only [TA.wf] at hw
    have hi:=hw.2 t v xs.length (by rw [hb0];rfl)
    have hlen:=e9 t (nth t.df xs i)
    have h1:=@b9 s x _ hx
    simp only [TA.av,hb0] at h1
    have hc:∀ k,k < n→tp s.H v t xs i0 os i.toNat (off+k)=cC t xs i.toNat (off+k):=fun k hk=>by
     simp only [tp,hno k hk,Dx hp hk,ite_self]
    refine ⟨by simp [hlen];omega,c8.2 fun a ha=>?_,_,adT (v:=v.b) (e:=tp s.H v t xs i0 os) (m:=xs.length) h1 (dz hb0) hi hb (fun k hk=>by rw [hc k hk];exact Gt _ _ _ _),fun k hk=>?_⟩
    ·obtain ⟨d,_,rfl⟩:=List.mem_map.1 ha
     simp only [TA.wf]
    ·rw [XW hk (by omega),hc k hk]
     simp only [TA.av]
     exact JJ (t:=t) (x:=nth t.df xs i) (by omega)
   ·cases h
  ·cases h
 ·cases h
def T5 (P:Program) (H:List (Nat×aY)) (t:TypeId) (x:TA) (κ:cE→Option R):Option R:=
 match P.underlying t,P.info? t with
 | some d,some i=>if KY d then (match rdT H x i.size with
   | some l=>κ ⟨.agg l,[],0⟩
   | none=>none) else (match rdT H x 1 with
   | some [a]=>κ ⟨a,[],0⟩
   | _=>none)
 | _,_=>none
theorem So {o:Oper} {s:bQ} {κ:cE→Option R} {z:R} {x:Operand} {t:TypeId} (ho:o.op=.load t x) (hs:s.ok) (h:T5 P s.H t (s.val x) κ=some z):xY P o s κ z:=by
 unfold T5 at h
 split at h
 ·rename_i d i hd hi
  split at h
  ·rename_i ha
   split at h
   ·rename_i l hl
    obtain ⟨h1,h2,c,h3,h4⟩:=T4 hs hl
    refine tr h ?_ (by simp only [TA.wf];exact h2)
    have:=VL (P:=P) ho hd hi ha h3
    rw [DA h1 h4] at this
    simpa only [TA.av] using this
   ·cases h
  ·rename_i ha
   split at h
   ·rename_i a hl
    obtain ⟨h1,h2,c,h3,h4⟩:=T4 hs hl
    simp only [iw] at h2
    have:=VM (P:=P) ho hd (by simpa using ha) h3
    rw [h4 0 (by omega)] at this
    exact tr h this h2.1
   ·cases h
 ·cases h
def VY (P:Program) (t:TypeId) (cs:List TA) (off:Nat):Option TA:=
 match P.underlying t,P.info? t with
 | some d,some i=>if KY d then some (.agg ((cs.drop off).take i.size)) else if off.blt cs.length then some (cs.getD off .top) else none
 | _,_=>none
def T6 (P:Program) (t:TypeId) (x:TA) (k:Nat) (κ:cE→Option R):Option R:=
 match x,KZ P t k with
 | .agg l,some f=>match VY P f.type l f.offset with
  | some r=>κ ⟨r,[],0⟩
  | none=>none
 | _,_=>none
theorem XX {o:Oper} {s:bQ} {κ:cE→Option R} {z:R} {x:Operand} {t:TypeId} {k:Nat} (ho:o.op=.field t x k) (hs:s.ok) (h:T6 P t (s.val x) k κ=some z):xY P o s κ z:=by
 unfold T6 at h
 split at h
 ·rename_i l f hx hf
  split at h
  ·rename_i r hr
   have h1:=@b9 s x _ hx
   simp only [TA.av] at h1
   have hw:=gy hs x
   rw [hx] at hw
   simp only [TA.wf] at hw
   unfold VY at hr
   split at hr
   ·rename_i d i hd hi
    split at hr
    ·rename_i ha
     cases hr
     refine kr h (VN ho h1 hf (r:=.agg (((dU s.H l).drop f.offset).take i.size)) (by simp only [Gk,hd,hi,ha,if_true])) ?_ ?_
     ·simp only [TA.av,cV,List.map_take,List.map_drop]
      exact iu.refl _
     ·simp only [TA.wf]
      exact c8.2 fun a ha=>c8.1 hw a (List.mem_of_mem_drop (List.mem_of_mem_take ha))
    ·rename_i ha
     split at hr
     ·rename_i dQ
      cases hr
      have ach:f.offset < l.length:=Nat.le_of_ble_eq_true (by simpa [Nat.blt] using dQ)
      refine kr h (VN ho h1 hf (r:=(dU s.H l).getD f.offset .top) (by simp only [Gk,hd,hi,if_neg ha];rw [if_pos (by rw [bI];exact dQ)])) ?_ (Dz hw _)
      rw [dH _ _ _ ach]
      exact iu.refl _
     ·cases hr
   ·cases hr
  ·cases h
 ·cases h
def acs (H:List (Nat×aY)):TA→Bool
 | .top | .agg _ | .ph _=>false
 | .lit v=>v.oneCell'
 | .d y=>y.t.leaf
 | .ow id=>match aR H id with
  | some (.row _ _ _)=>true
  | _=>false
 | .rp id _ _=>match aR H id with
  | some (.row _ _ _)=>true
  | _=>false
 | _=>true
theorem Zf {H:List (Nat×aY)} {a:TA} (h:acs H a=true):One (a.av H):=by
 intro w F μ K v hv
 cases a with
 | top=>cases h
 | agg=>cases h
 | ph=>cases h
 | lit u=>simp only [TA.av] at hv;rw [hv.KT];exact h
 | d y=>simp only [TA.av] at hv;exact K_ h hv
 | ff=>simp only [TA.av] at hv;rw [hv.pY];rfl
 | fp t x off=>simp only [TA.av] at hv;cases hv;rfl
 | ow id=>
  simp only [acs] at h
  split at h
  ·rename_i t v' xs hb
   simp only [TA.av,hb] at hv
   rcases uQ hv with ⟨⟨_,rfl⟩,_⟩ | ⟨cap,sz,t,rfl,_⟩<;>rfl
  ·cases h
 | bs id n bB=>simp only [TA.av] at hv;cases hv;rfl
 | bp id off=>simp only [TA.av] at hv;cases hv;rfl
 | rp id i off=>
  simp only [acs] at h
  split at h
  ·rename_i t v' xs hb
   simp only [TA.av,hb] at hv
   cases hv;rfl
  ·cases h
 | mp id=>simp only [TA.av] at hv;cases hv;rfl
 | pe t a=>simp only [TA.av] at hv;cases hv;rfl
 | fn f xs ys=>simp only [TA.av] at hv;cases hv;rfl
def DB (H:List (Nat×aY)):TA→Option (List TA)
 | .agg cs=>some cs
 | a=>if acs H a then some [a] else none
theorem zY {H:List (Nat×aY)} {N:Nat} {a:TA} {l:List TA} (h:DB H a=some l) (hw:a.wf H N):Dt (a.av H) (dU H l)∧iw H N l:=by
 unfold DB at h
 split at h
 ·cases h
  simp only [TA.wf] at hw
  exact ⟨by simp only [TA.av];exact XJ _,hw⟩
 ·split at h
  ·rename_i h1
   cases h
   exact ⟨by simp only [dU];exact XK (Zf h1),by simp only [iw];exact ⟨hw,trivial⟩⟩
  ·cases h
theorem tt (H:List (Nat×aY)) (rJ:Nat) (b:aY) (id:Nat):aR (cD H [(rJ,some b)]) id=if id=rJ then some b else aR H id:=by
 simp only [cD,aR]
 cases e:Nat.beq id rJ with
 | true=>rw [if_pos (Nat.eq_of_beq_eq_true e)]
 | false=>rw [if_neg (Nat.ne_of_beq_eq_false e)]
theorem oU {H:List (Nat×aY)} {N:Nat} {b:aY}:Sub H (cD H [(N,some b)]) N:=A8 (L:=[]) fun h=>absurd h (by omega)
theorem Zg {H:List (Nat×aY)} {N rJ:Nat} {l l0:List TA} (hb:aR H rJ=some (.box l0)):Sub H (cD H [(rJ,some (.box l))]) N:=A8 (L:=[]) fun _=>by rw [hb];rfl
theorem Zh {H:List (Nat×aY)} {N rJ:Nat} {t:Ty} {v:RV} {xs xs':List t.dn} (hb:aR H rJ=some (.row t v xs)) (hl:xs.length=xs'.length):Sub H (cD H [(rJ,some (.row t v xs'))]) N:=
 A8 (L:=[]) fun _=>by rw [hb];simp only [fM,hl]
def aY.isH:aY→Bool
 | .da _ _ _ _ _=>true
 | _=>false
theorem iL {o:Oper} {s:bQ} {κ:cE→Option R} {z:R} {rv:AV} {v:TA} {rJ k:Nat} {b:aY} {B:kq} (hs:s.ok) (hk:κ ⟨v,[(rJ,some b)],k⟩=some z) (h:de P o s.st ⟨rv,[(rJ,some B)],List.range' s.N k⟩)
  (jM:Sub s.H (cD s.H [(rJ,some b)]) s.N) (hv:iu rv (v.av (cD s.H [(rJ,some b)]))) (hw:v.wf (cD s.H [(rJ,some b)]) (s.N+k)) (hB:eV B (b.dw (cD s.H [(rJ,some b)])))
  (hbw:∀ l,b=.box l→iw s.H s.N l) (hnh:b.isH=false:=by rfl):xY P o s κ z:=by
 refine ⟨⟨v,[(rJ,some b)],k⟩,TX (L:=[]) hs h jM hv hB,⟨jM,hw,fun id l hl=>?_⟩,hk⟩
 simp only [List.mem_singleton,Prod.mk.injEq,Option.some.injEq] at hl
 have hr:iw s.H s.N b.refs:=by
  cases b with
  | box l=>exact hbw l rfl
  | da=>cases hnh
  | _=>simp only [aY.refs,iw]
 rw [hl.2]
 exact (iK jM (Nat.le_add_right _ _) _ hr).2
theorem Lc {H H':List (Nat×aY)} {N:Nat} {l:List TA} (h:Sub H H' N) (hw:iw H N l):eV (.box (dU H l)) ((aY.box l).dw H'):=by
 simp only [aY.dw,(iK h (Nat.le_refl _) l hw).1]
 exact eV.refl _
def Zi (s:bQ) (x:TA) (κ:cE→Option R):Option R:=
 match DB s.H x with
 | some l=>κ ⟨.bp s.N 0,[(s.N,some (.box l))],1⟩
 | none=>none
theorem VZ {o:Oper} {s:bQ} {κ:cE→Option R} {z:R} {x:Operand} {t:TypeId} (ho:o.op=.box t x) (hs:s.ok) (h:Zi s (s.val x) κ=some z):xY P o s κ z:=by
 unfold Zi at h
 split at h
 ·rename_i l hl
  obtain ⟨h1,h2⟩:=zY hl (gy hs x)
  exact iL hs h (agq (N:=s.N) ho (gj s x) h1) oU (by simp only [TA.av];exact iu.refl _) (by simp only [TA.wf]) (Lc (N:=s.N) oU h2) (fun l' e=>by cases e;exact h2)
 ·cases h
def Gv (P:Program) (t:TypeId):Option (List TA):=
 match P.info? t with
 | some i=>match i.zero with
  | some z=>some (z.cells.toList.map cst)
  | none=>none
 | none=>none
theorem acu (H:List (Nat×aY)) (N:Nat) (v:Value):(cst v).wf H N:=by
 unfold cst
 split<;>simp [TA.wf,iw]
theorem tu {t:TypeId} {l:List TA} (h:Gv P t=some l) (H:List (Nat×aY)) (N:Nat):Cs P t=some (dU H l)∧iw H N l:=by
 unfold Gv at h
 unfold Cs
 split at h
 ·rename_i i hi
  split at h
  ·rename_i z hz
   cases h
   refine ⟨?_,c8.2 fun a ha=>?_⟩
   ·rw [hi]
    simp only [hz,cV,List.map_map,Option.some.injEq]
    exact List.map_congr_left fun v _=>(PS H v).symm
   ·obtain ⟨v,_,rfl⟩:=List.mem_map.1 ha
    exact acu H N v
  ·cases h
 ·cases h
def Om (P:Program) (s:bQ) (t:TypeId) (κ:cE→Option R):Option R:=
 match Gv P t with
 | some l=>κ ⟨.bp s.N 0,[(s.N,some (.box l))],1⟩
 | none=>none
theorem P4 {o:Oper} {s:bQ} {κ:cE→Option R} {z:R} {t:TypeId} (ho:o.op=.alloc t) (hs:s.ok) (h:Om P s t κ=some z):xY P o s κ z:=by
 unfold Om at h
 split at h
 ·rename_i l hl
  obtain ⟨h1,h2⟩:=tu hl s.H s.N
  exact iL hs h (VP (N:=s.N) ho h1) oU (by simp only [TA.av];exact iu.refl _) (by simp only [TA.wf]) (Lc (N:=s.N) oU h2) (fun l' e=>by cases e;exact h2)
 ·cases h
theorem V0 {α β:Type} (f:α→β) (l:List α) (o:Nat) (r:List α):(Du l o r).map f=Du (l.map f) o (r.map f):=by
 induction r generalizing l o with
 | nil=>rfl
 | cons x r ih=>simp only [Du,List.map_cons,ih,List.map_set]
theorem V1 {α:Type} {l:List α} {o:Nat} {r:List α} {a:α} (h:a∈Du l o r):a∈l∨a∈r:=by
 induction r generalizing l o with
 | nil=>exact .inl h
 | cons x r ih=>
  simp only [Du] at h
  rcases ih h with h | h
  ·rcases List.mem_or_eq_of_mem_set h with h | h
   ·exact .inl h
   ·exact .inr (by simp [h])
  ·exact .inr (by simp [h])
def Gx:TA→Bool
 | .d y=>y.t.leaf
 | .ff=>true
 | _=>false
theorem zZ {H:List (Nat×aY)} {a:TA} (h:Gx a=true):Sh (a.av H):=by
 unfold Gx at h
 split at h
 ·simp only [TA.av];exact fun hv=>vo h hv
 ·simp only [TA.av];exact fun hv=>by rw [hv.pY];exact .ff
 ·cases h
theorem DC {t:Ty} {a:TA} {y:cI} (h:ui t a=some y):Gx a=true:=by
 unfold ui at h
 split at h
 ·split at h
  ·split at h
   ·rename_i h1;exact h1
   ·cases h
  ·cases h
 ·rfl
 ·cases h
theorem vp:∀ {ts:List Ty} {l:List TA} {r:List cI},tq ts l=some r→∀ a,a∈l→Gx a≠false
 | [],[],r,h,a,ha=>by cases ha
 | [],_::_,r,h,_,_=>by cases h
 | _::_,[],r,h,a,ha=>by cases ha
 | t::ts,b::l,r,h,a,ha=>by
  simp only [tq] at h
  split at h
  ·rename_i y r' hy hr
   rcases List.mem_cons.1 ha with e | e
   ·rw [e,DC hy];simp
   ·exact vp hr a e
  ·cases h
def bJ {α:Type} (xs:List α) (i:Int) (f:α→α):List α:=xs.modify i.toNat f
def ad2 (u:Ty) (off n:Nat) (ds:List cI) (x:u.dn):u.dn:=match Ok u (((dV u x).take off)++(ds++(dV u x).drop (off+n))) with
 | some y=>y
 | none=>x
def Sto {α:Type} (d:α) (xs:List α) (i:Int) (e:α) (ys:List α):Prop:=ys.length=xs.length∧∀ i',i' < xs.length→ys.getD i' d=if i'=i.toNat then e else xs.getD i' d
theorem Zj {α:Type} {d:α} {xs:List α} {i:Int} {e:α}:Sto d xs i e (gK xs i e):=⟨by simp [gK],fun i' c9=>by
 unfold gK
 by_cases e1:i'=i.toNat
 ·subst e1;simp [List.getD,c9]
 ·rw [if_neg e1];simp [List.getD,List.getElem?_set_ne (Ne.symm e1)]⟩
theorem T7 {α:Type} {d:α} {xs:List α} {i:Int} {e:α} {f:α→α} (h:f (nth d xs i)=e):Sto d xs i e (bJ xs i f):=⟨by simp [bJ],fun i' c9=>by
 unfold bJ
 by_cases e1:i'=i.toNat
 ·subst e1
  rw [if_pos rfl,← h]
  simp [List.getD,nth,List.getElem?_modify,c9]
 ·rw [if_neg e1];simp [List.getD,List.getElem?_modify,Ne.symm e1]⟩
def On (P:Program) (H:List (Nat×aY)) (t:TypeId) (x y:TA) (κ:cE→Option R):Option R:=
 match P.info? t,DB H y with
 | some ti,some l=>if Nat.beq l.length ti.size then (match x with
  | .bp id off=>match aR H id with
   | some (.box l0)=>if (off+l.length).ble l0.length&&l.all (acs H) then κ ⟨.lit undef,[(id,some (.box (Du l0 off l)))],0⟩ else none
   | _=>none
  | .rp id i off=>match aR H id with
   | some (.row u v xs)=>if (off+l.length).ble (fg u)&&!v.d then (match tq (((Ie u).drop off).take l.length) l with
    | some ds=>match Ok u (((dV u (nth u.df xs i)).take off)++(ds++(dV u (nth u.df xs i)).drop (off+l.length))) with
     | some e=>match Nat.beq l.length (fg u) with
      | true=>κ ⟨.lit undef,[(id,some (.row u v (gK xs i e)))],0⟩
      | false=>κ ⟨.lit undef,[(id,some (.row u v (bJ xs i (ad2 u off l.length ds))))],0⟩
     | none=>none
    | none=>none) else none
   | _=>none
  | _=>none) else none
 | _,_=>none
theorem P5 {o:Oper} {s:bQ} {κ:cE→Option R} {z:R} {x y:Operand} {t:TypeId} (ho:o.op=.store t x y) (hs:s.ok) (h:On P s.H t (s.val x) (s.val y) κ=some z):xY P o s κ z:=by
 unfold On at h
 split at h
 ·rename_i ti l hi hl
  obtain ⟨hc,hw⟩:=zY hl (gy hs y)
  split at h
  ·rename_i fL
   have fL:=Nat.eq_of_beq_eq_true fL
   split at h
   ·rename_i id off hx
    split at h
    ·rename_i l0 hb
     split at h
     ·rename_i hc2
      simp only [Bool.and_eq_true] at hc2
      have hle:=Nat.le_of_ble_eq_true hc2.1
      have h1:=@b9 s x _ hx
      simp only [TA.av] at h1
      have Ml:∀ b,b∈dU s.H l→One b:=fun b cu=>by
       rw [cV] at cu
       obtain ⟨a,ha,rfl⟩:=List.mem_map.1 cu
       exact Zf (List.all_eq_true.1 hc2.2 a ha)
      have nA:=TS (P:=P) (l0:=dU s.H l0) ho hi h1 (gj s y) hc Ml (by rw [bI];exact fL) (dz hb) (by rw [bI,bI];exact hle)
      have hw2:iw s.H s.N (Du l0 off l):=c8.2 fun a ha=>(V1 ha).elim (c8.1 (hs.H id _ hb) a) (c8.1 hw a)
      have e:Du (dU s.H l0) off (dU s.H l)=dU s.H (Du l0 off l):=by rw [cV,cV,cV,V0]
      rw [e] at nA
      exact iL hs h nA (Zg hb) (by simp only [TA.av];exact iu.refl _) (by simp only [TA.wf]) (Lc (N:=s.N) (Zg hb) hw2) (fun l' e=>by cases e;exact hw2)
     ·cases h
    ·cases h
   ·rename_i id i off hx
    split at h
    ·rename_i u v xs hb
     split at h
     ·rename_i hle
      simp only [Bool.and_eq_true,Bool.not_eq_true'] at hle
      have hvd:=hle.2
      have hle:=Nat.le_of_ble_eq_true hle.1
      have hvc:∀ ys:List u.dn,bY v u ys=cC u ys:=fun ys=>by funext i j;simp only [bY,hvd]
      split at h
      ·rename_i ds tC
       split at h
       ·rename_i e he
        obtain ⟨ys,Rq,h⟩:∃ ys,Sto u.df xs i e ys∧κ ⟨.lit undef,[(id,some (.row u v ys))],0⟩=some z:=by
         split at h
         ·exact ⟨_,Zj,h⟩
         ·exact ⟨_,T7 (by simp only [ad2,he]),h⟩
        obtain ⟨d1,d2,d3,d4⟩:=n9 tC
        have hwx:=gy hs x
        rw [hx] at hwx
        simp only [TA.wf] at hwx
        have dQ:=hwx.2 u v xs.length (by rw [hb];rfl)
        have h1:=@b9 s x _ hx
        simp only [TA.av,hb] at h1
        have hlen:=e9 u (nth u.df xs i)
        have hce:∀ j,(sV u e).getD j .top=((((dV u (nth u.df xs i)).take off)++(ds++(dV u (nth u.df xs i)).drop (off+l.length))).map cN).getD j .top:=fun j=>by
         rw [← fx,eU he]
        have V2:=Rq.2
        have nA:=TU (P:=P) (v:=v.b) (m:=xs.length) (e:=cC u xs) (e':=cC u ys) ho hi h1 (gj s y) hc
         (fun b cu=>by
          rw [cV] at cu
          obtain ⟨a,ha,rfl⟩:=List.mem_map.1 cu
          obtain ⟨k,hk,rfl⟩:=List.getElem_of_mem ha
          intro w F μ K v' Mv
          have hv2:VR w F μ K ((l.getD k .top).av s.H) v':=by rw [getD_eq _ _ hk];exact Mv
          have hk2:k < ds.length:=by omega
          have h5:(ds.map cN).getD k .top=cN ds[k]:=by simp [List.getD,hk2]
          exact K_ (d3 _ (List.getElem_mem hk2)) (h5▸d4 s.H k hk hv2))
         (fun b cu=>by
          rw [cV] at cu
          obtain ⟨a,ha,rfl⟩:=List.mem_map.1 cu
          cases V3:Gx a with
          | true=>exact zZ V3
          | false=>
           exfalso
           exact vp tC a ha V3)
         (by rw [bI];exact fL) (by rw [dz hb];simp only [aY.dw,hvc]) dQ (by rw [bI];exact hle)
         (fun k hk=>by
          rw [bI] at hk
          rw [dH _ _ _ hk]
          simp only [cC]
          rw [V2 _ dQ,if_pos rfl,hce]
          have h6:((((dV u (nth u.df xs i)).take off)++(ds++(dV u (nth u.df xs i)).drop (off+l.length))).map cN).getD (off+k) .top=(ds.map cN).getD k .top:=by
           have h7:((dV u (nth u.df xs i)).take off).length=off:=by simp [hlen];omega
           simp only [List.getD,List.map_append]
           rw [List.getElem?_append_right (by simp only [List.length_map,h7];omega)]
           simp only [List.length_map,h7]
           rw [show off+k-off=k by omega,List.getElem?_append_left (by simp only [List.length_map];omega)]
          rw [h6]
          intro w1 F1 ME K1 v1 LG
          exact d4 s.H k hk LG)
         (fun i' j' c9 ko hn=>by
          rw [bI] at hn
          simp only [cC]
          rw [V2 _ c9]
          split
          ·rename_i e1
           subst e1
           have hxe:xs.getD i.toNat u.df=nth u.df xs i:=rfl
           rw [hce,hxe,← fx]
           have h7:((dV u (nth u.df xs i)).take off).length=off:=by simp [hlen];omega
           simp only [List.getD,List.map_append]
           by_cases h8:j' < off
           ·rw [List.getElem?_append_left (by simp only [List.length_map,h7];exact h8)]
            simp [h8]
           ·have h9:off+l.length≤j':=by omega
            rw [List.getElem?_append_right (by simp only [List.length_map,h7];omega)]
            simp only [List.length_map,h7]
            rw [List.getElem?_append_right (by simp only [List.length_map];omega)]
            simp only [List.length_map,List.getElem?_map,List.getElem?_drop]
            congr 3;omega
          ·rfl)
        refine iL (B:=.row v.b (fg u) xs.length (cC u ys)) hs h nA (Zh hb Rq.1.symm) (by simp only [TA.av];exact iu.refl _) (by simp only [TA.wf]) ?_ (fun l' e=>by cases e)
        simp only [aY.dw,hvc]
        rw [Rq.1]
        exact eV.refl _
       ·cases h
      ·cases h
     ·cases h
    ·cases h
   ·cases h
  ·cases h
 ·cases h
end Go.Proofs.YtljfmaaadnoggaaGreatDoor.cX
