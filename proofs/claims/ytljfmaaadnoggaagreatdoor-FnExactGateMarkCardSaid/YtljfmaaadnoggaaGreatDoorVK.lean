/- The evaluator of operations: memory: loads, stores, variables, rows; that it is sound. No condition. -/
import Derived.Test.YtljfmaaadnoggaaGreatDoorVJ
set_option linter.unusedSimpArgs false
set_option linter.unusedVariables false
namespace Go.Proofs.YtljfmaaadnoggaaGreatDoor.cU
open Go Go.RowKit
variable {w w' vP:World} {F F' Am O O' ux:Nat→Prop} {μ bB jV:Nat→Nat} {K K' DQ:Nat→Prop} {ft b7:Nat→Nat→Prop} {P:Program} {R:Type}
def rdT (H:List (Nat×aW)) (a:TA) (n:Nat):Option (List TA):=
 match a with
 | .fp t x off=>if (off+n).ble (eR t) then some ((((dK t x).drop off).take n).map .d) else none
 | .bp id off=>match aR H id with
  | some (.box l)=>if (off+n).ble l.length then some ((l.drop off).take n) else none
  | _=>none
 | .rp id i off=>match aR H id with
  | some (.row t v xs)=>if (off+n).ble (eR t)&&!(v.d&&Xu t off n) then some ((((dK t (nth t.df xs i)).drop off).take n).map .d) else none
  | some (.c5 t v xs _ os)=>if (off+n).ble (eR t)&&(!(v.d&&Xu t off n)&&(List.range n).all fun k=>(su os (off+k)).isNone) then some ((((dK t (nth t.df xs i)).drop off).take n).map .d) else none
  | _=>none
 | _=>none
theorem UX {l:List cE} {off n k:Nat} (hk:k < n) (h:off+n≤l.length):((((l.drop off).take n).map TA.d).getD k .top)=.d (l[off+k]'(by omega)):=by
 simp [List.getD,hk,List.getElem?_take,List.getElem?_drop,show off+k < l.length by omega]
theorem Hj {t:Ty} {x:t.dn} {k:Nat} (h:k < (dK t x).length):(rk t x).getD k .top=cK ((dK t x)[k]):=by
 rw [← e_];simp [List.getD,h]
theorem getD_eq (l:List TA) (k:Nat) (h:k < l.length):l.getD k .top=l[k]:=by simp [List.getD,h]
theorem Bt {n:Nat} {c:Nat→AV} {H:List (Nat×aW)} {l:List TA} (hl:l.length=n) (h:∀ k,k < n→c k=(l.getD k .top).av H):(List.range n).map c=dJ H l:=by
 rw [cR]
 refine List.ext_getElem (by simp [hl]) fun k h1 h2=>?_
 have hk:k < l.length:=by simpa using h2
 simp only [List.getElem_map,List.getElem_range]
 rw [h k (by omega),getD_eq _ _ hk]
theorem Ra {s:bK} (hs:s.ok) {x:Operand} {n:Nat} {l:List TA} (h:rdT s.H (s.val x) n=some l):l.length=n∧gQ s.H s.N l∧∃ c,Rdb s.st x n c∧∀ k,k < n→c k=(l.getD k .top).av s.H:=by
 unfold rdT at h
 split at h
 ·rename_i t y off hx
  split at h
  ·rename_i hb
   have hb:=Nat.le_of_ble_eq_true hb
   cases h
   have hlen:=eE t y
   refine ⟨by simp [hlen];omega,cZ.2 fun a ha=>?_,_,ac_ (@b8 s x _ hx) hb,fun k hk=>?_⟩
   ·obtain ⟨d,_,rfl⟩:=List.mem_map.1 ha
    simp only [TA.wf]
   ·rw [UX hk (by omega)]
    simp only [TA.av]
    exact Hj (by omega)
  ·cases h
 ·rename_i id off hx
  split at h
  ·rename_i l0 hl0
   split at h
   ·rename_i hb
    have hb:=Nat.le_of_ble_eq_true hb
    cases h
    have hw:gQ s.H s.N l0:=hs.H id _ hl0
    have h1:=@b8 s x _ hx
    simp only [TA.av] at h1
    refine ⟨by simp;omega,cZ.2 fun a ha=>cZ.1 hw a (List.mem_of_mem_drop (List.mem_of_mem_take ha)),_,ada (l:=dJ s.H l0) h1 (dz hl0) (by rw [bE];exact hb),fun k hk=>?_⟩
    rw [dy _ _ _ (by omega)]
    congr 1
    simp [List.getD,hk,List.getElem?_take,List.getElem?_drop]
   ·cases h
  ·cases h
 ·rename_i id i off hx
  split at h
  ·rename_i t v xs hb0
   split at h
   ·rename_i hb
    simp only [Bool.and_eq_true,Bool.not_eq_true'] at hb
    have hp:v.d=true→Xu t off n=false:=fun h=>by have:=hb.2;rw [h,Bool.true_and] at this;exact this
    have hb:=Nat.le_of_ble_eq_true hb.1
    cases h
    have hw:=fX hs x
    rw [hx] at hw
    simp only [TA.wf] at hw
    have hi:=hw.2 t v xs.length (by rw [hb0];rfl)
    have hlen:=eE t (nth t.df xs i)
    have h1:=@b8 s x _ hx
    simp only [TA.av,hb0] at h1
    refine ⟨by simp [hlen];omega,cZ.2 fun a ha=>?_,_,adb (v:=v.b) (e:=bU v t xs) (m:=xs.length) h1 (dz hb0) hi hb (fun k hk=>by rw [Bq hp hk];exact D3 _ _ _ _),fun k hk=>?_⟩
    ·obtain ⟨d,_,rfl⟩:=List.mem_map.1 ha
     simp only [TA.wf]
    ·rw [UX hk (by omega),Bq hp hk]
     simp only [TA.av]
     exact Hj (t:=t) (x:=nth t.df xs i) (by omega)
   ·cases h
  ·rename_i t v xs i0 os hb0
   split at h
   ·rename_i hb
    simp only [Bool.and_eq_true,Bool.not_eq_true'] at hb
    have hp:v.d=true→Xu t off n=false:=fun h=>by have:=hb.2.1;rw [h,Bool.true_and] at this;exact this
    have hno:∀ k,k < n→su os (off+k)=none:=fun k hk=>by
     have:=List.all_eq_true.1 hb.2.2 k (List.mem_range.2 hk)
     simpa using this
    have hb:=Nat.le_of_ble_eq_true hb.1
    cases h
    have hw:=fX hs x
    rw [hx] at hw
    simp only [TA.wf] at hw
    have hi:=hw.2 t v xs.length (by rw [hb0];rfl)
    have hlen:=eE t (nth t.df xs i)
    have h1:=@b8 s x _ hx
    simp only [TA.av,hb0] at h1
    have hc:∀ k,k < n→rF s.H v t xs i0 os i.toNat (off+k)=cy t xs i.toNat (off+k):=fun k hk=>by
     simp only [rF,hno k hk,Bq hp hk,ite_self]
    refine ⟨by simp [hlen];omega,cZ.2 fun a ha=>?_,_,aa1 (v:=v.b) (e:=rF s.H v t xs i0 os) (m:=xs.length) h1 (dz hb0) hi hb (fun k hk=>by rw [hc k hk];exact D3 _ _ _ _),fun k hk=>?_⟩
    ·obtain ⟨d,_,rfl⟩:=List.mem_map.1 ha
     simp only [TA.wf]
    ·rw [UX hk (by omega),hc k hk]
     simp only [TA.av]
     exact Hj (t:=t) (x:=nth t.df xs i) (by omega)
   ·cases h
  ·cases h
 ·cases h
def Rb (P:Program) (H:List (Nat×aW)) (t:TypeId) (x:TA) (κ:cC→Option R):Option R:=
 match P.underlying t,P.info? t with
 | some d,some i=>if IF d then (match rdT H x i.size with
   | some l=>κ ⟨.agg l,[],0⟩
   | none=>none) else (match rdT H x 1 with
   | some [a]=>κ ⟨a,[],0⟩
   | _=>none)
 | _,_=>none
theorem PT {o:Oper} {s:bK} {κ:cC→Option R} {z:R} {x:Operand} {t:TypeId} (ho:o.op=.load t x) (hs:s.ok) (h:Rb P s.H t (s.val x) κ=some z):we P o s κ z:=by
 unfold Rb at h
 split at h
 ·rename_i d i hd hi
  split at h
  ·rename_i ha
   split at h
   ·rename_i l hl
    obtain ⟨h1,h2,c,h3,h4⟩:=Ra hs hl
    refine rH h ?_ (by simp only [TA.wf];exact h2)
    have:=SL (P:=P) ho hd hi ha h3
    rw [Bt h1 h4] at this
    simpa only [TA.av] using this
   ·cases h
  ·rename_i ha
   split at h
   ·rename_i a hl
    obtain ⟨h1,h2,c,h3,h4⟩:=Ra hs hl
    simp only [gQ] at h2
    have:=SM (P:=P) ho hd (by simpa using ha) h3
    rw [h4 0 (by omega)] at this
    exact rH h this h2.1
   ·cases h
 ·cases h
def SY (P:Program) (t:TypeId) (cs:List TA) (off:Nat):Option TA:=
 match P.underlying t,P.info? t with
 | some d,some i=>if IF d then some (.agg ((cs.drop off).take i.size)) else if off.blt cs.length then some (cs.getD off .top) else none
 | _,_=>none
def Rc (P:Program) (t:TypeId) (x:TA) (k:Nat) (κ:cC→Option R):Option R:=
 match x,IG P t k with
 | .agg l,some f=>match SY P f.type l f.offset with
  | some r=>κ ⟨r,[],0⟩
  | none=>none
 | _,_=>none
theorem UY {o:Oper} {s:bK} {κ:cC→Option R} {z:R} {x:Operand} {t:TypeId} {k:Nat} (ho:o.op=.field t x k) (hs:s.ok) (h:Rc P t (s.val x) k κ=some z):we P o s κ z:=by
 unfold Rc at h
 split at h
 ·rename_i l f hx hf
  split at h
  ·rename_i r hr
   have h1:=@b8 s x _ hx
   simp only [TA.av] at h1
   have hw:=fX hs x
   rw [hx] at hw
   simp only [TA.wf] at hw
   unfold SY at hr
   split at hr
   ·rename_i d i hd hi
    split at hr
    ·rename_i ha
     cases hr
     refine jv h (SN ho h1 hf (r:=.agg (((dJ s.H l).drop f.offset).take i.size)) (by simp only [DU,hd,hi,ha,if_true])) ?_ ?_
     ·simp only [TA.av,cR,List.map_take,List.map_drop]
      exact gZ.refl _
     ·simp only [TA.wf]
      exact cZ.2 fun a ha=>cZ.1 hw a (List.mem_of_mem_drop (List.mem_of_mem_take ha))
    ·rename_i ha
     split at hr
     ·rename_i dL
      cases hr
      have Zm:f.offset < l.length:=Nat.le_of_ble_eq_true (by simpa [Nat.blt] using dL)
      refine jv h (SN ho h1 hf (r:=(dJ s.H l).getD f.offset .top) (by simp only [DU,hd,hi,if_neg ha];rw [if_pos (by rw [bE];exact dL)])) ?_ (Bs hw _)
      rw [dy _ _ _ Zm]
      exact gZ.refl _
     ·cases hr
   ·cases hr
  ·cases h
 ·cases h
def ZA (H:List (Nat×aW)):TA→Bool
 | .top | .agg _ | .n9 _=>false
 | .lit v=>v.oneCell'
 | .d y=>y.t.leaf
 | .ow id=>match aR H id with
  | some (.row _ _ _)=>true
  | _=>false
 | .rp id _ _=>match aR H id with
  | some (.row _ _ _)=>true
  | _=>false
 | _=>true
theorem V5 {H:List (Nat×aW)} {a:TA} (h:ZA H a=true):One (a.av H):=by
 intro w F μ K v hv
 cases a with
 | top=>cases h
 | agg=>cases h
 | n9=>cases h
 | lit u=>simp only [TA.av] at hv;rw [hv.IA];exact h
 | d y=>simp only [TA.av] at hv;exact IP h hv
 | eQ=>simp only [TA.av] at hv;rw [hv.oD];rfl
 | fp t x off=>simp only [TA.av] at hv;cases hv;rfl
 | ow id=>
  simp only [ZA] at h
  split at h
  ·rename_i t v' xs hb
   simp only [TA.av,hb] at hv
   rcases sS hv with ⟨⟨_,rfl⟩,_⟩ | ⟨cap,sz,t,rfl,_⟩<;>rfl
  ·cases h
 | bs id n aZ=>simp only [TA.av] at hv;cases hv;rfl
 | bp id off=>simp only [TA.av] at hv;cases hv;rfl
 | rp id i off=>
  simp only [ZA] at h
  split at h
  ·rename_i t v' xs hb
   simp only [TA.av,hb] at hv
   cases hv;rfl
  ·cases h
 | mp id=>simp only [TA.av] at hv;cases hv;rfl
 | nX t a=>simp only [TA.av] at hv;cases hv;rfl
 | fn f xs ys=>simp only [TA.av] at hv;cases hv;rfl
def Bu (H:List (Nat×aW)):TA→Option (List TA)
 | .agg cs=>some cs
 | a=>if ZA H a then some [a] else none
theorem xR {H:List (Nat×aW)} {N:Nat} {a:TA} {l:List TA} (h:Bu H a=some l) (hw:a.wf H N):Bl (a.av H) (dJ H l)∧gQ H N l:=by
 unfold Bu at h
 split at h
 ·cases h
  simp only [TA.wf] at hw
  exact ⟨by simp only [TA.av];exact UJ _,hw⟩
 ·split at h
  ·rename_i h1
   cases h
   exact ⟨by simp only [dJ];exact UK (V5 h1),by simp only [gQ];exact ⟨hw,trivial⟩⟩
  ·cases h
theorem rI (H:List (Nat×aW)) (p4:Nat) (b:aW) (id:Nat):aR (cz H [(p4,some b)]) id=if id=p4 then some b else aR H id:=by
 simp only [cz,aR]
 cases e:Nat.beq id p4 with
 | true=>rw [if_pos (Nat.eq_of_beq_eq_true e)]
 | false=>rw [if_neg (Nat.ne_of_beq_eq_false e)]
theorem nD {H:List (Nat×aW)} {N:Nat} {b:aW}:Sub H (cz H [(N,some b)]) N:=y8 (L:=[]) fun h=>absurd h (by omega)
theorem V6 {H:List (Nat×aW)} {N p4:Nat} {l l0:List TA} (hb:aR H p4=some (.box l0)):Sub H (cz H [(p4,some (.box l))]) N:=y8 (L:=[]) fun _=>by rw [hb];rfl
theorem V7 {H:List (Nat×aW)} {N p4:Nat} {t:Ty} {v:RV} {xs Zz:List t.dn} (hb:aR H p4=some (.row t v xs)) (hl:xs.length=Zz.length):Sub H (cz H [(p4,some (.row t v Zz))]) N:=
 y8 (L:=[]) fun _=>by rw [hb];simp only [fj,hl]
def aW.isH:aW→Bool
 | .c5 _ _ _ _ _=>true
 | _=>false
theorem iO {o:Oper} {s:bK} {κ:cC→Option R} {z:R} {rv:AV} {v:TA} {p4 k:Nat} {b:aW} {B:ju} (hs:s.ok) (hk:κ ⟨v,[(p4,some b)],k⟩=some z) (h:db P o s.st ⟨rv,[(p4,some B)],List.range' s.N k⟩)
  (iV:Sub s.H (cz s.H [(p4,some b)]) s.N) (hv:gZ rv (v.av (cz s.H [(p4,some b)]))) (hw:v.wf (cz s.H [(p4,some b)]) (s.N+k)) (hB:eD B (b.di (cz s.H [(p4,some b)])))
  (hbw:∀ l,b=.box l→gQ s.H s.N l) (hnh:b.isH=false:=by rfl):we P o s κ z:=by
 refine ⟨⟨v,[(p4,some b)],k⟩,Q6 (L:=[]) hs h iV hv hB,⟨iV,hw,fun id l hl=>?_⟩,hk⟩
 simp only [List.mem_singleton,Prod.mk.injEq,Option.some.injEq] at hl
 have hr:gQ s.H s.N b.refs:=by
  cases b with
  | box l=>exact hbw l rfl
  | c5=>cases hnh
  | _=>simp only [aW.refs,gQ]
 rw [hl.2]
 exact (g7 iV (Nat.le_add_right _ _) _ hr).2
theorem IU {H H':List (Nat×aW)} {N:Nat} {l:List TA} (h:Sub H H' N) (hw:gQ H N l):eD (.box (dJ H l)) ((aW.box l).di H'):=by
 simp only [aW.di,(g7 h (Nat.le_refl _) l hw).1]
 exact eD.refl _
def V8 (s:bK) (x:TA) (κ:cC→Option R):Option R:=
 match Bu s.H x with
 | some l=>κ ⟨.bp s.N 0,[(s.N,some (.box l))],1⟩
 | none=>none
theorem SZ {o:Oper} {s:bK} {κ:cC→Option R} {z:R} {x:Operand} {t:TypeId} (ho:o.op=.box t x) (hs:s.ok) (h:V8 s (s.val x) κ=some z):we P o s κ z:=by
 unfold V8 at h
 split at h
 ·rename_i l hl
  obtain ⟨h1,h2⟩:=xR hl (fX hs x)
  exact iO hs h (adf (N:=s.N) ho (fQ s x) h1) nD (by simp only [TA.av];exact gZ.refl _) (by simp only [TA.wf]) (IU (N:=s.N) nD h2) (fun l' e=>by cases e;exact h2)
 ·cases h
def D5 (P:Program) (t:TypeId):Option (List TA):=
 match P.info? t with
 | some i=>match i.zero with
  | some z=>some (z.cells.toList.map cst)
  | none=>none
 | none=>none
theorem ZB (H:List (Nat×aW)) (N:Nat) (v:Value):(cst v).wf H N:=by
 unfold cst
 split<;>simp [TA.wf,gQ]
theorem rJ {t:TypeId} {l:List TA} (h:D5 P t=some l) (H:List (Nat×aW)) (N:Nat):Ao P t=some (dJ H l)∧gQ H N l:=by
 unfold D5 at h
 unfold Ao
 split at h
 ·rename_i i hi
  split at h
  ·rename_i z hz
   cases h
   refine ⟨?_,cZ.2 fun a ha=>?_⟩
   ·rw [hi]
    simp only [hz,cR,List.map_map,Option.some.injEq]
    exact List.map_congr_left fun v _=>(Nf H v).symm
   ·obtain ⟨v,_,rfl⟩:=List.mem_map.1 ha
    exact ZB H N v
  ·cases h
 ·cases h
def L0 (P:Program) (s:bK) (t:TypeId) (κ:cC→Option R):Option R:=
 match D5 P t with
 | some l=>κ ⟨.bp s.N 0,[(s.N,some (.box l))],1⟩
 | none=>none
theorem Nr {o:Oper} {s:bK} {κ:cC→Option R} {z:R} {t:TypeId} (ho:o.op=.alloc t) (hs:s.ok) (h:L0 P s t κ=some z):we P o s κ z:=by
 unfold L0 at h
 split at h
 ·rename_i l hl
  obtain ⟨h1,h2⟩:=rJ hl s.H s.N
  exact iO hs h (SP (N:=s.N) ho h1) nD (by simp only [TA.av];exact gZ.refl _) (by simp only [TA.wf]) (IU (N:=s.N) nD h2) (fun l' e=>by cases e;exact h2)
 ·cases h
theorem S0 {α β:Type} (f:α→β) (l:List α) (o:Nat) (r:List α):(Bm l o r).map f=Bm (l.map f) o (r.map f):=by
 induction r generalizing l o with
 | nil=>rfl
 | cons x r ih=>simp only [Bm,List.map_cons,ih,List.map_set]
theorem S3 {α:Type} {l:List α} {o:Nat} {r:List α} {a:α} (h:a∈Bm l o r):a∈l∨a∈r:=by
 induction r generalizing l o with
 | nil=>exact .inl h
 | cons x r ih=>
  simp only [Bm] at h
  rcases ih h with h | h
  ·rcases List.mem_or_eq_of_mem_set h with h | h
   ·exact .inl h
   ·exact .inr (by simp [h])
  ·exact .inr (by simp [h])
def D6:TA→Bool
 | .d y=>y.t.leaf
 | .eQ=>true
 | _=>false
theorem xS {H:List (Nat×aW)} {a:TA} (h:D6 a=true):PL (a.av H):=by
 unfold D6 at h
 split at h
 ·simp only [TA.av];exact fun hv=>tw h hv
 ·simp only [TA.av];exact fun hv=>by rw [hv.oD];exact .eQ
 ·cases h
theorem Bv {t:Ty} {a:TA} {y:cE} (h:sv t a=some y):D6 a=true:=by
 unfold sv at h
 split at h
 ·split at h
  ·split at h
   ·rename_i h1;exact h1
   ·cases h
  ·cases h
 ·rfl
 ·cases h
theorem tx:∀ {ts:List Ty} {l:List TA} {r:List cE},rG ts l=some r→∀ a,a∈l→D6 a≠false
 | [],[],r,h,a,ha=>by cases ha
 | [],_::_,r,h,_,_=>by cases h
 | _::_,[],r,h,a,ha=>by cases ha
 | t::ts,b::l,r,h,a,ha=>by
  simp only [rG] at h
  split at h
  ·rename_i y r' hy hr
   rcases List.mem_cons.1 ha with e | e
   ·rw [e,Bv hy];simp
   ·exact tx hr a e
  ·cases h
def bF {α:Type} (xs:List α) (i:Int) (f:α→α):List α:=xs.modify i.toNat f
def aa_ (u:Ty) (off n:Nat) (ds:List cE) (x:u.dn):u.dn:=match LY u (((dK u x).take off)++(ds++(dK u x).drop (off+n))) with
 | some y=>y
 | none=>x
def Sto {α:Type} (d:α) (xs:List α) (i:Int) (e:α) (ys:List α):Prop:=ys.length=xs.length∧∀ i',i' < xs.length→ys.getD i' d=if i'=i.toNat then e else xs.getD i' d
theorem V9 {α:Type} {d:α} {xs:List α} {i:Int} {e:α}:Sto d xs i e (g8 xs i e):=⟨by simp [g8],fun i' c8=>by
 unfold g8
 by_cases e1:i'=i.toNat
 ·subst e1;simp [List.getD,c8]
 ·rw [if_neg e1];simp [List.getD,List.getElem?_set_ne (Ne.symm e1)]⟩
theorem Re {α:Type} {d:α} {xs:List α} {i:Int} {e:α} {f:α→α} (h:f (nth d xs i)=e):Sto d xs i e (bF xs i f):=⟨by simp [bF],fun i' c8=>by
 unfold bF
 by_cases e1:i'=i.toNat
 ·subst e1
  rw [if_pos rfl,← h]
  simp [List.getD,nth,List.getElem?_modify,c8]
 ·rw [if_neg e1];simp [List.getD,List.getElem?_modify,Ne.symm e1]⟩
def L1 (P:Program) (H:List (Nat×aW)) (t:TypeId) (x y:TA) (κ:cC→Option R):Option R:=
 match P.info? t,Bu H y with
 | some ti,some l=>if Nat.beq l.length ti.size then (match x with
  | .bp id off=>match aR H id with
   | some (.box l0)=>if (off+l.length).ble l0.length&&l.all (ZA H) then κ ⟨.lit undef,[(id,some (.box (Bm l0 off l)))],0⟩ else none
   | _=>none
  | .rp id i off=>match aR H id with
   | some (.row u v xs)=>if (off+l.length).ble (eR u)&&!v.d then (match rG (((FF u).drop off).take l.length) l with
    | some ds=>match LY u (((dK u (nth u.df xs i)).take off)++(ds++(dK u (nth u.df xs i)).drop (off+l.length))) with
     | some e=>match Nat.beq l.length (eR u) with
      | true=>κ ⟨.lit undef,[(id,some (.row u v (g8 xs i e)))],0⟩
      | false=>κ ⟨.lit undef,[(id,some (.row u v (bF xs i (aa_ u off l.length ds))))],0⟩
     | none=>none
    | none=>none) else none
   | _=>none
  | _=>none) else none
 | _,_=>none
theorem Ns {o:Oper} {s:bK} {κ:cC→Option R} {z:R} {x y:Operand} {t:TypeId} (ho:o.op=.store t x y) (hs:s.ok) (h:L1 P s.H t (s.val x) (s.val y) κ=some z):we P o s κ z:=by
 unfold L1 at h
 split at h
 ·rename_i ti l hi hl
  obtain ⟨hc,hw⟩:=xR hl (fX hs y)
  split at h
  ·rename_i fw
   have fw:=Nat.eq_of_beq_eq_true fw
   split at h
   ·rename_i id off hx
    split at h
    ·rename_i l0 hb
     split at h
     ·rename_i hc2
      simp only [Bool.and_eq_true] at hc2
      have hle:=Nat.le_of_ble_eq_true hc2.1
      have h1:=@b8 s x _ hx
      simp only [TA.av] at h1
      have M9:∀ b,b∈dJ s.H l→One b:=fun b cd=>by
       rw [cR] at cd
       obtain ⟨a,ha,rfl⟩:=List.mem_map.1 cd
       exact V5 (List.all_eq_true.1 hc2.2 a ha)
      have mO:=Q0 (P:=P) (l0:=dJ s.H l0) ho hi h1 (fQ s y) hc M9 (by rw [bE];exact fw) (dz hb) (by rw [bE,bE];exact hle)
      have hw2:gQ s.H s.N (Bm l0 off l):=cZ.2 fun a ha=>(S3 ha).elim (cZ.1 (hs.H id _ hb) a) (cZ.1 hw a)
      have e:Bm (dJ s.H l0) off (dJ s.H l)=dJ s.H (Bm l0 off l):=by rw [cR,cR,cR,S0]
      rw [e] at mO
      exact iO hs h mO (V6 hb) (by simp only [TA.av];exact gZ.refl _) (by simp only [TA.wf]) (IU (N:=s.N) (V6 hb) hw2) (fun l' e=>by cases e;exact hw2)
     ·cases h
    ·cases h
   ·rename_i id i off hx
    split at h
    ·rename_i u v xs hb
     split at h
     ·rename_i hle
      simp only [Bool.and_eq_true,Bool.not_eq_true'] at hle
      have hvd:=hle.2
      have hle:=Nat.le_of_ble_eq_true hle.1
      have hvc:∀ ys:List u.dn,bU v u ys=cy u ys:=fun ys=>by funext i j;simp only [bU,hvd]
      split at h
      ·rename_i ds rR
       split at h
       ·rename_i e he
        obtain ⟨ys,OS,h⟩:∃ ys,Sto u.df xs i e ys∧κ ⟨.lit undef,[(id,some (.row u v ys))],0⟩=some z:=by
         split at h
         ·exact ⟨_,V9,h⟩
         ·exact ⟨_,Re (by simp only [aa_,he]),h⟩
        obtain ⟨d1,d2,d3,d4⟩:=mJ rR
        have hwx:=fX hs x
        rw [hx] at hwx
        simp only [TA.wf] at hwx
        have dL:=hwx.2 u v xs.length (by rw [hb];rfl)
        have h1:=@b8 s x _ hx
        simp only [TA.av,hb] at h1
        have hlen:=eE u (nth u.df xs i)
        have hce:∀ j,(rk u e).getD j .top=((((dK u (nth u.df xs i)).take off)++(ds++(dK u (nth u.df xs i)).drop (off+l.length))).map cK).getD j .top:=fun j=>by
         rw [← e_,ez he]
        have S4:=OS.2
        have mO:=Q3 (P:=P) (v:=v.b) (m:=xs.length) (e:=cy u xs) (e':=cy u ys) ho hi h1 (fQ s y) hc
         (fun b cd=>by
          rw [cR] at cd
          obtain ⟨a,ha,rfl⟩:=List.mem_map.1 cd
          obtain ⟨k,hk,rfl⟩:=List.getElem_of_mem ha
          intro w F μ K v' J_
          have hv2:VR w F μ K ((l.getD k .top).av s.H) v':=by rw [getD_eq _ _ hk];exact J_
          have hk2:k < ds.length:=by omega
          have h5:(ds.map cK).getD k .top=cK ds[k]:=by simp [List.getD,hk2]
          exact IP (d3 _ (List.getElem_mem hk2)) (h5▸d4 s.H k hk hv2))
         (fun b cd=>by
          rw [cR] at cd
          obtain ⟨a,ha,rfl⟩:=List.mem_map.1 cd
          cases S5:D6 a with
          | true=>exact xS S5
          | false=>
           exfalso
           exact tx rR a ha S5)
         (by rw [bE];exact fw) (by rw [dz hb];simp only [aW.di,hvc]) dL (by rw [bE];exact hle)
         (fun k hk=>by
          rw [bE] at hk
          rw [dy _ _ _ hk]
          simp only [cy]
          rw [S4 _ dL,if_pos rfl,hce]
          have h6:((((dK u (nth u.df xs i)).take off)++(ds++(dK u (nth u.df xs i)).drop (off+l.length))).map cK).getD (off+k) .top=(ds.map cK).getD k .top:=by
           have h7:((dK u (nth u.df xs i)).take off).length=off:=by simp [hlen];omega
           simp only [List.getD,List.map_append]
           rw [List.getElem?_append_right (by simp only [List.length_map,h7];omega)]
           simp only [List.length_map,h7]
           rw [show off+k-off=k by omega,List.getElem?_append_left (by simp only [List.length_map];omega)]
          rw [h6]
          intro w1 F1 Kj K1 v1 Jm
          exact d4 s.H k hk Jm)
         (fun i' j' c8 lu hn=>by
          rw [bE] at hn
          simp only [cy]
          rw [S4 _ c8]
          split
          ·rename_i e1
           subst e1
           have hxe:xs.getD i.toNat u.df=nth u.df xs i:=rfl
           rw [hce,hxe,← e_]
           have h7:((dK u (nth u.df xs i)).take off).length=off:=by simp [hlen];omega
           simp only [List.getD,List.map_append]
           by_cases h8:j' < off
           ·rw [List.getElem?_append_left (by simp only [List.length_map,h7];exact h8)]
            simp [h8]
           ·have h9:off+l.length≤j':=by omega
            rw [List.getElem?_append_right (by simp only [List.length_map,h7];omega)]
            simp only [List.length_map,h7]
            rw [List.getElem?_append_right (by simp only [List.length_map];omega)]
            simp only [List.length_map,List.getElem?_map,List.getElem?_drop]
            congr 3;omega
          ·rfl)
        refine iO (B:=.row v.b (eR u) xs.length (cy u ys)) hs h mO (V7 hb OS.1.symm) (by simp only [TA.av];exact gZ.refl _) (by simp only [TA.wf]) ?_ (fun l' e=>by cases e)
        simp only [aW.di,hvc]
        rw [OS.1]
        exact eD.refl _
       ·cases h
      ·cases h
     ·cases h
    ·cases h
   ·cases h
  ·cases h
 ·cases h
end Go.Proofs.YtljfmaaadnoggaaGreatDoor.cU
