/- The evaluator of operations: memory: loads, stores, variables, rows; that it is sound. No condition. -/
import Derived.Test.YtljfmaaadnoggaaVJ
set_option linter.unusedSimpArgs false
set_option linter.unusedVariables false
namespace Go.Proofs.Ytljfmaaadnoggaa.Abs
open Go Go.RowKit
variable {w w' w'':World} {F F' F'' O O' O'':Nat→Prop} {μ μ' μ'':Nat→Nat} {K K' K'':Nat→Prop} {ft ft':Nat→Nat→Prop} {P:Program} {R:Type}
def rdT (H:List (Nat×TBlk)) (a:TA) (n:Nat):Option (List TA):=
 match a with
 | .fp t x off=>if (off+n).ble (tsz t) then some ((((tget t x).drop off).take n).map .d) else none
 | .bp id off=>match lookH H id with
  | some (.box l)=>if (off+n).ble l.length then some ((l.drop off).take n) else none
  | _=>none
 | .rp id i off=>match lookH H id with
  | some (.row t v xs)=>if (off+n).ble (tsz t)&&!(v.d&&slIn t off n) then some ((((tget t (nth t.df xs i)).drop off).take n).map .d) else none
  | some (.hrow t v xs _ os)=>if (off+n).ble (tsz t)&&(!(v.d&&slIn t off n)&&(List.range n).all fun k=>(holOf os (off+k)).isNone) then some ((((tget t (nth t.df xs i)).drop off).take n).map .d) else none
  | _=>none
 | _=>none
theorem dt_get {l:List Dyn} {off n k:Nat} (hk:k < n) (h:off+n≤l.length):((((l.drop off).take n).map TA.d).getD k .top)=.d (l[off+k]'(by omega)):=by
 simp [List.getD,hk,List.getElem?_take,List.getElem?_drop,show off+k < l.length by omega]
theorem tcells_get {t:Ty} {x:t.dn} {k:Nat} (h:k < (tget t x).length):(tcells t x).getD k .top=dav ((tget t x)[k]):=by
 rw [← tget_cells];simp [List.getD,h]
theorem getD_eq (l:List TA) (k:Nat) (h:k < l.length):l.getD k .top=l[k]:=by simp [List.getD,h]
theorem range_map_eq {n:Nat} {c:Nat→AV} {H:List (Nat×TBlk)} {l:List TA} (hl:l.length=n) (h:∀ k,k < n→c k=(l.getD k .top).av H):(List.range n).map c=avL H l:=by
 rw [avL_map]
 refine List.ext_getElem (by simp [hl]) fun k h1 h2=>?_
 have hk:k < l.length:=by simpa using h2
 simp only [List.getElem_map,List.getElem_range]
 rw [h k (by omega),getD_eq _ _ hk]
theorem rdT_ok {s:TSt} (hs:s.ok) {x:Operand} {n:Nat} {l:List TA} (h:rdT s.H (s.val x) n=some l):l.length=n∧wfL s.H s.N l∧∃ c,Rdb s.st x n c∧∀ k,k < n→c k=(l.getD k .top).av s.H:=by
 unfold rdT at h
 split at h
 ·rename_i t y off hx
  split at h
  ·rename_i hb
   have hb:=Nat.le_of_ble_eq_true hb
   cases h
   have hlen:=tget_length t y
   refine ⟨by simp [hlen];omega,wfL_iff.2 fun a ha=>?_,_,rdb_fp (@opd_at s x _ hx) hb,fun k hk=>?_⟩
   ·obtain ⟨d,_,rfl⟩:=List.mem_map.1 ha
    simp only [TA.wf]
   ·rw [dt_get hk (by omega)]
    simp only [TA.av]
    exact tcells_get (by omega)
  ·cases h
 ·rename_i id off hx
  split at h
  ·rename_i l0 hl0
   split at h
   ·rename_i hb
    have hb:=Nat.le_of_ble_eq_true hb
    cases h
    have hw:wfL s.H s.N l0:=hs.H id _ hl0
    have h1:=@opd_at s x _ hx
    simp only [TA.av] at h1
    refine ⟨by simp;omega,wfL_iff.2 fun a ha=>wfL_iff.1 hw a (List.mem_of_mem_drop (List.mem_of_mem_take ha)),_,rdb_bp (l:=avL s.H l0) h1 (st_at hl0) (by rw [avL_length];exact hb),fun k hk=>?_⟩
    rw [avL_getD _ _ _ (by omega)]
    congr 1
    simp [List.getD,hk,List.getElem?_take,List.getElem?_drop]
   ·cases h
  ·cases h
 ·rename_i id i off hx
  split at h
  ·rename_i t v xs hb0
   split at h
   ·rename_i hb
    simp only [Bool.and_eq_true,Bool.not_eq_true'] at hb
    have hp:v.d=true→slIn t off n=false:=fun h=>by have:=hb.2;rw [h,Bool.true_and] at this;exact this
    have hb:=Nat.le_of_ble_eq_true hb.1
    cases h
    have hw:=val_wf hs x
    rw [hx] at hw
    simp only [TA.wf] at hw
    have hi:=hw.2 t v xs.length (by rw [hb0];rfl)
    have hlen:=tget_length t (nth t.df xs i)
    have h1:=@opd_at s x _ hx
    simp only [TA.av,hb0] at h1
    refine ⟨by simp [hlen];omega,wfL_iff.2 fun a ha=>?_,_,rdb_rp (v:=v.b) (e:=vcells v t xs) (m:=xs.length) h1 (st_at hb0) hi hb (fun k hk=>by rw [vcells_plain hp hk];exact rcells_noos _ _ _ _),fun k hk=>?_⟩
    ·obtain ⟨d,_,rfl⟩:=List.mem_map.1 ha
     simp only [TA.wf]
    ·rw [dt_get hk (by omega),vcells_plain hp hk]
     simp only [TA.av]
     exact tcells_get (t:=t) (x:=nth t.df xs i) (by omega)
   ·cases h
  ·rename_i t v xs i0 os hb0
   split at h
   ·rename_i hb
    simp only [Bool.and_eq_true,Bool.not_eq_true'] at hb
    have hp:v.d=true→slIn t off n=false:=fun h=>by have:=hb.2.1;rw [h,Bool.true_and] at this;exact this
    have hno:∀ k,k < n→holOf os (off+k)=none:=fun k hk=>by
     have:=List.all_eq_true.1 hb.2.2 k (List.mem_range.2 hk)
     simpa using this
    have hb:=Nat.le_of_ble_eq_true hb.1
    cases h
    have hw:=val_wf hs x
    rw [hx] at hw
    simp only [TA.wf] at hw
    have hi:=hw.2 t v xs.length (by rw [hb0];rfl)
    have hlen:=tget_length t (nth t.df xs i)
    have h1:=@opd_at s x _ hx
    simp only [TA.av,hb0] at h1
    have hc:∀ k,k < n→hcells s.H v t xs i0 os i.toNat (off+k)=rcells t xs i.toNat (off+k):=fun k hk=>by
     simp only [hcells,hno k hk,vcells_plain hp hk,ite_self]
    refine ⟨by simp [hlen];omega,wfL_iff.2 fun a ha=>?_,_,rdb_hrp (v:=v.b) (e:=hcells s.H v t xs i0 os) (m:=xs.length) h1 (st_at hb0) hi hb (fun k hk=>by rw [hc k hk];exact rcells_noos _ _ _ _),fun k hk=>?_⟩
    ·obtain ⟨d,_,rfl⟩:=List.mem_map.1 ha
     simp only [TA.wf]
    ·rw [dt_get hk (by omega),hc k hk]
     simp only [TA.av]
     exact tcells_get (t:=t) (x:=nth t.df xs i) (by omega)
   ·cases h
  ·cases h
 ·cases h
def evLoad (P:Program) (H:List (Nat×TBlk)) (t:TypeId) (x:TA) (κ:TRes→Option R):Option R:=
 match P.underlying t,P.info? t with
 | some d,some i=>if aggD d then (match rdT H x i.size with
   | some l=>κ ⟨.agg l,[],0⟩
   | none=>none) else (match rdT H x 1 with
   | some [a]=>κ ⟨a,[],0⟩
   | _=>none)
 | _,_=>none
theorem evLoad_ok {o:Oper} {s:TSt} {κ:TRes→Option R} {z:R} {x:Operand} {t:TypeId} (ho:o.op=.load t x) (hs:s.ok) (h:evLoad P s.H t (s.val x) κ=some z):EvR P o s κ z:=by
 unfold evLoad at h
 split at h
 ·rename_i d i hd hi
  split at h
  ·rename_i ha
   split at h
   ·rename_i l hl
    obtain ⟨h1,h2,c,h3,h4⟩:=rdT_ok hs hl
    refine evr_eq h ?_ (by simp only [TA.wf];exact h2)
    have:=op_load_agg (P:=P) ho hd hi ha h3
    rw [range_map_eq h1 h4] at this
    simpa only [TA.av] using this
   ·cases h
  ·rename_i ha
   split at h
   ·rename_i a hl
    obtain ⟨h1,h2,c,h3,h4⟩:=rdT_ok hs hl
    simp only [wfL] at h2
    have:=op_load_one (P:=P) ho hd (by simpa using ha) h3
    rw [h4 0 (by omega)] at this
    exact evr_eq h this h2.1
   ·cases h
 ·cases h
def partT (P:Program) (t:TypeId) (cs:List TA) (off:Nat):Option TA:=
 match P.underlying t,P.info? t with
 | some d,some i=>if aggD d then some (.agg ((cs.drop off).take i.size)) else if off.blt cs.length then some (cs.getD off .top) else none
 | _,_=>none
def evField (P:Program) (t:TypeId) (x:TA) (k:Nat) (κ:TRes→Option R):Option R:=
 match x,fieldOf P t k with
 | .agg l,some f=>match partT P f.type l f.offset with
  | some r=>κ ⟨r,[],0⟩
  | none=>none
 | _,_=>none
theorem evField_ok {o:Oper} {s:TSt} {κ:TRes→Option R} {z:R} {x:Operand} {t:TypeId} {k:Nat} (ho:o.op=.field t x k) (hs:s.ok) (h:evField P t (s.val x) k κ=some z):EvR P o s κ z:=by
 unfold evField at h
 split at h
 ·rename_i l f hx hf
  split at h
  ·rename_i r hr
   have h1:=@opd_at s x _ hx
   simp only [TA.av] at h1
   have hw:=val_wf hs x
   rw [hx] at hw
   simp only [TA.wf] at hw
   unfold partT at hr
   split at hr
   ·rename_i d i hd hi
    split at hr
    ·rename_i ha
     cases hr
     refine evr_val h (op_field ho h1 hf (r:=.agg (((avL s.H l).drop f.offset).take i.size)) (by simp only [partA,hd,hi,ha,if_true])) ?_ ?_
     ·simp only [TA.av,avL_map,List.map_take,List.map_drop]
      exact Imp.refl _
     ·simp only [TA.wf]
      exact wfL_iff.2 fun a ha=>wfL_iff.1 hw a (List.mem_of_mem_drop (List.mem_of_mem_take ha))
    ·rename_i ha
     split at hr
     ·rename_i hlt
      cases hr
      have hlt':f.offset < l.length:=Nat.le_of_ble_eq_true (by simpa [Nat.blt] using hlt)
      refine evr_val h (op_field ho h1 hf (r:=(avL s.H l).getD f.offset .top) (by simp only [partA,hd,hi,if_neg ha];rw [if_pos (by rw [avL_length];exact hlt)])) ?_ (getD_wf hw _)
      rw [avL_getD _ _ _ hlt']
      exact Imp.refl _
     ·cases hr
   ·cases hr
  ·cases h
 ·cases h
def oneT (H:List (Nat×TBlk)):TA→Bool
 | .top | .agg _ | .tup _=>false
 | .lit v=>v.oneCell'
 | .d y=>y.t.leaf
 | .ow id=>match lookH H id with
  | some (.row _ _ _)=>true
  | _=>false
 | .rp id _ _=>match lookH H id with
  | some (.row _ _ _)=>true
  | _=>false
 | _=>true
theorem oneT_ok {H:List (Nat×TBlk)} {a:TA} (h:oneT H a=true):One (a.av H):=by
 intro w F μ K v hv
 cases a with
 | top=>cases h
 | agg=>cases h
 | tup=>cases h
 | lit u=>simp only [TA.av] at hv;rw [hv.lit_inv];exact h
 | d y=>simp only [TA.av] at hv;exact dav_one h hv
 | nils=>simp only [TA.av] at hv;rw [hv.nils_inv];rfl
 | fp t x off=>simp only [TA.av] at hv;cases hv;rfl
 | ow id=>
  simp only [oneT] at h
  split at h
  ·rename_i t v' xs hb
   simp only [TA.av,hb] at hv
   rcases rowAV_cap hv with ⟨⟨_,rfl⟩,_⟩ | ⟨cap,sz,t,rfl,_⟩<;>rfl
  ·cases h
 | bs id n esz=>simp only [TA.av] at hv;cases hv;rfl
 | bp id off=>simp only [TA.av] at hv;cases hv;rfl
 | rp id i off=>
  simp only [oneT] at h
  split at h
  ·rename_i t v' xs hb
   simp only [TA.av,hb] at hv
   cases hv;rfl
  ·cases h
 | mp id=>simp only [TA.av] at hv;cases hv;rfl
 | ifc t a=>simp only [TA.av] at hv;cases hv;rfl
 | fn f xs ys=>simp only [TA.av] at hv;cases hv;rfl
def cellsTA (H:List (Nat×TBlk)):TA→Option (List TA)
 | .agg cs=>some cs
 | a=>if oneT H a then some [a] else none
theorem cellsTA_ok {H:List (Nat×TBlk)} {N:Nat} {a:TA} {l:List TA} (h:cellsTA H a=some l) (hw:a.wf H N):CellsV (a.av H) (avL H l)∧wfL H N l:=by
 unfold cellsTA at h
 split at h
 ·cases h
  simp only [TA.wf] at hw
  exact ⟨by simp only [TA.av];exact cellsV_agg _,hw⟩
 ·split at h
  ·rename_i h1
   cases h
   exact ⟨by simp only [avL];exact cellsV_one (oneT_ok h1),by simp only [wfL];exact ⟨hw,trivial⟩⟩
  ·cases h
theorem updH_one (H:List (Nat×TBlk)) (id0:Nat) (b:TBlk) (id:Nat):lookH (updH H [(id0,some b)]) id=if id=id0 then some b else lookH H id:=by
 simp only [updH,lookH]
 cases e:Nat.beq id id0 with
 | true=>rw [if_pos (Nat.eq_of_beq_eq_true e)]
 | false=>rw [if_neg (Nat.ne_of_beq_eq_false e)]
theorem sub_new {H:List (Nat×TBlk)} {N:Nat} {b:TBlk}:Sub H (updH H [(N,some b)]) N:=sub_put (L:=[]) fun h=>absurd h (by omega)
theorem sub_box {H:List (Nat×TBlk)} {N id0:Nat} {l l0:List TA} (hb:lookH H id0=some (.box l0)):Sub H (updH H [(id0,some (.box l))]) N:=sub_put (L:=[]) fun _=>by rw [hb];rfl
theorem sub_row {H:List (Nat×TBlk)} {N id0:Nat} {t:Ty} {v:RV} {xs xs':List t.dn} (hb:lookH H id0=some (.row t v xs)) (hl:xs.length=xs'.length):Sub H (updH H [(id0,some (.row t v xs'))]) N:=
 sub_put (L:=[]) fun _=>by rw [hb];simp only [shp,hl]
def TBlk.isH:TBlk→Bool
 | .hrow _ _ _ _ _=>true
 | _=>false
theorem evr_put {o:Oper} {s:TSt} {κ:TRes→Option R} {z:R} {rv:AV} {v:TA} {id0 k:Nat} {b:TBlk} {B:Blk} (hs:s.ok) (hk:κ ⟨v,[(id0,some b)],k⟩=some z) (h:OpOk P o s.st ⟨rv,[(id0,some B)],List.range' s.N k⟩)
  (hsub:Sub s.H (updH s.H [(id0,some b)]) s.N) (hv:Imp rv (v.av (updH s.H [(id0,some b)]))) (hw:v.wf (updH s.H [(id0,some b)]) (s.N+k)) (hB:BImp B (b.blk (updH s.H [(id0,some b)])))
  (hbw:∀ l,b=.box l→wfL s.H s.N l) (hnh:b.isH=false:=by rfl):EvR P o s κ z:=by
 refine ⟨⟨v,[(id0,some b)],k⟩,tok_put (L:=[]) hs h hsub hv hB,⟨hsub,hw,fun id l hl=>?_⟩,hk⟩
 simp only [List.mem_singleton,Prod.mk.injEq,Option.some.injEq] at hl
 have hr:wfL s.H s.N b.refs:=by
  cases b with
  | box l=>exact hbw l rfl
  | hrow=>cases hnh
  | _=>simp only [TBlk.refs,wfL]
 rw [hl.2]
 exact (avL_sub hsub (Nat.le_add_right _ _) _ hr).2
theorem bimp_sub {H H':List (Nat×TBlk)} {N:Nat} {l:List TA} (h:Sub H H' N) (hw:wfL H N l):BImp (.box (avL H l)) ((TBlk.box l).blk H'):=by
 simp only [TBlk.blk,(avL_sub h (Nat.le_refl _) l hw).1]
 exact BImp.refl _
def evBox (s:TSt) (x:TA) (κ:TRes→Option R):Option R:=
 match cellsTA s.H x with
 | some l=>κ ⟨.bp s.N 0,[(s.N,some (.box l))],1⟩
 | none=>none
theorem evBox_ok {o:Oper} {s:TSt} {κ:TRes→Option R} {z:R} {x:Operand} {t:TypeId} (ho:o.op=.box t x) (hs:s.ok) (h:evBox s (s.val x) κ=some z):EvR P o s κ z:=by
 unfold evBox at h
 split at h
 ·rename_i l hl
  obtain ⟨h1,h2⟩:=cellsTA_ok hl (val_wf hs x)
  exact evr_put hs h (op_box (N:=s.N) ho (opd_val s x) h1) sub_new (by simp only [TA.av];exact Imp.refl _) (by simp only [TA.wf]) (bimp_sub (N:=s.N) sub_new h2) (fun l' e=>by cases e;exact h2)
 ·cases h
def zeroT (P:Program) (t:TypeId):Option (List TA):=
 match P.info? t with
 | some i=>match i.zero with
  | some z=>some (z.cells.toList.map cst)
  | none=>none
 | none=>none
theorem cst_wf (H:List (Nat×TBlk)) (N:Nat) (v:Value):(cst v).wf H N:=by
 unfold cst
 split<;>simp [TA.wf,wfL]
theorem zeroT_ok {t:TypeId} {l:List TA} (h:zeroT P t=some l) (H:List (Nat×TBlk)) (N:Nat):zeroA P t=some (avL H l)∧wfL H N l:=by
 unfold zeroT at h
 unfold zeroA
 split at h
 ·rename_i i hi
  split at h
  ·rename_i z hz
   cases h
   refine ⟨?_,wfL_iff.2 fun a ha=>?_⟩
   ·rw [hi]
    simp only [hz,avL_map,List.map_map,Option.some.injEq]
    exact List.map_congr_left fun v _=>(cst_av H v).symm
   ·obtain ⟨v,_,rfl⟩:=List.mem_map.1 ha
    exact cst_wf H N v
  ·cases h
 ·cases h
def evAlloc (P:Program) (s:TSt) (t:TypeId) (κ:TRes→Option R):Option R:=
 match zeroT P t with
 | some l=>κ ⟨.bp s.N 0,[(s.N,some (.box l))],1⟩
 | none=>none
theorem evAlloc_ok {o:Oper} {s:TSt} {κ:TRes→Option R} {z:R} {t:TypeId} (ho:o.op=.alloc t) (hs:s.ok) (h:evAlloc P s t κ=some z):EvR P o s κ z:=by
 unfold evAlloc at h
 split at h
 ·rename_i l hl
  obtain ⟨h1,h2⟩:=zeroT_ok hl s.H s.N
  exact evr_put hs h (op_alloc (N:=s.N) ho h1) sub_new (by simp only [TA.av];exact Imp.refl _) (by simp only [TA.wf]) (bimp_sub (N:=s.N) sub_new h2) (fun l' e=>by cases e;exact h2)
 ·cases h
theorem setL_map {α β:Type} (f:α→β) (l:List α) (o:Nat) (r:List α):(setL l o r).map f=setL (l.map f) o (r.map f):=by
 induction r generalizing l o with
 | nil=>rfl
 | cons x r ih=>simp only [setL,List.map_cons,ih,List.map_set]
theorem setL_mem {α:Type} {l:List α} {o:Nat} {r:List α} {a:α} (h:a∈setL l o r):a∈l∨a∈r:=by
 induction r generalizing l o with
 | nil=>exact .inl h
 | cons x r ih=>
  simp only [setL] at h
  rcases ih h with h | h
  ·rcases List.mem_or_eq_of_mem_set h with h | h
   ·exact .inl h
   ·exact .inr (by simp [h])
  ·exact .inr (by simp [h])
def leafOf:TA→Bool
 | .d y=>y.t.leaf
 | .nils=>true
 | _=>false
theorem clo_leafOf {H:List (Nat×TBlk)} {a:TA} (h:leafOf a=true):Clo (a.av H):=by
 unfold leafOf at h
 split at h
 ·simp only [TA.av];exact fun hv=>dav_clo h hv
 ·simp only [TA.av];exact fun hv=>by rw [hv.nils_inv];exact .nils
 ·cases h
theorem leafD_leafOf {t:Ty} {a:TA} {y:Dyn} (h:leafD t a=some y):leafOf a=true:=by
 unfold leafD at h
 split at h
 ·split at h
  ·split at h
   ·rename_i h1;exact h1
   ·cases h
  ·cases h
 ·rfl
 ·cases h
theorem leafDs_leafOf:∀ {ts:List Ty} {l:List TA} {r:List Dyn},leafDs ts l=some r→∀ a,a∈l→leafOf a≠false
 | [],[],r,h,a,ha=>by cases ha
 | [],_::_,r,h,_,_=>by cases h
 | _::_,[],r,h,a,ha=>by cases ha
 | t::ts,b::l,r,h,a,ha=>by
  simp only [leafDs] at h
  split at h
  ·rename_i y r' hy hr
   rcases List.mem_cons.1 ha with e | e
   ·rw [e,leafD_leafOf hy];simp
   ·exact leafDs_leafOf hr a e
  ·cases h
def mod' {α:Type} (xs:List α) (i:Int) (f:α→α):List α:=xs.modify i.toNat f
def layE (u:Ty) (off n:Nat) (ds:List Dyn) (x:u.dn):u.dn:=match bld u (((tget u x).take off)++(ds++(tget u x).drop (off+n))) with
 | some y=>y
 | none=>x
def Sto {α:Type} (d:α) (xs:List α) (i:Int) (e:α) (ys:List α):Prop:=ys.length=xs.length∧∀ i',i' < xs.length→ys.getD i' d=if i'=i.toNat then e else xs.getD i' d
theorem sto_put {α:Type} {d:α} {xs:List α} {i:Int} {e:α}:Sto d xs i e (put' xs i e):=⟨by simp [put'],fun i' hi'=>by
 unfold put'
 by_cases e1:i'=i.toNat
 ·subst e1;simp [List.getD,hi']
 ·rw [if_neg e1];simp [List.getD,List.getElem?_set_ne (Ne.symm e1)]⟩
theorem sto_mod {α:Type} {d:α} {xs:List α} {i:Int} {e:α} {f:α→α} (h:f (nth d xs i)=e):Sto d xs i e (mod' xs i f):=⟨by simp [mod'],fun i' hi'=>by
 unfold mod'
 by_cases e1:i'=i.toNat
 ·subst e1
  rw [if_pos rfl,← h]
  simp [List.getD,nth,List.getElem?_modify,hi']
 ·rw [if_neg e1];simp [List.getD,List.getElem?_modify,Ne.symm e1]⟩
def evStore (P:Program) (H:List (Nat×TBlk)) (t:TypeId) (x y:TA) (κ:TRes→Option R):Option R:=
 match P.info? t,cellsTA H y with
 | some ti,some l=>if Nat.beq l.length ti.size then (match x with
  | .bp id off=>match lookH H id with
   | some (.box l0)=>if (off+l.length).ble l0.length&&l.all (oneT H) then κ ⟨.lit undef,[(id,some (.box (setL l0 off l)))],0⟩ else none
   | _=>none
  | .rp id i off=>match lookH H id with
   | some (.row u v xs)=>if (off+l.length).ble (tsz u)&&!v.d then (match leafDs (((tlts u).drop off).take l.length) l with
    | some ds=>match bld u (((tget u (nth u.df xs i)).take off)++(ds++(tget u (nth u.df xs i)).drop (off+l.length))) with
     | some e=>match Nat.beq l.length (tsz u) with
      | true=>κ ⟨.lit undef,[(id,some (.row u v (put' xs i e)))],0⟩
      | false=>κ ⟨.lit undef,[(id,some (.row u v (mod' xs i (layE u off l.length ds))))],0⟩
     | none=>none
    | none=>none) else none
   | _=>none
  | _=>none) else none
 | _,_=>none
theorem evStore_ok {o:Oper} {s:TSt} {κ:TRes→Option R} {z:R} {x y:Operand} {t:TypeId} (ho:o.op=.store t x y) (hs:s.ok) (h:evStore P s.H t (s.val x) (s.val y) κ=some z):EvR P o s κ z:=by
 unfold evStore at h
 split at h
 ·rename_i ti l hi hl
  obtain ⟨hc,hw⟩:=cellsTA_ok hl (val_wf hs y)
  split at h
  ·rename_i hsz
   have hsz:=Nat.eq_of_beq_eq_true hsz
   split at h
   ·rename_i id off hx
    split at h
    ·rename_i l0 hb
     split at h
     ·rename_i hc2
      simp only [Bool.and_eq_true] at hc2
      have hle:=Nat.le_of_ble_eq_true hc2.1
      have h1:=@opd_at s x _ hx
      simp only [TA.av] at h1
      have hone:∀ b,b∈avL s.H l→One b:=fun b hb'=>by
       rw [avL_map] at hb'
       obtain ⟨a,ha,rfl⟩:=List.mem_map.1 hb'
       exact oneT_ok (List.all_eq_true.1 hc2.2 a ha)
      have hop:=op_store_box (P:=P) (l0:=avL s.H l0) ho hi h1 (opd_val s y) hc hone (by rw [avL_length];exact hsz) (st_at hb) (by rw [avL_length,avL_length];exact hle)
      have hw2:wfL s.H s.N (setL l0 off l):=wfL_iff.2 fun a ha=>(setL_mem ha).elim (wfL_iff.1 (hs.H id _ hb) a) (wfL_iff.1 hw a)
      have e:setL (avL s.H l0) off (avL s.H l)=avL s.H (setL l0 off l):=by rw [avL_map,avL_map,avL_map,setL_map]
      rw [e] at hop
      exact evr_put hs h hop (sub_box hb) (by simp only [TA.av];exact Imp.refl _) (by simp only [TA.wf]) (bimp_sub (N:=s.N) (sub_box hb) hw2) (fun l' e=>by cases e;exact hw2)
     ·cases h
    ·cases h
   ·rename_i id i off hx
    split at h
    ·rename_i u v xs hb
     split at h
     ·rename_i hle
      simp only [Bool.and_eq_true,Bool.not_eq_true'] at hle
      have hvd:=hle.2
      have hle:=Nat.le_of_ble_eq_true hle.1
      have hvc:∀ ys:List u.dn,vcells v u ys=rcells u ys:=fun ys=>by funext i j;simp only [vcells,hvd]
      split at h
      ·rename_i ds hds
       split at h
       ·rename_i e he
        obtain ⟨ys,hsto,h⟩:∃ ys,Sto u.df xs i e ys∧κ ⟨.lit undef,[(id,some (.row u v ys))],0⟩=some z:=by
         split at h
         ·exact ⟨_,sto_put,h⟩
         ·exact ⟨_,sto_mod (by simp only [layE,he]),h⟩
        obtain ⟨d1,d2,d3,d4⟩:=leafDs_some hds
        have hwx:=val_wf hs x
        rw [hx] at hwx
        simp only [TA.wf] at hwx
        have hlt:=hwx.2 u v xs.length (by rw [hb];rfl)
        have h1:=@opd_at s x _ hx
        simp only [TA.av,hb] at h1
        have hlen:=tget_length u (nth u.df xs i)
        have hce:∀ j,(tcells u e).getD j .top=((((tget u (nth u.df xs i)).take off)++(ds++(tget u (nth u.df xs i)).drop (off+l.length))).map dav).getD j .top:=fun j=>by
         rw [← tget_cells,bld_some he]
        have hput:=hsto.2
        have hop:=op_store_row (P:=P) (v:=v.b) (m:=xs.length) (e:=rcells u xs) (e':=rcells u ys) ho hi h1 (opd_val s y) hc
         (fun b hb'=>by
          rw [avL_map] at hb'
          obtain ⟨a,ha,rfl⟩:=List.mem_map.1 hb'
          obtain ⟨k,hk,rfl⟩:=List.getElem_of_mem ha
          intro w F μ K v' hv'
          have hv2:VR w F μ K ((l.getD k .top).av s.H) v':=by rw [getD_eq _ _ hk];exact hv'
          have hk2:k < ds.length:=by omega
          have h5:(ds.map dav).getD k .top=dav ds[k]:=by simp [List.getD,hk2]
          exact dav_one (d3 _ (List.getElem_mem hk2)) (h5▸d4 s.H k hk hv2))
         (fun b hb'=>by
          rw [avL_map] at hb'
          obtain ⟨a,ha,rfl⟩:=List.mem_map.1 hb'
          cases cloT:leafOf a with
          | true=>exact clo_leafOf cloT
          | false=>
           exfalso
           exact leafDs_leafOf hds a ha cloT)
         (by rw [avL_length];exact hsz) (by rw [st_at hb];simp only [TBlk.blk,hvc]) hlt (by rw [avL_length];exact hle)
         (fun k hk=>by
          rw [avL_length] at hk
          rw [avL_getD _ _ _ hk]
          simp only [rcells]
          rw [hput _ hlt,if_pos rfl,hce]
          have h6:((((tget u (nth u.df xs i)).take off)++(ds++(tget u (nth u.df xs i)).drop (off+l.length))).map dav).getD (off+k) .top=(ds.map dav).getD k .top:=by
           have h7:((tget u (nth u.df xs i)).take off).length=off:=by simp [hlen];omega
           simp only [List.getD,List.map_append]
           rw [List.getElem?_append_right (by simp only [List.length_map,h7];omega)]
           simp only [List.length_map,h7]
           rw [show off+k-off=k by omega,List.getElem?_append_left (by simp only [List.length_map];omega)]
          rw [h6]
          intro w1 F1 μ1 K1 v1 hv1
          exact d4 s.H k hk hv1)
         (fun i' j' hi' hj' hn=>by
          rw [avL_length] at hn
          simp only [rcells]
          rw [hput _ hi']
          split
          ·rename_i e1
           subst e1
           have hxe:xs.getD i.toNat u.df=nth u.df xs i:=rfl
           rw [hce,hxe,← tget_cells]
           have h7:((tget u (nth u.df xs i)).take off).length=off:=by simp [hlen];omega
           simp only [List.getD,List.map_append]
           by_cases h8:j' < off
           ·rw [List.getElem?_append_left (by simp only [List.length_map,h7];exact h8)]
            simp [h8]
           ·have h9:off+l.length≤j':=by omega
            rw [List.getElem?_append_right (by simp only [List.length_map,h7];omega)]
            simp only [List.length_map,h7]
            rw [List.getElem?_append_right (by simp only [List.length_map];omega)]
            simp only [List.length_map,List.getElem?_map,List.getElem?_drop]
            congr 3;omega
          ·rfl)
        refine evr_put (B:=.row v.b (tsz u) xs.length (rcells u ys)) hs h hop (sub_row hb hsto.1.symm) (by simp only [TA.av];exact Imp.refl _) (by simp only [TA.wf]) ?_ (fun l' e=>by cases e)
        simp only [TBlk.blk,hvc]
        rw [hsto.1]
        exact BImp.refl _
       ·cases h
      ·cases h
     ·cases h
    ·cases h
   ·cases h
  ·cases h
 ·cases h
end Go.Proofs.Ytljfmaaadnoggaa.Abs
