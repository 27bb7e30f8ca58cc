/- Iterators: what they yield, and that they keep their promise. No condition. -/
import Derived.Test.YtljfmaaadnoggaaWA
namespace Go.Proofs.Ytljfmaaadnoggaa.Abs
open Go Go.RowKit
variable {w w' w'':World} {F F' F'' O O' O'':Nat→Prop} {μ μ' μ'':Nat→Nat} {K K' K'':Nat→Prop} {ft ft':Nat→Nat→Prop} {P:Program}
def yieldC {α:Type} (y:α) (a b:Option (List α)):Option (List α):=match a,b with
 | some r,some []=>some (y::r)
 | _,_=>none
theorem yieldC_some {α:Type} {y:α} {a b:Option (List α)} {z:List α} (h:yieldC y a b=some z):∃ r,z=y::r∧a=some r∧b=some []:=by
 unfold yieldC at h
 split at h
 ·cases h;exact ⟨_,rfl,rfl,rfl⟩
 ·cases h
structure KsY (α:Type) where
 n:TSt→List Nat→Option (List α)
 x:Nat→TSt→List Nat→Option (List α)
 r:TSt→List Nat→Option (List α)
def isYield (Y:List Nat) (o:Oper):Option (List Operand):=match o.op with
 | .call ⟨.value (.tmp t),⟨args⟩,_⟩=>match memN Y t with
  | true=>some args
  | false=>none
 | _=>none
def isMoveY (Y:List Nat) (o:Oper):Bool:=match o.op with
 | .move (.tmp t)=>memN Y t
 | .assign (.tmp t)=>memN Y t
 | _=>false
def dropY (Y:List Nat):Option Nat→List Nat
 | none=>Y
 | some d=>Y.filter fun t=>!Nat.beq t d
def addY (Y:List Nat):Option Nat→List Nat
 | none=>Y
 | some d=>d::Y
def stepY (E:Env) (cts:List CT) (tys:List Ty) (o:Oper) (s:TSt) (Y:List Nat) (b:Bool) (κ:TSt→List Nat→Option (List (Tup tys))):Option (List (Tup tys)):=
 match b with
 | false=>κ (s.put o.dst (.lit undef)) (dropY Y o.dst)
 | true=>match isYield Y o with
  | some args=>match extL s.H (tys.map .d) (args.map s.val) ⟨[],[]⟩ with
   | some (⟨[],[]⟩,ds)=>match castTup tys ds with
    | some y=>yieldC y (κ (s.put o.dst (.d ⟨.bool,true⟩)) (dropY Y o.dst)) (κ (s.put o.dst (.d ⟨.bool,false⟩)) (dropY Y o.dst))
    | none=>none
   | _=>none
  | none=>match isMoveY Y o with
   | true=>κ (s.put o.dst .top) (addY Y o.dst)
   | false=>match frzs s (preT E cts o s) with
    | ⟨nt,N,tm,H⟩=>evT E cts o ⟨nt,N,tm,H⟩ (fun r=>κ ((TSt.next ⟨nt,N,tm,H⟩ r).put o.dst r.v) (dropY Y o.dst)) (fun _=>none)
def evSeqY (E:Env) (cts:List CT) (tys:List Ty) (ops:Array Oper):List Oper→TSt→List Nat→(TSt→List Nat→Option (List (Tup tys)))→Option (List (Tup tys))
 | [],s,Y,κ=>κ s Y
 | o::rest,s,Y,κ=>match okDst s o.dst with
  | true=>match wantT ops s o with
   | some .yes=>stepY E cts tys o s Y true fun s Y=>evSeqY E cts tys ops rest s Y κ
   | some .no=>stepY E cts tys o s Y false fun s Y=>evSeqY E cts tys ops rest s Y κ
   | some (.on t b c)=>cond b (stepY E cts tys o (s.know t true) Y c fun s Y=>evSeqY E cts tys ops rest s Y κ) (stepY E cts tys o (s.know t false) Y (!c) fun s Y=>evSeqY E cts tys ops rest s Y κ)
   | none=>none
  | false=>none
def denY (E:Env) (cts:Nat→List CT) (A:Ann) (tys:List Ty):Code→Nat→TSt→List Nat→KsY (Tup tys)→Option (List (Tup tys))
 | .skip,_,s,Y,ks=>ks.n s Y
 | .region _ ⟨ops⟩ false,k,s,Y,ks=>evSeqY E (cts k) tys ⟨ops⟩ ops s Y ks.n
 | .seq x y,k,s,Y,ks=>denY E cts A tys x k s Y { ks with n:=fun s' Y'=>denY E cts A tys y k s' Y' ks }
 | .cond c x y,k,s,Y,ks=>match s.val c with
  | .d ⟨.bool,b⟩=>cond b (denY E cts A tys x k s Y ks) (denY E cts A tys y k s Y ks)
  | _=>none
 | .block id c,k,s,Y,ks=>denY E cts A tys c k s Y { ks with x:=fun i s' Y'=>match Nat.beq i id with
  | true=>ks.n s' Y'
  | false=>ks.x i s' Y' }
 | .loop c,k,s,Y,ks=>match frAt A.loop c,memN Y 0 with
  | some f,true=>handT f 0 (iter k fun k' rec=>takeT f s.nt fun s'=>denY E cts A tys c k' s' [0] { ks with n:=fun s' Y'=>match memN Y' 0 with
   | true=>handT f 0 rec s'
   | false=>none }) s
  | _,_=>none
 | .exit id,_,s,Y,ks=>ks.x id s Y
 | .ret,_,s,Y,ks=>ks.r s Y
 | _,_,_,_,_=>none
structure HY {α:Type} (J:List α→World→(Nat→Prop)→(Nat→Prop)→Prop) (yv:Value) (n0:Nat) (z:List α) (s:TSt) (Y:List Nat) (a:Act) (w:World) (F O:Nat→Prop) (μ:Nat→Nat) (ft:Nat→Nat→Prop):Prop where
 ok:s.ok
 nt:s.nt=n0
 df:a.defers=[]
 sr:SR w F O μ (below s.N) s.st ft a
 y:∀ t,memN Y t=true→a.tmps.getD t undef=yv
 j:J z w F O
def KsY.at {α:Type} (ks:KsY α) (z:List α) (e:Exit) (s:TSt) (Y:List Nat):Prop:=match e with
 | .normal=>ks.n s Y=some z
 | .exit i=>ks.x i s Y=some z
 | .ret=>ks.r s Y=some z
 | _=>False
def PostY {α:Type} (ks:KsY α) (J:List α→World→(Nat→Prop)→(Nat→Prop)→Prop) (yv:Value) (n0:Nat):Exit→Act→World→Prop:=fun e a w=>
 ∃ z s Y F O μ ft,HY J yv n0 z s Y a w F O μ ft∧ks.at z e s Y
theorem memN_filter {d t:Nat}:∀ {Y:List Nat},memN (Y.filter fun t=>!Nat.beq t d) t=true→memN Y t=true∧t≠d
 | [],h=>by cases h
 | i::r,h=>by
  simp only [List.filter_cons] at h
  cases e:Nat.beq i d with
  | true=>
   rw [e] at h
   obtain ⟨h1,h2⟩:=memN_filter (d:=d) (Y:=r) (by simpa using h)
   refine ⟨?_,h2⟩
   simp only [memN]
   cases Nat.beq t i<;>simp [h1]
  | false=>
   rw [e] at h
   simp only [Bool.not_false,if_true,memN] at h ⊢
   cases e2:Nat.beq t i with
   | true=>
    rw [Nat.eq_of_beq_eq_true e2]
    exact ⟨rfl,Nat.ne_of_beq_eq_false e⟩
   | false=>
    rw [e2] at h
    exact memN_filter h
theorem put_other {a:Act} {d:Option Nat} {v:Value} {t:Nat} (h:d≠some t):(a.put d v).tmps.getD t undef=a.tmps.getD t undef:=by
 cases d with
 | none=>rfl
 | some d=>
  have:d≠t:=fun e=>h (by rw [e])
  simp [Act.put,Array.getElem?_setIfInBounds_ne this]
theorem drop_y {Y:List Nat} {a:Act} {d:Option Nat} {v yv:Value} (h:∀ t,memN Y t=true→a.tmps.getD t undef=yv):∀ t,memN (dropY Y d) t=true→(a.put d v).tmps.getD t undef=yv:=fun t ht=>by
 cases d with
 | none=>exact h t ht
 | some d=>
  obtain ⟨h1,h2⟩:=memN_filter ht
  rw [put_other (fun e=>h2 (by simpa using e.symm))]
  exact h t h1
theorem put_df {a:Act} {d:Option Nat} {v:Value} (h:a.defers=[]):(a.put d v).defers=[]:=by cases d<;>exact h
theorem put_nt' (s:TSt) (d:Option Nat) (v:TA):(s.put d v).nt=s.nt:=by cases d<;>rfl
theorem put_N' (s:TSt) (d:Option Nat) (v:TA):(s.put d v).N=s.N:=by cases d<;>rfl
theorem instL_ds:∀ {ts:List Ty} {ds:List Dyn} {as:List TA},instL id (ts.map Pat.d) ds=some (as,[])→as=ds.map dynT
 | [],ds,as,h=>by
  simp only [List.map_nil,instL,Option.some.injEq,Prod.mk.injEq] at h
  obtain ⟨h1,h2⟩:=h
  subst h1 h2
  rfl
 | t::ts,ds,as,h=>by
  simp only [List.map_cons,instL,instP] at h
  cases ds with
  | nil=>cases h
  | cons y ds=>
   simp only at h
   split at h
   ·rename_i a l h1
    split at h1
    ·cases h1
     split at h
     ·rename_i bs l' h2
      cases h
      rw [instL_ds h2];rfl
     ·cases h
    ·cases h1
   ·cases h
section
variable {E:Env} {tys:List Ty} {l:Nat} {J:List (Tup tys)→World→(Nat→Prop)→(Nat→Prop)→Prop}
def yvOf (l:Nat):Value:=.func (.yield l) ⟨[]⟩ ⟨[]⟩
theorem stepY_ok {cts:List CT} {o:Oper} {s:TSt} {Y:List Nat} {b:Bool} {κ:TSt→List Nat→Option (List (Tup tys))} {z:List (Tup tys)} {n0:Nat} {a:Act} {ops:Array Oper} {Kn:Act→World→Prop} {Q:Exit→Act→World→Prop} (hE:EnvOk E cts) (hst:Stab J) (hrd:Rounds E.P l tys J)
  (h:stepY E cts tys o s Y b κ=some z) (hd:okDst s o.dst=true) (hw:Region.wanted o (yielded ops a.tmps)=b) (hy:HY J (yvOf l) n0 z s Y a w F O μ ft)
  (hk:∀ z' s' Y' a' w' F' O' μ' ft',κ s' Y'=some z'→HY J (yvOf l) n0 z' s' Y' a' w' F' O' μ' ft'→Kn a' w'):
  if Region.wanted o (yielded ops a.tmps) then o.wpIn (Wr none) 0 E.P a w Kn Q else (∀ f,o.about E.P w a.eval=some f→(Wr none).fn f)∧Kn (a.put o.dst undef) w:=by
 cases b with
 | false=>
  rw [hw]
  simp only [stepY] at h
  simp only [Bool.false_eq_true,if_false]
  refine ⟨fun _ _=>trivial,hk _ _ _ _ w F O μ ft h ⟨put_ok hy.ok (by simp only [TA.wf]),by rw [put_nt'];exact hy.nt,put_df hy.df,by rw [put_N'];exact put_SR hy.sr hd (by simp only [TA.av];exact .lit _),drop_y hy.y,hy.j⟩⟩
 | true=>
  rw [hw]
  simp only [if_true]
  simp only [stepY] at h
  split at h
  ·rename_i args hya
   split at h
   ·rename_i ds he
    split at h
    ·rename_i y hc
     obtain ⟨r,rfl,k1,k2⟩:=yieldC_some h
     unfold isYield at hya
     split at hya
     ·rename_i t args' ts hop
      split at hya
      ·rename_i hmem
       cases hya
       have hyv:a.eval (.tmp t)=yvOf l:=hy.y t hmem
       obtain ⟨as,e1,e2⟩:=ext_closed he
       have hvs:=e2 (opds_val s args hy.sr)
       rw [instL_ds e1,avL_map,List.map_map] at hvs
       have hds:(ds.map (TA.av [] ∘ dynT))=(tupDyn tys y).map dav:=by
        rw [castTup_some hc]
        exact List.map_congr_left fun q _=>dynT_av [] q
       rw [hds] at hvs
       obtain ⟨fn,tmps,x1,x2,hrun,hround⟩:=hrd y r w F O μ _ hy.j hy.sr.hr.wf3 hvs
       refine ⟨fun _ _=>trivial,?_⟩
       rw [Oper.semAt_eq _ _ _ (by intro c hc';rw [hop] at hc';cases hc')]
       have hex:(execOp a.eval o).run E.P w=.ok (.round l fn tmps x1 x2) w:=by
        simp only [execOp,hop,resolve,hyv,yvOf,Deferred.ofValue,Sem.run_bind,Sem.run_pure,Result.andThen_ok,invoke]
        simpa using hrun
       rw [hex]
       refine ⟨(fun h=>by cases h),RoundIn.mono hround ?_⟩
       rintro e w' ⟨b,rfl,kp,hj⟩
       have hsr:SR w' F O μ (below s.N) s.st ft a:=⟨hy.sr.hr.kp kp,hy.sr.nt,fun t=>(hy.sr.tm t).kp hy.sr.hr kp,by rw [hy.df];exact DfOk.nil⟩
       cases b with
       | true=>exact hk r _ _ _ w' F O μ ft k1 ⟨put_ok hy.ok (by simp only [TA.wf]),by rw [put_nt'];exact hy.nt,put_df hy.df,by rw [put_N'];exact put_SR hsr hd (by simp only [TA.av,dav];exact .bool _),drop_y hy.y,hj⟩
       | false=>exact hk [] _ _ _ w' F O μ ft k2 ⟨put_ok hy.ok (by simp only [TA.wf]),by rw [put_nt'];exact hy.nt,put_df hy.df,by rw [put_N'];exact put_SR hsr hd (by simp only [TA.av,dav];exact .bool _),drop_y hy.y,hj⟩
      ·cases hya
     ·cases hya
    ·cases h
   ·cases h
  ·split at h
   ·rename_i hmv
    have key:∀ t,memN Y t=true→(o.op=.move (.tmp t)∨o.op=.assign (.tmp t))→o.wpIn (Wr none) 0 E.P a w Kn Q:=by
     intro t hm hop
     refine op_in (fun c hc=>by rcases hop with e | e<;>rw [e] at hc<;>cases hc) ?_
     unfold Oper.wp
     have hex:(execOp a.eval o).run E.P w=.ok (.value (a.eval (.tmp t))) w:=by rcases hop with e | e<;>simp [execOp,e]
     rw [hex,Oper.upon_value]
     refine hk z _ _ _ w F O μ ft h ⟨put_ok hy.ok (by simp only [TA.wf]),by rw [put_nt'];exact hy.nt,put_df hy.df,by rw [put_N'];exact put_SR hy.sr hd (by simp only [TA.av];exact .top _),fun t' ht'=>?_,hy.j⟩
     have hyv:a.eval (.tmp t)=yvOf l:=hy.y t hm
     cases hdst:o.dst with
     | none=>rw [hdst] at ht';exact hy.y t' ht'
     | some d=>
      rw [hdst] at ht' hd
      by_cases e:d=t'
      ·subst e
       have hlt:d < a.tmps.size:=by rw [hy.sr.nt];exact Nat.le_of_ble_eq_true hd
       rw [hyv]
       simp [Act.put,hlt]
      ·rw [put_other (fun h=>e (by simpa using h))]
       refine hy.y t' ?_
       simp only [addY,memN,nbeq_ne (show ¬ t'=d from fun h=>e h.symm)] at ht'
       exact ht'
    unfold isMoveY at hmv
    split at hmv
    ·rename_i t hop;exact key t hmv (.inl hop)
    ·rename_i t hop;exact key t hmv (.inr hop)
    ·cases hmv
   ·obtain ⟨z1,z2,z3,F1,O1,z4,z5⟩:=frzs_ok (preT E cts o s) hy.ok hy.sr
    have h:evT E cts o (frzs s (preT E cts o s)) (fun r=>κ ((TSt.next (frzs s (preT E cts o s)) r).put o.dst r.v) (dropY Y o.dst)) (fun _=>none)=some z:=h
    have hd:okDst (frzs s (preT E cts o s)) o.dst=true:=by
     cases hdst:o.dst with
     | none=>rfl
     | some t=>rw [hdst] at hd;simp only [okDst,z3] at hd ⊢;exact hd
    refine op_in (evT_nd h) ?_
    rcases evT_ok hE z1 h with ⟨r,h1,h2,h3⟩ | ⟨r,_,_,h3⟩
    ·refine tok_run h1 z4 fun v w' F' O' μ' ft' k1 k2 k3=>?_
     have hs':=next_SR z4 z1 h2 k2 k3
     have ho':=next_ok z1 h2
     have hd':okDst (TSt.next (frzs s (preT E cts o s)) r) o.dst=true:=by cases hdst:o.dst<;>rw [hdst] at hd<;>exact hd
     refine hk z _ _ _ w' F' O' μ' ft' h3 ⟨put_ok ho' h2.v,by rw [put_nt'];exact z3.trans hy.nt,put_df hy.df,by rw [put_N'];exact put_SR hs' hd' k1,drop_y hy.y,?_⟩
     exact hst _ _ _ _ _ _ _ _ _ _ (hst _ _ _ _ _ _ _ _ _ _ hy.j hy.sr.hr.wf3 z4.hr.wf3 z5) z4.hr.wf3 k2.wf3 k3
    ·cases h3
theorem evSeqY_ok {cts:List CT} {ops:Array Oper} {κ:TSt→List Nat→Option (List (Tup tys))} {n0:Nat} {Q:Exit→Act→World→Prop} (hE:EnvOk E cts) (hst:Stab J) (hrd:Rounds E.P l tys J):∀ {lo:List Oper} {z:List (Tup tys)} {s:TSt} {Y:List Nat} {w:World} {F O:Nat→Prop} {μ:Nat→Nat} {ft:Nat→Nat→Prop} {a:Act},
  evSeqY E cts tys ops lo s Y κ=some z→HY J (yvOf l) n0 z s Y a w F O μ ft→
  (∀ z' s' Y' a' w' F' O' μ' ft',κ s' Y'=some z'→HY J (yvOf l) n0 z' s' Y' a' w' F' O' μ' ft'→Q .normal a' w')→wpListIn (Wr none) 0 E.P ops Q lo a w
 | [],z,s,Y,w,F,O,μ,ft,a,h,hy,hk=>by
  simp only [evSeqY] at h
  exact hk z s Y a w F O μ ft h hy
 | o::rest,z,s,Y,w,F,O,μ,ft,a,h,hy,hk=>by
  simp only [evSeqY] at h
  have go:∀ (s0:TSt) (b:Bool),stepY E cts tys o s0 Y b (fun s Y=>evSeqY E cts tys ops rest s Y κ)=some z→okDst s0 o.dst=true→HY J (yvOf l) n0 z s0 Y a w F O μ ft→Region.wanted o (yielded ops a.tmps)=b→wpListIn (Wr none) 0 E.P ops Q (o::rest) a w:=by
   intro s0 b h0 hd0 hy0 hw0
   exact stepY_ok (ops:=ops) hE hst hrd h0 hd0 hw0 hy0 fun z' s' Y' a' w' F' O' μ' ft' hκ hh=>evSeqY_ok hE hst hrd hκ hh hk
  split at h
  ·rename_i hd
   split at h
   ·rename_i hw
    exact go s true h hd hy (wantT_ok hy.sr hw)
   ·rename_i hw
    exact go s false h hd hy (wantT_ok hy.sr hw)
   ·rename_i t b c hw
    have hl:=wantT_look hw
    have hw':=wantT_ok hy.sr hw
    simp only at hw'
    cases b with
    | true=>
     refine go _ c h hd ⟨know_ok hy.ok,hy.nt,hy.df,know_SR hy.sr hl,hy.y,hy.j⟩ ?_
     rw [hw'];cases c<;>rfl
    | false=>
     refine go _ (!c) h hd ⟨know_ok hy.ok,hy.nt,hy.df,know_SR hy.sr hl,hy.y,hy.j⟩ ?_
     rw [hw'];cases c<;>rfl
   ·cases h
  ·cases h
theorem handY_ok {f:Frame'} {Jf:Fn' f.tys (Option (List (Tup tys)))} {s:TSt} {Y:List Nat} {z:List (Tup tys)} {n0:Nat} {a:Act} (hst:Stab J) (h:handT f 0 Jf s=some z) (hm:memN Y 0=true) (hy:HY J (yvOf l) n0 z s Y a w F O μ ft):
  ∃ x s',appT f.tys Jf x=some z∧instF n0 f (tupDyn f.tys x)=some s'∧∃ F' O' μ' ft',HY J (yvOf l) n0 z s' [0] a w F' O' μ' ft':=by
 obtain ⟨x,s',h1,h2,F',O',μ',ft',hh⟩:=handT_ok (n0:=(s.nt,0)) h hy.ok (Nat.zero_le _) ⟨rfl,fun _ _=>Nat.zero_le _⟩ hy.sr
 rw [hy.nt] at h2
 refine ⟨x,s',h1,h2,F',O',μ',ft',hh.ok,hh.nt.1.trans hy.nt,hy.df,hh.sr,fun t ht=>?_,hst _ _ _ _ _ _ _ _ _ _ hy.j hy.sr.hr.wf3 hh.sr.hr.wf3 hh.fr⟩
 have:t=0:=by
  simp only [memN] at ht
  split at ht
  ·rename_i e;exact Nat.eq_of_beq_eq_true e
  ·cases ht
 subst this
 exact hy.y 0 hm
theorem denY_ok {cts:Nat→List CT} {A:Ann} {K0:Nat} {n0:Nat} (hE:∀ k,k≤K0→EnvOk E (cts k)) (hst:Stab J) (hrd:Rounds E.P l tys J):∀ (c:Code) (k:Nat) (z:List (Tup tys)) (s:TSt) (Y:List Nat) (ks:KsY (Tup tys)),denY E cts A tys c k s Y ks=some z→k≤K0→
  ∀ {w:World} {F O:Nat→Prop} {μ:Nat→Nat} {ft:Nat→Nat→Prop} {a:Act},HY J (yvOf l) n0 z s Y a w F O μ ft→c.wpIn (Wr none) 0 E.P (PostY ks J (yvOf l) n0) a w:=by
 intro c
 induction c with
 | skip=>
  intro k z s Y ks h hkk w F O μ ft a hy
  exact wpIn_skip ⟨z,s,Y,F,O,μ,ft,hy,h⟩
 | label i=>intro k z s Y ks h;simp [denY] at h
 | goto i=>intro k z s Y ks h;simp [denY] at h
 | refuse i=>intro k z s Y ks h;simp [denY] at h
 | scope c ih=>intro k z s Y ks h;simp [denY] at h
 | rangeFunc f p x y ih1 ih2=>intro k z s Y ks h;simp [denY] at h
 | exit id=>
  intro k z s Y ks h hkk w F O μ ft a hy
  exact wpIn_exit ⟨z,s,Y,F,O,μ,ft,hy,h⟩
 | ret=>
  intro k z s Y ks h hkk w F O μ ft a hy
  exact wpIn_ret ⟨z,s,Y,F,O,μ,ft,hy,h⟩
 | region id ops draw=>
  intro k z s Y ks h hkk w F O μ ft a hy
  obtain ⟨ops⟩:=ops
  cases draw with
  | false=>
   simp only [denY] at h
   exact wpIn_region_list (evSeqY_ok (hE k hkk) hst hrd h hy fun z' s' Y' a' w' F' O' μ' ft' h1 h2=>⟨z',s',Y',F',O',μ',ft',h2,h1⟩)
  | true=>simp [denY] at h
 | seq x y ihx ihy=>
  intro k z s Y ks h hkk w F O μ ft a hy
  simp only [denY] at h
  refine wpIn_seq (Code.wpIn_mono ?_ (ihx k z s Y _ h hkk hy))
  rintro e a' w' ⟨z',s',Y',F',O',μ',ft',hh,hk⟩
  cases e with
  | normal=>exact ihy k z' s' Y' ks hk hkk hh
  | _=>exact ⟨z',s',Y',F',O',μ',ft',hh,hk⟩
 | cond c x y ihx ihy=>
  intro k z s Y ks h hkk w F O μ ft a hy
  simp only [denY] at h
  split at h
  ·rename_i b hb
   have hv:=opd_at hb hy.sr
   simp only [TA.av,dav] at hv
   cases b with
   | true=>exact wpIn_cond_true hv.bool_inv (ihx k z s Y ks h hkk hy)
   | false=>exact wpIn_cond_false hv.bool_inv (ihy k z s Y ks h hkk hy)
  ·cases h
 | block id c ih=>
  intro k z s Y ks h hkk w F O μ ft a hy
  simp only [denY] at h
  refine wpIn_block (Code.wpIn_mono ?_ (ih k z s Y _ h hkk hy))
  rintro e a' w' ⟨z',s',Y',F',O',μ',ft',hh,hk⟩
  cases e with
  | exit id'=>
   simp only [KsY.at] at hk
   simp only [Exit.inBlock]
   split
   ·rename_i e
    subst e
    rw [Nat.beq_refl] at hk
    exact ⟨z',s',Y',F',O',μ',ft',hh,hk⟩
   ·rename_i e
    rw [nbeq_ne e] at hk
    exact ⟨z',s',Y',F',O',μ',ft',hh,hk⟩
  | _=>exact ⟨z',s',Y',F',O',μ',ft',hh,hk⟩
 | loop c ih=>
  intro k z s Y ks h hkk w F O μ ft a hy
  simp only [denY] at h
  split at h
  ·rename_i f hf hm
   have key:∀ (k:Nat),k≤K0→∀ (z:List (Tup tys)) (x:Tup f.tys) (s':TSt),appT f.tys (iter k fun k' rec=>takeT f s.nt fun s'=>denY E cts A tys c k' s' [0] { ks with n:=fun s' Y'=>match memN Y' 0 with
      | true=>handT f 0 rec s'
      | false=>none }) x=some z→instF s.nt f (tupDyn f.tys x)=some s'→
     ∀ {w:World} {F O:Nat→Prop} {μ:Nat→Nat} {ft:Nat→Nat→Prop} {a:Act},HY J (yvOf l) n0 z s' [0] a w F O μ ft→LoopW none E.P c (PostY ks J (yvOf l) n0) a w:=by
    intro k
    induction k with
    | zero=>
     intro _ z x s' h1
     simp only [iter] at h1
     rw [appT_curT] at h1
     cases h1
    | succ k ihk=>
     intro hkk z x s' h1 h2 w F O μ ft a hy'
     simp only [iter] at h1
     rw [takeT_app h2] at h1
     refine LoopW.round (Code.wpIn_mono ?_ (ih k z s' _ _ h1 (by omega) hy'))
     rintro e a' w' ⟨z',s2,Y2,F',O',μ',ft',hh,hk⟩
     cases e with
     | normal=>
      simp only [KsY.at] at hk
      split at hk
      ·rename_i hm2
       obtain ⟨x',s3,k1,k2,F2,O2,μ2,ft2,k3⟩:=handY_ok hst hk hm2 hh
       exact ihk (by omega) z' x' s3 k1 (by rw [hy.nt];exact k2) k3
      ·cases hk
     | _=>exact ⟨z',s2,Y2,F',O',μ',ft',hh,hk⟩
   obtain ⟨x,s',h1,h2,F',O',μ',ft',h3⟩:=handY_ok hst h hm hy
   exact (key k hkk z x s' h1 (by rw [hy.nt];exact h2) h3).wp
  ·cases h
end
def denI (E:Env) (cts:Nat→List CT) (A:Ann) (caps:List Pat) (tys:List Ty) (nt:Nat) (code:Code) (k:Nat) (x:Tup (tysL caps)):Option (List (Tup tys)):=
 match instL id caps (tupDyn _ x) with
 | some (as,[])=>match Nat.ble (as.length+1) nt&&ltL 0 caps with
  | true=>denY E cts A tys code k ⟨nt,0,argT 0 (.top::as),[]⟩ [0] ⟨fun _ _=>some [],fun _ _ _=>none,fun _ _=>some []⟩
  | false=>none
 | _=>none
theorem iter_of_den {E:Env} {cts:Nat→List CT} {A:Ann} {c:IT} {fn:Func} {code:Code} (k:Nat) (hE:∀ j,j≤k→EnvOk E (cts j)) (hcall:∀ (xs:Array Value) (w:World),(callFunc c.f xs).run E.P w=.ok (.enter c.f xs) w)
  (hf:E.P.funcs[c.f]?=some fn) (hb:fn.body=some code) (hr:fn.results.toList=[]) (h:c.L=curT _ (denI E cts A c.caps c.tys fn.ntmps code k)):IterOk E.P c:=by
 refine ⟨hcall,fun x xs hx as has w F μ us hus hwf hpos l J hst hrd hj=>?_⟩
 rw [h,appT_curT] at hx
 unfold denI at hx
 rw [has] at hx
 simp only at hx
 split at hx
 ·rename_i hg
  simp only [Bool.and_eq_true] at hg
  obtain ⟨hn,hl⟩:=hg
  have hn:=Nat.le_of_ble_eq_true hn
  have hv:VRs w F μ (below 0) (avL [] (.top::as)) (yvOf l::us):=by
   simp only [avL,TA.av]
   exact .cons (.top _) ⟨hus.1,fun i hi=>(hus.2 i hi).up⟩
  have hr0:HR w F (fun _=>False) μ (below 0) (hpT []) (fun _ _=>False):=
   { lt:=fun id h=>absurd h (by simp [below]),known:=fun id b h=>(by cases h),blk:=fun id b h=>(by cases h),self:=fun id ⟨b,h,_⟩=>(by cases h),own:=fun id _ x h=>h.elim,dj:=fun id id' ⟨b,h,_⟩=>(by cases h),nof:=fun _ h=>h.elim,wf:=hwf,owf:=fun _ h=>h.elim,pos:=hpos }
  have hs:=entry_SR (nt:=fn.ntmps) (N:=0) hr0 hv (by simpa using hn)
  have hok:TSt.ok ⟨fn.ntmps,0,argT 0 (.top::as),[]⟩:=by
   have hw:=instL_wf (m:=0) (N:=0) (H:=[]) (fun j h=>h) has hl
   refine ⟨fun t=>?_,fun id l hl=>by cases hl⟩
   show (look (argT 0 (.top::as)) t).wf [] _
   rw [look_argT]
   split
   ·exact getD_wf (l:=.top::as) (by simp only [wfL,TA.wf];exact ⟨trivial,hw⟩) _
   ·simp only [TA.wf]
  have hlt:0 < fn.ntmps:=by omega
  have hy:HY J (yvOf l) fn.ntmps xs ⟨fn.ntmps,0,argT 0 (.top::as),[]⟩ [0] { tmps:=⟨yvOf l::us⟩++Array.replicate (fn.ntmps-(⟨yvOf l::us⟩:Array Value).size) undef,defers:=[] } w F (fun _=>False) μ (fun _ _=>False):=
   ⟨hok,rfl,rfl,hs,fun t ht=>by
    have:t=0:=by
     simp only [memN] at ht
     split at ht
     ·rename_i e;exact Nat.eq_of_beq_eq_true e
     ·cases ht
    subst this
    simp [Array.getElem?_append],hj⟩
  refine callsIn_of_wp_marks hf hb trivial (Code.wpIn_mono ?_ (denY_ok (fun j hj=>hE j hj) hst hrd code k xs _ _ _ hx (Nat.le_refl _) hy))
  rintro e a' w' ⟨z,s',Y',F',O',μ',ft',hh,hk⟩
  have fin:z=[]→bodyPostM (Wr none) 0 E.P fn (fun e w'=>∃ v F' O',e=.returned v∧J [] w' F' O') .ret a' w':=by
   rintro rfl
   show LeavesInM _ _ _ _ _ _ a'.defers _ _
   rw [hh.df]
   obtain ⟨_,u,k1,_⟩:=results_ok (P:=E.P) (fn:=fn) hh.ok hh.sr (l:=[]) (by rw [hr];rfl)
   exact ⟨u,k1,u,F',O',rfl,hh.j⟩
  cases e with
  | normal=>exact fin (by simpa [KsY.at] using hk.symm)
  | ret=>exact fin (by simpa [KsY.at] using hk.symm)
  | exit i=>cases hk
  | goto i=>exact hk.elim
  | panic l=>exact hk.elim
  | outgrown=>exact hk.elim
 ·cases hx
end Go.Proofs.Ytljfmaaadnoggaa.Abs
