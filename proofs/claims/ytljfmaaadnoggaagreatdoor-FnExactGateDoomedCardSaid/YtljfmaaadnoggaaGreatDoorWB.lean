/- Iterators: what they yield, and that they keep their promise. No condition. -/
import Derived.Test.YtljfmaaadnoggaaGreatDoorWA
namespace Go.Proofs.YtljfmaaadnoggaaGreatDoor.cX
open Go Go.RowKit
variable {w w' xW:World} {F F' Cq O O' wx:Nat→Prop} {μ bC kZ:Nat→Nat} {K K' Gg:Nat→Prop} {ft b8:Nat→Nat→Prop} {P:Program}
def SM {α:Type} (y:α) (a b:Option (List α)):Option (List α):=match a,b with
 | some r,some []=>some (y::r)
 | _,_=>none
theorem WH {α:Type} {y:α} {a b:Option (List α)} {z:List α} (h:SM y a b=some z):∃ r,z=y::r∧a=some r∧b=some []:=by
 unfold SM at h
 split at h
 ·cases h;exact ⟨_,rfl,rfl,rfl⟩
 ·cases h
structure KsY (α:Type) where
 n:bQ→List Nat→Option (List α)
 x:Nat→bQ→List Nat→Option (List α)
 r:bQ→List Nat→Option (List α)
def ZH (Y:List Nat) (o:Oper):Option (List Operand):=match o.op with
 | .call ⟨.value (.tmp t),⟨args⟩,_⟩=>match yk Y t with
  | true=>some args
  | false=>none
 | _=>none
def ZI (Y:List Nat) (o:Oper):Bool:=match o.op with
 | .move (.tmp t)=>yk Y t
 | .assign (.tmp t)=>yk Y t
 | _=>false
def SD (Y:List Nat):Option Nat→List Nat
 | none=>Y
 | some d=>Y.filter fun t=>!Nat.beq t d
def aii (Y:List Nat):Option Nat→List Nat
 | none=>Y
 | some d=>d::Y
def NJ (E:Env) (bM:List CT) (ef:List Ty) (o:Oper) (s:bQ) (Y:List Nat) (b:Bool) (κ:bQ→List Nat→Option (List (Ad ef))):Option (List (Ad ef)):=
 match b with
 | false=>κ (s.put o.dst (.lit undef)) (SD Y o.dst)
 | true=>match ZH Y o with
  | some args=>match Gy s.H (ef.map .d) (args.map s.val) ⟨[],[]⟩ with
   | some (⟨[],[]⟩,ds)=>match oN ef ds with
    | some y=>SM y (κ (s.put o.dst (.d ⟨.bool,true⟩)) (SD Y o.dst)) (κ (s.put o.dst (.d ⟨.bool,false⟩)) (SD Y o.dst))
    | none=>none
   | _=>none
  | none=>match ZI Y o with
   | true=>κ (s.put o.dst .top) (aii Y o.dst)
   | false=>match GA s (MS E bM o s) with
    | ⟨nt,N,tm,H⟩=>evT E bM o ⟨nt,N,tm,H⟩ (fun r=>κ ((bQ.next ⟨nt,N,tm,H⟩ r).put o.dst r.v) (SD Y o.dst)) (fun _=>none)
def DI (E:Env) (bM:List CT) (ef:List Ty) (ops:Array Oper):List Oper→bQ→List Nat→(bQ→List Nat→Option (List (Ad ef)))→Option (List (Ad ef))
 | [],s,Y,κ=>κ s Y
 | o::rest,s,Y,κ=>match pc s o.dst with
  | true=>match Qp ops s o with
   | some .yes=>NJ E bM ef o s Y true fun s Y=>DI E bM ef ops rest s Y κ
   | some .no=>NJ E bM ef o s Y false fun s Y=>DI E bM ef ops rest s Y κ
   | some (.on t b c)=>cond b (NJ E bM ef o (s.GD t true) Y c fun s Y=>DI E bM ef ops rest s Y κ) (NJ E bM ef o (s.GD t false) Y (!c) fun s Y=>DI E bM ef ops rest s Y κ)
   | none=>none
  | false=>none
def CE (E:Env) (bM:Nat→List CT) (A:Ann) (ef:List Ty):Code→Nat→bQ→List Nat→KsY (Ad ef)→Option (List (Ad ef))
 | .skip,_,s,Y,ks=>ks.n s Y
 | .region _ ⟨ops⟩ false,k,s,Y,ks=>DI E (bM k) ef ⟨ops⟩ ops s Y ks.n
 | .seq x y,k,s,Y,ks=>CE E bM A ef x k s Y { ks with n:=fun s' Y'=>CE E bM A ef y k s' Y' ks }
 | .cond c x y,k,s,Y,ks=>match s.val c with
  | .d ⟨.bool,b⟩=>cond b (CE E bM A ef x k s Y ks) (CE E bM A ef y k s Y ks)
  | _=>none
 | .block id c,k,s,Y,ks=>CE E bM A ef c k s Y { ks with x:=fun i s' Y'=>match Nat.beq i id with
  | true=>ks.n s' Y'
  | false=>ks.x i s' Y' }
 | .loop c,k,s,Y,ks=>match aex A.loop c,yk Y 0 with
  | some f,true=>Ek f 0 (iter k fun k' rec=>GG f s.nt fun s'=>CE E bM A ef c k' s' [0] { ks with n:=fun s' Y'=>match yk Y' 0 with
   | true=>Ek f 0 rec s'
   | false=>none }) s
  | _,_=>none
 | .exit id,_,s,Y,ks=>ks.x id s Y
 | .ret,_,s,Y,ks=>ks.r s Y
 | _,_,_,_,_=>none
structure HY {α:Type} (J:List α→World→(Nat→Prop)→(Nat→Prop)→Prop) (yv:Value) (n0:Nat) (z:List α) (s:bQ) (Y:List Nat) (a:Act) (w:World) (F O:Nat→Prop) (μ:Nat→Nat) (ft:Nat→Nat→Prop):Prop where
 ok:s.ok
 nt:s.nt=n0
 df:a.defers=[]
 sr:SR w F O μ (below s.N) s.st ft a
 y:∀ t,yk Y t=true→a.tmps.getD t undef=yv
 j:J z w F O
def KsY.at {α:Type} (ks:KsY α) (z:List α) (e:Exit) (s:bQ) (Y:List Nat):Prop:=match e with
 | .normal=>ks.n s Y=some z
 | .exit i=>ks.x i s Y=some z
 | .ret=>ks.r s Y=some z
 | _=>False
def aff {α:Type} (ks:KsY α) (J:List α→World→(Nat→Prop)→(Nat→Prop)→Prop) (yv:Value) (n0:Nat):Exit→Act→World→Prop:=fun e a w=>
 ∃ z s Y F O μ ft,HY J yv n0 z s Y a w F O μ ft∧ks.at z e s Y
theorem GI {d t:Nat}:∀ {Y:List Nat},yk (Y.filter fun t=>!Nat.beq t d) t=true→yk Y t=true∧t≠d
 | [],h=>by cases h
 | i::r,h=>by
  simp only [List.filter_cons] at h
  cases e:Nat.beq i d with
  | true=>
   rw [e] at h
   obtain ⟨h1,h2⟩:=GI (d:=d) (Y:=r) (by simpa using h)
   refine ⟨?_,h2⟩
   simp only [yk]
   cases Nat.beq t i<;>simp [h1]
  | false=>
   rw [e] at h
   simp only [Bool.not_false,if_true,yk] at h ⊢
   cases e2:Nat.beq t i with
   | true=>
    rw [Nat.eq_of_beq_eq_true e2]
    exact ⟨rfl,Nat.ne_of_beq_eq_false e⟩
   | false=>
    rw [e2] at h
    exact GI h
theorem SE {a:Act} {d:Option Nat} {v:Value} {t:Nat} (h:d≠some t):(a.put d v).tmps.getD t undef=a.tmps.getD t undef:=by
 cases d with
 | none=>rfl
 | some d=>
  have:d≠t:=fun e=>h (by rw [e])
  simp [Act.put,Array.getElem?_setIfInBounds_ne this]
theorem UA {Y:List Nat} {a:Act} {d:Option Nat} {v yv:Value} (h:∀ t,yk Y t=true→a.tmps.getD t undef=yv):∀ t,yk (SD Y d) t=true→(a.put d v).tmps.getD t undef=yv:=fun t ht=>by
 cases d with
 | none=>exact h t ht
 | some d=>
  obtain ⟨h1,h2⟩:=GI ht
  rw [SE (fun e=>h2 (by simpa using e.symm))]
  exact h t h1
theorem QD {a:Act} {d:Option Nat} {v:Value} (h:a.defers=[]):(a.put d v).defers=[]:=by cases d<;>exact h
theorem Ly (s:bQ) (d:Option Nat) (v:TA):(s.put d v).nt=s.nt:=by cases d<;>rfl
theorem QE (s:bQ) (d:Option Nat) (v:TA):(s.put d v).N=s.N:=by cases d<;>rfl
theorem instL_ds:∀ {ts:List Ty} {ds:List cI} {as:List TA},instL id (ts.map wR.d) ds=some (as,[])→as=ds.map ET
 | [],ds,as,h=>by
  simp only [List.map_nil,instL,Option.some.injEq,Prod.mk.injEq] at h
  obtain ⟨h1,h2⟩:=h
  subst h1 h2
  rfl
 | t::ts,ds,as,h=>by
  simp only [List.map_cons,instL,instP] at h
  cases ds with
  | nil=>cases h
  | cons y ds=>
   simp only at h
   split at h
   ·rename_i a l h1
    split at h1
    ·cases h1
     split at h
     ·rename_i bs l' h2
      cases h
      rw [instL_ds h2];rfl
     ·cases h
    ·cases h1
   ·cases h
section
variable {E:Env} {ef:List Ty} {l:Nat} {J:List (Ad ef)→World→(Nat→Prop)→(Nat→Prop)→Prop}
def EU (l:Nat):Value:=.func (.yield l) ⟨[]⟩ ⟨[]⟩
theorem ac7 {bM:List CT} {o:Oper} {s:bQ} {Y:List Nat} {b:Bool} {κ:bQ→List Nat→Option (List (Ad ef))} {z:List (Ad ef)} {n0:Nat} {a:Act} {ops:Array Oper} {Kn:Act→World→Prop} {Q:Exit→Act→World→Prop} (hE:xZ E bM) (wq:aa7 J) (hrd:QA E.P l ef J)
  (h:NJ E bM ef o s Y b κ=some z) (hd:pc s o.dst=true) (hw:Region.wanted o (yielded ops a.tmps)=b) (hy:HY J (EU l) n0 z s Y a w F O μ ft)
  (hk:∀ z' s' Y' a' w' F' O' bC b8,κ s' Y'=some z'→HY J (EU l) n0 z' s' Y' a' w' F' O' bC b8→Kn a' w'):
  if Region.wanted o (yielded ops a.tmps) then o.wpIn (Wr none) 0 E.P a w Kn Q else (∀ f,o.about E.P w a.eval=some f→(Wr none).fn f)∧Kn (a.put o.dst undef) w:=by
 cases b with
 | false=>
  rw [hw]
  simp only [NJ] at h
  simp only [Bool.false_eq_true,if_false]
  refine ⟨fun _ _=>trivial,hk _ _ _ _ w F O μ ft h ⟨Bz hy.ok (by simp only [TA.wf]),by rw [Ly];exact hy.nt,QD hy.df,by rw [QE];exact JH hy.sr hd (by simp only [TA.av];exact .lit _),UA hy.y,hy.j⟩⟩
 | true=>
  rw [hw]
  simp only [if_true]
  simp only [NJ] at h
  split at h
  ·rename_i args hya
   split at h
   ·rename_i ds he
    split at h
    ·rename_i y hc
     obtain ⟨r,rfl,k1,k2⟩:=WH h
     unfold ZH at hya
     split at hya
     ·rename_i t ajV ts nA
      split at hya
      ·rename_i MO
       cases hya
       have hyv:a.eval (.tmp t)=EU l:=hy.y t MO
       obtain ⟨as,e1,e2⟩:=Qz he
       have CN:=e2 (Cx s args hy.sr)
       rw [instL_ds e1,cV,List.map_map] at CN
       have tC:(ds.map (TA.av [] ∘ ET))=(e_ ef y).map cN:=by
        rw [l8 hc]
        exact List.map_congr_left fun q _=>Ow [] q
       rw [tC] at CN
       obtain ⟨fn,tmps,x1,x2,mb,Ys⟩:=hrd y r w F O μ _ hy.j hy.sr.hr.wf3 CN
       refine ⟨fun _ _=>trivial,?_⟩
       rw [Oper.semAt_eq _ _ _ (by intro c hc';rw [nA] at hc';cases hc')]
       have hex:(execOp a.eval o).run E.P w=.ok (.round l fn tmps x1 x2) w:=by
        simp only [execOp,nA,resolve,hyv,EU,Deferred.ofValue,Sem.run_bind,Sem.run_pure,Result.andThen_ok,invoke]
        simpa using mb
       rw [hex]
       refine ⟨(fun h=>by cases h),RoundIn.mono Ys ?_⟩
       rintro e w' ⟨b,rfl,kp,hj⟩
       have iJ:SR w' F O μ (below s.N) s.st ft a:=⟨hy.sr.hr.kp kp,hy.sr.nt,fun t=>(hy.sr.tm t).kp hy.sr.hr kp,by rw [hy.df];exact wP.nil⟩
       cases b with
       | true=>exact hk r _ _ _ w' F O μ ft k1 ⟨Bz hy.ok (by simp only [TA.wf]),by rw [Ly];exact hy.nt,QD hy.df,by rw [QE];exact JH iJ hd (by simp only [TA.av,cN];exact .bool _),UA hy.y,hj⟩
       | false=>exact hk [] _ _ _ w' F O μ ft k2 ⟨Bz hy.ok (by simp only [TA.wf]),by rw [Ly];exact hy.nt,QD hy.df,by rw [QE];exact JH iJ hd (by simp only [TA.av,cN];exact .bool _),UA hy.y,hj⟩
      ·cases hya
     ·cases hya
    ·cases h
   ·cases h
  ·split at h
   ·rename_i hmv
    have key:∀ t,yk Y t=true→(o.op=.move (.tmp t)∨o.op=.assign (.tmp t))→o.wpIn (Wr none) 0 E.P a w Kn Q:=by
     intro t hm nA
     refine Wp (fun c hc=>by rcases nA with e | e<;>rw [e] at hc<;>cases hc) ?_
     unfold Oper.wp
     have hex:(execOp a.eval o).run E.P w=.ok (.value (a.eval (.tmp t))) w:=by rcases nA with e | e<;>simp [execOp,e]
     rw [hex,Oper.upon_value]
     refine hk z _ _ _ w F O μ ft h ⟨Bz hy.ok (by simp only [TA.wf]),by rw [Ly];exact hy.nt,QD hy.df,by rw [QE];exact JH hy.sr hd (by simp only [TA.av];exact .top _),fun t' ht'=>?_,hy.j⟩
     have hyv:a.eval (.tmp t)=EU l:=hy.y t hm
     cases Rx:o.dst with
     | none=>rw [Rx] at ht';exact hy.y t' ht'
     | some d=>
      rw [Rx] at ht' hd
      by_cases e:d=t'
      ·subst e
       have dQ:d < a.tmps.size:=by rw [hy.sr.nt];exact Nat.le_of_ble_eq_true hd
       rw [hyv]
       simp [Act.put,dQ]
      ·rw [SE (fun h=>e (by simpa using h))]
       refine hy.y t' ?_
       simp only [aii,yk,cl (show ¬ t'=d from fun h=>e h.symm)] at ht'
       exact ht'
    unfold ZI at hmv
    split at hmv
    ·rename_i t nA;exact key t hmv (.inl nA)
    ·rename_i t nA;exact key t hmv (.inr nA)
    ·cases hmv
   ·obtain ⟨z1,z2,z3,F1,O1,z4,z5⟩:=Un (MS E bM o s) hy.ok hy.sr
    have h:evT E bM o (GA s (MS E bM o s)) (fun r=>κ ((bQ.next (GA s (MS E bM o s)) r).put o.dst r.v) (SD Y o.dst)) (fun _=>none)=some z:=h
    have hd:pc (GA s (MS E bM o s)) o.dst=true:=by
     cases Rx:o.dst with
     | none=>rfl
     | some t=>rw [Rx] at hd;simp only [pc,z3] at hd ⊢;exact hd
    refine Wp (Yl h) ?_
    rcases Yh hE z1 h with ⟨r,h1,h2,h3⟩ | ⟨r,_,_,h3⟩
    ·refine Za h1 z4 fun v w' F' O' bC b8 k1 k2 k3=>?_
     have Ky:=TY z4 z1 h2 k2 k3
     have LF:=Lb z1 h2
     have PU:pc (bQ.next (GA s (MS E bM o s)) r) o.dst=true:=by cases Rx:o.dst<;>rw [Rx] at hd<;>exact hd
     refine hk z _ _ _ w' F' O' bC b8 h3 ⟨Bz LF h2.v,by rw [Ly];exact z3.trans hy.nt,QD hy.df,by rw [QE];exact JH Ky PU k1,UA hy.y,?_⟩
     exact wq _ _ _ _ _ _ _ _ _ _ (wq _ _ _ _ _ _ _ _ _ _ hy.j hy.sr.hr.wf3 z4.hr.wf3 z5) z4.hr.wf3 k2.wf3 k3
    ·cases h3
theorem SF {bM:List CT} {ops:Array Oper} {κ:bQ→List Nat→Option (List (Ad ef))} {n0:Nat} {Q:Exit→Act→World→Prop} (hE:xZ E bM) (wq:aa7 J) (hrd:QA E.P l ef J):∀ {lo:List Oper} {z:List (Ad ef)} {s:bQ} {Y:List Nat} {w:World} {F O:Nat→Prop} {μ:Nat→Nat} {ft:Nat→Nat→Prop} {a:Act},
  DI E bM ef ops lo s Y κ=some z→HY J (EU l) n0 z s Y a w F O μ ft→
  (∀ z' s' Y' a' w' F' O' bC b8,κ s' Y'=some z'→HY J (EU l) n0 z' s' Y' a' w' F' O' bC b8→Q .normal a' w')→wpListIn (Wr none) 0 E.P ops Q lo a w
 | [],z,s,Y,w,F,O,μ,ft,a,h,hy,hk=>by
  simp only [DI] at h
  exact hk z s Y a w F O μ ft h hy
 | o::rest,z,s,Y,w,F,O,μ,ft,a,h,hy,hk=>by
  simp only [DI] at h
  have go:∀ (s0:bQ) (b:Bool),NJ E bM ef o s0 Y b (fun s Y=>DI E bM ef ops rest s Y κ)=some z→pc s0 o.dst=true→HY J (EU l) n0 z s0 Y a w F O μ ft→Region.wanted o (yielded ops a.tmps)=b→wpListIn (Wr none) 0 E.P ops Q (o::rest) a w:=by
   intro s0 b h0 hd0 hy0 hw0
   exact ac7 (ops:=ops) hE wq hrd h0 hd0 hw0 hy0 fun z' s' Y' a' w' F' O' bC b8 QT hh=>SF hE wq hrd QT hh hk
  split at h
  ·rename_i hd
   split at h
   ·rename_i hw
    exact go s true h hd hy (pZ hy.sr hw)
   ·rename_i hw
    exact go s false h hd hy (pZ hy.sr hw)
   ·rename_i t b c hw
    have hl:=JT hw
    have hw':=pZ hy.sr hw
    simp only at hw'
    cases b with
    | true=>
     refine go _ c h hd ⟨Lq hy.ok,hy.nt,hy.df,Ox hy.sr hl,hy.y,hy.j⟩ ?_
     rw [hw'];cases c<;>rfl
    | false=>
     refine go _ (!c) h hd ⟨Lq hy.ok,hy.nt,hy.df,Ox hy.sr hl,hy.y,hy.j⟩ ?_
     rw [hw'];cases c<;>rfl
   ·cases h
  ·cases h
theorem WI {f:jR} {Jf:Oa f.ef (Option (List (Ad ef)))} {s:bQ} {Y:List Nat} {z:List (Ad ef)} {n0:Nat} {a:Act} (wq:aa7 J) (h:Ek f 0 Jf s=some z) (hm:yk Y 0=true) (hy:HY J (EU l) n0 z s Y a w F O μ ft):
  ∃ x s',zA f.ef Jf x=some z∧instF n0 f (e_ f.ef x)=some s'∧∃ F' O' bC b8,HY J (EU l) n0 z s' [0] a w F' O' bC b8:=by
 obtain ⟨x,s',h1,h2,F',O',bC,b8,hh⟩:=CC (n0:=(s.nt,0)) h hy.ok (Nat.zero_le _) ⟨rfl,fun _ _=>Nat.zero_le _⟩ hy.sr
 rw [hy.nt] at h2
 refine ⟨x,s',h1,h2,F',O',bC,b8,hh.ok,hh.nt.1.trans hy.nt,hy.df,hh.sr,fun t ht=>?_,wq _ _ _ _ _ _ _ _ _ _ hy.j hy.sr.hr.wf3 hh.sr.hr.wf3 hh.fr⟩
 have:t=0:=by
  simp only [yk] at ht
  split at ht
  ·rename_i e;exact Nat.eq_of_beq_eq_true e
  ·cases ht
 subst this
 exact hy.y 0 hm
theorem aeH {bM:Nat→List CT} {A:Ann} {K0:Nat} {n0:Nat} (hE:∀ k,k≤K0→xZ E (bM k)) (wq:aa7 J) (hrd:QA E.P l ef J):∀ (c:Code) (k:Nat) (z:List (Ad ef)) (s:bQ) (Y:List Nat) (ks:KsY (Ad ef)),CE E bM A ef c k s Y ks=some z→k≤K0→
  ∀ {w:World} {F O:Nat→Prop} {μ:Nat→Nat} {ft:Nat→Nat→Prop} {a:Act},HY J (EU l) n0 z s Y a w F O μ ft→c.wpIn (Wr none) 0 E.P (aff ks J (EU l) n0) a w:=by
 intro c
 induction c with
 | skip=>
  intro k z s Y ks h x5 w F O μ ft a hy
  exact wpIn_skip ⟨z,s,Y,F,O,μ,ft,hy,h⟩
 | label i=>intro k z s Y ks h;simp [CE] at h
 | goto i=>intro k z s Y ks h;simp [CE] at h
 | refuse i=>intro k z s Y ks h;simp [CE] at h
 | scope c ih=>intro k z s Y ks h;simp [CE] at h
 | rangeFunc f p x y ih1 ih2=>intro k z s Y ks h;simp [CE] at h
 | exit id=>
  intro k z s Y ks h x5 w F O μ ft a hy
  exact wpIn_exit ⟨z,s,Y,F,O,μ,ft,hy,h⟩
 | ret=>
  intro k z s Y ks h x5 w F O μ ft a hy
  exact wpIn_ret ⟨z,s,Y,F,O,μ,ft,hy,h⟩
 | region id ops draw=>
  intro k z s Y ks h x5 w F O μ ft a hy
  obtain ⟨ops⟩:=ops
  cases draw with
  | false=>
   simp only [CE] at h
   exact wpIn_region_list (SF (hE k x5) wq hrd h hy fun z' s' Y' a' w' F' O' bC b8 h1 h2=>⟨z',s',Y',F',O',bC,b8,h2,h1⟩)
  | true=>simp [CE] at h
 | seq x y ihx ihy=>
  intro k z s Y ks h x5 w F O μ ft a hy
  simp only [CE] at h
  refine wpIn_seq (Code.wpIn_mono ?_ (ihx k z s Y _ h x5 hy))
  rintro e a' w' ⟨z',s',Y',F',O',bC,b8,hh,hk⟩
  cases e with
  | normal=>exact ihy k z' s' Y' ks hk x5 hh
  | _=>exact ⟨z',s',Y',F',O',bC,b8,hh,hk⟩
 | cond c x y ihx ihy=>
  intro k z s Y ks h x5 w F O μ ft a hy
  simp only [CE] at h
  split at h
  ·rename_i b hb
   have hv:=b9 hb hy.sr
   simp only [TA.av,cN] at hv
   cases b with
   | true=>exact wpIn_cond_true hv.eR (ihx k z s Y ks h x5 hy)
   | false=>exact wpIn_cond_false hv.eR (ihy k z s Y ks h x5 hy)
  ·cases h
 | block id c ih=>
  intro k z s Y ks h x5 w F O μ ft a hy
  simp only [CE] at h
  refine wpIn_block (Code.wpIn_mono ?_ (ih k z s Y _ h x5 hy))
  rintro e a' w' ⟨z',s',Y',F',O',bC,b8,hh,hk⟩
  cases e with
  | exit cg=>
   simp only [KsY.at] at hk
   simp only [Exit.inBlock]
   split
   ·rename_i e
    subst e
    rw [Nat.beq_refl] at hk
    exact ⟨z',s',Y',F',O',bC,b8,hh,hk⟩
   ·rename_i e
    rw [cl e] at hk
    exact ⟨z',s',Y',F',O',bC,b8,hh,hk⟩
  | _=>exact ⟨z',s',Y',F',O',bC,b8,hh,hk⟩
 | loop c ih=>
  intro k z s Y ks h x5 w F O μ ft a hy
  simp only [CE] at h
  split at h
  ·rename_i f hf hm
   have key:∀ (k:Nat),k≤K0→∀ (z:List (Ad ef)) (x:Ad f.ef) (s':bQ),zA f.ef (iter k fun k' rec=>GG f s.nt fun s'=>CE E bM A ef c k' s' [0] { ks with n:=fun s' Y'=>match yk Y' 0 with
      | true=>Ek f 0 rec s'
      | false=>none }) x=some z→instF s.nt f (e_ f.ef x)=some s'→
     ∀ {w:World} {F O:Nat→Prop} {μ:Nat→Nat} {ft:Nat→Nat→Prop} {a:Act},HY J (EU l) n0 z s' [0] a w F O μ ft→Bb none E.P c (aff ks J (EU l) n0) a w:=by
    intro k
    induction k with
    | zero=>
     intro _ z x s' h1
     simp only [iter] at h1
     rw [yl] at h1
     cases h1
    | succ k ihk=>
     intro x5 z x s' h1 h2 w F O μ ft a hy'
     simp only [iter] at h1
     rw [CD h2] at h1
     refine Bb.round (Code.wpIn_mono ?_ (ih k z s' _ _ h1 (by omega) hy'))
     rintro e a' w' ⟨z',s2,Y2,F',O',bC,b8,hh,hk⟩
     cases e with
     | normal=>
      simp only [KsY.at] at hk
      split at hk
      ·rename_i hm2
       obtain ⟨x',s3,k1,k2,F2,O2,Ic,Nz,k3⟩:=WI wq hk hm2 hh
       exact ihk (by omega) z' x' s3 k1 (by rw [hy.nt];exact k2) k3
      ·cases hk
     | _=>exact ⟨z',s2,Y2,F',O',bC,b8,hh,hk⟩
   obtain ⟨x,s',h1,h2,F',O',bC,b8,h3⟩:=WI wq h hm hy
   exact (key k x5 z x s' h1 (by rw [hy.nt];exact h2) h3).wp
  ·cases h
end
def aij (E:Env) (bM:Nat→List CT) (A:Ann) (BD:List wR) (ef:List Ty) (nt:Nat) (code:Code) (k:Nat) (x:Ad (ES BD)):Option (List (Ad ef)):=
 match instL id BD (e_ _ x) with
 | some (as,[])=>match Nat.ble (as.length+1) nt&&ltL 0 BD with
  | true=>CE E bM A ef code k ⟨nt,0,MY 0 (.top::as),[]⟩ [0] ⟨fun _ _=>some [],fun _ _ _=>none,fun _ _=>some []⟩
  | false=>none
 | _=>none
theorem UM {E:Env} {bM:Nat→List CT} {A:Ann} {c:IT} {fn:Func} {code:Code} (k:Nat) (hE:∀ j,j≤k→xZ E (bM j)) (WC:∀ (xs:Array Value) (w:World),(callFunc c.f xs).run E.P w=.ok (.enter c.f xs) w)
  (hf:E.P.funcs[c.f]?=some fn) (hb:fn.body=some code) (hr:fn.results.toList=[]) (h:c.L=ZY _ (aij E bM A c.BD c.ef fn.ntmps code k)):L0 E.P c:=by
 refine ⟨WC,fun x xs hx as has w F μ us UH hwf aa8 l J wq hrd hj=>?_⟩
 rw [h,yl] at hx
 unfold aij at hx
 rw [has] at hx
 simp only at hx
 split at hx
 ·rename_i hg
  simp only [Bool.and_eq_true] at hg
  obtain ⟨hn,hl⟩:=hg
  have hn:=Nat.le_of_ble_eq_true hn
  have hv:iR w F μ (below 0) (dU [] (.top::as)) (EU l::us):=by
   simp only [dU,TA.av]
   exact .cons (.top _) ⟨UH.1,fun i hi=>(UH.2 i hi).up⟩
  have hr0:HR w F (fun _=>False) μ (below 0) (xX []) (fun _ _=>False):=
   { lt:=fun id h=>absurd h (by simp [below]),known:=fun id b h=>(by cases h),dw:=fun id b h=>(by cases h),self:=fun id ⟨b,h,_⟩=>(by cases h),own:=fun id _ x h=>h.elim,dj:=fun id cg ⟨b,h,_⟩=>(by cases h),z8:=fun _ h=>h.elim,wf:=hwf,rH:=fun _ h=>h.elim,pos:=aa8 }
  have hs:=WE (nt:=fn.ntmps) (N:=0) hr0 hv (by simpa using hn)
  have Eh:bQ.ok ⟨fn.ntmps,0,MY 0 (.top::as),[]⟩:=by
   have hw:=instL_wf (m:=0) (N:=0) (H:=[]) (fun j h=>h) has hl
   refine ⟨fun t=>?_,fun id l hl=>by cases hl⟩
   show (look (MY 0 (.top::as)) t).wf [] _
   rw [MZ]
   split
   ·exact Dz (l:=.top::as) (by simp only [iw,TA.wf];exact ⟨trivial,hw⟩) _
   ·simp only [TA.wf]
  have dQ:0 < fn.ntmps:=by omega
  have hy:HY J (EU l) fn.ntmps xs ⟨fn.ntmps,0,MY 0 (.top::as),[]⟩ [0] { tmps:=⟨EU l::us⟩++Array.replicate (fn.ntmps-(⟨EU l::us⟩:Array Value).size) undef,defers:=[] } w F (fun _=>False) μ (fun _ _=>False):=
   ⟨Eh,rfl,rfl,hs,fun t ht=>by
    have:t=0:=by
     simp only [yk] at ht
     split at ht
     ·rename_i e;exact Nat.eq_of_beq_eq_true e
     ·cases ht
    subst this
    simp [Array.getElem?_append],hj⟩
  refine callsIn_of_wp_marks hf hb trivial (Code.wpIn_mono ?_ (aeH (fun j hj=>hE j hj) wq hrd code k xs _ _ _ hx (Nat.le_refl _) hy))
  rintro e a' w' ⟨z,s',Y',F',O',bC,b8,hh,hk⟩
  have fin:z=[]→bodyPostM (Wr none) 0 E.P fn (fun e w'=>∃ v F' O',e=.returned v∧J [] w' F' O') .ret a' w':=by
   rintro rfl
   show LeavesInM _ _ _ _ _ _ a'.defers _ _
   rw [hh.df]
   obtain ⟨_,u,k1,_⟩:=QC (P:=E.P) (fn:=fn) hh.ok hh.sr (l:=[]) (by rw [hr];rfl)
   exact ⟨u,k1,u,F',O',rfl,hh.j⟩
  cases e with
  | normal=>exact fin (by simpa [KsY.at] using hk.symm)
  | ret=>exact fin (by simpa [KsY.at] using hk.symm)
  | exit i=>cases hk
  | goto i=>exact hk.elim
  | panic l=>exact hk.elim
  | outgrown=>exact hk.elim
 ·cases hx
end Go.Proofs.YtljfmaaadnoggaaGreatDoor.cX
